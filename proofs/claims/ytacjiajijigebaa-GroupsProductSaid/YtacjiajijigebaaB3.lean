/- What is left of a number of twice as many words, as the evaluator is told of it. No condition. -/
import Derived.Laws.MakeOwn
import Derived.Lib.AppendZeros
import Derived.Laws.IdiomStrings
import Derived.ProofKit
import Derived.KernelRfl
import Derived.ChangeArms
import Derived.Test.YtacjiajijigebaaB2
namespace Go.Ev
open Go
variable {P : Program} {S : Nat → Prop} {w0 : World} {ts : List AV} {mem : List Blk}

/-- What is appended or copied: m elements of sz cells, of whose cells h tells. -/
structure Src (P : Program) (g : GM) (w : World) (v : Value) (sz m : Nat) (h : Nat → CV) (news : List Value) : Prop where
  len : ∀ w', (Builtin.lenOf v).run P w' = .ok m w'
  get : ∀ (n : Nat) (w' : World), n ≤ m → w'.heap = w.heap → (Builtin.firstCells sz n v).run P w' = .ok (news.take (n * sz)).toArray w'
  size : news.length = m * sz
  rel : ∀ j u, news[j]? = some u → u.oneCell' = true ∧ (h j).rel g u

theorem Src.all {g : GM} {w : World} {v : Value} {sz m : Nat} {h : Nat → CV} {news : List Value} (s : Src P g w v sz m h news) (w' : World) (hw : w'.heap = w.heap) : (Builtin.firstCells sz m v).run P w' = .ok news.toArray w' := by
  rw [s.get m w' (Nat.le_refl _) hw, ← s.size, List.take_length]

theorem cell_heap {w w' : World} (h : w'.heap = w.heap) (a : Addr) : w'.cell? a = w.cell? a := by unfold World.cell?; rw [h]

theorem src_cells {g : GM} {w : World} {ad : Addr} {sz m c : Nat} {h : Nat → CV} {news : List Value} (hl : news.length = m * sz) (hc : ∀ j u, news[j]? = some u → w.cell? (ad.add j) = some u)
    (hr : ∀ j u, news[j]? = some u → u.oneCell' = true ∧ (h j).rel g u) : Src P g w (.slice (some ad) m c) sz m h news :=
  ⟨fun w' => rfl, fun n w' hn hw => run_firstCells_some (P := P) w' sz n ad m c (news.take (n * sz)) (by rw [List.length_take, hl]; exact Nat.min_eq_left (Nat.mul_le_mul_right _ hn))
    (fun j u hj => by
      rw [List.getElem?_take] at hj
      split at hj
      · rw [cell_heap hw]; exact hc j u hj
      · cases hj), hl, hr⟩

theorem src_nil {g : GM} {w : World} {ad : Option Addr} {sz c : Nat} {h : Nat → CV} : Src P g w (.slice ad 0 c) sz 0 h [] := by
  refine ⟨fun w' => rfl, fun n w' hn _ => ?_, by simp, fun j u hj => by simp at hj⟩
  obtain rfl : n = 0 := by omega
  cases ad with
  | none => simp [Builtin.firstCells]
  | some ad =>
    rw [List.take_nil]
    exact run_firstCells_some (P := P) w' sz 0 ad 0 c [] (by simp) (fun j u hj => by simp at hj)

theorem src_string {g : GM} {w : World} (s : ByteArray) {h : Nat → CV} (hh : ∀ j (hj : j < s.size), h j = .int .u8 (Int.ofNat (s[j]'hj).toNat)) :
    Src P g w (.string s) 1 s.size h (s.data.toList.map fun b => .int .u8 b.toNat) := by
  refine ⟨fun w' => rfl, fun n w' hn _ => ?_, by simp, fun j u hj => ?_⟩
  · simp only [Builtin.firstCells, Sem.run_pure]
    congr 1
    apply Array.toList_inj.1
    simp [Nat.mul_one]
  · rw [List.getElem?_map, Option.map_eq_some_iff] at hj
    obtain ⟨b, hb, rfl⟩ := hj
    obtain ⟨hlt, hb⟩ := List.getElem?_eq_some_iff.1 hb
    refine ⟨rfl, ?_⟩
    have hlt' : j < s.size := by simpa using hlt
    rw [hh j hlt']
    have e : s[j]'hlt' = b := by rw [← hb]; rfl
    refine ⟨by rw [e]; rfl, ?_⟩
    have : (s[j]'hlt').toNat < 256 := UInt8.toNat_lt _
    show IntKind.min .u8 ≤ _ ∧ _ ≤ IntKind.max .u8
    rw [show IntKind.min .u8 = 0 from rfl, show IntKind.max .u8 = 255 from rfl]
    simp only [Int.ofNat_eq_natCast]
    omega

/-- A slice of a row of cells as a source. -/
theorem src_own {g : GM} {w : World} {l off i m c : Nat} {v : Value} (hv : (CV.sl l off i m c).rel g v) {k : Blk} (hb : ∀ b, g l = some b → BlkRel S w0 g w b k) {n : Nat} {f : Nat → CV} {r : List Ch} (hr : dropCh k.1 off = some (.vec n f :: r))
    {sz : Nat} (hm : i + m * sz ≤ n) : ∃ news, Src P g w v sz m (fun j => f (i + j)) news := by
  rcases hv with ⟨rfl, rfl, ad, rfl⟩ | ⟨_, cap, _, _, b, hgb, _, rfl⟩
  · exact ⟨[], src_nil⟩
  · obtain ⟨pre, e1, e2⟩ := dropCh_ok _ _ _ hr
    obtain ⟨cs, ty, fz, us0, rest, h2, _, h2a, h3, _⟩ := (hb b hgb).2.resolve_left (by rw [e1]; simp)
    rw [e1] at h3
    obtain ⟨us, ws, e5, q1, us', ws', rfl, q3, q4⟩ := (chsRel_append _ _ _).1 h3
    have l1 := chsRel_size _ _ q1
    refine ⟨(us'.drop i).take (m * sz), src_cells (by rw [List.length_take, List.length_drop, q3.1]; omega) (fun j u hj => ?_) (fun j u hj => ?_)⟩
    · rw [List.getElem?_take] at hj
      split at hj
      · rw [List.getElem?_drop] at hj
        have hlt := (List.getElem?_eq_some_iff.1 hj).1
        rw [add_addr, cell_blk h2, ← Array.getElem?_toList, h2a, e5, List.append_assoc, List.append_assoc, List.getElem?_append_right (by omega), List.getElem?_append_left (by omega), ← hj]
        congr 1; omega
      · cases hj
    · rw [List.getElem?_take] at hj
      split at hj
      · rw [List.getElem?_drop] at hj
        exact q3.2 _ _ hj
      · cases hj

/-- One content behind another one. -/
def catF (n : Nat) (f h : Nat → CV) : Nat → CV := fun j => match Nat.blt j n with
  | true => f j
  | false => h (j - n)

theorem run_append_grow' {t u ty e : TypeId} {i : TypeInfo} {z : Value} (ht : P.underlying t = some (.slice e)) {d : TypeDesc} (hu : P.underlying u = some d) (hd : ∀ k, d ≠ .int k) (hi : P.info? e = some i) (hz : i.zero = some z)
    (w : World) {ad : Option Addr} {n cap m : Nat} {v : Value} {news olds : List Value} (hlen : ∀ w', (Builtin.lenOf v).run P w' = .ok m w') (hnew : ∀ w' : World, w'.heap = w.heap → (Builtin.firstCells i.size m v).run P w' = .ok news.toArray w')
    (hold : ∀ w' : World, w'.heap = w.heap → (Builtin.firstCells i.size n (.slice ad n cap)).run P w' = .ok olds.toArray w')
    (hg : cap < n + m) (h63 : ((n + m : Nat) : Int) ≤ 9223372036854775807) (hfit : Builtin.nextslicecap (n + m) cap * i.bytes ≤ 281474976710656) :
    (Builtin.append_ #[t, u] ty #[.slice ad n cap, v]).run P w = .ok (.slice (some ⟨w.heap.size, 0, none⟩) (n + m) (grownCap w (n + m) cap e))
        (moreW w (.cells (olds.toArray ++ news.toArray ++ Builtin.zeroCells z.cells (grownCap w (n + m) cap e - (n + m))) e (0, 0)) 1) := by
  have hn : ¬ (n + m ≤ cap) := by omega
  have h63' : ¬ (9223372036854775807 < ((n : Int) + (m : Int))) := by omega
  have h48' : ¬ (281474976710656 < Builtin.nextslicecap (n + m) cap * i.bytes) := by omega
  have hf := hnew w.drew rfl
  have hfo := hold w.drew rfl
  have hz' : (match d with | .int _ => true | _ => false) = false := by
    cases d <;> first | rfl | exact absurd rfl (hd _)
  simp [Builtin.append_, run_underlying ht, run_underlying hu, sizeOf, typeInfo, zeroValue, hi, hz, hlen, hn, h63', h48', Question.forced, hf, hfo, newRow, grownCap]
  have hdm : ∀ o, w.drew.alloc o = moreW w o 1 := fun _ => rfl
  rw [hdm]
  congr 2
  apply Array.ext'
  simp

theorem put_same {w : World} {b : Nat} {cs : Array Value} {ty : TypeId} {fz : Nat × Nat} (h : w.heap[b]? = some (.cells cs ty fz)) : putB w b (.cells cs ty fz) = w := by
  unfold putB
  have : w.heap.setIfInBounds b (.cells cs ty fz) = w.heap := by
    apply Array.ext (by simp)
    intro j h1 h2
    rw [Array.getElem_setIfInBounds]
    split
    · rename_i hj
      subst hj
      exact (Array.getElem?_eq_some_iff.1 h).2.symm
    · rfl
  rw [this]
theorem run_store_all {w : World} {b off : Nat} {cs : Array Value} {ty : TypeId} {fz : Nat × Nat} {vs : List Value} (hb : w.heap[b]? = some (.cells cs ty fz)) (hl : off + vs.length ≤ cs.size) (h1 : ∀ y ∈ vs, y.oneCell' = true)
    (hz : ∀ o, o < cs.size → ¬ (fz.1 ≤ o ∧ o < fz.2)) : (storeCells ⟨b, off, none⟩ vs 0).run P w = .ok () (putB w b (.cells (setL cs off vs) ty fz)) := by
  have h := run_storeCells' (P := P) vs w cs off 0 hb (by omega) h1 hz
  rw [h]
  cases vs with
  | nil => rw [show setL cs off [] = cs from rfl, put_same hb]
  | cons v vs => rw [Nat.add_zero]

theorem run_append_room' {t u ty e : TypeId} {i : TypeInfo} (ht : P.underlying t = some (.slice e)) {d : TypeDesc} (hu : P.underlying u = some d) (hd : ∀ k, d ≠ .int k) (hi : P.info? e = some i)
    (w W : World) {b n cap m : Nat} {v : Value} {news : List Value} (hlen : ∀ w', (Builtin.lenOf v).run P w' = .ok m w') (hnew : (Builtin.firstCells i.size m v).run P w = .ok news.toArray w)
    (hroom : n + m ≤ cap) (hst : (storeCells ⟨b, n * i.size, none⟩ news 0).run P w = .ok () W) :
    (Builtin.append_ #[t, u] ty #[.slice (some ⟨b, 0, none⟩) n cap, v]).run P w = .ok (.slice (some ⟨b, 0, none⟩) (n + m) cap) W := by
  simp [Builtin.append_, run_underlying ht, run_underlying hu, sizeOf, typeInfo, hi, hlen, hroom, hnew, add_addr, hst]

theorem run_append_nothing {t u ty e : TypeId} {i : TypeInfo} (ht : P.underlying t = some (.slice e)) {d : TypeDesc} (hu : P.underlying u = some d) (hd : ∀ k, d ≠ .int k) (hi : P.info? e = some i)
    (w : World) {ad : Option Addr} {n cap : Nat} {v : Value} (hlen : ∀ w', (Builtin.lenOf v).run P w' = .ok 0 w') (hnew : (Builtin.firstCells i.size 0 v).run P w = .ok #[] w) (hroom : n ≤ cap) :
    (Builtin.append_ #[t, u] ty #[.slice ad n cap, v]).run P w = .ok (.slice ad n cap) w := by
  have hz' : (match d with | .int _ => true | _ => false) = false := by
    cases d <;> first | rfl | exact absurd rfl (hd _)
  cases ad <;> simp [Builtin.append_, run_underlying ht, run_underlying hu, sizeOf, typeInfo, hi, hlen, hroom, hnew, storeCells]

theorem info_all {e : TypeId} {z : Value} {sz by' : Nat} (h : (P.info? e).map (fun i => (i.zero, i.size, i.bytes)) = some (some z, sz, by')) : ∃ i, P.info? e = some i ∧ i.zero = some z ∧ i.size = sz ∧ i.bytes = by' := by
  cases hi : P.info? e with
  | none => rw [hi] at h; cases h
  | some i =>
    rw [hi] at h
    simp only [Option.map_some, Option.some.injEq, Prod.mk.injEq] at h
    exact ⟨i, rfl, h.1, h.2.1, h.2.2⟩

/-- The new block of an append holds what was there and what was appended. -/
theorem cat_rel {g : GM} {n m : Nat} {f h : Nat → CV} {olds news : List Value} (h1 : olds.length = n) (h2 : news.length = m) (r1 : ∀ j u, olds[j]? = some u → u.oneCell' = true ∧ (f j).rel g u) (r2 : ∀ j u, news[j]? = some u → u.oneCell' = true ∧ (h j).rel g u) :
    chsRel g [.vec (n + m) (catF n f h)] (olds ++ news) := by
  refine ⟨olds ++ news, [], by simp, ⟨by simp [h1, h2], fun j u hj => ?_⟩, rfl⟩
  unfold catF
  by_cases hlt : j < n
  · rw [List.getElem?_append_left (by omega)] at hj
    rw [show Nat.blt j n = true by rw [Nat.blt_eq]; exact hlt]
    exact r1 j u hj
  · rw [List.getElem?_append_right (by omega), h1] at hj
    have : Nat.blt j n = false := by rw [Bool.eq_false_iff]; intro hh; rw [Nat.blt_eq] at hh; exact hlt hh
    rw [this]
    exact r2 _ u hj

theorem grownCap_has (w : World) (need old : Nat) (e : TypeId) (h : need ≤ 9223372036854775807) : need ≤ grownCap w need old e ∧ grownCap w need old e ≤ 9223372036854775807 := by
  have h1 := grownCap_le_maxLen w need old e (by unfold maxLen; omega)
  unfold maxLen at h1
  exact ⟨grownCap_ge w need old e, by omega⟩

theorem zeroCells_size (z : Array Value) (n : Nat) : (Builtin.zeroCells z n).size = n * z.size := size_zeroCells z n

section
variable {o : Oper} {c : Call} {x y : Operand} {t u e : TypeId} {z : Value} {sz by' : Nat} {d : TypeDesc}

/-- An append where there is no telling whether the block has room: the old name is given up. -/
theorem exec_append (ho : o.op = .call c) (hc : c.callee = .builtin .append) (hargs : c.args = #[x, y]) (htys : c.argTypes = #[t, u])
    (ht : P.underlying t = some (.slice e)) (hu : P.underlying u = some d) (hd : ∀ k, d ≠ .int k) (hi : (P.info? e).map (fun i => (i.zero, i.size, i.bytes)) = some (some z, sz, by')) (hzs : z.cells.size = sz)
    {mk l n cc m : Nat} {f h : Nat → CV} {rd : List Nat} (hx0 : opv ts x = .b (.cv (.sl l 0 0 n cc))) {s : Nat} {rs : List Ch} (hk : mem[l]? = some (.vec s f :: rs, mk)) (hmk : isExt mk = false) (hez : emk mk = sz) (hrd : l ∈ rd)
    (hn : n * sz ≤ s) (hmx : (n + m) * by' ≤ 140737488355328) (hm63 : n + m ≤ 9223372036854775807) (hsz : 0 < sz)
    (hsrc : ∀ (g : GM) (a : Act) (w : World), (∀ z ∈ o.op.operands, (opv ts z).rel g (a.eval z)) → (∀ l ∈ rd, ∀ b k, g l = some b → mem[l]? = some k → BlkRel S w0 g w b k) → GW g S w0 w → ∃ news, Src P g w (a.eval y) sz m h news) :
    Exec P S w0 o ts mem rd (.b (.cv (.sl mem.length 0 0 (n + m) (n + m)))) ⟨[([.vec ((n + m) * sz) (catF (n * sz) f h)], mk)], [(l, [])]⟩ := by
  intro g a w hx hr hg hf _ next Q hnx
  obtain ⟨i, hi1, hi2, hi3, hi4⟩ := info_all hi
  subst hi3
  have hf0 : g mem.length = none := hf 0 (by simp)
  have hlm := (List.getElem?_eq_some_iff.1 hk).1
  obtain ⟨news, hs⟩ := hsrc g a w hx hr hg
  have hone : ∀ u ∈ news, u.oneCell' = true := fun u hu => by
    obtain ⟨j, hj⟩ := List.getElem?_of_mem hu
    exact (hs.rel j u hj).1
  have hx1 := hx x (by simp [ho, Op.operands, Call.operands, hargs])
  rw [hx0] at hx1
  have hadd : (n + m) * i.size = n * i.size + m * i.size := Nat.add_mul _ _ _
  have hrun : ∀ v w', (Builtin.append_ #[t, u] o.type #[a.eval x, a.eval y]).run P w = .ok v w' → (execOp a.eval o).run P w = .ok (.value v) w' := fun v w' hr => by
    simp [execOp, ho, resolve, hc, hargs, htys, invoke, builtin, hr]
  have hlive : live (.vec s f :: rs, mk) := ⟨by simp, hmk⟩
  -- a new block
  have grown : ∀ (ad : Option Addr) (cap : Nat) (olds : List Value), a.eval x = .slice ad n cap → cap < n + m → olds.length = n * i.size → (∀ w' : World, w'.heap = w.heap → (Builtin.firstCells i.size n (.slice ad n cap)).run P w' = .ok olds.toArray w') →
      (∀ j u, olds[j]? = some u → u.oneCell' = true ∧ (f j).rel g u) → o.wp P a w next Q := by
    intro ad cap olds hxv hcap hol hold hrel
    have hcapb := growslice_fits (bytes := i.bytes) hcap (by rw [hi4]; exact hmx)
    have hr2 := run_append_grow' (ty := o.type) ht hu hd hi1 hi2 w hs.len (fun w' hw => hs.all w' hw) hold hcap (by omega) hcapb
    have hgc := grownCap_has w (n + m) cap e (by omega)
    unfold Oper.wp
    rw [hrun _ _ (by rw [hxv]; exact hr2)]
    generalize hG : grownCap w (n + m) cap e = G at *
    have hcsz : (olds.toArray ++ news.toArray ++ Builtin.zeroCells z.cells (G - (n + m))).size = G * i.size := by
      simp only [Array.size_append, List.size_toArray, zeroCells_size, hol, hs.size, hzs]
      have : (n + m) * i.size + (G - (n + m)) * i.size = G * i.size := by rw [← Nat.add_mul]; congr 1; omega
      omega
    have hle : GM.le g (g.ext mem.length ⟨w.heap.size, G * i.size, i.size⟩) := GM.ext_le hf0
    refine hnx _ _ (g.ext mem.length ⟨w.heap.size, G * i.size, i.size⟩) (.inr ⟨Nat.le_refl _, G, hgc.1, hgc.2, _, GM.ext_same _ _ _, by simp, rfl⟩) ⟨hle, hg.more hf0 _ _, fun l' hl hl' => ?_, ?_, fun b hb _ => push_get w _ b hb, fun j k hj b hb => ?_, fun l' c' hw b k hb hk' => ?_, fun l' c' hm' => ?_, fun j b hb hn' => ?_, fun j j' b b' h1 h2 h3 h4 hbb => ?_⟩
    · unfold GM.ext at hl
      by_cases e' : l' = mem.length
      · subst e'; simp
      · rw [if_neg e'] at hl; exact absurd hl' hl
    · show w.heap.size ≤ (w.heap.push _).size
      simp
    · cases j with
      | succ j => simp at hj
      | zero =>
        simp only [List.getElem?_cons_zero, Option.some.injEq] at hj
        subst hj
        rw [Nat.add_zero, GM.ext_same] at hb
        injection hb with hb
        subst hb
        refine ⟨⟨fun h => (by rw [hmk] at h; cases h), fun h => absurd (.inr hg.fr.size) h⟩, .inr ⟨_, e, (0, 0), olds ++ news, (Builtin.zeroCells z.cells (G - (n + m))).toList, by show (w.heap.push _)[w.heap.size]? = _; rw [Array.getElem?_push_size], ⟨hcsz, hez.symm⟩, by simp, ?_, fun _ off _ => by simp⟩⟩
        rw [hadd]
        exact chsRel_mono hle _ _ (cat_rel hol hs.size hrel hs.rel)
    · simp only [wrFind] at hw
      split at hw
      · rename_i he
        have he := Nat.eq_of_beq_eq_true he; subst he
        injection hw with hw; subst hw
        exact BlkRel.dead (hr l hrd b k hb hk')
      · cases hw
    · simp only [List.mem_cons, List.not_mem_nil, or_false, Prod.mk.injEq] at hm'
      obtain ⟨rfl, rfl⟩ := hm'
      exact ⟨_, hk, hlive⟩
    · unfold GM.ext at hb
      by_cases e' : mem.length + j = mem.length
      · rw [if_pos e'] at hb; injection hb with hb; subst hb; exact .inl (Nat.le_refl _)
      · rw [if_neg e', hn'] at hb; cases hb
    · unfold GM.ext at h3 h4
      by_cases e' : mem.length + j = mem.length
      · by_cases e2 : mem.length + j' = mem.length
        · omega
        · rw [if_neg e2, h2] at h4; cases h4
      · rw [if_neg e', h1] at h3; cases h3
  have empty : (n + m = 0) → ∀ ad, a.eval x = .slice ad 0 0 → o.wp P a w next Q := by
    intro h0 ad hxv
    obtain ⟨rfl, rfl⟩ : n = 0 ∧ m = 0 := by omega
    have hz := hs.all w rfl
    have hnl : news = [] := List.eq_nil_of_length_eq_zero (by rw [hs.size]; simp)
    subst hnl
    have hr2 := run_append_nothing (ty := o.type) (ad := ad) (cap := 0) (n := 0) ht hu hd hi1 w hs.len (by simpa using hz) (Nat.le_refl _)
    unfold Oper.wp
    rw [hrun _ _ (by rw [hxv]; exact hr2)]
    refine hnx _ _ g (.inl ⟨rfl, rfl, ad, rfl⟩) ⟨GM.le_refl g, hg, fun l' hl hl' => absurd hl' hl, Nat.le_refl _, fun b hb _ => rfl, fun j k hj b hb => ?_, fun l' c' hw b k hb hk' => ?_, fun l' c' hm' => ?_, fun j b hb hn' => (by rw [hn'] at hb; cases hb), fun j j' b b' h1 h2 h3 h4 hbb => (by rw [h1] at h3; cases h3)⟩
    · cases j with
      | succ j => simp at hj
      | zero => rw [Nat.add_zero, hf0] at hb; cases hb
    · simp only [wrFind] at hw
      split at hw
      · rename_i he
        have he := Nat.eq_of_beq_eq_true he; subst he
        injection hw with hw; subst hw
        exact BlkRel.dead (hr l hrd b k hb hk')
      · cases hw
    · simp only [List.mem_cons, List.not_mem_nil, or_false, Prod.mk.injEq] at hm'
      obtain ⟨rfl, rfl⟩ := hm'
      exact ⟨_, hk, hlive⟩
  rcases hx1 with ⟨hn0, _, ad, hxv⟩ | ⟨hn1, cap, hc1, hc2, b, hgb, hrm, hxv⟩
  · by_cases h0 : n + m = 0
    · exact empty h0 ad (by rw [hxv])
    · subst hn0
      refine grown ad 0 [] (by rw [hxv]) (by omega) (by simp) (fun w' _ => ?_) (fun j u hj => by simp at hj)
      have := (src_nil (P := P) (g := g) (w := w') (ad := ad) (sz := i.size) (c := 0) (h := h)).get 0 w' (Nat.le_refl _) rfl
      simpa using this
  · have hbr := hr l hrd b _ hgb hk
    obtain ⟨cs, ty, fz, us, rest, p1, ⟨p2, p2'⟩, p3, p4, p5⟩ := hbr.2.resolve_left (by simp)
    have p5 := p5 hmk
    obtain ⟨us1, us2, rfl, q1, q2⟩ := p4
    have hbe : b.e = i.size := by rw [p2']; exact hez
    have hxv : a.eval x = .slice (some ⟨b.b, 0, none⟩) n cap := by simpa using hxv
    have htake : us1.take (n * i.size) = cs.toList.take (n * i.size) := by
      rw [p3, List.append_assoc, List.take_append_of_le_length (by rw [q1.1]; exact hn)]
    have hol : (us1.take (n * i.size)).length = n * i.size := by rw [List.length_take, q1.1]; omega
    have hrel : ∀ j u, (us1.take (n * i.size))[j]? = some u → u.oneCell' = true ∧ (f j).rel g u := fun j u hj => by
      rw [List.getElem?_take] at hj
      split at hj
      · exact q1.2 j u hj
      · cases hj
    by_cases hcap : n + m ≤ cap
    · -- in its place
      rw [hbe] at hrm
      have hroom2 : (n + m) * i.size ≤ cap * i.size := Nat.mul_le_mul_right _ hcap
      have hst := run_store_all (P := P) (vs := news) (off := n * i.size) p1 (by rw [hs.size]; omega) hone p5
      have hown := hg.own l b hgb
      have hS : S b.b ∨ w0.heap.size ≤ b.b := Classical.byContradiction fun hcc => by have := hbr.1.2 hcc; rw [hmk] at this; cases this
      have hr2 := run_append_room' (ty := o.type) ht hu hd hi1 w _ hs.len (hs.all w rfl) hcap hst
      unfold Oper.wp
      rw [hrun _ _ (by rw [hxv]; exact hr2)]
      have hle : GM.le g (g.ext mem.length b) := GM.ext_le hf0
      have hgw := hg.put hgb hS (.cells (setL cs (n * i.size) news) ty fz)
      refine hnx _ _ (g.ext mem.length b) (.inr ⟨Nat.le_refl _, cap, hcap, hc2, b, GM.ext_same _ _ _, by rw [hbe]; omega, by simp⟩) ⟨hle, ⟨fun l' b' hl => ?_, hgw.fr⟩, fun l' hl hl' => ?_, by rw [putB_size]; exact Nat.le_refl _, fun b' hb' hne => ?_, fun j k hj b' hb' => ?_, fun l' c' hw b' k hb' hk' => ?_, fun l' c' hm' => ?_, fun j b' hb' hn' => ?_, fun j j' b1 b2 h1 h2 h3 h4 hbb => ?_⟩
      · unfold GM.ext at hl
        by_cases e' : l' = mem.length
        · rw [if_pos e'] at hl; injection hl with hl; subst hl; rw [putB_size]; exact hown
        · rw [if_neg e'] at hl; exact hgw.own l' b' hl
      · unfold GM.ext at hl
        by_cases e' : l' = mem.length
        · subst e'; simp
        · rw [if_neg e'] at hl; exact absurd hl' hl
      · rw [putB_get _ _ _ _ hown, if_neg (hne l [] b (by simp) hgb)]
      · cases j with
        | succ j => simp at hj
        | zero =>
          simp only [List.getElem?_cons_zero, Option.some.injEq] at hj
          subst hj
          rw [Nat.add_zero, GM.ext_same] at hb'
          injection hb' with hb'
          subst hb'
          refine ⟨hbr.1, .inr ⟨setL cs (n * i.size) news, ty, fz, us1.take (n * i.size) ++ news, cs.toList.drop (n * i.size + news.length), by rw [putB_get _ _ _ _ hown, if_pos rfl], ⟨by rw [setL_size]; exact p2, p2'⟩, ?_, ?_, fun _ off ho => p5 off (by rw [setL_size] at ho; exact ho)⟩⟩
          · rw [setL_toList _ _ _ (by rw [hs.size]; omega), htake, List.append_assoc]
          · rw [hadd]
            exact chsRel_mono hle _ _ (cat_rel hol hs.size hrel hs.rel)
      · simp only [wrFind] at hw
        split at hw
        · rename_i he
          have he := Nat.eq_of_beq_eq_true he; subst he
          injection hw with hw; subst hw
          exact BlkRel.dead (hr l hrd b' k hb' hk')
        · cases hw
      · simp only [List.mem_cons, List.not_mem_nil, or_false, Prod.mk.injEq] at hm'
        obtain ⟨rfl, rfl⟩ := hm'
        exact ⟨_, hk, hlive⟩
      · unfold GM.ext at hb'
        by_cases e' : mem.length + j = mem.length
        · rw [if_pos e'] at hb'; injection hb' with hb'; subst hb'; exact .inr ⟨l, b, by simp [wrFind], hgb, rfl⟩
        · rw [if_neg e', hn'] at hb'; cases hb'
      · unfold GM.ext at h3 h4
        by_cases e' : mem.length + j = mem.length
        · by_cases e2 : mem.length + j' = mem.length
          · omega
          · rw [if_neg e2, h2] at h4; cases h4
        · rw [if_neg e', h1] at h3; cases h3
    · refine grown _ cap _ hxv (by omega) hol (fun w' hw => ?_) hrel
      refine run_firstCells_some (P := P) w' i.size n _ n cap _ hol fun j u hj => ?_
      rw [cell_heap hw, add_addr, Nat.zero_add, cell_blk p1, ← Array.getElem?_toList]
      rw [htake, List.getElem?_take] at hj
      split at hj
      · exact hj
      · cases hj

end
end Go.Ev
namespace Go.Ev
open Go
variable {P : Program} {S : Nat → Prop} {w0 : World} {C : Cx}

/-- The caller's name of a name of the callee's: of those handed over, and of new ones (n: the caller's next name). -/
def renL : List Nat → Nat → Nat → Nat
  | [], n, l => n + l
  | x :: _, _, 0 => x
  | _ :: r, n, l + 1 => renL r n l
theorem renL_lt : ∀ (ls : List Nat) (n l : Nat) (h : l < ls.length), renL ls n l = ls[l]
  | _ :: _, _, 0, _ => rfl
  | _ :: r, n, l + 1, h => renL_lt r n l (by simpa using h)
theorem renL_ge : ∀ (ls : List Nat) (n l : Nat), ls.length ≤ l → renL ls n l = n + (l - ls.length)
  | [], _, _, _ => rfl
  | _ :: r, n, l + 1, h => by rw [renL, renL_ge r n l (by simpa using h)]; simp
  | _ :: _, _, 0, h => by simp at h

def renCV (σ : Nat → Nat) : CV → CV
  | .ptr l o i => .ptr (σ l) o i
  | .sl l o i n c => .sl (σ l) o i n c
  | .fn f fs cs => .fn f fs (cs.map σ)
  | c => c
def renCh (σ : Nat → Nat) : Ch → Ch
  | .cell c => .cell (renCV σ c)
  | .num x => .num x
  | .vec n f => .vec n f
def renAB (σ : Nat → Nat) : AB → AB
  | .cv c => .cv (renCV σ c)
  | .agg cs => .agg (cs.map (renCh σ))
def renAV (σ : Nat → Nat) : AV → AV
  | .b x => .b (renAB σ x)
  | .tup xs => .tup (xs.map (renAB σ))

/-- The names in these words are p's. Rows of cells bear no names. -/
def nmCV (p : Nat → Prop) : CV → Prop
  | .ptr l _ _ => p l
  | .sl l _ _ _ _ => p l
  | .fn _ _ cs => ∀ l ∈ cs, p l
  | _ => True
def nmCh (p : Nat → Prop) : Ch → Prop
  | .cell c => nmCV p c
  | .num _ => True
  | .vec n f => ∀ i, i < n → freeCV (f i) = true
def nmChs (p : Nat → Prop) : List Ch → Prop
  | [] => True
  | c :: r => nmCh p c ∧ nmChs p r
def nmAB (p : Nat → Prop) : AB → Prop
  | .cv c => nmCV p c
  | .agg cs => nmChs p cs
def nmABs (p : Nat → Prop) : List AB → Prop
  | [] => True
  | x :: r => nmAB p x ∧ nmABs p r
def nmAV (p : Nat → Prop) : AV → Prop
  | .b x => nmAB p x
  | .tup xs => nmABs p xs

section
variable {σ : Nat → Nat} {p : Nat → Prop} {g g' : GM}

theorem caps_in (h : ∀ l, p l → ∀ b, g (σ l) = some b → g' l = some b) : ∀ (cs : List Nat) (vs : List Value), (∀ l ∈ cs, p l) → capsRel g (cs.map σ) vs → capsRel g' cs vs
  | [], _, _, hr => hr
  | c :: cs, _, hp, ⟨b, ws, h1, h2, h3⟩ => ⟨b, ws, h c (hp c (by simp)) b h1, h2, caps_in h cs ws (fun l hl => hp l (by simp [hl])) h3⟩
theorem caps_out (h : ∀ l, p l → ∀ b, g' l = some b → g (σ l) = some b) : ∀ (cs : List Nat) (vs : List Value), (∀ l ∈ cs, p l) → capsRel g' cs vs → capsRel g (cs.map σ) vs
  | [], _, _, hr => hr
  | c :: cs, _, hp, ⟨b, ws, h1, h2, h3⟩ => ⟨b, ws, h c (hp c (by simp)) b h1, h2, caps_out h cs ws (fun l hl => hp l (by simp [hl])) h3⟩

theorem cv_in (h : ∀ l, p l → ∀ b, g (σ l) = some b → g' l = some b) {c : CV} {v : Value} (hp : nmCV p c) (hr : (renCV σ c).rel g v) : c.rel g' v := by
  cases c with
  | ptr l o i => obtain ⟨b, h1, h2⟩ := hr; exact ⟨b, h l hp b h1, h2⟩
  | sl l o i n c =>
    rcases hr with hr | ⟨q, cap, q1, q2, b, h1, h2⟩
    · exact .inl hr
    · exact .inr ⟨q, cap, q1, q2, b, h l hp b h1, h2⟩
  | fn f fs cs => obtain ⟨q, ws, q1, q2⟩ := hr; exact ⟨q, ws, caps_in h cs _ hp q1, q2⟩
  | _ => exact hr
theorem cv_out (h : ∀ l, p l → ∀ b, g' l = some b → g (σ l) = some b) {c : CV} {v : Value} (hp : nmCV p c) (hr : c.rel g' v) : (renCV σ c).rel g v := by
  cases c with
  | ptr l o i => obtain ⟨b, h1, h2⟩ := hr; exact ⟨b, h l hp b h1, h2⟩
  | sl l o i n c =>
    rcases hr with hr | ⟨q, cap, q1, q2, b, h1, h2⟩
    · exact .inl hr
    · exact .inr ⟨q, cap, q1, q2, b, h l hp b h1, h2⟩
  | fn f fs cs => obtain ⟨q, ws, q1, q2⟩ := hr; exact ⟨q, ws, caps_out h cs _ hp q1, q2⟩
  | _ => exact hr
theorem chs_in (h : ∀ l, p l → ∀ b, g (σ l) = some b → g' l = some b) : ∀ {cs : List Ch} {vs : List Value}, nmChs p cs → chsRel g (cs.map (renCh σ)) vs → chsRel g' cs vs
  | [], _, _, hr => hr
  | .cell c :: r, _, ⟨h1, h2⟩, ⟨us, ws, e, ⟨y, e2, q1, q2⟩, q3⟩ => ⟨us, ws, e, ⟨y, e2, q1, cv_in h h1 q2⟩, chs_in h h2 q3⟩
  | .num x :: r, _, ⟨_, h2⟩, ⟨us, ws, e, q, q3⟩ => ⟨us, ws, e, q, chs_in h h2 q3⟩
  | .vec n f :: r, _, ⟨h1, h2⟩, ⟨us, ws, e, ⟨q0, q⟩, q3⟩ => ⟨us, ws, e, ⟨q0, fun i y hi => ⟨(q i y hi).1, freeCV_ok (h1 i (by rw [← q0]; exact (List.getElem?_eq_some_iff.1 hi).1)) (q i y hi).2⟩⟩, chs_in h h2 q3⟩
theorem chs_out (h : ∀ l, p l → ∀ b, g' l = some b → g (σ l) = some b) : ∀ {cs : List Ch} {vs : List Value}, nmChs p cs → chsRel g' cs vs → chsRel g (cs.map (renCh σ)) vs
  | [], _, _, hr => hr
  | .cell c :: r, _, ⟨h1, h2⟩, ⟨us, ws, e, ⟨y, e2, q1, q2⟩, q3⟩ => ⟨us, ws, e, ⟨y, e2, q1, cv_out h h1 q2⟩, chs_out h h2 q3⟩
  | .num x :: r, _, ⟨_, h2⟩, ⟨us, ws, e, q, q3⟩ => ⟨us, ws, e, q, chs_out h h2 q3⟩
  | .vec n f :: r, _, ⟨h1, h2⟩, ⟨us, ws, e, ⟨q0, q⟩, q3⟩ => ⟨us, ws, e, ⟨q0, fun i y hi => ⟨(q i y hi).1, freeCV_ok (h1 i (by rw [← q0]; exact (List.getElem?_eq_some_iff.1 hi).1)) (q i y hi).2⟩⟩, chs_out h h2 q3⟩
theorem ab_in (h : ∀ l, p l → ∀ b, g (σ l) = some b → g' l = some b) {x : AB} {v : Value} (hp : nmAB p x) (hr : (renAB σ x).rel g v) : x.rel g' v := by
  cases x with
  | cv c => exact cv_in h hp hr
  | agg cs => obtain ⟨a, e, q⟩ := hr; exact ⟨a, e, chs_in h hp q⟩
theorem ab_out (h : ∀ l, p l → ∀ b, g' l = some b → g (σ l) = some b) {x : AB} {v : Value} (hp : nmAB p x) (hr : x.rel g' v) : (renAB σ x).rel g v := by
  cases x with
  | cv c => exact cv_out h hp hr
  | agg cs => obtain ⟨a, e, q⟩ := hr; exact ⟨a, e, chs_out h hp q⟩
theorem abs_in (h : ∀ l, p l → ∀ b, g (σ l) = some b → g' l = some b) : ∀ {xs : List AB} {vs : List Value}, nmABs p xs → absRel g (xs.map (renAB σ)) vs → absRel g' xs vs
  | [], _, _, hr => hr
  | _ :: _, _, ⟨h1, h2⟩, ⟨y, ys, e, q1, q2⟩ => ⟨y, ys, e, ab_in h h1 q1, abs_in h h2 q2⟩
theorem abs_out (h : ∀ l, p l → ∀ b, g' l = some b → g (σ l) = some b) : ∀ {xs : List AB} {vs : List Value}, nmABs p xs → absRel g' xs vs → absRel g (xs.map (renAB σ)) vs
  | [], _, _, hr => hr
  | _ :: _, _, ⟨h1, h2⟩, ⟨y, ys, e, q1, q2⟩ => ⟨y, ys, e, ab_out h h1 q1, abs_out h h2 q2⟩
theorem av_out (h : ∀ l, p l → ∀ b, g' l = some b → g (σ l) = some b) {x : AV} {v : Value} (hp : nmAV p x) (hr : x.rel g' v) : (renAV σ x).rel g v := by
  cases x with
  | b x => exact ab_out h hp hr
  | tup xs => obtain ⟨a, e, q⟩ := hr; exact ⟨a, e, abs_out h hp q⟩
end

theorem nameless_rel {g1 g2 : GM} : ∀ {cs : List Ch} {vs : List Value}, nmChs (fun _ => False) cs → chsRel g1 cs vs → chsRel g2 cs vs
  | [], _, _, hr => hr
  | .cell c :: r, _, ⟨h1, h2⟩, ⟨us, ws, e, ⟨y, e2, q1, q2⟩, q3⟩ => ⟨us, ws, e, ⟨y, e2, q1, by
      cases c with
      | ptr => exact h1.elim
      | sl => exact h1.elim
      | fn f fs cs => cases cs with
        | nil => exact q2
        | cons l _ => exact (h1 l (by simp)).elim
      | _ => exact q2⟩, nameless_rel h2 q3⟩
  | .num x :: r, _, ⟨_, h2⟩, ⟨us, ws, e, q, q3⟩ => ⟨us, ws, e, q, nameless_rel h2 q3⟩
  | .vec n f :: r, _, ⟨h1, h2⟩, ⟨us, ws, e, ⟨q0, q⟩, q3⟩ => ⟨us, ws, e, ⟨q0, fun i y hi => ⟨(q i y hi).1, freeCV_ok (h1 i (by rw [← q0]; exact (List.getElem?_eq_some_iff.1 hi).1)) (q i y hi).2⟩⟩, nameless_rel h2 q3⟩

theorem isExt_add (t : Nat) : isExt (EXTM + t) = true := by unfold isExt; rw [Nat.ble_eq]; exact Nat.le_add_right _ _
theorem emk_ext {t : Nat} (h : isExt t = false) : emk (EXTM + t) = emk t := by
  have h1 : Nat.ble EXTM (EXTM + t) = true := isExt_add t
  have h2 : Nat.ble EXTM t = false := h
  unfold emk
  rw [h1, h2]
  simp

/-- The blocks that are handed over to be written. -/
def wrsOf : List Nat → List Blk → List Blk → List (Nat × List Ch)
  | l :: ls, k :: ks, k' :: ks' => match isExt k.2 with
    | true => wrsOf ls ks ks'
    | false => (l, k'.1) :: wrsOf ls ks ks'
  | _, _, _ => []
theorem wrsOf_mem : ∀ {ls : List Nat} {ks ks' : List Blk} {l : Nat} {c : List Ch}, (l, c) ∈ wrsOf ls ks ks' → ∃ (i : Nat) (k k' : Blk), ls[i]? = some l ∧ ks[i]? = some k ∧ ks'[i]? = some k' ∧ isExt k.2 = false ∧ c = k'.1
  | l0 :: ls, k :: ks, k' :: ks', l, c, h => by
    unfold wrsOf at h
    have rec' : (l, c) ∈ wrsOf ls ks ks' → ∃ (i : Nat) (q q' : Blk), (l0 :: ls)[i]? = some l ∧ (k :: ks)[i]? = some q ∧ (k' :: ks')[i]? = some q' ∧ isExt q.2 = false ∧ c = q'.1 := fun h => by
      obtain ⟨i, q, q', h1, h2, h3, h4⟩ := wrsOf_mem h
      exact ⟨i + 1, q, q', by simpa using h1, by simpa using h2, by simpa using h3, h4⟩
    split at h
    · exact rec' h
    · rename_i hx
      rcases List.mem_cons.1 h with e | e
      · injection e with e1 e2; subst e1 e2
        exact ⟨0, k, k', rfl, rfl, rfl, hx, rfl⟩
      · exact rec' e
  | [], _, _, _, _, h => by simp [wrsOf] at h
  | _ :: _, [], _, _, _, h => by simp [wrsOf] at h
  | _ :: _, _ :: _, [], _, _, h => by simp [wrsOf] at h
theorem wrsOf_in : ∀ {ls : List Nat} {ks ks' : List Blk} {i l : Nat} {k k' : Blk}, ls[i]? = some l → ks[i]? = some k → ks'[i]? = some k' → isExt k.2 = false → (l, k'.1) ∈ wrsOf ls ks ks'
  | l0 :: ls, k0 :: ks, k0' :: ks', 0, l, k, k', h1, h2, h3, h4 => by
    simp only [List.getElem?_cons_zero, Option.some.injEq] at h1 h2 h3
    subst h1 h2 h3
    unfold wrsOf; rw [h4]; simp
  | l0 :: ls, k0 :: ks, k0' :: ks', i + 1, l, k, k', h1, h2, h3, h4 => by
    have := wrsOf_in (ls := ls) (ks := ks) (ks' := ks') (by simpa using h1) (by simpa using h2) (by simpa using h3) h4
    unfold wrsOf
    split
    · exact this
    · exact List.mem_cons_of_mem _ this

/-- How a block that is handed over reads to the callee: as it is, or as one that is only read. -/
def handed (k0 k : Blk) : Prop := k0.1 = k.1 ∧ (k0.2 = k.2 ∨ (k0.2 = EXTM + k.2 ∧ isExt k.2 = false))

theorem wrFind_nodup : ∀ {wrs : List (Nat × List Ch)} {l : Nat} {c : List Ch}, (∀ c', (l, c') ∈ wrs → c' = c) → (l, c) ∈ wrs → wrFind wrs l = some c
  | (l0, c0) :: r, l, c, hu, hm => by
    unfold wrFind
    split
    · rename_i hb
      have := Nat.eq_of_beq_eq_true hb; subst this
      rw [hu c0 (by simp)]
    · rename_i hb
      rcases List.mem_cons.1 hm with e | e
      · injection e with e1 _; subst e1
        rw [Nat.beq_refl] at hb; cases hb
      · exact wrFind_nodup (fun c' hc => hu c' (by simp [hc])) e

/-- What a call leaves, of these values, in this world. -/
def CallAt (P : Program) (S : Nat → Prop) (w0 : World) (f : FuncId) (vs : List Value) (mem : List Blk) (g : GM) (w : World) (r : AV) (e : Eff) : Prop :=
  (∃ v w' g', (callFunc f vs.toArray).run P w = .ok (.value v) w' ∧ r.rel g' v ∧ Post S w0 mem e g g' w w') ∨
    ((callFunc f vs.toArray).run P w = .ok (.enter f vs.toArray) w ∧ Calls P f vs.toArray w fun en w' => ∃ v g', en = .returned v ∧ r.rel g' v ∧ Post S w0 mem e g g' w w')

theorem callLocAt (hC : CxOk P C) {f : FuncId} {fn : Func} {c : Code} (hf : P.funcs[f]? = some fn) (hb : fn.body = some c) (hn : (fn.name == "runtime.NumGoroutine") = false) {xs : List AB} (hl : xs.length ≤ fn.ntmps)
    {lm lw : List Blk} {r : AV} {ls : List Nat} {mem : List Blk} (hlen : ls.length = lm.length) (hle : lm.length ≤ lw.length)
    (hnd : ∀ (i j l : Nat), ls[i]? = some l → ls[j]? = some l → i = j)
    (hmem : ∀ (i l : Nat) (k0 : Blk), ls[i]? = some l → lm[i]? = some k0 → ∃ k : Blk, mem[l]? = some k ∧ handed k0 k ∧ k.1 ≠ [])
    (hmarks : ∀ (i : Nat) (k k' : Blk), lm[i]? = some k → lw[i]? = some k' → k'.2 = k.2)
    (hxs : nmABs (fun l => l < lm.length) xs) (hlm : ∀ k ∈ lm, nmChs (fun _ => False) k.1) (hlw : ∀ k ∈ lw, nmChs (fun _ => False) k.1)
    (hnews : ∀ k ∈ lw.drop lm.length, live k) (hr : nmAV (fun l => lm.length ≤ l ∧ l < lw.length) r)
    {g : GM} {w : World} {vs : List Value} (hv : absRel g (xs.map (renAB (renL ls mem.length))) vs) (hrd : ∀ l ∈ ls, ∀ b k, g l = some b → mem[l]? = some k → BlkRel S w0 g w b k) (hgw : GW g S w0 w) (hfr : ∀ i, i < (lw.drop lm.length).length → g (mem.length + i) = none) (hij : InjOn g mem ls)
    (h : ∀ (S' : Nat → Prop) (g' : GM), (∀ b, S' b → (S b ∨ w0.heap.size ≤ b) ∧ ∃ l br k, l ∈ ls ∧ g l = some br ∧ br.b = b ∧ mem[l]? = some k ∧ live k) → absRel g' xs vs → (∀ (i : Nat) (b : BR) (k : Blk), g' i = some b → lm[i]? = some k → factChs k.1) → evC P S' w C g' lm.length c (ts0 xs (fn.ntmps - xs.length)) lm fun x ts' mem' => match x with
      | .exit _ => False
      | _ => resK C fn.results.toList ts' mem' fun r' => leAV lw.length r' r (leMem lw.length mem' lw True)) :
    CallAt P S w0 f vs mem g w (renAV (renL ls mem.length) r) ⟨lw.drop lm.length, wrsOf ls lm lw⟩ := by
  have hsl : ∀ i, i < lm.length → renL ls mem.length i = ls[i]?.getD 0 := fun i hi => by rw [renL_lt ls mem.length i (by omega), List.getElem?_eq_getElem (by omega)]; rfl
  have hsn : ∀ i, lm.length ≤ i → renL ls mem.length i = mem.length + (i - lm.length) := fun i hi => by rw [renL_ge ls mem.length i (by omega), hlen]
  -- the callee's names
  let gl : GM := fun i => if i < lm.length then g (renL ls mem.length i) else none
  have hgl : ∀ (i : Nat) (b : BR), gl i = some b → ∃ (l : Nat) (k0 k : Blk), i < lm.length ∧ ls[i]? = some l ∧ lm[i]? = some k0 ∧ g l = some b ∧ mem[l]? = some k ∧ handed k0 k ∧ k.1 ≠ [] ∧ BlkRel S w0 g w b k := by
    intro i b hi
    have hlt : i < lm.length := by
      by_cases hh : i < lm.length
      · exact hh
      · simp [gl, hh] at hi
    simp only [gl, if_pos hlt] at hi
    have e1 : ls[i]? = some ls[i] := List.getElem?_eq_getElem (by omega)
    rw [renL_lt ls mem.length i (by omega)] at hi
    obtain ⟨k, q1, q2, q3⟩ := hmem i ls[i] lm[i] e1 (List.getElem?_eq_getElem hlt)
    exact ⟨ls[i], lm[i], k, hlt, e1, List.getElem?_eq_getElem hlt, hi, q1, q2, q3, hrd _ (List.getElem_mem _) b k hi q1⟩
  let Sl : Nat → Prop := fun b => ∃ (i : Nat) (br : BR) (k0 : Blk), gl i = some br ∧ br.b = b ∧ lm[i]? = some k0 ∧ isExt k0.2 = false
  have hSl : ∀ b, Sl b → S b ∨ w0.heap.size ≤ b := by
    rintro b ⟨i, br, k0, h1, rfl, h2, h3⟩
    obtain ⟨l, k0', k, hlt, q1, q2, q3, q4, q5, _, q6⟩ := hgl i br h1
    rw [h2] at q2; injection q2 with q2; subst q2
    refine Classical.byContradiction fun hc => ?_
    have := q6.1.2 hc
    rcases q5.2 with e | ⟨e, _⟩
    · rw [e, this] at h3; cases h3
    · rw [e, isExt_add] at h3; cases h3
  have hbk : ∀ (i : Nat) (b : BR) (k0 : Blk), gl i = some b → lm[i]? = some k0 → BlkRel Sl w gl w b k0 := by
    intro i b k0 h1 h2
    obtain ⟨l, k0', k, hlt, q1, q2, q3, q4, q5, q5', q6⟩ := hgl i b h1
    rw [h2] at q2; injection q2 with q2; subst q2
    have hbw := hgw.own l b q3
    refine ⟨⟨fun hx hh => ?_, fun hx => ?_⟩, ?_⟩
    · rcases hh with ⟨j, br, k1, j1, j2, j3, j4⟩ | hh
      · obtain ⟨l', k1', k', hlt', p1, p2, p3, p4, p5, p5', p6⟩ := hgl j br j1
        rw [j3] at p2; injection p2 with p2; subst p2
        have hown : isExt k'.2 = false := by
          rcases p5.2 with e | ⟨e, _⟩
          · rw [← e]; exact j4
          · rw [e, isExt_add] at j4; cases j4
        cases hk : isExt k.2 with
        | true =>
          have a1 := q6.1.1 hk
          have a2 : S br.b ∨ w0.heap.size ≤ br.b := Classical.byContradiction fun hc => by have := p6.1.2 hc; rw [hown] at this; cases this
          rw [j2] at a2; exact a1 a2
        | false =>
          have := hij l (List.mem_of_getElem? q1) l' (List.mem_of_getElem? p1) b br k k' q3 p3 j2.symm q4 p4 ⟨q5', hk⟩ ⟨p5', hown⟩
          subst this
          have := hnd i j l q1 p1
          subst this
          rw [h2] at j3; injection j3 with j3; subst j3
          rw [hx] at j4; cases j4
      · omega
    · cases hk : isExt k0.2 with
      | true => rfl
      | false => exact absurd (.inl ⟨i, b, k0, h1, rfl, h2, hk⟩) hx
    · obtain ⟨cs, ty, fz, us, rest, p1, ⟨p2, p2'⟩, p3, p4, p5⟩ := q6.2.resolve_left q5'
      have hem : emk k0.2 = emk k.2 ∧ (isExt k0.2 = false → isExt k.2 = false) := by
        rcases q5.2 with e | ⟨e, e'⟩
        · rw [e]; exact ⟨rfl, fun h => h⟩
        · rw [e]; exact ⟨emk_ext e', fun _ => e'⟩
      refine .inr ⟨cs, ty, fz, us, rest, p1, ⟨p2, by rw [hem.1]; exact p2'⟩, p3, ?_, fun hh => p5 (hem.2 hh)⟩
      have hfree := hlm k0 (List.mem_of_getElem? h2)
      rw [q5.1] at hfree ⊢
      exact nameless_rel hfree p4
  have hargs : absRel gl xs vs := abs_in (fun l hl b hb => by simp only [gl, if_pos hl]; exact hb) hxs hv
  have hSlive : ∀ b, Sl b → (S b ∨ w0.heap.size ≤ b) ∧ ∃ l br k, l ∈ ls ∧ g l = some br ∧ br.b = b ∧ mem[l]? = some k ∧ live k := fun b hb => by
    refine ⟨hSl b hb, ?_⟩
    obtain ⟨i, br, k0, h1, rfl, h2, h3⟩ := hb
    obtain ⟨l, k0', k, hlt, q1, q2, q3, q4, q5, q5', _⟩ := hgl i br h1
    rw [h2] at q2; injection q2 with q2; subst q2
    refine ⟨l, br, k, List.mem_of_getElem? q1, q3, rfl, q4, q5', ?_⟩
    rcases q5.2 with e | ⟨_, e⟩
    · rw [← e]; exact h3
    · exact e
  have hev := h Sl gl hSlive hargs (fun i b k h1 h2 => by
    obtain ⟨_, h3⟩ := hbk i b k h1 h2
    rcases h3 with h3 | ⟨_, _, _, us, _, _, _, _, h3, _⟩
    · rw [h3]; trivial
    · exact factChs_ok h3)
  refine .inr ⟨callFunc_enter hf hb hn _ w, (calls_of_ev hC hf hb (g0 := gl) (k0 := lm.length) (S := Sl) (w := w) (mem := lm) (xs := xs) (vs := vs) (K := fun r' mem' => leAV lw.length r' r (leMem lw.length mem' lw True)) (fun l hh => ?_) hargs hl
    (fun l b k h1 h2 => hbk l b k h1 h2) ⟨fun l b hh => ?_, Fr.refl _ _⟩ (fun l hh => ?_) (fun i j b b' k k' h1 h2 h3 h4 h5 h6 h7 => ?_) hev).mono ?_⟩
  · by_cases hlt : l < lm.length
    · exact hlt
    · simp [gl, hlt] at hh
  · obtain ⟨l', _, _, _, _, _, q3, _⟩ := hgl l b hh; exact hgw.own l' b q3
  · by_cases hlt : l < lm.length
    · exact hlt
    · simp [gl, hlt] at hh
  · obtain ⟨l, k0, q, _, q1, q2, q3, q4, q5, q5', q6⟩ := hgl i b h1
    obtain ⟨l', k0', q', _, p1, p2, p3, p4, p5, p5', p6⟩ := hgl j b' h2
    rw [h4] at q2; injection q2 with q2; subst q2
    rw [h5] at p2; injection p2 with p2; subst p2
    have own : ∀ {k0 k : Blk}, handed k0 k → isExt k0.2 = false → isExt k.2 = false := by
      intro k0 k hh hx
      rcases hh.2 with e | ⟨e, e'⟩
      · rw [← e]; exact hx
      · exact e'
    have := hij l (List.mem_of_getElem? q1) l' (List.mem_of_getElem? p1) b b' q q' q3 p3 h3 q4 p4 ⟨q5', own q5 h6.2⟩ ⟨p5', own p5 h7.2⟩
    subst this
    exact hnd i j l q1 p1
  · rintro en w' ⟨v, r', mem', g', he, hK, hrv, hle', hms, hgw', hdom', hinj'⟩
    obtain ⟨hK2, hK1⟩ := leAV_ok hK
    obtain ⟨_, hlen', hmm⟩ := leMem_ok hK2
    -- the caller's names behind the call
    let gg : GM := fun l => match g l with
      | some b => some b
      | none => if mem.length ≤ l ∧ l < mem.length + (lw.length - lm.length) then g' (lm.length + (l - mem.length)) else none
    have ggold : ∀ l b, g l = some b → gg l = some b := fun l b hb => by simp only [gg, hb]
    have ggnew : ∀ j, j < lw.length - lm.length → gg (mem.length + j) = g' (lm.length + j) := fun j hj => by
      have := hfr j (by simpa using hj)
      simp only [gg, this]
      rw [if_pos ⟨by omega, by omega⟩]
      congr 1; omega
    have ggback : ∀ l b, gg l = some b → g l = some b ∨ (g l = none ∧ ∃ j, j < lw.length - lm.length ∧ l = mem.length + j ∧ g' (lm.length + j) = some b) := fun l b hb => by
      cases hg : g l with
      | some b' => simp only [gg, hg] at hb; exact .inl (by rw [hb])
      | none =>
        simp only [gg, hg] at hb
        split at hb
        · rename_i hc
          exact .inr ⟨rfl, l - mem.length, by omega, by omega, hb⟩
        · cases hb
    have hfree : ∀ {k : Blk} {vs : List Value} {g1 g2 : GM}, k ∈ lw → chsRel g1 k.1 vs → chsRel g2 k.1 vs := fun hk hr => nameless_rel (hlw _ hk) hr
    -- what the callee's names hold behind the call
    have hpost : ∀ (i : Nat) (b : BR) (k : Blk), lw[i]? = some k → g' i = some b → (isExt k.2 = true ↔ ¬ (Sl b.b ∨ w.heap.size ≤ b.b)) ∧ (k.1 = [] ∨ ∃ (cs : Array Value) (ty : TypeId) (fz : Nat × Nat) (us rest : List Value), w'.heap[b.b]? = some (.cells cs ty fz) ∧ (cs.size = b.room ∧ b.e = emk k.2) ∧ cs.toList = us ++ rest ∧ chsRel gg k.1 us ∧ (isExt k.2 = false → ∀ off, off < cs.size → ¬ (fz.1 ≤ off ∧ off < fz.2))) := by
      intro i b k hk hb
      obtain ⟨k', e1, e2, e3⟩ := hmm i k hk
      obtain ⟨p0, p1⟩ := hms i b k' hb e1
      refine ⟨by rw [← e2]; exact p0, ?_⟩
      rcases e3 with e3 | ⟨e3, e4⟩
      · exact .inl e3
      · obtain ⟨cs, ty, fz, us, rest, q1, q2, q3, q4, q5⟩ := p1.resolve_left e3
        exact .inr ⟨cs, ty, fz, us, rest, q1, by rw [← e2]; exact q2, q3, hfree (List.mem_of_getElem? hk) (e4 g' _ q4), by rw [← e2]; exact q5⟩
    have hlwlive : ∀ (j : Nat) (k : Blk), (lw.drop lm.length)[j]? = some k → lw[lm.length + j]? = some k ∧ live k := fun j k hj => ⟨by rw [List.getElem?_drop] at hj; exact hj, hnews k (List.mem_of_getElem? hj)⟩
    have hnewblk : ∀ (j : Nat) (b : BR), j < lw.length - lm.length → g' (lm.length + j) = some b → w.heap.size ≤ b.b ∨ ∃ l b', wrFind (wrsOf ls lm lw) l = some [] ∧ g l = some b' ∧ b'.b = b.b := by
      intro j b hj hb
      have hj' : (lw.drop lm.length)[j]? = some lw[lm.length + j] := by rw [List.getElem?_drop, List.getElem?_eq_getElem]
      obtain ⟨e1, e2⟩ := hlwlive j _ hj'
      obtain ⟨k', m1, m2, m3⟩ := hmm _ _ e1
      have hk' := hms _ b k' hb m1
      have hS' : Sl b.b ∨ w.heap.size ≤ b.b := Classical.byContradiction fun hc => by have := hk'.1.2 hc; rw [m2, e2.2] at this; cases this
      rcases hS' with ⟨i, br, k0, i1, i2, i3, i4⟩ | hS'
      · right
        obtain ⟨l, k0', k, hlt, q1, q2, q3, q4, q5, q5', q6⟩ := hgl i br i1
        have hi' := hle' i br i1
        have hwi : lw[i]? = some lw[i] := List.getElem?_eq_getElem (by omega)
        obtain ⟨k1, n1, n2, n3⟩ := hmm i _ hwi
        have hmk := hmarks i k0 lw[i] i3 hwi
        rcases n3 with n3 | ⟨n3, _⟩
        · refine ⟨l, br, wrFind_nodup (fun c' hc => ?_) (by have := wrsOf_in q1 i3 hwi i4; rw [n3] at this; exact this), q3, i2⟩
          obtain ⟨i2', k2, k2', r1, r2, r3, r4, rfl⟩ := wrsOf_mem hc
          have := hnd i i2' l q1 r1
          subst this
          rw [hwi] at r3; injection r3 with r3; subst r3
          exact n3
        · have := hinj' i (lm.length + j) br b k1 k' hi' hb i2 n1 m1 ⟨n3, by rw [n2, hmk]; exact i4⟩ ⟨by
            rcases m3 with m3 | ⟨m3, _⟩
            · exact absurd m3 e2.1
            · exact m3, by rw [m2]; exact e2.2⟩
          omega
      · exact .inl hS'
    refine ⟨v, gg, he, ?_, ?_⟩
    · refine av_out (g' := cutG g' lw.length) (p := fun l => lm.length ≤ l ∧ l < lw.length) (fun l hl b hb => ?_) hr (hK1 g' v hrv)
      rw [hsn l hl.1]
      rw [ggnew (l - lm.length) (by omega), show lm.length + (l - lm.length) = l by omega]
      exact cutG_le g' _ l b hb
    · refine ⟨fun l b hb => ggold l b hb, ⟨fun l b hb => ?_, ?_⟩, fun l hl hl' => ?_, hgw'.fr.size, fun b hb hne => ?_, fun j k hj b hb => ?_, fun l c' hw b k hb hk => ?_, fun l c' hm => ?_, fun j b hb hb' => ?_, fun i j b b' n1 n2 h1 h2 hbb => ?_⟩
      · rcases ggback l b hb with hb | ⟨_, j, _, _, hb⟩
        · exact Nat.lt_of_lt_of_le (hgw.own l b hb) hgw'.fr.size
        · exact hgw'.own _ b hb
      · refine ⟨hgw'.fr.os.trans hgw.fr.os, hgw'.fr.tape.trans hgw.fr.tape, hgw'.fr.output.trans hgw.fr.output, Nat.le_trans hgw.fr.size hgw'.fr.size, fun k hk hs => ?_⟩
        refine (hgw'.fr.block k (Nat.lt_of_lt_of_le hk hgw.fr.size) (fun hh => ?_)).trans (hgw.fr.block k hk hs)
        rcases hSl k hh with h1 | h1
        · exact hs h1
        · omega
      · cases hq : gg l with
        | none => exact absurd hq hl
        | some b =>
          rcases ggback l b hq with hb | ⟨_, j, hj, rfl, hb⟩
          · rw [hl'] at hb; cases hb
          · simp only [List.length_drop]; omega
      · refine hgw'.fr.block b hb ?_
        rintro ⟨i, br, k0, i1, i2, i3, i4⟩
        obtain ⟨l, k0', k, hlt, q1, q2, q3, q4, q5, q5', q6⟩ := hgl i br i1
        have hwi : lw[i]? = some lw[i] := List.getElem?_eq_getElem (by omega)
        exact hne l _ br (wrsOf_in q1 i3 hwi i4) q3 i2
      · obtain ⟨e1, e2⟩ := hlwlive j k hj
        have hj2 : j < lw.length - lm.length := by have := (List.getElem?_eq_some_iff.1 hj).1; simpa using this
        rw [ggnew j hj2] at hb
        obtain ⟨p0, p1⟩ := hpost _ b k e1 hb
        refine ⟨⟨fun hx => (by rw [e2.2] at hx; cases hx), fun hx => ?_⟩, p1⟩
        refine absurd ?_ hx
        have : Sl b.b ∨ w.heap.size ≤ b.b := Classical.byContradiction fun hc => by have := p0.2 hc; rw [e2.2] at this; cases this
        rcases this with h1 | h1
        · exact hSl _ h1
        · exact .inr (Nat.le_trans hgw.fr.size h1)
      · obtain ⟨i, k0, k', r1, r2, r3, r4, rfl⟩ := wrsOf_mem (wrFind_mem _ _ _ hw)
        obtain ⟨k2, m1, m2, m3⟩ := hmem i l k0 r1 r2
        rw [hk] at m1; injection m1 with m1; subst m1
        have hgi : gl i = some b := by
          have hlt := (List.getElem?_eq_some_iff.1 r2).1
          simp only [gl, if_pos hlt]
          rw [hsl i hlt, r1]; exact hb
        obtain ⟨p0, p1⟩ := hpost i b k' r3 (hle' i b hgi)
        have hkk : k'.2 = k.2 := by
          rw [hmarks i k0 k' r2 r3]
          rcases m2.2 with e | ⟨e, _⟩
          · exact e
          · rw [e, isExt_add] at r4; cases r4
        rw [hkk] at p1
        exact ⟨(hrd l (List.mem_of_getElem? r1) b k hb hk).1, p1⟩
      · obtain ⟨i, k0, k', r1, r2, r3, r4, rfl⟩ := wrsOf_mem hm
        obtain ⟨k2, m1, m2, m3⟩ := hmem i l k0 r1 r2
        refine ⟨k2, m1, m3, ?_⟩
        rcases m2.2 with e | ⟨e, e'⟩
        · rw [← e]; exact r4
        · exact e'
      · rcases ggback _ b hb with hb | ⟨_, j', hj', e, hb⟩
        · rw [hb'] at hb; cases hb
        · exact hnewblk j' b hj' hb
      · rcases ggback _ b h1 with hb | ⟨_, i', hi', e, hb⟩
        · rw [n1] at hb; cases hb
        · rcases ggback _ b' h2 with hb2 | ⟨_, j', hj', e', hb2⟩
          · rw [n2] at hb2; cases hb2
          · have a1 : (lw.drop lm.length)[i']? = some lw[lm.length + i'] := by rw [List.getElem?_drop, List.getElem?_eq_getElem]
            have a2 : (lw.drop lm.length)[j']? = some lw[lm.length + j'] := by rw [List.getElem?_drop, List.getElem?_eq_getElem]
            obtain ⟨e1, e2⟩ := hlwlive i' _ a1
            obtain ⟨e1', e2'⟩ := hlwlive j' _ a2
            obtain ⟨k', m1, m2, m3⟩ := hmm _ _ e1
            obtain ⟨k'', m1', m2', m3'⟩ := hmm _ _ e1'
            have := hinj' _ _ b b' k' k'' hb hb2 hbb m1 m1' ⟨(m3.resolve_left e2.1).1, by rw [m2]; exact e2.2⟩ ⟨(m3'.resolve_left e2'.1).1, by rw [m2']; exact e2'.2⟩
            omega
theorem callLoc (hC : CxOk P C) {f : FuncId} {fn : Func} {c : Code} (hf : P.funcs[f]? = some fn) (hb : fn.body = some c) (hn : (fn.name == "runtime.NumGoroutine") = false) {xs : List AB} (hl : xs.length ≤ fn.ntmps)
    {lm lw : List Blk} {r : AV} {ls : List Nat} {mem : List Blk} (hlen : ls.length = lm.length) (hle : lm.length ≤ lw.length)
    (hnd : ∀ (i j l : Nat), ls[i]? = some l → ls[j]? = some l → i = j)
    (hmem : ∀ (i l : Nat) (k0 : Blk), ls[i]? = some l → lm[i]? = some k0 → ∃ k : Blk, mem[l]? = some k ∧ handed k0 k ∧ k.1 ≠ [])
    (hmarks : ∀ (i : Nat) (k k' : Blk), lm[i]? = some k → lw[i]? = some k' → k'.2 = k.2)
    (hxs : nmABs (fun l => l < lm.length) xs) (hlm : ∀ k ∈ lm, nmChs (fun _ => False) k.1) (hlw : ∀ k ∈ lw, nmChs (fun _ => False) k.1)
    (hnews : ∀ k ∈ lw.drop lm.length, live k) (hr : nmAV (fun l => lm.length ≤ l ∧ l < lw.length) r)
    (h : ∀ (S : Nat → Prop) (w : World) (g : GM) (vs : List Value), absRel g xs vs → (∀ (i : Nat) (b : BR) (k : Blk), g i = some b → lm[i]? = some k → factChs k.1) → evC P S w C g lm.length c (ts0 xs (fn.ntmps - xs.length)) lm fun x ts' mem' => match x with
      | .exit _ => False
      | _ => resK C fn.results.toList ts' mem' fun r' => leAV lw.length r' r (leMem lw.length mem' lw True)) :
    CallOk P S w0 f (xs.map (renAB (renL ls mem.length))) mem ls (renAV (renL ls mem.length) r) ⟨lw.drop lm.length, wrsOf ls lm lw⟩ := by
  intro g w vs hv hrd hgw hfr hij
  exact callLocAt hC hf hb hn hl hlen hle hnd hmem hmarks hxs hlm hlw hnews hr hv hrd hgw hfr hij fun S' g' _ h1 h2 => h S' w g' vs h1 h2

/-! ### A function that is handed one block with a long number, to read -/

theorem nmCV_mono {p q : Nat → Prop} (h : ∀ l, p l → q l) {c : CV} (hc : nmCV p c) : nmCV q c := by
  cases c with
  | ptr => exact h _ hc
  | sl => exact h _ hc
  | fn f fs cs => exact fun l hl => h l (hc l hl)
  | _ => trivial
theorem nmChs_mono {p q : Nat → Prop} (h : ∀ l, p l → q l) : ∀ {cs : List Ch}, nmChs p cs → nmChs q cs
  | [], _ => trivial
  | .cell _ :: _, ⟨h1, h2⟩ => ⟨nmCV_mono h h1, nmChs_mono h h2⟩
  | .num _ :: _, ⟨_, h2⟩ => ⟨trivial, nmChs_mono h h2⟩
  | .vec _ _ :: _, ⟨h1, h2⟩ => ⟨h1, nmChs_mono h h2⟩
theorem nmAB_mono {p q : Nat → Prop} (h : ∀ l, p l → q l) {x : AB} (hx : nmAB p x) : nmAB q x := by
  cases x with
  | cv c => exact nmCV_mono h hx
  | agg cs => exact nmChs_mono h hx
theorem nmABs_mono {p q : Nat → Prop} (h : ∀ l, p l → q l) : ∀ {xs : List AB}, nmABs p xs → nmABs q xs
  | [], _ => trivial
  | _ :: _, ⟨h1, h2⟩ => ⟨nmAB_mono h h1, nmABs_mono h h2⟩
theorem nmAV_mono {p q : Nat → Prop} (h : ∀ l, p l → q l) {x : AV} (hx : nmAV p x) : nmAV q x := by
  cases x with
  | b x => exact nmAB_mono h hx
  | tup xs => exact nmABs_mono h hx
theorem renCV_none {σ : Nat → Nat} {c : CV} (hc : nmCV (fun _ => False) c) : renCV σ c = c := by
  cases c with
  | ptr => exact hc.elim
  | sl => exact hc.elim
  | fn f fs cs => cases cs with
    | nil => rfl
    | cons l _ => exact (hc l (by simp)).elim
  | _ => rfl
theorem renChs_none {σ : Nat → Nat} : ∀ {cs : List Ch}, nmChs (fun _ => False) cs → cs.map (renCh σ) = cs
  | [], _ => rfl
  | .cell c :: r, ⟨h1, h2⟩ => by rw [List.map_cons, renChs_none h2]; show Ch.cell (renCV σ c) :: r = _; rw [renCV_none h1]
  | .num _ :: r, ⟨_, h2⟩ => by rw [List.map_cons, renChs_none h2]; rfl
  | .vec _ _ :: r, ⟨_, h2⟩ => by rw [List.map_cons, renChs_none h2]; rfl
theorem renAB_none {σ : Nat → Nat} {x : AB} (hx : nmAB (fun _ => False) x) : renAB σ x = x := by
  cases x with
  | cv c => show AB.cv (renCV σ c) = _; rw [renCV_none hx]
  | agg cs => show AB.agg (cs.map (renCh σ)) = _; rw [renChs_none hx]
theorem renABs_none {σ : Nat → Nat} : ∀ {xs : List AB}, nmABs (fun _ => False) xs → xs.map (renAB σ) = xs
  | [], _ => rfl
  | _ :: _, ⟨h1, h2⟩ => by rw [List.map_cons, renAB_none h1, renABs_none h2]
theorem renAV_none {σ : Nat → Nat} {x : AV} (hx : nmAV (fun _ => False) x) : renAV σ x = x := by
  cases x with
  | b x => show AV.b (renAB σ x) = _; rw [renAB_none hx]
  | tup xs => show AV.tup (xs.map (renAB σ)) = _; rw [renABs_none hx]

/-- The block is handed over as one that is only read. -/
abbrev roB (cs : List Ch) : Blk := (cs, EXTM)
theorem roOk (hC : CxOk P C) {f : FuncId} {fn : Func} {c : Code} (hf : P.funcs[f]? = some fn) (hb : fn.body = some c) (hn : (fn.name == "runtime.NumGoroutine") = false) {xs : List AB} (hl : xs.length ≤ fn.ntmps) (hx : nmABs (fun l => l < 1) xs)
    (hx0 : ∀ (g : GM) (vs : List Value), absRel g xs vs → ∃ b, g 0 = some b)
    {kc : List Ch} (hkc : nmChs (fun _ => False) kc) (hne : kc ≠ []) {r : AV} (hr : nmAV (fun _ => False) r) {mem : List Blk} {l mk : Nat} (hmem : bnth mem l = some (kc, mk)) (hmk : mk = 0 ∨ mk = EXTM)
    (h : ∀ (S : Nat → Prop) (w : World) (g : GM), factABs xs → factChs kc → evC P S w C g 1 c (ts0 xs (fn.ntmps - xs.length)) [roB kc] fun x ts' mem' => match x with
      | .exit _ => False
      | _ => resK C fn.results.toList ts' mem' fun r' => leAV 1 r' r (leMem 1 mem' [roB kc] True)) :
    CallOk P S w0 f (xs.map (renAB (renL [l] mem.length))) mem [l] r noEff := by
  rw [bnth_eq] at hmem
  have key := callLoc (S := S) (w0 := w0) hC hf hb hn (xs := xs) (lm := [roB kc]) (lw := [roB kc]) (r := r) (ls := [l]) (mem := mem) hl rfl (Nat.le_refl _)
    (fun i j l' h1 h2 => by
      have h1 := (List.getElem?_eq_some_iff.1 h1).1
      have h2 := (List.getElem?_eq_some_iff.1 h2).1
      simp at h1 h2; omega)
    (fun i l' k0 h1 h2 => by
      have hi := (List.getElem?_eq_some_iff.1 h1).1
      simp at hi; subst hi
      simp at h1 h2; subst h1 h2
      refine ⟨_, hmem, ⟨rfl, ?_⟩, hne⟩
      rcases hmk with rfl | rfl
      · exact .inr ⟨rfl, rfl⟩
      · exact .inl rfl)
    (fun i k k' h1 h2 => by rw [h1] at h2; injection h2 with h2; rw [h2])
    hx (fun k hk => by simp at hk; subst hk; exact hkc) (fun k hk => by simp at hk; subst hk; exact hkc) (fun k hk => by simp at hk)
    (nmAV_mono (fun _ hl => hl.elim) hr)
    (fun S w g vs hv hfa => h S w g (factABs_ok hv) (by
        obtain ⟨b, hb⟩ := hx0 g vs hv
        exact hfa 0 b _ hb rfl))
  rw [renAV_none hr] at key
  exact key
theorem capOk (hC : CxOk P C) {f : FuncId} {fn : Func} {c : Code} (hf : P.funcs[f]? = some fn) (hb : fn.body = some c) (hn : (fn.name == "runtime.NumGoroutine") = false) {xs : List AB} (hl : xs.length ≤ fn.ntmps) (hx : nmABs (fun l => l < 1) xs)
    (hx0 : ∀ (g : GM) (vs : List Value), absRel g xs vs → ∃ b, g 0 = some b)
    {n : Nat} {r : AV} (hr : nmAV (fun _ => False) r) {mem : List Blk} {l mk : Nat} (hmem : bnth mem l = some ([.num n], mk)) (hmk : mk = 0 ∨ mk = EXTM)
    (h : ∀ (S : Nat → Prop) (w : World) (g : GM), factABs xs → n < BW → evC P S w C g 1 c (ts0 xs (fn.ntmps - xs.length)) [roB [.num n]] fun x ts' mem' => match x with
      | .exit _ => False
      | _ => resK C fn.results.toList ts' mem' fun r' => leAV 1 r' r (leMem 1 mem' [roB [.num n]] True)) :
    CallOk P S w0 f (xs.map (renAB (renL [l] mem.length))) mem [l] r noEff :=
  roOk hC hf hb hn hl hx hx0 (kc := [.num n]) ⟨trivial, trivial⟩ (by simp) hr hmem hmk fun S w g h1 h2 => h S w g h1 h2.1
end Go.Ev
namespace Go.Ev
open Go
variable {P : Program} {S : Nat → Prop} {w0 : World} {ts : List AV} {mem : List Blk}

/-- From the address on lie these cells, in a block that D lets. -/
def RowAt (w : World) (D : Nat → Prop) (ad : Option Addr) (us : List Value) : Prop :=
  us = [] ∨ ∃ b o, ad = some ⟨b, o, none⟩ ∧ b < w.heap.size ∧ D b ∧ ∀ j u, us[j]? = some u → w.cell? ⟨b, o + j, none⟩ = some u
/-- A slice of n elements of e cells; its cells. -/
def SlAt (w : World) (D : Nat → Prop) (e : Nat) (v : Value) (n : Nat) (us : List Value) : Prop :=
  ∃ ad cap, v = .slice ad n cap ∧ n ≤ cap ∧ cap ≤ 9223372036854775807 ∧ us.length = n * e ∧ RowAt w D ad us

theorem cell_block {w w' : World} {b o : Nat} (h : w'.heap[b]? = w.heap[b]?) : w'.cell? ⟨b, o, none⟩ = w.cell? ⟨b, o, none⟩ := by unfold World.cell?; simp only [h]
theorem RowAt.mono {w w' : World} {D D' : Nat → Prop} {ad : Option Addr} {us : List Value} (h : RowAt w D ad us) (hs : w.heap.size ≤ w'.heap.size) (hk : ∀ b, b < w.heap.size → D b → w'.heap[b]? = w.heap[b]? ∧ D' b) : RowAt w' D' ad us := by
  rcases h with h | ⟨b, o, rfl, h1, h2, h3⟩
  · exact .inl h
  · exact .inr ⟨b, o, rfl, by omega, (hk b h1 h2).2, fun j u hj => (cell_block (hk b h1 h2).1).trans (h3 j u hj)⟩
theorem SlAt.mono {w w' : World} {D D' : Nat → Prop} {e : Nat} {v : Value} {n : Nat} {us : List Value} (h : SlAt w D e v n us) (hs : w.heap.size ≤ w'.heap.size) (hk : ∀ b, b < w.heap.size → D b → w'.heap[b]? = w.heap[b]? ∧ D' b) : SlAt w' D' e v n us := by
  obtain ⟨ad, cap, h1, h2, h3, h4, h5⟩ := h
  exact ⟨ad, cap, h1, h2, h3, h4, h5.mono hs hk⟩
/-- What lies in the base world lies there still. -/
theorem SlAt.gw {g : GM} {w : World} (hg : GW g S w0 w) {D : Nat → Prop} {e : Nat} {v : Value} {n : Nat} {us : List Value} (h : SlAt w0 (fun b => ¬ S b ∧ D b) e v n us) : SlAt w (fun b => (¬ S b ∧ b < w0.heap.size) ∧ D b) e v n us :=
  h.mono hg.fr.size fun b hb hd => ⟨hg.fr.block b hb hd.1, ⟨hd.1, hb⟩, hd.2⟩

/-- An index into a slice that came in. -/
theorem exec_index_out {o : Oper} {t : TypeId} {x y : Operand} (ho : o.op = .indexAddr t x y) {e esz : Nat} (hT : TyOk P t (.slice e esz)) {b off n c j : Nat} {k : IntKind} (hx0 : opv ts x = .b (.cv (.v (.slice (some ⟨b, off, none⟩) n c)))) (hy0 : opv ts y = .b (.cv (.int k (Int.ofNat j)))) (hj : j < n) :
    Exec P S w0 o ts mem [] (.b (.cv (.v (.pointer (some ⟨b, off + j * esz, none⟩))))) noEff := by
  obtain ⟨_, hu, hs⟩ := hT
  refine exec_pure fun g a w hx => ?_
  have q1 := hx x (by simp [ho, Op.operands])
  have q2 := hx y (by simp [ho, Op.operands])
  rw [hx0] at q1
  rw [hy0] at q2
  have q1 : a.eval x = _ := q1
  refine ⟨_, ?_, rfl⟩
  simp [execOp, ho, q1, q2.1, Instr.indexAt, asIntOf, run_underlying' hu, hj, run_sizeOf' hs, add_addr]

/-- An index into an array that came in. -/
theorem exec_index_arr_out {o : Oper} {t : TypeId} {x y : Operand} (ho : o.op = .indexAddr t x y) {n e esz : Nat} {z : List Ch} (hT : TyOk P t (.arr n e esz z)) {b off j : Nat} {k : IntKind} (hx0 : opv ts x = .b (.cv (.v (.pointer (some ⟨b, off, none⟩))))) (hy0 : opv ts y = .b (.cv (.int k (Int.ofNat j)))) (hj : j < n) :
    Exec P S w0 o ts mem [] (.b (.cv (.v (.pointer (some ⟨b, off + j * esz, none⟩))))) noEff := by
  obtain ⟨v, _, hu, hs, hn, _⟩ := hT
  refine exec_pure fun g a w hx => ?_
  have q1 := hx x (by simp [ho, Op.operands])
  have q2 := hx y (by simp [ho, Op.operands])
  rw [hx0] at q1
  rw [hy0] at q2
  have q1 : a.eval x = _ := q1
  refine ⟨_, ?_, rfl⟩
  have hcond : (0 : Int) ≤ Int.ofNat j ∧ Int.ofNat j < (n : Int) := ⟨Int.natCast_nonneg j, by show (j : Int) < n; omega⟩
  have htn : (Int.ofNat j).toNat = j := rfl
  simp [execOp, ho, q1, q2.1, Instr.indexAt, asIntOf, run_underlying' hu, Instr.sureAddr, hj, run_sizeOf' hs, add_addr]

theorem out_cell {g : GM} {w : World} (hg : GW g S w0 w) {b off : Nat} (hb : b < w0.heap.size) (hS : ¬ S b) {y : Value} (hy : w0.cell? ⟨b, off, none⟩ = some y) : w.cell? ⟨b, off, none⟩ = some y :=
  (cell_block (hg.fr.block b hb hS)).trans hy
/-- A load of one cell that came in. -/
theorem exec_load_out {o : Oper} {t : TypeId} {x : Operand} (ho : o.op = .load t x) {ti : TI} (hT : TyOk P t ti) (hsc : isSc ti = true) {b off : Nat} (hx0 : opv ts x = .b (.cv (.v (.pointer (some ⟨b, off, none⟩)))))
    (hb : b < w0.heap.size) (hS : ¬ S b) {y : Value} (hy : w0.cell? ⟨b, off, none⟩ = some y) {cv : CV} (hcv : ∀ g, cv.rel g y) : Exec P S w0 o ts mem [] (.b (.cv cv)) noEff := by
  obtain ⟨d, hu, hd, hs⟩ := ty_sc hT hsc
  refine exec_read fun g a w hx _ hg => ?_
  have q1 := hx x (by simp [ho, Op.operands])
  rw [hx0] at q1
  have q1 : a.eval x = _ := q1
  refine ⟨y, ?_, hcv g⟩
  have hload : (loadVar t ⟨b, off, none⟩).run P w = .ok y w := by
    unfold loadVar
    rw [Sem.run_bind, run_isAgg' hu, hd]
    simp only [Result.andThen_ok, Bool.false_eq_true, if_false, run_load, out_cell hg hb hS hy]
  simp only [execOp, ho, q1, Instr.loadAt, Instr.sureAddr, Sem.run_bind, Sem.run_pure, Result.andThen_ok, hload]
/-- A load of many cells that came in. -/
theorem exec_load_outs {o : Oper} {t : TypeId} {x : Operand} (ho : o.op = .load t x) {ti : TI} (hT : TyOk P t ti) {sz : Nat} (hsz : szOf ti = some sz) {b off : Nat} (hx0 : opv ts x = .b (.cv (.v (.pointer (some ⟨b, off, none⟩)))))
    (hb : b < w0.heap.size) (hS : ¬ S b) {us : List Value} (hl : us.length = sz) (hy : ∀ j u, us[j]? = some u → w0.cell? ⟨b, off + j, none⟩ = some u) {cs : List Ch} (hcs : ∀ g, chsRel g cs us) : Exec P S w0 o ts mem [] (.b (.agg cs)) noEff := by
  obtain ⟨d, hu, hd, hs⟩ := ty_agg hT hsz
  refine exec_read fun g a w hx _ hg => ?_
  have q1 := hx x (by simp [ho, Op.operands])
  rw [hx0] at q1
  have q1 : a.eval x = _ := q1
  refine ⟨.agg us.toArray, ?_, ⟨_, rfl, by simpa using hcs g⟩⟩
  have hload : (loadVar t ⟨b, off, none⟩).run P w = .ok (.agg us.toArray) w := by
    have h1 := run_loadCells_list (P := P) w ⟨b, off, none⟩ us (fun j v hj => by rw [add_addr]; exact out_cell hg hb hS (hy j v hj))
    unfold loadVar
    rw [Sem.run_bind, run_isAgg' hu, hd]
    simp only [Result.andThen_ok, if_true, Sem.run_bind, run_sizeOf' hs]
    rw [← hl, h1]
    rfl
  simp only [execOp, ho, q1, Instr.loadAt, Instr.sureAddr, Sem.run_bind, Sem.run_pure, Result.andThen_ok, hload]
/-- What came in as a source. -/
theorem src_out {g : GM} {w : World} {D : Nat → Prop} {sz m : Nat} {v : Value} {us : List Value} {h : Nat → CV} (hv : SlAt w D sz v m us) (hr : ∀ j u, us[j]? = some u → u.oneCell' = true ∧ (h j).rel g u) : Src P g w v sz m h us := by
  obtain ⟨ad, cap, rfl, _, _, hl, hrow⟩ := hv
  rcases hrow with rfl | ⟨b, o, rfl, _, _, hc⟩
  · rcases Nat.eq_zero_or_pos m with rfl | hm
    · exact src_nil
    · have hz : sz = 0 := by
        simp only [List.length_nil] at hl
        rcases Nat.mul_eq_zero.1 hl.symm with h | h
        · omega
        · exact h
      subst hz
      refine ⟨fun w' => rfl, fun n w' hn _ => ?_, by simp, fun j u hj => by simp at hj⟩
      cases ad with
      | none => simp [Builtin.firstCells]
      | some ad => exact run_firstCells_some (P := P) w' 0 n ad m cap _ (by simp) (fun j u hj => by simp at hj)
  · exact src_cells hl (fun j u hj => by rw [add_addr]; exact hc j u hj) hr

/-- A call of a function that only reads: by what it does in each world. -/
theorem CallOk.of_calls {f : FuncId} {fn : Func} {c : Code} (hf : P.funcs[f]? = some fn) (hb : fn.body = some c) (hn : (fn.name == "runtime.NumGoroutine") = false) {args : List AB} {rd : List Nat} {r : AV}
    (h : ∀ (g : GM) (w : World) (vs : List Value), absRel g args vs → (∀ l ∈ rd, ∀ b k, g l = some b → mem[l]? = some k → BlkRel S w0 g w b k) → GW g S w0 w → Calls P f vs.toArray w fun en w' => ∃ v, en = .returned v ∧ r.rel g v ∧ Fr (fun _ => False) w w') :
    CallOk P S w0 f args mem rd r noEff :=
  fun g w vs hv hrd hgw _ _ => .inr ⟨callFunc_enter hf hb hn _ w, (h g w vs hv hrd hgw).mono fun _ _ ⟨v, he, hr, hF⟩ => ⟨v, g, he, hr, Post.pure hgw hF⟩⟩
/-- A function that only reads, in one world. -/
theorem calls_read {C : Cx} (hC : CxOk P C) {f : FuncId} {fn : Func} {c : Code} (hf : P.funcs[f]? = some fn) (hb : fn.body = some c) {xs : List AB} {vs : List Value} {r : AV} (hl : xs.length ≤ fn.ntmps) (hfr : freeAV r) {g : GM} {w : World} (hx : absRel noG xs vs)
    (h : evC P noS w C noG 0 c (ts0 xs (fn.ntmps - xs.length)) [] fun x ts' mem' => match x with
      | .exit _ => False
      | _ => resK C fn.results.toList ts' mem' fun r' => leAV 0 r' r True) :
    Calls P f vs.toArray w fun en w' => ∃ v, en = .returned v ∧ r.rel g v ∧ Fr (fun _ => False) w w' := by
  refine (calls_of_ev hC hf hb (g0 := noG) (k0 := 0) (S := noS) (w := w) (mem := []) (xs := xs) (vs := vs) (K := fun r' _ => leAV 0 r' r True) (fun l h => absurd rfl h) hx hl (fun l b k h => by cases h) ⟨(fun l b h => by cases h), Fr.refl _ _⟩ (fun l h => absurd rfl h) (fun l l' b b' k k' h => by cases h) h).mono ?_
  rintro en w' ⟨v, r', mem', g', he, hK, hr, _, _, hg, _⟩
  exact ⟨v, he, freeAV_ok hfr ((leAV_ok hK).2 g' v hr), hg.fr⟩
/-- An own slice of a row of cells, as one that lies in memory. -/
theorem sl_own {g : GM} {w : World} {l off i m c : Nat} {v : Value} (hv : (CV.sl l off i m c).rel g v) (hgw : GW g S w0 w) {k : Blk} (hb : ∀ b, g l = some b → BlkRel S w0 g w b k) {n : Nat} {f : Nat → CV} {r : List Ch} (hr : dropCh k.1 off = some (.vec n f :: r))
    {sz : Nat} (hm : i + m * sz ≤ n) : ∃ us, SlAt w (fun b => ∃ br, g l = some br ∧ br.b = b) sz v m us ∧ ∀ j u, us[j]? = some u → u.oneCell' = true ∧ (f (i + j)).rel g u := by
  rcases hv with ⟨rfl, rfl, ad, rfl⟩ | ⟨hn, cap, hc, hcap, b, hgb, _, rfl⟩
  · exact ⟨[], ⟨ad, 0, rfl, Nat.le_refl _, by omega, by simp, .inl rfl⟩, fun j u hj => by simp at hj⟩
  · obtain ⟨pre, e1, e2⟩ := dropCh_ok _ _ _ hr
    obtain ⟨cs, ty, fz, us0, rest, h2, _, h2a, h3, _⟩ := (hb b hgb).2.resolve_left (by rw [e1]; simp)
    rw [e1] at h3
    obtain ⟨us, ws, e5, q1, us', ws', rfl, q3, q4⟩ := (chsRel_append _ _ _).1 h3
    have l1 := chsRel_size _ _ q1
    refine ⟨(us'.drop i).take (m * sz), ⟨_, cap, rfl, by omega, hcap, by rw [List.length_take, List.length_drop, q3.1]; omega, .inr ⟨b.b, off + i, rfl, hgw.own l b hgb, ⟨b, hgb, rfl⟩, fun j u hj => ?_⟩⟩, fun j u hj => ?_⟩
    · rw [List.getElem?_take] at hj
      split at hj
      · rw [List.getElem?_drop] at hj
        have hlt := (List.getElem?_eq_some_iff.1 hj).1
        rw [cell_blk h2, ← Array.getElem?_toList, h2a, e5, List.append_assoc, List.append_assoc, List.getElem?_append_right (by omega), List.getElem?_append_left (by omega), ← hj]
        congr 1; omega
      · cases hj
    · rw [List.getElem?_take] at hj
      split at hj
      · rw [List.getElem?_drop] at hj
        exact q3.2 _ _ hj
      · cases hj
/-- A call by what it leaves of each values, in each world. -/
theorem CallOk.of_at {f : FuncId} {args : List AB} {rd : List Nat} {r : AV} {e : Eff}
    (h : ∀ (g : GM) (w : World) (vs : List Value), absRel g args vs → (∀ l ∈ rd, ∀ b k, g l = some b → mem[l]? = some k → BlkRel S w0 g w b k) → GW g S w0 w → (∀ i, i < e.news.length → g (mem.length + i) = none) → InjOn g mem rd → CallAt P S w0 f vs mem g w r e) :
    CallOk P S w0 f args mem rd r e := h
end Go.Ev
namespace Go.Ev
open Go
variable {P : Program} {S : Nat → Prop} {w0 : World} {ts : List AV} {mem : List Blk}

/-- An operation that writes into one own block, and hands back a value. -/
theorem exec_write_v {o : Oper} {rd : List Nat} {l : Nat} {c' : List Ch} {av : AV}
    (h : ∀ (g : GM) (a : Act) (w : World), (∀ x ∈ o.op.operands, (opv ts x).rel g (a.eval x)) → (∀ l ∈ rd, ∀ b k, g l = some b → mem[l]? = some k → BlkRel S w0 g w b k) → GW g S w0 w →
      ∃ (v : Value) (b : BR) (k : Blk) (cs : Array Value) (ty : TypeId) (fz : Nat × Nat) (us rest : List Value), g l = some b ∧ mem[l]? = some k ∧ live k ∧ BlkRel S w0 g w b k ∧ (execOp a.eval o).run P w = .ok (.value v) (putB w b.b (.cells cs ty fz)) ∧ av.rel g v ∧ (cs.size = b.room ∧ b.e = emk k.2) ∧ cs.toList = us ++ rest ∧ chsRel g c' us ∧
        ∀ off, off < cs.size → ¬ (fz.1 ≤ off ∧ off < fz.2)) : Exec P S w0 o ts mem rd av ⟨[], [(l, c')]⟩ := by
  intro g a w hx hrd hg _ _ next Q hn
  obtain ⟨v, b, k, cs, ty, fz, us, rest, h1, h2, hlive, hbr, h3, hv, hroom, h3a, h4, h5⟩ := h g a w hx hrd hg
  have hb := hg.own l b h1
  have hown : S b.b ∨ w0.heap.size ≤ b.b := Classical.byContradiction fun hc => by have := hbr.1.2 hc; rw [hlive.2] at this; cases this
  unfold Oper.wp
  rw [h3]
  refine hn v _ g hv ⟨GM.le_refl g, hg.put h1 hown _, fun l h h' => absurd h' h, by rw [putB_size]; exact Nat.le_refl _, fun b' hb' hne => ?_, fun i k h => by simp at h, fun l' c hw b' k' hb' hk' => ?_, fun l' c hm => ?_, fun i b' hb' hn' => (by rw [hn'] at hb'; cases hb'), fun i j b' b2 q1 q2 q3 q4 _ => (by rw [q1] at q3; cases q3)⟩
  · rw [putB_get _ _ _ _ hb, if_neg ?_]
    intro hbe
    exact hne l c' b (by simp) h1 hbe
  · simp only [wrFind] at hw
    split at hw
    · rename_i he
      have he := Nat.eq_of_beq_eq_true he
      subst he
      injection hw with hw; subst hw
      rw [h1] at hb'; injection hb' with hb'; subst hb'
      rw [h2] at hk'; injection hk' with hk'; subst hk'
      exact ⟨hbr.1, .inr ⟨cs, ty, fz, us, rest, by rw [putB_get _ _ _ _ hb, if_pos rfl], hroom, h3a, h4, fun _ => h5⟩⟩
    · cases hw
  · simp only [List.mem_cons, List.not_mem_nil, or_false, Prod.mk.injEq] at hm
    obtain ⟨rfl, rfl⟩ := hm
    exact ⟨k, h2, hlive⟩

/-- An operation that makes one block, or none, handing back an empty slice. -/
theorem exec_new0 {o : Oper} {rd : List Nat} {m c : Nat} {chs : List Ch} {mk : Nat} (hmk : isExt mk = false)
    (h : ∀ (g : GM) (a : Act) (w : World), (∀ x ∈ o.op.operands, (opv ts x).rel g (a.eval x)) → (∀ l ∈ rd, ∀ b k, g l = some b → mem[l]? = some k → BlkRel S w0 g w b k) → GW g S w0 w → g mem.length = none →
      (m = 0 ∧ c = 0 ∧ ∃ ad, (execOp a.eval o).run P w = .ok (.value (.slice ad 0 0)) w) ∨
      ∃ (v : Value) (cs : Array Value) (t : TypeId) (fz : Nat × Nat) (d : Nat), (execOp a.eval o).run P w = .ok (.value v) (moreW w (.cells cs t fz) d) ∧ (CV.sl mem.length 0 0 m c).rel (g.ext mem.length ⟨w.heap.size, cs.size, emk mk⟩) v ∧ (∃ us rest, cs.toList = us ++ rest ∧ chsRel (g.ext mem.length ⟨w.heap.size, cs.size, emk mk⟩) chs us) ∧
        ∀ off, off < cs.size → ¬ (fz.1 ≤ off ∧ off < fz.2)) : Exec P S w0 o ts mem rd (.b (.cv (.sl mem.length 0 0 m c))) ⟨[(chs, mk)], []⟩ := by
  intro g a w hx hrd hg hf hij next Q hn
  have hf0 : g mem.length = none := hf 0 (by simp)
  rcases h g a w hx hrd hg hf0 with ⟨rfl, rfl, ad, h1⟩ | ⟨v, cs, t, fz, d, h1, h2, ⟨us, rest, h3a, h3⟩, h4⟩
  · unfold Oper.wp
    rw [h1]
    refine hn _ _ g (.inl ⟨rfl, rfl, ad, rfl⟩) ⟨GM.le_refl g, hg, fun l hl hl' => absurd hl' hl, Nat.le_refl _, fun b hb _ => rfl, fun i k hi b hb => ?_, fun l c h => by simp [wrFind] at h, fun l c h => by simp at h, fun i b hb hn' => (by rw [hn'] at hb; cases hb), fun i j b b' h1 h2 h3 h4 hbb => (by rw [h1] at h3; cases h3)⟩
    cases i with
    | succ i => simp at hi
    | zero => rw [Nat.add_zero, hf0] at hb; cases hb
  · have hexec : ∀ (av : AV), av = .b (.cv (.sl mem.length 0 0 m c)) → o.wp P a w next Q := by
      intro av hav
      unfold Oper.wp
      rw [h1]
      refine hn v _ _ h2 ⟨GM.ext_le hf0, hg.more hf0 _ _, fun l hl hl' => ?_, ?_, fun b hb _ => ?_, fun i k hi b hb => ?_, fun l c h => by simp [wrFind] at h, fun l c h => by simp at h, fun i b hb hn => ?_, fun i j b b' h1 h2 h3 h4 hbb => ?_⟩
      · unfold GM.ext at hl
        by_cases e : l = mem.length
        · subst e; simp
        · rw [if_neg e] at hl; exact absurd hl' hl
      · show w.heap.size ≤ (w.heap.push _).size
        simp
      · exact push_get w _ b hb
      · cases i with
        | succ i => simp at hi
        | zero =>
          simp only [List.getElem?_cons_zero, Option.some.injEq] at hi
          subst hi
          rw [Nat.add_zero, GM.ext_same] at hb
          injection hb with hb
          subst hb
          refine ⟨⟨fun h => (by rw [hmk] at h; cases h), fun h => absurd (.inr hg.fr.size) h⟩, .inr ⟨cs, t, fz, us, rest, by show (w.heap.push _)[w.heap.size]? = _; simp, ⟨rfl, rfl⟩, h3a, h3, fun _ => h4⟩⟩
      · unfold GM.ext at hb
        by_cases e : mem.length + i = mem.length
        · rw [if_pos e] at hb; injection hb with hb; subst hb; exact .inl (Nat.le_refl _)
        · rw [if_neg e, hn] at hb; cases hb
      · unfold GM.ext at h3 h4
        by_cases e : mem.length + i = mem.length
        · by_cases e' : mem.length + j = mem.length
          · omega
          · rw [if_neg e', h2] at h4; cases h4
        · rw [if_neg e, h1] at h3; cases h3
    exact hexec _ rfl

theorem rel_vec_new {g : GM} {n sz : Nat} {h : Nat → CV} {cs rest : List Value} (hl : cs.length = n * sz) (hr : ∀ j u, cs[j]? = some u → u.oneCell' = true ∧ (h j).rel g u) : ∃ us rest', cs ++ rest = us ++ rest' ∧ chsRel g [.vec (n * sz) h] us :=
  ⟨cs, rest, rfl, cs, [], by simp, ⟨hl, hr⟩, rfl⟩

section
variable {o : Oper} {c : Call} {x y : Operand} {t u e : TypeId} {z : Value} {sz by' : Nat} {d : TypeDesc}
/-- An append to nothing. -/
theorem exec_append_nil (ho : o.op = .call c) (hc : c.callee = .builtin .append) (hargs : c.args = #[x, y]) (htys : c.argTypes = #[t, u])
    (ht : P.underlying t = some (.slice e)) (hu : P.underlying u = some d) (hd : ∀ k, d ≠ .int k) (hi : (P.info? e).map (fun i => (i.zero, i.size, i.bytes)) = some (some z, sz, by')) (hzs : z.cells.size = sz)
    {m : Nat} {h : Nat → CV} {rd : List Nat} (hx0 : opv ts x = .b (.cv (.v (.slice none 0 0))))
    {mk : Nat} (hmk : isExt mk = false) (hez : emk mk = sz) (hmx : m * by' ≤ 140737488355328) (hm63 : m ≤ 9223372036854775807)
    (hsrc : ∀ (g : GM) (a : Act) (w : World), (∀ z ∈ o.op.operands, (opv ts z).rel g (a.eval z)) → (∀ l ∈ rd, ∀ b k, g l = some b → mem[l]? = some k → BlkRel S w0 g w b k) → GW g S w0 w → ∃ news, Src P g w (a.eval y) sz m h news) :
    Exec P S w0 o ts mem rd (.b (.cv (.sl mem.length 0 0 m m))) ⟨[([.vec (m * sz) h], mk)], []⟩ := by
  refine exec_new0 hmk fun g a w hx hr hg hf0 => ?_
  obtain ⟨i, hi1, hi2, hi3, hi4⟩ := info_all hi
  subst hi3
  obtain ⟨news, hs⟩ := hsrc g a w hx hr hg
  have hx1 : a.eval x = .slice none 0 0 := by
    have := hx x (by simp [ho, Op.operands, Call.operands, hargs])
    rw [hx0] at this; exact this
  have hrun : ∀ v w', (Builtin.append_ #[t, u] o.type #[a.eval x, a.eval y]).run P w = .ok v w' → (execOp a.eval o).run P w = .ok (.value v) w' := fun v w' hr => by
    simp [execOp, ho, resolve, hc, hargs, htys, invoke, builtin, hr]
  by_cases hm : m = 0
  · subst hm
    have hnl : news = [] := List.eq_nil_of_length_eq_zero (by rw [hs.size]; simp)
    subst hnl
    have hz := hs.all w rfl
    have hr2 := run_append_nothing (ty := o.type) (ad := none) (cap := 0) (n := 0) ht hu hd hi1 w hs.len (by simpa using hz) (Nat.le_refl _)
    exact .inl ⟨rfl, rfl, none, hrun _ _ (by rw [hx1]; exact hr2)⟩
  · refine .inr ?_
    have hcapb := growslice_fits (bytes := i.bytes) (need := 0 + m) (old := 0) (by omega) (by rw [hi4]; simpa using hmx)
    have hr2 := run_append_grow' (ty := o.type) (ad := none) (n := 0) (cap := 0) (olds := []) ht hu hd hi1 hi2 w hs.len (fun w' hw => hs.all w' hw) (fun w' _ => by
      have := (src_nil (P := P) (g := g) (w := w') (ad := none) (sz := i.size) (c := 0) (h := h)).get 0 w' (Nat.le_refl _) rfl
      simpa using this) (by omega) (by omega) hcapb
    have hgc := grownCap_has w (0 + m) 0 e (by omega)
    refine ⟨_, _, _, _, _, hrun _ _ (by rw [hx1]; exact hr2), ?_, ?_, fun off _ => by simp⟩
    · generalize hG : grownCap w (0 + m) 0 e = G at *
      refine .inr ⟨Nat.le_refl _, G, by omega, hgc.2, _, GM.ext_same _ _ _, ?_, by simp⟩
      simp only [Array.size_append, List.size_toArray, List.length_nil, zeroCells_size, hs.size, hzs, Nat.zero_add, hez]
      have : m * i.size + (G - m) * i.size = G * i.size := by rw [← Nat.add_mul]; congr 1; omega
      omega
    · simp only [List.nil_append, Array.toList_append]
      exact rel_vec_new (n := m) (sz := i.size) hs.size fun j u hj => ⟨(hs.rel j u hj).1, CV.rel_mono (GM.ext_le hf0) (hs.rel j u hj).2⟩
/-- An append of so many noughts to nothing. -/
theorem exec_append_make {kn k : IntKind} (ho : o.op = .call c) (hc : c.callee = .builtin .append) (hargs : c.args = #[x, y]) (htys : c.argTypes = #[t, u])
    (ht : P.underlying t = some (.slice e)) (hu : P.underlying u = some (.int kn)) (hi : (P.info? e).map (fun i => (i.zero, i.size, i.bytes)) = some (some z, 1, by')) (hzs : z.cells = #[z]) (hz1 : z.oneCell' = true)
    {m : Nat} {cv : CV} (hcv : ∀ g, cv.rel g z) (hx0 : opv ts x = .b (.cv (.v (.slice none 0 0)))) (hy0 : opv ts y = .b (.cv (.int k (Int.ofNat m)))) (h0 : 0 < m) (hmx : m * by' ≤ 140737488355328) (hm63 : m ≤ 9223372036854775807) :
    Exec P S w0 o ts mem [] (.b (.cv (.sl mem.length 0 0 m m))) ⟨[([.vec m fun _ => cv], 0)], []⟩ := by
  refine exec_new rfl fun g a w hx hr hg hf0 => ?_
  obtain ⟨i, hi1, hi2, hi3, hi4⟩ := info_all hi
  have hx1 : a.eval x = .slice none 0 0 := by
    have := hx x (by simp [ho, Op.operands, Call.operands, hargs])
    rw [hx0] at this; exact this
  have hy1 : a.eval y = .int k (Int.ofNat m) := by
    have := hx y (by simp [ho, Op.operands, Call.operands, hargs])
    rw [hy0] at this; exact this.1
  have hrun : ∀ v w', (Builtin.append_ #[t, u] o.type #[a.eval x, a.eval y]).run P w = .ok v w' → (execOp a.eval o).run P w = .ok (.value v) w' := fun v w' hr => by
    simp [execOp, ho, resolve, hc, hargs, htys, invoke, builtin, hr]
  have hr2 := Lib.run_append_nil_zeros w t u o.type e i z k kn ht hu hi1 hi2 m h0 (by omega) (by omega) (by rw [hi4]; omega)
  have hgc := grownCap_has w m 0 e (by omega)
  refine ⟨_, _, _, _, 1, hrun _ _ (by rw [hx1, hy1]; exact hr2), ?_, ?_, fun off _ => by simp⟩
  · generalize hG : grownCap w m 0 e = G at *
    refine .inr ⟨Nat.le_refl _, G, by omega, hgc.2, _, GM.ext_same _ _ _, ?_, by simp⟩
    simp only [Array.size_append, zeroCells_size, hzs, show emk 0 = 1 from rfl, List.size_toArray, List.length_cons, List.length_nil]
    omega
  · refine ⟨(Builtin.zeroCells z.cells m).toList, (Builtin.zeroCells z.cells (grownCap w m 0 e - m)).toList, by simp, _, [], (List.append_nil _).symm, ⟨by rw [Array.length_toList, zeroCells_size, hzs]; simp, fun j v hj => ?_⟩, rfl⟩
    have : v = z := by
      rw [hzs] at hj
      simp only [Builtin.zeroCells, Array.toList_map, List.getElem?_map, Option.map_eq_some_iff] at hj
      obtain ⟨q, _, rfl⟩ := hj
      simp [Nat.mod_one]
    rw [this]
    exact ⟨hz1, hcv _⟩
/-- A slice is made: n elements, room for cp, of one cell each. -/
theorem exec_make {k k' : IntKind} (ho : o.op = .makeSlice t x y) (ht : P.underlying t = some (.slice e)) (hi : (P.info? e).map (fun i => (i.zero, i.size, i.bytes)) = some (some z, 1, by')) (hzs : z.cells = #[z]) (hz1 : z.oneCell' = true)
    {m cp : Nat} {cv : CV} (hcv : ∀ g, cv.rel g z) (hx0 : opv ts x = .b (.cv (.int k (Int.ofNat m)))) (hy0 : opv ts y = .b (.cv (.int k' (Int.ofNat cp)))) (hle : m ≤ cp) (hmx : by' * cp ≤ 281474976710656) (hm63 : cp ≤ 9223372036854775807) :
    Exec P S w0 o ts mem [] (.b (.cv (.sl mem.length 0 0 m cp))) ⟨[([.vec cp fun _ => cv], 0)], []⟩ := by
  refine exec_new rfl fun g a w hx hr hg hf0 => ?_
  obtain ⟨i, hi1, hi2, hi3, hi4⟩ := info_all hi
  have hx1 : a.eval x = .int k (Int.ofNat m) := by
    have := hx x (by simp [ho, Op.operands])
    rw [hx0] at this; exact this.1
  have hy1 : a.eval y = .int k' (Int.ofNat cp) := by
    have := hx y (by simp [ho, Op.operands])
    rw [hy0] at this; exact this.1
  have hr2 := run_make (P := P) w t e i z ht hi1 hi2 k k' (m : Int) (cp : Int) (by omega) (by omega) (by rw [hi4]; omega) (by omega)
  refine ⟨_, _, _, _, 0, (by simp only [execOp, ho, hx1, hy1]; rw [Sem.run_bind, show (Instr.makeSlice t (.int k (Int.ofNat m)) (.int k' (Int.ofNat cp))).run P w = _ from hr2]; rfl), ?_, ?_, fun off _ => by simp⟩
  · refine .inr ⟨hle, cp, Nat.le_refl _, hm63, _, GM.ext_same _ _ _, ?_, by simp⟩
    simp only [size_madeCells, hi3, show emk 0 = 1 from rfl, Int.toNat_natCast]
    omega
  · refine ⟨(madeCells z.cells ((cp : Int).toNat * i.size)).toList, [], by simp, _, [], (List.append_nil _).symm, ⟨by rw [Array.length_toList, size_madeCells, hi3]; simp, fun j v hj => ?_⟩, rfl⟩
    have : v = z := by
      rw [hzs] at hj
      simp only [madeCells, Array.toList_map, List.getElem?_map, Option.map_eq_some_iff] at hj
      obtain ⟨q, _, rfl⟩ := hj
      simp [Nat.mod_one]
    rw [this]
    exact ⟨hz1, hcv _⟩
/-- A text's bytes. -/
theorem exec_bytes {x : Operand} {t t' : TypeId} {s : ByteArray} {h : Nat → CV} (ho : o.op = .convert t t' x) (hs : P.underlying t = some .string) (hd : P.underlying t' = some (.slice e)) (he : P.underlying e = some (.int .u8)) (hx0 : opv ts x = .b (.cv (.v (.string s))))
    (hh : ∀ j (hj : j < s.size), h j = .int .u8 (Int.ofNat (s[j]'hj).toNat)) (h63 : s.size ≤ 9223372036854775807) : Exec P S w0 o ts mem [] (.b (.cv (.sl mem.length 0 0 s.size s.size))) ⟨[([.vec s.size h], 0)], []⟩ := by
  refine exec_new rfl fun g a w hx hr hg hf0 => ?_
  have hx1 : a.eval x = .string s := by
    have := hx x (by simp [ho, Op.operands])
    rw [hx0] at this; exact this
  have hr2 := run_bytes_of_string (P := P) w t t' e s hs hd he
  have hgc := grownCap_has w s.size 0 e (by omega)
  refine ⟨_, _, _, _, 1, (by simp only [execOp, ho, hx1]; rw [Sem.run_bind, hr2]; rfl), ?_, ?_, fun off hoff => by dsimp only; omega⟩
  · generalize hG : grownCap w s.size 0 e = G at *
    refine .inr ⟨Nat.le_refl _, G, by omega, hgc.2, _, GM.ext_same _ _ _, ?_, by simp⟩
    simp only [bytesRow, Array.size_append, Array.size_map, Array.size_replicate, show emk 0 = 1 from rfl]
    have : s.data.size = s.size := rfl
    omega
  · refine ⟨s.data.toList.map fun b => .int .u8 b.toNat, List.replicate (grownCap w s.size 0 e - s.size) (.int .u8 0), by simp [bytesRow], _, [], (List.append_nil _).symm, ⟨by rw [List.length_map]; rfl, fun j v hj => ?_⟩, rfl⟩
    obtain ⟨_, _, _, hrel⟩ := src_string (P := P) (g := g.ext mem.length ⟨w.heap.size, (bytesRow s (grownCap w s.size 0 e)).size, emk 0⟩) (w := w) s hh
    exact hrel j v hj
end
/-- A content with q others laid over it from place i on. -/
def copyF (i q : Nat) (h f : Nat → CV) : Nat → CV := fun j => match Nat.ble i j && Nat.blt j (i + q) with
  | true => h (j - i)
  | false => f j
theorem replCh_ok' {new cs c' : List Ch} {sz off : Nat} (h : replCh new sz cs off = some c') (hs : chsSize new = sz) {g : GM} {us ns : List Value} (hu : chsRel g cs us) (hn : chsRel g new ns) : chsRel g c' (us.take off ++ (ns ++ us.drop (off + sz))) ∧ off + sz ≤ us.length := by
  have hl := chsRel_size _ _ hn
  have := chsRel_splice h hu hn (by omega)
  exact ⟨this.2, this.1⟩
/-- A copy into an own slice of a row of single cells. -/
theorem exec_copy {o : Oper} {c : Call} {x y : Operand} {t u e : TypeId} (ho : o.op = .call c) (hc : c.callee = .builtin .copy) (hargs : c.args = #[x, y]) (htys : c.argTypes = #[t, u])
    (ht : P.underlying t = some (.slice e)) (hi : (P.info? e).map (·.size) = some 1)
    {l off i n cc m N : Nat} {f h : Nat → CV} {rd : List Nat} {k : Blk} {r c' : List Ch} (hx0 : opv ts x = .b (.cv (.sl l off i n cc))) (hcc : 0 < cc) (hk : mem[l]? = some k) (hmk : live k) (hr : dropCh k.1 off = some (.vec N f :: r)) (hrl : l ∈ rd) (hN : i + n ≤ N)
    (hc' : replCh [.vec N (copyF i (min m n) h f)] N k.1 off = some c')
    (hsrc : ∀ (g : GM) (a : Act) (w : World), (∀ z ∈ o.op.operands, (opv ts z).rel g (a.eval z)) → (∀ l ∈ rd, ∀ b k, g l = some b → mem[l]? = some k → BlkRel S w0 g w b k) → GW g S w0 w → ∃ news, Src P g w (a.eval y) 1 m h news) :
    Exec P S w0 o ts mem rd (.b (.cv (.int .i64 (Int.ofNat (min m n))))) ⟨[], [(l, c')]⟩ := by
  refine exec_write_v fun g a w hx hrd hg => ?_
  obtain ⟨news, hs⟩ := hsrc g a w hx hrd hg
  have hx1 := hx x (by simp [ho, Op.operands, Call.operands, hargs])
  rw [hx0] at hx1
  rcases hx1 with ⟨_, h2, _⟩ | ⟨hn1, cap, hc1, hc2, b, hgb, hrm, hxv⟩
  · omega
  have hbr := hrd l hrl b k hgb hk
  obtain ⟨pre, e1, e2⟩ := dropCh_ok _ _ _ hr
  obtain ⟨cs, ty, fz, us, rest, p1, ⟨p2, p2'⟩, p3, p4, p5⟩ := hbr.2.resolve_left hmk.1
  have p5 := p5 hmk.2
  have p4' := p4
  rw [e1] at p4'
  obtain ⟨us1, us2, e5, q1, us3, us4, rfl, q3, q4⟩ := (chsRel_append _ _ _).1 p4'
  have l1 := chsRel_size _ _ q1
  have l3 := q3.1
  obtain ⟨q, hq⟩ : ∃ q, min m n = q := ⟨_, rfl⟩
  rw [hq] at hc' ⊢
  have hnl : (news.take q).length = q := by rw [List.length_take, hs.size, Nat.mul_one]; omega
  have hone : ∀ v ∈ news.take q, v.oneCell' = true := fun v hv => by
    obtain ⟨j, hj⟩ := List.getElem?_of_mem (List.mem_of_mem_take hv)
    exact (hs.rel j v hj).1
  have hcl : cs.size = chsSize pre + N + (us4.length + rest.length) := by
    rw [← Array.length_toList, p3, e5]; simp; omega
  have hst := run_store_all (P := P) (vs := news.take q) (off := off + i) p1 (by rw [hnl]; omega) hone p5
  have hget := hs.get q w (by omega) rfl
  rw [Nat.mul_one] at hget
  have hnr : chsRel g [.vec N (copyF i q h f)] (us3.take i ++ (news.take q ++ us3.drop (i + q))) := by
    refine ⟨_, [], (List.append_nil _).symm, ⟨by simp only [List.length_append, List.length_take, List.length_drop, hs.size]; omega, fun j v hj => ?_⟩, rfl⟩
    unfold copyF
    rw [List.getElem?_append] at hj
    split at hj
    · rename_i hlt
      rw [List.length_take] at hlt
      rw [List.getElem?_take, if_pos (by omega)] at hj
      have hb : (Nat.ble i j && Nat.blt j (i + q)) = false := by
        rw [Bool.and_eq_false_iff]; left
        cases hh : Nat.ble i j with
        | false => rfl
        | true => have := Nat.le_of_ble_eq_true hh; omega
      rw [hb]
      exact q3.2 j v hj
    · rename_i hge
      rw [List.length_take] at hge
      rw [List.getElem?_append, show (us3.take i).length = min i us3.length from List.length_take] at hj
      split at hj
      · rename_i hlt
        rw [hnl] at hlt
        rw [List.getElem?_take, if_pos hlt] at hj
        have hb : (Nat.ble i j && Nat.blt j (i + q)) = true := by
          rw [Bool.and_eq_true, Nat.blt_eq, Nat.ble_eq]; omega
        rw [hb]
        have := hs.rel _ v hj
        rw [show j - min i us3.length = j - i by omega] at this
        exact this
      · rename_i hge2
        rw [hnl] at hge2
        rw [List.getElem?_drop, hnl] at hj
        have hb : (Nat.ble i j && Nat.blt j (i + q)) = false := by
          rw [Bool.and_eq_false_iff]; right
          cases hh : Nat.blt j (i + q) with
          | false => rfl
          | true => rw [Nat.blt_eq] at hh; omega
        rw [hb]
        rw [show i + q + (j - min i us3.length - q) = j by omega] at hj
        exact q3.2 j v hj
  obtain ⟨hfin, _⟩ := replCh_ok' hc' (by simp [chsSize, Ch.size]) p4 hnr
  refine ⟨_, b, k, setL cs (off + i) (news.take q), ty, fz, us.take off ++ ((us3.take i ++ (news.take q ++ us3.drop (i + q))) ++ us.drop (off + N)), rest, hgb, hk, hmk, hbr, ?_, ⟨rfl, ?_⟩, ⟨by rw [setL_size]; exact p2, p2'⟩, ?_, hfin, fun off ho => p5 off (by rw [setL_size] at ho; exact ho)⟩
  · have hinfo : ∃ i, P.info? e = some i ∧ i.size = 1 := by
      cases hh : P.info? e with
      | none => rw [hh] at hi; cases hi
      | some i => rw [hh] at hi; simp at hi; exact ⟨i, rfl, hi⟩
    obtain ⟨inf, hi1, hi2⟩ := hinfo
    have hmn : Nat.min m n = q := hq
    simp [execOp, ho, resolve, hc, hargs, htys, invoke, builtin, Builtin.copy_, run_underlying ht, hxv, hs.len, sizeOf, typeInfo, hi1, hi2, hmn, hget, hst, goInt]
  · show IntKind.min .i64 ≤ Int.ofNat q ∧ Int.ofNat q ≤ IntKind.max .i64
    rw [show IntKind.min .i64 = -9223372036854775808 from rfl, show IntKind.max .i64 = 9223372036854775807 from rfl]
    simp only [Int.ofNat_eq_natCast]
    omega
  · rw [setL_toList _ _ _ (by rw [hnl]; omega), p3, e5, hnl]
    have hoff : us1.length = off := by omega
    have a1 : (us1 ++ (us3 ++ us4) ++ rest).take (off + i) = us1 ++ us3.take i := by
      rw [List.append_assoc, List.append_assoc, List.take_append, hoff, List.take_of_length_le (by omega), Nat.add_sub_cancel_left, List.take_append_of_le_length (by omega)]
    have a2 : (us1 ++ (us3 ++ us4) ++ rest).drop (off + i + q) = us3.drop (i + q) ++ (us4 ++ rest) := by
      rw [List.append_assoc, List.append_assoc, List.drop_append, hoff, List.drop_of_length_le (by omega), List.nil_append, show off + i + q - off = i + q by omega, List.drop_append_of_le_length (by omega)]
    have a3 : (us1 ++ (us3 ++ us4)).take off = us1 := by rw [← hoff, List.take_left]
    have a4 : (us1 ++ (us3 ++ us4)).drop (off + N) = us4 := by
      rw [List.drop_append, hoff, List.drop_of_length_le (by omega), List.nil_append, Nat.add_sub_cancel_left, ← l3, List.drop_left]
    rw [a1, a2, a3, a4]
    simp only [List.append_assoc]
end Go.Ev
namespace Go.Proofs.Ytacjiajijigebaa
open Go Go.Ev
set_option linter.unusedSimpArgs false

/-- Rows of functions that are handed a captured long number. -/
def kUUc (f : Nat) (p : Int → Int → Nat → Prop) (s : Int → Int → Nat → AV)
    (h : ∀ x y n l mk (mem : List Blk), bnth mem l = some ([.num n], mk) → (mk = 0 ∨ mk = EXTM) → p x y n → ∀ S w0, CallOk Try.prog S w0 f [aU x, aU y, .cv (.ptr l 0 0)] mem [l] (s x y n) noEff) : Known Try.prog :=
  ⟨f, fun args mem => match args with
    | [.cv (.int .u64 x), .cv (.int .u64 y), .cv (.ptr l 0 0)] => match bnth mem l with
      | some ([.num n], mk) => some ((mk = 0 ∨ mk = EXTM) ∧ p x y n, s x y n, noEff, [l])
      | _ => none
    | _ => none, fun args mem q r e rd hm hq S w0 => by
    split at hm
    · split at hm
      · rename_i hb
        simp only [Option.some.injEq, Prod.mk.injEq] at hm
        obtain ⟨rfl, rfl, rfl, rfl⟩ := hm
        exact h _ _ _ _ _ mem hb hq.1 hq.2 S w0
      · cases hm
    · cases hm⟩
def kNNc (f : Nat) (p : Nat → Nat → Nat → Prop) (s : Nat → Nat → Nat → AV)
    (h : ∀ x y n l mk (mem : List Blk), bnth mem l = some ([.num n], mk) → (mk = 0 ∨ mk = EXTM) → p x y n → ∀ S w0, CallOk Try.prog S w0 f [aN x, aN y, .cv (.ptr l 0 0)] mem [l] (s x y n) noEff) : Known Try.prog :=
  ⟨f, fun args mem => match args with
    | [.agg [.num x], .agg [.num y], .cv (.ptr l 0 0)] => match bnth mem l with
      | some ([.num n], mk) => some ((mk = 0 ∨ mk = EXTM) ∧ p x y n, s x y n, noEff, [l])
      | _ => none
    | _ => none, fun args mem q r e rd hm hq S w0 => by
    split at hm
    · split at hm
      · rename_i hb
        simp only [Option.some.injEq, Prod.mk.injEq] at hm
        obtain ⟨rfl, rfl, rfl, rfl⟩ := hm
        exact h _ _ _ _ _ mem hb hq.1 hq.2 S w0
      · cases hm
    · cases hm⟩

theorem exp_11 (a b : Int) (m l mk : Nat) (mem : List Blk) (hm : bnth mem l = some ([.num m], mk)) (hk : mk = 0 ∨ mk = EXTM) (h : m < 18446744073709551616 ∧ a * b / 18446744073709551616 < (m : Int)) (S : Nat → Prop) (w0 : World) :
    CallOk Try.prog S w0 140 [aU a, aU b, .cv (.ptr l 0 0)] mem [l] (tU (a * b % (m : Int))) noEff := by
  refine capOk (cxK [wordK]) (r := tU (a * b % (m : Int))) Try.func140 rfl (by kernel_rfl) (xs := [aU a, aU b, .cv (.ptr 0 0 0)]) (Nat.le_of_ble_eq_true rfl) ⟨trivial, trivial, Nat.zero_lt_one, trivial⟩ (fun g vs hv => ?_) trivial hm hk fun S w g hf hn => ?_
  · obtain ⟨_, _, _, _, _, _, _, _, _, _, _, ⟨b, hb, _⟩, _⟩ := hv
    exact ⟨b, hb⟩
  · have e : Int.ofNat (limb (0 + 0) m) = (m : Int) := by rw [Nat.add_zero, limb0_small h.1]; rfl
    refine ⟨by show a * b / 18446744073709551616 < Int.ofNat (limb (0 + 0) m); rw [e]; exact h.2, ?_, ?_⟩
    · show a * b % Int.ofNat (limb (0 + 0) m) = _
      rw [e]
    · exact ⟨rfl, trivial⟩
def exp11K : Known Try.prog := kUUc 140 (fun a b m => m < 18446744073709551616 ∧ a * b / 18446744073709551616 < (m : Int)) (fun a b m => tU (a * b % (m : Int))) exp_11
theorem exp_12 (a b m l mk : Nat) (mem : List Blk) (hm : bnth mem l = some ([.num m], mk)) (hk : mk = 0 ∨ mk = EXTM) (h : a < m ∧ b < m) (S : Nat → Prop) (w0 : World) :
    CallOk Try.prog S w0 143 [aN a, aN b, .cv (.ptr l 0 0)] mem [l] (tN (a * b % m)) noEff := by
  refine capOk (cxK [timesModK]) (r := tN (a * b % m)) Try.func143 rfl (by kernel_rfl) (xs := [aN a, aN b, .cv (.ptr 0 0 0)]) (Nat.le_of_ble_eq_true rfl) ⟨⟨trivial, trivial⟩, ⟨trivial, trivial⟩, Nat.zero_lt_one, trivial⟩ (fun g vs hv => ?_) ⟨trivial, trivial⟩ hm hk fun S w g hf hn => ?_
  · obtain ⟨_, _, _, _, _, _, _, _, _, _, _, ⟨b, hb, _⟩, _⟩ := hv
    exact ⟨b, hb⟩
  · exact ⟨h, rfl, rfl, trivial⟩
def exp12K : Known Try.prog := kNNc 143 (fun a b m => a < m ∧ b < m) (fun a b m => tN (a * b % m)) exp_12

/-- What stays in the rounds of a power: the highest k bits of n are done. -/
theorem pow_shift (a n m k : Nat) (hk : k < bitLen n) :
    let y := a ^ (n / 2 ^ (bitLen n - k)) % m
    (n / 2 ^ (bitLen n - 1 - k) % 2 = 1 → y * y % m * a % m = a ^ (n / 2 ^ (bitLen n - (k + 1))) % m) ∧ (n / 2 ^ (bitLen n - 1 - k) % 2 ≠ 1 → y * y % m = a ^ (n / 2 ^ (bitLen n - (k + 1))) % m) := by
  intro y
  have e0 : n / 2 ^ (bitLen n - k) = n / 2 ^ (bitLen n - (k + 1)) / 2 := by
    rw [Nat.div_div_eq_div_mul, ← Nat.pow_succ, show (bitLen n - (k + 1)).succ = bitLen n - k by omega]
  have e1 : bitLen n - 1 - k = bitLen n - (k + 1) := by omega
  rw [e1]
  have hy : y = a ^ (n / 2 ^ (bitLen n - (k + 1)) / 2) % m := by show a ^ _ % m = _; rw [e0]
  generalize n / 2 ^ (bitLen n - (k + 1)) = x at *
  have e2 : y * y % m = a ^ (2 * (x / 2)) % m := by
    rw [hy, ← Nat.mul_mod, ← Nat.pow_add]; congr 2; omega
  refine ⟨fun h => ?_, fun h => ?_⟩
  · rw [e2, Nat.mod_mul_mod, ← Nat.pow_succ]; congr 2; omega
  · rw [e2]; congr 2; omega
theorem bit_at (n k : Nat) (hk : k < bitLen n) (h : bitLen n ≤ 256) : bitI n (IntKind.wrap .i64 (IntKind.wrap .i64 ((bitLen n : Int) - 1) - (k : Int))) = ((n / 2 ^ (bitLen n - 1 - k) % 2 : Nat) : Int) := by
  rw [wrapI ((bitLen n : Int) - 1) (by omega), wrapI _ (by omega)]
  unfold bitI
  rw [if_neg (by omega), show ((bitLen n : Int) - 1 - (k : Int)).toNat = bitLen n - 1 - k by omega]
theorem word_less {x y m : Nat} (hx : x < m) (hy : y < 18446744073709551616) : ((x : Int) * (y : Int)) / 18446744073709551616 < (m : Int) := by
  have h1 : x * y < m * 18446744073709551616 := Nat.mul_lt_mul'' hx hy
  have h2 : ((x * y : Nat) : Int) / 18446744073709551616 < m := by omega
  rwa [Int.natCast_mul] at h2
theorem fn_cap {g : GM} {f : FuncId} {vs : List Value} {xs : List AB} (i : Nat) (hv : absRel g xs vs) (hi : xs[i]? = some (.cv (.fn f [] [0]))) : ∃ b, g 0 = some b := by
  obtain ⟨v, _, _, ws, ⟨b, _, hb, _⟩, _⟩ := absRel_get _ _ i _ hv hi
  exact ⟨b, hb⟩
theorem ptr_cap {g : GM} {vs : List Value} {xs : List AB} (i : Nat) (hv : absRel g xs vs) (hi : xs[i]? = some (.cv (.ptr 0 0 0))) : ∃ b, g 0 = some b := by
  obtain ⟨v, _, b, hb, _⟩ := absRel_get _ _ i _ hv hi
  exact ⟨b, hb⟩
theorem bitLen_256 {n : Nat} (h : n < BW) : bitLen n ≤ 256 := bitLen_le.2 h
theorem ieq1 (x : Nat) : ieqB ((x : Nat) : Int) 1 = decide (x = 1) := by rw [ieqB_eq, Bool.eq_iff_iff]; simp only [decide_eq_true_eq]; omega
set_option maxRecDepth 20000 in
theorem power_word (a n m l mk : Nat) (mem : List Blk) (hm : bnth mem l = some ([.num m], mk)) (hk : mk = 0 ∨ mk = EXTM) (h : m < 18446744073709551616 ∧ 1 < m ∧ a < m) (S : Nat → Prop) (w0 : World) :
    CallOk Try.prog S w0 139 [aU a, aU 1, aN n, .cv (.fn 140 [] [l])] mem [l] (tU ((a ^ n % m : Nat) : Int)) noEff := by
  obtain ⟨h64, h1, ham⟩ := h
  refine capOk (cxK [limbsBitsK, limbsBitK, exp11K]) (r := tU ((a ^ n % m : Nat) : Int)) Try.func139 rfl (by kernel_rfl) (xs := [aU a, aU 1, aN n, .cv (.fn 140 [] [0])]) (Nat.le_of_ble_eq_true rfl) ⟨trivial, trivial, ⟨trivial, trivial⟩, fun l hl => by simp at hl; rw [hl]; exact Nat.zero_lt_one, trivial⟩ (fun g vs hv => fn_cap 3 hv rfl) trivial hm hk fun S w g hf hn => ?_
  · have hnn : n < BW := hf.2.2.1.1
    have hbl := bitLen_256 hnn
    conv => whnf
    refine ⟨trivial, ?_⟩
    conv => whnf
    refine LoopK.cut (Nat × Nat) (fun x => [(14, tI x.1), (9, tU x.2)]) (fun _ => []) (fun x => x.1 ≤ bitLen n ∧ x.2 = a ^ (n / 2 ^ (bitLen n - x.1)) % m) (fun x => bitLen n - x.1) (0, 1) ?_ ?_
      Unit (fun _ => [(9, tU ((a ^ n % m : Nat) : Int))]) (fun _ => []) (fun _ => True) 0 ?_ ?_
    · refine ⟨Nat.zero_le _, ?_⟩
      show 1 = _
      rw [Nat.sub_zero, Nat.div_eq_of_lt (bitLen_spec n).1, Nat.pow_zero, Nat.mod_eq_of_lt h1]
    · repeat' (refine And.intro ?_ ?_)
      all_goals try first | with_reducible rfl | exact trivial
      all_goals rfl
    · rintro ⟨k, y⟩ ⟨hk, hy⟩
      replace hk : k ≤ bitLen n := hk
      replace hy : y = a ^ (n / 2 ^ (bitLen n - k)) % m := hy
      have hym : y < m := by rw [hy]; exact Nat.mod_lt _ (by omega)
      conv => whnf
      refine brk (fun h3 => ?_) (fun h3 => ?_)
      · replace h3 : iltB (k : Int) (bitLen n : Int) = true := h3
        simp only [iltB_eq, decide_eq_true_eq] at h3
        have h3 : k < bitLen n := by omega
        have hs := pow_shift a n m k h3
        have hbit := bit_at n k h3 hbl
        simp only at hs
        rw [← hy] at hs
        refine ⟨⟨.inr rfl, h64, word_less hym (by omega)⟩, by kernel_rfl, trivial, trivial, ?_⟩
        conv => whnf
        have step : ∀ z : Nat, z = a ^ (n / 2 ^ (bitLen n - (k + 1))) % m → ((z : Nat) : Int) = ((a ^ (n / 2 ^ (bitLen n - (k + 1))) % m : Nat) : Int) := fun z hz => by rw [hz]
        refine brk (fun h4 => ?_) (fun h4 => ?_) <;> replace h4 : ieqB (bitI n (IntKind.wrap .i64 (IntKind.wrap .i64 ((bitLen n : Int) - 1) - (k : Int)))) 1 = _ := h4 <;> rw [hbit, ieq1] at h4 <;> simp only [decide_eq_true_eq, decide_eq_false_iff_not] at h4
        · have e2 : ((y : Int) * (y : Int) % (m : Int)) = ((y * y % m : Nat) : Int) := by simp
          refine ⟨⟨.inr rfl, h64, ?_⟩, (k + 1, y * y % m * a % m), ⟨h3, hs.1 h4⟩, ?_, ?_⟩
          · show (y : Int) * (y : Int) % (m : Int) * (a : Int) / 18446744073709551616 < (m : Int)
            rw [e2]; exact word_less (Nat.mod_lt _ (by omega)) (by omega)
          · repeat' (refine And.intro ?_ ?_)
            all_goals try first | with_reducible rfl | exact trivial
            · show (y : Int) * (y : Int) % (m : Int) * (a : Int) % (m : Int) = ((y * y % m * a % m : Nat) : Int)
              rw [e2, ← Int.natCast_mul, ← Int.natCast_emod]
            · show IntKind.wrap .i64 ((k : Int) + 1) = ((k + 1 : Nat) : Int)
              rw [wrapI _ (by omega)]; rfl
          · show bitLen n - (k + 1) < bitLen n - k
            omega
        · refine ⟨(k + 1, y * y % m), ⟨h3, hs.2 h4⟩, ?_, ?_⟩
          · repeat' (refine And.intro ?_ ?_)
            all_goals try first | with_reducible rfl | exact trivial
            · show (y : Int) * (y : Int) % (m : Int) = ((y * y % m : Nat) : Int)
              simp
            · show IntKind.wrap .i64 ((k : Int) + 1) = ((k + 1 : Nat) : Int)
              rw [wrapI _ (by omega)]; rfl
          · show bitLen n - (k + 1) < bitLen n - k
            omega
      · replace h3 : iltB (k : Int) (bitLen n : Int) = false := h3
        simp only [iltB_eq, decide_eq_false_iff_not] at h3
        have hk2 : bitLen n - k = 0 := by omega
        rw [hk2, Nat.pow_zero, Nat.div_one] at hy
        refine ⟨(), trivial, ?_⟩
        repeat' (refine And.intro ?_ ?_)
        all_goals try first | with_reducible rfl | exact trivial
        show ((y : Nat) : Int) = _
        rw [hy]
    · intro _ _
      exact ⟨rfl, rfl, trivial⟩
def powWordK : Known Try.prog :=
  ⟨139, fun args mem => match args with
    | [.cv (.int .u64 (.ofNat a)), .cv (.int .u64 1), .agg [.num n], .cv (.fn 140 [] [l])] => match bnth mem l with
      | some ([.num m], mk) => some ((mk = 0 ∨ mk = EXTM) ∧ (m < 18446744073709551616 ∧ 1 < m ∧ a < m), tU ((a ^ n % m : Nat) : Int), noEff, [l])
      | _ => none
    | _ => none, fun args mem q r e rd hm hq S w0 => by
    split at hm
    · split at hm
      · rename_i hb
        simp only [Option.some.injEq, Prod.mk.injEq] at hm
        obtain ⟨rfl, rfl, rfl, rfl⟩ := hm
        exact power_word _ _ _ _ _ mem hb hq.1 hq.2 S w0
      · cases hm
    · cases hm⟩
set_option maxRecDepth 20000 in
theorem power_num (a n m l mk : Nat) (mem : List Blk) (hm : bnth mem l = some ([.num m], mk)) (hk : mk = 0 ∨ mk = EXTM) (h : 1 < m ∧ a < m) (S : Nat → Prop) (w0 : World) :
    CallOk Try.prog S w0 142 [aN a, aN 1, aN n, .cv (.fn 143 [] [l])] mem [l] (tN (a ^ n % m)) noEff := by
  obtain ⟨h1, ham⟩ := h
  refine capOk (cxK [limbsBitsK, limbsBitK, exp12K]) (r := tN (a ^ n % m)) Try.func142 rfl (by kernel_rfl) (xs := [aN a, aN 1, aN n, .cv (.fn 143 [] [0])]) (Nat.le_of_ble_eq_true rfl) ⟨⟨trivial, trivial⟩, ⟨trivial, trivial⟩, ⟨trivial, trivial⟩, fun l hl => by simp at hl; rw [hl]; exact Nat.zero_lt_one, trivial⟩ (fun g vs hv => fn_cap 3 hv rfl) ⟨trivial, trivial⟩ hm hk fun S w g hf hn => ?_
  have hnn : n < BW := hf.2.2.1.1
  have hbl := bitLen_256 hnn
  conv => whnf
  refine ⟨trivial, ?_⟩
  conv => whnf
  refine LoopK.cut (Nat × Nat) (fun x => [(14, tI x.1)]) (fun x => [(5, [.num x.2])]) (fun x => x.1 ≤ bitLen n ∧ x.2 = a ^ (n / 2 ^ (bitLen n - x.1)) % m) (fun x => bitLen n - x.1) (0, 1) ?_ ?_
    Unit (fun _ => []) (fun _ => [(5, [.num (a ^ n % m)])]) (fun _ => True) 0 ?_ ?_
  · refine ⟨Nat.zero_le _, ?_⟩
    show 1 = _
    rw [Nat.sub_zero, Nat.div_eq_of_lt (bitLen_spec n).1, Nat.pow_zero, Nat.mod_eq_of_lt h1]
  · repeat' (refine And.intro ?_ ?_)
    all_goals try first | with_reducible rfl | exact trivial
    all_goals rfl
  · rintro ⟨k, y⟩ ⟨hk, hy⟩
    replace hk : k ≤ bitLen n := hk
    replace hy : y = a ^ (n / 2 ^ (bitLen n - k)) % m := hy
    have hym : y < m := by rw [hy]; exact Nat.mod_lt _ (by omega)
    conv => whnf
    refine brk (fun h3 => ?_) (fun h3 => ?_)
    · replace h3 : iltB (k : Int) (bitLen n : Int) = true := h3
      simp only [iltB_eq, decide_eq_true_eq] at h3
      have h3 : k < bitLen n := by omega
      have hs := pow_shift a n m k h3
      have hbit := bit_at n k h3 hbl
      simp only at hs
      rw [← hy] at hs
      refine ⟨⟨.inr rfl, hym, hym⟩, by kernel_rfl, trivial, trivial, ?_⟩
      conv => whnf
      refine brk (fun h4 => ?_) (fun h4 => ?_) <;> replace h4 : ieqB (bitI n (IntKind.wrap .i64 (IntKind.wrap .i64 ((bitLen n : Int) - 1) - (k : Int)))) 1 = _ := h4 <;> rw [hbit, ieq1] at h4 <;> simp only [decide_eq_true_eq, decide_eq_false_iff_not] at h4
      · refine ⟨⟨.inr rfl, Nat.mod_lt _ (by omega), ham⟩, (k + 1, y * y % m * a % m), ⟨h3, hs.1 h4⟩, ?_, ?_⟩
        · repeat' (refine And.intro ?_ ?_)
          all_goals try first | with_reducible rfl | exact trivial
          · show IntKind.wrap .i64 ((k : Int) + 1) = ((k + 1 : Nat) : Int)
            rw [wrapI _ (by omega)]; rfl
        · show bitLen n - (k + 1) < bitLen n - k
          omega
      · refine ⟨(k + 1, y * y % m), ⟨h3, hs.2 h4⟩, ?_, ?_⟩
        · repeat' (refine And.intro ?_ ?_)
          all_goals try first | with_reducible rfl | exact trivial
          · show IntKind.wrap .i64 ((k : Int) + 1) = ((k + 1 : Nat) : Int)
            rw [wrapI _ (by omega)]; rfl
        · show bitLen n - (k + 1) < bitLen n - k
          omega
    · replace h3 : iltB (k : Int) (bitLen n : Int) = false := h3
      simp only [iltB_eq, decide_eq_false_iff_not] at h3
      have hk2 : bitLen n - k = 0 := by omega
      rw [hk2, Nat.pow_zero, Nat.div_one] at hy
      refine ⟨(), trivial, ?_⟩
      repeat' (refine And.intro ?_ ?_)
      all_goals try first | with_reducible rfl | exact trivial
      exact hy
  · intro _ _
    exact ⟨rfl, rfl, trivial⟩
def powNumK : Known Try.prog :=
  ⟨142, fun args mem => match args with
    | [.agg [.num a], .agg [.num 1], .agg [.num n], .cv (.fn 143 [] [l])] => match bnth mem l with
      | some ([.num m], mk) => some ((mk = 0 ∨ mk = EXTM) ∧ (1 < m ∧ a < m), tN (a ^ n % m), noEff, [l])
      | _ => none
    | _ => none, fun args mem q r e rd hm hq S w0 => by
    split at hm
    · split at hm
      · rename_i hb
        simp only [Option.some.injEq, Prod.mk.injEq] at hm
        obtain ⟨rfl, rfl, rfl, rfl⟩ := hm
        exact power_num _ _ _ _ _ mem hb hq.1 hq.2 S w0
      · cases hm
    · cases hm⟩

set_option maxRecDepth 20000 in
theorem exp_1 (a x m n l mk : Nat) (mem : List Blk) (hm : bnth mem l = some ([.num n], mk)) (hk : mk = 0 ∨ mk = EXTM) (h : 1 < m ∧ a < m) (S : Nat → Prop) (w0 : World) :
    CallOk Try.prog S w0 138 [aN a, aN x, aN m, .cv (.ptr l 0 0)] mem [l] (tN (a ^ n % m)) noEff := by
  refine capOk (cxK [limbsBitsK, limbsOfK, powWordK, powNumK]) (r := tN (a ^ n % m)) Try.func138 rfl (by kernel_rfl) (xs := [aN a, aN x, aN m, .cv (.ptr 0 0 0)]) (Nat.le_of_ble_eq_true rfl) ⟨⟨trivial, trivial⟩, ⟨trivial, trivial⟩, ⟨trivial, trivial⟩, Nat.zero_lt_one, trivial⟩ (fun g vs hv => ptr_cap 3 hv rfl) ⟨trivial, trivial⟩ hm hk fun S w g hf hn => ?_
  have hbl := bitLen_le (a := m) (k := 64)
  conv => whnf
  refine ⟨trivial, ?_⟩
  conv => whnf
  refine brk (fun h1 => ?_) (fun h1 => ?_) <;> simp only [iltB_eq, Bool.not_eq_true', Bool.not_eq_false', decide_eq_true_eq, decide_eq_false_iff_not] at h1
  · have hm' : m < 18446744073709551616 := hbl.1 (by omega)
    have e : limb 0 a = a := limb0_small (by omega)
    refine ⟨⟨.inl rfl, hm', h.1, ?_⟩, trivial, ?_, ?_⟩
    · show limb 0 a < m
      rw [e]; exact h.2
    · show ((limb 0 a ^ n % m : Nat) : Int).toNat = _
      rw [e]; rfl
    · exact ⟨rfl, trivial⟩
  · exact ⟨by kernel_rfl, trivial, ⟨.inl rfl, h⟩, by kernel_rfl, rfl, rfl, trivial⟩
end Go.Proofs.Ytacjiajijigebaa
namespace Go.Proofs.Ytacjiajijigebaa
open Go Go.Ev
set_option linter.unusedSimpArgs false

def mayM (a b m : Nat) : Bool := decide (1 < m ∧ a < m ∧ b < m)
def gM (t : Bool) (x : Nat) : Nat := match t with
  | true => x
  | false => 0
def eM (t : Bool) : Int := match t with
  | true => 0
  | false => 1
def modsN (F : Nat → Nat → Nat → Nat) (a b m : Nat) : AV := .tup [aN (gM (mayM a b m) (F a b m)), aI (eM (mayM a b m))]
theorem cmp_lt0 (a b : Nat) : iltB (cmpN a b) 0 = decide (a < b) := by
  rw [iltB_eq, Bool.eq_iff_iff]; unfold cmpN
  simp only [decide_eq_true_eq]
  split
  · omega
  · split <;> omega
theorem cmp_0lt (a b : Nat) : iltB 0 (cmpN a b) = decide (b < a) := by
  rw [iltB_eq, Bool.eq_iff_iff]; unfold cmpN
  simp only [decide_eq_true_eq]
  split
  · omega
  · split <;> omega

def addM (a b m : Nat) : Nat := (a + b) % m
def subM (a b m : Nat) : Nat := (a + (m - b)) % m
set_option maxRecDepth 20000 in
theorem mods_add1 (a b m : Nat) (h : 1 < m ∧ a < m ∧ b < m) : PureOk Try.prog 191 [aN a, aN b, aN m] (tN (addM a b m)) := by
  refine pure_of_ev (cxK [limbsAddK, limbsSubK]) Try.func191 rfl (by kernel_rfl) (Nat.le_of_ble_eq_true rfl) ⟨trivial, trivial, trivial, trivial⟩ trivial fun hf w => ?_
  have hm := hf.2.2.1.1
  refine ⟨trivial, trivial, ?_⟩
  conv => whnf
  have e1 : ∀ T, m ≤ T → T < 2 * m → T % m = T - m := fun T h1 h2 => by rw [Nat.mod_eq_sub_mod h1, Nat.mod_eq_of_lt (by omega)]
  have hq : (a + b) / BW = 0 ∨ (a + b) / BW = 1 := by unfold BW at *; omega
  have hmod := Nat.div_add_mod (a + b) BW
  refine brk (fun h1 => ?_) (fun h1 => ?_) <;> simp only [ieqB_eq, decide_eq_true_eq, decide_eq_false_iff_not, moreN] at h1
  · refine ⟨?_, trivial⟩
    have h1 : (a + b) / BW = 1 := by omega
    rw [h1] at hmod
    show subN (addN a b) m = (a + b) % m
    rw [e1 _ (by omega) (by omega)]
    unfold subN addN
    rw [Nat.mod_eq_of_lt] <;> omega
  · have h1 : (a + b) / BW = 0 := by omega
    rw [h1] at hmod
    conv => whnf
    refine brk (fun h2 => ?_) (fun h2 => ?_) <;> replace h2 : ieqB (lessN (addN a b) m) 0 = _ := h2 <;> simp only [ieqB_eq, decide_eq_true_eq, decide_eq_false_iff_not, lessN] at h2
    · refine ⟨?_, trivial⟩
      split at h2
      · omega
      · rename_i h3
        unfold addN at h3
        show subN (addN a b) m = (a + b) % m
        rw [e1 _ (by omega) (by omega)]
        unfold subN addN
        rw [show (a + b) % BW + (BW - m) = (a + b - m) + BW by omega, Nat.add_mod_right, Nat.mod_eq_of_lt (by omega)]
    · refine ⟨?_, trivial⟩
      split at h2
      · rename_i h3
        show addN a b = (a + b) % m
        unfold addN at h3 ⊢
        rw [Nat.mod_eq_of_lt (a := a + b) (b := m)] <;> omega
      · omega
def add1K : Known Try.prog := kNNN 191 (fun a b m => 1 < m ∧ a < m ∧ b < m) (fun a b m => tN (addM a b m)) mods_add1
set_option maxRecDepth 20000 in
theorem mods_sub1 (a b m : Nat) (h : 1 < m ∧ a < m ∧ b < m) : PureOk Try.prog 182 [aN a, aN b, aN m] (tN (subM a b m)) := by
  refine pure_of_ev (cxK [limbsAddK, limbsSubK]) Try.func182 rfl (by kernel_rfl) (Nat.le_of_ble_eq_true rfl) ⟨trivial, trivial, trivial, trivial⟩ trivial fun hf w => ?_
  have hm := hf.2.2.1.1
  refine ⟨trivial, ?_⟩
  conv => whnf
  refine brk (fun h1 => ?_) (fun h1 => ?_) <;> simp only [ieqB_eq, decide_eq_true_eq, decide_eq_false_iff_not, lessN] at h1
  · refine ⟨trivial, ?_, trivial⟩
    split at h1
    · show addN (subN a b) m = (a + (m - b)) % m
      unfold addN subN
      rw [Nat.mod_eq_of_lt (a := a + (BW - b)) (by omega), show a + (BW - b) + m = a + (m - b) + BW by omega, Nat.add_mod_right, Nat.mod_eq_of_lt (by omega), Nat.mod_eq_of_lt (by omega)]
    · omega
  · refine ⟨?_, trivial⟩
    split at h1
    · omega
    · show subN a b = (a + (m - b)) % m
      unfold subN
      rw [show a + (BW - b) = (a - b) + BW by omega, Nat.add_mod_right, Nat.mod_eq_of_lt (by omega), show a + (m - b) = (a - b) + m by omega, Nat.add_mod_right, Nat.mod_eq_of_lt (by omega)]
def sub1K : Known Try.prog := kNNN 182 (fun a b m => 1 < m ∧ a < m ∧ b < m) (fun a b m => tN (subM a b m)) mods_sub1
set_option maxRecDepth 20000 in
theorem deed_Mul (a b m : Nat) : PureOk Try.prog 137 [.agg [.cell (.fn 136 [] [])], aN a, aN b, aN m] (modsN (fun a b m => a * b % m) a b m) := by
  refine pure_of_ev (cxK [limbsOfK, limbsCmpK, timesModK]) Try.func137 rfl (by kernel_rfl) (Nat.le_of_ble_eq_true rfl) ⟨⟨rfl, trivial⟩, trivial, trivial, trivial, trivial⟩ ⟨trivial, rfl, trivial⟩ fun hf w => ?_
  conv => whnf
  refine ⟨by kernel_rfl, trivial, trivial, ?_⟩
  conv => whnf
  refine brk (fun h1 => ?_) (fun h1 => ?_) <;> replace h1 : (!iltB 0 (cmpN m 1)) = _ := h1 <;> rw [cmp_0lt] at h1 <;> simp only [Bool.not_eq_true', Bool.not_eq_false', decide_eq_true_eq, decide_eq_false_iff_not] at h1
  · have hm : mayM a b m = false := by unfold mayM; simp; omega
    exact ⟨by rw [hm]; rfl, by rw [hm]; rfl, trivial⟩
  · refine ⟨trivial, ?_⟩
    conv => whnf
    refine brk (fun h2 => ?_) (fun h2 => ?_) <;> replace h2 : (!iltB (cmpN a m) 0) = _ := h2 <;> rw [cmp_lt0] at h2 <;> simp only [Bool.not_eq_true', Bool.not_eq_false', decide_eq_true_eq, decide_eq_false_iff_not] at h2
    · have hm : mayM a b m = false := by unfold mayM; simp; omega
      exact ⟨by rw [hm]; rfl, by rw [hm]; rfl, trivial⟩
    · refine ⟨trivial, ?_⟩
      conv => whnf
      refine brk (fun h3 => ?_) (fun h3 => ?_) <;> replace h3 : (!iltB (cmpN b m) 0) = _ := h3 <;> rw [cmp_lt0] at h3 <;> simp only [Bool.not_eq_true', Bool.not_eq_false', decide_eq_true_eq, decide_eq_false_iff_not] at h3
      · have hm : mayM a b m = false := by unfold mayM; simp; omega
        exact ⟨by rw [hm]; rfl, by rw [hm]; rfl, trivial⟩
      · have hm : mayM a b m = true := by unfold mayM; simp; omega
        refine ⟨⟨h2, h3⟩, ?_⟩
        exact ⟨by rw [hm]; rfl, by rw [hm]; rfl, trivial⟩
def deedMulK : Known Try.prog :=
  Known.pure 137 (fun
    | [.agg [.cell (.fn 136 [] [])], .agg [.num a], .agg [.num b], .agg [.num m]] => some (True, modsN (fun a b m => a * b % m) a b m)
    | _ => none) fun args p r h _ => by
    split at h
    · simp only [Option.some.injEq, Prod.mk.injEq] at h; obtain ⟨rfl, rfl⟩ := h; exact deed_Mul _ _ _
    · cases h
set_option maxRecDepth 20000 in
theorem deed_Add (a b m : Nat) : PureOk Try.prog 137 [.agg [.cell (.fn 191 [] [])], aN a, aN b, aN m] (modsN (addM) a b m) := by
  refine pure_of_ev (cxK [limbsOfK, limbsCmpK, add1K]) Try.func137 rfl (by kernel_rfl) (Nat.le_of_ble_eq_true rfl) ⟨⟨rfl, trivial⟩, trivial, trivial, trivial, trivial⟩ ⟨trivial, rfl, trivial⟩ fun hf w => ?_
  conv => whnf
  refine ⟨by kernel_rfl, trivial, trivial, ?_⟩
  conv => whnf
  refine brk (fun h1 => ?_) (fun h1 => ?_) <;> replace h1 : (!iltB 0 (cmpN m 1)) = _ := h1 <;> rw [cmp_0lt] at h1 <;> simp only [Bool.not_eq_true', Bool.not_eq_false', decide_eq_true_eq, decide_eq_false_iff_not] at h1
  · have hm : mayM a b m = false := by unfold mayM; simp; omega
    exact ⟨by rw [hm]; rfl, by rw [hm]; rfl, trivial⟩
  · refine ⟨trivial, ?_⟩
    conv => whnf
    refine brk (fun h2 => ?_) (fun h2 => ?_) <;> replace h2 : (!iltB (cmpN a m) 0) = _ := h2 <;> rw [cmp_lt0] at h2 <;> simp only [Bool.not_eq_true', Bool.not_eq_false', decide_eq_true_eq, decide_eq_false_iff_not] at h2
    · have hm : mayM a b m = false := by unfold mayM; simp; omega
      exact ⟨by rw [hm]; rfl, by rw [hm]; rfl, trivial⟩
    · refine ⟨trivial, ?_⟩
      conv => whnf
      refine brk (fun h3 => ?_) (fun h3 => ?_) <;> replace h3 : (!iltB (cmpN b m) 0) = _ := h3 <;> rw [cmp_lt0] at h3 <;> simp only [Bool.not_eq_true', Bool.not_eq_false', decide_eq_true_eq, decide_eq_false_iff_not] at h3
      · have hm : mayM a b m = false := by unfold mayM; simp; omega
        exact ⟨by rw [hm]; rfl, by rw [hm]; rfl, trivial⟩
      · have hm : mayM a b m = true := by unfold mayM; simp; omega
        refine ⟨⟨h1, h2, h3⟩, ?_⟩
        exact ⟨by rw [hm]; rfl, by rw [hm]; rfl, trivial⟩
def deedAddK : Known Try.prog :=
  Known.pure 137 (fun
    | [.agg [.cell (.fn 191 [] [])], .agg [.num a], .agg [.num b], .agg [.num m]] => some (True, modsN (addM) a b m)
    | _ => none) fun args p r h _ => by
    split at h
    · simp only [Option.some.injEq, Prod.mk.injEq] at h; obtain ⟨rfl, rfl⟩ := h; exact deed_Add _ _ _
    · cases h
set_option maxRecDepth 20000 in
theorem deed_Sub (a b m : Nat) : PureOk Try.prog 137 [.agg [.cell (.fn 182 [] [])], aN a, aN b, aN m] (modsN (subM) a b m) := by
  refine pure_of_ev (cxK [limbsOfK, limbsCmpK, sub1K]) Try.func137 rfl (by kernel_rfl) (Nat.le_of_ble_eq_true rfl) ⟨⟨rfl, trivial⟩, trivial, trivial, trivial, trivial⟩ ⟨trivial, rfl, trivial⟩ fun hf w => ?_
  conv => whnf
  refine ⟨by kernel_rfl, trivial, trivial, ?_⟩
  conv => whnf
  refine brk (fun h1 => ?_) (fun h1 => ?_) <;> replace h1 : (!iltB 0 (cmpN m 1)) = _ := h1 <;> rw [cmp_0lt] at h1 <;> simp only [Bool.not_eq_true', Bool.not_eq_false', decide_eq_true_eq, decide_eq_false_iff_not] at h1
  · have hm : mayM a b m = false := by unfold mayM; simp; omega
    exact ⟨by rw [hm]; rfl, by rw [hm]; rfl, trivial⟩
  · refine ⟨trivial, ?_⟩
    conv => whnf
    refine brk (fun h2 => ?_) (fun h2 => ?_) <;> replace h2 : (!iltB (cmpN a m) 0) = _ := h2 <;> rw [cmp_lt0] at h2 <;> simp only [Bool.not_eq_true', Bool.not_eq_false', decide_eq_true_eq, decide_eq_false_iff_not] at h2
    · have hm : mayM a b m = false := by unfold mayM; simp; omega
      exact ⟨by rw [hm]; rfl, by rw [hm]; rfl, trivial⟩
    · refine ⟨trivial, ?_⟩
      conv => whnf
      refine brk (fun h3 => ?_) (fun h3 => ?_) <;> replace h3 : (!iltB (cmpN b m) 0) = _ := h3 <;> rw [cmp_lt0] at h3 <;> simp only [Bool.not_eq_true', Bool.not_eq_false', decide_eq_true_eq, decide_eq_false_iff_not] at h3
      · have hm : mayM a b m = false := by unfold mayM; simp; omega
        exact ⟨by rw [hm]; rfl, by rw [hm]; rfl, trivial⟩
      · have hm : mayM a b m = true := by unfold mayM; simp; omega
        refine ⟨⟨h1, h2, h3⟩, ?_⟩
        exact ⟨by rw [hm]; rfl, by rw [hm]; rfl, trivial⟩
def deedSubK : Known Try.prog :=
  Known.pure 137 (fun
    | [.agg [.cell (.fn 182 [] [])], .agg [.num a], .agg [.num b], .agg [.num m]] => some (True, modsN (subM) a b m)
    | _ => none) fun args p r h _ => by
    split at h
    · simp only [Option.some.injEq, Prod.mk.injEq] at h; obtain ⟨rfl, rfl⟩ := h; exact deed_Sub _ _ _
    · cases h
set_option maxRecDepth 20000 in
theorem mods_Mul (a b m : Nat) : PureOk Try.prog 75 [aN a, aN b, aN m] (modsN (fun a b m => a * b % m) a b m) := by
  refine pure_of_ev (cxK [deedMulK]) Try.func75 rfl (by kernel_rfl) (Nat.le_of_ble_eq_true rfl) ⟨trivial, trivial, trivial, trivial⟩ ⟨trivial, rfl, trivial⟩ fun hf w => ?_
  exact ⟨trivial, rfl, rfl, trivial⟩
def modsMulK : Known Try.prog := kNNN 75 (fun _ _ _ => True) (modsN (fun a b m => a * b % m)) (fun a b m _ => mods_Mul a b m)
set_option maxRecDepth 20000 in
theorem mods_Add (a b m : Nat) : PureOk Try.prog 156 [aN a, aN b, aN m] (modsN (addM) a b m) := by
  refine pure_of_ev (cxK [deedAddK]) Try.func156 rfl (by kernel_rfl) (Nat.le_of_ble_eq_true rfl) ⟨trivial, trivial, trivial, trivial⟩ ⟨trivial, rfl, trivial⟩ fun hf w => ?_
  exact ⟨trivial, rfl, rfl, trivial⟩
def modsAddK : Known Try.prog := kNNN 156 (fun _ _ _ => True) (modsN (addM)) (fun a b m _ => mods_Add a b m)
set_option maxRecDepth 20000 in
theorem mods_Sub (a b m : Nat) : PureOk Try.prog 125 [aN a, aN b, aN m] (modsN (subM) a b m) := by
  refine pure_of_ev (cxK [deedSubK]) Try.func125 rfl (by kernel_rfl) (Nat.le_of_ble_eq_true rfl) ⟨trivial, trivial, trivial, trivial⟩ ⟨trivial, rfl, trivial⟩ fun hf w => ?_
  exact ⟨trivial, rfl, rfl, trivial⟩
def modsSubK : Known Try.prog := kNNN 125 (fun _ _ _ => True) (modsN (subM)) (fun a b m _ => mods_Sub a b m)
end Go.Proofs.Ytacjiajijigebaa
namespace Go.Proofs.Ytacjiajijigebaa

/-- What a number must be multiplied with for 1 (0: there is none). -/
noncomputable def invN (a m : Nat) : Nat := open Classical in if h : ∃ y, y < m ∧ a * y % m = 1 then Classical.choose h else 0

theorem dvd_of_mod {a b m : Nat} (h : a % m = b % m) : (m : Int) ∣ (a : Int) - b := by
  refine Int.dvd_of_emod_eq_zero ?_
  rw [Int.sub_emod, ← Int.natCast_emod, ← Int.natCast_emod, h, Int.sub_self, Int.zero_emod]
theorem mod_of_dvd {a b m : Nat} (h : (m : Int) ∣ (a : Int) - b) : a % m = b % m := by
  have h1 := Int.emod_eq_zero_of_dvd h
  have h2 := Int.emod_eq_emod_iff_emod_sub_eq_zero.2 h1
  have h3 : ((a % m : Nat) : Int) = ((b % m : Nat) : Int) := by rw [Int.natCast_emod, Int.natCast_emod]; exact h2
  exact Int.ofNat.inj h3
theorem inv_unique {a m y z : Nat} (hm : 1 < m) (hy : y < m) (hz : z < m) (h1 : a * y % m = 1) (h2 : a * z % m = 1) : y = z := by
  have e1 : (m : Int) ∣ ((a * y : Nat) : Int) - (1 : Nat) := dvd_of_mod (by rw [h1, Nat.mod_eq_of_lt hm])
  have e2 : (m : Int) ∣ ((a * z : Nat) : Int) - (1 : Nat) := dvd_of_mod (by rw [h2, Nat.mod_eq_of_lt hm])
  have e3 : (m : Int) ∣ (y : Int) - z := by
    have := Int.dvd_sub (Int.dvd_mul_of_dvd_left (c := (y : Int)) e2) (Int.dvd_mul_of_dvd_left (c := (z : Int)) e1)
    obtain ⟨c, hc⟩ := this
    refine ⟨-c, ?_⟩
    simp only [Int.natCast_mul] at hc
    grind
  have := mod_of_dvd e3
  rwa [Nat.mod_eq_of_lt hy, Nat.mod_eq_of_lt hz] at this
theorem invN_eq {a m y : Nat} (hm : 1 < m) (hy : y < m) (h : a * y % m = 1) : invN a m = y := by
  have hex : ∃ y, y < m ∧ a * y % m = 1 := ⟨y, hy, h⟩
  unfold invN
  rw [dif_pos hex]
  have := Classical.choose_spec hex
  exact inv_unique hm this.1 hy this.2 h
theorem invN_none {a m : Nat} (h : Nat.gcd a m ≠ 1) : invN a m = 0 := by
  unfold invN
  rw [dif_neg]
  rintro ⟨y, _, h2⟩
  refine h ?_
  have h3 : Nat.gcd a m ∣ 1 := by
    rw [← h2]
    have d1 : Nat.gcd a m ∣ a * y := Nat.dvd_mul_right_of_dvd (Nat.gcd_dvd_left a m) y
    exact (Nat.dvd_mod_iff (Nat.gcd_dvd_right a m)).2 d1
  exact Nat.dvd_one.1 h3

/-- What stays in the rounds: x times a leaves r, y times a leaves s. -/
structure InvI (a m r s x y : Nat) : Prop where
  m1 : 1 < m
  co : Nat.gcd r s = 1
  s0 : 0 < s
  sr : s < r
  rm : r ≤ m
  xm : x < m
  ym : y < m
  hx : (m : Int) ∣ (x : Int) * a - r
  hy : (m : Int) ∣ (y : Int) * a - s
theorem InvI.start {a m : Nat} (h1 : 1 < m) (ha : a < m) (h : Nat.gcd a m = 1) : InvI a m m a 0 1 := by
  refine ⟨h1, by rw [Nat.gcd_comm]; exact h, ?_, ha, Nat.le_refl m, by omega, h1, ⟨-1, by grind⟩, ⟨0, by grind⟩⟩
  rcases Nat.eq_zero_or_pos a with rfl | h0
  · rw [Nat.gcd_zero_left] at h; omega
  · exact h0
theorem InvI.quo {a m r s x y : Nat} (h : InvI a m r s x y) (hs : s ≠ 1) : r / s < m := by
  have h0 := h.s0
  have : r / s < r := Nat.div_lt_self (by have := h.sr; omega) (by omega)
  exact Nat.lt_of_lt_of_le this h.rm
theorem InvI.step {a m r s x y : Nat} (h : InvI a m r s x y) (hs : s ≠ 1) : InvI a m s (r % s) y ((x + (m - r / s * y % m)) % m) := by
  have hm0 : 0 < m := by have := h.m1; omega
  have hl : r % s < s := Nat.mod_lt _ h.s0
  refine ⟨h.m1, ?_, ?_, hl, Nat.le_of_lt (Nat.lt_of_lt_of_le h.sr h.rm), h.ym, Nat.mod_lt _ hm0, h.hy, ?_⟩
  · have := h.co
    rw [Nat.gcd_comm, Nat.gcd_rec] at this
    rw [Nat.gcd_comm]; exact this
  · rcases Nat.eq_zero_or_pos (r % s) with h0 | h0
    · exfalso
      have := h.co
      rw [Nat.gcd_comm, Nat.gcd_rec, h0, Nat.gcd_zero_left] at this
      exact hs this
    · exact h0
  · obtain ⟨c, hc⟩ := h.hx
    obtain ⟨d, hd⟩ := h.hy
    have hq := Nat.div_add_mod r s
    have ht := Nat.div_add_mod (r / s * y) m
    have hz := Nat.div_add_mod (x + (m - r / s * y % m)) m
    have htm : r / s * y % m < m := Nat.mod_lt _ hm0
    generalize (x + (m - r / s * y % m)) % m = z at *
    generalize (x + (m - r / s * y % m)) / m = k1 at *
    generalize r / s * y / m = k2 at *
    generalize hT : r / s * y % m = t at *
    generalize r / s = q at *
    generalize r % s = left at *
    have e1 : (z : Int) = x + (m - t) - m * k1 := by
      have : ((m * k1 + z : Nat) : Int) = ((x + (m - t) : Nat) : Int) := by rw [hz]
      rw [Int.natCast_add, Int.natCast_add, Int.natCast_mul, Int.ofNat_sub (by omega)] at this
      omega
    have e2 : (t : Int) = q * y - m * k2 := by
      have : ((m * k2 + t : Nat) : Int) = ((q * y : Nat) : Int) := by rw [ht]
      rw [Int.natCast_add, Int.natCast_mul, Int.natCast_mul] at this
      omega
    have e3 : (left : Int) = r - q * s := by
      have : ((s * q + left : Nat) : Int) = (r : Int) := by rw [hq]
      rw [Int.natCast_add, Int.natCast_mul] at this
      have := Int.mul_comm (s : Int) q
      omega
    refine ⟨c - q * d + (1 + k2 - k1) * a, ?_⟩
    rw [e1, e2, e3]
    grind
theorem InvI.done {a m r s x y : Nat} (h : InvI a m r s x y) (hs : s = 1) : y = invN a m := by
  subst hs
  refine (invN_eq h.m1 h.ym ?_).symm
  have := mod_of_dvd (a := y * a) (b := 1) (m := m) (by rw [Int.natCast_mul]; exact h.hy)
  rw [Nat.mul_comm, this, Nat.mod_eq_of_lt h.m1]
theorem invN_some {a m : Nat} (hm : 1 < m) (ha : a < m) (h : Nat.gcd a m = 1) : a * invN a m % m = 1 ∧ invN a m < m := by
  have key : ∀ n r s x y, s ≤ n → InvI a m r s x y → ∃ y, y < m ∧ a * y % m = 1 := by
    intro n
    induction n with
    | zero => intro r s x y hs hI; have := hI.s0; omega
    | succ n ih =>
      intro r s x y hs hI
      by_cases h1 : s = 1
      · subst h1
        refine ⟨y, hI.ym, ?_⟩
        have := mod_of_dvd (a := y * a) (b := 1) (m := m) (by rw [Int.natCast_mul]; exact hI.hy)
        rw [Nat.mul_comm, this, Nat.mod_eq_of_lt hm]
      · have h2 := hI.step h1
        exact ih _ _ _ _ (by have := h2.sr; omega) h2
  have hex := key a _ _ _ _ (Nat.le_refl a) (InvI.start hm ha h)
  unfold invN
  rw [dif_pos hex]
  have := Classical.choose_spec hex
  exact ⟨this.2, this.1⟩
theorem invN_pos {a m : Nat} (hm : 1 < m) (ha : a < m) (h : Nat.gcd a m = 1) : invN a m ≠ 0 := by
  intro h0
  have := (invN_some hm ha h).1
  rw [h0, Nat.mul_zero, Nat.zero_mod] at this
  omega
end Go.Proofs.Ytacjiajijigebaa
namespace Go.Proofs.Ytacjiajijigebaa
open Go Go.Ev
set_option linter.unusedSimpArgs false

def divDK : Known Try.prog := kNN 71 (fun _ _ => True) divN (fun a b _ => divides_Div a b)
set_option maxRecDepth 20000 in
theorem divides_Common (a b : Nat) : PureOk Try.prog 145 [aN a, aN b] (tN (Nat.gcd a b)) := by
  refine pure_of_ev (cxK [divDK]) Try.func145 rfl (by kernel_rfl) (Nat.le_of_ble_eq_true rfl) ⟨trivial, trivial, trivial⟩ trivial fun hf w => ?_
  conv => whnf
  refine LoopK.cut (Nat × Nat) (fun _ => []) (fun x => [(0, [.num x.1]), (1, [.num x.2])]) (fun x => Nat.gcd x.1 x.2 = Nat.gcd a b) (fun x => x.2) (a, b) ?_ ?_
    Unit (fun _ => []) (fun _ => [(0, [.num (Nat.gcd a b)]), (1, [.num 0])]) (fun _ => True) 0 ?_ ?_
  · exact rfl
  · repeat' (refine And.intro ?_ ?_)
    all_goals try first | with_reducible rfl | exact trivial
  · rintro ⟨x, y⟩ hx
    replace hx : Nat.gcd x y = Nat.gcd a b := hx
    conv => whnf
    refine brk (fun h3 => ?_) (fun h3 => ?_)
    · have h3 : y = 0 := Nat.eq_of_beq_eq_true h3
      subst h3
      rw [Nat.gcd_zero_right] at hx
      refine ⟨(), trivial, ?_⟩
      repeat' (refine And.intro ?_ ?_)
      all_goals try first | with_reducible rfl | exact trivial
      exact hx
    · have h3 : ¬ y = 0 := Nat.ne_of_beq_eq_false h3
      refine ⟨trivial, by kernel_rfl, by kernel_rfl, (y, dR x y), ?_, ?_, ?_⟩
      · show Nat.gcd y (dR x y) = _
        rw [← hx, dR, if_neg h3, Nat.gcd_comm x y, Nat.gcd_rec y x, Nat.gcd_comm]
      · repeat' (refine And.intro ?_ ?_)
        all_goals try first | with_reducible rfl | exact trivial
      · show dR x y < y
        rw [dR, if_neg h3]; exact Nat.mod_lt _ (by omega)
  · intro _ _
    exact ⟨rfl, trivial⟩
def commonK : Known Try.prog := kNN 145 (fun _ _ => True) (fun a b => tN (Nat.gcd a b)) (fun a b _ => divides_Common a b)

set_option maxRecDepth 20000 in
theorem inv_1 (a b m : Nat) (h : 1 < m ∧ a < m ∧ b < m) : PureOk Try.prog 144 [aN a, aN b, aN m] (tN (invN a m)) := by
  refine pure_of_ev (cxK [commonK, limbsOfK, divDK, timesModK, modsSubK]) Try.func144 rfl (by kernel_rfl) (Nat.le_of_ble_eq_true rfl) ⟨trivial, trivial, trivial, trivial⟩ trivial fun hf w => ?_
  refine ⟨trivial, trivial, ?_⟩
  conv => whnf
  refine brk (fun h1 => ?_) (fun h1 => ?_) <;> replace h1 : (!Nat.beq (Nat.gcd a m) 1) = _ := h1 <;> simp only [Bool.not_eq_true', Bool.not_eq_false'] at h1
  · have h1 : ¬ Nat.gcd a m = 1 := Nat.ne_of_beq_eq_false h1
    exact ⟨(invN_none h1).symm, trivial⟩
  · have h1 : Nat.gcd a m = 1 := Nat.eq_of_beq_eq_true h1
    refine ⟨by kernel_rfl, trivial, trivial, by kernel_rfl, ?_⟩
    conv => whnf
    refine LoopK.cut (Nat × Nat × Nat × Nat) (fun _ => []) (fun x => [(4, [.num x.1]), (5, [.num x.2.1]), (6, [.num x.2.2.1]), (7, [.num x.2.2.2])]) (fun x => InvI a m x.1 x.2.1 x.2.2.1 x.2.2.2) (fun x => x.2.1) (m, a, 0, 1) ?_ ?_
      (Nat × Nat) (fun _ => []) (fun x => [(4, [.num x.1]), (5, [.num 1]), (6, [.num x.2]), (7, [.num (invN a m)])]) (fun _ => True) 0 ?_ ?_
    · exact InvI.start h.1 h.2.1 h1
    · repeat' (refine And.intro ?_ ?_)
      all_goals try first | with_reducible rfl | exact trivial
      all_goals rfl
    · rintro ⟨r, s, x, y⟩ hI
      replace hI : InvI a m r s x y := hI
      refine ⟨by kernel_rfl, trivial, ?_⟩
      conv => whnf
      refine brk (fun h3 => ?_) (fun h3 => ?_) <;> replace h3 : (!Nat.beq s 1) = _ := h3 <;> simp only [Bool.not_eq_true', Bool.not_eq_false'] at h3
      · have h3 : ¬ s = 1 := Nat.ne_of_beq_eq_false h3
        have h0 : ¬ s = 0 := by have := hI.s0; omega
        refine ⟨trivial, by kernel_rfl, ⟨hI.quo h3, hI.ym⟩, trivial, by kernel_rfl, by kernel_rfl, by kernel_rfl, (s, r % s, y, (x + (m - r / s * y % m)) % m), hI.step h3, ?_, ?_⟩
        · have hmay : mayM x (r / s * y % m) m = true := by
            unfold mayM; simp; exact ⟨hI.m1, hI.xm, Nat.mod_lt _ (by have := hI.m1; omega)⟩
          repeat' (refine And.intro ?_ ?_)
          all_goals try first | with_reducible rfl | exact trivial
          · show dR r s = r % s
            rw [dR, if_neg h0]
          · show gM (mayM x (r / s * y % m) m) (subM x (r / s * y % m) m) = _
            rw [hmay]; rfl
        · show r % s < s
          exact Nat.mod_lt _ hI.s0
      · have h3 : s = 1 := Nat.eq_of_beq_eq_true h3
        subst h3
        refine ⟨(r, x), trivial, ?_⟩
        repeat' (refine And.intro ?_ ?_)
        all_goals try first | with_reducible rfl | exact trivial
        exact hI.done rfl
    · intro _ _
      exact ⟨rfl, trivial⟩
noncomputable def inv1K : Known Try.prog := kNNN 144 (fun a b m => 1 < m ∧ a < m ∧ b < m) (fun a _ m => tN (invN a m)) inv_1
set_option maxRecDepth 20000 in
theorem deed_Inv (a b m : Nat) : PureOk Try.prog 137 [.agg [.cell (.fn 144 [] [])], aN a, aN b, aN m] (modsN (fun a _ m => invN a m) a b m) := by
  refine pure_of_ev (cxK [limbsOfK, limbsCmpK, inv1K]) Try.func137 rfl (by kernel_rfl) (Nat.le_of_ble_eq_true rfl) ⟨⟨rfl, trivial⟩, trivial, trivial, trivial, trivial⟩ ⟨trivial, rfl, trivial⟩ fun hf w => ?_
  conv => whnf
  refine ⟨by kernel_rfl, trivial, trivial, ?_⟩
  conv => whnf
  refine brk (fun h1 => ?_) (fun h1 => ?_) <;> replace h1 : (!iltB 0 (cmpN m 1)) = _ := h1 <;> rw [cmp_0lt] at h1 <;> simp only [Bool.not_eq_true', Bool.not_eq_false', decide_eq_true_eq, decide_eq_false_iff_not] at h1
  · have hm : mayM a b m = false := by unfold mayM; simp; omega
    exact ⟨by rw [hm]; rfl, by rw [hm]; rfl, trivial⟩
  · refine ⟨trivial, ?_⟩
    conv => whnf
    refine brk (fun h2 => ?_) (fun h2 => ?_) <;> replace h2 : (!iltB (cmpN a m) 0) = _ := h2 <;> rw [cmp_lt0] at h2 <;> simp only [Bool.not_eq_true', Bool.not_eq_false', decide_eq_true_eq, decide_eq_false_iff_not] at h2
    · have hm : mayM a b m = false := by unfold mayM; simp; omega
      exact ⟨by rw [hm]; rfl, by rw [hm]; rfl, trivial⟩
    · refine ⟨trivial, ?_⟩
      conv => whnf
      refine brk (fun h3 => ?_) (fun h3 => ?_) <;> replace h3 : (!iltB (cmpN b m) 0) = _ := h3 <;> rw [cmp_lt0] at h3 <;> simp only [Bool.not_eq_true', Bool.not_eq_false', decide_eq_true_eq, decide_eq_false_iff_not] at h3
      · have hm : mayM a b m = false := by unfold mayM; simp; omega
        exact ⟨by rw [hm]; rfl, by rw [hm]; rfl, trivial⟩
      · have hm : mayM a b m = true := by unfold mayM; simp; omega
        refine ⟨⟨h1, h2, h3⟩, ?_⟩
        exact ⟨by rw [hm]; rfl, by rw [hm]; rfl, trivial⟩
noncomputable def deedInvK : Known Try.prog :=
  Known.pure 137 (fun
    | [.agg [.cell (.fn 144 [] [])], .agg [.num a], .agg [.num b], .agg [.num m]] => some (True, modsN (fun a _ m => invN a m) a b m)
    | _ => none) fun args p r h _ => by
    split at h
    · simp only [Option.some.injEq, Prod.mk.injEq] at h; obtain ⟨rfl, rfl⟩ := h; exact deed_Inv _ _ _
    · cases h

/-- Rows of a function that is handed a long number captured in a function value. -/
def exp1K : Known Try.prog :=
  ⟨138, fun args mem => match args with
    | [.agg [.num a], .agg [.num _], .agg [.num m], .cv (.ptr l 0 0)] => match bnth mem l with
      | some ([.num n], mk) => some ((mk = 0 ∨ mk = EXTM) ∧ (1 < m ∧ a < m), tN (a ^ n % m), noEff, [l])
      | _ => none
    | _ => none, fun args mem q r e rd hm hq S w0 => by
    split at hm
    · split at hm
      · rename_i hb
        simp only [Option.some.injEq, Prod.mk.injEq] at hm
        obtain ⟨rfl, rfl, rfl, rfl⟩ := hm
        exact exp_1 _ _ _ _ _ _ mem hb hq.1 hq.2 S w0
      · cases hm
    · cases hm⟩
theorem agg_cap {g : GM} {f : FuncId} {vs : List Value} {xs : List AB} (i : Nat) (hv : absRel g xs vs) (hi : xs[i]? = some (.agg [.cell (.fn f [] [0])])) : ∃ b, g 0 = some b := by
  obtain ⟨v, _, _, _, _, _, _, ⟨y, _, _, _, ws, ⟨b, _, hb, _⟩, _⟩, _⟩ := absRel_get _ _ i _ hv hi
  exact ⟨b, hb⟩
set_option maxRecDepth 20000 in
theorem deed_Exp (a b m n l mk : Nat) (mem : List Blk) (hm : bnth mem l = some ([.num n], mk)) (hk : mk = 0 ∨ mk = EXTM) (S : Nat → Prop) (w0 : World) :
    CallOk Try.prog S w0 137 [.agg [.cell (.fn 138 [] [l])], aN a, aN b, aN m] mem [l] (modsN (fun a _ m => a ^ n % m) a b m) noEff := by
  refine capOk (cxK [limbsOfK, limbsCmpK, exp1K]) (r := modsN (fun a _ m => a ^ n % m) a b m) Try.func137 rfl (by kernel_rfl) (xs := [.agg [.cell (.fn 138 [] [0])], aN a, aN b, aN m]) (Nat.le_of_ble_eq_true rfl) ⟨⟨fun l hl => by simp at hl; rw [hl]; exact Nat.zero_lt_one, trivial⟩, ⟨trivial, trivial⟩, ⟨trivial, trivial⟩, ⟨trivial, trivial⟩, trivial⟩ (fun g vs hv => agg_cap 0 hv rfl) ⟨⟨trivial, trivial⟩, trivial, trivial⟩ hm hk fun S w g hf hn => ?_
  conv => whnf
  refine ⟨by kernel_rfl, trivial, trivial, ?_⟩
  conv => whnf
  refine brk (fun h1 => ?_) (fun h1 => ?_) <;> replace h1 : (!iltB 0 (cmpN m 1)) = _ := h1 <;> rw [cmp_0lt] at h1 <;> simp only [Bool.not_eq_true', Bool.not_eq_false', decide_eq_true_eq, decide_eq_false_iff_not] at h1
  · have hm : mayM a b m = false := by unfold mayM; simp; omega
    exact ⟨by rw [hm]; rfl, by rw [hm]; rfl, rfl, trivial⟩
  · refine ⟨trivial, ?_⟩
    conv => whnf
    refine brk (fun h2 => ?_) (fun h2 => ?_) <;> replace h2 : (!iltB (cmpN a m) 0) = _ := h2 <;> rw [cmp_lt0] at h2 <;> simp only [Bool.not_eq_true', Bool.not_eq_false', decide_eq_true_eq, decide_eq_false_iff_not] at h2
    · have hm : mayM a b m = false := by unfold mayM; simp; omega
      exact ⟨by rw [hm]; rfl, by rw [hm]; rfl, rfl, trivial⟩
    · refine ⟨trivial, ?_⟩
      conv => whnf
      refine brk (fun h3 => ?_) (fun h3 => ?_) <;> replace h3 : (!iltB (cmpN b m) 0) = _ := h3 <;> rw [cmp_lt0] at h3 <;> simp only [Bool.not_eq_true', Bool.not_eq_false', decide_eq_true_eq, decide_eq_false_iff_not] at h3
      · have hm : mayM a b m = false := by unfold mayM; simp; omega
        exact ⟨by rw [hm]; rfl, by rw [hm]; rfl, rfl, trivial⟩
      · have hm : mayM a b m = true := by unfold mayM; simp; omega
        refine ⟨⟨.inr rfl, h1, h2⟩, ?_⟩
        exact ⟨by rw [hm]; rfl, by rw [hm]; rfl, rfl, trivial⟩
def deedExpK : Known Try.prog :=
  ⟨137, fun args mem => match args with
    | [.agg [.cell (.fn 138 [] [l])], .agg [.num a], .agg [.num b], .agg [.num m]] => match bnth mem l with
      | some ([.num n], mk) => some (mk = 0 ∨ mk = EXTM, modsN (fun a _ m => a ^ n % m) a b m, noEff, [l])
      | _ => none
    | _ => none, fun args mem q r e rd hm hq S w0 => by
    split at hm
    · split at hm
      · rename_i hb
        simp only [Option.some.injEq, Prod.mk.injEq] at hm
        obtain ⟨rfl, rfl, rfl, rfl⟩ := hm
        exact deed_Exp _ _ _ _ _ _ mem hb hq S w0
      · cases hm
    · cases hm⟩
def expN (a n m : Nat) : AV := modsN (fun a _ m => a ^ n % m) a a m
set_option maxRecDepth 20000 in
theorem mods_Exp (a n m : Nat) : PureOk Try.prog 76 [aN a, aN n, aN m] (expN a n m) := by
  refine pure_of_ev (cxK [deedExpK]) Try.func76 rfl (by kernel_rfl) (Nat.le_of_ble_eq_true rfl) ⟨trivial, trivial, trivial, trivial⟩ ⟨trivial, rfl, trivial⟩ fun hf w => ?_
  exact ⟨.inl rfl, rfl, rfl, trivial⟩
def modsExpK : Known Try.prog := kNNN 76 (fun _ _ _ => True) expN (fun a n m _ => mods_Exp a n m)

def eInv (a m : Nat) : Int := match mayM a a m with
  | true => if Nat.gcd a m = 1 then 0 else 7
  | false => 1
noncomputable def modsInvN (a m : Nat) : AV := .tup [aN (gM (mayM a a m) (invN a m)), aI (eInv a m)]
set_option maxRecDepth 20000 in
theorem mods_Inv (a m : Nat) : PureOk Try.prog 77 [aN a, aN m] (modsInvN a m) := by
  refine pure_of_ev (cxK [deedInvK, limbsOfK]) Try.func77 rfl (by kernel_rfl) (Nat.le_of_ble_eq_true rfl) ⟨trivial, trivial, trivial⟩ ⟨trivial, rfl, trivial⟩ fun hf w => ?_
  refine ⟨trivial, by kernel_rfl, ?_⟩
  conv => whnf
  refine brk (fun h1 => ?_) (fun h1 => ?_) <;> replace h1 : ieqB (eM (mayM a a m)) 0 = _ := h1
  · have hm : mayM a a m = true := by
      cases h : mayM a a m with
      | true => rfl
      | false => rw [h] at h1; cases h1
    have hm' : 1 < m ∧ a < m ∧ a < m := by unfold mayM at hm; simpa using hm
    refine ⟨trivial, ?_⟩
    conv => whnf
    refine brk (fun h2 => ?_) (fun h2 => ?_) <;> replace h2 : Nat.beq (gM (mayM a a m) (invN a m)) 0 = _ := h2 <;> rw [hm] at h2
    · have h2 : invN a m = 0 := Nat.eq_of_beq_eq_true h2
      have hg : ¬ Nat.gcd a m = 1 := fun h => invN_pos hm'.1 hm'.2.1 h h2
      exact ⟨rfl, by unfold eInv; rw [hm]; exact (if_neg hg).symm, trivial⟩
    · have h2 : ¬ invN a m = 0 := Nat.ne_of_beq_eq_false h2
      have hg : Nat.gcd a m = 1 := Classical.byContradiction fun h => h2 (invN_none h)
      exact ⟨rfl, by unfold eInv; rw [hm]; exact (if_pos hg).symm, trivial⟩
  · have hm : mayM a a m = false := by
      cases h : mayM a a m with
      | true => rw [h] at h1; cases h1
      | false => rfl
    exact ⟨rfl, by unfold eInv; rw [hm]; rfl, trivial⟩
noncomputable def modsInvK : Known Try.prog := kNN 77 (fun _ _ => True) modsInvN (fun a m _ => mods_Inv a m)
end Go.Proofs.Ytacjiajijigebaa
namespace Go.Proofs.Ytacjiajijigebaa
open Go Go.Ev
set_option linter.unusedSimpArgs false

def mayG (g : Grp) (a : Nat) : Bool := decide (1 < g.P ∧ a ≠ 0 ∧ a < g.P)
theorem mayG_t {g : Grp} {a : Nat} (h : mayG g a = true) : 1 < g.P ∧ a ≠ 0 ∧ a < g.P := by unfold mayG at h; simpa using h
theorem mayG_M {g : Grp} {a : Nat} (h : mayG g a = true) : mayM a a g.P = true := by
  have := mayG_t h
  unfold mayM; simp; omega
theorem mayG_MM {g : Grp} {a b : Nat} (h : mayG g a = true) (h2 : mayG g b = true) : mayM a b g.P = true := by
  have := mayG_t h
  have := mayG_t h2
  unfold mayM; simp; omega
def grpMul (g : Grp) (a b : Nat) : AV := .tup [aN (gM (and (mayG g a) (mayG g b)) (a * b % g.P)), aI (eM (and (mayG g a) (mayG g b)))]
def eGI (g : Grp) (a : Nat) : Int := match mayG g a with
  | true => if Nat.gcd a g.P = 1 then 0 else 7
  | false => 1
noncomputable def grpInv (g : Grp) (a : Nat) : AV := .tup [aN (gM (mayG g a) (invN a g.P)), aI (eGI g a)]
def grpExp (g : Grp) (a n : Nat) : AV := .tup [aN (gM (mayG g a) (a ^ n % g.P)), aI (eM (mayG g a))]
def inG (g : Grp) (a : Nat) : Bool := and (mayG g a) (Nat.beq (a ^ g.Q % g.P) 1)

set_option maxRecDepth 20000 in
theorem groups_may (g : Grp) (a : Nat) : PureOk Try.prog 106 [aG g, aN a] (tB (mayG g a)) := by
  obtain ⟨P, Q, G, H⟩ := g
  refine pure_of_ev (cxK [limbsOfK, limbsCmpK]) Try.func106 rfl (by kernel_rfl) (Nat.le_of_ble_eq_true rfl) ⟨trivial, trivial, trivial⟩ rfl fun hf w => ?_
  refine ⟨by kernel_rfl, trivial, trivial, ?_⟩
  conv => whnf
  refine brk (fun h1 => ?_) (fun h1 => ?_) <;> replace h1 : iltB 0 (cmpN P 1) = _ := h1 <;> rw [cmp_0lt] at h1 <;> simp only [decide_eq_true_eq, decide_eq_false_iff_not] at h1
  · refine ⟨trivial, ?_⟩
    conv => whnf
    refine brk (fun h2 => ?_) (fun h2 => ?_) <;> replace h2 : (!Nat.beq a 0) = _ := h2 <;> simp only [Bool.not_eq_true', Bool.not_eq_false'] at h2
    · replace h2 := Nat.ne_of_beq_eq_false h2
      refine ⟨trivial, ?_, trivial⟩
      show iltB (cmpN a P) 0 = mayG _ a
      rw [cmp_lt0]; unfold mayG; simp [h1, h2]
    · replace h2 := Nat.eq_of_beq_eq_true h2
      refine ⟨?_, trivial⟩
      show false = mayG _ a
      unfold mayG; simp [h2]
  · refine ⟨?_, trivial⟩
    show false = mayG _ a
    unfold mayG; simp [h1]
def mayGK : Known Try.prog := kGN 106 (fun _ _ => True) (fun g a => tB (mayG g a)) (fun g a _ => groups_may g a)

set_option maxRecDepth 20000 in
theorem groups_Mul (g : Grp) (a b : Nat) : PureOk Try.prog 43 [aG g, aN a, aN b] (grpMul g a b) := by
  obtain ⟨P, Q, G, H⟩ := g
  refine pure_of_ev (cxK [mayGK, modsMulK]) Try.func43 rfl (by kernel_rfl) (Nat.le_of_ble_eq_true rfl) ⟨trivial, trivial, trivial, trivial⟩ ⟨trivial, rfl, trivial⟩ fun hf w => ?_
  refine ⟨trivial, ?_⟩
  conv => whnf
  refine brk (fun h1 => ?_) (fun h1 => ?_) <;> replace h1 : (!mayG ⟨P, Q, G, H⟩ a) = _ := h1 <;> simp only [Bool.not_eq_true', Bool.not_eq_false'] at h1
  · exact ⟨by rw [h1]; rfl, by rw [h1]; rfl, trivial⟩
  · refine ⟨trivial, ?_⟩
    conv => whnf
    refine brk (fun h2 => ?_) (fun h2 => ?_) <;> replace h2 : (!mayG ⟨P, Q, G, H⟩ b) = _ := h2 <;> simp only [Bool.not_eq_true', Bool.not_eq_false'] at h2
    · exact ⟨by rw [h1, h2]; rfl, by rw [h1, h2]; rfl, trivial⟩
    · have hm : mayM a b P = true := mayG_MM h1 h2
      exact ⟨trivial, by rw [h1, h2, hm]; rfl, by rw [h1, h2, hm]; rfl, trivial⟩
def grpMulK : Known Try.prog := kGNN 43 (fun _ _ _ => True) grpMul (fun g a b _ => groups_Mul g a b)

set_option maxRecDepth 20000 in
theorem groups_Inv (g : Grp) (a : Nat) : PureOk Try.prog 44 [aG g, aN a] (grpInv g a) := by
  obtain ⟨P, Q, G, H⟩ := g
  refine pure_of_ev (cxK [mayGK, modsInvK]) Try.func44 rfl (by kernel_rfl) (Nat.le_of_ble_eq_true rfl) ⟨trivial, trivial, trivial⟩ ⟨trivial, rfl, trivial⟩ fun hf w => ?_
  refine ⟨trivial, ?_⟩
  conv => whnf
  refine brk (fun h1 => ?_) (fun h1 => ?_) <;> replace h1 : (!mayG ⟨P, Q, G, H⟩ a) = _ := h1 <;> simp only [Bool.not_eq_true', Bool.not_eq_false'] at h1
  · exact ⟨by rw [h1]; rfl, by unfold eGI; rw [h1], trivial⟩
  · have hm : mayM a a P = true := mayG_M h1
    exact ⟨trivial, by rw [h1, hm], by unfold eGI eInv; rw [h1, hm], trivial⟩
noncomputable def grpInvK : Known Try.prog := kGN 44 (fun _ _ => True) grpInv (fun g a _ => groups_Inv g a)

set_option maxRecDepth 20000 in
theorem groups_Exp (g : Grp) (a n : Nat) : PureOk Try.prog 45 [aG g, aN a, aN n] (grpExp g a n) := by
  obtain ⟨P, Q, G, H⟩ := g
  refine pure_of_ev (cxK [mayGK, modsExpK]) Try.func45 rfl (by kernel_rfl) (Nat.le_of_ble_eq_true rfl) ⟨trivial, trivial, trivial, trivial⟩ ⟨trivial, rfl, trivial⟩ fun hf w => ?_
  refine ⟨trivial, ?_⟩
  conv => whnf
  refine brk (fun h1 => ?_) (fun h1 => ?_) <;> replace h1 : (!mayG ⟨P, Q, G, H⟩ a) = _ := h1 <;> simp only [Bool.not_eq_true', Bool.not_eq_false'] at h1
  · exact ⟨by rw [h1]; rfl, by rw [h1]; rfl, trivial⟩
  · have hm : mayM a a P = true := mayG_M h1
    exact ⟨trivial, by rw [h1, hm], by rw [h1, hm], trivial⟩
def grpExpK : Known Try.prog := kGNN 45 (fun _ _ _ => True) grpExp (fun g a n _ => groups_Exp g a n)

set_option maxRecDepth 20000 in
theorem groups_In (g : Grp) (a : Nat) : PureOk Try.prog 49 [aG g, aN a] (tB (inG g a)) := by
  obtain ⟨P, Q, G, H⟩ := g
  refine pure_of_ev (cxK [grpExpK, limbsOfK]) Try.func49 rfl (by kernel_rfl) (Nat.le_of_ble_eq_true rfl) ⟨trivial, trivial, trivial⟩ rfl fun hf w => ?_
  refine ⟨trivial, by kernel_rfl, ?_⟩
  conv => whnf
  refine brk (fun h1 => ?_) (fun h1 => ?_) <;> replace h1 : ieqB (eM (mayG ⟨P, Q, G, H⟩ a)) 0 = _ := h1
  · have hm : mayG ⟨P, Q, G, H⟩ a = true := by
      cases h : mayG ⟨P, Q, G, H⟩ a with
      | true => rfl
      | false => rw [h] at h1; cases h1
    refine ⟨trivial, ?_, trivial⟩
    show Nat.beq (gM (mayG ⟨P, Q, G, H⟩ a) (a ^ Q % P)) 1 = and (mayG ⟨P, Q, G, H⟩ a) (Nat.beq (a ^ Q % P) 1)
    rw [hm]; rfl
  · have hm : mayG ⟨P, Q, G, H⟩ a = false := by
      cases h : mayG ⟨P, Q, G, H⟩ a with
      | false => rfl
      | true => rw [h] at h1; cases h1
    refine ⟨?_, trivial⟩
    show false = and (mayG ⟨P, Q, G, H⟩ a) (Nat.beq (a ^ Q % P) 1)
    rw [hm]; rfl
def inGK : Known Try.prog := kGN 49 (fun _ _ => True) (fun g a => tB (inG g a)) (fun g a _ => groups_In g a)
end Go.Proofs.Ytacjiajijigebaa
namespace Go.Ev
open Go Go.ChangeShapes Go.WideShapes Go.ChangeAt Go.RowKit
variable {H : Type} {enc : TypeId × Value → H} {P : Program}

theorem Fr.below {W W' : World} (h : Fr (fun _ => False) W W') : Below W.heap.size W W' := ⟨h.os, h.tape, h.output, h.size, fun k hk => h.block k hk (fun h => h)⟩

theorem shutAll (hl : laidOutB P = true) {W W' : World} (hb : Below W.heap.size W W') {sp : Nat → Bool} : ∀ {ts : List TypeId} {vs : List Value} {ds : List (DataW H)} {ps : List MemPlace},
    (∀ t ∈ ts, P.readableRec t = true ∧ t < P.types.size) → DataW.TrodAll enc P W 0 (fun _ => true) true ts vs ds ps → (∀ x ∈ ps, x.block < W.heap.size) → (∀ x ∈ ps, sp x.block = true) → DataW.TrodAll enc P W' 0 sp true ts vs ds ps
  | [], vs, ds, ps, _, h, _, _ => by
    obtain ⟨rfl, rfl, rfl⟩ := trodAll_nil h
    exact rfl
  | t :: ts, vs, ds, ps, hr, h, hlt, hsp => by
    obtain ⟨v, vs', d, ds', p, q, rfl, rfl, rfl, h1, h2⟩ := trodAll_cons h
    have hr1 := hr t (List.mem_cons_self ..)
    exact ⟨p, q, WideElems.Trod_stays hl hr1.1 hr1.2 h1 (fun x hx => hb.same (hlt x (List.mem_append_left _ hx))) (fun x hx => hsp x (List.mem_append_left _ hx)),
      shutAll hl hb (fun t ht => hr t (List.mem_cons_of_mem _ ht)) h2 (fun x hx => hlt x (List.mem_append_right _ hx)) (fun x hx => hsp x (List.mem_append_right _ hx)), rfl⟩

/-- SHUT: a function that answers true and leaves what it was given as it was. -/
theorem post_true (hl : laidOutB P = true) {f : Func} {s : ChangeSpec} {apart fresh handsOn again : Bool} {W W' : World} {args : Array Value} {ds gs : List (DataW H)} {before p q : List MemPlace}
    (hW : DataW.Whole enc P f.params.toList s.vars apart W args.toList ds gs before) (hA : DataW.TrodAll enc P W 0 (fun _ => true) true f.params.toList args.toList ds p) (hps : before = p ++ q)
    (hr : ∀ t ∈ f.params.toList, P.readableRec t = true ∧ t < P.types.size) (hvars : s.vars = []) (hq : q = [])
    {tb : TypeId} (hres : f.resultTypes = #[tb]) (htb : P.underlying tb = some .bool)
    (hs : (s.fn H (ds ++ gs)).results = [.lit (.bool true)]) (ha : (s.fn H (ds ++ gs)).args = ds) (hv : (s.fn H (ds ++ gs)).vars = [])
    (hfr : Fr (fun _ => False) W W') : s.post enc P f apart fresh handsOn again W args (.bool true) W' := by
  have hb := hfr.below
  have hlt : ∀ x ∈ p, x.block < W.heap.size := fun x hx => hW.lt x (by rw [hps]; exact List.mem_append_left _ hx)
  subst hq
  rw [List.append_nil] at hps
  subst hps
  have hargs : ∀ sp : Nat → Bool, (∀ p ∈ before, sp p.block = true) → DataW.TrodAll enc P W' 0 sp true f.params.toList args.toList (s.fn H (ds ++ gs)).args before := fun sp hsp => by
    rw [ha]
    exact shutAll hl hb hr hA hlt hsp
  have hvs : ∀ sp : Nat → Bool, DataW.TrodVars enc P W' sp s.vars (s.fn H (ds ++ gs)).vars [] := fun sp => by
    rw [hvars, hv]; exact rfl
  have hrs : ∀ (b : Nat) (sp : Nat → Bool) (hd : Bool), DataW.TrodAll enc P W' b sp hd f.resultTypes.toList ((Value.bool true).resultList f.resultTypes.size) (s.fn H (ds ++ gs)).results [] := fun b sp hd => by
    rw [hs, hres]
    exact trodAll_mk1 (shut_bool htb true)
  have hok : ∀ (j : Nat) (t : TypeId) (r : Value), f.resultTypes[j]? = some t → ((Value.bool true).resultList f.resultTypes.size)[j]? = some r → Value.okWide P W' .any 0 t r := by
    exact ok_one hres rfl (okWide_bool_mk htb true)
  have hold : ∀ p ∈ before, (fun b => decide (b < W.heap.size)) p.block = true := fun p hp => by simpa using hlt p hp
  refine ⟨ds, gs, before, [], before, [], hW, hrs _ _ _, hargs _ hold, hvs _, World.keptBut_mono (fun p hp => ⟨hp, Or.inr (Or.inl hp)⟩) (hb.frame _), fun _ => ?_⟩
  obtain ⟨_, _, _, _, _, hz, hn⟩ := hW
  refine ⟨hok, _, _, ([] ++ before) ++ [], ⟨[] ++ before, [], trodAll_append (hargs _ (fun _ _ => rfl)) (hrs _ _ _), hvs _, rfl, ?_, ?_⟩, ?_⟩
  · intro b off hp
    have hp' : MemPlace.cell b off ∈ before := by simpa using hp
    rw [hb.frozen (hlt _ hp')]
    exact hz b off hp'
  · intro ha
    have := hn ha
    simpa using this
  · intro p hp _
    simpa using hp

/-- What the evaluator says of a call that answers true. -/
theorem calls_true {C : Cx} (hC : CxOk P C) {f : FuncId} {fn : Func} {c : Code} {xs : List AB} {vs : List Value} {w : World} (hf : P.funcs[f]? = some fn) (hb : fn.body = some c) (hl : xs.length ≤ fn.ntmps)
    (hv : absRel noG xs vs)
    (h : evC P noS w C noG 0 c (ts0 xs (fn.ntmps - xs.length)) [] fun x ts' mem' => match x with
      | .exit _ => False
      | _ => resK C fn.results.toList ts' mem' fun r' => leAV 0 r' (.b (.cv (.bool true))) True) : Calls P f vs.toArray w fun en w' => en = .returned (.bool true) ∧ Fr (fun _ => False) w w' := by
  refine (calls_of_ev hC hf hb (g0 := noG) (k0 := 0) (S := noS) (w := w) (mem := []) (xs := xs) (vs := vs) (K := fun r' _ => leAV 0 r' (.b (.cv (.bool true))) True) (fun l h => absurd rfl h) hv hl (fun l b k h => by cases h) ⟨(fun l b h => by cases h), Fr.refl _ _⟩ (fun l h => absurd rfl h) (fun l l' b b' k k' h => by cases h) h).mono ?_
  rintro en w' ⟨v, r', mem', g', he, hK, hr, _, _, hg, _⟩
  have := (leAV_ok hK).2 g' v hr
  have e : v = .bool true := this
  subst e
  exact ⟨he, hg.fr⟩
theorem has_wf {k : IntKind} {n : Int} (h : (Lit.int k n).wf = true) : IntKind.has k n := by
  simpa [Lit.wf, IntKind.has] using h
end Go.Ev
namespace Go.Ev
open Go Go.RowKit
theorem PureOk.calls {P : Program} {f : FuncId} {fn : Func} {c : Code} {args : List AB} {r : AV} (h : PureOk P f args r) (hf : P.funcs[f]? = some fn) (hb : fn.body = some c) (hn : (fn.name == "runtime.NumGoroutine") = false) {g : GM} {vs : List Value} (hv : absRel g args vs) (w : World) :
    Calls P f vs.toArray w fun en w' => ∃ v, en = .returned v ∧ r.rel g v ∧ Below w.heap.size w w' := by
  rcases h g w vs hv with ⟨v, h1, _⟩ | ⟨_, h2⟩
  · rw [callFunc_enter hf hb hn] at h1; cases h1
  · exact h2.mono fun en w' ⟨v, e, hr, hF⟩ => ⟨v, e, hr, hF.below⟩
end Go.Ev
namespace Go.Proofs.Ytacjiajijigebaa
open Go Go.Ev Go.RowKit Go.Shelf
attribute [local go_sem] Oper.semAt_some

theorem lv_rel {g : GM} {n : Nat} (h : n < BW) : AB.rel g (aN n) (lv n) := ⟨_, rfl, limbs n, [], by simp [limbs], ⟨h, rfl⟩, rfl⟩
theorem rel_lv {g : GM} {n : Nat} {v : Value} (h : AB.rel g (aN n) v) : v = lv n ∧ n < BW := by
  obtain ⟨a, rfl, us, ws, e, ⟨h1, rfl⟩, rfl⟩ := h
  refine ⟨?_, h1⟩
  obtain ⟨l⟩ := a
  simp only [List.append_nil] at e
  subst e
  rfl
/-- A group's value. -/
abbrev gV (g : Grp) : Value := .agg #[.int .u64 (limb 0 g.P), .int .u64 (limb 1 g.P), .int .u64 (limb 2 g.P), .int .u64 (limb 3 g.P), .int .u64 (limb 0 g.Q), .int .u64 (limb 1 g.Q), .int .u64 (limb 2 g.Q), .int .u64 (limb 3 g.Q),
  .int .u64 (limb 0 g.G), .int .u64 (limb 1 g.G), .int .u64 (limb 2 g.G), .int .u64 (limb 3 g.G), .int .u64 (limb 0 g.H), .int .u64 (limb 1 g.H), .int .u64 (limb 2 g.H), .int .u64 (limb 3 g.H)]
def grpOk (g : Grp) : Prop := g.P < BW ∧ g.Q < BW ∧ g.G < BW ∧ g.H < BW
theorem gV_rel {g : Grp} {m : GM} (h : grpOk g) : AB.rel m (aG g) (gV g) :=
  ⟨_, rfl, limbs g.P, _, rfl, ⟨h.1, rfl⟩, limbs g.Q, _, rfl, ⟨h.2.1, rfl⟩, limbs g.G, _, rfl, ⟨h.2.2.1, rfl⟩, limbs g.H, [], rfl, ⟨h.2.2.2, rfl⟩, rfl⟩

theorem pair_rel {g : GM} {n : Nat} {e : Int} {v : Value} (h : AV.rel g (.tup [aN n, aI e]) v) : v = .tuple #[lv n, .int .i64 e] ∧ n < BW := by
  obtain ⟨a, rfl, y, ys, e1, h1, y2, ys2, e2, h2, rfl⟩ := h
  obtain ⟨rfl, h3⟩ := rel_lv h1
  obtain ⟨l⟩ := a
  simp only at e1
  subst e1 e2
  obtain ⟨rfl, _⟩ := h2
  exact ⟨rfl, h3⟩
theorem exp_calls (g : Grp) (a n : Nat) (hg : grpOk g) (ha : a < BW) (hn : n < BW) (w : World) : Calls Try.prog 45 #[gV g, lv a, lv n] w fun e w' => e = .returned (.tuple #[lv (gM (mayG g a) (a ^ n % g.P)), .int .i64 (eM (mayG g a))]) ∧ Below w.heap.size w w' := by
  refine ((groups_Exp g a n).calls (g := noG) (vs := [gV g, lv a, lv n]) Try.func45 rfl (by kernel_rfl) ⟨_, _, rfl, gV_rel hg, _, _, rfl, lv_rel ha, _, _, rfl, lv_rel hn, rfl⟩ w).mono ?_
  rintro e w' ⟨v, rfl, hr, hb⟩
  exact ⟨by rw [(pair_rel hr).1], hb⟩
theorem mul_calls (a b m : Nat) (ha : a < BW) (hb : b < BW) (hm : m < BW) (w : World) : Calls Try.prog 75 #[lv a, lv b, lv m] w fun e w' => e = .returned (.tuple #[lv (gM (mayM a b m) (a * b % m)), .int .i64 (eM (mayM a b m))]) ∧ Below w.heap.size w w' := by
  refine ((mods_Mul a b m).calls (g := noG) (vs := [lv a, lv b, lv m]) Try.func75 rfl (by kernel_rfl) ⟨_, _, rfl, lv_rel ha, _, _, rfl, lv_rel hb, _, _, rfl, lv_rel hm, rfl⟩ w).mono ?_
  rintro e w' ⟨v, rfl, hr, hb⟩
  exact ⟨by rw [(pair_rel hr).1], hb⟩
theorem of_calls (n : Nat) (hn : n < 18446744073709551616) (w : World) : Calls Try.prog 53 #[.int .u64 (n : Int)] w fun e w' => e = .returned (lv n) ∧ Below w.heap.size w w' := by
  refine ((limbs_Of n).calls (g := noG) (vs := [.int .u64 (n : Int)]) Try.func53 rfl (by kernel_rfl) ⟨_, _, rfl, ⟨rfl, hasU.2 ⟨by omega, by omega⟩⟩, rfl⟩ w).mono ?_
  rintro e w' ⟨v, rfl, hr, hb⟩
  exact ⟨by rw [(rel_lv hr).1]; rfl, hb⟩
theorem cmp_calls (a b : Nat) (ha : a < BW) (hb : b < BW) (w : World) : Calls Try.prog 66 #[lv a, lv b] w fun e w' => e = .returned (.int .i64 (cmpN a b)) ∧ Below w.heap.size w w' := by
  refine ((limbs_Cmp a b).calls (g := noG) (vs := [lv a, lv b]) Try.func66 rfl (by kernel_rfl) ⟨_, _, rfl, lv_rel ha, _, _, rfl, lv_rel hb, rfl⟩ w).mono ?_
  rintro e w' ⟨v, rfl, hr, hb⟩
  exact ⟨by rw [show v = .int .i64 (cmpN a b) from hr.1], hb⟩

def stepV (g : Grp) (o : Nat) (x : NP) : Nat := o * (x.1.1 ^ x.1.2 % g.P) % g.P
def prodV (g : Grp) (zs : List NP) : Nat := zs.foldl (stepV g) 1
def allMay (g : Grp) (zs : List NP) : Bool := zs.all fun x => mayG g x.1.1
theorem prodV_snoc (g : Grp) (zs : List NP) (x : NP) : prodV g (zs ++ [x]) = stepV g (prodV g zs) x := by simp [prodV]
theorem allMay_snoc (g : Grp) (zs : List NP) (x : NP) : allMay g (zs ++ [x]) = (allMay g zs && mayG g x.1.1) := by simp [allMay]
theorem prodV_lt {g : Grp} (h : 1 < g.P) : ∀ (zs : List NP), prodV g zs < g.P := by
  intro zs
  rcases List.eq_nil_or_concat zs with rfl | ⟨ys, x, rfl⟩
  · exact h
  · rw [List.concat_eq_append, prodV_snoc]; exact Nat.mod_lt _ (by omega)

theorem cells_cell {W : World} {b : Nat} {cs : Array Value} {ty : TypeId} (h : W.heap[b]? = some (.cells cs ty)) (i : Nat) : W.cell? ⟨b, i, none⟩ = cs[i]? := by
  unfold World.cell?
  simp [h]
theorem cells_frozen {W : World} {b : Nat} {cs : Array Value} {ty : TypeId} (h : W.heap[b]? = some (.cells cs ty)) (i : Nat) : W.frozen? ⟨b, i, none⟩ = false := by
  unfold World.frozen?
  simp [h]
theorem grp_cells {W : World} {b : Nat} {g : Grp} {gs : Array Value} (hg : gV g = .agg gs) (h : W.heap[b]? = some (.cells gs 45)) :
    W.cell? ⟨b, 0, none⟩ = some (.int .u64 (limb 0 g.P)) ∧ W.cell? ⟨b, 1, none⟩ = some (.int .u64 (limb 1 g.P)) ∧ W.cell? ⟨b, 2, none⟩ = some (.int .u64 (limb 2 g.P)) ∧ W.cell? ⟨b, 3, none⟩ = some (.int .u64 (limb 3 g.P)) ∧
    W.cell? ⟨b, 4, none⟩ = some (.int .u64 (limb 0 g.Q)) ∧ W.cell? ⟨b, 5, none⟩ = some (.int .u64 (limb 1 g.Q)) ∧ W.cell? ⟨b, 6, none⟩ = some (.int .u64 (limb 2 g.Q)) ∧ W.cell? ⟨b, 7, none⟩ = some (.int .u64 (limb 3 g.Q)) ∧
    W.cell? ⟨b, 8, none⟩ = some (.int .u64 (limb 0 g.G)) ∧ W.cell? ⟨b, 9, none⟩ = some (.int .u64 (limb 1 g.G)) ∧ W.cell? ⟨b, 10, none⟩ = some (.int .u64 (limb 2 g.G)) ∧ W.cell? ⟨b, 11, none⟩ = some (.int .u64 (limb 3 g.G)) ∧
    W.cell? ⟨b, 12, none⟩ = some (.int .u64 (limb 0 g.H)) ∧ W.cell? ⟨b, 13, none⟩ = some (.int .u64 (limb 1 g.H)) ∧ W.cell? ⟨b, 14, none⟩ = some (.int .u64 (limb 2 g.H)) ∧ W.cell? ⟨b, 15, none⟩ = some (.int .u64 (limb 3 g.H)) := by
  injection hg with hg
  subst hg
  refine ⟨?_, ?_, ?_, ?_, ?_, ?_, ?_, ?_, ?_, ?_, ?_, ?_, ?_, ?_, ?_, ?_⟩ <;> exact cells_cell h _
theorem num_cells {W : World} {b n : Nat} {gs : Array Value} (hg : lv n = .agg gs) (h : W.heap[b]? = some (.cells gs 26)) :
    (W.cell? ⟨b, 0, none⟩ = some (.int .u64 (limb 0 n)) ∧ W.cell? ⟨b, 1, none⟩ = some (.int .u64 (limb 1 n)) ∧ W.cell? ⟨b, 2, none⟩ = some (.int .u64 (limb 2 n)) ∧ W.cell? ⟨b, 3, none⟩ = some (.int .u64 (limb 3 n))) ∧
    (W.frozen? ⟨b, 0, none⟩ = false ∧ W.frozen? ⟨b, 1, none⟩ = false ∧ W.frozen? ⟨b, 2, none⟩ = false ∧ W.frozen? ⟨b, 3, none⟩ = false) := by
  injection hg with hg
  subst hg
  exact ⟨⟨cells_cell h _, cells_cell h _, cells_cell h _, cells_cell h _⟩, cells_frozen h _, cells_frozen h _, cells_frozen h _, cells_frozen h _⟩

theorem cell_al {W : World} {b i : Nat} {v : Value} (o : Obj) (h : W.cell? ⟨b, i, none⟩ = some v) : (W.alloc o).cell? ⟨b, i, none⟩ = some v := by
  have hb : b < W.heap.size := by
    refine Classical.byContradiction fun hn => ?_
    unfold World.cell? at h
    simp [Array.getElem?_eq_none (show W.heap.size ≤ b by omega)] at h
  exact (World.cell?_of_block (w := W) (Below.heap_alloc W o b hb)).trans h
theorem heap_new (w : World) (o : Obj) : (w.alloc o).heap[w.heap.size]? = some o := World.alloc_heap_new w o
theorem one_alloc {w w' : World} {A : Obj} (hb : Below (w.alloc A).heap.size (w.alloc A) w') : (∀ k, k < w.heap.size → w'.heap[k]? = w.heap[k]?) ∧ w'.heap[w.heap.size]? = some A ∧ w.heap.size + 1 ≤ w'.heap.size ∧ Below w.heap.size w w' := by
  have hs := hb.size
  rw [World.size_alloc] at hs
  refine ⟨fun k hk => (hb.block k (by simp; omega)).trans (Below.heap_alloc w A k hk), (hb.block _ (by simp)).trans (heap_new w A), hs, ?_⟩
  exact ((Below.refl _ w).alloc (Nat.le_refl _) A).trans (hb.mono (by simp))
theorem three_allocs {w w' : World} {A B C : Obj} (hb : Below (((w.alloc A).alloc B).alloc C).heap.size (((w.alloc A).alloc B).alloc C) w') :
    w'.heap[w.heap.size]? = some A ∧ w'.heap[w.heap.size + 1]? = some B ∧ w'.heap[w.heap.size + 1 + 1]? = some C ∧ w.heap.size + 3 ≤ w'.heap.size ∧ Below w.heap.size w w' := by
  obtain ⟨h1, h2, h3, h4⟩ := one_alloc hb
  obtain ⟨h5, h6, h7, h8⟩ := one_alloc h4
  obtain ⟨h9, h10, h11, h12⟩ := one_alloc h8
  simp only [World.size_alloc] at *
  exact ⟨h10, h6, h2, by omega, h12⟩

abbrev lvA (n : Nat) : Array Value := #[.int .u64 (limb 0 n), .int .u64 (limb 1 n), .int .u64 (limb 2 n), .int .u64 (limb 3 n)]
abbrev z4 : Array Value := #[.int .u64 0, .int .u64 0, .int .u64 0, .int .u64 0]
abbrev gA (g : Grp) : Array Value := #[.int .u64 (limb 0 g.P), .int .u64 (limb 1 g.P), .int .u64 (limb 2 g.P), .int .u64 (limb 3 g.P), .int .u64 (limb 0 g.Q), .int .u64 (limb 1 g.Q), .int .u64 (limb 2 g.Q), .int .u64 (limb 3 g.Q),
  .int .u64 (limb 0 g.G), .int .u64 (limb 1 g.G), .int .u64 (limb 2 g.G), .int .u64 (limb 3 g.G), .int .u64 (limb 0 g.H), .int .u64 (limb 1 g.H), .int .u64 (limb 2 g.H), .int .u64 (limb 3 g.H)]
/-- The box B holds cs. -/
def Box (W : World) (B : Nat) (t : TypeId) (cs : Array Value) : Prop := W.heap[B]? = some (.cells cs t)
theorem Box.own {β : Type} (B : Nat) (t : TypeId) (f : β → Array Value) : Own (fun s W => Box W B t (f s)) := fun s X Y row hs hg hr =>
  (hg.block B (Array.getElem?_eq_some_iff.1 hs).1 (fun e => by obtain ⟨o, ho, hc⟩ := hr B e.symm; rw [show X.heap[B]? = _ from hs] at ho; cases ho; cases hc)).trans hs
theorem Box.lt {W : World} {B : Nat} {t : TypeId} {cs : Array Value} (h : Box W B t cs) : B < W.heap.size := (Array.getElem?_eq_some_iff.1 h).1
theorem Box.alloc {W : World} {B : Nat} {t : TypeId} {cs : Array Value} (h : Box W B t cs) (o : Obj) : Box (W.alloc o) B t cs := (Below.heap_alloc W o B h.lt).trans h
theorem Box.below {n : Nat} {W W' : World} {B : Nat} {t : TypeId} {cs : Array Value} (h : Box W B t cs) (hb : Below n W W') (hn : B < n) : Box W' B t cs := (hb.block B hn).trans h

theorem Box.set {W : World} {B i : Nat} {t : TypeId} {cs : Array Value} (h : Box W B t cs) (v : Value) (hi : i < cs.size) : Box (W.setCell ⟨B, i, none⟩ v) B t (cs.set i v hi) := by
  have hl := h.lt
  unfold Box at *
  simp only [World.setCell, Array.getElem?_modify, if_pos, h, Option.map_some]
  simp [hi, Array.setIfInBounds]
theorem Box.set4 {W : World} {B : Nat} {t : TypeId} {a b c d : Value} (h : Box W B t #[a, b, c, d]) (v0 v1 v2 v3 : Value) :
    Box ((((W.setCell ⟨B, 0, none⟩ v0).setCell ⟨B, 1, none⟩ v1).setCell ⟨B, 2, none⟩ v2).setCell ⟨B, 3, none⟩ v3) B t #[v0, v1, v2, v3] :=
  (((h.set (i := 0) v0 (show 0 < 4 by decide)).set (i := 1) v1 (show 1 < 4 by decide)).set (i := 2) v2 (show 2 < 4 by decide)).set (i := 3) v3 (show 3 < 4 by decide)
theorem Box.put {W : World} {B D : Nat} {t : TypeId} {cs : Array Value} {o : Obj} (h : Box W B t cs) (hD : W.heap[D]? = some o) (ho : o.isCells = false) (o' : Obj) : Box (W.putObj D o') B t cs :=
  Box.own B t (fun (_ : Unit) => cs) () W _ (some D) h (grownBy_putObj' W D o') (fun r e => by cases e; exact ⟨_, hD, ho⟩)
theorem Box.other {W : World} {B B' i : Nat} {t : TypeId} {cs : Array Value} (h : Box W B t cs) (v : Value) (hne : B ≠ B') : Box (W.setCell ⟨B', i, none⟩ v) B t cs := (Below.heap_setCell W _ v B hne).trans h
theorem Box.cellA {W : World} {B i : Nat} {t : TypeId} {cs : Array Value} {v : Value} (h : Box W B t cs) (hi : cs[i]? = some v) : W.cell? ⟨B, i, none⟩ = some v ∧ W.frozen? ⟨B, i, none⟩ = false := ⟨(cells_cell h i).trans hi, cells_frozen h i⟩
theorem keeps_below {W W' : World} (hb : Below W.heap.size W W') : KeepsOthers W W' := ⟨hb.size, fun k _ hk _ => (hb.block k (Array.getElem?_eq_some_iff.1 hk).1).trans hk⟩

set_option maxRecDepth 100000 in
set_option maxHeartbeats 4000000 in
theorem product_in (n : Nat) (hn : 3 ≤ n) (g : Grp) (hg : grpOk g) (hP : 1 < g.P) (va vn : Value) (zs : List NP) (hreach : zs.length * 32 ≤ 140737488351232) (w : World) (hA : Nums w.heap.size w va (·.1.1) zs) (hN : Nums w.heap.size w vn (·.1.2) zs) :
    CallsIn (FW none) n Try.prog 79 #[gV g, va, vn] w fun e w' => e = .returned (.tuple #[lv (gM (allMay g zs) (prodV g zs)), .int .i64 (eM (allMay g zs))]) ∧ Below w.heap.size w w' := by
  obtain ⟨aa, ca, rfl, hA1⟩ := hA
  obtain ⟨an, cn, rfl, hN1⟩ := hN
  have h1 : 1 ≤ n := by omega
  have hro : (FW none).round = none := rfl
  refine callsIn_of_wp_marks Try.func79 rfl trivial ?_ hro
  simp only [Try.ntmps79, List.size_toArray, List.length_cons, List.length_nil, Nat.reduceAdd, Nat.reduceSub, Array.replicate_succ, Array.replicate_zero, List.push_toArray, List.append_toArray, List.nil_append, List.cons_append]
  gi_wp2
  refine ⟨trivial, ?_⟩
  gi_at_call 53
  refine (callsIn_FW (of_calls 1 (by omega) _)).mono ?_
  rintro e w1 ⟨rfl, hb⟩
  obtain ⟨e0, e1, e2, hs1, hB1⟩ := three_allocs hb
  obtain ⟨c0, c1, c2, c3, c4, c5, c6, c7, c8, c9, c10, c11, c12, c13, c14, c15⟩ := grp_cells (g := g) rfl e0
  clear hb
  have a0 := fun o => cell_al o c0
  have a1 := fun o => cell_al o c1
  have a2 := fun o => cell_al o c2
  have a3 := fun o => cell_al o c3
  gi_wp2
  refine ⟨trivial, ?_⟩
  gi_at_call 66
  refine (callsIn_FW (cmp_calls g.P 1 hg.1 (by decide) _)).mono ?_
  rintro e w2 ⟨rfl, hb⟩
  have hcmp : cmpN g.P 1 = 1 := by unfold cmpN; rw [if_neg (by omega), if_neg (by omega)]
  rw [hcmp]
  obtain ⟨g0, g1, g2, g3⟩ := one_alloc hb
  clear hb
  gi_wp2
  refine ⟨trivial, ?_⟩
  gi_at_call 146
  refine (pairs_in (n - 1) aa an zs.length ca zs.length cn w2).mono ?_
  rintro e w3 ⟨rfl, rfl⟩
  gi_wp2
  have k0 : Box w2 w.heap.size 45 (gA g) := (g0 _ (by omega)).trans e0
  have k1 : Box w2 (w.heap.size + 1) 26 z4 := (g0 _ (by omega)).trans e1
  have k2 : Box w2 (w.heap.size + 1 + 1) 29 #[.int .i64 0] := (g0 _ (by omega)).trans e2
  have k3 : Box w2 w1.heap.size 26 (lvA 1) := g1
  have kB : Below w.heap.size w w2 := hB1.trans (g3.mono (by omega))
  obtain ⟨W0, hW0⟩ : ∃ W0, ((w2.alloc (.cells #[.slice aa zs.length ca] 95)).alloc (.cells #[.slice an zs.length cn] 95)) = W0 := ⟨_, rfl⟩
  have hsz : W0.heap.size = w2.heap.size + 2 := by rw [← hW0]; simp
  replace k0 : Box W0 w.heap.size 45 (gA g) := by rw [← hW0]; exact (k0.alloc _).alloc _
  replace k1 : Box W0 (w.heap.size + 1) 26 z4 := by rw [← hW0]; exact (k1.alloc _).alloc _
  replace k2 : Box W0 (w.heap.size + 1 + 1) 29 #[.int .i64 0] := by rw [← hW0]; exact (k2.alloc _).alloc _
  replace k3 : Box W0 w1.heap.size 26 (lvA 1) := by rw [← hW0]; exact (k3.alloc _).alloc _
  have kA : Box W0 w2.heap.size 95 #[.slice aa zs.length ca] := by rw [← hW0]; exact Box.alloc (heap_new w2 _) _
  have kN : Box W0 (w2.heap.size + 1) 95 #[.slice an zs.length cn] := by
    rw [← hW0]
    have := heap_new (w2.alloc (.cells #[.slice aa zs.length ca] 95)) (.cells #[.slice an zs.length cn] 95)
    rwa [World.size_alloc] at this
  replace kB : Below w.heap.size w W0 := by rw [← hW0]; exact (kB.alloc kB.size _).alloc (by have := kB.size; simp; omega) _
  rw [hW0]
  clear hW0
  refine wpIn_rangeFunc_ownH (show (FW none).round = none from rfl) h1 (gf := 185) (lb := #[.pointer (some ⟨w2.heap.size, 0, none⟩), .pointer (some ⟨w2.heap.size + 1, 0, none⟩)]) rfl trivial (enters_of Try.func185 (by kernel_rfl) rfl)
    (pairs_stops (n - 1) (by omega) w2.heap.size (w2.heap.size + 1) w.heap.size (.slice aa zs.length ca) (.slice an zs.length cn) zs hreach W0 (by omega) (by omega) kB.size (cells_cell kA 0) (cells_cell kN 0) (Nums.below kB ⟨aa, ca, rfl, hA1⟩) (Nums.below kB ⟨an, cn, rfl, hN1⟩))
    KP.trans (fun W l o o' hl ho hc hw => ⟨belowK_b kB.size W l o o' hl ho hc hw, ?kba, ?kbn⟩) (Below.refl _ _) (fun _ => rfl)
    (fun pre W => ((((Box W w.heap.size 45 (gA g) ∧ Box W (w.heap.size + 1) 26 z4) ∧ Box W (w.heap.size + 1 + 1) 29 #[.int .i64 0]) ∧ Box W w1.heap.size 26 (lvA (prodV g pre))) ∧ allMay g pre = true) ∧ (Below w.heap.size w W ∧ W0.heap.size ≤ W.heap.size))
    (fun c pre W => (((c = .ret ∧ allMay g pre = false) ∧ Box W (w.heap.size + 1) 26 z4) ∧ Box W (w.heap.size + 1 + 1) 29 #[.int .i64 1]) ∧ Below w.heap.size w W)
    (OwnFrom.and (OwnFrom.and (OwnFrom.and (OwnFrom.and (OwnFrom.and (Own.from (Box.own _ _ _) _) (Own.from (Box.own _ _ _) _)) (Own.from (Box.own _ _ _) _)) (Own.from (Box.own _ _ _) _)) (ownFrom_pure _ _)) (OwnFrom.and (ownFrom_below (Nat.le_refl _) kB.size) (fun _ _ _ _ hs hg _ => Nat.le_trans hs hg.size)))
    (fun c => OwnFrom.and (OwnFrom.and (OwnFrom.and (ownFrom_pure _ _) (Own.from (Box.own _ _ _) _)) (Own.from (Box.own _ _ _) _)) (ownFrom_below (Nat.le_refl _) kB.size))
    ⟨⟨⟨⟨⟨k0, k1⟩, k2⟩, k3⟩, rfl⟩, kB, Nat.le_refl _⟩
    (fun x a' W => ∃ B4 B5, (w1.heap.size < B4 ∧ w1.heap.size < B5) ∧ Box W B4 26 (lvA x.1.1) ∧ Box W B5 26 (lvA x.1.2) ∧ a' = { tmps := #[gV g, .slice aa zs.length ca, .slice an zs.length cn, .pointer (some ⟨w.heap.size, 0, none⟩), undef, undef, .pointer (some ⟨w.heap.size + 1, 0, none⟩), .pointer (some ⟨w.heap.size + 1 + 1, 0, none⟩), .pointer (some ⟨w1.heap.size, 0, none⟩), .pointer (some ⟨B4, 0, none⟩), .pointer (some ⟨B5, 0, none⟩), undef, undef, lv 1, .pointer (some ⟨w.heap.size, 0, none⟩), lv g.P, lv 1, .int .i64 1, .bool false, .bool false, .slice aa zs.length ca, .int .i64 zs.length, .slice an zs.length cn, .int .i64 zs.length, .bool false, .bool false, undef, .slice aa zs.length ca, .slice an zs.length cn, .func (.func 185) #[] #[.pointer (some ⟨w2.heap.size, 0, none⟩), .pointer (some ⟨w2.heap.size + 1, 0, none⟩)], lv x.1.1, lv x.1.2, undef, undef, undef, undef, undef, undef, undef, undef, undef, undef, undef, undef, undef, undef, undef, undef, undef, undef, undef, undef], defers := [] })
    (fun x a' _ X Y row hs hg hr => by
      obtain ⟨B4, B5, h1, h2, h3, h4⟩ := hs
      exact ⟨B4, B5, h1, Box.own B4 26 (fun (_ : Unit) => lvA x.1.1) () X Y row h2 hg (fun r e => (hr r e).2), Box.own B5 26 (fun (_ : Unit) => lvA x.1.2) () X Y row h3 hg (fun r e => (hr r e).2), h4⟩)
    ?assign ?body ?done ?stop
  case kba => exact (grownBy_putObj' W l o').block _ (by have := (Array.getElem?_eq_some_iff.1 ho).1; omega) (by simp; omega)
  case kbn => exact (grownBy_putObj' W l o').block _ (by have := (Array.getElem?_eq_some_iff.1 ho).1; omega) (by simp; omega)
  case assign =>
    rintro l pre x W K ⟨⟨⟨⟨⟨b0, b1⟩, b2⟩, b3⟩, hp⟩, hB, hsW⟩ hK
    gi_wp2
    refine hK _ _ (((KeepsOthers.alloc _ _).from _).trans ((KeepsOthers.alloc _ _).from _)) ⟨((Below.refl _ W).alloc hB.size _).alloc (by have := hB.size; simp; omega) _, ?_, ?_⟩
      ⟨⟨⟨⟨⟨(b0.alloc _).alloc _, (b1.alloc _).alloc _⟩, (b2.alloc _).alloc _⟩, (b3.alloc _).alloc _⟩, hp⟩, (hB.alloc hB.size _).alloc (by have := hB.size; simp; omega) _, by simp; omega⟩
      ⟨W.heap.size, W.heap.size + 1, ⟨b3.lt, by have := b3.lt; omega⟩, Box.alloc (heap_new W _) _, ?_, rfl⟩
    · exact (Below.heap_alloc _ _ _ (by simp; omega)).trans (Below.heap_alloc _ _ _ (by omega))
    · exact (Below.heap_alloc _ _ _ (by simp; omega)).trans (Below.heap_alloc _ _ _ (by omega))
    · have := heap_new (W.alloc (.cells (lvA x.1.1) 26)) (.cells (lvA x.1.2) 26)
      rwa [World.size_alloc] at this
  case body =>
    rintro l pre x a' W hl ⟨r, hr⟩ ⟨⟨⟨⟨⟨b0, b1⟩, b2⟩, b3⟩, hp⟩, hB, hsW⟩ ⟨B4, B5, ⟨h4, h5⟩, b4, b5, rfl⟩ hlt
    obtain ⟨c0, c1, c2, c3, c4, c5, c6, c7, c8, c9, c10, c11, c12, c13, c14, c15⟩ := grp_cells (g := g) rfl b0
    obtain ⟨⟨d0, d1, d2, d3⟩, _⟩ := num_cells (n := x.1.1) rfl b4
    obtain ⟨⟨f0, f1, f2, f3⟩, _⟩ := num_cells (n := x.1.2) rfl b5
    have h1' : 1 ≤ n - 1 - 1 := by omega
    gi_wp2
    refine ⟨trivial, ?_⟩
    gi_at_call 45
    refine (CallsIn.inRound l (callsIn_FW (exp_calls g x.1.1 x.1.2 hg x.2.1 x.2.2 _))).mono ?_
    rintro e w4 ⟨rfl, hb⟩
    have p0 := b0.below hb b0.lt
    have p1 := b1.below hb b1.lt
    have p2 := b2.below hb b2.lt
    have p3 := b3.below hb b3.lt
    have r0 := fun o => ((p0.alloc o).cellA (i := 0) rfl).1
    have r1 := fun o => ((p0.alloc o).cellA (i := 1) rfl).1
    have r2 := fun o => ((p0.alloc o).cellA (i := 2) rfl).1
    have r3 := fun o => ((p0.alloc o).cellA (i := 3) rfl).1
    have hsw := hb.size
    cases hm : mayG g x.1.1 with
    | false =>
      simp only [gM, eM]
      have s0 := fun o => (p1.alloc o).cellA (i := 0) rfl
      have s1 := fun o => (p1.alloc o).cellA (i := 1) rfl
      have s2 := fun o => (p1.alloc o).cellA (i := 2) rfl
      have s3 := fun o => (p1.alloc o).cellA (i := 3) rfl
      have s4 := fun o => (p2.alloc o).cellA (i := 0) rfl
      simp only [forall_and] at s0 s1 s2 s3 s4
      obtain ⟨s00, s01⟩ := s0
      obtain ⟨s10, s11⟩ := s1
      obtain ⟨s20, s21⟩ := s2
      obtain ⟨s30, s31⟩ := s3
      obtain ⟨s40, s41⟩ := s4
      gi_wp2
      have hBw : Below w.heap.size w w4 := hB.trans (hb.mono hB.size)
      have hle := hB.size
      refine ⟨((keeps_below hb).from _).trans (((KeepsOthers.alloc _ _).from _).trans ((((((KeepsOthers.setCell _ _ _).trans (KeepsOthers.setCell _ _ _)).trans (KeepsOthers.setCell _ _ _)).trans (KeepsOthers.setCell _ _ _)).trans (KeepsOthers.setCell _ _ _)).from _)), ⟨⟨⟨rfl, by rw [allMay_snoc, hm, Bool.and_false]⟩, ?_⟩, ?_⟩, ?_⟩
      · exact (((((p1.alloc _).set (i := 0) (.int .u64 0) (by decide)).set (i := 1) (.int .u64 0) (by decide)).set (i := 2) (.int .u64 0) (by decide)).set (i := 3) (.int .u64 0) (by decide)).other _ (by omega)
      · exact (((((p2.alloc _).other _ (by omega)).other _ (by omega)).other _ (by omega)).other _ (by omega)).set (i := 0) (.int .i64 1) (by decide)
      · exact (((((hBw.alloc (by omega) _).setCell (p := ⟨w.heap.size + 1, 0, none⟩) (by simp) _).setCell (p := ⟨w.heap.size + 1, 1, none⟩) (by simp) _).setCell (p := ⟨w.heap.size + 1, 2, none⟩) (by simp) _).setCell (p := ⟨w.heap.size + 1, 3, none⟩) (by simp) _).setCell (p := ⟨w.heap.size + 1 + 1, 0, none⟩) (by simp; omega) _
    | true =>
      simp only [gM, eM]
      have s0 := fun o => ((p3.alloc o).cellA (i := 0) rfl).1
      have s1 := fun o => ((p3.alloc o).cellA (i := 1) rfl).1
      have s2 := fun o => ((p3.alloc o).cellA (i := 2) rfl).1
      have s3 := fun o => ((p3.alloc o).cellA (i := 3) rfl).1
      gi_wp2
      have hyP : x.1.1 ^ x.1.2 % g.P < g.P := Nat.mod_lt _ (by omega)
      have hoP := prodV_lt hP pre
      have hPB := hg.1
      refine ⟨trivial, ?_⟩
      gi_at_call 75
      refine (CallsIn.inRound l (callsIn_FW (mul_calls (prodV g pre) (x.1.1 ^ x.1.2 % g.P) g.P (by omega) (by omega) hg.1 _))).mono ?_
      rintro e w5 ⟨rfl, hb5⟩
      have hM : mayM (prodV g pre) (x.1.1 ^ x.1.2 % g.P) g.P = true := by unfold mayM; simp; omega
      rw [hM]
      simp only [gM, eM]
      obtain ⟨m0, m1, m2, m3⟩ := one_alloc hb5
      have q0 : Box w5 w.heap.size 45 (gA g) := (m0 _ p0.lt).trans p0
      have q1 : Box w5 (w.heap.size + 1) 26 z4 := (m0 _ p1.lt).trans p1
      have q2 : Box w5 (w.heap.size + 1 + 1) 29 #[.int .i64 0] := (m0 _ p2.lt).trans p2
      have q3 : Box w5 w1.heap.size 26 (lvA (prodV g pre)) := (m0 _ p3.lt).trans p3
      obtain ⟨t00, t01⟩ := q3.cellA (i := 0) rfl
      obtain ⟨t10, t11⟩ := q3.cellA (i := 1) rfl
      obtain ⟨t20, t21⟩ := q3.cellA (i := 2) rfl
      obtain ⟨t30, t31⟩ := q3.cellA (i := 3) rfl
      gi_wp2
      have hv : prodV g (pre ++ [x]) = prodV g pre * x.1.1 ^ x.1.2 % g.P := by rw [prodV_snoc]; unfold stepV; rw [Nat.mul_mod_mod]
      have hle := hB.size
      have hBw : Below w.heap.size w w5 := (hB.trans (hb.mono hB.size)).trans (m3.mono (by omega))
      have hb3 := b3.lt
      have hks : ∀ {k : Nat}, k ≠ w1.heap.size → k < W.heap.size → ∀ (v0 v1 v2 v3 : Value), ((((w5.setCell ⟨w1.heap.size, 0, none⟩ v0).setCell ⟨w1.heap.size, 1, none⟩ v1).setCell ⟨w1.heap.size, 2, none⟩ v2).setCell ⟨w1.heap.size, 3, none⟩ v3).heap[k]? = W.heap[k]? := fun {k} hk hl v0 v1 v2 v3 => by
        rw [Below.heap_setCell _ _ _ _ hk, Below.heap_setCell _ _ _ _ hk, Below.heap_setCell _ _ _ _ hk, Below.heap_setCell _ _ _ _ hk, m0 k (by omega), hb.block k hl]
      refine ⟨((keeps_below hb).from _).trans (((keeps_below m3).from _).trans (((((KeepsOthers.setCell _ _ _).trans (KeepsOthers.setCell _ _ _)).trans (KeepsOthers.setCell _ _ _)).trans (KeepsOthers.setCell _ _ _)).from _)), ⟨?_, hks (by omega) (by omega) _ _ _ _, hks (by omega) (by omega) _ _ _ _⟩, ⟨⟨⟨⟨⟨?_, ?_⟩, ?_⟩, ?_⟩, by rw [allMay_snoc, hp, hm]; rfl⟩, ?_, ?_⟩⟩
      · exact (((((hb.mono hle).trans (m3.mono (by omega))).setCell (p := ⟨w1.heap.size, 0, none⟩) (by simp; omega) _).setCell (p := ⟨w1.heap.size, 1, none⟩) (by simp; omega) _).setCell (p := ⟨w1.heap.size, 2, none⟩) (by simp; omega) _).setCell (p := ⟨w1.heap.size, 3, none⟩) (by simp; omega) _
      · exact (((q0.other _ (by omega)).other _ (by omega)).other _ (by omega)).other _ (by omega)
      · exact (((q1.other _ (by omega)).other _ (by omega)).other _ (by omega)).other _ (by omega)
      · exact (((q2.other _ (by omega)).other _ (by omega)).other _ (by omega)).other _ (by omega)
      · rw [hv]
        exact q3.set4 _ _ _ _
      · exact (((hBw.setCell (p := ⟨w1.heap.size, 0, none⟩) (by simp; omega) _).setCell (p := ⟨w1.heap.size, 1, none⟩) (by simp; omega) _).setCell (p := ⟨w1.heap.size, 2, none⟩) (by simp; omega) _).setCell (p := ⟨w1.heap.size, 3, none⟩) (by simp; omega) _
      · simp only [World.setCell, Array.size_modify]; omega
  case done =>
    rintro D ys W hD rfl ⟨⟨⟨⟨⟨b0, b1⟩, b2⟩, b3⟩, hp⟩, hB, hsW⟩ hK
    obtain ⟨t00, t01⟩ := b3.cellA (i := 0) rfl
    obtain ⟨t10, t11⟩ := b3.cellA (i := 1) rfl
    obtain ⟨t20, t21⟩ := b3.cellA (i := 2) rfl
    obtain ⟨t30, t31⟩ := b3.cellA (i := 3) rfl
    obtain ⟨u00, u01⟩ := b1.cellA (i := 0) rfl
    obtain ⟨u10, u11⟩ := b1.cellA (i := 1) rfl
    obtain ⟨u20, u21⟩ := b1.cellA (i := 2) rfl
    obtain ⟨u30, u31⟩ := b1.cellA (i := 3) rfl
    obtain ⟨v00, v01⟩ := b2.cellA (i := 0) rfl
    gi_wp2
    have hK' := (((((KeepsOthers.setCell W ⟨w.heap.size + 1, 0, none⟩ (.int .u64 (limb 0 (prodV g ys)))).trans (KeepsOthers.setCell _ ⟨w.heap.size + 1, 1, none⟩ (.int .u64 (limb 1 (prodV g ys))))).trans (KeepsOthers.setCell _ ⟨w.heap.size + 1, 2, none⟩ (.int .u64 (limb 2 (prodV g ys))))).trans (KeepsOthers.setCell _ ⟨w.heap.size + 1, 3, none⟩ (.int .u64 (limb 3 (prodV g ys))))).trans (KeepsOthers.setCell _ ⟨w.heap.size + 1 + 1, 0, none⟩ (.int .i64 0))).same D _ hK rfl
    refine ⟨by simp, .inl ⟨_, _, rfl, run_takeDeferred hK', ?_⟩⟩
    have y1 := (((b1.set4 (.int .u64 (limb 0 (prodV g ys))) (.int .u64 (limb 1 (prodV g ys))) (.int .u64 (limb 2 (prodV g ys))) (.int .u64 (limb 3 (prodV g ys)))).other (B' := w.heap.size + 1 + 1) (i := 0) (.int .i64 0) (by omega)).put hK' rfl (.deferred none))
    have y2 := (((((b2.other (B' := w.heap.size + 1) (i := 0) (.int .u64 (limb 0 (prodV g ys))) (by omega)).other (B' := w.heap.size + 1) (i := 1) (.int .u64 (limb 1 (prodV g ys))) (by omega)).other (B' := w.heap.size + 1) (i := 2) (.int .u64 (limb 2 (prodV g ys))) (by omega)).other (B' := w.heap.size + 1) (i := 3) (.int .u64 (limb 3 (prodV g ys))) (by omega)).set (i := 0) (.int .i64 0) (by decide)).put hK' rfl (.deferred none)
    have x0 := (y1.cellA (i := 0) rfl).1
    have x1 := (y1.cellA (i := 1) rfl).1
    have x2 := (y1.cellA (i := 2) rfl).1
    have x3 := (y1.cellA (i := 3) rfl).1
    have x4 := (y2.cellA (i := 0) rfl).1
    refine ⟨.tuple #[lv (prodV g ys), .int .i64 0], ?_, by rw [hp]; rfl, ?_⟩
    · simp [results, Try.f79, go_sem, x0, x1, x2, x3, x4]
    · exact ((((((hB.setCell (p := ⟨w.heap.size + 1, 0, none⟩) (by simp) _).setCell (p := ⟨w.heap.size + 1, 1, none⟩) (by simp) _).setCell (p := ⟨w.heap.size + 1, 2, none⟩) (by simp) _).setCell (p := ⟨w.heap.size + 1, 3, none⟩) (by simp) _).setCell (p := ⟨w.heap.size + 1 + 1, 0, none⟩) (by simp; omega) _)).trans (belowK_b (w := w) (Nat.le_refl _) _ D _ _ (by have := kB.size; omega) hK' rfl rfl)
  case stop =>
    rintro D c pre W hD hpre ⟨⟨⟨⟨rfl, hp⟩, b1⟩, b2⟩, hB⟩ hK
    gi_wp2
    refine ⟨by simp, .inl ⟨_, _, rfl, run_takeDeferred hK, ?_⟩⟩
    have y1 := b1.put hK rfl (.deferred none)
    have y2 := b2.put hK rfl (.deferred none)
    have x0 := (y1.cellA (i := 0) rfl).1
    have x1 := (y1.cellA (i := 1) rfl).1
    have x2 := (y1.cellA (i := 2) rfl).1
    have x3 := (y1.cellA (i := 3) rfl).1
    have x4 := (y2.cellA (i := 0) rfl).1
    have hz : allMay g zs = false := by
      obtain ⟨t, rfl⟩ := hpre
      unfold allMay at *
      rw [List.all_append, hp, Bool.false_and]
    refine ⟨.tuple #[lv 0, .int .i64 1], ?_, by rw [hz]; rfl, ?_⟩
    · simp [results, Try.f79, go_sem, x0, x1, x2, x3, x4, limb]
    · exact hB.trans (belowK_b (w := w) (Nat.le_refl _) W D _ _ (by have := kB.size; omega) hK rfl rfl)
end Go.Proofs.Ytacjiajijigebaa
namespace Go.Proofs.Ytacjiajijigebaa
open Go Go.Ev
set_option linter.unusedSimpArgs false

/-- A number from 2 on that nothing between divides. -/
def Pr (n : Nat) : Prop := 2 ≤ n ∧ ∀ d, 2 ≤ d → d < n → n % d ≠ 0
theorem pr_iff {n : Nat} : Pr n ↔ 2 ≤ n ∧ ∀ d, d < n → 2 ≤ d → n % d ≠ 0 := ⟨fun h => ⟨h.1, fun d h1 h2 => h.2 d h2 h1⟩, fun h => ⟨h.1, fun d h1 h2 => h.2 d h2 h1⟩⟩
instance prDec (n : Nat) : Decidable (Pr n) := decidable_of_iff _ pr_iff.symm
def smallB (n : Nat) : Bool := decide (Pr n ∧ n < 4294967296)
theorem smallB_t {n : Nat} (h : Pr n) (h2 : n < 4294967296) : smallB n = true := decide_eq_true ⟨h, h2⟩
theorem smallB_f {n : Nat} (h : ¬ (Pr n ∧ n < 4294967296)) : smallB n = false := decide_eq_false h
theorem smallB_iff {n : Nat} : smallB n = true ↔ Pr n ∧ n < 4294967296 := ⟨fun h => of_decide_eq_true h, fun h => smallB_t h.1 h.2⟩

theorem pr_end {n d : Nat} (hn : 2 ≤ n) (h : ∀ e, 2 ≤ e → e < d → n % e ≠ 0) (hd : n < d * d) : Pr n := by
  refine ⟨hn, fun e he hl hm => ?_⟩
  have h1 : n = e * (n / e) := by have := Nat.div_add_mod n e; omega
  have h2 : 2 ≤ n / e := by
    rcases Nat.lt_or_ge (n / e) 2 with h2 | h2
    · have := Nat.mul_le_mul_left e (show n / e ≤ 1 by omega); omega
    · exact h2
  rcases Nat.lt_or_ge e d with h3 | h3
  · exact h e he h3 hm
  · rcases Nat.lt_or_ge (n / e) d with h4 | h4
    · refine h _ h2 h4 ?_
      generalize n / e = q at *
      subst h1; exact Nat.mul_mod_left e q
    · have := Nat.mul_le_mul h3 h4
      omega

set_option maxRecDepth 20000 in
theorem primes_Small (n : Nat) : PureOk Try.prog 29 [aU n] (tB (smallB n)) := by
  refine pure_of_ev (cxK []) Try.func29 rfl (by kernel_rfl) (Nat.le_of_ble_eq_true rfl) ⟨rfl, trivial⟩ rfl fun hf w => ?_
  have hx := hasU.1 hf.1
  conv => whnf
  refine brk (fun h1 => ?_) (fun h1 => ?_) <;> replace h1 : iltB (n : Int) 2 = _ := h1 <;> simp only [iltB_eq, decide_eq_true_eq, decide_eq_false_iff_not] at h1
  · refine ⟨?_, trivial⟩
    exact (smallB_f (by rintro ⟨⟨h, _⟩, _⟩; omega)).symm
  conv => whnf
  refine brk (fun h2 => ?_) (fun h2 => ?_) <;> replace h2 : iltB 0 ((n : Int).fdiv (2 ^ shN .u64 32)) = _ := h2 <;> simp only [iltB_eq, decide_eq_true_eq, decide_eq_false_iff_not, shr32] at h2
  · refine ⟨?_, trivial⟩
    exact (smallB_f (by rintro ⟨_, h⟩; omega)).symm
  conv => whnf
  refine LoopK.cut Nat (fun d => [(4, tU d), (3, tB true)]) (fun _ => []) (fun d => 2 ≤ d ∧ d ≤ 65536 ∧ ∀ e, 2 ≤ e → e < d → n % e ≠ 0) (fun d => 65537 - d) 2 ?_ ?_
    Unit (fun _ => [(3, tB (smallB n))]) (fun _ => []) (fun _ => True) 0 ?_ ?_
  · exact ⟨by decide, by decide, fun e h1 h2 => by omega⟩
  · repeat' (refine And.intro ?_ ?_)
    all_goals try first | with_reducible rfl | exact trivial
    all_goals rfl
  · rintro d ⟨hd1, hd2, hd3⟩
    have hdd := Nat.mul_le_mul hd2 hd2
    have ed : IntKind.wrap .u64 ((d : Int) * d) = ((d * d : Nat) : Int) := by
      rw [wrapU, ← Int.natCast_mul]; omega
    have em : (n : Int).tmod d = ((n % d : Nat) : Int) := by rw [Int.tmod_eq_emod_of_nonneg (Int.natCast_nonneg n)]; simp
    conv => whnf
    refine brk (fun h3 => ?_) (fun h3 => ?_)
    · replace h3 : (!iltB (n : Int) (IntKind.wrap .u64 ((d : Int) * d))) = true := h3
      simp only [iltB_eq, Bool.not_eq_true', decide_eq_false_iff_not, ed] at h3
      conv => whnf
      refine oblT (by simp only [ieqB_eq]; simp; omega) ?_
      have h5 : d < 65536 := by
        rcases Nat.lt_or_ge d 65536 with h | h
        · exact h
        · have := Nat.mul_le_mul h h; omega
      have h6 : d < n := by
        have := Nat.mul_le_mul hd1 (Nat.le_refl d); omega
      conv => whnf
      rw [em]
      refine brk (fun h4 => ?_) (fun h4 => ?_)
      · replace h4 : ieqB ((n % d : Nat) : Int) 0 = true := h4
        simp only [ieqB_eq, decide_eq_true_eq] at h4
        refine ⟨(), trivial, ?_⟩
        repeat' (refine And.intro ?_ ?_)
        all_goals try first | with_reducible rfl | exact trivial
        exact (smallB_f (by rintro ⟨⟨_, h⟩, _⟩; exact h d hd1 h6 (by omega))).symm
      · replace h4 : ieqB ((n % d : Nat) : Int) 0 = false := h4
        simp only [ieqB_eq, decide_eq_false_iff_not] at h4
        refine ⟨d + 1, ⟨by omega, by omega, fun e he1 he2 => ?_⟩, ?_, ?_⟩
        · rcases Nat.lt_or_ge e d with h | h
          · exact hd3 e he1 h
          · rw [show e = d by omega]; omega
        · repeat' (refine And.intro ?_ ?_)
          all_goals try first | with_reducible rfl | exact trivial
          show IntKind.wrap .u64 ((d : Int) + 1) = ((d + 1 : Nat) : Int)
          rw [wrapU]; omega
        · show 65537 - (d + 1) < 65537 - d
          omega
    · replace h3 : (!iltB (n : Int) (IntKind.wrap .u64 ((d : Int) * d))) = false := h3
      simp only [iltB_eq, Bool.not_eq_false', decide_eq_true_eq, ed] at h3
      refine ⟨(), trivial, ?_⟩
      repeat' (refine And.intro ?_ ?_)
      all_goals try first | with_reducible rfl | exact trivial
      exact (smallB_t (pr_end (by omega) hd3 (by omega)) (by omega)).symm
  · intro _ _
    exact ⟨rfl, trivial⟩
set_option maxRecDepth 20000 in
theorem ref07_Small (n : Nat) : PureOk Try.prog 30 [aU n] (tB (smallB n)) := by
  refine pure_of_ev (cxK []) Try.func30 rfl (by kernel_rfl) (Nat.le_of_ble_eq_true rfl) ⟨rfl, trivial⟩ rfl fun hf w => ?_
  have hx := hasU.1 hf.1
  conv => whnf
  refine brk (fun h1 => ?_) (fun h1 => ?_) <;> replace h1 : iltB (n : Int) 2 = _ := h1 <;> simp only [iltB_eq, decide_eq_true_eq, decide_eq_false_iff_not] at h1
  · refine ⟨?_, trivial⟩
    exact (smallB_f (by rintro ⟨⟨h, _⟩, _⟩; omega)).symm
  conv => whnf
  refine brk (fun h2 => ?_) (fun h2 => ?_) <;> replace h2 : (!iltB (n : Int) 4294967296) = _ := h2 <;> simp only [iltB_eq, Bool.not_eq_true', Bool.not_eq_false', decide_eq_true_eq, decide_eq_false_iff_not] at h2
  · refine ⟨?_, trivial⟩
    exact (smallB_f (by rintro ⟨_, h⟩; omega)).symm
  conv => whnf
  refine LoopK.cut Nat (fun d => [(3, tU d)]) (fun _ => []) (fun d => 2 ≤ d ∧ d ≤ 65536 ∧ ∀ e, 2 ≤ e → e < d → n % e ≠ 0) (fun d => 65537 - d) 2 ?_ ?_
    Unit (fun _ => []) (fun _ => []) (fun _ => smallB n = true) 0 ?_ ?_
  · exact ⟨by decide, by decide, fun e h1 h2 => by omega⟩
  · repeat' (refine And.intro ?_ ?_)
    all_goals try first | with_reducible rfl | exact trivial
    all_goals rfl
  · rintro d ⟨hd1, hd2, hd3⟩
    have hdd := Nat.mul_le_mul hd2 hd2
    have ed : IntKind.wrap .u64 ((d : Int) * d) = ((d * d : Nat) : Int) := by
      rw [wrapU, ← Int.natCast_mul]; omega
    have em : (n : Int).tmod d = ((n % d : Nat) : Int) := by rw [Int.tmod_eq_emod_of_nonneg (Int.natCast_nonneg n)]; simp
    conv => whnf
    refine brk (fun h3 => ?_) (fun h3 => ?_)
    · replace h3 : (!iltB (n : Int) (IntKind.wrap .u64 ((d : Int) * d))) = true := h3
      simp only [iltB_eq, Bool.not_eq_true', decide_eq_false_iff_not, ed] at h3
      conv => whnf
      refine oblT (by simp only [ieqB_eq]; simp; omega) ?_
      have h5 : d < 65536 := by
        rcases Nat.lt_or_ge d 65536 with h | h
        · exact h
        · have := Nat.mul_le_mul h h; omega
      have h6 : d < n := by
        have := Nat.mul_le_mul hd1 (Nat.le_refl d); omega
      conv => whnf
      rw [em]
      refine brk (fun h4 => ?_) (fun h4 => ?_)
      · replace h4 : ieqB ((n % d : Nat) : Int) 0 = true := h4
        simp only [ieqB_eq, decide_eq_true_eq] at h4
        refine ⟨?_, trivial⟩
        exact (smallB_f (by rintro ⟨⟨_, h⟩, _⟩; exact h d hd1 h6 (by omega))).symm
      · replace h4 : ieqB ((n % d : Nat) : Int) 0 = false := h4
        simp only [ieqB_eq, decide_eq_false_iff_not] at h4
        refine ⟨d + 1, ⟨by omega, by omega, fun e he1 he2 => ?_⟩, ?_, ?_⟩
        · rcases Nat.lt_or_ge e d with h | h
          · exact hd3 e he1 h
          · rw [show e = d by omega]; omega
        · repeat' (refine And.intro ?_ ?_)
          all_goals try first | with_reducible rfl | exact trivial
          show IntKind.wrap .u64 ((d : Int) + 1) = ((d + 1 : Nat) : Int)
          rw [wrapU]; omega
        · show 65537 - (d + 1) < 65537 - d
          omega
    · replace h3 : (!iltB (n : Int) (IntKind.wrap .u64 ((d : Int) * d))) = false := h3
      simp only [iltB_eq, Bool.not_eq_false', decide_eq_true_eq, ed] at h3
      refine ⟨(), smallB_t (pr_end (by omega) hd3 (by omega)) (by omega), ?_⟩
      repeat' (refine And.intro ?_ ?_)
      all_goals try first | with_reducible rfl | exact trivial
  · intro _ hs
    exact ⟨hs.symm, trivial⟩

theorem primes_Small' (x : Int) : PureOk Try.prog 29 [aU x] (tB (smallB x.toNat)) := by
  rcases Int.lt_or_le x 0 with h | h
  · rintro g w vs ⟨_, _, rfl, ⟨rfl, hx⟩, rfl⟩
    have := (hasU.1 hx).1; omega
  · obtain ⟨n, rfl⟩ := Int.eq_ofNat_of_zero_le h
    exact primes_Small n
theorem ref07_Small' (x : Int) : PureOk Try.prog 30 [aU x] (tB (smallB x.toNat)) := by
  rcases Int.lt_or_le x 0 with h | h
  · rintro g w vs ⟨_, _, rfl, ⟨rfl, hx⟩, rfl⟩
    have := (hasU.1 hx).1; omega
  · obtain ⟨n, rfl⟩ := Int.eq_ofNat_of_zero_le h
    exact ref07_Small n
def smallK : Known Try.prog := kU 29 (fun _ => True) (fun x => tB (smallB x.toNat)) (fun x _ => primes_Small' x)
def smallRK : Known Try.prog := kU 30 (fun _ => True) (fun x => tB (smallB x.toNat)) (fun x _ => ref07_Small' x)
theorem law_PrimesSmall (x : Int) : PureOk Try.prog 3 [aU x] (tB true) := by
  refine pure_of_ev (cxK [smallK, smallRK]) Try.func3 rfl (by kernel_rfl) (Nat.le_of_ble_eq_true rfl) ⟨rfl, trivial⟩ rfl fun hf w => ?_
  refine ⟨trivial, trivial, ?_, trivial⟩
  simp
end Go.Proofs.Ytacjiajijigebaa
namespace Go.Ev
theorem CallOk.weaken {P : Program} {S : Nat → Prop} {w0 : World} {f : FuncId} {args args' : List AB} {mem : List Blk} {rd : List Nat} {r : AV} {e : Eff} (h : ∀ g vs, absRel g args vs → absRel g args' vs) (hc : CallOk P S w0 f args' mem rd r e) : CallOk P S w0 f args mem rd r e :=
  fun g w vs hv => hc g w vs (h g vs hv)
end Go.Ev
namespace Go.Proofs.Ytacjiajijigebaa
open Go Go.Ev
set_option linter.unusedSimpArgs false

/-- Whether a number is a small prime, not to be reckoned out. -/
noncomputable def smC (n : Nat) : Bool := @decide (Pr n ∧ n < 4294967296) (Classical.propDecidable _)
theorem smC_eq (n : Nat) : smallB n = smC n := by
  unfold smallB smC
  congr
noncomputable def smallCK : Known Try.prog := kU 29 (fun _ => True) (fun x => tB (smC x.toNat)) (fun x _ => by rw [← smC_eq]; exact primes_Small' x)
/-- A reason with no parts. -/
abbrev aLeaf (N W : Nat) : AB := .agg [.num N, .num W, .cell (.v (.slice none 0 0))]
noncomputable def leafB (N W : Nat) : Bool := and (smC N) (Nat.beq W 0)

set_option maxRecDepth 20000 in
theorem chk_leaf (N W l l2 : Nat) (mem : List Blk) (hm : bnth mem l = some ([.cell (.int .i64 0)], 0)) (hN : N < 4294967296) (S : Nat → Prop) (w0 : World) :
    CallOk Try.prog S w0 115 [aLeaf N W, .cv (.ptr l 0 0), .cv (.ptr l2 0 0)] mem [l] (tB (leafB N W)) ⟨[], [(l, [.cell (.int .i64 1)])]⟩ := by
  rw [bnth_eq] at hm
  have key := callLoc (S := S) (w0 := w0) (cxK [limbsBitsK, smallCK, limbsOfK]) Try.func115 rfl (by kernel_rfl) (xs := [aLeaf N W, .cv (.ptr 0 0 0), .cv .top]) (lm := [([.cell (.int .i64 0)], 0)]) (lw := [([.cell (.int .i64 1)], 0)]) (r := tB (leafB N W)) (ls := [l]) (mem := mem)
    (Nat.le_of_ble_eq_true rfl) rfl (Nat.le_refl _)
    (fun i j l' h1 h2 => by
      have h1 := (List.getElem?_eq_some_iff.1 h1).1
      have h2 := (List.getElem?_eq_some_iff.1 h2).1
      simp at h1 h2; omega)
    (fun i l' k0 h1 h2 => by
      have hi := (List.getElem?_eq_some_iff.1 h1).1
      simp at hi; subst hi
      simp at h1 h2; subst h1 h2
      exact ⟨_, hm, ⟨rfl, .inl rfl⟩, by simp⟩)
    (fun i k k' h1 h2 => by
      have hi := (List.getElem?_eq_some_iff.1 h1).1
      simp at hi; subst hi
      simp at h1 h2; subst h1 h2; rfl)
    ⟨⟨trivial, trivial, trivial, trivial⟩, Nat.zero_lt_one, trivial, trivial⟩ (fun k hk => by simp at hk; subst hk; exact ⟨trivial, trivial⟩) (fun k hk => by simp at hk; subst hk; exact ⟨trivial, trivial⟩) (fun k hk => by simp at hk)
    trivial
    (fun S w g vs hv hfa => by
      have hbl : bitLen N ≤ 32 := bitLen_le.2 hN
      refine ⟨trivial, ?_⟩
      conv => whnf
      refine brkT (by rw [Bool.not_eq_true', iltB_eq]; simp; omega) ?_
      refine ⟨by kernel_rfl, trivial, ?_⟩
      have e0 : (Int.ofNat (limb (0 + 0) N)).toNat = N := by
        rw [Nat.add_zero, limb0_small (by omega)]; rfl
      conv => whnf
      refine brk (fun h1 => ?_) (fun h1 => ?_) <;> replace h1 : smC (Int.ofNat (limb (0 + 0) N)).toNat = _ := h1 <;> rw [e0] at h1
      · refine ⟨trivial, ?_⟩
        conv => whnf
        refine brk (fun h2 => ?_) (fun h2 => ?_) <;> replace h2 : Nat.beq W 0 = _ := h2
        · repeat' (refine And.intro ?_ ?_)
          all_goals try first | with_reducible rfl | exact trivial
          · show ieqB 0 0 = and (smC N) (Nat.beq W 0)
            rw [h1, h2]; rfl
          · rfl
        · repeat' (refine And.intro ?_ ?_)
          all_goals try first | with_reducible rfl | exact trivial
          · show false = and (smC N) (Nat.beq W 0)
            rw [h2, Bool.and_false]
          · rfl
      · repeat' (refine And.intro ?_ ?_)
        all_goals try first | with_reducible rfl | exact trivial
        · show false = and (smC N) (Nat.beq W 0)
          rw [h1]; rfl
        · rfl)
  refine CallOk.weaken (fun g vs hv => ?_) key
  obtain ⟨y, ys, rfl, h1, y2, ys2, rfl, h2, y3, ys3, rfl, h3, h4⟩ := hv
  exact ⟨y, _, rfl, h1, y2, _, rfl, h2, y3, _, rfl, trivial, h4⟩
noncomputable def chkLeafK : Known Try.prog :=
  ⟨115, fun args mem => match args with
    | [.agg [.num N, .num W, .cell (.v (.slice none 0 0))], .cv (.ptr l 0 0), .cv (.ptr _ 0 0)] => match bnth mem l with
      | some ([.cell (.int .i64 (.ofNat 0))], 0) => some (N < 4294967296, tB (leafB N W), ⟨[], [(l, [.cell (.int .i64 1)])]⟩, [l])
      | _ => none
    | _ => none, fun args mem q r e rd hm hq S w0 => by
    split at hm
    · split at hm
      · rename_i hb
        simp only [Option.some.injEq, Prod.mk.injEq] at hm
        obtain ⟨rfl, rfl, rfl, rfl⟩ := hm
        exact chk_leaf _ _ _ _ mem hb hq S w0
      · cases hm
    · cases hm⟩
set_option maxRecDepth 20000 in
theorem primes_CheckLeaf (N W : Nat) (hN : N < 4294967296) : PureOk Try.prog 56 [aLeaf N W] (tB (leafB N W)) := by
  refine pure_of_ev (cxK [chkLeafK]) Try.func56 rfl (by kernel_rfl) (Nat.le_of_ble_eq_true rfl) ⟨⟨rfl, trivial⟩, trivial⟩ rfl fun hf w => ?_
  refine ⟨hN, ?_⟩
  exact ⟨rfl, trivial⟩
noncomputable def checkLeafK : Known Try.prog := Known.pure 56 (fun
    | [.agg [.num N, .num W, .cell (.v (.slice none 0 0))]] => some (N < 4294967296, tB (leafB N W))
    | _ => none) fun args p r h hp => by
    split at h
    · simp only [Option.some.injEq, Prod.mk.injEq] at h; obtain ⟨rfl, rfl⟩ := h; exact primes_CheckLeaf _ _ hp
    · cases h
end Go.Proofs.Ytacjiajijigebaa
namespace Go.Proofs.Ytacjiajijigebaa
open Go Go.Ev Go.RowKit

theorem rel_gV {m : GM} {g : Grp} {v : Value} (h : AB.rel m (aG g) v) : v = gV g ∧ grpOk g := by
  obtain ⟨a, rfl, u0, r0, e0, ⟨h0, rfl⟩, u1, r1, rfl, ⟨h1, rfl⟩, u2, r2, rfl, ⟨h2, rfl⟩, u3, r3, rfl, ⟨h3, rfl⟩, rfl⟩ := h
  obtain ⟨l⟩ := a
  simp only [List.append_nil] at e0
  subst e0
  exact ⟨rfl, h0, h1, h2, h3⟩
theorem tup_rel {g : GM} {n : Nat} {e : Int} (h : n < BW) (he : IntKind.has .i64 e) : AV.rel g (.tup [aN n, aI e]) (.tuple #[lv n, .int .i64 e]) :=
  ⟨_, rfl, _, _, rfl, lv_rel h, _, _, rfl, ⟨rfl, he⟩, rfl⟩

/-- A row of two numbers in a block. -/
theorem two_nums {S : Nat → Prop} {w0 w : World} {g : GM} {b : BR} {a a' : Nat} {mk : Nat} (h : BlkRel S w0 g w b ([.num a, .num a'], mk)) :
    (a < BW ∧ a' < BW) ∧ (∀ j, j < 4 → w.cell? ⟨b.b, 0 + 0 * 4 + j, none⟩ = some (.int .u64 (limb j a))) ∧ ∀ j, j < 4 → w.cell? ⟨b.b, 0 + 1 * 4 + j, none⟩ = some (.int .u64 (limb j a')) := by
  obtain ⟨_, h⟩ := h
  rcases h with h | ⟨cs, ty, fz, us, rest, h1, _, h2, h3, _⟩
  · cases h
  obtain ⟨u0, r0, rfl, ⟨q0, rfl⟩, u1, r1, rfl, ⟨q1, rfl⟩, rfl⟩ := h3
  obtain ⟨cs⟩ := cs
  simp only at h2
  subst h2
  have hc : ∀ i, w.cell? ⟨b.b, i, none⟩ = (limbs a ++ (limbs a' ++ []) ++ rest)[i]? := fun i => by
    unfold World.cell?
    simp [h1]
  refine ⟨⟨q0, q1⟩, fun j hj => ?_, fun j hj => ?_⟩ <;> rw [hc] <;> (match j, hj with
    | 0, _ => rfl
    | 1, _ => rfl
    | 2, _ => rfl
    | 3, _ => rfl)

theorem product_two (g : Grp) (a a' x x' l l2 c c2 mk mk2 : Nat) (mem : List Blk) (hP : 1 < g.P) (hm : bnth mem l = some ([.num a, .num a'], mk)) (hm2 : bnth mem l2 = some ([.num x, .num x'], mk2)) (S : Nat → Prop) (w0 : World) :
    CallOk Try.prog S w0 79 [aG g, .cv (.sl l 0 0 2 c), .cv (.sl l2 0 0 2 c2)] mem [l, l2]
      (.tup [aN (gM (mayG g a && mayG g a') (a ^ x % g.P * (a' ^ x' % g.P) % g.P)), aI (eM (mayG g a && mayG g a'))]) noEff := by
  rw [bnth_eq] at hm hm2
  intro m w vs hv hrd hgw hfr hij
  obtain ⟨v0, vs1, rfl, r0, v1, vs2, rfl, r1, v2, vs3, rfl, r2, rfl⟩ := hv
  obtain ⟨rfl, hg⟩ := rel_gV r0
  rcases r1 with ⟨h, _⟩ | ⟨_, cap, _, _, b, hb, _, rfl⟩
  · cases h
  rcases r2 with ⟨h, _⟩ | ⟨_, cap2, _, _, b2, hb2, _, rfl⟩
  · cases h
  obtain ⟨⟨ha, ha'⟩, d0, d1⟩ := two_nums (hrd l (by simp) b _ hb hm)
  obtain ⟨⟨hx, hx'⟩, f0, f1⟩ := two_nums (hrd l2 (by simp) b2 _ hb2 hm2)
  refine .inr ⟨callFunc_enter Try.func79 rfl (by kernel_rfl) _ w, ?_⟩
  have key := product_in 3 (Nat.le_refl _) g hg hP (.slice (some ⟨b.b, 0, none⟩) 2 cap) (.slice (some ⟨b2.b, 0, none⟩) 2 cap2) [⟨(a, x), ha, hx⟩, ⟨(a', x'), ha', hx'⟩] (by simp) w
    ⟨_, _, rfl, .inr ⟨b.b, 0, rfl, hgw.own l b hb, fun k y hk j hj => ?_⟩⟩ ⟨_, _, rfl, .inr ⟨b2.b, 0, rfl, hgw.own l2 b2 hb2, fun k y hk j hj => ?_⟩⟩
  · refine (callsIn_wide.1 (show CallsIn Fence.wide 3 _ _ _ _ _ from key)).mono ?_
    rintro e w' ⟨rfl, hB⟩
    have e1 : allMay g [⟨(a, x), ha, hx⟩, ⟨(a', x'), ha', hx'⟩] = (mayG g a && mayG g a') := by simp [allMay]
    have e2 : prodV g [⟨(a, x), ha, hx⟩, ⟨(a', x'), ha', hx'⟩] = a ^ x % g.P * (a' ^ x' % g.P) % g.P := by
      simp [prodV, stepV]
    rw [e1, e2]
    refine ⟨_, m, rfl, tup_rel ?_ ?_, Post.pure hgw ⟨hB.os, hB.tape, hB.output, hB.size, fun k hk _ => hB.block k hk⟩⟩
    · have : a ^ x % g.P * (a' ^ x' % g.P) % g.P < g.P := Nat.mod_lt _ (by omega)
      have := hg.1
      cases (mayG g a && mayG g a') <;> simp only [gM]
      · decide
      · omega
    · cases (mayG g a && mayG g a') <;> (simp only [eM]; exact ⟨by decide, by decide⟩)
  · match k, hk with
    | 0, hk => cases hk; exact d0 j hj
    | 1, hk => cases hk; exact d1 j hj
  · match k, hk with
    | 0, hk => cases hk; exact f0 j hj
    | 1, hk => cases hk; exact f1 j hj
def productTwoK : Known Try.prog :=
  ⟨79, fun args mem => match args with
    | [.agg [.num p, .num q, .num u, .num v], .cv (.sl l 0 0 2 _), .cv (.sl l2 0 0 2 _)] => match bnth mem l, bnth mem l2 with
      | some ([.num a, .num a'], _), some ([.num x, .num x'], _) => some (1 < p, .tup [aN (gM (mayG ⟨p, q, u, v⟩ a && mayG ⟨p, q, u, v⟩ a') (a ^ x % p * (a' ^ x' % p) % p)), aI (eM (mayG ⟨p, q, u, v⟩ a && mayG ⟨p, q, u, v⟩ a'))], noEff, [l, l2])
      | _, _ => none
    | _ => none, fun args mem q r e rd hm hq S w0 => by
    split at hm
    · split at hm
      · rename_i hb hb2
        simp only [Option.some.injEq, Prod.mk.injEq] at hm
        obtain ⟨rfl, rfl, rfl, rfl⟩ := hm
        exact product_two ⟨_, _, _, _⟩ _ _ _ _ _ _ _ _ _ _ mem hq hb hb2 S w0
      · cases hm
    · cases hm⟩

set_option maxRecDepth 20000 in
theorem product_bad (g : Grp) (aa ab : Option Addr) (n c n2 c2 : Nat) (h : n ≠ n2 ∨ g.P ≤ 1) (hm : n ≤ 9223372036854775807) (hm2 : n2 ≤ 9223372036854775807) : PureOk Try.prog 79 [aG g, .cv (.v (.slice aa n c)), .cv (.v (.slice ab n2 c2))] (.tup [aN 0, aI 1]) := by
  obtain ⟨P, Q, G, H⟩ := g
  refine pure_of_ev (cxK [limbsOfK, limbsCmpK]) Try.func79 rfl (by kernel_rfl) (Nat.le_of_ble_eq_true rfl) ⟨trivial, rfl, rfl, trivial⟩ ⟨trivial, rfl, trivial⟩ fun hf w => ?_
  refine ⟨trivial, trivial, ?_⟩
  conv => whnf
  refine brk (fun h1 => ?_) (fun h1 => ?_) <;> replace h1 : (!iltB 0 (cmpN P 1)) = _ := h1 <;> rw [cmp_0lt] at h1 <;> simp only [Bool.not_eq_true', Bool.not_eq_false', decide_eq_true_eq, decide_eq_false_iff_not] at h1
  · exact ⟨rfl, rfl, trivial⟩
  · have hn : n ≠ n2 := h.resolve_right (by show ¬ P ≤ 1; omega)
    conv => whnf
    refine brkT (Nat.ble_eq_true_of_le hm) ?_
    conv => whnf
    refine brkT (Nat.ble_eq_true_of_le hm2) ?_
    conv => whnf
    refine brkT (by show (!ieqB (n : Int) (n2 : Int)) = true; rw [ieqB_eq]; simp; omega) ?_
    exact ⟨rfl, rfl, trivial⟩

/-- Slices of unlike lengths, or a bad group. -/
theorem product_unlike (g : Grp) (l n c : Nat) (mem : List Blk) (h : n ≠ 0) (S : Nat → Prop) (w0 : World) :
    CallOk Try.prog S w0 79 [aG g, .cv (.sl l 0 0 n c), .cv (.v (.slice none 0 0))] mem [] (.tup [aN 0, aI 1]) noEff := by
  intro m w vs hv
  obtain ⟨v0, vs1, rfl, r0, v1, vs2, rfl, r1, v2, vs3, rfl, r2, rfl⟩ := hv
  rcases r1 with ⟨h0, _⟩ | ⟨q1, cap, q2, q3, b, hb, _, rfl⟩
  · exact absurd h0 h
  · exact (CallOk.of_pure (product_bad g (some ⟨b.b, 0 + 0, none⟩) none n cap 0 0 (.inl h) (by omega) (by omega))) m w _ ⟨_, _, rfl, r0, _, _, rfl, rfl, _, _, rfl, r2, rfl⟩
def productUnlikeK : Known Try.prog :=
  ⟨79, fun args _ => match args with
    | [.agg [.num p, .num q, .num u, .num v], .cv (.sl _ 0 0 n _), .cv (.v (.slice none 0 0))] => some (n ≠ 0, .tup [aN 0, aI 1], noEff, [])
    | _ => none, fun args mem q r e rd hm hq S w0 => by
    split at hm
    · simp only [Option.some.injEq, Prod.mk.injEq] at hm
      obtain ⟨rfl, rfl, rfl, rfl⟩ := hm
      exact product_unlike ⟨_, _, _, _⟩ _ _ _ mem hq S w0
    · cases hm⟩
/-- Both rows: the first, where it knows the arguments, else the second. -/
def productK : Known Try.prog :=
  ⟨79, fun args mem => match productTwoK.m args mem with
    | some x => some x
    | none => productUnlikeK.m args mem, fun args mem q r e rd hm hq S w0 => by
    split at hm
    · rename_i x hx
      cases hm
      exact productTwoK.ok args mem _ _ _ _ hx hq S w0
    · exact productUnlikeK.ok args mem _ _ _ _ hm hq S w0⟩
end Go.Proofs.Ytacjiajijigebaa
namespace Go.Proofs.Ytacjiajijigebaa
open Go Go.Ev

/-- No number from s on, k of them, divides n. -/
noncomputable def nd (n s k : Nat) : Bool := Nat.rec (motive := fun _ => Bool) true (fun j ih => match Nat.beq (n % (s + j)) 0 with
  | true => false
  | false => ih) k
theorem nd_succ (n s k : Nat) : nd n s (k + 1) = (match Nat.beq (n % (s + k)) 0 with
  | true => false
  | false => nd n s k) := rfl
theorem nd_ok {n s : Nat} : ∀ {k : Nat}, nd n s k = true → ∀ e, s ≤ e → e < s + k → n % e ≠ 0
  | 0, _, e, h1, h2 => by omega
  | k + 1, h, e, h1, h2 => by
    rw [nd_succ] at h
    split at h
    · cases h
    · rename_i hb
      by_cases he : e = s + k
      · subst he; exact Nat.ne_of_beq_eq_false hb
      · exact nd_ok h e h1 (by omega)
noncomputable def ndc (n c : Nat) : Bool := Nat.rec (motive := fun _ => Bool) true (fun j ih => match nd n (2 + 1024 * j) 1024 with
  | true => ih
  | false => false) c
theorem ndc_succ (n c : Nat) : ndc n (c + 1) = (match nd n (2 + 1024 * c) 1024 with
  | true => ndc n c
  | false => false) := rfl
theorem ndc_ok {n : Nat} : ∀ {c : Nat}, ndc n c = true → ∀ e, 2 ≤ e → e < 2 + 1024 * c → n % e ≠ 0
  | 0, _, e, h1, h2 => by omega
  | c + 1, h, e, h1, h2 => by
    rw [ndc_succ] at h
    split at h
    · rename_i hb
      by_cases he : e < 2 + 1024 * c
      · exact ndc_ok h e h1 he
      · have h3 : e < 2 + 1024 * c + 1024 := by
          rw [Nat.add_assoc, ← Nat.mul_succ]; exact h2
        exact nd_ok (s := 2 + 1024 * c) (k := 1024) hb e (Nat.le_of_not_lt he) h3
    · cases h
theorem ndc_great : ndc 4294967291 64 = true := by kernel_rfl
theorem great_prime : Pr 4294967291 := by
  exact pr_end (d := 65536) (by omega) (fun e h1 h2 => ndc_ok ndc_great e h1 (by omega)) (by omega)
theorem small_great : smallB 4294967291 = true := smallB_t great_prime (by decide)

/-- The product of the numbers to k, going round by m. -/
noncomputable def fct (m k : Nat) : Nat := Nat.rec (motive := fun _ => Nat) 1 (fun j ih => ih * (j + 1) % m) k
theorem fct_zero (m : Nat) : fct m 0 = 1 := rfl
theorem fct_succ (m k : Nat) : fct m (k + 1) = fct m k * (k + 1) % m := rfl
/-- No number from 2 to k + 1 below m divides m. -/
noncomputable def nds (m k : Nat) : Bool := Nat.rec (motive := fun _ => Bool) true (fun j ih => match Nat.ble m (j + 2) with
  | true => ih
  | false => match Nat.beq (m % (j + 2)) 0 with
    | true => false
    | false => ih) k
theorem nds_succ (m k : Nat) : nds m (k + 1) = (match Nat.ble m (k + 2) with
  | true => nds m k
  | false => match Nat.beq (m % (k + 2)) 0 with
    | true => false
    | false => nds m k) := rfl
theorem nds_ok {m : Nat} : ∀ {k : Nat}, nds m k = true → ∀ e, 2 ≤ e → e < k + 2 → e < m → m % e ≠ 0
  | 0, _, e, h1, h2, _ => by omega
  | k + 1, h, e, h1, h2, h3 => by
    rw [nds_succ] at h
    by_cases he : e = k + 2
    · subst he
      split at h
      · rename_i hb
        have := Nat.le_of_ble_eq_true hb
        omega
      · split at h
        · cases h
        · rename_i hb; exact Nat.ne_of_beq_eq_false hb
    · split at h
      · exact nds_ok h e h1 (by omega) h3
      · split at h
        · cases h
        · exact nds_ok h e h1 (by omega) h3
theorem nds_no {m : Nat} : ∀ {k : Nat}, nds m k = false → ∃ e, 2 ≤ e ∧ e < m ∧ m % e = 0
  | 0, h => by cases h
  | k + 1, h => by
    rw [nds_succ] at h
    split at h
    · exact nds_no h
    · rename_i hb
      split at h
      · rename_i hb2
        have hb : ¬ m ≤ k + 2 := fun hh => by rw [Nat.ble_eq_true_of_le hh] at hb; cases hb
        exact ⟨k + 2, by omega, by omega, Nat.eq_of_beq_eq_true hb2⟩
      · exact nds_no h
theorem nds_small {m : Nat} (h2 : 2 ≤ m) (h : m < 1501) : smallB m = nds m 37 := by
  cases hn : nds m 37 with
  | true =>
    refine smallB_t ?_ (by omega)
    by_cases h39 : m < 39
    · exact ⟨h2, fun d h3 h4 => nds_ok hn d h3 (by omega) h4⟩
    · exact pr_end (d := 39) h2 (fun e h3 h4 => nds_ok hn e h3 (by omega) (by omega)) (by omega)
  | false =>
    obtain ⟨e, h3, h4, h5⟩ := nds_no hn
    exact smallB_f fun hh => hh.1.2 e h3 h4 h5
noncomputable def wil (m : Nat) : Bool := match nds m 37 with
  | true => Nat.beq (fct m (m - 1)) (m - 1)
  | false => match Nat.beq (fct m (m - 1)) (m - 1) with
    | true => false
    | false => true
noncomputable def wilA (c : Nat) : Bool := Nat.rec (motive := fun _ => Bool) true (fun j ih => match wil (j + 2) with
  | true => ih
  | false => false) c
theorem wilA_succ (c : Nat) : wilA (c + 1) = (match wil (c + 2) with
  | true => wilA c
  | false => false) := rfl
theorem wilA_ok : ∀ {c : Nat}, wilA c = true → ∀ m, 2 ≤ m → m < c + 2 → wil m = true
  | 0, _, m, h1, h2 => by omega
  | c + 1, h, m, h1, h2 => by
    rw [wilA_succ] at h
    split at h
    · rename_i hb
      by_cases he : m = c + 2
      · subst he; exact hb
      · exact wilA_ok h m h1 (by omega)
    · cases h
theorem wilA_t : wilA 1499 = true := by kernel_rfl
theorem wilson {m : Nat} (h2 : 2 ≤ m) (h : m < 1501) : smallB m = Nat.beq (fct m (m - 1)) (m - 1) := by
  have hw := wilA_ok wilA_t m h2 h
  rw [nds_small h2 h]
  unfold wil at hw
  cases hn : nds m 37 with
  | true => rw [hn] at hw; exact hw.symm
  | false =>
    rw [hn] at hw
    cases hb : Nat.beq (fct m (m - 1)) (m - 1) with
    | true => rw [hb] at hw; cases hw
    | false => rfl
end Go.Proofs.Ytacjiajijigebaa
namespace Go.Proofs.Ytacjiajijigebaa
open Go Go.Ev
set_option linter.unusedSimpArgs false

theorem law08_of (n : Int) : PureOk Try.prog 84 [aU n] (tN n.toNat) := by
  refine pure_of_ev (cxK [limbsOfK]) Try.func84 rfl (by kernel_rfl) (Nat.le_of_ble_eq_true rfl) ⟨rfl, trivial⟩ trivial fun hf w => ?_
  exact ⟨trivial, rfl, trivial⟩
def of08K : Known Try.prog := kU 84 (fun _ => True) (fun n => tN n.toNat) (fun n _ => law08_of n)
def knownG : Grp := ⟨23, 11, 4, 9⟩
theorem law08_Known : PureOk Try.prog 122 [] (.b (aG knownG)) := by
  refine pure_of_ev (cxK [of08K]) Try.func122 rfl (by kernel_rfl) (Nat.le_of_ble_eq_true rfl) trivial trivial fun hf w => ?_
  exact ⟨trivial, trivial, trivial, trivial, rfl, rfl, rfl, rfl, trivial⟩
def known08K : Known Try.prog := Known.pure 122 (fun | [] => some (True, .b (aG knownG)) | _ => none) fun args p r h hp => by
    split at h
    · simp only [Option.some.injEq, Prod.mk.injEq] at h; obtain ⟨rfl, rfl⟩ := h; exact law08_Known
    · cases h
def isB (a : Nat) (e : Int) (n : Int) : Bool := and (ieqB e 0) (Nat.beq a n.toNat)
set_option maxRecDepth 20000 in
theorem law08_is (a : Nat) (e n : Int) : PureOk Try.prog 152 [aN a, aI e, aU n] (tB (isB a e n)) := by
  refine pure_of_ev (cxK [of08K]) Try.func152 rfl (by kernel_rfl) (Nat.le_of_ble_eq_true rfl) ⟨trivial, rfl, rfl, trivial⟩ rfl fun hf w => ?_
  refine ⟨by kernel_rfl, ?_⟩
  conv => whnf
  refine brk (fun h1 => ?_) (fun h1 => ?_) <;> replace h1 : ieqB e 0 = _ := h1
  · refine ⟨trivial, ?_, trivial⟩
    show Nat.beq a n.toNat = and (ieqB e 0) (Nat.beq a n.toNat)
    rw [h1]; rfl
  · refine ⟨?_, trivial⟩
    show false = and (ieqB e 0) (Nat.beq a n.toNat)
    rw [h1]; rfl
def is08K : Known Try.prog := Known.pure 152 (fun
    | [.agg [.num a], .cv (.int .i64 e), .cv (.int .u64 n)] => some (True, tB (isB a e n))
    | _ => none) fun args p r h hp => by
    split at h
    · simp only [Option.some.injEq, Prod.mk.injEq] at h; obtain ⟨rfl, rfl⟩ := h; exact law08_is _ _ _
    · cases h
def yesI (b : Bool) : Int := match b with
  | true => 1
  | false => 0
theorem groups_yes (b : Bool) : PureOk Try.prog 148 [aB b] (tI (yesI b)) := by
  refine pure_of_ev (cxK []) Try.func148 rfl (by kernel_rfl) (Nat.le_of_ble_eq_true rfl) ⟨rfl, trivial⟩ rfl fun hf w => ?_
  conv => whnf
  cases b <;> exact ⟨rfl, trivial⟩
def yesK : Known Try.prog := kB 148 (fun _ => True) (fun b => tI (yesI b)) (fun b _ => groups_yes b)
def dvdB (a b : Nat) : Bool := match Nat.beq a 0 with
  | true => false
  | false => Nat.beq (b % a) 0
set_option maxRecDepth 20000 in
theorem groups_divide (a b : Nat) : PureOk Try.prog 149 [aN a, aN b] (tB (dvdB a b)) := by
  refine pure_of_ev (cxK [limbsOfK, divDK]) Try.func149 rfl (by kernel_rfl) (Nat.le_of_ble_eq_true rfl) ⟨trivial, trivial, trivial⟩ rfl fun hf w => ?_
  refine ⟨trivial, by kernel_rfl, ?_⟩
  conv => whnf
  refine brk (fun h1 => ?_) (fun h1 => ?_) <;> replace h1 : ieqB (dE a) 0 = _ := h1 <;> rw [ieqB_eq] at h1 <;> simp only [decide_eq_true_eq, decide_eq_false_iff_not] at h1 <;> unfold dE at h1
  · have ha : a ≠ 0 := fun h => by rw [if_pos h] at h1; cases h1
    refine ⟨trivial, ?_, trivial⟩
    show Nat.beq (dR b a) 0 = dvdB a b
    unfold dR dvdB
    have hb : Nat.beq a 0 = false := by
      cases h : Nat.beq a 0 with
      | false => rfl
      | true => exact absurd (Nat.eq_of_beq_eq_true h) ha
    rw [if_neg ha, hb]
  · have ha : a = 0 := Classical.byContradiction fun h => h1 (if_neg h)
    refine ⟨?_, trivial⟩
    show false = dvdB a b
    unfold dvdB
    rw [ha]
def divideK : Known Try.prog := kNN 149 (fun _ _ => True) (fun a b => tB (dvdB a b)) (fun a b _ => groups_divide a b)

theorem smC_23 : smC 23 = true := by rw [← smC_eq, nds_small (by decide) (by decide)]; kernel_rfl
theorem smC_11 : smC 11 = true := by rw [← smC_eq, nds_small (by decide) (by decide)]; kernel_rfl
set_option maxRecDepth 20000 in
theorem check_good : PureOk Try.prog 81 [aG knownG, aLeaf 23 0, aLeaf 11 0] (tB true) := by
  refine pure_of_ev (cxK [limbsOfK, limbsSubK, checkLeafK, yesK, divideK, inGK]) Try.func81 rfl (by kernel_rfl) (Nat.le_of_ble_eq_true rfl) ⟨trivial, ⟨rfl, trivial⟩, ⟨rfl, trivial⟩, trivial⟩ rfl fun hf w => ?_
  refine ⟨by kernel_rfl, trivial, trivial, by kernel_rfl, by kernel_rfl, by decide, ?_⟩
  conv => whnf
  refine brkT (by show leafB 23 0 = true; unfold leafB; rw [smC_23]; rfl) ?_
  refine ⟨trivial, by decide, ?_⟩
  conv => whnf
  refine brkT (by show leafB 11 0 = true; unfold leafB; rw [smC_11]; rfl) ?_
  refine ⟨trivial, trivial, trivial, trivial, ?_⟩
  conv => whnf
  refine ⟨trivial, ?_⟩
  conv => whnf
  refine ⟨trivial, ?_⟩
  conv => whnf
  refine ⟨trivial, ?_⟩
  conv => whnf
  refine ⟨trivial, ?_⟩
  conv => whnf
  refine LoopK.unroll 5 ?_
  conv => whnf
  exact ⟨rfl, trivial⟩
set_option maxRecDepth 20000 in
theorem check_bad : PureOk Try.prog 81 [aG knownG, aLeaf 11 0, aLeaf 23 0] (tB false) := by
  refine pure_of_ev (cxK [limbsOfK, limbsSubK, checkLeafK, yesK, divideK, inGK]) Try.func81 rfl (by kernel_rfl) (Nat.le_of_ble_eq_true rfl) ⟨trivial, ⟨rfl, trivial⟩, ⟨rfl, trivial⟩, trivial⟩ rfl fun hf w => ?_
  refine ⟨by kernel_rfl, trivial, trivial, by kernel_rfl, by kernel_rfl, by decide, ?_⟩
  conv => whnf
  refine brkT (by show leafB 11 0 = true; unfold leafB; rw [smC_11]; rfl) ?_
  refine ⟨trivial, by decide, ?_⟩
  conv => whnf
  refine brkT (by show leafB 23 0 = true; unfold leafB; rw [smC_23]; rfl) ?_
  refine ⟨trivial, trivial, trivial, trivial, ?_⟩
  conv => whnf
  refine ⟨trivial, ?_⟩
  conv => whnf
  refine ⟨trivial, ?_⟩
  conv => whnf
  refine ⟨trivial, ?_⟩
  conv => whnf
  refine ⟨trivial, ?_⟩
  conv => whnf
  refine LoopK.unroll 5 ?_
  conv => whnf
  exact ⟨rfl, trivial⟩
noncomputable def checkSmallK : Known Try.prog := Known.pure 81 (fun
    | [.agg [.num p, .num q, .num u, .num v], .agg [.num n, .num w, .cell (.v (.slice none 0 0))], .agg [.num n2, .num w2, .cell (.v (.slice none 0 0))]] =>
      some (((p = 23 ∧ q = 11) ∧ (u = 4 ∧ v = 9)) ∧ (w = 0 ∧ w2 = 0) ∧ ((n = 23 ∧ n2 = 11) ∨ (n = 11 ∧ n2 = 23)), tB (Nat.beq n 23))
    | _ => none) fun args p r h hp => by
    split at h
    · simp only [Option.some.injEq, Prod.mk.injEq] at h; obtain ⟨rfl, rfl⟩ := h
      obtain ⟨⟨⟨rfl, rfl⟩, rfl, rfl⟩, ⟨rfl, rfl⟩, ⟨rfl, rfl⟩ | ⟨rfl, rfl⟩⟩ := hp
      · exact check_good
      · exact check_bad
    · cases h
theorem inv_4_23 : invN 4 23 = 6 := invN_eq (by decide) (by decide) (by decide)
set_option maxRecDepth 20000 in
theorem law08_alive : PureOk Try.prog 85 [] (tB true) := by
  refine pure_of_ev (cxK [of08K, known08K, is08K, grpMulK, grpExpK, grpInvK, inGK, productK, checkSmallK]) Try.func85 rfl (by kernel_rfl) (Nat.le_of_ble_eq_true rfl) trivial rfl fun hf w => ?_
  refine ⟨trivial, ?_⟩
  refine ⟨by kernel_rfl, trivial, trivial, trivial, by kernel_rfl, ?_⟩
  conv => whnf
  refine ⟨by kernel_rfl, trivial, trivial, trivial, by kernel_rfl, ?_⟩
  conv => whnf
  refine ⟨by kernel_rfl, trivial, trivial, by kernel_rfl, ?_⟩
  conv => whnf
  refine ⟨by kernel_rfl, trivial, trivial, trivial, trivial, by decide, by kernel_rfl, ?_⟩
  conv => whnf
  refine ⟨by kernel_rfl, trivial, trivial, trivial, by kernel_rfl, ?_⟩
  conv => whnf
  refine ⟨by kernel_rfl, trivial, by decide, by kernel_rfl, ?_⟩
  conv => whnf
  refine ⟨trivial, ?_⟩
  conv => whnf
  refine ⟨trivial, ?_⟩
  conv => whnf
  refine ⟨by kernel_rfl, trivial, trivial, ?_⟩
  conv => whnf
  refine ⟨trivial, trivial, ?_⟩
  conv => whnf
  refine ⟨trivial, trivial, ?_⟩
  conv => whnf
  refine ⟨trivial, ?_⟩
  conv => whnf
  refine ⟨trivial, ?_⟩
  conv => whnf
  refine ⟨trivial, ?_⟩
  conv => whnf
  refine brkT (by show isB (gM (mayG knownG 4) (invN 4 23)) (eGI knownG 4) 6 = true; rw [inv_4_23]; kernel_rfl) ?_
  conv => whnf
  refine ⟨trivial, ?_⟩
  conv => whnf
  refine ⟨⟨⟨⟨rfl, rfl⟩, rfl, rfl⟩, ⟨rfl, rfl⟩, .inl ⟨rfl, rfl⟩⟩, ?_⟩
  conv => whnf
  refine ⟨⟨⟨⟨rfl, rfl⟩, rfl, rfl⟩, ⟨rfl, rfl⟩, .inr ⟨rfl, rfl⟩⟩, ?_⟩
  conv => whnf
  exact ⟨rfl, trivial⟩
def alive08K : Known Try.prog := Known.pure 85 (fun | [] => some (True, tB true) | _ => none) fun args p r h hp => by
    split at h
    · simp only [Option.some.injEq, Prod.mk.injEq] at h; obtain ⟨rfl, rfl⟩ := h; exact law08_alive
    · cases h
end Go.Proofs.Ytacjiajijigebaa
namespace Go.Proofs.Ytacjiajijigebaa
open Go Go.Ev

theorem inG_iff {g : Grp} {a : Nat} : inG g a = true ↔ mayG g a = true ∧ a ^ g.Q % g.P = 1 := by
  unfold inG
  rw [Bool.and_eq_true, Nat.beq_eq]
theorem mayG_of {g : Grp} {x : Nat} (hP : 1 < g.P) (hQ : g.Q ≠ 0) (hx : x < g.P) (h : x ^ g.Q % g.P = 1) : mayG g x = true := by
  unfold mayG
  have : x ≠ 0 := fun h0 => by
    rw [h0, Nat.zero_pow (Nat.pos_of_ne_zero hQ), Nat.zero_mod] at h
    cases h
  simp [hP, hx, this]
theorem inG_of {g : Grp} {x : Nat} (hP : 1 < g.P) (hQ : g.Q ≠ 0) (hx : x < g.P) (h : x ^ g.Q % g.P = 1) : inG g x = true := inG_iff.2 ⟨mayG_of hP hQ hx h, h⟩
theorem in_mul {g : Grp} {a b : Nat} (hQ : g.Q ≠ 0) (ha : inG g a = true) (hb : inG g b = true) : inG g (a * b % g.P) = true := by
  obtain ⟨h1, h2⟩ := inG_iff.1 ha
  obtain ⟨h3, h4⟩ := inG_iff.1 hb
  have hP := (mayG_t h1).1
  refine inG_of hP hQ (Nat.mod_lt _ (by omega)) ?_
  rw [← Nat.pow_mod, Nat.mul_pow, Nat.mul_mod, h2, h4, Nat.mul_one, Nat.mod_eq_of_lt hP]
theorem in_exp {g : Grp} {a n : Nat} (hQ : g.Q ≠ 0) (ha : inG g a = true) : inG g (a ^ n % g.P) = true := by
  obtain ⟨h1, h2⟩ := inG_iff.1 ha
  have hP := (mayG_t h1).1
  refine inG_of hP hQ (Nat.mod_lt _ (by omega)) ?_
  rw [← Nat.pow_mod, ← Nat.pow_mul, Nat.mul_comm, Nat.pow_mul, Nat.pow_mod, h2, Nat.one_pow, Nat.mod_eq_of_lt hP]
theorem in_gcd {g : Grp} {a : Nat} (hQ : g.Q ≠ 0) (ha : inG g a = true) : Nat.gcd a g.P = 1 := by
  obtain ⟨h1, h2⟩ := inG_iff.1 ha
  have hs : a ∣ a ^ g.Q := ⟨a ^ (g.Q - 1), by
    have e : g.Q = (g.Q - 1) + 1 := by omega
    rw [Nat.mul_comm, ← Nat.pow_succ]
    exact congrArg (a ^ ·) e⟩
  have hd1 : Nat.gcd a g.P ∣ a ^ g.Q := Nat.dvd_trans (Nat.gcd_dvd_left _ _) hs
  have hd2 : Nat.gcd a g.P ∣ a ^ g.Q % g.P := (Nat.dvd_mod_iff (Nat.gcd_dvd_right _ _)).2 hd1
  rw [h2] at hd2
  exact Nat.dvd_one.1 hd2
theorem in_inv {g : Grp} {a : Nat} (hQ : g.Q ≠ 0) (ha : inG g a = true) : inG g (invN a g.P) = true ∧ a * invN a g.P % g.P = 1 := by
  obtain ⟨h1, h2⟩ := inG_iff.1 ha
  have hm := mayG_t h1
  obtain ⟨h3, h4⟩ := invN_some hm.1 hm.2.2 (in_gcd hQ ha)
  refine ⟨inG_of hm.1 hQ h4 ?_, h3⟩
  have e : (a * invN a g.P) ^ g.Q % g.P = 1 := by rw [Nat.pow_mod, h3, Nat.one_pow, Nat.mod_eq_of_lt hm.1]
  rw [Nat.mul_pow, Nat.mul_mod, h2, Nat.one_mul, Nat.mod_mod] at e
  exact e
theorem in_one {g : Grp} (hP : 1 < g.P) (hQ : g.Q ≠ 0) : inG g 1 = true := inG_of hP hQ hP (by rw [Nat.one_pow, Nat.mod_eq_of_lt hP])
end Go.Proofs.Ytacjiajijigebaa
namespace Go.Proofs.Ytacjiajijigebaa
open Go Go.Ev Go.ChangeShapes
variable {H : Type} {enc : TypeId × Value → H} {w : World} {base : Nat} {sp : Nat → Bool} {held : Bool}

theorem u22 : Try.prog.underlying 22 = some (.int .u64) := by kernel_rfl
theorem u5 : Try.prog.underlying 5 = some (.int .u8) := by kernel_rfl
theorem u26 : Try.prog.underlying 26 = some (.array 4 22) := by kernel_rfl
theorem u33 : Try.prog.underlying 33 = some (.array 32 5) := by kernel_rfl
theorem c22 : Try.prog.cellsOf 22 = 1 := by kernel_rfl
theorem c5 : Try.prog.cellsOf 5 = 1 := by kernel_rfl
theorem c26 : Try.prog.cellsOf 26 = 4 := by kernel_rfl
theorem c33 : Try.prog.cellsOf 33 = 32 := by kernel_rfl
theorem c45 : Try.prog.cellsOf 45 = 16 := by kernel_rfl

theorem bounds_u64 {n : Int} (h : (Lit.int .u64 n).wf = true) : ∃ a : Nat, n = (a : Int) ∧ a < B64 := by
  have := has_wf h
  have h2 := hasU.1 this
  exact ⟨n.toNat, by omega, by simp only [B64]; omega⟩

theorem trod_num {fuel : Nat} {cs : List Value} {d : DataW H} {ps : List MemPlace} (h : DataW.trod enc Try.prog w base sp held fuel 26 cs = some (d, ps)) :
    ∃ n, n < BW ∧ cs = limbs n ∧ ps = [] := by
  cases fuel with
  | zero => simp [DataW.trod] at h
  | succ m =>
    rw [DataW.trod_step] at h
    unfold DataW.trodStep at h
    simp only [u26, c26, c22] at h
    split at h
    · rename_i hl
      obtain ⟨a, b, c, e, rfl⟩ : ∃ a b c e, cs = [a, b, c, e] := by
        match cs, hl with
        | [a, b, c, e], _ => exact ⟨a, b, c, e, rfl⟩
      have hr : List.range 4 = [0, 1, 2, 3] := rfl
      simp only [hr, List.mapM_cons, List.mapM_nil, Option.map_eq_some_iff, bind, Option.bind_eq_some_iff, pure, Option.some.injEq] at h
      obtain ⟨ys, ⟨y0, h0, z0, ⟨y1, h1, z1, ⟨y2, h2, z2, ⟨y3, h3, z3, hz3, e3⟩, e2⟩, e1⟩, e0⟩, e⟩ := h
      obtain ⟨n0, q0, rfl, w0⟩ := DataW.trod_int u22 h0
      obtain ⟨n1, q1, rfl, w1⟩ := DataW.trod_int u22 h1
      obtain ⟨n2, q2, rfl, w2⟩ := DataW.trod_int u22 h2
      obtain ⟨n3, q3, rfl, w3⟩ := DataW.trod_int u22 h3
      obtain ⟨a0, rfl, g0⟩ := bounds_u64 w0
      obtain ⟨a1, rfl, g1⟩ := bounds_u64 w1
      obtain ⟨a2, rfl, g2⟩ := bounds_u64 w2
      obtain ⟨a3, rfl, g3⟩ := bounds_u64 w3
      simp at q0 q1 q2 q3
      subst hz3; subst e3; subst e2; subst e1; subst e0
      simp only [Prod.mk.injEq] at e
      have hl4 := limb_num4 g0 g1 g2 g3
      refine ⟨num4 a0 a1 a2 a3, hl4.2.2.2.2, ?_, ?_⟩
      · rw [q0, q1, q2, q3]; unfold limbs; rw [hl4.1, hl4.2.1, hl4.2.2.1, hl4.2.2.2.1]
      · rw [← e.2]; rfl
    · cases h

theorem trod_struct {t : TypeId} {fs : Array Field} {L : List (Nat × TypeId)} {fuel : Nat} {cs : List Value} {d : DataW H} {ps : List MemPlace} (ht : Try.prog.underlying t = some (.struct fs)) (hF : fs.toList.map (fun f => (f.offset, f.type)) = L)
    (h : DataW.trod enc Try.prog w base sp held fuel t cs = some (d, ps)) : cs.length = Try.prog.cellsOf t ∧ ∃ fuel' xs, L.mapM (fun p => DataW.trod enc Try.prog w base sp held fuel' p.2 ((cs.drop p.1).take (Try.prog.cellsOf p.2))) = some xs ∧ ps = xs.flatMap (·.2) := by
  cases fuel with
  | zero => simp [DataW.trod] at h
  | succ m =>
    rw [DataW.trod_step] at h
    unfold DataW.trodStep at h
    simp only [ht] at h
    split at h
    · rename_i hl
      obtain ⟨xs, h1, h2⟩ := Option.map_eq_some_iff.1 h
      refine ⟨hl, m, xs, ?_, ?_⟩
      · rw [← hF, List.mapM_map]; exact h1
      · simp only [Prod.mk.injEq] at h2; exact h2.2.symm
    · cases h
noncomputable def fs45 : Array Field := match Try.prog.underlying 45 with
  | some (.struct fs) => fs
  | _ => #[]
theorem u45 : Try.prog.underlying 45 = some (.struct fs45) := by kernel_rfl
theorem f45 : fs45.toList.map (fun f => (f.offset, f.type)) = [(0, 26), (4, 26), (8, 26), (12, 26)] := by kernel_rfl

theorem trod_grp {fuel : Nat} {cs : List Value} {d : DataW H} {ps : List MemPlace} (h : DataW.trod enc Try.prog w base sp held fuel 45 cs = some (d, ps)) :
    ∃ g : Grp, chsRel noG [.num g.P, .num g.Q, .num g.G, .num g.H] cs ∧ ps = [] := by
  obtain ⟨hl, m, xs, h1, h2⟩ := trod_struct u45 f45 h
  simp only [List.mapM_cons, List.mapM_nil, bind, Option.bind_eq_some_iff, pure, Option.some.injEq, c26] at h1
  obtain ⟨⟨d0, p0⟩, h0, z0, ⟨⟨d1, p1⟩, h1, z1, ⟨⟨d2, p2⟩, h2', z2, ⟨⟨d3, p3⟩, h3, z3, hz3, e3⟩, e2⟩, e1⟩, e0⟩ := h1
  obtain ⟨n0, b0, q0, rfl⟩ := trod_num h0
  obtain ⟨n1, b1, q1, rfl⟩ := trod_num h1
  obtain ⟨n2, b2, q2, rfl⟩ := trod_num h2'
  obtain ⟨n3, b3, q3, rfl⟩ := trod_num h3
  rw [c45] at hl
  refine ⟨⟨n0, n1, n2, n3⟩, ?_, ?_⟩
  · refine ⟨limbs n0, cs.drop 4, ?_, ⟨b0, rfl⟩, limbs n1, cs.drop 8, ?_, ⟨b1, rfl⟩, limbs n2, cs.drop 12, ?_, ⟨b2, rfl⟩, limbs n3, [], ?_, ⟨b3, rfl⟩, rfl⟩
    · rw [← q0]; simp
    · rw [← q1]; rw [show cs.drop 8 = (cs.drop 4).drop 4 by rw [List.drop_drop], List.take_append_drop]
    · rw [← q2]; rw [show cs.drop 12 = (cs.drop 8).drop 4 by rw [List.drop_drop], List.take_append_drop]
    · rw [← q3, List.append_nil]; exact (List.take_of_length_le (by simp; omega)).symm
  · rw [h2, ← e0, ← e1, ← e2, ← e3, ← hz3]; rfl

set_option maxRecDepth 20000 in
theorem open_agg {t : TypeId} {r : Reach} {b0 : Nat} {v : Value} (hs : (∃ fs, Try.prog.underlying t = some (.struct fs)) ∨ ∃ n e, Try.prog.underlying t = some (.array n e)) (h : Value.okWide Try.prog w r b0 t v) : ∃ cs, v = .agg cs := by
  unfold Value.okWide at h
  rcases hs with ⟨fs, hs⟩ | ⟨n, e, hs⟩ <;> rw [hs] at h <;> obtain ⟨cs, h1, _⟩ := h <;> exact ⟨cs, h1⟩
set_option maxRecDepth 20000 in
theorem open_num {r : Reach} {b0 : Nat} {v : Value} {d : DataW H} {ps : List MemPlace} (h : Value.okWide Try.prog w r b0 26 v) (hd : DataW.Trod enc Try.prog w base sp held 26 v d ps) : ∃ n, AB.rel noG (aN n) v ∧ ps = [] := by
  obtain ⟨cs, rfl⟩ := open_agg (.inr ⟨_, _, u26⟩) h
  obtain ⟨fuel, hf⟩ := hd
  obtain ⟨n, h1, h2, h3⟩ := trod_num hf
  refine ⟨n, ⟨cs, rfl, limbs n, [], ?_, ⟨h1, rfl⟩, rfl⟩, h3⟩
  rw [List.append_nil]; exact h2
set_option maxRecDepth 20000 in
theorem open_grp {r : Reach} {b0 : Nat} {v : Value} {d : DataW H} {ps : List MemPlace} (h : Value.okWide Try.prog w r b0 45 v) (hd : DataW.Trod enc Try.prog w base sp held 45 v d ps) : ∃ g : Grp, AB.rel noG (aG g) v ∧ ps = [] := by
  obtain ⟨cs, rfl⟩ := open_agg (.inl ⟨_, u45⟩) h
  obtain ⟨fuel, hf⟩ := hd
  obtain ⟨g, h1, h2⟩ := trod_grp hf
  exact ⟨g, ⟨cs, rfl, h1⟩, h2⟩
end Go.Proofs.Ytacjiajijigebaa
namespace Go.Proofs.Ytacjiajijigebaa
open Go Go.Ev
variable {H : Type} {enc : TypeId × Value → H} {w : World} {base : Nat} {sp : Nat → Bool} {held : Bool}

theorem cells?_each {a : Addr} {n : Nat} {cs : List Value} (h : w.cells? base a n = some cs) : cs.length = n ∧ ∀ j, j < n → w.cell? (a.add j) = cs[j]? := by
  unfold World.cells? at h
  split at h
  · have hl := mapM_some_length h
    exact ⟨by simpa using hl, fun j hj => mapM_some_get h j j (by simp [hj])⟩
  · cases h
theorem cell_plain {a : Addr} {v : Value} (h : w.cell? a = some v) : a.spot = none ∧ a.block < w.heap.size := by
  unfold World.cell? at h
  split at h
  · rename_i c t z hh
    have hb := (Array.getElem?_eq_some_iff.1 hh).1
    split at h
    · cases h
    · rename_i hs
      exact ⟨by simpa using hs, hb⟩
  · cases h
theorem add0 (a : Addr) : a.add 0 = a := by unfold Addr.add; rw [if_pos rfl]
theorem add_add (a : Addr) (x y : Nat) : (a.add x).add y = a.add (x + y) := by
  by_cases hx : x = 0
  · subst hx; rw [add0, Nat.zero_add]
  · by_cases hy : y = 0
    · subst hy; rw [add0, Nat.add_zero]
    · unfold Addr.add
      rw [if_neg hx, if_neg hy, if_neg (by omega)]
      simp only [Nat.add_assoc]
theorem flat_at {α : Type} {k : Nat} : ∀ {L : List (List α)}, (∀ c ∈ L, c.length = k) → L.flatten.length = L.length * k ∧ ∀ i c, L[i]? = some c → ∀ j, j < k → L.flatten[i * k + j]? = c[j]?
  | [], _ => ⟨by simp, fun i c h => by simp at h⟩
  | x :: L, h => by
    have hx := h x (List.mem_cons_self ..)
    obtain ⟨h1, h2⟩ := flat_at (k := k) (L := L) fun c hc => h c (List.mem_cons_of_mem _ hc)
    refine ⟨by simp only [List.flatten_cons, List.length_append, h1, hx, List.length_cons, Nat.add_mul]; omega, fun i c hi j hj => ?_⟩
    rw [List.flatten_cons]
    cases i with
    | zero =>
      simp only [List.getElem?_cons_zero, Option.some.injEq] at hi
      subst hi
      rw [Nat.zero_mul, Nat.zero_add, List.getElem?_append_left (by omega)]
    | succ i =>
      rw [List.getElem?_append_right (by rw [hx, Nat.add_mul]; omega), hx, ← h2 i c (by simpa using hi) j hj]
      congr 1
      rw [Nat.add_mul]; omega
/-- A slice that was read: its elements' cells, one by one. -/
theorem trod_sl {t e : TypeId} {fuel : Nat} {cs : List Value} {x : DataW H × List MemPlace} (ht : Try.prog.underlying t = some (.slice e)) (hk : 0 < Try.prog.cellsOf e) (h : DataW.trod enc Try.prog w base sp held fuel t cs = some x) :
    ∃ (v : Value) (L : List (List Value)) (m : Nat), cs = [v] ∧ SlAt w (fun _ => True) (Try.prog.cellsOf e) v L.length L.flatten ∧ ∀ c ∈ L, c.length = Try.prog.cellsOf e ∧ ∃ y, DataW.trod enc Try.prog w base sp held m e c = some y := by
  rcases DataW.trod_slice ht h with ⟨rfl, _⟩ | ⟨a, len, cap, elems, rest, n, _, rfl, _, hb, hl1, hl2, hel, hget, _⟩
  · exact ⟨_, [], 0, rfl, ⟨none, 0, rfl, Nat.le_refl _, by omega, by simp, .inl rfl⟩, fun c hc => by simp at hc⟩
  · generalize hK : Try.prog.cellsOf e = k at *
    have hch : ∀ i, i < len → ∃ c y, w.cells? base (a.add (i * k)) k = some c ∧ DataW.trod enc Try.prog w base sp held n e c = some y := fun i hi => by
      have h1 := hget i hi
      rw [List.getElem?_eq_getElem (by omega), Option.bind_eq_some_iff] at h1
      obtain ⟨c, h2, h3⟩ := h1
      exact ⟨c, _, h2, h3⟩
    have hL : ∃ L : List (List Value), L.length = len ∧ ∀ i c, L[i]? = some c → w.cells? base (a.add (i * k)) k = some c ∧ ∃ y, DataW.trod enc Try.prog w base sp held n e c = some y := by
      have key : ∀ q, q ≤ len → ∃ L : List (List Value), L.length = q ∧ ∀ i c, L[i]? = some c → w.cells? base (a.add (i * k)) k = some c ∧ ∃ y, DataW.trod enc Try.prog w base sp held n e c = some y := by
        intro q
        induction q with
        | zero => intro _; exact ⟨[], rfl, fun i c h => by simp at h⟩
        | succ q ih =>
          intro hq
          obtain ⟨L, h1, h2⟩ := ih (by omega)
          obtain ⟨c, y, h3, h4⟩ := hch q (by omega)
          refine ⟨L ++ [c], by simp [h1], fun i c' hi => ?_⟩
          rw [List.getElem?_append] at hi
          split at hi
          · exact h2 i c' hi
          · rename_i hge
            have hi' := (List.getElem?_eq_some_iff.1 hi).1
            simp at hi'
            obtain rfl : i = q := by omega
            rw [h1, Nat.sub_self] at hi
            simp at hi; subst hi
            exact ⟨h3, y, h4⟩
      exact key len (Nat.le_refl _)
    obtain ⟨L, h1, h2⟩ := hL
    have hlen : ∀ c ∈ L, c.length = k := fun c hc => by
      obtain ⟨i, hi⟩ := List.getElem?_of_mem hc
      exact (cells?_each (h2 i c hi).1).1
    obtain ⟨f1, f2⟩ := flat_at hlen
    have hmx : maxLen = 9223372036854775807 := rfl
    refine ⟨_, L, n, rfl, ⟨some a, cap, by rw [h1], by omega, by omega, f1, ?_⟩, fun c hc => ⟨hlen c hc, ?_⟩⟩
    · rcases Nat.eq_zero_or_pos len with h0 | h0
      · left
        have : L = [] := List.eq_nil_of_length_eq_zero (by omega)
        rw [this]; rfl
      · right
        have hcell : ∀ j u, L.flatten[j]? = some u → w.cell? (a.add j) = some u := fun j u hj => by
          have hjl := (List.getElem?_eq_some_iff.1 hj).1
          rw [f1, h1] at hjl
          have hi : j / k < len := Nat.div_lt_of_lt_mul (by rw [Nat.mul_comm]; exact hjl)
          have hm := Nat.mod_lt j hk
          have e1 : j / k * k + j % k = j := by rw [Nat.mul_comm]; exact Nat.div_add_mod j k
          obtain ⟨c, hc⟩ : ∃ c, L[j / k]? = some c := ⟨L[j / k], List.getElem?_eq_getElem (by omega)⟩
          have h3 := f2 (j / k) c hc (j % k) hm
          rw [e1, hj] at h3
          have h4 := (cells?_each (h2 _ c hc).1).2 (j % k) hm
          rw [← h3] at h4
          rw [← h4, add_add, e1]
        have h00 : 0 < L.flatten.length := by rw [f1, h1]; exact Nat.mul_pos h0 hk
        have h0' := hcell 0 _ (List.getElem?_eq_getElem h00)
        rw [add0] at h0'
        obtain ⟨s1, s2⟩ := cell_plain h0'
        obtain ⟨ab, ao, as'⟩ := a
        simp only at s1 s2
        subst s1
        refine ⟨ab, ao, rfl, s2, trivial, fun j u hj => ?_⟩
        have := hcell j u hj
        rwa [add_addr] at this
    · obtain ⟨i, hi⟩ := List.getElem?_of_mem hc
      exact (h2 i c hi).2
set_option maxRecDepth 20000 in
/-- A slice among the arguments. -/
theorem open_sl {t e : TypeId} {r : Reach} {b0 : Nat} {v : Value} {d : DataW H} {ps : List MemPlace} (ht : Try.prog.underlying t = some (.slice e)) (hk : 0 < Try.prog.cellsOf e) (hval : Value.okWide Try.prog w r b0 t v) (hd : DataW.Trod enc Try.prog w base sp held t v d ps) :
    ∃ (L : List (List Value)) (m : Nat), SlAt w (fun _ => True) (Try.prog.cellsOf e) v L.length L.flatten ∧ ∀ c ∈ L, c.length = Try.prog.cellsOf e ∧ ∃ y, DataW.trod enc Try.prog w base sp held m e c = some y := by
  obtain ⟨fuel, hf⟩ := hd
  unfold Value.okWide at hval
  rw [ht] at hval
  have hv : v.cells = #[v] := by
    cases v <;> first | rfl | (simp only [Cell.okWide, ht, Cell.ok] at hval)
  rw [hv] at hf
  obtain ⟨v', L, m, h1, h2, h3⟩ := trod_sl ht hk hf
  simp only [List.cons.injEq, and_true] at h1
  subst h1
  exact ⟨L, m, h2, h3⟩
end Go.Proofs.Ytacjiajijigebaa
namespace Go.Proofs.Ytacjiajijigebaa
open Go Go.Ev Go.RowKit Go.Shelf
attribute [local go_sem] Oper.semAt_some

/-- A word. -/
abbrev U64 := { x : Nat // x < B64 }
abbrev IW := Nat × U64
abbrev encW (x : IW) : Array Value := #[.int .i64 (x.1 : Int), .int .u64 (x.2.1 : Int)]
def wAt (ws : List U64) (i : Nat) : U64 := ws.getD i ⟨0, by decide⟩
/-- From the last one on. -/
def backs (ws : List U64) : List IW := (List.range ws.length).map fun k => (ws.length - 1 - k, wAt ws (ws.length - 1 - k))
theorem backs_take (ws : List U64) (k : Nat) (h : k < ws.length) : (backs ws).take (k + 1) = (backs ws).take k ++ [(ws.length - 1 - k, wAt ws (ws.length - 1 - k))] := by
  rw [List.take_add_one]
  have : (backs ws)[k]? = some (ws.length - 1 - k, wAt ws (ws.length - 1 - k)) := by
    unfold backs
    rw [List.getElem?_map, List.getElem?_range h]; rfl
  rw [this]; rfl
theorem backs_len (ws : List U64) : (backs ws).length = ws.length := by simp [backs]

set_option maxRecDepth 100000 in
set_option maxHeartbeats 2000000 in
theorem back1_in (n : Nat) (hn : 1 ≤ n) (l B n₀ b o c : Nat) (ws : List U64) (hreach : ws.length ≤ 1000000) (J Jx : List IW → World → Prop)
    (hY : ∀ pre x W, J pre W → pre.length < ws.length → YieldAt (FW none) (n - 1) Try.prog l (encW x) W fun e W' =>
      (e = .returned (.bool true) ∧ J (pre ++ [x]) W' ∧ KP n₀ b B W W') ∨ (e = .returned (.bool false) ∧ Jx (pre ++ [x]) W'))
    (W : World) (hB : W.cell? ⟨B, 0, none⟩ = some (.slice (some ⟨b, o, none⟩) ws.length c))
    (hc : ∀ i, i < ws.length → W.cell? ⟨b, o + i, none⟩ = some (.int .u64 ((wAt ws i).1 : Int))) (h0 : J [] W) :
    CallsIn (FW none) n Try.prog 190 #[.func (.yield l) #[] #[], .pointer (some ⟨B, 0, none⟩)] W fun e W' => (∃ v, e = .returned v) ∧
      ((∃ ys, ys = backs ws ∧ J ys W') ∨ (∃ pre, (∃ k, k ≤ ws.length ∧ pre = (backs ws).take k) ∧ Jx pre W')) := by
  have hro : (FW none).round = none := rfl
  refine callsIn_of_wp Try.func190 rfl trivial ?_ hro
  simp only [Try.ntmps190, List.size_toArray, List.length_cons, List.length_nil, Nat.reduceAdd, Nat.reduceSub, Array.replicate_succ, Array.replicate_zero, List.push_toArray, List.append_toArray, List.nil_append, List.cons_append]
  gi_wp2
  gi_loopw [3] (fun i wr => ∃ k : Nat, k ≤ ws.length ∧ i = .int .i64 ((ws.length : Int) - 1 - k) ∧ J ((backs ws).take k) wr ∧ KP n₀ b B W wr)
    (fun i _ => (intOf i + 1).toNat)
  case atStart =>
    refine ⟨0, Nat.zero_le _, ?_, h0, KP.refl _ _ _ _⟩
    simp
  case round =>
    obtain ⟨k, hk, rfl, hJs, hnx⟩ := hrel
    have hB' := (World.cell?_of_block (w := W) (a := ⟨B, 0, none⟩) hnx.bn).trans hB
    by_cases hlt : k < ws.length
    · obtain ⟨fn, tmps, assign, body, hy, hR⟩ := hY _ (ws.length - 1 - k, wAt ws (ws.length - 1 - k)) wr hJs (by simp [backs_len]; omega)
      dsimp only [encW] at hy
      have hi : (((ws.length - 1 - k : Nat)) : Int) = (ws.length : Int) - 1 - k := by omega
      rw [hi] at hy
      have hc' : wr.cell? ⟨b, o + (ws.length - 1 - k), none⟩ = some (.int .u64 ((wAt ws (ws.length - 1 - k)).1 : Int)) := (World.cell?_of_block (w := W) (a := ⟨b, o + (ws.length - 1 - k), none⟩) hnx.ba).trans (hc _ (by omega))
      gi_wp2
      refine hR.mono ?_
      rintro e W3 (⟨rfl, hJ3, hk3⟩ | ⟨rfl, hJx3⟩)
      · gi_wp2
        go_roundw
        case rel => exact ⟨k + 1, by omega, by congr 1; omega, by rw [backs_take ws k hlt]; exact hJ3, hnx.trans hk3⟩
        case measure => simp [intOf]; omega
      · gi_wp2
        refine bodyPost_ret (results_none rfl _ _ _) rfl ?_
        exact ⟨⟨_, rfl⟩, .inr ⟨_, ⟨k + 1, by omega, by rw [backs_take ws k hlt]⟩, hJx3⟩⟩
    · obtain rfl : k = ws.length := by omega
      gi_wp2
      go_end0
      exact ⟨⟨_, rfl⟩, .inl ⟨_, rfl, by rw [← backs_len, List.take_length] at hJs; exact hJs⟩⟩
theorem back_stops (n : Nat) (hn : 1 ≤ n) (B n₀ b o cap : Nat) (ws : List U64) (hreach : ws.length ≤ 1000000) (w : World) (hB : B < w.heap.size) (hb : b < w.heap.size)
    (hc : w.cell? ⟨B, 0, none⟩ = some (.slice (some ⟨b, o, none⟩) ws.length cap)) (hcs : ∀ i, i < ws.length → w.cell? ⟨b, o + i, none⟩ = some (.int .u64 ((wAt ws i).1 : Int))) :
    SeqStopsK (FW none) n Try.prog 190 #[.pointer (some ⟨B, 0, none⟩)] encW (KP n₀ b B) (fun ys => ys = backs ws) (fun pre => pre <+: backs ws) ws.length w := fun l J Jx W hW _ _ hY h0 => by
  have hc' := (hW.cell (p := ⟨B, 0, none⟩) hB).trans hc
  refine (back1_in n hn l B n₀ b o cap ws hreach J Jx hY W hc' (fun i hi => (hW.cell (p := ⟨b, o + i, none⟩) hb).trans (hcs i hi)) h0).mono ?_
  rintro e W' ⟨he, ⟨ys, rfl, hj⟩ | ⟨pre, ⟨k, hk, rfl⟩, hj⟩⟩
  · exact ⟨he, .inl ⟨_, rfl, hj⟩⟩
  · exact ⟨he, .inr ⟨_, List.take_prefix _ _, hj⟩⟩
end Go.Proofs.Ytacjiajijigebaa
namespace Go.Ev
open Go
variable {P : Program} {S : Nat → Prop} {w0 : World}
/-- Nothing handed back reads as an empty slice, too. -/
theorem CallOk.padNil {f : FuncId} {args : List AB} {mem : List Blk} {k : Blk} (h : CallOk P S w0 f args mem [] (.b (.cv (.v (.slice none 0 0)))) noEff) : CallOk P S w0 f args mem [] (.b (.cv (.sl mem.length 0 0 0 0))) ⟨[k], []⟩ := by
  have key : ∀ {g g' : GM} {w w' : World}, (∀ i, i < 1 → g (mem.length + i) = none) → Post S w0 mem noEff g g' w w' → Post S w0 mem ⟨[k], []⟩ g g' w w' := by
    intro g g' w w' hfr hp
    have hnone : g' mem.length = none := by
      cases hg : g' mem.length with
      | none => rfl
      | some b =>
        have := hp.dom mem.length (by rw [hg]; simp) (hfr 0 (by decide))
        simp [noEff] at this
    refine ⟨hp.le, hp.gw, fun l hl hl' => ?_, hp.size, fun b hb hne => hp.keep b hb (fun l c b' hm => by simp [noEff] at hm), fun i k' hi b hb => ?_, fun l c hw => by simp [wrFind] at hw, fun l c hm => by simp at hm, fun i b hb hn => ?_, fun i j b b' h1 h2 h3 h4 hbb => ?_⟩
    · have := hp.dom l hl hl'
      simp [noEff] at this
      omega
    · cases i with
      | succ i => simp at hi
      | zero => rw [Nat.add_zero, hnone] at hb; cases hb
    · have := hp.dom _ (by rw [hb]; simp) hn
      simp [noEff] at this
      omega
    · have := hp.dom _ (by rw [h3]; simp) h1
      simp [noEff] at this
      omega
  intro g w vs hv hrd hgw hfr hij
  have hfr1 : ∀ i, i < 1 → g (mem.length + i) = none := fun i hi => hfr i (by simpa using hi)
  rcases h g w vs hv hrd hgw (fun i hi => by simp [noEff] at hi) hij with ⟨v, w', g', h1, h2, h3⟩ | ⟨h1, h2⟩
  · exact .inl ⟨v, w', g', h1, .inl ⟨rfl, rfl, none, h2⟩, key hfr1 h3⟩
  · exact .inr ⟨h1, h2.mono fun en w' ⟨v, g', e, hr, hp⟩ => ⟨v, g', e, .inl ⟨rfl, rfl, none, hr⟩, key hfr1 hp⟩⟩
/-- The room of a slice that is told outright. -/
theorem exec_cap_v {ts : List AV} {mem : List Blk} {o : Oper} {c : Call} {x : Operand} {t : TypeId} {ad : Option Addr} {n cp : Nat} (ho : o.op = .call c) (hc : c.callee = .builtin .cap) (hargs : c.args = #[x]) (htys : c.argTypes = #[t]) {e : TypeId} (ht : P.underlying t = some (.slice e)) (hx0 : opv ts x = .b (.cv (.v (.slice ad n cp)))) (h63 : cp ≤ 9223372036854775807) :
    Exec P S w0 o ts mem [] (.b (.cv (.int .i64 (Int.ofNat cp)))) noEff := by
  refine exec_pure fun g a w hx => ?_
  have hx1 : a.eval x = .slice ad n cp := by
    have := hx x (by simp [ho, Op.operands, Call.operands, hargs])
    rw [hx0] at this; exact this
  refine ⟨.int .i64 (Int.ofNat cp), ?_, rfl, ?_⟩
  · simp [execOp, ho, resolve, hc, hargs, htys, invoke, builtin, Builtin.cap_, hx1, run_underlying' ht, goInt]
  · show IntKind.min .i64 ≤ Int.ofNat cp ∧ Int.ofNat cp ≤ IntKind.max .i64
    rw [show IntKind.min .i64 = -9223372036854775808 from rfl, show IntKind.max .i64 = 9223372036854775807 from rfl]
    simp only [Int.ofNat_eq_natCast]
    omega
/-- Nothing, sliced. -/
theorem exec_slice_nil {ts : List AV} {mem : List Blk} {o : Oper} {x y : Operand} {t e : TypeId} {k : IntKind} (ho : o.op = .slice t x none (some y) none) (ht : P.underlying t = some (.slice e)) (hs : ∃ n, (P.info? e).map (·.size) = some n) (hx0 : opv ts x = .b (.cv (.v (.slice none 0 0)))) (hy0 : opv ts y = .b (.cv (.int k 0))) :
    Exec P S w0 o ts mem [] (.b (.cv (.v (.slice none 0 0)))) noEff := by
  obtain ⟨n, hs⟩ := hs
  refine exec_pure fun g a w hx => ?_
  have hx1 : a.eval x = .slice none 0 0 := by
    have := hx x (by simp [ho, Op.operands])
    rw [hx0] at this; exact this
  have hy1 : a.eval y = .int k 0 := by
    have := hx y (by simp [ho, Op.operands])
    rw [hy0] at this; exact this.1
  refine ⟨.slice none 0 0, ?_, rfl⟩
  simp [execOp, ho, Instr.sliceAt, Instr.slice, hx1, hy1, run_underlying' ht, run_sizeOf' hs, Instr.sliceBounds, Instr.sliceBound, asIntOf]
end Go.Ev
namespace Go.Proofs.Ytacjiajijigebaa
open Go Go.Ev
set_option linter.unusedSimpArgs false

theorem info22 : (Try.prog.info? 22).map (fun i => (i.zero, i.size, i.bytes)) = some (some (.int .u64 0), 1, 8) := by kernel_rfl
theorem un139 : Try.prog.underlying 139 = some (.slice 22) := by kernel_rfl
theorem un3 : Try.prog.underlying 3 = some (.int .i64) := by kernel_rfl
set_option maxRecDepth 20000 in
theorem grow_nil : PureOk Try.prog 189 [.cv (.v (.slice none 0 0)), aI 0] (.b (.cv (.v (.slice none 0 0)))) := by
  refine pure_of_ev (cxK []) Try.func189 rfl (by kernel_rfl) (Nat.le_of_ble_eq_true rfl) ⟨rfl, rfl, trivial⟩ rfl fun hf w => ?_
  conv => whnf
  refine ⟨_, _, _, exec_cap_v rfl rfl rfl rfl un139 rfl (by omega), ?_⟩
  conv => whnf
  exact ⟨rfl, trivial⟩
set_option maxRecDepth 20000 in
theorem grow_some (n : Nat) (h0 : 0 < n) (hn : n * 8 ≤ 140737488355328) (S : Nat → Prop) (w0 : World) (mem : List Blk) :
    CallOk Try.prog S w0 189 [.cv (.v (.slice none 0 0)), aI (Int.ofNat n)] mem [] (.b (.cv (.sl mem.length 0 0 0 n))) ⟨[([.vec n fun _ => .int .u64 0], 0)], []⟩ := by
  have key := callLoc (S := S) (w0 := w0) (cxK []) Try.func189 rfl (by kernel_rfl) (xs := [.cv (.v (.slice none 0 0)), aI (Int.ofNat n)]) (lm := []) (lw := [([.vec n fun _ => .int .u64 0], 0)]) (r := .b (.cv (.sl 0 0 0 0 n))) (ls := []) (mem := mem) (Nat.le_of_ble_eq_true rfl) rfl (Nat.zero_le _)
    (fun i j l h => by simp at h) (fun i l k h => by simp at h) (fun i k k' h => by simp at h) ⟨trivial, trivial, trivial⟩ (fun k h => by simp at h) (fun k h => by simp at h; subst h; exact ⟨fun i hi => rfl, trivial⟩)
    (fun k h => by simp at h; subst h; exact ⟨by simp, rfl⟩) ⟨Nat.le_refl _, Nat.zero_lt_one⟩ (fun S w g vs hv hfa => by
      conv => whnf
      refine ⟨_, _, _, exec_cap_v rfl rfl rfl rfl un139 rfl (by omega), ?_⟩
      conv => whnf
      have e0 : IntKind.i64.wrap (Int.ofNat n - IntKind.i64.wrap (Int.ofNat 0 - Int.ofNat 0)) = Int.ofNat n := by
        rw [show IntKind.i64.wrap (Int.ofNat 0 - Int.ofNat 0) = 0 from rfl, wrapI _ (by simp only [Int.ofNat_eq_natCast]; omega), Int.sub_zero]
      rw [e0]
      refine brkT (by rw [iltB_eq, decide_eq_true_eq]; simp only [Int.ofNat_eq_natCast]; omega) ?_
      conv => whnf
      refine ⟨_, _, _, exec_cap_v rfl rfl rfl rfl un139 rfl (by omega), ?_⟩
      conv => whnf
      refine ⟨_, _, _, exec_slice_nil rfl un139 ⟨1, by kernel_rfl⟩ rfl rfl, ?_⟩
      conv => whnf
      refine ⟨_, _, _, exec_append_make rfl rfl rfl rfl un139 un3 info22 rfl rfl (cv := .int .u64 0) (fun g => ⟨rfl, hasU.2 (by omega)⟩) rfl rfl h0 (by omega) (by omega), ?_⟩
      conv => whnf
      repeat' (refine And.intro ?_ ?_)
      all_goals try first | with_reducible rfl | exact trivial
      all_goals first | rfl | omega | exact leVec (v := fun _ => 0) (fun _ _ => rfl) (fun _ _ => rfl))
  exact key
/-- Room for n elements, and none of them. -/
theorem grow_ok (n : Nat) (hn : n * 8 ≤ 140737488355328) (S : Nat → Prop) (w0 : World) (mem : List Blk) :
    CallOk Try.prog S w0 189 [.cv (.v (.slice none 0 0)), aI (Int.ofNat n)] mem [] (.b (.cv (.sl mem.length 0 0 0 n))) ⟨[([.vec n fun _ => .int .u64 0], 0)], []⟩ := by
  rcases Nat.eq_zero_or_pos n with rfl | h0
  · exact CallOk.padNil (CallOk.of_pure grow_nil)
  · exact grow_some n h0 hn S w0 mem
/-- What slices of slices hold: each a slice and its cells. -/
abbrev Pt := Value × List Value
def ptLen (ps : List Pt) : Nat := (ps.map fun p => p.2.length).sum
def ptCells (ps : List Pt) : List Value := (ps.map fun p => p.2).flatten
theorem ptCells_len : ∀ (ps : List Pt), (ptCells ps).length = ptLen ps
  | [] => rfl
  | p :: ps => by
    have := ptCells_len ps
    simp only [ptCells, ptLen, List.map_cons, List.flatten_cons, List.length_append, List.sum_cons] at *
    omega
theorem ptLen_take {ps : List Pt} {i : Nat} {p : Pt} (h : ps[i]? = some p) : ptLen (ps.take (i + 1)) = ptLen (ps.take i) + p.2.length := by
  rw [List.take_add_one, h]; simp [ptLen]
theorem ptCells_take {ps : List Pt} {i : Nat} {p : Pt} (h : ps[i]? = some p) : ptCells (ps.take (i + 1)) = ptCells (ps.take i) ++ p.2 := by
  rw [List.take_add_one, h]; simp [ptCells]
theorem ptLen_le {ps : List Pt} (i : Nat) : ptLen (ps.take i) ≤ ptLen ps := by
  have : ptLen ps = ptLen (ps.take i) + ptLen (ps.drop i) := by
    unfold ptLen
    rw [← List.sum_append, ← List.map_append, List.take_append_drop]
  omega
theorem ptGet {w : World} {D : Nat → Prop} {ps : List Pt} {ad : Option Addr} {i : Nat} (hrow : RowAt w D ad (ps.map (·.1))) (hi : i < ps.length) : ∃ b o p, ad = some ⟨b, o, none⟩ ∧ ps[i]? = some p ∧ p ∈ ps ∧ b < w.heap.size ∧ D b ∧ w.cell? ⟨b, o + i, none⟩ = some p.1 := by
  rcases hrow with h | ⟨b, o, e, h1, h2, h3⟩
  · have := congrArg List.length h
    simp at this; subst this; simp at hi
  · exact ⟨b, o, ps[i], e, List.getElem?_eq_getElem hi, List.getElem_mem hi, h1, h2, h3 i _ (by rw [List.getElem?_map, List.getElem?_eq_getElem hi]; rfl)⟩
set_option maxRecDepth 20000 in
theorem concat_at (ps : List Pt) (v : Value) (hlen : ptLen ps * 8 ≤ 140737488355328) (hone : ∀ p ∈ ps, ∀ u ∈ p.2, u.oneCell' = true) {S : Nat → Prop} {w0 w : World} {mem : List Blk} {g : GM}
    (hv : SlAt w (fun _ => True) 1 v ps.length (ps.map (·.1))) (hp : ∀ p ∈ ps, SlAt w (fun _ => True) 1 p.1 p.2.length p.2) (hgw : GW g S w0 w) (hfr : g mem.length = none) :
    CallAt Try.prog S w0 153 [v] mem g w (.b (.cv (.sl mem.length 0 0 (ptLen ps) (ptLen ps)))) ⟨[([.vec (ptLen ps) fun j => .v ((ptCells ps).getD j undef)], 0)], []⟩ := by
  obtain ⟨ad, cap, rfl, hc1, hc2, hl, hrow⟩ := hv
  have key := callLocAt (S := S) (w0 := w0) (w := w) (g := g) (cxK []) Try.func153 rfl (by kernel_rfl) (xs := [.cv (.v (.slice ad ps.length cap))]) (vs := [.slice ad ps.length cap]) (lm := []) (lw := [([.vec (ptLen ps) fun j => .v ((ptCells ps).getD j undef)], 0)]) (r := .b (.cv (.sl 0 0 0 (ptLen ps) (ptLen ps)))) (ls := []) (mem := mem) (Nat.le_of_ble_eq_true rfl) rfl (Nat.zero_le _)
    (fun i j l h => by simp at h) (fun i l k h => by simp at h) (fun i k k' h => by simp at h) ⟨trivial, trivial⟩ (fun k h => by simp at h) (fun k h => by simp at h; subst h; exact ⟨fun i hi => rfl, trivial⟩)
    (fun k h => by simp at h; subst h; exact ⟨by simp, rfl⟩) ⟨Nat.le_refl _, Nat.zero_lt_one⟩ ⟨_, _, rfl, rfl, rfl⟩ (fun l h => by simp at h) hgw (fun i hi => by simp at hi; subst hi; exact hfr) (fun l h => by simp at h) (fun S' g' hS' hv hfa => by
      have hk : ps.length ≤ 9223372036854775807 := by omega
      have nS : ∀ b, ¬ S' b := fun b hb => by obtain ⟨_, l, _, _, h, _⟩ := hS' b hb; simp at h
      conv => whnf
      refine oblT (by rw [Nat.ble_eq]; exact hk) ?_
      conv => whnf
      refine LoopK.cut Nat (fun i => [(3, tI (Int.ofNat (ptLen (ps.take i)))), (11, tI (Int.ofNat i))]) (fun _ => []) (fun i => i ≤ ps.length) (fun i => ps.length - i) 0 (Nat.zero_le _) ?_
        Unit (fun _ => [(3, tI (Int.ofNat (ptLen ps))), (11, tI (Int.ofNat ps.length))]) (fun _ => []) (fun _ => True) 0 ?_ ?_
      · repeat' (refine And.intro ?_ ?_)
        all_goals try first | with_reducible rfl | exact trivial
        all_goals rfl
      · intro i hi
        replace hi : i ≤ ps.length := hi
        conv => whnf
        refine brk (fun h3 => ?_) (fun h3 => ?_)
        · replace h3 : iltB (Int.ofNat i) (Int.ofNat ps.length) = true := h3
          rw [iltB_eq, decide_eq_true_eq] at h3
          have h3 : i < ps.length := Int.ofNat_lt.1 h3
          obtain ⟨b, o, p, rfl, hpi, hpm, hb, _, hcell⟩ := ptGet hrow h3
          obtain ⟨ad', cap', hpv, hc1', hc2', hl', _⟩ := hp p hpm
          refine ⟨_, _, _, exec_index_out rfl ty191 rfl rfl h3, ?_⟩
          conv => whnf
          refine ⟨_, _, _, exec_load_out (cv := .v p.1) rfl ty139 rfl rfl hb (nS b) (by rw [Nat.mul_one]; exact hcell) (fun g => rfl), ?_⟩
          rw [hpv]
          conv => whnf
          refine oblT (by rw [Nat.ble_eq]; omega) ?_
          conv => whnf
          have e1 : IntKind.i64.wrap (Int.ofNat (ptLen (ps.take i)) + Int.ofNat p.2.length) = Int.ofNat (ptLen (ps.take (i + 1))) := by
            have := ptLen_le (ps := ps) (i + 1)
            rw [ptLen_take hpi] at *
            rw [wrapI _ (by simp only [Int.ofNat_eq_natCast]; omega)]; rfl
          rw [e1]
          conv => whnf
          refine ⟨i + 1, h3, ?_, ?_⟩
          · repeat' (refine And.intro ?_ ?_)
            all_goals try first | with_reducible rfl | exact trivial
            show IntKind.wrap .i64 (Int.ofNat i + 1) = Int.ofNat (i + 1)
            rw [wrapI _ (by simp only [Int.ofNat_eq_natCast]; omega)]; rfl
          · show ps.length - (i + 1) < ps.length - i
            omega
        · replace h3 : iltB (Int.ofNat i) (Int.ofNat ps.length) = false := h3
          rw [iltB_eq, decide_eq_false_iff_not] at h3
          have h3 : i = ps.length := by
            have : ¬ i < ps.length := fun h => h3 (Int.ofNat_lt.2 h)
            omega
          subst h3
          refine ⟨(), trivial, ?_⟩
          repeat' (refine And.intro ?_ ?_)
          all_goals try first | with_reducible rfl | exact trivial
          show Int.ofNat (ptLen (ps.take ps.length)) = Int.ofNat (ptLen ps)
          rw [List.take_length]
      · intro _ _
        conv => whnf
        refine ⟨[], _, _, grow_ok (ptLen ps) hlen _ _ _, ?_⟩
        conv => whnf
        refine oblT (by rw [Nat.ble_eq]; exact hk) ?_
        conv => whnf
        refine LoopK.gen (Nat × Nat × Nat × (Nat → CV)) (fun x => [(6, .b (.cv (.sl 0 0 0 (ptLen (ps.take x.1)) x.2.1))), (24, .top), (27, tI (Int.ofNat x.1))]) (fun x => [([.vec x.2.2.1 x.2.2.2], 0)])
          (fun x => x.1 ≤ ps.length ∧ ptLen (ps.take x.1) ≤ x.2.1 ∧ ptLen (ps.take x.1) ≤ x.2.2.1 ∧ (x.2.2.1 = ptLen ps ∨ x.2.2.1 = ptLen (ps.take x.1)) ∧ ∀ j, j < ptLen (ps.take x.1) → x.2.2.2 j = .v ((ptCells (ps.take x.1)).getD j undef)) (fun x => ps.length - x.1)
          (0, ptLen ps, ptLen ps, fun _ => .int .u64 0) ?_ id ?_
          Unit (fun _ => [(6, .b (.cv (.sl 0 0 0 (ptLen ps) (ptLen ps)))), (24, .top), (27, .top)]) (fun _ => [([.vec (ptLen ps) fun j => .v ((ptCells ps).getD j undef)], 0)]) (fun _ => True) 2 ?_ ?_
        · refine ⟨Nat.zero_le _, Nat.zero_le _, Nat.zero_le _, .inl rfl, fun j hj => ?_⟩
          simp [ptLen] at hj
        · conv => whnf
          repeat' (refine And.intro ?_ ?_)
          all_goals try first | with_reducible rfl | exact trivial
          · show 0 = ptLen (List.take 0 ps); rfl
          · show ptLen (List.take 0 ps) ≤ ptLen ps; exact Nat.zero_le _
          · exact Nat.le_refl _
          · rfl
          · exact fun j hj => ⟨rfl, trivial⟩
        · rintro ⟨i, c, N, f⟩ ⟨hi, hc, hN, hN2, hf⟩
          replace hi : i ≤ ps.length := hi
          replace hc : ptLen (ps.take i) ≤ c := hc
          replace hN : ptLen (ps.take i) ≤ N := hN
          replace hN2 : N = ptLen ps ∨ N = ptLen (ps.take i) := hN2
          replace hf : ∀ j, j < ptLen (ps.take i) → f j = .v ((ptCells (ps.take i)).getD j undef) := hf
          conv => whnf
          refine brk (fun h3 => ?_) (fun h3 => ?_)
          · replace h3 : iltB (Int.ofNat i) (Int.ofNat ps.length) = true := h3
            rw [iltB_eq, decide_eq_true_eq] at h3
            have h3 : i < ps.length := Int.ofNat_lt.1 h3
            obtain ⟨b, o, p, rfl, hpi, hpm, hb, _, hcell⟩ := ptGet hrow h3
            refine ⟨_, _, _, exec_index_out rfl ty191 rfl rfl h3, ?_⟩
            conv => whnf
            refine ⟨_, _, _, exec_load_out (cv := .v p.1) rfl ty139 rfl rfl hb (nS b) (by rw [Nat.mul_one]; exact hcell) (fun g => rfl), ?_⟩
            conv => whnf
            have hle := ptLen_le (ps := ps) (i + 1)
            have htk := ptLen_take hpi
            refine ⟨_, _, [0], exec_append (x := .tmp 31) (y := .tmp 32) (d := .slice 22) (mk := 0) (l := 0) (m := p.2.length) (h := fun j => .v (p.2.getD j undef)) rfl rfl rfl rfl un139 un139 (fun k h => by cases h) info22 rfl rfl rfl rfl rfl (by simp) (by rw [Nat.mul_one]; exact hN) (by show (ptLen (ps.take i) + p.2.length) * 8 ≤ _; omega) (by show ptLen (ps.take i) + p.2.length ≤ _; omega) (by decide) (fun g a w' hx _ hg => ?_), ?_⟩
            · have hy : a.eval (.tmp 32) = p.1 := hx (.tmp 32) (by simp [Op.operands, Call.operands])
              have hs := (hp p hpm).mono (D' := fun _ => True) hg.fr.size fun b hb _ => ⟨hg.fr.block b hb (nS b), trivial⟩
              exact ⟨p.2, by rw [hy]; exact src_out hs fun j u hj => ⟨hone p hpm u (List.mem_of_getElem? hj), by show u = p.2.getD j undef; rw [List.getD_eq_getElem?_getD, hj]; rfl⟩⟩
            conv => whnf
            have hcat : ∀ j, j < ptLen (ps.take (i + 1)) → catF (ptLen (ps.take i) * 1) f (fun j => .v (p.2.getD j undef)) j = CV.v ((ptCells (ps.take (i + 1))).getD j undef) := fun j hj => by
              rw [ptCells_take hpi, List.getD_eq_getElem?_getD, List.getElem?_append, ptCells_len]
              unfold catF
              rw [Nat.mul_one]
              split
              · rename_i hb
                rw [Nat.blt_eq] at hb
                rw [if_pos hb, hf j hb, List.getD_eq_getElem?_getD]
              · rename_i hb
                have hb : ¬ j < ptLen (ps.take i) := fun h => by rw [← Nat.blt_eq] at h; rw [h] at hb; cases hb
                rw [if_neg hb]
                show CV.v (p.2.getD (j - ptLen (ps.take i)) undef) = _
                rw [List.getD_eq_getElem?_getD]
            refine ⟨(i + 1, ptLen (ps.take i) + p.2.length, (ptLen (ps.take i) + p.2.length) * 1, catF (ptLen (ps.take i) * 1) f (fun j => .v (p.2.getD j undef))), ⟨h3, by show ptLen (ps.take (i + 1)) ≤ ptLen (ps.take i) + p.2.length; omega, by show ptLen (ps.take (i + 1)) ≤ (ptLen (ps.take i) + p.2.length) * 1; omega, .inr (by show (ptLen (ps.take i) + p.2.length) * 1 = ptLen (ps.take (i + 1)); omega), fun j hj => ?_⟩, ⟨fun _ => 1, ?_⟩, ?_⟩
            · exact hcat j hj
            · conv => whnf
              repeat' (refine And.intro ?_ ?_)
              all_goals try first | with_reducible rfl | exact trivial
              · exact htk.symm
              · show ptLen (ps.take (i + 1)) ≤ ptLen (ps.take i) + p.2.length; omega
              · exact Nat.le_refl _
              · show IntKind.wrap .i64 (Int.ofNat i + 1) = Int.ofNat (i + 1)
                rw [wrapI _ (by simp only [Int.ofNat_eq_natCast]; omega)]; rfl
              · intro j hj
                replace hj : j < (ptLen (ps.take i) + p.2.length) * 1 := hj
                show leCVR _ _ (catF (ptLen (ps.take i) * 1) f (fun j => .v (p.2.getD j undef)) j) (catF (ptLen (ps.take i) * 1) f (fun j => .v (p.2.getD j undef)) j) True
                rw [hcat j (by omega)]
                exact ⟨rfl, trivial⟩
            · show ps.length - (i + 1) < ps.length - i
              omega
          · replace h3 : iltB (Int.ofNat i) (Int.ofNat ps.length) = false := h3
            rw [iltB_eq, decide_eq_false_iff_not] at h3
            have h3 : i = ps.length := by
              have : ¬ i < ps.length := fun h => h3 (Int.ofNat_lt.2 h)
              omega
            subst h3
            rw [List.take_length] at *
            obtain rfl : N = ptLen ps := by omega
            refine ⟨(), trivial, ⟨id, ?_⟩⟩
            conv => whnf
            repeat' (refine And.intro ?_ ?_)
            all_goals try first | with_reducible rfl | exact trivial
            · exact Nat.le_refl _
            · exact hc
            · intro j hj
              show leCVR _ _ (f j) _ True
              rw [hf j hj]
              exact ⟨rfl, trivial⟩
        · intro _ _
          conv => whnf
          repeat' (refine And.intro ?_ ?_)
          all_goals try first | with_reducible rfl | exact trivial
          · exact Nat.le_refl _
          · exact Nat.le_refl _
          · exact fun j hj => ⟨rfl, trivial⟩)
  exact key
end Go.Proofs.Ytacjiajijigebaa
namespace Go.Ev
open Go
theorem CallAt.calls {S : Nat → Prop} {w0 w : World} {P : Program} {f : FuncId} {fn : Func} {c : Code} {vs : List Value} {mem : List Blk} {g : GM} {r : AV} {e : Eff} (h : CallAt P S w0 f vs mem g w r e) (hf : P.funcs[f]? = some fn) (hb : fn.body = some c) (hn : (fn.name == "runtime.NumGoroutine") = false) :
    Calls P f vs.toArray w fun en w' => ∃ v g', en = .returned v ∧ r.rel g' v ∧ Post S w0 mem e g g' w w' := by
  rcases h with ⟨v, w', g', h1, _⟩ | ⟨_, h2⟩
  · rw [callFunc_enter hf hb hn] at h1; cases h1
  · exact h2
end Go.Ev
namespace Go.Proofs.Ytacjiajijigebaa
open Go Go.Ev Go.RowKit Go.Shelf
attribute [local go_sem] Oper.semAt_some

theorem short_calls (a : Nat) (ha : a < BW) (w : World) : Calls Try.prog 129 #[lv a] w fun e w' => e = .returned (.bool (decide (a < B64))) ∧ Below w.heap.size w w' := by
  refine ((divides_short a).calls (g := noG) (vs := [lv a]) Try.func129 rfl (by kernel_rfl) ⟨_, _, rfl, lv_rel ha, rfl⟩ w).mono ?_
  rintro e w' ⟨v, rfl, hr, hb⟩
  exact ⟨by rw [show v = .bool _ from hr], hb⟩
theorem eq0_run (m : Nat) (hm0 : 0 < m) (hm : m < BW) (w : World) : (Op.equalIn 10000 26 (lv m) (.agg z4)).run Try.prog w = .ok false w := by
  have h := eq26 9998 (limb 0 m) (limb 1 m) (limb 2 m) (limb 3 m) 0 0 0 0 w
  refine h.trans ?_
  have e := limbs_inj (x := m) (y := 0) hm (by decide)
  have e2 : Nat.beq m 0 = false := by
    cases hb : Nat.beq m 0 with
    | false => rfl
    | true => have := Nat.eq_of_beq_eq_true hb; omega
  rw [e2] at e
  have z : ∀ i, limb i 0 = 0 := fun i => by simp [limb]
  rw [z, z, z, z] at e
  exact congrArg (Result.ok · w) e

theorem lvA_small {r : Nat} (h : r < B64) : lvA r = #[.int .u64 (r : Int), .int .u64 0, .int .u64 0, .int .u64 0] := by
  have e0 : limb 0 r = r := by unfold limb; rw [Nat.pow_zero, Nat.div_one, Nat.mod_eq_of_lt h]
  have e : ∀ i, limb (i + 1) r = 0 := fun i => by
    unfold limb
    rw [Nat.div_eq_of_lt, Nat.zero_mod]
    exact Nat.lt_of_lt_of_le h (by rw [Nat.pow_succ]; exact Nat.le_mul_of_pos_left _ (Nat.pow_pos (by decide)))
  show #[Value.int .u64 (limb 0 r), .int .u64 (limb 1 r), .int .u64 (limb 2 r), .int .u64 (limb 3 r)] = _
  rw [e0, e 0, e 1, e 2]; rfl
theorem div64_calls (hi lo y : Nat) (h1 : hi < y) (hl : lo < B64) (hy : y < B64) (w : World) : Calls Try.prog 130 #[.int .u64 (hi : Int), .int .u64 (lo : Int), .int .u64 (y : Int)] w fun e w' => e = .returned (.tuple #[.int .u64 (((hi * B64 + lo) / y : Nat) : Int), .int .u64 (((hi * B64 + lo) % y : Nat) : Int)]) ∧ Below w.heap.size w w' := by
  refine ((bits_Div64 (hi : Int) lo y (by omega)).calls (g := noG) (vs := [.int .u64 (hi : Int), .int .u64 (lo : Int), .int .u64 (y : Int)]) Try.func130 rfl (by kernel_rfl) ⟨_, _, rfl, ⟨rfl, hasU.2 (by unfold B64 at *; omega)⟩, _, _, rfl, ⟨rfl, hasU.2 (by unfold B64 at *; omega)⟩, _, _, rfl, ⟨rfl, hasU.2 (by unfold B64 at *; omega)⟩, rfl⟩ w).mono ?_
  rintro e w' ⟨v, rfl, hr, hb⟩
  obtain ⟨a, rfl, y1, ys1, e1, r1, y2, ys2, rfl, r2, rfl⟩ := hr
  obtain ⟨l⟩ := a
  simp only at e1
  subst e1
  refine ⟨?_, hb⟩
  rw [r1.1, r2.1]
  have ea : ((hi : Int) * 18446744073709551616 + lo) / y = (((hi * B64 + lo) / y : Nat) : Int) := by
    rw [Int.natCast_ediv, Int.natCast_add, Int.natCast_mul]; rfl
  have eb : ((hi : Int) * 18446744073709551616 + lo) % y = (((hi * B64 + lo) % y : Nat) : Int) := by
    rw [Int.natCast_emod, Int.natCast_add, Int.natCast_mul]; rfl
  rw [ea, eb]
theorem four_allocs {w w' : World} {A B C D : Obj} (hb : Below ((((w.alloc A).alloc B).alloc C).alloc D).heap.size ((((w.alloc A).alloc B).alloc C).alloc D) w') :
    w'.heap[w.heap.size]? = some A ∧ w'.heap[w.heap.size + 1]? = some B ∧ w'.heap[w.heap.size + 1 + 1]? = some C ∧ w'.heap[w.heap.size + 1 + 1 + 1]? = some D ∧ w.heap.size + 4 ≤ w'.heap.size ∧ Below w.heap.size w w' := by
  obtain ⟨h1, h2, h3, h4⟩ := one_alloc hb
  obtain ⟨h5, h6, h7, h8, h9⟩ := three_allocs h4
  simp only [World.size_alloc] at *
  exact ⟨h5, h6, h7, h2, by omega, h9⟩
/-- The words of two numbers, one behind the other. -/
def ws2 (low high : Nat) : List U64 := [⟨limb 0 low, limb_lt _ _⟩, ⟨limb 1 low, limb_lt _ _⟩, ⟨limb 2 low, limb_lt _ _⟩, ⟨limb 3 low, limb_lt _ _⟩, ⟨limb 0 high, limb_lt _ _⟩, ⟨limb 1 high, limb_lt _ _⟩, ⟨limb 2 high, limb_lt _ _⟩, ⟨limb 3 high, limb_lt _ _⟩]
/-- What is left when these words have come. -/
def remB (B m : Nat) (pre : List IW) : Nat := pre.foldl (fun r x => (r * B + x.2.1) % m) 0
theorem remB_snoc (B m : Nat) (pre : List IW) (x : IW) : remB B m (pre ++ [x]) = (remB B m pre * B + x.2.1) % m := by simp [remB]
theorem remB_lt {B m : Nat} (hm : 0 < m) (pre : List IW) : remB B m pre < m := by
  rcases List.eq_nil_or_concat pre with rfl | ⟨ys, x, rfl⟩
  · exact hm
  · rw [List.concat_eq_append, remB_snoc]; exact Nat.mod_lt _ hm
theorem horner_mod (B m : Nat) : ∀ (l : List IW) (a : Nat), l.foldl (fun r x => (r * B + x.2.1) % m) (a % m) = l.foldl (fun r x => r * B + x.2.1) a % m
  | [], a => rfl
  | x :: l, a => by
    rw [List.foldl_cons, List.foldl_cons, ← horner_mod B m l]
    congr 1
    rw [Nat.add_mod, Nat.mul_mod, Nat.mod_mod, ← Nat.mul_mod, ← Nat.add_mod]
theorem horner8 (B l0 l1 l2 l3 h0 h1 h2 h3 : Nat) : (((((((0 * B + h3) * B + h2) * B + h1) * B + h0) * B + l3) * B + l2) * B + l1) * B + l0 = (l0 + B * l1 + B ^ 2 * l2 + B ^ 3 * l3) + B ^ 4 * (h0 + B * h1 + B ^ 2 * h2 + B ^ 3 * h3) := by grind
theorem remB_all (B m : Nat) (low high : Nat) : remB B m (backs (ws2 low high)) = ((limb 0 low + B * limb 1 low + B ^ 2 * limb 2 low + B ^ 3 * limb 3 low) + B ^ 4 * (limb 0 high + B * limb 1 high + B ^ 2 * limb 2 high + B ^ 3 * limb 3 high)) % m := by
  have h := horner_mod B m (backs (ws2 low high)) 0
  rw [Nat.zero_mod] at h
  unfold remB
  rw [h, ← horner8]
  rfl
abbrev remW (m : Nat) (pre : List IW) : Nat := remB B64 m pre
theorem remW_all {low high m : Nat} (hl : low < BW) (hh : high < BW) : remW m (backs (ws2 low high)) = (low + BW * high) % m := by
  have e1 := num4_limb hl
  have e2 := num4_limb hh
  unfold num4 at e1 e2
  show remB B64 m (backs (ws2 low high)) = _
  rw [remB_all B64 m low high, e1, e2, show B64 ^ 4 = BW from rfl]
theorem concat_two (low high B b1 b2 : Nat) (t : TypeId) (w : World) (h1 : Box w b1 26 (lvA low)) (h2 : Box w b2 26 (lvA high)) (hB : Box w B t #[.slice (some ⟨b1, 0, none⟩) 4 4, .slice (some ⟨b2, 0, none⟩) 4 4]) :
    Calls Try.prog 153 #[.slice (some ⟨B, 0, none⟩) 2 2] w fun e w' => ∃ b o cap, e = .returned (.slice (some ⟨b, o, none⟩) (ws2 low high).length cap) ∧ (w.heap.size ≤ b ∧ b < w'.heap.size) ∧ (∀ i, i < (ws2 low high).length → w'.cell? ⟨b, o + i, none⟩ = some (.int .u64 ((wAt (ws2 low high) i).1 : Int))) ∧ Below w.heap.size w w' := by
  have hsl : ∀ (b n : Nat), Box w b 26 (lvA n) → SlAt w (fun _ => True) 1 (.slice (some ⟨b, 0, none⟩) 4 4) 4 (lvA n).toList := fun b n hb => by
    refine ⟨_, _, rfl, Nat.le_refl _, by decide, rfl, .inr ⟨b, 0, rfl, hb.lt, trivial, fun j u hj => ?_⟩⟩
    rw [Nat.zero_add]
    exact (hb.cellA (i := j) (by rw [← Array.getElem?_toList]; exact hj)).1
  have key := concat_at [(.slice (some ⟨b1, 0, none⟩) 4 4, (lvA low).toList), (.slice (some ⟨b2, 0, none⟩) 4 4, (lvA high).toList)] (.slice (some ⟨B, 0, none⟩) 2 2) (Nat.le_of_ble_eq_true rfl)
    (fun p hp u hu => by
      simp only [List.mem_cons, List.not_mem_nil, or_false] at hp
      rcases hp with rfl | rfl
      all_goals
        simp only [List.mem_cons, List.not_mem_nil, or_false] at hu
        rcases hu with rfl | rfl | rfl | rfl <;> rfl) (S := noS) (w0 := w) (w := w) (mem := []) (g := noG)
    ⟨_, _, rfl, Nat.le_refl _, by decide, rfl, .inr ⟨B, 0, rfl, hB.lt, trivial, fun j u hj => by
      rw [Nat.zero_add]
      exact (hB.cellA (i := j) (by rw [← Array.getElem?_toList]; exact hj)).1⟩⟩
    (fun p hp => by
      simp only [List.mem_cons, List.not_mem_nil, or_false] at hp
      rcases hp with rfl | rfl
      · exact hsl b1 low h1
      · exact hsl b2 high h2) ⟨(fun l b h => by cases h), Fr.refl _ _⟩ rfl
  refine (key.calls Try.func153 rfl (by kernel_rfl)).mono ?_
  rintro e w' ⟨v, g', rfl, hr, hp⟩
  rcases hr with ⟨h0, _⟩ | ⟨_, cap, _, _, b, hgb, _, rfl⟩
  · cases h0
  have hbr := hp.new 0 _ rfl b hgb
  obtain ⟨cs, ty, fz, us, rest, p1, _, p3, p4, _⟩ := hbr.2.resolve_left (by simp)
  obtain ⟨us', ws', rfl, ⟨q1, q2⟩, q3⟩ := p4
  have hnb : w.heap.size ≤ b.b := by
    rcases hp.nw 0 b hgb rfl with h | ⟨l, b', h, _⟩
    · exact h
    · simp [wrFind] at h
  refine ⟨b.b, 0, cap, rfl, ⟨hnb, hp.gw.own _ b hgb⟩, fun i hi => ?_, hp.gw.fr.below⟩
  have hi : i < 8 := hi
  have hlt : i < us'.length := by rw [q1]; exact hi
  have e1 := (q2 i _ (List.getElem?_eq_getElem hlt)).2
  have e1 : us'[i] = (ptCells [(.slice (some ⟨b1, 0, none⟩) 4 4, (lvA low).toList), (.slice (some ⟨b2, 0, none⟩) 4 4, (lvA high).toList)]).getD i undef := e1
  rw [cell_blk p1, ← Array.getElem?_toList, p3, List.append_assoc, Nat.zero_add, List.getElem?_append_left hlt, List.getElem?_eq_getElem hlt, e1]
  have : ∀ i, i < 8 → (ptCells [(.slice (some ⟨b1, 0, none⟩) 4 4, (lvA low).toList), (.slice (some ⟨b2, 0, none⟩) 4 4, (lvA high).toList)]).getD i undef = .int .u64 ((wAt (ws2 low high) i).1 : Int) := by
    intro i hi
    match i, hi with
    | 0, _ => rfl
    | 1, _ => rfl
    | 2, _ => rfl
    | 3, _ => rfl
    | 4, _ => rfl
    | 5, _ => rfl
    | 6, _ => rfl
    | 7, _ => rfl
  rw [this i hi]
set_option maxHeartbeats 1000000 in
theorem back_in (n : Nat) (ad : Option Addr) (k c : Nat) (w : World) : CallsIn (FW none) n Try.prog 154 #[.slice ad k c] w fun e w' => e = .returned (.func (.func 190) #[] #[.pointer (some ⟨w.heap.size, 0, none⟩)]) ∧ w' = w.alloc (.cells #[.slice ad k c] 139) := by
  refine callsIn_of_wp Try.func154 rfl trivial ?_ rfl
  simp only [Try.ntmps154, List.size_toArray, List.length_cons, List.length_nil, Nat.reduceAdd, Nat.reduceSub, Array.replicate_succ, Array.replicate_zero, List.push_toArray, List.append_toArray, List.nil_append, List.cons_append]
  gi_wp2
  go_ret
  exact ⟨rfl, rfl⟩
set_option maxRecDepth 100000 in
set_option maxHeartbeats 4000000 in
theorem wide_short_in (n : Nat) (hn : 3 ≤ n) (low high m : Nat) (hl : low < BW) (hh : high < BW) (hm0 : 0 < m) (hm : m < 18446744073709551616) (w : World) :
    CallsIn (FW none) n Try.prog 86 #[lv low, lv high, lv m] w fun e w' => e = .returned (.tuple #[lv ((low + BW * high) % m), .int .i64 0]) ∧ Below w.heap.size w w' := by
  have h1 : 1 ≤ n := by omega
  have hro : (FW none).round = none := rfl
  refine callsIn_of_wp_marks Try.func86 rfl trivial ?_ hro
  simp only [Try.ntmps86, List.size_toArray, List.length_cons, List.length_nil, Nat.reduceAdd, Nat.reduceSub, Array.replicate_succ, Array.replicate_zero, List.push_toArray, List.append_toArray, List.nil_append, List.cons_append]
  have hmB : m < BW := Nat.lt_trans hm (by decide)
  have heq := eq0_run m hm0 hmB
  gi_wp2
  refine ⟨trivial, ?_⟩
  gi_at_call 129
  refine (callsIn_FW (short_calls m hmB _)).mono ?_
  rintro e w1 ⟨rfl, hb⟩
  rw [show decide (m < B64) = true from decide_eq_true hm]
  obtain ⟨e0, e1, e2, e3, hs1, hB1⟩ := four_allocs hb
  clear hb
  gi_wp2
  refine wpIn_region_still_tailF (r := none) rfl 2 (by kernel_rfl) (noDefer_of (by kernel_rfl)) (by kernel_rfl) ?_
  simp only [List.take_succ_cons, List.take_zero, List.drop_succ_cons, List.drop_zero]
  repeat still_step
  refine wpStill_nil ?_
  gi_wp2
  have b1 : Box w1 w.heap.size 26 (lvA low) := e0
  have b2 : Box w1 (w.heap.size + 1) 26 (lvA high) := e1
  have b3 : Box w1 (w.heap.size + 1 + 1) 26 (lvA m) := e2
  have b4 : Box w1 (w.heap.size + 1 + 1 + 1) 26 (lvA 0) := e3
  clear e0 e1 e2 e3
  refine ⟨trivial, ?_⟩
  gi_at_call 153
  refine (callsIn_FW (concat_two low high w1.heap.size w.heap.size (w.heap.size + 1) 139 (World.drew (w1.alloc (.cells #[.slice (some ⟨w.heap.size, 0, none⟩) 4 4, .slice (some ⟨w.heap.size + 1, 0, none⟩) 4 4] 139))) (Box.alloc b1 _) (Box.alloc b2 _) (heap_new w1 _))).mono ?_
  rintro e w2 ⟨b, o, cap, rfl, ⟨hbl0, hbl⟩, hcs, hb⟩
  have hbl0 : w1.heap.size + 1 ≤ b := by simpa using hbl0
  gi_wp2
  refine ⟨trivial, ?_⟩
  gi_at_call 154
  refine (back_in (n - 1) _ _ _ w2).mono ?_
  rintro e w3 ⟨rfl, rfl⟩
  gi_wp2
  have hsw : w1.heap.size < w2.heap.size := by have := hb.size; simp at this; omega
  have hbox : ∀ (B : Nat) (t : TypeId) (cs : Array Value), Box w1 B t cs → Box w2 B t cs := fun B t cs h => (hb.block B (by have := h.lt; simp; omega)).trans (Box.alloc h _)
  have c1 : Box w2 (w.heap.size + 1 + 1) 26 (lvA m) := hbox _ _ _ b3
  have c2 : Box w2 (w.heap.size + 1 + 1 + 1) 26 (lvA 0) := hbox _ _ _ b4
  have kB2 : Below w.heap.size w w2 := hB1.trans ((((Below.refl _ w1).alloc (by omega) _).drew).trans (hb.mono (by simp; omega)))
  obtain ⟨W0, hW0⟩ : ∃ W0, (w2.alloc (.cells #[.slice (some ⟨b, o, none⟩) (ws2 low high).length cap] 139)) = W0 := ⟨_, rfl⟩
  have hsz : W0.heap.size = w2.heap.size + 1 := by rw [← hW0]; simp
  replace c1 : Box W0 (w.heap.size + 1 + 1) 26 (lvA m) := by rw [← hW0]; exact c1.alloc _
  replace c2 : Box W0 (w.heap.size + 1 + 1 + 1) 26 (lvA 0) := by rw [← hW0]; exact c2.alloc _
  have c3 : Box W0 w2.heap.size 139 #[.slice (some ⟨b, o, none⟩) (ws2 low high).length cap] := by rw [← hW0]; exact heap_new w2 _
  replace hcs : ∀ i, i < (ws2 low high).length → W0.cell? ⟨b, o + i, none⟩ = some (.int .u64 ((wAt (ws2 low high) i).1 : Int)) := fun i hi => by rw [← hW0]; exact cell_al _ (hcs i hi)
  replace kB : Below w.heap.size w W0 := by rw [← hW0]; exact kB2.alloc kB2.size _
  rw [hW0]
  clear hW0
  have hlm : lvA m = #[.int .u64 (m : Int), .int .u64 0, .int .u64 0, .int .u64 0] := lvA_small hm
  refine wpIn_rangeFunc_ownH (show (FW none).round = none from rfl) h1 (gf := 190) (lb := #[.pointer (some ⟨w2.heap.size, 0, none⟩)]) rfl trivial (enters_of Try.func190 (by kernel_rfl) rfl)
    (back_stops (n - 1) (by omega) w2.heap.size w.heap.size b o cap (ws2 low high) (show 8 ≤ 1000000 by decide) W0 (by omega) (by omega) (cells_cell c3 0) hcs)
    KP.trans (fun W l o' o'' hl ho hc hw => ⟨belowK_b kB.size W l o' o'' hl ho hc hw, ?kba, ?kbb⟩) (Below.refl _ _) (fun _ => rfl)
    (fun pre W => (Box W (w.heap.size + 1 + 1) 26 (lvA m) ∧ Box W (w.heap.size + 1 + 1 + 1) 26 (lvA (remW m pre))) ∧ (Below w.heap.size w W ∧ W0.heap.size ≤ W.heap.size))
    (fun _ _ _ => False)
    (OwnFrom.and (OwnFrom.and (Own.from (Box.own _ _ _) _) (Own.from (Box.own _ _ _) _)) (OwnFrom.and (ownFrom_below (Nat.le_refl _) kB.size) (fun _ _ _ _ hs hg _ => Nat.le_trans hs hg.size)))
    (fun c => ownFrom_pure _ _)
    ⟨⟨c1, c2⟩, kB, Nat.le_refl _⟩
    (fun x a' _ => a' = { tmps := #[lv low, lv high, lv m, .pointer (some ⟨w.heap.size, 0, none⟩), .pointer (some ⟨w.heap.size + 1, 0, none⟩), .pointer (some ⟨w.heap.size + 1 + 1, 0, none⟩), .pointer (some ⟨w.heap.size + 1 + 1 + 1, 0, none⟩), .int .i64 0, .slice (some ⟨b, o, none⟩) (ws2 low high).length cap, undef, .int .u64 (x.2.1 : Int), undef, undef, undef, .bool false, .agg #[.int .u64 (m : Int), .int .u64 0, .int .u64 0, .int .u64 0], .agg #[.int .u64 0, .int .u64 0, .int .u64 0, .int .u64 0], .bool false, undef, .bool true, .agg #[.int .u64 (m : Int), .int .u64 0, .int .u64 0, .int .u64 0], .bool true, .slice (some ⟨w.heap.size, 0, none⟩) 4 4, .slice (some ⟨w.heap.size + 1, 0, none⟩) 4 4, .slice (some ⟨w1.heap.size, 0, none⟩) 2 2, .slice (some ⟨b, o, none⟩) (ws2 low high).length cap, .slice (some ⟨b, o, none⟩) (ws2 low high).length cap, .func (.func 190) #[] #[.pointer (some ⟨w2.heap.size, 0, none⟩)], .int .i64 (x.1 : Int), .int .u64 (x.2.1 : Int), undef, undef, undef, undef, undef, undef, undef, undef, undef, undef, undef, undef, undef, undef, undef, undef, undef, undef, undef, undef, undef, undef, undef, undef, undef, undef, undef, undef, undef, undef, undef, undef, undef], defers := [] })
    (fun x a' _ X Y row hs hg hr => hs)
    ?assign ?body ?done ?stop
  case kba => exact (grownBy_putObj' W l o'').block _ (by have := (Array.getElem?_eq_some_iff.1 ho).1; omega) (by simp; omega)
  case kbb => exact (grownBy_putObj' W l o'').block _ (by have := (Array.getElem?_eq_some_iff.1 ho).1; omega) (by simp; omega)
  case assign =>
    rintro l pre x W K ⟨⟨d1, d2⟩, hB, hsW⟩ hK
    gi_wp2
    refine hK _ _ (KeepsFrom.refl _ _) (KP.refl _ _ _ _) ⟨⟨d1, d2⟩, hB, hsW⟩ ?_
    rfl
  case body =>
    rintro l pre x a' W hl ⟨r, hr⟩ ⟨⟨d1, d2⟩, hB, hsW⟩ rfl hlt
    rw [hlm] at d1
    have hrl := remB_lt (B := B64) hm0 pre
    have hrB : remW m pre < B64 := Nat.lt_trans hrl hm
    rw [lvA_small hrB] at d2
    have x1 := (d1.cellA (i := 0) rfl).1
    have x2 := (d2.cellA (i := 0) rfl).1
    have x3 := (d2.cellA (i := 0) rfl).2
    have h1' : 1 ≤ n - 1 - 1 := by omega
    gi_wp2
    refine ⟨trivial, ?_⟩
    gi_at_call 130
    refine (CallsIn.inRound l (callsIn_FW (div64_calls (remW m pre) x.2.1 m hrl x.2.2 hm _))).mono ?_
    rintro e w4 ⟨rfl, hb4⟩
    have p1 := d1.below hb4 d1.lt
    have p2 := d2.below hb4 d2.lt
    obtain ⟨x4, x5⟩ := p2.cellA (i := 0) rfl
    have hlen := hb4.size
    obtain ⟨R, hR⟩ : ∃ R, (remW m pre * B64 + x.2.1) % m = R := ⟨_, rfl⟩
    have hRm : R < m := by rw [← hR]; exact Nat.mod_lt _ hm0
    rw [hR]
    gi_wp2
    have hks : ∀ {k : Nat}, k ≠ w.heap.size + 1 + 1 + 1 → k < W.heap.size → (w4.setCell ⟨w.heap.size + 1 + 1 + 1, 0, none⟩ (.int .u64 (R : Int))).heap[k]? = W.heap[k]? := fun {k} hk hl => by
      rw [Below.heap_setCell _ _ _ _ hk, hb4.block k hl]
    have hle := hB.size
    refine ⟨((keeps_below hb4).from _).trans ((KeepsOthers.setCell _ _ _).from _), ⟨(hb4.mono hle).setCell (p := ⟨w.heap.size + 1 + 1 + 1, 0, none⟩) (by simp; omega) _, hks (by omega) (by omega), hks (by omega) (by omega)⟩, ⟨?_, ?_⟩, (hB.trans (hb4.mono hle)).setCell (p := ⟨w.heap.size + 1 + 1 + 1, 0, none⟩) (by simp; omega) _, ?_⟩
    · rw [hlm]; exact p1.other _ (by omega)
    · show Box _ _ 26 (lvA (remB B64 m (pre ++ [x])))
      rw [remB_snoc, hR, lvA_small (Nat.lt_trans hRm hm)]
      exact p2.set (i := 0) (.int .u64 (R : Int)) (show 0 < 4 by decide)
    · simp only [World.setCell, Array.size_modify]; omega
  case done =>
    rintro D ys W hD rfl ⟨⟨d1, d2⟩, hB, hsW⟩ hK
    rw [remW_all hl hh] at d2
    obtain ⟨R, hR⟩ : ∃ R, (low + BW * high) % m = R := ⟨_, rfl⟩
    rw [hR] at d2
    obtain ⟨y0, f0⟩ := d2.cellA (i := 0) rfl
    obtain ⟨y1, f1⟩ := d2.cellA (i := 1) rfl
    obtain ⟨y2, f2⟩ := d2.cellA (i := 2) rfl
    obtain ⟨y3, f3⟩ := d2.cellA (i := 3) rfl
    gi_wp2
    have hK' := ((((KeepsOthers.setCell W ⟨w.heap.size + 1 + 1 + 1, 0, none⟩ (.int .u64 (limb 0 R))).trans (KeepsOthers.setCell _ ⟨w.heap.size + 1 + 1 + 1, 1, none⟩ (.int .u64 (limb 1 R)))).trans (KeepsOthers.setCell _ ⟨w.heap.size + 1 + 1 + 1, 2, none⟩ (.int .u64 (limb 2 R)))).trans (KeepsOthers.setCell _ ⟨w.heap.size + 1 + 1 + 1, 3, none⟩ (.int .u64 (limb 3 R)))).same D _ hK rfl
    refine ⟨by simp, .inl ⟨_, _, rfl, run_takeDeferred hK', ?_⟩⟩
    have y1 := (d2.set4 (.int .u64 (limb 0 R)) (.int .u64 (limb 1 R)) (.int .u64 (limb 2 R)) (.int .u64 (limb 3 R))).put hK' rfl (.deferred none)
    have x0 := (y1.cellA (i := 0) rfl).1
    have x1 := (y1.cellA (i := 1) rfl).1
    have x2 := (y1.cellA (i := 2) rfl).1
    have x3 := (y1.cellA (i := 3) rfl).1
    refine ⟨.tuple #[lv R, .int .i64 0], ?_, by rw [hR], ?_⟩
    · simp [results, Try.f86, go_sem, x0, x1, x2, x3]
    · exact ((((hB.setCell (p := ⟨w.heap.size + 1 + 1 + 1, 0, none⟩) (by simp; omega) _).setCell (p := ⟨w.heap.size + 1 + 1 + 1, 1, none⟩) (by simp; omega) _).setCell (p := ⟨w.heap.size + 1 + 1 + 1, 2, none⟩) (by simp; omega) _).setCell (p := ⟨w.heap.size + 1 + 1 + 1, 3, none⟩) (by simp; omega) _).trans (belowK_b (w := w) (Nat.le_refl _) _ D _ _ (by have := kB.size; omega) hK' rfl rfl)
  case stop =>
    rintro D c pre W _ _ h _
    exact h.elim
end Go.Proofs.Ytacjiajijigebaa
namespace Go.Proofs.Ytacjiajijigebaa
open Go Go.Ev Go.RowKit
theorem divides_Wide_one (low high m : Nat) (h0 : 0 < m) (h : m < 18446744073709551616) : PureOk Try.prog 86 [aN low, aN high, aN m] (wideN low high m) := by
  intro g w vs hv
  obtain ⟨v0, vs1, rfl, r0, v1, vs2, rfl, r1, v2, vs3, rfl, r2, rfl⟩ := hv
  obtain ⟨rfl, hl⟩ := rel_lv r0
  obtain ⟨rfl, hh⟩ := rel_lv r1
  obtain ⟨rfl, hm⟩ := rel_lv r2
  refine .inr ⟨callFunc_enter Try.func86 rfl (by kernel_rfl) _ w, ?_⟩
  refine (callsIn_wide.1 (show CallsIn Fence.wide 3 _ _ _ _ _ from wide_short_in 3 (Nat.le_refl _) low high m hl hh h0 h w)).mono ?_
  rintro e w' ⟨rfl, hB⟩
  refine ⟨_, rfl, ?_, ⟨hB.os, hB.tape, hB.output, hB.size, fun k hk _ => hB.block k hk⟩⟩
  have e1 : dR (low + BW * high) m = (low + BW * high) % m := if_neg (by omega)
  have e2 : dE m = 0 := if_neg (by omega)
  unfold wideN
  rw [e1, e2]
  exact tup_rel (Nat.lt_trans (Nat.mod_lt _ h0) hm) (hasI.2 ⟨by omega, by omega⟩)
theorem divides_Wide (low high m : Nat) : PureOk Try.prog 86 [aN low, aN high, aN m] (wideN low high m) := by
  by_cases h0 : m = 0
  · exact divides_Wide_many low high m (.inl h0)
  · by_cases h : m < 18446744073709551616
    · exact divides_Wide_one low high m (by omega) h
    · exact divides_Wide_many low high m (.inr (by omega))
def wideK : Known Try.prog := kNNN 86 (fun _ _ _ => True) wideN (fun a b m _ => divides_Wide a b m)
end Go.Proofs.Ytacjiajijigebaa
