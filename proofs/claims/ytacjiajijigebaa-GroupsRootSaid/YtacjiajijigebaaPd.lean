/- A product of powers in a group: the walk. No condition. -/
import Derived.Test.YtacjiajijigebaaPa
import Derived.Test.YtacjiajijigebaaSa
import Derived.Test.YtacjiajijigebaaRw
namespace Go.Ev
open Go Go.RowKit
theorem PureOk.calls {P : Program} {f : FuncId} {fn : Func} {c : Code} {args : List AB} {r : AV} (h : PureOk P f args r) (hf : P.funcs[f]? = some fn) (hb : fn.body = some c) (hn : (fn.name == "runtime.NumGoroutine") = false) {g : GM} {vs : List Value} (hv : absRel g args vs) (w : World) :
    Calls P f vs.toArray w fun en w' => ∃ v, en = .returned v ∧ r.rel g v ∧ Below w.heap.size w w' := by
  rcases h g w vs hv with ⟨v, h1, _⟩ | ⟨_, h2⟩
  · rw [callFunc_enter hf hb hn] at h1; cases h1
  · exact h2.mono fun en w' ⟨v, e, hr, hF⟩ => ⟨v, e, hr, hF.below⟩
end Go.Ev
namespace Go.Proofs.Ytacjiajijigebaa
open Go Go.Ev Go.RowKit Go.Shelf
attribute [local go_sem] Oper.semAt_some

theorem lv_rel {g : GM} {n : Nat} (h : n < BW) : AB.rel g (aN n) (lv n) := ⟨_, rfl, limbs n, [], by simp [limbs], ⟨h, rfl⟩, rfl⟩
theorem rel_lv {g : GM} {n : Nat} {v : Value} (h : AB.rel g (aN n) v) : v = lv n ∧ n < BW := by
  obtain ⟨a, rfl, us, ws, e, ⟨h1, rfl⟩, rfl⟩ := h
  refine ⟨?_, h1⟩
  obtain ⟨l⟩ := a
  simp only [List.append_nil] at e
  subst e
  rfl
/-- A group's value. -/
abbrev gV (g : Grp) : Value := .agg #[.int .u64 (limb 0 g.P), .int .u64 (limb 1 g.P), .int .u64 (limb 2 g.P), .int .u64 (limb 3 g.P), .int .u64 (limb 0 g.Q), .int .u64 (limb 1 g.Q), .int .u64 (limb 2 g.Q), .int .u64 (limb 3 g.Q),
  .int .u64 (limb 0 g.G), .int .u64 (limb 1 g.G), .int .u64 (limb 2 g.G), .int .u64 (limb 3 g.G), .int .u64 (limb 0 g.H), .int .u64 (limb 1 g.H), .int .u64 (limb 2 g.H), .int .u64 (limb 3 g.H)]
def grpOk (g : Grp) : Prop := g.P < BW ∧ g.Q < BW ∧ g.G < BW ∧ g.H < BW
theorem gV_rel {g : Grp} {m : GM} (h : grpOk g) : AB.rel m (aG g) (gV g) :=
  ⟨_, rfl, limbs g.P, _, rfl, ⟨h.1, rfl⟩, limbs g.Q, _, rfl, ⟨h.2.1, rfl⟩, limbs g.G, _, rfl, ⟨h.2.2.1, rfl⟩, limbs g.H, [], rfl, ⟨h.2.2.2, rfl⟩, rfl⟩

theorem pair_rel {g : GM} {n : Nat} {e : Int} {v : Value} (h : AV.rel g (.tup [aN n, aI e]) v) : v = .tuple #[lv n, .int .i64 e] ∧ n < BW := by
  obtain ⟨a, rfl, y, ys, e1, h1, y2, ys2, e2, h2, rfl⟩ := h
  obtain ⟨rfl, h3⟩ := rel_lv h1
  obtain ⟨l⟩ := a
  simp only at e1
  subst e1 e2
  obtain ⟨rfl, _⟩ := h2
  exact ⟨rfl, h3⟩
theorem exp_calls (g : Grp) (a n : Nat) (hg : grpOk g) (ha : a < BW) (hn : n < BW) (w : World) : Calls Try.prog 45 #[gV g, lv a, lv n] w fun e w' => e = .returned (.tuple #[lv (gM (mayG g a) (a ^ n % g.P)), .int .i64 (eM (mayG g a))]) ∧ Below w.heap.size w w' := by
  refine ((groups_Exp g a n).calls (g := noG) (vs := [gV g, lv a, lv n]) Try.func45 rfl (by kernel_rfl) ⟨_, _, rfl, gV_rel hg, _, _, rfl, lv_rel ha, _, _, rfl, lv_rel hn, rfl⟩ w).mono ?_
  rintro e w' ⟨v, rfl, hr, hb⟩
  exact ⟨by rw [(pair_rel hr).1], hb⟩
theorem mul_calls (a b m : Nat) (ha : a < BW) (hb : b < BW) (hm : m < BW) (w : World) : Calls Try.prog 75 #[lv a, lv b, lv m] w fun e w' => e = .returned (.tuple #[lv (gM (mayM a b m) (a * b % m)), .int .i64 (eM (mayM a b m))]) ∧ Below w.heap.size w w' := by
  refine ((mods_Mul a b m).calls (g := noG) (vs := [lv a, lv b, lv m]) Try.func75 rfl (by kernel_rfl) ⟨_, _, rfl, lv_rel ha, _, _, rfl, lv_rel hb, _, _, rfl, lv_rel hm, rfl⟩ w).mono ?_
  rintro e w' ⟨v, rfl, hr, hb⟩
  exact ⟨by rw [(pair_rel hr).1], hb⟩
theorem of_calls (n : Nat) (hn : n < 18446744073709551616) (w : World) : Calls Try.prog 53 #[.int .u64 (n : Int)] w fun e w' => e = .returned (lv n) ∧ Below w.heap.size w w' := by
  refine ((limbs_Of n).calls (g := noG) (vs := [.int .u64 (n : Int)]) Try.func53 rfl (by kernel_rfl) ⟨_, _, rfl, ⟨rfl, hasU.2 ⟨by omega, by omega⟩⟩, rfl⟩ w).mono ?_
  rintro e w' ⟨v, rfl, hr, hb⟩
  exact ⟨by rw [(rel_lv hr).1]; rfl, hb⟩
theorem cmp_calls (a b : Nat) (ha : a < BW) (hb : b < BW) (w : World) : Calls Try.prog 66 #[lv a, lv b] w fun e w' => e = .returned (.int .i64 (cmpN a b)) ∧ Below w.heap.size w w' := by
  refine ((limbs_Cmp a b).calls (g := noG) (vs := [lv a, lv b]) Try.func66 rfl (by kernel_rfl) ⟨_, _, rfl, lv_rel ha, _, _, rfl, lv_rel hb, rfl⟩ w).mono ?_
  rintro e w' ⟨v, rfl, hr, hb⟩
  exact ⟨by rw [show v = .int .i64 (cmpN a b) from hr.1], hb⟩

def stepV (g : Grp) (o : Nat) (x : NP) : Nat := o * (x.1.1 ^ x.1.2 % g.P) % g.P
def prodV (g : Grp) (zs : List NP) : Nat := zs.foldl (stepV g) 1
def allMay (g : Grp) (zs : List NP) : Bool := zs.all fun x => mayG g x.1.1
theorem prodV_snoc (g : Grp) (zs : List NP) (x : NP) : prodV g (zs ++ [x]) = stepV g (prodV g zs) x := by simp [prodV]
theorem allMay_snoc (g : Grp) (zs : List NP) (x : NP) : allMay g (zs ++ [x]) = (allMay g zs && mayG g x.1.1) := by simp [allMay]
theorem prodV_lt {g : Grp} (h : 1 < g.P) : ∀ (zs : List NP), prodV g zs < g.P := by
  intro zs
  rcases List.eq_nil_or_concat zs with rfl | ⟨ys, x, rfl⟩
  · exact h
  · rw [List.concat_eq_append, prodV_snoc]; exact Nat.mod_lt _ (by omega)

theorem cells_cell {W : World} {b : Nat} {cs : Array Value} {ty : TypeId} (h : W.heap[b]? = some (.cells cs ty)) (i : Nat) : W.cell? ⟨b, i, none⟩ = cs[i]? := by
  unfold World.cell?
  simp [h]
theorem cells_frozen {W : World} {b : Nat} {cs : Array Value} {ty : TypeId} (h : W.heap[b]? = some (.cells cs ty)) (i : Nat) : W.frozen? ⟨b, i, none⟩ = false := by
  unfold World.frozen?
  simp [h]
theorem grp_cells {W : World} {b : Nat} {g : Grp} {gs : Array Value} (hg : gV g = .agg gs) (h : W.heap[b]? = some (.cells gs 45)) :
    W.cell? ⟨b, 0, none⟩ = some (.int .u64 (limb 0 g.P)) ∧ W.cell? ⟨b, 1, none⟩ = some (.int .u64 (limb 1 g.P)) ∧ W.cell? ⟨b, 2, none⟩ = some (.int .u64 (limb 2 g.P)) ∧ W.cell? ⟨b, 3, none⟩ = some (.int .u64 (limb 3 g.P)) ∧
    W.cell? ⟨b, 4, none⟩ = some (.int .u64 (limb 0 g.Q)) ∧ W.cell? ⟨b, 5, none⟩ = some (.int .u64 (limb 1 g.Q)) ∧ W.cell? ⟨b, 6, none⟩ = some (.int .u64 (limb 2 g.Q)) ∧ W.cell? ⟨b, 7, none⟩ = some (.int .u64 (limb 3 g.Q)) ∧
    W.cell? ⟨b, 8, none⟩ = some (.int .u64 (limb 0 g.G)) ∧ W.cell? ⟨b, 9, none⟩ = some (.int .u64 (limb 1 g.G)) ∧ W.cell? ⟨b, 10, none⟩ = some (.int .u64 (limb 2 g.G)) ∧ W.cell? ⟨b, 11, none⟩ = some (.int .u64 (limb 3 g.G)) ∧
    W.cell? ⟨b, 12, none⟩ = some (.int .u64 (limb 0 g.H)) ∧ W.cell? ⟨b, 13, none⟩ = some (.int .u64 (limb 1 g.H)) ∧ W.cell? ⟨b, 14, none⟩ = some (.int .u64 (limb 2 g.H)) ∧ W.cell? ⟨b, 15, none⟩ = some (.int .u64 (limb 3 g.H)) := by
  injection hg with hg
  subst hg
  refine ⟨?_, ?_, ?_, ?_, ?_, ?_, ?_, ?_, ?_, ?_, ?_, ?_, ?_, ?_, ?_, ?_⟩ <;> exact cells_cell h _
theorem num_cells {W : World} {b n : Nat} {gs : Array Value} (hg : lv n = .agg gs) (h : W.heap[b]? = some (.cells gs 26)) :
    (W.cell? ⟨b, 0, none⟩ = some (.int .u64 (limb 0 n)) ∧ W.cell? ⟨b, 1, none⟩ = some (.int .u64 (limb 1 n)) ∧ W.cell? ⟨b, 2, none⟩ = some (.int .u64 (limb 2 n)) ∧ W.cell? ⟨b, 3, none⟩ = some (.int .u64 (limb 3 n))) ∧
    (W.frozen? ⟨b, 0, none⟩ = false ∧ W.frozen? ⟨b, 1, none⟩ = false ∧ W.frozen? ⟨b, 2, none⟩ = false ∧ W.frozen? ⟨b, 3, none⟩ = false) := by
  injection hg with hg
  subst hg
  exact ⟨⟨cells_cell h _, cells_cell h _, cells_cell h _, cells_cell h _⟩, cells_frozen h _, cells_frozen h _, cells_frozen h _, cells_frozen h _⟩

theorem cell_al {W : World} {b i : Nat} {v : Value} (o : Obj) (h : W.cell? ⟨b, i, none⟩ = some v) : (W.alloc o).cell? ⟨b, i, none⟩ = some v := by
  have hb : b < W.heap.size := by
    refine Classical.byContradiction fun hn => ?_
    unfold World.cell? at h
    simp [Array.getElem?_eq_none (show W.heap.size ≤ b by omega)] at h
  exact (World.cell?_of_block (w := W) (Below.heap_alloc W o b hb)).trans h
theorem heap_new (w : World) (o : Obj) : (w.alloc o).heap[w.heap.size]? = some o := World.alloc_heap_new w o
theorem one_alloc {w w' : World} {A : Obj} (hb : Below (w.alloc A).heap.size (w.alloc A) w') : (∀ k, k < w.heap.size → w'.heap[k]? = w.heap[k]?) ∧ w'.heap[w.heap.size]? = some A ∧ w.heap.size + 1 ≤ w'.heap.size ∧ Below w.heap.size w w' := by
  have hs := hb.size
  rw [World.size_alloc] at hs
  refine ⟨fun k hk => (hb.block k (by simp; omega)).trans (Below.heap_alloc w A k hk), (hb.block _ (by simp)).trans (heap_new w A), hs, ?_⟩
  exact ((Below.refl _ w).alloc (Nat.le_refl _) A).trans (hb.mono (by simp))
theorem three_allocs {w w' : World} {A B C : Obj} (hb : Below (((w.alloc A).alloc B).alloc C).heap.size (((w.alloc A).alloc B).alloc C) w') :
    w'.heap[w.heap.size]? = some A ∧ w'.heap[w.heap.size + 1]? = some B ∧ w'.heap[w.heap.size + 1 + 1]? = some C ∧ w.heap.size + 3 ≤ w'.heap.size ∧ Below w.heap.size w w' := by
  obtain ⟨h1, h2, h3, h4⟩ := one_alloc hb
  obtain ⟨h5, h6, h7, h8⟩ := one_alloc h4
  obtain ⟨h9, h10, h11, h12⟩ := one_alloc h8
  simp only [World.size_alloc] at *
  exact ⟨h10, h6, h2, by omega, h12⟩

abbrev lvA (n : Nat) : Array Value := #[.int .u64 (limb 0 n), .int .u64 (limb 1 n), .int .u64 (limb 2 n), .int .u64 (limb 3 n)]
abbrev z4 : Array Value := #[.int .u64 0, .int .u64 0, .int .u64 0, .int .u64 0]
abbrev gA (g : Grp) : Array Value := #[.int .u64 (limb 0 g.P), .int .u64 (limb 1 g.P), .int .u64 (limb 2 g.P), .int .u64 (limb 3 g.P), .int .u64 (limb 0 g.Q), .int .u64 (limb 1 g.Q), .int .u64 (limb 2 g.Q), .int .u64 (limb 3 g.Q),
  .int .u64 (limb 0 g.G), .int .u64 (limb 1 g.G), .int .u64 (limb 2 g.G), .int .u64 (limb 3 g.G), .int .u64 (limb 0 g.H), .int .u64 (limb 1 g.H), .int .u64 (limb 2 g.H), .int .u64 (limb 3 g.H)]
/-- The box B holds cs. -/
def Box (W : World) (B : Nat) (t : TypeId) (cs : Array Value) : Prop := W.heap[B]? = some (.cells cs t)
theorem Box.own {β : Type} (B : Nat) (t : TypeId) (f : β → Array Value) : Own (fun s W => Box W B t (f s)) := fun s X Y row hs hg hr =>
  (hg.block B (Array.getElem?_eq_some_iff.1 hs).1 (fun e => by obtain ⟨o, ho, hc⟩ := hr B e.symm; rw [show X.heap[B]? = _ from hs] at ho; cases ho; cases hc)).trans hs
theorem Box.lt {W : World} {B : Nat} {t : TypeId} {cs : Array Value} (h : Box W B t cs) : B < W.heap.size := (Array.getElem?_eq_some_iff.1 h).1
theorem Box.alloc {W : World} {B : Nat} {t : TypeId} {cs : Array Value} (h : Box W B t cs) (o : Obj) : Box (W.alloc o) B t cs := (Below.heap_alloc W o B h.lt).trans h
theorem Box.below {n : Nat} {W W' : World} {B : Nat} {t : TypeId} {cs : Array Value} (h : Box W B t cs) (hb : Below n W W') (hn : B < n) : Box W' B t cs := (hb.block B hn).trans h

theorem Box.set {W : World} {B i : Nat} {t : TypeId} {cs : Array Value} (h : Box W B t cs) (v : Value) (hi : i < cs.size) : Box (W.setCell ⟨B, i, none⟩ v) B t (cs.set i v hi) := by
  have hl := h.lt
  unfold Box at *
  simp only [World.setCell, Array.getElem?_modify, if_pos, h, Option.map_some]
  simp [hi, Array.setIfInBounds]
theorem Box.set4 {W : World} {B : Nat} {t : TypeId} {a b c d : Value} (h : Box W B t #[a, b, c, d]) (v0 v1 v2 v3 : Value) :
    Box ((((W.setCell ⟨B, 0, none⟩ v0).setCell ⟨B, 1, none⟩ v1).setCell ⟨B, 2, none⟩ v2).setCell ⟨B, 3, none⟩ v3) B t #[v0, v1, v2, v3] :=
  (((h.set (i := 0) v0 (show 0 < 4 by decide)).set (i := 1) v1 (show 1 < 4 by decide)).set (i := 2) v2 (show 2 < 4 by decide)).set (i := 3) v3 (show 3 < 4 by decide)
theorem Box.put {W : World} {B D : Nat} {t : TypeId} {cs : Array Value} {o : Obj} (h : Box W B t cs) (hD : W.heap[D]? = some o) (ho : o.isCells = false) (o' : Obj) : Box (W.putObj D o') B t cs :=
  Box.own B t (fun (_ : Unit) => cs) () W _ (some D) h (grownBy_putObj' W D o') (fun r e => by cases e; exact ⟨_, hD, ho⟩)
theorem Box.other {W : World} {B B' i : Nat} {t : TypeId} {cs : Array Value} (h : Box W B t cs) (v : Value) (hne : B ≠ B') : Box (W.setCell ⟨B', i, none⟩ v) B t cs := (Below.heap_setCell W _ v B hne).trans h
theorem Box.cellA {W : World} {B i : Nat} {t : TypeId} {cs : Array Value} {v : Value} (h : Box W B t cs) (hi : cs[i]? = some v) : W.cell? ⟨B, i, none⟩ = some v ∧ W.frozen? ⟨B, i, none⟩ = false := ⟨(cells_cell h i).trans hi, cells_frozen h i⟩
theorem keeps_below {W W' : World} (hb : Below W.heap.size W W') : KeepsOthers W W' := ⟨hb.size, fun k o hk _ => (hb.block k (Array.getElem?_eq_some_iff.1 hk).1).trans hk⟩

set_option maxRecDepth 100000 in
set_option maxHeartbeats 4000000 in
theorem product_in (n : Nat) (hn : 3 ≤ n) (g : Grp) (hg : grpOk g) (hP : 1 < g.P) (va vn : Value) (zs : List NP) (hreach : zs.length * 32 ≤ 140737488351232) (w : World) (hA : Nums w.heap.size w va (·.1.1) zs) (hN : Nums w.heap.size w vn (·.1.2) zs) :
    CallsIn (FW none) n Try.prog 79 #[gV g, va, vn] w fun e w' => e = .returned (.tuple #[lv (gM (allMay g zs) (prodV g zs)), .int .i64 (eM (allMay g zs))]) ∧ Below w.heap.size w w' := by
  obtain ⟨aa, ca, rfl, hA1⟩ := hA
  obtain ⟨an, cn, rfl, hN1⟩ := hN
  have h1 : 1 ≤ n := by omega
  have hro : (FW none).round = none := rfl
  refine callsIn_of_wp_marks Try.func79 rfl trivial ?_ hro
  simp only [Try.ntmps79, List.size_toArray, List.length_cons, List.length_nil, Nat.reduceAdd, Nat.reduceSub, Array.replicate_succ, Array.replicate_zero, List.push_toArray, List.append_toArray, List.nil_append, List.cons_append]
  gi_wp2
  refine ⟨trivial, ?_⟩
  gi_at_call 53
  refine (callsIn_FW (of_calls 1 (by omega) _)).mono ?_
  rintro e w1 ⟨rfl, hb⟩
  obtain ⟨e0, e1, e2, hs1, hB1⟩ := three_allocs hb
  obtain ⟨c0, c1, c2, c3, c4, c5, c6, c7, c8, c9, c10, c11, c12, c13, c14, c15⟩ := grp_cells (g := g) rfl e0
  clear hb
  have a0 := fun o => cell_al o c0
  have a1 := fun o => cell_al o c1
  have a2 := fun o => cell_al o c2
  have a3 := fun o => cell_al o c3
  gi_wp2
  refine ⟨trivial, ?_⟩
  gi_at_call 66
  refine (callsIn_FW (cmp_calls g.P 1 hg.1 (by decide) _)).mono ?_
  rintro e w2 ⟨rfl, hb⟩
  have hcmp : cmpN g.P 1 = 1 := by unfold cmpN; rw [if_neg (by omega), if_neg (by omega)]
  rw [hcmp]
  obtain ⟨g0, g1, g2, g3⟩ := one_alloc hb
  clear hb
  gi_wp2
  refine ⟨trivial, ?_⟩
  gi_at_call 146
  refine (pairs_in (n - 1) aa an zs.length ca zs.length cn w2).mono ?_
  rintro e w3 ⟨rfl, rfl⟩
  gi_wp2
  have k0 : Box w2 w.heap.size 45 (gA g) := (g0 _ (by omega)).trans e0
  have k1 : Box w2 (w.heap.size + 1) 26 z4 := (g0 _ (by omega)).trans e1
  have k2 : Box w2 (w.heap.size + 1 + 1) 29 #[.int .i64 0] := (g0 _ (by omega)).trans e2
  have k3 : Box w2 w1.heap.size 26 (lvA 1) := g1
  have kB : Below w.heap.size w w2 := hB1.trans (g3.mono (by omega))
  obtain ⟨W0, hW0⟩ : ∃ W0, ((w2.alloc (.cells #[.slice aa zs.length ca] 95)).alloc (.cells #[.slice an zs.length cn] 95)) = W0 := ⟨_, rfl⟩
  have hsz : W0.heap.size = w2.heap.size + 2 := by rw [← hW0]; simp
  replace k0 : Box W0 w.heap.size 45 (gA g) := by rw [← hW0]; exact (k0.alloc _).alloc _
  replace k1 : Box W0 (w.heap.size + 1) 26 z4 := by rw [← hW0]; exact (k1.alloc _).alloc _
  replace k2 : Box W0 (w.heap.size + 1 + 1) 29 #[.int .i64 0] := by rw [← hW0]; exact (k2.alloc _).alloc _
  replace k3 : Box W0 w1.heap.size 26 (lvA 1) := by rw [← hW0]; exact (k3.alloc _).alloc _
  have kA : Box W0 w2.heap.size 95 #[.slice aa zs.length ca] := by rw [← hW0]; exact Box.alloc (heap_new w2 _) _
  have kN : Box W0 (w2.heap.size + 1) 95 #[.slice an zs.length cn] := by
    rw [← hW0]
    have := heap_new (w2.alloc (.cells #[.slice aa zs.length ca] 95)) (.cells #[.slice an zs.length cn] 95)
    rwa [World.size_alloc] at this
  replace kB : Below w.heap.size w W0 := by rw [← hW0]; exact (kB.alloc kB.size _).alloc (by have := kB.size; simp; omega) _
  rw [hW0]
  clear hW0
  refine wpIn_rangeFunc_ownH (show (FW none).round = none from rfl) h1 (gf := 185) (lb := #[.pointer (some ⟨w2.heap.size, 0, none⟩), .pointer (some ⟨w2.heap.size + 1, 0, none⟩)]) rfl trivial (enters_of Try.func185 (by kernel_rfl) rfl)
    (pairs_stops (n - 1) (by omega) w2.heap.size (w2.heap.size + 1) w.heap.size (.slice aa zs.length ca) (.slice an zs.length cn) zs hreach W0 (by omega) (by omega) kB.size (cells_cell kA 0) (cells_cell kN 0) (Nums.below kB ⟨aa, ca, rfl, hA1⟩) (Nums.below kB ⟨an, cn, rfl, hN1⟩))
    KP.trans (fun W l o o' hl ho hc hw => ⟨belowK_b kB.size W l o o' hl ho hc hw, ?kba, ?kbn⟩) (Below.refl _ _) (fun _ => rfl)
    (fun pre W => ((((Box W w.heap.size 45 (gA g) ∧ Box W (w.heap.size + 1) 26 z4) ∧ Box W (w.heap.size + 1 + 1) 29 #[.int .i64 0]) ∧ Box W w1.heap.size 26 (lvA (prodV g pre))) ∧ allMay g pre = true) ∧ (Below w.heap.size w W ∧ W0.heap.size ≤ W.heap.size))
    (fun c pre W => (((c = .ret ∧ allMay g pre = false) ∧ Box W (w.heap.size + 1) 26 z4) ∧ Box W (w.heap.size + 1 + 1) 29 #[.int .i64 1]) ∧ Below w.heap.size w W)
    (OwnFrom.and (OwnFrom.and (OwnFrom.and (OwnFrom.and (OwnFrom.and (Own.from (Box.own _ _ _) _) (Own.from (Box.own _ _ _) _)) (Own.from (Box.own _ _ _) _)) (Own.from (Box.own _ _ _) _)) (ownFrom_pure _ _)) (OwnFrom.and (ownFrom_below (Nat.le_refl _) kB.size) (fun _ _ _ _ hs hg _ => Nat.le_trans hs hg.size)))
    (fun c => OwnFrom.and (OwnFrom.and (OwnFrom.and (ownFrom_pure _ _) (Own.from (Box.own _ _ _) _)) (Own.from (Box.own _ _ _) _)) (ownFrom_below (Nat.le_refl _) kB.size))
    ⟨⟨⟨⟨⟨k0, k1⟩, k2⟩, k3⟩, rfl⟩, kB, Nat.le_refl _⟩
    (fun x a' W => ∃ B4 B5, (w1.heap.size < B4 ∧ w1.heap.size < B5) ∧ Box W B4 26 (lvA x.1.1) ∧ Box W B5 26 (lvA x.1.2) ∧ a' = { tmps := #[gV g, .slice aa zs.length ca, .slice an zs.length cn, .pointer (some ⟨w.heap.size, 0, none⟩), undef, undef, .pointer (some ⟨w.heap.size + 1, 0, none⟩), .pointer (some ⟨w.heap.size + 1 + 1, 0, none⟩), .pointer (some ⟨w1.heap.size, 0, none⟩), .pointer (some ⟨B4, 0, none⟩), .pointer (some ⟨B5, 0, none⟩), undef, undef, lv 1, .pointer (some ⟨w.heap.size, 0, none⟩), lv g.P, lv 1, .int .i64 1, .bool false, .bool false, .slice aa zs.length ca, .int .i64 zs.length, .slice an zs.length cn, .int .i64 zs.length, .bool false, .bool false, undef, .slice aa zs.length ca, .slice an zs.length cn, .func (.func 185) #[] #[.pointer (some ⟨w2.heap.size, 0, none⟩), .pointer (some ⟨w2.heap.size + 1, 0, none⟩)], lv x.1.1, lv x.1.2, undef, undef, undef, undef, undef, undef, undef, undef, undef, undef, undef, undef, undef, undef, undef, undef, undef, undef, undef, undef], defers := [] })
    (fun x a' _ X Y row hs hg hr => by
      obtain ⟨B4, B5, h1, h2, h3, h4⟩ := hs
      exact ⟨B4, B5, h1, Box.own B4 26 (fun (_ : Unit) => lvA x.1.1) () X Y row h2 hg (fun r e => (hr r e).2), Box.own B5 26 (fun (_ : Unit) => lvA x.1.2) () X Y row h3 hg (fun r e => (hr r e).2), h4⟩)
    ?assign ?body ?done ?stop
  case kba => exact (grownBy_putObj' W l o').block _ (by have := (Array.getElem?_eq_some_iff.1 ho).1; omega) (by simp; omega)
  case kbn => exact (grownBy_putObj' W l o').block _ (by have := (Array.getElem?_eq_some_iff.1 ho).1; omega) (by simp; omega)
  case assign =>
    rintro l pre x W K ⟨⟨⟨⟨⟨b0, b1⟩, b2⟩, b3⟩, hp⟩, hB, hsW⟩ hK
    gi_wp2
    refine hK _ _ (((KeepsOthers.alloc _ _).from _).trans ((KeepsOthers.alloc _ _).from _)) ⟨((Below.refl _ W).alloc hB.size _).alloc (by have := hB.size; simp; omega) _, ?_, ?_⟩
      ⟨⟨⟨⟨⟨(b0.alloc _).alloc _, (b1.alloc _).alloc _⟩, (b2.alloc _).alloc _⟩, (b3.alloc _).alloc _⟩, hp⟩, (hB.alloc hB.size _).alloc (by have := hB.size; simp; omega) _, by simp; omega⟩
      ⟨W.heap.size, W.heap.size + 1, ⟨b3.lt, by have := b3.lt; omega⟩, Box.alloc (heap_new W _) _, ?_, rfl⟩
    · exact (Below.heap_alloc _ _ _ (by simp; omega)).trans (Below.heap_alloc _ _ _ (by omega))
    · exact (Below.heap_alloc _ _ _ (by simp; omega)).trans (Below.heap_alloc _ _ _ (by omega))
    · have := heap_new (W.alloc (.cells (lvA x.1.1) 26)) (.cells (lvA x.1.2) 26)
      rwa [World.size_alloc] at this
  case body =>
    rintro l pre x a' W hl ⟨r, hr⟩ ⟨⟨⟨⟨⟨b0, b1⟩, b2⟩, b3⟩, hp⟩, hB, hsW⟩ ⟨B4, B5, ⟨h4, h5⟩, b4, b5, rfl⟩ hlt
    obtain ⟨c0, c1, c2, c3, c4, c5, c6, c7, c8, c9, c10, c11, c12, c13, c14, c15⟩ := grp_cells (g := g) rfl b0
    obtain ⟨⟨d0, d1, d2, d3⟩, _⟩ := num_cells (n := x.1.1) rfl b4
    obtain ⟨⟨f0, f1, f2, f3⟩, _⟩ := num_cells (n := x.1.2) rfl b5
    have h1' : 1 ≤ n - 1 - 1 := by omega
    gi_wp2
    refine ⟨trivial, ?_⟩
    gi_at_call 45
    refine (CallsIn.inRound l (callsIn_FW (exp_calls g x.1.1 x.1.2 hg x.2.1 x.2.2 _))).mono ?_
    rintro e w4 ⟨rfl, hb⟩
    have p0 := b0.below hb b0.lt
    have p1 := b1.below hb b1.lt
    have p2 := b2.below hb b2.lt
    have p3 := b3.below hb b3.lt
    have r0 := fun o => ((p0.alloc o).cellA (i := 0) rfl).1
    have r1 := fun o => ((p0.alloc o).cellA (i := 1) rfl).1
    have r2 := fun o => ((p0.alloc o).cellA (i := 2) rfl).1
    have r3 := fun o => ((p0.alloc o).cellA (i := 3) rfl).1
    have hsw := hb.size
    cases hm : mayG g x.1.1 with
    | false =>
      simp only [gM, eM]
      have s0 := fun o => (p1.alloc o).cellA (i := 0) rfl
      have s1 := fun o => (p1.alloc o).cellA (i := 1) rfl
      have s2 := fun o => (p1.alloc o).cellA (i := 2) rfl
      have s3 := fun o => (p1.alloc o).cellA (i := 3) rfl
      have s4 := fun o => (p2.alloc o).cellA (i := 0) rfl
      simp only [forall_and] at s0 s1 s2 s3 s4
      obtain ⟨s00, s01⟩ := s0
      obtain ⟨s10, s11⟩ := s1
      obtain ⟨s20, s21⟩ := s2
      obtain ⟨s30, s31⟩ := s3
      obtain ⟨s40, s41⟩ := s4
      gi_wp2
      have hBw : Below w.heap.size w w4 := hB.trans (hb.mono hB.size)
      have hle := hB.size
      refine ⟨((keeps_below hb).from _).trans (((KeepsOthers.alloc _ _).from _).trans ((((((KeepsOthers.setCell _ _ _).trans (KeepsOthers.setCell _ _ _)).trans (KeepsOthers.setCell _ _ _)).trans (KeepsOthers.setCell _ _ _)).trans (KeepsOthers.setCell _ _ _)).from _)), ⟨⟨⟨rfl, by rw [allMay_snoc, hm, Bool.and_false]⟩, ?_⟩, ?_⟩, ?_⟩
      · exact (((((p1.alloc _).set (i := 0) (.int .u64 0) (by decide)).set (i := 1) (.int .u64 0) (by decide)).set (i := 2) (.int .u64 0) (by decide)).set (i := 3) (.int .u64 0) (by decide)).other _ (by omega)
      · exact (((((p2.alloc _).other _ (by omega)).other _ (by omega)).other _ (by omega)).other _ (by omega)).set (i := 0) (.int .i64 1) (by decide)
      · exact (((((hBw.alloc (by omega) _).setCell (p := ⟨w.heap.size + 1, 0, none⟩) (by simp) _).setCell (p := ⟨w.heap.size + 1, 1, none⟩) (by simp) _).setCell (p := ⟨w.heap.size + 1, 2, none⟩) (by simp) _).setCell (p := ⟨w.heap.size + 1, 3, none⟩) (by simp) _).setCell (p := ⟨w.heap.size + 1 + 1, 0, none⟩) (by simp; omega) _
    | true =>
      simp only [gM, eM]
      have s0 := fun o => ((p3.alloc o).cellA (i := 0) rfl).1
      have s1 := fun o => ((p3.alloc o).cellA (i := 1) rfl).1
      have s2 := fun o => ((p3.alloc o).cellA (i := 2) rfl).1
      have s3 := fun o => ((p3.alloc o).cellA (i := 3) rfl).1
      gi_wp2
      have hyP : x.1.1 ^ x.1.2 % g.P < g.P := Nat.mod_lt _ (by omega)
      have hoP := prodV_lt hP pre
      have hPB := hg.1
      refine ⟨trivial, ?_⟩
      gi_at_call 75
      refine (CallsIn.inRound l (callsIn_FW (mul_calls (prodV g pre) (x.1.1 ^ x.1.2 % g.P) g.P (by omega) (by omega) hg.1 _))).mono ?_
      rintro e w5 ⟨rfl, hb5⟩
      have hM : mayM (prodV g pre) (x.1.1 ^ x.1.2 % g.P) g.P = true := by unfold mayM; simp; omega
      rw [hM]
      simp only [gM, eM]
      obtain ⟨m0, m1, m2, m3⟩ := one_alloc hb5
      have q0 : Box w5 w.heap.size 45 (gA g) := (m0 _ p0.lt).trans p0
      have q1 : Box w5 (w.heap.size + 1) 26 z4 := (m0 _ p1.lt).trans p1
      have q2 : Box w5 (w.heap.size + 1 + 1) 29 #[.int .i64 0] := (m0 _ p2.lt).trans p2
      have q3 : Box w5 w1.heap.size 26 (lvA (prodV g pre)) := (m0 _ p3.lt).trans p3
      obtain ⟨t00, t01⟩ := q3.cellA (i := 0) rfl
      obtain ⟨t10, t11⟩ := q3.cellA (i := 1) rfl
      obtain ⟨t20, t21⟩ := q3.cellA (i := 2) rfl
      obtain ⟨t30, t31⟩ := q3.cellA (i := 3) rfl
      gi_wp2
      have hv : prodV g (pre ++ [x]) = prodV g pre * x.1.1 ^ x.1.2 % g.P := by rw [prodV_snoc]; unfold stepV; rw [Nat.mul_mod_mod]
      have hle := hB.size
      have hBw : Below w.heap.size w w5 := (hB.trans (hb.mono hB.size)).trans (m3.mono (by omega))
      have hb3 := b3.lt
      have hks : ∀ {k : Nat}, k ≠ w1.heap.size → k < W.heap.size → ∀ (v0 v1 v2 v3 : Value), ((((w5.setCell ⟨w1.heap.size, 0, none⟩ v0).setCell ⟨w1.heap.size, 1, none⟩ v1).setCell ⟨w1.heap.size, 2, none⟩ v2).setCell ⟨w1.heap.size, 3, none⟩ v3).heap[k]? = W.heap[k]? := fun {k} hk hl v0 v1 v2 v3 => by
        rw [Below.heap_setCell _ _ _ _ hk, Below.heap_setCell _ _ _ _ hk, Below.heap_setCell _ _ _ _ hk, Below.heap_setCell _ _ _ _ hk, m0 k (by omega), hb.block k hl]
      refine ⟨((keeps_below hb).from _).trans (((keeps_below m3).from _).trans (((((KeepsOthers.setCell _ _ _).trans (KeepsOthers.setCell _ _ _)).trans (KeepsOthers.setCell _ _ _)).trans (KeepsOthers.setCell _ _ _)).from _)), ⟨?_, hks (by omega) (by omega) _ _ _ _, hks (by omega) (by omega) _ _ _ _⟩, ⟨⟨⟨⟨⟨?_, ?_⟩, ?_⟩, ?_⟩, by rw [allMay_snoc, hp, hm]; rfl⟩, ?_, ?_⟩⟩
      · exact (((((hb.mono hle).trans (m3.mono (by omega))).setCell (p := ⟨w1.heap.size, 0, none⟩) (by simp; omega) _).setCell (p := ⟨w1.heap.size, 1, none⟩) (by simp; omega) _).setCell (p := ⟨w1.heap.size, 2, none⟩) (by simp; omega) _).setCell (p := ⟨w1.heap.size, 3, none⟩) (by simp; omega) _
      · exact (((q0.other _ (by omega)).other _ (by omega)).other _ (by omega)).other _ (by omega)
      · exact (((q1.other _ (by omega)).other _ (by omega)).other _ (by omega)).other _ (by omega)
      · exact (((q2.other _ (by omega)).other _ (by omega)).other _ (by omega)).other _ (by omega)
      · rw [hv]
        exact q3.set4 _ _ _ _
      · exact (((hBw.setCell (p := ⟨w1.heap.size, 0, none⟩) (by simp; omega) _).setCell (p := ⟨w1.heap.size, 1, none⟩) (by simp; omega) _).setCell (p := ⟨w1.heap.size, 2, none⟩) (by simp; omega) _).setCell (p := ⟨w1.heap.size, 3, none⟩) (by simp; omega) _
      · simp only [World.setCell, Array.size_modify]; omega
  case done =>
    rintro D ys W hD rfl ⟨⟨⟨⟨⟨b0, b1⟩, b2⟩, b3⟩, hp⟩, hB, hsW⟩ hK
    obtain ⟨t00, t01⟩ := b3.cellA (i := 0) rfl
    obtain ⟨t10, t11⟩ := b3.cellA (i := 1) rfl
    obtain ⟨t20, t21⟩ := b3.cellA (i := 2) rfl
    obtain ⟨t30, t31⟩ := b3.cellA (i := 3) rfl
    obtain ⟨u00, u01⟩ := b1.cellA (i := 0) rfl
    obtain ⟨u10, u11⟩ := b1.cellA (i := 1) rfl
    obtain ⟨u20, u21⟩ := b1.cellA (i := 2) rfl
    obtain ⟨u30, u31⟩ := b1.cellA (i := 3) rfl
    obtain ⟨v00, v01⟩ := b2.cellA (i := 0) rfl
    gi_wp2
    have hK' := (((((KeepsOthers.setCell W ⟨w.heap.size + 1, 0, none⟩ (.int .u64 (limb 0 (prodV g ys)))).trans (KeepsOthers.setCell _ ⟨w.heap.size + 1, 1, none⟩ (.int .u64 (limb 1 (prodV g ys))))).trans (KeepsOthers.setCell _ ⟨w.heap.size + 1, 2, none⟩ (.int .u64 (limb 2 (prodV g ys))))).trans (KeepsOthers.setCell _ ⟨w.heap.size + 1, 3, none⟩ (.int .u64 (limb 3 (prodV g ys))))).trans (KeepsOthers.setCell _ ⟨w.heap.size + 1 + 1, 0, none⟩ (.int .i64 0))).same D _ hK rfl
    refine ⟨by simp, .inl ⟨_, _, rfl, run_takeDeferred hK', ?_⟩⟩
    have y1 := (((b1.set4 (.int .u64 (limb 0 (prodV g ys))) (.int .u64 (limb 1 (prodV g ys))) (.int .u64 (limb 2 (prodV g ys))) (.int .u64 (limb 3 (prodV g ys)))).other (B' := w.heap.size + 1 + 1) (i := 0) (.int .i64 0) (by omega)).put hK' rfl (.deferred none))
    have y2 := (((((b2.other (B' := w.heap.size + 1) (i := 0) (.int .u64 (limb 0 (prodV g ys))) (by omega)).other (B' := w.heap.size + 1) (i := 1) (.int .u64 (limb 1 (prodV g ys))) (by omega)).other (B' := w.heap.size + 1) (i := 2) (.int .u64 (limb 2 (prodV g ys))) (by omega)).other (B' := w.heap.size + 1) (i := 3) (.int .u64 (limb 3 (prodV g ys))) (by omega)).set (i := 0) (.int .i64 0) (by decide)).put hK' rfl (.deferred none)
    have x0 := (y1.cellA (i := 0) rfl).1
    have x1 := (y1.cellA (i := 1) rfl).1
    have x2 := (y1.cellA (i := 2) rfl).1
    have x3 := (y1.cellA (i := 3) rfl).1
    have x4 := (y2.cellA (i := 0) rfl).1
    refine ⟨.tuple #[lv (prodV g ys), .int .i64 0], ?_, by rw [hp]; rfl, ?_⟩
    · simp [results, Try.f79, go_sem, x0, x1, x2, x3, x4]
    · exact ((((((hB.setCell (p := ⟨w.heap.size + 1, 0, none⟩) (by simp) _).setCell (p := ⟨w.heap.size + 1, 1, none⟩) (by simp) _).setCell (p := ⟨w.heap.size + 1, 2, none⟩) (by simp) _).setCell (p := ⟨w.heap.size + 1, 3, none⟩) (by simp) _).setCell (p := ⟨w.heap.size + 1 + 1, 0, none⟩) (by simp; omega) _)).trans (belowK_b (w := w) (Nat.le_refl _) _ D _ _ (by have := kB.size; omega) hK' rfl rfl)
  case stop =>
    rintro D c pre W hD hpre ⟨⟨⟨⟨rfl, hp⟩, b1⟩, b2⟩, hB⟩ hK
    gi_wp2
    refine ⟨by simp, .inl ⟨_, _, rfl, run_takeDeferred hK, ?_⟩⟩
    have y1 := b1.put hK rfl (.deferred none)
    have y2 := b2.put hK rfl (.deferred none)
    have x0 := (y1.cellA (i := 0) rfl).1
    have x1 := (y1.cellA (i := 1) rfl).1
    have x2 := (y1.cellA (i := 2) rfl).1
    have x3 := (y1.cellA (i := 3) rfl).1
    have x4 := (y2.cellA (i := 0) rfl).1
    have hz : allMay g zs = false := by
      obtain ⟨t, rfl⟩ := hpre
      unfold allMay at *
      rw [List.all_append, hp, Bool.false_and]
    refine ⟨.tuple #[lv 0, .int .i64 1], ?_, by rw [hz]; rfl, ?_⟩
    · simp [results, Try.f79, go_sem, x0, x1, x2, x3, x4, limb]
    · exact hB.trans (belowK_b (w := w) (Nat.le_refl _) W D _ _ (by have := kB.size; omega) hK rfl rfl)
end Go.Proofs.Ytacjiajijigebaa
