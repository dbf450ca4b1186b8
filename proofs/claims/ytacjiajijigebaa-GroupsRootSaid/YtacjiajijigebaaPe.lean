/- A product of powers in a group, as the evaluator is told of it. No condition. -/
import Derived.Test.YtacjiajijigebaaPd
import Derived.Test.YtacjiajijigebaaCk
namespace Go.Proofs.Ytacjiajijigebaa
open Go Go.Ev Go.RowKit

theorem rel_gV {m : GM} {g : Grp} {v : Value} (h : AB.rel m (aG g) v) : v = gV g ∧ grpOk g := by
  obtain ⟨a, rfl, u0, r0, e0, ⟨h0, rfl⟩, u1, r1, rfl, ⟨h1, rfl⟩, u2, r2, rfl, ⟨h2, rfl⟩, u3, r3, rfl, ⟨h3, rfl⟩, rfl⟩ := h
  obtain ⟨l⟩ := a
  simp only [List.append_nil] at e0
  subst e0
  exact ⟨rfl, h0, h1, h2, h3⟩
theorem tup_rel {g : GM} {n : Nat} {e : Int} (h : n < BW) (he : IntKind.has .i64 e) : AV.rel g (.tup [aN n, aI e]) (.tuple #[lv n, .int .i64 e]) :=
  ⟨_, rfl, _, _, rfl, lv_rel h, _, _, rfl, ⟨rfl, he⟩, rfl⟩

/-- A row of two numbers in a block. -/
theorem two_nums {S : Nat → Prop} {w0 w : World} {g : GM} {b : BR} {a a' : Nat} {mk : Nat} (h : BlkRel S w0 g w b ([.num a, .num a'], mk)) :
    (a < BW ∧ a' < BW) ∧ (∀ j, j < 4 → w.cell? ⟨b.b, 0 + 0 * 4 + j, none⟩ = some (.int .u64 (limb j a))) ∧ ∀ j, j < 4 → w.cell? ⟨b.b, 0 + 1 * 4 + j, none⟩ = some (.int .u64 (limb j a')) := by
  obtain ⟨_, h⟩ := h
  rcases h with h | ⟨cs, ty, fz, us, rest, h1, _, h2, h3, _⟩
  · cases h
  obtain ⟨u0, r0, rfl, ⟨q0, rfl⟩, u1, r1, rfl, ⟨q1, rfl⟩, rfl⟩ := h3
  obtain ⟨cs⟩ := cs
  simp only at h2
  subst h2
  have hc : ∀ i, w.cell? ⟨b.b, i, none⟩ = (limbs a ++ (limbs a' ++ []) ++ rest)[i]? := fun i => by
    unfold World.cell?
    simp [h1]
  refine ⟨⟨q0, q1⟩, fun j hj => ?_, fun j hj => ?_⟩ <;> rw [hc] <;> (match j, hj with
    | 0, _ => rfl
    | 1, _ => rfl
    | 2, _ => rfl
    | 3, _ => rfl)

theorem product_two (g : Grp) (a a' x x' l l2 c c2 mk mk2 : Nat) (mem : List Blk) (hP : 1 < g.P) (hm : bnth mem l = some ([.num a, .num a'], mk)) (hm2 : bnth mem l2 = some ([.num x, .num x'], mk2)) (S : Nat → Prop) (w0 : World) :
    CallOk Try.prog S w0 79 [aG g, .cv (.sl l 0 0 2 c), .cv (.sl l2 0 0 2 c2)] mem [l, l2]
      (.tup [aN (gM (mayG g a && mayG g a') (a ^ x % g.P * (a' ^ x' % g.P) % g.P)), aI (eM (mayG g a && mayG g a'))]) noEff := by
  rw [bnth_eq] at hm hm2
  intro m w vs hv hrd hgw hfr hij
  obtain ⟨v0, vs1, rfl, r0, v1, vs2, rfl, r1, v2, vs3, rfl, r2, rfl⟩ := hv
  obtain ⟨rfl, hg⟩ := rel_gV r0
  rcases r1 with ⟨h, _⟩ | ⟨_, cap, _, _, b, hb, _, rfl⟩
  · cases h
  rcases r2 with ⟨h, _⟩ | ⟨_, cap2, _, _, b2, hb2, _, rfl⟩
  · cases h
  obtain ⟨⟨ha, ha'⟩, d0, d1⟩ := two_nums (hrd l (by simp) b _ hb hm)
  obtain ⟨⟨hx, hx'⟩, f0, f1⟩ := two_nums (hrd l2 (by simp) b2 _ hb2 hm2)
  refine .inr ⟨callFunc_enter Try.func79 rfl (by kernel_rfl) _ w, ?_⟩
  have key := product_in 3 (Nat.le_refl _) g hg hP (.slice (some ⟨b.b, 0, none⟩) 2 cap) (.slice (some ⟨b2.b, 0, none⟩) 2 cap2) [⟨(a, x), ha, hx⟩, ⟨(a', x'), ha', hx'⟩] (by simp) w
    ⟨_, _, rfl, .inr ⟨b.b, 0, rfl, hgw.own l b hb, fun k y hk j hj => ?_⟩⟩ ⟨_, _, rfl, .inr ⟨b2.b, 0, rfl, hgw.own l2 b2 hb2, fun k y hk j hj => ?_⟩⟩
  · refine (callsIn_wide.1 (show CallsIn Fence.wide 3 _ _ _ _ _ from key)).mono ?_
    rintro e w' ⟨rfl, hB⟩
    have e1 : allMay g [⟨(a, x), ha, hx⟩, ⟨(a', x'), ha', hx'⟩] = (mayG g a && mayG g a') := by simp [allMay]
    have e2 : prodV g [⟨(a, x), ha, hx⟩, ⟨(a', x'), ha', hx'⟩] = a ^ x % g.P * (a' ^ x' % g.P) % g.P := by
      simp [prodV, stepV]
    rw [e1, e2]
    refine ⟨_, m, rfl, tup_rel ?_ ?_, Post.pure hgw ⟨hB.os, hB.tape, hB.output, hB.size, fun k hk _ => hB.block k hk⟩⟩
    · have : a ^ x % g.P * (a' ^ x' % g.P) % g.P < g.P := Nat.mod_lt _ (by omega)
      have := hg.1
      cases (mayG g a && mayG g a') <;> simp only [gM]
      · decide
      · omega
    · cases (mayG g a && mayG g a') <;> (simp only [eM]; exact ⟨by decide, by decide⟩)
  · match k, hk with
    | 0, hk => cases hk; exact d0 j hj
    | 1, hk => cases hk; exact d1 j hj
  · match k, hk with
    | 0, hk => cases hk; exact f0 j hj
    | 1, hk => cases hk; exact f1 j hj
def productTwoK : Known Try.prog :=
  ⟨79, fun args mem => match args with
    | [.agg [.num p, .num q, .num u, .num v], .cv (.sl l 0 0 2 _), .cv (.sl l2 0 0 2 _)] => match bnth mem l, bnth mem l2 with
      | some ([.num a, .num a'], _), some ([.num x, .num x'], _) => some (1 < p, .tup [aN (gM (mayG ⟨p, q, u, v⟩ a && mayG ⟨p, q, u, v⟩ a') (a ^ x % p * (a' ^ x' % p) % p)), aI (eM (mayG ⟨p, q, u, v⟩ a && mayG ⟨p, q, u, v⟩ a'))], noEff, [l, l2])
      | _, _ => none
    | _ => none, fun args mem q r e rd hm hq S w0 => by
    split at hm
    · split at hm
      · rename_i hb hb2
        simp only [Option.some.injEq, Prod.mk.injEq] at hm
        obtain ⟨rfl, rfl, rfl, rfl⟩ := hm
        exact product_two ⟨_, _, _, _⟩ _ _ _ _ _ _ _ _ _ _ mem hq hb hb2 S w0
      · cases hm
    · cases hm⟩

set_option maxRecDepth 20000 in
theorem product_bad (g : Grp) (aa ab : Option Addr) (n c n2 c2 : Nat) (h : n ≠ n2 ∨ g.P ≤ 1) (hm : n ≤ 9223372036854775807) (hm2 : n2 ≤ 9223372036854775807) : PureOk Try.prog 79 [aG g, .cv (.v (.slice aa n c)), .cv (.v (.slice ab n2 c2))] (.tup [aN 0, aI 1]) := by
  obtain ⟨P, Q, G, H⟩ := g
  refine pure_of_ev (cxK [limbsOfK, limbsCmpK]) Try.func79 rfl (by kernel_rfl) (Nat.le_of_ble_eq_true rfl) ⟨trivial, rfl, rfl, trivial⟩ ⟨trivial, rfl, trivial⟩ fun hf w => ?_
  refine ⟨trivial, trivial, ?_⟩
  conv => whnf
  refine brk (fun h1 => ?_) (fun h1 => ?_) <;> replace h1 : (!iltB 0 (cmpN P 1)) = _ := h1 <;> rw [cmp_0lt] at h1 <;> simp only [Bool.not_eq_true', Bool.not_eq_false', decide_eq_true_eq, decide_eq_false_iff_not] at h1
  · exact ⟨rfl, rfl, trivial⟩
  · have hn : n ≠ n2 := h.resolve_right (by show ¬ P ≤ 1; omega)
    conv => whnf
    refine brkT (Nat.ble_eq_true_of_le hm) ?_
    conv => whnf
    refine brkT (Nat.ble_eq_true_of_le hm2) ?_
    conv => whnf
    refine brkT (by show (!ieqB (n : Int) (n2 : Int)) = true; rw [ieqB_eq]; simp; omega) ?_
    exact ⟨rfl, rfl, trivial⟩

/-- Slices of unlike lengths, or a bad group. -/
theorem product_unlike (g : Grp) (l n c : Nat) (mem : List Blk) (h : n ≠ 0) (S : Nat → Prop) (w0 : World) :
    CallOk Try.prog S w0 79 [aG g, .cv (.sl l 0 0 n c), .cv (.v (.slice none 0 0))] mem [] (.tup [aN 0, aI 1]) noEff := by
  intro m w vs hv
  obtain ⟨v0, vs1, rfl, r0, v1, vs2, rfl, r1, v2, vs3, rfl, r2, rfl⟩ := hv
  rcases r1 with ⟨h0, _⟩ | ⟨q1, cap, q2, q3, b, hb, _, rfl⟩
  · exact absurd h0 h
  · exact (CallOk.of_pure (product_bad g (some ⟨b.b, 0 + 0, none⟩) none n cap 0 0 (.inl h) (by omega) (by omega))) m w _ ⟨_, _, rfl, r0, _, _, rfl, rfl, _, _, rfl, r2, rfl⟩
def productUnlikeK : Known Try.prog :=
  ⟨79, fun args _ => match args with
    | [.agg [.num p, .num q, .num u, .num v], .cv (.sl _ 0 0 n _), .cv (.v (.slice none 0 0))] => some (n ≠ 0, .tup [aN 0, aI 1], noEff, [])
    | _ => none, fun args mem q r e rd hm hq S w0 => by
    split at hm
    · simp only [Option.some.injEq, Prod.mk.injEq] at hm
      obtain ⟨rfl, rfl, rfl, rfl⟩ := hm
      exact product_unlike ⟨_, _, _, _⟩ _ _ _ mem hq S w0
    · cases hm⟩
/-- Both rows: the first, where it knows the arguments, else the second. -/
def productK : Known Try.prog :=
  ⟨79, fun args mem => match productTwoK.m args mem with
    | some x => some x
    | none => productUnlikeK.m args mem, fun args mem q r e rd hm hq S w0 => by
    split at hm
    · rename_i x hx
      cases hm
      exact productTwoK.ok args mem _ _ _ _ hx hq S w0
    · exact productUnlikeK.ok args mem _ _ _ _ hm hq S w0⟩
end Go.Proofs.Ytacjiajijigebaa
