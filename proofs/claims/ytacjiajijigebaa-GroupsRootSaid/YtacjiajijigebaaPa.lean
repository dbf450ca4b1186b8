/- The iterator over pairs of numbers has its contract. No condition. -/
import Derived.RangeFuncNested
import Derived.RangeFuncBound
import Derived.RangeFuncCalls
import Derived.RangeFuncLeaves
import Derived.Shelf.Abstract
import Derived.Shelf.RegionOpen
import Derived.WalkKit
import Derived.OwnWalkIn
import Derived.TacticsInMore
import Derived.LoopNIn
import Derived.LoopIn
import Derived.Test.YtacjiajijigebaaProg
import Derived.Test.YtacjiajijigebaaEvL
import Derived.Test.YtacjiajijigebaaRn
namespace Go.Proofs.Ytacjiajijigebaa
open Go Go.Ev Go.RowKit Go.Shelf
attribute [local go_sem] Oper.semAt_some

abbrev lv (x : Nat) : Value := .agg #[.int .u64 (limb 0 x), .int .u64 (limb 1 x), .int .u64 (limb 2 x), .int .u64 (limb 3 x)]
/-- Two long numbers. -/
abbrev NP := { x : Nat × Nat // x.1 < BW ∧ x.2 < BW }
abbrev encP (x : NP) : Array Value := #[lv x.1.1, lv x.1.2]

/-- What a round keeps: what lay below n₀, and the two boxes. -/
structure KP (n₀ Ba Bn : Nat) (W W' : World) : Prop where
  below : Below n₀ W W'
  ba : W'.heap[Ba]? = W.heap[Ba]?
  bn : W'.heap[Bn]? = W.heap[Bn]?
theorem KP.refl (n₀ Ba Bn : Nat) (W : World) : KP n₀ Ba Bn W W := ⟨Below.refl _ _, rfl, rfl⟩
theorem KP.trans {n₀ Ba Bn : Nat} {A B C : World} (h : KP n₀ Ba Bn A B) (k : KP n₀ Ba Bn B C) : KP n₀ Ba Bn A C := ⟨h.below.trans k.below, k.ba.trans h.ba, k.bn.trans h.bn⟩
theorem KP.drew {n₀ Ba Bn : Nat} (W : World) : KP n₀ Ba Bn W W.drew := ⟨(Below.refl n₀ W).drew, rfl, rfl⟩

set_option maxRecDepth 100000 in
set_option maxHeartbeats 2000000 in
theorem pairs1_in (n : Nat) (hn : 1 ≤ n) (l Ba Bn n₀ ba oa ca bn on cn : Nat) (zs : List NP) (hreach : zs.length * 32 ≤ 140737488351232) (hba : ba < n₀) (hbn : bn < n₀) (J Jx : List NP → World → Prop)
    (hY : ∀ pre x W, J pre W → pre.length < zs.length → YieldAt (FW none) (n - 1) Try.prog l (encP x) W fun e W' =>
      (e = .returned (.bool true) ∧ J (pre ++ [x]) W' ∧ KP n₀ Ba Bn W W') ∨ (e = .returned (.bool false) ∧ Jx (pre ++ [x]) W'))
    (hJd : ∀ pre W, J pre W → J pre W.drew)
    (W : World) (hBa : W.cell? ⟨Ba, 0, none⟩ = some (.slice (some ⟨ba, oa, none⟩) zs.length ca)) (hBn : W.cell? ⟨Bn, 0, none⟩ = some (.slice (some ⟨bn, on, none⟩) zs.length cn))
    (hca : ∀ k x, zs[k]? = some x → ∀ j, j < 4 → W.cell? ⟨ba, oa + k * 4 + j, none⟩ = some (.int .u64 (limb j x.1.1)))
    (hcn : ∀ k x, zs[k]? = some x → ∀ j, j < 4 → W.cell? ⟨bn, on + k * 4 + j, none⟩ = some (.int .u64 (limb j x.1.2))) (h0 : J [] W) :
    CallsIn (FW none) n Try.prog 185 #[.func (.yield l) #[] #[], .pointer (some ⟨Ba, 0, none⟩), .pointer (some ⟨Bn, 0, none⟩)] W fun e W' => (∃ v, e = .returned v) ∧
      ((∃ ys, ys = zs ∧ J ys W') ∨ (∃ pre, (∃ k, k ≤ zs.length ∧ pre = zs.take k) ∧ Jx pre W')) := by
  have hro : (FW none).round = none := rfl
  refine callsIn_of_wp Try.func185 rfl trivial ?_ hro
  simp only [Try.ntmps185, List.size_toArray, List.length_cons, List.length_nil, Nat.reduceAdd, Nat.reduceSub, Array.replicate_succ, Array.replicate_zero, List.push_toArray, List.append_toArray, List.nil_append, List.cons_append]
  gi_wp2
  gi_loopw [7] (fun i wr => ∃ k : Nat, k ≤ zs.length ∧ i = .int .i64 k ∧ J (zs.take k) wr ∧ KP n₀ Ba Bn W wr)
    (fun i _ => zs.length - (intOf i).toNat)
  case atStart => exact ⟨0, Nat.zero_le _, rfl, h0, KP.refl _ _ _ _⟩
  case round =>
    obtain ⟨k, hk, rfl, hJs, hnx⟩ := hrel
    have hBa' := (World.cell?_of_block (w := W) (a := ⟨Ba, 0, none⟩) hnx.ba).trans hBa
    have hBn' := (World.cell?_of_block (w := W) (a := ⟨Bn, 0, none⟩) hnx.bn).trans hBn
    by_cases hlt : k < zs.length
    · obtain ⟨x, hx⟩ : ∃ x, zs[k]? = some x := ⟨zs[k], List.getElem?_eq_getElem hlt⟩
      obtain ⟨fn, tmps, assign, body, hy, hR⟩ := hY _ x wr.drew (hJd _ _ hJs) (by simp; omega)
      dsimp only [encP, lv] at hy
      have hca' : ∀ j, j < 4 → wr.cell? ⟨ba, oa + k * 4 + j, none⟩ = some (.int .u64 (limb j x.1.1)) := fun j hj => (hnx.below.cell (p := ⟨ba, oa + k * 4 + j, none⟩) hba).trans (hca k x hx j hj)
      have hcn' : ∀ j, j < 4 → wr.cell? ⟨bn, on + k * 4 + j, none⟩ = some (.int .u64 (limb j x.1.2)) := fun j hj => (hnx.below.cell (p := ⟨bn, on + k * 4 + j, none⟩) hbn).trans (hcn k x hx j hj)
      have a0 := hca' 0 (by omega)
      have a1 := hca' 1 (by omega)
      have a2 := hca' 2 (by omega)
      have a3 := hca' 3 (by omega)
      have n0 := hcn' 0 (by omega)
      have n1 := hcn' 1 (by omega)
      have n2 := hcn' 2 (by omega)
      have n3 := hcn' 3 (by omega)
      simp only [Nat.add_zero] at a0 n0
      gi_wp2
      refine wpIn_region_still_tailF (r := none) rfl 9 (by kernel_rfl) (noDefer_of (by kernel_rfl)) (by kernel_rfl) ?_
      simp only [List.take_succ_cons, List.take_zero, List.drop_succ_cons, List.drop_zero]
      repeat still_step
      refine wpStill_nil ?_
      gi_wp2
      refine hR.mono ?_
      rintro e W3 (⟨rfl, hJ3, hk3⟩ | ⟨rfl, hJx3⟩)
      · gi_wp2
        go_roundw
        case rel => exact ⟨k + 1, by omega, by simp, by rw [List.take_add_one, hx]; exact hJ3, hnx.trans ((KP.drew wr).trans hk3)⟩
        case measure => simp [intOf]; omega
      · gi_wp2
        refine bodyPost_ret (results_none rfl _ _ _) rfl ?_
        exact ⟨⟨_, rfl⟩, .inr ⟨_, ⟨k + 1, by omega, by rw [List.take_add_one, hx]; rfl⟩, hJx3⟩⟩
    · obtain rfl : k = zs.length := by omega
      gi_wp2
      go_end0
      exact ⟨⟨_, rfl⟩, .inl ⟨_, rfl, by rw [List.take_length] at hJs; exact hJs⟩⟩

set_option maxRecDepth 100000 in
set_option maxHeartbeats 1000000 in
theorem pairs1_nil (n : Nat) (l Ba Bn : Nat) (aa : Option Addr) (ca : Nat) (J : List NP → World → Prop) (W : World) (hBa : W.cell? ⟨Ba, 0, none⟩ = some (.slice aa 0 ca)) (h0 : J [] W) :
    CallsIn (FW none) n Try.prog 185 #[.func (.yield l) #[] #[], .pointer (some ⟨Ba, 0, none⟩), .pointer (some ⟨Bn, 0, none⟩)] W fun e W' => (∃ v, e = .returned v) ∧ J [] W' := by
  have hro : (FW none).round = none := rfl
  refine callsIn_of_wp Try.func185 rfl trivial ?_ hro
  simp only [Try.ntmps185, List.size_toArray, List.length_cons, List.length_nil, Nat.reduceAdd, Nat.reduceSub, Array.replicate_succ, Array.replicate_zero, List.push_toArray, List.append_toArray, List.nil_append, List.cons_append]
  gi_wp2
  gi_loopw [7] (fun i wr => i = .int .i64 0 ∧ J [] wr) (fun _ _ => 0)
  case atStart => exact ⟨rfl, h0⟩
  case round =>
    obtain ⟨rfl, hJs⟩ := hrel
    gi_wp2
    go_end0
    exact ⟨⟨_, rfl⟩, hJs⟩

set_option maxHeartbeats 1000000 in
theorem pairs_in (n : Nat) (a a2 : Option Addr) (len cap len2 cap2 : Nat) (w : World) :
    CallsIn (FW none) n Try.prog 146 #[.slice a len cap, .slice a2 len2 cap2] w fun e w' => e = .returned (.func (.func 185) #[] #[.pointer (some ⟨w.heap.size, 0, none⟩), .pointer (some ⟨w.heap.size + 1, 0, none⟩)]) ∧ w' = (w.alloc (.cells #[.slice a len cap] 95)).alloc (.cells #[.slice a2 len2 cap2] 95) := by
  refine callsIn_of_wp Try.func146 rfl trivial ?_ rfl
  simp only [Try.ntmps146, List.size_toArray, List.length_cons, List.length_nil, Nat.reduceAdd, Nat.reduceSub, Array.replicate_succ, Array.replicate_zero, List.push_toArray, List.append_toArray, List.nil_append, List.cons_append]
  gi_wp2
  go_ret
  exact ⟨rfl, rfl⟩

/-- The slice value v holds the numbers f x for x in zs, in a block below n₀, or zs is empty. -/
def Nums (n₀ : Nat) (W : World) (v : Value) (f : NP → Nat) (zs : List NP) : Prop :=
  ∃ a cap, v = .slice a zs.length cap ∧ (zs = [] ∨ ∃ b off, a = some ⟨b, off, none⟩ ∧ b < n₀ ∧ ∀ k x, zs[k]? = some x → ∀ j, j < 4 → W.cell? ⟨b, off + k * 4 + j, none⟩ = some (.int .u64 (limb j (f x))))
theorem Nums.below {n₀ : Nat} {A B : World} (h : Below n₀ A B) {v : Value} {f : NP → Nat} {zs : List NP} : Nums n₀ A v f zs → Nums n₀ B v f zs
  | ⟨a, cap, e, .inl h0⟩ => ⟨a, cap, e, .inl h0⟩
  | ⟨a, cap, e, .inr ⟨b, off, ea, hb, hc⟩⟩ => ⟨a, cap, e, .inr ⟨b, off, ea, hb, fun k x hx j hj => (h.cell (p := ⟨b, off + k * 4 + j, none⟩) hb).trans (hc k x hx j hj)⟩⟩

theorem pairs_stops (n : Nat) (hn : 1 ≤ n) (Ba Bn n₀ : Nat) (va vn : Value) (zs : List NP) (hreach : zs.length * 32 ≤ 140737488351232) (w : World) (hBa : Ba < w.heap.size) (hBn : Bn < w.heap.size) (hn₀ : n₀ ≤ w.heap.size)
    (hca : w.cell? ⟨Ba, 0, none⟩ = some va) (hcn : w.cell? ⟨Bn, 0, none⟩ = some vn) (hA : Nums n₀ w va (·.1.1) zs) (hN : Nums n₀ w vn (·.1.2) zs) :
    SeqStopsK (FW none) n Try.prog 185 #[.pointer (some ⟨Ba, 0, none⟩), .pointer (some ⟨Bn, 0, none⟩)] encP (KP n₀ Ba Bn) (fun ys => ys = zs) (fun pre => pre <+: zs) zs.length w := fun l J Jx W hW hJ hJx hY h0 => by
  have hW' := hW.mono hn₀
  have hca' := (hW.cell (p := ⟨Ba, 0, none⟩) hBa).trans hca
  have hcn' := (hW.cell (p := ⟨Bn, 0, none⟩) hBn).trans hcn
  obtain ⟨aa, ca, rfl, hA1⟩ := hA.below hW'
  obtain ⟨an, cn, rfl, hN1⟩ := hN.below hW'
  have hnil : zs = [] → CallsIn (FW none) n Try.prog 185 #[.func (.yield l) #[] #[], .pointer (some ⟨Ba, 0, none⟩), .pointer (some ⟨Bn, 0, none⟩)] W fun e W' => (∃ v, e = .returned v) ∧ ((∃ ys, ys = zs ∧ J ys W') ∨ (∃ pre, pre <+: zs ∧ Jx pre W')) := by
    rintro rfl
    exact (pairs1_nil n l Ba Bn aa ca J W hca' h0).mono fun e W' ⟨he, hj⟩ => ⟨he, .inl ⟨_, rfl, hj⟩⟩
  rcases hA1 with h | ⟨ba, oa, rfl, hba, hcs⟩
  · exact hnil h
  · rcases hN1 with h | ⟨bn, on, rfl, hbn, hcs2⟩
    · exact hnil h
    · refine (pairs1_in n hn l Ba Bn n₀ ba oa ca bn on cn zs hreach hba hbn J Jx hY (fun pre W1 h1 => hJ pre W1 W1.drew none h1 ⟨rfl, rfl, rfl, Nat.le_refl _, fun _ _ _ => rfl⟩ (fun r e => by cases e)) W hca' hcn' hcs hcs2 h0).mono ?_
      rintro e W' ⟨he, ⟨ys, rfl, hj⟩ | ⟨pre, ⟨k, hk, rfl⟩, hj⟩⟩
      · exact ⟨he, .inl ⟨_, rfl, hj⟩⟩
      · exact ⟨he, .inr ⟨_, List.take_prefix _ _, hj⟩⟩
end Go.Proofs.Ytacjiajijigebaa
