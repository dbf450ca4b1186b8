/- What is known of a reason without parts. No condition. -/
import Derived.Test.YtacjiajijigebaaMo
import Derived.Test.YtacjiajijigebaaPs
import Derived.Test.YtacjiajijigebaaEvQ
namespace Go.Ev
theorem CallOk.weaken {P : Program} {S : Nat → Prop} {w0 : World} {f : FuncId} {args args' : List AB} {mem : List Blk} {rd : List Nat} {r : AV} {e : Eff} (h : ∀ g vs, absRel g args vs → absRel g args' vs) (hc : CallOk P S w0 f args' mem rd r e) : CallOk P S w0 f args mem rd r e :=
  fun g w vs hv => hc g w vs (h g vs hv)
end Go.Ev
namespace Go.Proofs.Ytacjiajijigebaa
open Go Go.Ev
set_option linter.unusedSimpArgs false

/-- Whether a number is a small prime, not to be reckoned out. -/
noncomputable def smC (n : Nat) : Bool := @decide (Pr n ∧ n < 4294967296) (Classical.propDecidable _)
theorem smC_eq (n : Nat) : smallB n = smC n := by
  unfold smallB smC
  congr
noncomputable def smallCK : Known Try.prog := kU 29 (fun _ => True) (fun x => tB (smC x.toNat)) (fun x _ => by rw [← smC_eq]; exact primes_Small' x)
/-- A reason with no parts. -/
abbrev aLeaf (N W : Nat) : AB := .agg [.num N, .num W, .cell (.v (.slice none 0 0))]
noncomputable def leafB (N W : Nat) : Bool := and (smC N) (Nat.beq W 0)

set_option maxRecDepth 20000 in
theorem chk_leaf (N W l l2 : Nat) (mem : List Blk) (hm : bnth mem l = some ([.cell (.int .i64 0)], 0)) (hN : N < 4294967296) (S : Nat → Prop) (w0 : World) :
    CallOk Try.prog S w0 115 [aLeaf N W, .cv (.ptr l 0 0), .cv (.ptr l2 0 0)] mem [l] (tB (leafB N W)) ⟨[], [(l, [.cell (.int .i64 1)])]⟩ := by
  rw [bnth_eq] at hm
  have key := callLoc (S := S) (w0 := w0) (cxK [limbsBitsK, smallCK, limbsOfK]) Try.func115 rfl (by kernel_rfl) (xs := [aLeaf N W, .cv (.ptr 0 0 0), .cv .top]) (lm := [([.cell (.int .i64 0)], 0)]) (lw := [([.cell (.int .i64 1)], 0)]) (r := tB (leafB N W)) (ls := [l]) (mem := mem)
    (Nat.le_of_ble_eq_true rfl) rfl (Nat.le_refl _)
    (fun i j l' h1 h2 => by
      have h1 := (List.getElem?_eq_some_iff.1 h1).1
      have h2 := (List.getElem?_eq_some_iff.1 h2).1
      simp at h1 h2; omega)
    (fun i l' k0 h1 h2 => by
      have hi := (List.getElem?_eq_some_iff.1 h1).1
      simp at hi; subst hi
      simp at h1 h2; subst h1 h2
      exact ⟨_, hm, ⟨rfl, .inl rfl⟩, by simp⟩)
    (fun i k k' h1 h2 => by
      have hi := (List.getElem?_eq_some_iff.1 h1).1
      simp at hi; subst hi
      simp at h1 h2; subst h1 h2; rfl)
    ⟨⟨trivial, trivial, trivial, trivial⟩, Nat.zero_lt_one, trivial, trivial⟩ (fun k hk => by simp at hk; subst hk; exact ⟨trivial, trivial⟩) (fun k hk => by simp at hk; subst hk; exact ⟨trivial, trivial⟩) (fun k hk => by simp at hk)
    trivial
    (fun S w g vs hv hfa => by
      have hbl : bitLen N ≤ 32 := bitLen_le.2 hN
      refine ⟨trivial, ?_⟩
      conv => whnf
      refine brkT (by rw [Bool.not_eq_true', iltB_eq]; simp; omega) ?_
      refine ⟨by kernel_rfl, trivial, ?_⟩
      have e0 : (Int.ofNat (limb (0 + 0) N)).toNat = N := by
        rw [Nat.add_zero, limb0_small (by omega)]; rfl
      conv => whnf
      refine brk (fun h1 => ?_) (fun h1 => ?_) <;> replace h1 : smC (Int.ofNat (limb (0 + 0) N)).toNat = _ := h1 <;> rw [e0] at h1
      · refine ⟨trivial, ?_⟩
        conv => whnf
        refine brk (fun h2 => ?_) (fun h2 => ?_) <;> replace h2 : Nat.beq W 0 = _ := h2
        · repeat' (refine And.intro ?_ ?_)
          all_goals try first | with_reducible rfl | exact trivial
          · show ieqB 0 0 = and (smC N) (Nat.beq W 0)
            rw [h1, h2]; rfl
          · rfl
        · repeat' (refine And.intro ?_ ?_)
          all_goals try first | with_reducible rfl | exact trivial
          · show false = and (smC N) (Nat.beq W 0)
            rw [h2, Bool.and_false]
          · rfl
      · repeat' (refine And.intro ?_ ?_)
        all_goals try first | with_reducible rfl | exact trivial
        · show false = and (smC N) (Nat.beq W 0)
          rw [h1]; rfl
        · rfl)
  refine CallOk.weaken (fun g vs hv => ?_) key
  obtain ⟨y, ys, rfl, h1, y2, ys2, rfl, h2, y3, ys3, rfl, h3, h4⟩ := hv
  exact ⟨y, _, rfl, h1, y2, _, rfl, h2, y3, _, rfl, trivial, h4⟩
noncomputable def chkLeafK : Known Try.prog :=
  ⟨115, fun args mem => match args with
    | [.agg [.num N, .num W, .cell (.v (.slice none 0 0))], .cv (.ptr l 0 0), .cv (.ptr _ 0 0)] => match bnth mem l with
      | some ([.cell (.int .i64 (.ofNat 0))], 0) => some (N < 4294967296, tB (leafB N W), ⟨[], [(l, [.cell (.int .i64 1)])]⟩, [l])
      | _ => none
    | _ => none, fun args mem q r e rd hm hq S w0 => by
    split at hm
    · split at hm
      · rename_i hb
        simp only [Option.some.injEq, Prod.mk.injEq] at hm
        obtain ⟨rfl, rfl, rfl, rfl⟩ := hm
        exact chk_leaf _ _ _ _ mem hb hq S w0
      · cases hm
    · cases hm⟩
set_option maxRecDepth 20000 in
theorem primes_CheckLeaf (N W : Nat) (hN : N < 4294967296) : PureOk Try.prog 56 [aLeaf N W] (tB (leafB N W)) := by
  refine pure_of_ev (cxK [chkLeafK]) Try.func56 rfl (by kernel_rfl) (Nat.le_of_ble_eq_true rfl) ⟨⟨rfl, trivial⟩, trivial⟩ rfl fun hf w => ?_
  refine ⟨hN, ?_⟩
  exact ⟨rfl, trivial⟩
noncomputable def checkLeafK : Known Try.prog := Known.pure 56 (fun
    | [.agg [.num N, .num W, .cell (.v (.slice none 0 0))]] => some (N < 4294967296, tB (leafB N W))
    | _ => none) fun args p r h hp => by
    split at h
    · simp only [Option.some.injEq, Prod.mk.injEq] at h; obtain ⟨rfl, rfl⟩ := h; exact primes_CheckLeaf _ _ hp
    · cases h
end Go.Proofs.Ytacjiajijigebaa
