/- What is known of numbers that go round: powers and inverses. No condition. -/
import Derived.Test.YtacjiajijigebaaMq
import Derived.Test.YtacjiajijigebaaNu
namespace Go.Proofs.Ytacjiajijigebaa
open Go Go.Ev
set_option linter.unusedSimpArgs false

def divDK : Known Try.prog := kNN 71 (fun _ _ => True) divN (fun a b _ => divides_Div a b)
set_option maxRecDepth 20000 in
theorem divides_Common (a b : Nat) : PureOk Try.prog 145 [aN a, aN b] (tN (Nat.gcd a b)) := by
  refine pure_of_ev (cxK [divDK]) Try.func145 rfl (by kernel_rfl) (Nat.le_of_ble_eq_true rfl) ⟨trivial, trivial, trivial⟩ trivial fun hf w => ?_
  conv => whnf
  refine LoopK.cut (Nat × Nat) (fun _ => []) (fun x => [(0, [.num x.1]), (1, [.num x.2])]) (fun x => Nat.gcd x.1 x.2 = Nat.gcd a b) (fun x => x.2) (a, b) ?_ ?_
    Unit (fun _ => []) (fun _ => [(0, [.num (Nat.gcd a b)]), (1, [.num 0])]) (fun _ => True) 0 ?_ ?_
  · exact rfl
  · repeat' (refine And.intro ?_ ?_)
    all_goals try first | with_reducible rfl | exact trivial
  · rintro ⟨x, y⟩ hx
    replace hx : Nat.gcd x y = Nat.gcd a b := hx
    conv => whnf
    refine brk (fun h3 => ?_) (fun h3 => ?_)
    · have h3 : y = 0 := Nat.eq_of_beq_eq_true h3
      subst h3
      rw [Nat.gcd_zero_right] at hx
      refine ⟨(), trivial, ?_⟩
      repeat' (refine And.intro ?_ ?_)
      all_goals try first | with_reducible rfl | exact trivial
      exact hx
    · have h3 : ¬ y = 0 := Nat.ne_of_beq_eq_false h3
      refine ⟨trivial, by kernel_rfl, by kernel_rfl, (y, dR x y), ?_, ?_, ?_⟩
      · show Nat.gcd y (dR x y) = _
        rw [← hx, dR, if_neg h3, Nat.gcd_comm x y, Nat.gcd_rec y x, Nat.gcd_comm]
      · repeat' (refine And.intro ?_ ?_)
        all_goals try first | with_reducible rfl | exact trivial
      · show dR x y < y
        rw [dR, if_neg h3]; exact Nat.mod_lt _ (by omega)
  · intro _ _
    exact ⟨rfl, trivial⟩
def commonK : Known Try.prog := kNN 145 (fun _ _ => True) (fun a b => tN (Nat.gcd a b)) (fun a b _ => divides_Common a b)

set_option maxRecDepth 20000 in
theorem inv_1 (a b m : Nat) (h : 1 < m ∧ a < m ∧ b < m) : PureOk Try.prog 144 [aN a, aN b, aN m] (tN (invN a m)) := by
  refine pure_of_ev (cxK [commonK, limbsOfK, divDK, timesModK, modsSubK]) Try.func144 rfl (by kernel_rfl) (Nat.le_of_ble_eq_true rfl) ⟨trivial, trivial, trivial, trivial⟩ trivial fun hf w => ?_
  refine ⟨trivial, trivial, ?_⟩
  conv => whnf
  refine brk (fun h1 => ?_) (fun h1 => ?_) <;> replace h1 : (!Nat.beq (Nat.gcd a m) 1) = _ := h1 <;> simp only [Bool.not_eq_true', Bool.not_eq_false'] at h1
  · have h1 : ¬ Nat.gcd a m = 1 := Nat.ne_of_beq_eq_false h1
    exact ⟨(invN_none h1).symm, trivial⟩
  · have h1 : Nat.gcd a m = 1 := Nat.eq_of_beq_eq_true h1
    refine ⟨by kernel_rfl, trivial, trivial, by kernel_rfl, ?_⟩
    conv => whnf
    refine LoopK.cut (Nat × Nat × Nat × Nat) (fun _ => []) (fun x => [(4, [.num x.1]), (5, [.num x.2.1]), (6, [.num x.2.2.1]), (7, [.num x.2.2.2])]) (fun x => InvI a m x.1 x.2.1 x.2.2.1 x.2.2.2) (fun x => x.2.1) (m, a, 0, 1) ?_ ?_
      (Nat × Nat) (fun _ => []) (fun x => [(4, [.num x.1]), (5, [.num 1]), (6, [.num x.2]), (7, [.num (invN a m)])]) (fun _ => True) 0 ?_ ?_
    · exact InvI.start h.1 h.2.1 h1
    · repeat' (refine And.intro ?_ ?_)
      all_goals try first | with_reducible rfl | exact trivial
      all_goals rfl
    · rintro ⟨r, s, x, y⟩ hI
      replace hI : InvI a m r s x y := hI
      refine ⟨by kernel_rfl, trivial, ?_⟩
      conv => whnf
      refine brk (fun h3 => ?_) (fun h3 => ?_) <;> replace h3 : (!Nat.beq s 1) = _ := h3 <;> simp only [Bool.not_eq_true', Bool.not_eq_false'] at h3
      · have h3 : ¬ s = 1 := Nat.ne_of_beq_eq_false h3
        have h0 : ¬ s = 0 := by have := hI.s0; omega
        refine ⟨trivial, by kernel_rfl, ⟨hI.quo h3, hI.ym⟩, trivial, by kernel_rfl, by kernel_rfl, by kernel_rfl, (s, r % s, y, (x + (m - r / s * y % m)) % m), hI.step h3, ?_, ?_⟩
        · have hmay : mayM x (r / s * y % m) m = true := by
            unfold mayM; simp; exact ⟨hI.m1, hI.xm, Nat.mod_lt _ (by have := hI.m1; omega)⟩
          repeat' (refine And.intro ?_ ?_)
          all_goals try first | with_reducible rfl | exact trivial
          · show dR r s = r % s
            rw [dR, if_neg h0]
          · show gM (mayM x (r / s * y % m) m) (subM x (r / s * y % m) m) = _
            rw [hmay]; rfl
        · show r % s < s
          exact Nat.mod_lt _ hI.s0
      · have h3 : s = 1 := Nat.eq_of_beq_eq_true h3
        subst h3
        refine ⟨(r, x), trivial, ?_⟩
        repeat' (refine And.intro ?_ ?_)
        all_goals try first | with_reducible rfl | exact trivial
        exact hI.done rfl
    · intro _ _
      exact ⟨rfl, trivial⟩
noncomputable def inv1K : Known Try.prog := kNNN 144 (fun a b m => 1 < m ∧ a < m ∧ b < m) (fun a _ m => tN (invN a m)) inv_1
set_option maxRecDepth 20000 in
theorem deed_Inv (a b m : Nat) : PureOk Try.prog 137 [.agg [.cell (.fn 144 [] [])], aN a, aN b, aN m] (modsN (fun a _ m => invN a m) a b m) := by
  refine pure_of_ev (cxK [limbsOfK, limbsCmpK, inv1K]) Try.func137 rfl (by kernel_rfl) (Nat.le_of_ble_eq_true rfl) ⟨⟨rfl, trivial⟩, trivial, trivial, trivial, trivial⟩ ⟨trivial, rfl, trivial⟩ fun hf w => ?_
  conv => whnf
  refine ⟨by kernel_rfl, trivial, trivial, ?_⟩
  conv => whnf
  refine brk (fun h1 => ?_) (fun h1 => ?_) <;> replace h1 : (!iltB 0 (cmpN m 1)) = _ := h1 <;> rw [cmp_0lt] at h1 <;> simp only [Bool.not_eq_true', Bool.not_eq_false', decide_eq_true_eq, decide_eq_false_iff_not] at h1
  · have hm : mayM a b m = false := by unfold mayM; simp; omega
    exact ⟨by rw [hm]; rfl, by rw [hm]; rfl, trivial⟩
  · refine ⟨trivial, ?_⟩
    conv => whnf
    refine brk (fun h2 => ?_) (fun h2 => ?_) <;> replace h2 : (!iltB (cmpN a m) 0) = _ := h2 <;> rw [cmp_lt0] at h2 <;> simp only [Bool.not_eq_true', Bool.not_eq_false', decide_eq_true_eq, decide_eq_false_iff_not] at h2
    · have hm : mayM a b m = false := by unfold mayM; simp; omega
      exact ⟨by rw [hm]; rfl, by rw [hm]; rfl, trivial⟩
    · refine ⟨trivial, ?_⟩
      conv => whnf
      refine brk (fun h3 => ?_) (fun h3 => ?_) <;> replace h3 : (!iltB (cmpN b m) 0) = _ := h3 <;> rw [cmp_lt0] at h3 <;> simp only [Bool.not_eq_true', Bool.not_eq_false', decide_eq_true_eq, decide_eq_false_iff_not] at h3
      · have hm : mayM a b m = false := by unfold mayM; simp; omega
        exact ⟨by rw [hm]; rfl, by rw [hm]; rfl, trivial⟩
      · have hm : mayM a b m = true := by unfold mayM; simp; omega
        refine ⟨⟨h1, h2, h3⟩, ?_⟩
        exact ⟨by rw [hm]; rfl, by rw [hm]; rfl, trivial⟩
noncomputable def deedInvK : Known Try.prog :=
  Known.pure 137 (fun
    | [.agg [.cell (.fn 144 [] [])], .agg [.num a], .agg [.num b], .agg [.num m]] => some (True, modsN (fun a _ m => invN a m) a b m)
    | _ => none) fun args p r h _ => by
    split at h
    · simp only [Option.some.injEq, Prod.mk.injEq] at h; obtain ⟨rfl, rfl⟩ := h; exact deed_Inv _ _ _
    · cases h

/-- Rows of a function that is handed a long number captured in a function value. -/
def exp1K : Known Try.prog :=
  ⟨138, fun args mem => match args with
    | [.agg [.num a], .agg [.num _], .agg [.num m], .cv (.ptr l 0 0)] => match bnth mem l with
      | some ([.num n], mk) => some ((mk = 0 ∨ mk = EXTM) ∧ (1 < m ∧ a < m), tN (a ^ n % m), noEff, [l])
      | _ => none
    | _ => none, fun args mem q r e rd hm hq S w0 => by
    split at hm
    · split at hm
      · rename_i hb
        simp only [Option.some.injEq, Prod.mk.injEq] at hm
        obtain ⟨rfl, rfl, rfl, rfl⟩ := hm
        exact exp_1 _ _ _ _ _ _ mem hb hq.1 hq.2 S w0
      · cases hm
    · cases hm⟩
theorem agg_cap {g : GM} {f : FuncId} {vs : List Value} {xs : List AB} (i : Nat) (hv : absRel g xs vs) (hi : xs[i]? = some (.agg [.cell (.fn f [] [0])])) : ∃ b, g 0 = some b := by
  obtain ⟨v, _, _, _, _, _, _, ⟨y, _, _, _, ws, ⟨b, _, hb, _⟩, _⟩, _⟩ := absRel_get _ _ i _ hv hi
  exact ⟨b, hb⟩
set_option maxRecDepth 20000 in
theorem deed_Exp (a b m n l mk : Nat) (mem : List Blk) (hm : bnth mem l = some ([.num n], mk)) (hk : mk = 0 ∨ mk = EXTM) (S : Nat → Prop) (w0 : World) :
    CallOk Try.prog S w0 137 [.agg [.cell (.fn 138 [] [l])], aN a, aN b, aN m] mem [l] (modsN (fun a _ m => a ^ n % m) a b m) noEff := by
  refine capOk (cxK [limbsOfK, limbsCmpK, exp1K]) (r := modsN (fun a _ m => a ^ n % m) a b m) Try.func137 rfl (by kernel_rfl) (xs := [.agg [.cell (.fn 138 [] [0])], aN a, aN b, aN m]) (Nat.le_of_ble_eq_true rfl) ⟨⟨fun l hl => by simp at hl; rw [hl]; exact Nat.zero_lt_one, trivial⟩, ⟨trivial, trivial⟩, ⟨trivial, trivial⟩, ⟨trivial, trivial⟩, trivial⟩ (fun g vs hv => agg_cap 0 hv rfl) ⟨⟨trivial, trivial⟩, trivial, trivial⟩ hm hk fun S w g hf hn => ?_
  conv => whnf
  refine ⟨by kernel_rfl, trivial, trivial, ?_⟩
  conv => whnf
  refine brk (fun h1 => ?_) (fun h1 => ?_) <;> replace h1 : (!iltB 0 (cmpN m 1)) = _ := h1 <;> rw [cmp_0lt] at h1 <;> simp only [Bool.not_eq_true', Bool.not_eq_false', decide_eq_true_eq, decide_eq_false_iff_not] at h1
  · have hm : mayM a b m = false := by unfold mayM; simp; omega
    exact ⟨by rw [hm]; rfl, by rw [hm]; rfl, rfl, trivial⟩
  · refine ⟨trivial, ?_⟩
    conv => whnf
    refine brk (fun h2 => ?_) (fun h2 => ?_) <;> replace h2 : (!iltB (cmpN a m) 0) = _ := h2 <;> rw [cmp_lt0] at h2 <;> simp only [Bool.not_eq_true', Bool.not_eq_false', decide_eq_true_eq, decide_eq_false_iff_not] at h2
    · have hm : mayM a b m = false := by unfold mayM; simp; omega
      exact ⟨by rw [hm]; rfl, by rw [hm]; rfl, rfl, trivial⟩
    · refine ⟨trivial, ?_⟩
      conv => whnf
      refine brk (fun h3 => ?_) (fun h3 => ?_) <;> replace h3 : (!iltB (cmpN b m) 0) = _ := h3 <;> rw [cmp_lt0] at h3 <;> simp only [Bool.not_eq_true', Bool.not_eq_false', decide_eq_true_eq, decide_eq_false_iff_not] at h3
      · have hm : mayM a b m = false := by unfold mayM; simp; omega
        exact ⟨by rw [hm]; rfl, by rw [hm]; rfl, rfl, trivial⟩
      · have hm : mayM a b m = true := by unfold mayM; simp; omega
        refine ⟨⟨.inr rfl, h1, h2⟩, ?_⟩
        exact ⟨by rw [hm]; rfl, by rw [hm]; rfl, rfl, trivial⟩
def deedExpK : Known Try.prog :=
  ⟨137, fun args mem => match args with
    | [.agg [.cell (.fn 138 [] [l])], .agg [.num a], .agg [.num b], .agg [.num m]] => match bnth mem l with
      | some ([.num n], mk) => some (mk = 0 ∨ mk = EXTM, modsN (fun a _ m => a ^ n % m) a b m, noEff, [l])
      | _ => none
    | _ => none, fun args mem q r e rd hm hq S w0 => by
    split at hm
    · split at hm
      · rename_i hb
        simp only [Option.some.injEq, Prod.mk.injEq] at hm
        obtain ⟨rfl, rfl, rfl, rfl⟩ := hm
        exact deed_Exp _ _ _ _ _ _ mem hb hq S w0
      · cases hm
    · cases hm⟩
def expN (a n m : Nat) : AV := modsN (fun a _ m => a ^ n % m) a a m
set_option maxRecDepth 20000 in
theorem mods_Exp (a n m : Nat) : PureOk Try.prog 76 [aN a, aN n, aN m] (expN a n m) := by
  refine pure_of_ev (cxK [deedExpK]) Try.func76 rfl (by kernel_rfl) (Nat.le_of_ble_eq_true rfl) ⟨trivial, trivial, trivial, trivial⟩ ⟨trivial, rfl, trivial⟩ fun hf w => ?_
  exact ⟨.inl rfl, rfl, rfl, trivial⟩
def modsExpK : Known Try.prog := kNNN 76 (fun _ _ _ => True) expN (fun a n m _ => mods_Exp a n m)

def eInv (a m : Nat) : Int := match mayM a a m with
  | true => if Nat.gcd a m = 1 then 0 else 7
  | false => 1
noncomputable def modsInvN (a m : Nat) : AV := .tup [aN (gM (mayM a a m) (invN a m)), aI (eInv a m)]
set_option maxRecDepth 20000 in
theorem mods_Inv (a m : Nat) : PureOk Try.prog 77 [aN a, aN m] (modsInvN a m) := by
  refine pure_of_ev (cxK [deedInvK, limbsOfK]) Try.func77 rfl (by kernel_rfl) (Nat.le_of_ble_eq_true rfl) ⟨trivial, trivial, trivial⟩ ⟨trivial, rfl, trivial⟩ fun hf w => ?_
  refine ⟨trivial, by kernel_rfl, ?_⟩
  conv => whnf
  refine brk (fun h1 => ?_) (fun h1 => ?_) <;> replace h1 : ieqB (eM (mayM a a m)) 0 = _ := h1
  · have hm : mayM a a m = true := by
      cases h : mayM a a m with
      | true => rfl
      | false => rw [h] at h1; cases h1
    have hm' : 1 < m ∧ a < m ∧ a < m := by unfold mayM at hm; simpa using hm
    refine ⟨trivial, ?_⟩
    conv => whnf
    refine brk (fun h2 => ?_) (fun h2 => ?_) <;> replace h2 : Nat.beq (gM (mayM a a m) (invN a m)) 0 = _ := h2 <;> rw [hm] at h2
    · have h2 : invN a m = 0 := Nat.eq_of_beq_eq_true h2
      have hg : ¬ Nat.gcd a m = 1 := fun h => invN_pos hm'.1 hm'.2.1 h h2
      exact ⟨rfl, by unfold eInv; rw [hm]; exact (if_neg hg).symm, trivial⟩
    · have h2 : ¬ invN a m = 0 := Nat.ne_of_beq_eq_false h2
      have hg : Nat.gcd a m = 1 := Classical.byContradiction fun h => h2 (invN_none h)
      exact ⟨rfl, by unfold eInv; rw [hm]; exact (if_pos hg).symm, trivial⟩
  · have hm : mayM a a m = false := by
      cases h : mayM a a m with
      | true => rw [h] at h1; cases h1
      | false => rfl
    exact ⟨rfl, by unfold eInv; rw [hm]; rfl, trivial⟩
noncomputable def modsInvK : Known Try.prog := kNN 77 (fun _ _ => True) modsInvN (fun a m _ => mods_Inv a m)
end Go.Proofs.Ytacjiajijigebaa
