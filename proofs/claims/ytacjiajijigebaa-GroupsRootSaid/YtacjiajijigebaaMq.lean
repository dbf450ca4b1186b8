/- What is known of numbers that go round. No condition. -/
import Derived.Test.YtacjiajijigebaaMp
namespace Go.Proofs.Ytacjiajijigebaa
open Go Go.Ev
set_option linter.unusedSimpArgs false

def mayM (a b m : Nat) : Bool := decide (1 < m ∧ a < m ∧ b < m)
def gM (t : Bool) (x : Nat) : Nat := match t with
  | true => x
  | false => 0
def eM (t : Bool) : Int := match t with
  | true => 0
  | false => 1
def modsN (F : Nat → Nat → Nat → Nat) (a b m : Nat) : AV := .tup [aN (gM (mayM a b m) (F a b m)), aI (eM (mayM a b m))]
theorem cmp_lt0 (a b : Nat) : iltB (cmpN a b) 0 = decide (a < b) := by
  rw [iltB_eq, Bool.eq_iff_iff]; unfold cmpN
  simp only [decide_eq_true_eq]
  split
  · omega
  · split <;> omega
theorem cmp_0lt (a b : Nat) : iltB 0 (cmpN a b) = decide (b < a) := by
  rw [iltB_eq, Bool.eq_iff_iff]; unfold cmpN
  simp only [decide_eq_true_eq]
  split
  · omega
  · split <;> omega

def addM (a b m : Nat) : Nat := (a + b) % m
def subM (a b m : Nat) : Nat := (a + (m - b)) % m
set_option maxRecDepth 20000 in
theorem mods_add1 (a b m : Nat) (h : 1 < m ∧ a < m ∧ b < m) : PureOk Try.prog 191 [aN a, aN b, aN m] (tN (addM a b m)) := by
  refine pure_of_ev (cxK [limbsAddK, limbsSubK]) Try.func191 rfl (by kernel_rfl) (Nat.le_of_ble_eq_true rfl) ⟨trivial, trivial, trivial, trivial⟩ trivial fun hf w => ?_
  have hm := hf.2.2.1.1
  refine ⟨trivial, trivial, ?_⟩
  conv => whnf
  have e1 : ∀ T, m ≤ T → T < 2 * m → T % m = T - m := fun T h1 h2 => by rw [Nat.mod_eq_sub_mod h1, Nat.mod_eq_of_lt (by omega)]
  have hq : (a + b) / BW = 0 ∨ (a + b) / BW = 1 := by unfold BW at *; omega
  have hmod := Nat.div_add_mod (a + b) BW
  refine brk (fun h1 => ?_) (fun h1 => ?_) <;> simp only [ieqB_eq, decide_eq_true_eq, decide_eq_false_iff_not, moreN] at h1
  · refine ⟨?_, trivial⟩
    have h1 : (a + b) / BW = 1 := by omega
    rw [h1] at hmod
    show subN (addN a b) m = (a + b) % m
    rw [e1 _ (by omega) (by omega)]
    unfold subN addN
    rw [Nat.mod_eq_of_lt] <;> omega
  · have h1 : (a + b) / BW = 0 := by omega
    rw [h1] at hmod
    conv => whnf
    refine brk (fun h2 => ?_) (fun h2 => ?_) <;> replace h2 : ieqB (lessN (addN a b) m) 0 = _ := h2 <;> simp only [ieqB_eq, decide_eq_true_eq, decide_eq_false_iff_not, lessN] at h2
    · refine ⟨?_, trivial⟩
      split at h2
      · omega
      · rename_i h3
        unfold addN at h3
        show subN (addN a b) m = (a + b) % m
        rw [e1 _ (by omega) (by omega)]
        unfold subN addN
        rw [show (a + b) % BW + (BW - m) = (a + b - m) + BW by omega, Nat.add_mod_right, Nat.mod_eq_of_lt (by omega)]
    · refine ⟨?_, trivial⟩
      split at h2
      · rename_i h3
        show addN a b = (a + b) % m
        unfold addN at h3 ⊢
        rw [Nat.mod_eq_of_lt (a := a + b) (b := m)] <;> omega
      · omega
def add1K : Known Try.prog := kNNN 191 (fun a b m => 1 < m ∧ a < m ∧ b < m) (fun a b m => tN (addM a b m)) mods_add1
set_option maxRecDepth 20000 in
theorem mods_sub1 (a b m : Nat) (h : 1 < m ∧ a < m ∧ b < m) : PureOk Try.prog 182 [aN a, aN b, aN m] (tN (subM a b m)) := by
  refine pure_of_ev (cxK [limbsAddK, limbsSubK]) Try.func182 rfl (by kernel_rfl) (Nat.le_of_ble_eq_true rfl) ⟨trivial, trivial, trivial, trivial⟩ trivial fun hf w => ?_
  have hm := hf.2.2.1.1
  refine ⟨trivial, ?_⟩
  conv => whnf
  refine brk (fun h1 => ?_) (fun h1 => ?_) <;> simp only [ieqB_eq, decide_eq_true_eq, decide_eq_false_iff_not, lessN] at h1
  · refine ⟨trivial, ?_, trivial⟩
    split at h1
    · show addN (subN a b) m = (a + (m - b)) % m
      unfold addN subN
      rw [Nat.mod_eq_of_lt (a := a + (BW - b)) (by omega), show a + (BW - b) + m = a + (m - b) + BW by omega, Nat.add_mod_right, Nat.mod_eq_of_lt (by omega), Nat.mod_eq_of_lt (by omega)]
    · omega
  · refine ⟨?_, trivial⟩
    split at h1
    · omega
    · show subN a b = (a + (m - b)) % m
      unfold subN
      rw [show a + (BW - b) = (a - b) + BW by omega, Nat.add_mod_right, Nat.mod_eq_of_lt (by omega), show a + (m - b) = (a - b) + m by omega, Nat.add_mod_right, Nat.mod_eq_of_lt (by omega)]
def sub1K : Known Try.prog := kNNN 182 (fun a b m => 1 < m ∧ a < m ∧ b < m) (fun a b m => tN (subM a b m)) mods_sub1
set_option maxRecDepth 20000 in
theorem deed_Mul (a b m : Nat) : PureOk Try.prog 137 [.agg [.cell (.fn 136 [] [])], aN a, aN b, aN m] (modsN (fun a b m => a * b % m) a b m) := by
  refine pure_of_ev (cxK [limbsOfK, limbsCmpK, timesModK]) Try.func137 rfl (by kernel_rfl) (Nat.le_of_ble_eq_true rfl) ⟨⟨rfl, trivial⟩, trivial, trivial, trivial, trivial⟩ ⟨trivial, rfl, trivial⟩ fun hf w => ?_
  conv => whnf
  refine ⟨by kernel_rfl, trivial, trivial, ?_⟩
  conv => whnf
  refine brk (fun h1 => ?_) (fun h1 => ?_) <;> replace h1 : (!iltB 0 (cmpN m 1)) = _ := h1 <;> rw [cmp_0lt] at h1 <;> simp only [Bool.not_eq_true', Bool.not_eq_false', decide_eq_true_eq, decide_eq_false_iff_not] at h1
  · have hm : mayM a b m = false := by unfold mayM; simp; omega
    exact ⟨by rw [hm]; rfl, by rw [hm]; rfl, trivial⟩
  · refine ⟨trivial, ?_⟩
    conv => whnf
    refine brk (fun h2 => ?_) (fun h2 => ?_) <;> replace h2 : (!iltB (cmpN a m) 0) = _ := h2 <;> rw [cmp_lt0] at h2 <;> simp only [Bool.not_eq_true', Bool.not_eq_false', decide_eq_true_eq, decide_eq_false_iff_not] at h2
    · have hm : mayM a b m = false := by unfold mayM; simp; omega
      exact ⟨by rw [hm]; rfl, by rw [hm]; rfl, trivial⟩
    · refine ⟨trivial, ?_⟩
      conv => whnf
      refine brk (fun h3 => ?_) (fun h3 => ?_) <;> replace h3 : (!iltB (cmpN b m) 0) = _ := h3 <;> rw [cmp_lt0] at h3 <;> simp only [Bool.not_eq_true', Bool.not_eq_false', decide_eq_true_eq, decide_eq_false_iff_not] at h3
      · have hm : mayM a b m = false := by unfold mayM; simp; omega
        exact ⟨by rw [hm]; rfl, by rw [hm]; rfl, trivial⟩
      · have hm : mayM a b m = true := by unfold mayM; simp; omega
        refine ⟨⟨h2, h3⟩, ?_⟩
        exact ⟨by rw [hm]; rfl, by rw [hm]; rfl, trivial⟩
def deedMulK : Known Try.prog :=
  Known.pure 137 (fun
    | [.agg [.cell (.fn 136 [] [])], .agg [.num a], .agg [.num b], .agg [.num m]] => some (True, modsN (fun a b m => a * b % m) a b m)
    | _ => none) fun args p r h _ => by
    split at h
    · simp only [Option.some.injEq, Prod.mk.injEq] at h; obtain ⟨rfl, rfl⟩ := h; exact deed_Mul _ _ _
    · cases h
set_option maxRecDepth 20000 in
theorem deed_Add (a b m : Nat) : PureOk Try.prog 137 [.agg [.cell (.fn 191 [] [])], aN a, aN b, aN m] (modsN (addM) a b m) := by
  refine pure_of_ev (cxK [limbsOfK, limbsCmpK, add1K]) Try.func137 rfl (by kernel_rfl) (Nat.le_of_ble_eq_true rfl) ⟨⟨rfl, trivial⟩, trivial, trivial, trivial, trivial⟩ ⟨trivial, rfl, trivial⟩ fun hf w => ?_
  conv => whnf
  refine ⟨by kernel_rfl, trivial, trivial, ?_⟩
  conv => whnf
  refine brk (fun h1 => ?_) (fun h1 => ?_) <;> replace h1 : (!iltB 0 (cmpN m 1)) = _ := h1 <;> rw [cmp_0lt] at h1 <;> simp only [Bool.not_eq_true', Bool.not_eq_false', decide_eq_true_eq, decide_eq_false_iff_not] at h1
  · have hm : mayM a b m = false := by unfold mayM; simp; omega
    exact ⟨by rw [hm]; rfl, by rw [hm]; rfl, trivial⟩
  · refine ⟨trivial, ?_⟩
    conv => whnf
    refine brk (fun h2 => ?_) (fun h2 => ?_) <;> replace h2 : (!iltB (cmpN a m) 0) = _ := h2 <;> rw [cmp_lt0] at h2 <;> simp only [Bool.not_eq_true', Bool.not_eq_false', decide_eq_true_eq, decide_eq_false_iff_not] at h2
    · have hm : mayM a b m = false := by unfold mayM; simp; omega
      exact ⟨by rw [hm]; rfl, by rw [hm]; rfl, trivial⟩
    · refine ⟨trivial, ?_⟩
      conv => whnf
      refine brk (fun h3 => ?_) (fun h3 => ?_) <;> replace h3 : (!iltB (cmpN b m) 0) = _ := h3 <;> rw [cmp_lt0] at h3 <;> simp only [Bool.not_eq_true', Bool.not_eq_false', decide_eq_true_eq, decide_eq_false_iff_not] at h3
      · have hm : mayM a b m = false := by unfold mayM; simp; omega
        exact ⟨by rw [hm]; rfl, by rw [hm]; rfl, trivial⟩
      · have hm : mayM a b m = true := by unfold mayM; simp; omega
        refine ⟨⟨h1, h2, h3⟩, ?_⟩
        exact ⟨by rw [hm]; rfl, by rw [hm]; rfl, trivial⟩
def deedAddK : Known Try.prog :=
  Known.pure 137 (fun
    | [.agg [.cell (.fn 191 [] [])], .agg [.num a], .agg [.num b], .agg [.num m]] => some (True, modsN (addM) a b m)
    | _ => none) fun args p r h _ => by
    split at h
    · simp only [Option.some.injEq, Prod.mk.injEq] at h; obtain ⟨rfl, rfl⟩ := h; exact deed_Add _ _ _
    · cases h
set_option maxRecDepth 20000 in
theorem deed_Sub (a b m : Nat) : PureOk Try.prog 137 [.agg [.cell (.fn 182 [] [])], aN a, aN b, aN m] (modsN (subM) a b m) := by
  refine pure_of_ev (cxK [limbsOfK, limbsCmpK, sub1K]) Try.func137 rfl (by kernel_rfl) (Nat.le_of_ble_eq_true rfl) ⟨⟨rfl, trivial⟩, trivial, trivial, trivial, trivial⟩ ⟨trivial, rfl, trivial⟩ fun hf w => ?_
  conv => whnf
  refine ⟨by kernel_rfl, trivial, trivial, ?_⟩
  conv => whnf
  refine brk (fun h1 => ?_) (fun h1 => ?_) <;> replace h1 : (!iltB 0 (cmpN m 1)) = _ := h1 <;> rw [cmp_0lt] at h1 <;> simp only [Bool.not_eq_true', Bool.not_eq_false', decide_eq_true_eq, decide_eq_false_iff_not] at h1
  · have hm : mayM a b m = false := by unfold mayM; simp; omega
    exact ⟨by rw [hm]; rfl, by rw [hm]; rfl, trivial⟩
  · refine ⟨trivial, ?_⟩
    conv => whnf
    refine brk (fun h2 => ?_) (fun h2 => ?_) <;> replace h2 : (!iltB (cmpN a m) 0) = _ := h2 <;> rw [cmp_lt0] at h2 <;> simp only [Bool.not_eq_true', Bool.not_eq_false', decide_eq_true_eq, decide_eq_false_iff_not] at h2
    · have hm : mayM a b m = false := by unfold mayM; simp; omega
      exact ⟨by rw [hm]; rfl, by rw [hm]; rfl, trivial⟩
    · refine ⟨trivial, ?_⟩
      conv => whnf
      refine brk (fun h3 => ?_) (fun h3 => ?_) <;> replace h3 : (!iltB (cmpN b m) 0) = _ := h3 <;> rw [cmp_lt0] at h3 <;> simp only [Bool.not_eq_true', Bool.not_eq_false', decide_eq_true_eq, decide_eq_false_iff_not] at h3
      · have hm : mayM a b m = false := by unfold mayM; simp; omega
        exact ⟨by rw [hm]; rfl, by rw [hm]; rfl, trivial⟩
      · have hm : mayM a b m = true := by unfold mayM; simp; omega
        refine ⟨⟨h1, h2, h3⟩, ?_⟩
        exact ⟨by rw [hm]; rfl, by rw [hm]; rfl, trivial⟩
def deedSubK : Known Try.prog :=
  Known.pure 137 (fun
    | [.agg [.cell (.fn 182 [] [])], .agg [.num a], .agg [.num b], .agg [.num m]] => some (True, modsN (subM) a b m)
    | _ => none) fun args p r h _ => by
    split at h
    · simp only [Option.some.injEq, Prod.mk.injEq] at h; obtain ⟨rfl, rfl⟩ := h; exact deed_Sub _ _ _
    · cases h
set_option maxRecDepth 20000 in
theorem mods_Mul (a b m : Nat) : PureOk Try.prog 75 [aN a, aN b, aN m] (modsN (fun a b m => a * b % m) a b m) := by
  refine pure_of_ev (cxK [deedMulK]) Try.func75 rfl (by kernel_rfl) (Nat.le_of_ble_eq_true rfl) ⟨trivial, trivial, trivial, trivial⟩ ⟨trivial, rfl, trivial⟩ fun hf w => ?_
  exact ⟨trivial, rfl, rfl, trivial⟩
def modsMulK : Known Try.prog := kNNN 75 (fun _ _ _ => True) (modsN (fun a b m => a * b % m)) (fun a b m _ => mods_Mul a b m)
set_option maxRecDepth 20000 in
theorem mods_Add (a b m : Nat) : PureOk Try.prog 156 [aN a, aN b, aN m] (modsN (addM) a b m) := by
  refine pure_of_ev (cxK [deedAddK]) Try.func156 rfl (by kernel_rfl) (Nat.le_of_ble_eq_true rfl) ⟨trivial, trivial, trivial, trivial⟩ ⟨trivial, rfl, trivial⟩ fun hf w => ?_
  exact ⟨trivial, rfl, rfl, trivial⟩
def modsAddK : Known Try.prog := kNNN 156 (fun _ _ _ => True) (modsN (addM)) (fun a b m _ => mods_Add a b m)
set_option maxRecDepth 20000 in
theorem mods_Sub (a b m : Nat) : PureOk Try.prog 125 [aN a, aN b, aN m] (modsN (subM) a b m) := by
  refine pure_of_ev (cxK [deedSubK]) Try.func125 rfl (by kernel_rfl) (Nat.le_of_ble_eq_true rfl) ⟨trivial, trivial, trivial, trivial⟩ ⟨trivial, rfl, trivial⟩ fun hf w => ?_
  exact ⟨trivial, rfl, rfl, trivial⟩
def modsSubK : Known Try.prog := kNNN 125 (fun _ _ _ => True) (modsN (subM)) (fun a b m _ => mods_Sub a b m)
end Go.Proofs.Ytacjiajijigebaa
