/- Rules and tokens: what is reckoned, in plain words; arrays of 40 numbers as cells. -/
import Derived.Test.YtlophgkgmhcagaaDoorAmU
set_option linter.unusedVariables false
set_option linter.unusedSimpArgs false
namespace Go.Proofs.YtlophgkgmhcagaaDoor.AM
open Go Go.Proofs

/-- 40 numbers, as cells. -/
def aA (tok : Int → Int) : List AV := (List.range 40).map fun (i : Nat) => AV.i (tok (i : Int))

def setT (tok : Int → Int) (f x : Int) : Int → Int := fun i => if i = f then x else tok i

theorem aA_len (tok : Int → Int) : (aA tok).length = 40 := by simp [aA]

theorem aA_get {tok : Int → Int} {i : Nat} (h : i < 40) : (aA tok)[i]? = some (.i (tok (i : Int))) := by simp [aA, h]

theorem aA_take {tok : Int → Int} {f : Int} {b : Nat} {z : Option (List PV)} (h0 : 0 ≤ f) (h1 : f ≤ 39) : takeA ⟨.int .i64, 1, b, z⟩ ((aA tok).drop f.toNat) = some (.i (tok f)) := by
  have hf : ((f.toNat : Nat) : Int) = f := by omega
  have hl : f.toNat < (aA tok).length := by rw [aA_len]; omega
  rw [List.drop_eq_getElem_cons hl]
  have e : (aA tok)[f.toNat] = .i (tok f) := by
    have := aA_get (tok := tok) (i := f.toNat) (by omega)
    rw [List.getElem?_eq_getElem hl, hf] at this
    simpa using this
  rw [e]
  rfl

theorem aA_set {tok : Int → Int} {f x : Int} (h0 : 0 ≤ f) (h1 : f ≤ 39) : (aA tok).set f.toNat (.i x) = aA (setT tok f x) := by
  apply List.ext_getElem?
  intro i
  rw [List.getElem?_set]
  have hf : ((f.toNat : Nat) : Int) = f := by omega
  rcases Nat.lt_or_ge i 40 with hi | hi
  · rw [aA_get hi, aA_get hi]
    by_cases e : f.toNat = i
    · rw [if_pos e, if_pos (by rw [aA_len]; omega)]
      have : (i : Int) = f := by omega
      simp [setT, this]
    · rw [if_neg e]
      have : (i : Int) ≠ f := by omega
      simp [setT, this]
  · rw [List.getElem?_eq_none (by rw [aA_len]; omega), List.getElem?_eq_none (by rw [aA_len]; omega)]
    by_cases e : f.toNat = i
    · omega
    · rw [if_neg e]

theorem aA_over {tok : Int → Int} {f x : Int} (h0 : 0 ≤ f) (h1 : f ≤ 39) : over (aA tok) f.toNat [.i x] = aA (setT tok f x) := by
  simp only [over]; exact aA_set h0 h1

theorem eqCells_refl : ∀ l : List AV, (∀ x ∈ l, ∃ n, x = .i n) → eqCells true l l = some true
  | [], _ => rfl
  | x :: r, h => by
    obtain ⟨n, rfl⟩ := h x (by simp)
    simp [eqCells, eqCells_refl r fun y hy => h y (by simp [hy])]

theorem aA_eq (tok : Int → Int) : eqCells true (aA tok) (aA tok) = some true := eqCells_refl _ fun x hx => by
  simp only [aA, List.mem_map] at hx
  obtain ⟨i, _, rfl⟩ := hx
  exact ⟨_, rfl⟩

/-! ### What is reckoned -/
def flowB (f : Int) : Bool := decide (0 ≤ f) && decide (f ≤ 39)
def inF (l : List Int) : Bool := l.all flowB
def cnt (l : List Int) (f : Int) : Int := ((l.filter (· == f)).length : Nat)

theorem cnt_nil (f : Int) : cnt [] f = 0 := rfl
theorem cnt_app (l r : List Int) (f : Int) : cnt (l ++ r) f = cnt l f + cnt r f := by simp [cnt]
theorem cnt_one (x f : Int) : cnt [x] f = if x = f then 1 else 0 := by
  by_cases h : x = f <;> simp [cnt, h]
theorem cnt_nonneg (l : List Int) (f : Int) : 0 ≤ cnt l f := by unfold cnt; omega
theorem cnt_le (l : List Int) (f : Int) : cnt l f ≤ l.length := by unfold cnt; have := List.length_filter_le (· == f) l; omega

/-- Enough tokens. -/
def canB (l : List Int) (tok : Int → Int) : Bool := inF l && l.all fun f => !decide (tok f < cnt l f)

/-- Tokens less those that are taken, one by one; none: there are not so many. -/
def takeT : List Int → (Int → Int) → Option (Int → Int)
  | [], tok => some tok
  | f :: r, tok => if flowB f = true ∧ 0 < tok f then takeT r (setT tok f (tok f - 1)) else none

/-- Tokens, and those that are given, one by one; none: there are too many. -/
def giveT : List Int → (Int → Int) → Option (Int → Int)
  | [], tok => some tok
  | f :: r, tok => if 2 < tok f then none else giveT r (setT tok f (tok f + 1))

def lessT (l : List Int) (tok : Int → Int) : Int → Int := fun f => tok f - cnt l f

theorem lessT_cons (f : Int) (r : List Int) (tok : Int → Int) : lessT r (setT tok f (tok f - 1)) = lessT (f :: r) tok := by
  funext i
  have : cnt (f :: r) i = cnt [f] i + cnt r i := by rw [← cnt_app]; rfl
  simp only [lessT, setT, this, cnt_one]
  by_cases h : i = f
  · subst h; simp; omega
  · have : ¬ f = i := fun e => h e.symm
    simp [h, this]

/-- One by one, just if there are enough. -/
theorem takeT_eq : ∀ (l : List Int) (tok : Int → Int), takeT l tok = if canB l tok = true then some (lessT l tok) else none
  | [], tok => by simp [takeT, canB, inF]; funext i; simp [lessT, cnt_nil]
  | f :: r, tok => by
    have hc : ∀ i, cnt (f :: r) i = cnt [f] i + cnt r i := fun i => by rw [← cnt_app]; rfl
    unfold takeT
    by_cases h : flowB f = true ∧ 0 < tok f
    · rw [if_pos h, takeT_eq r, lessT_cons]
      have e : canB r (setT tok f (tok f - 1)) = canB (f :: r) tok := by
        rw [Bool.eq_iff_iff]
        simp only [canB, inF, Bool.and_eq_true, List.all_cons, h.1, true_and, List.all_eq_true, Bool.not_eq_true', decide_eq_false_iff_not, setT, hc, cnt_one]
        constructor
        · rintro ⟨h1, h2⟩
          refine ⟨h1, ?_, ?_⟩
          · by_cases hm : f ∈ r
            · have := h2 f hm; simp at this ⊢; omega
            · have : cnt r f = 0 := by
                unfold cnt
                rw [List.filter_eq_nil_iff.mpr (fun x hx => by intro e; exact hm (by simpa using (beq_iff_eq.mp e) ▸ hx))]
                rfl
              simp [this]; omega
          · intro x hx
            have := h2 x hx
            by_cases e : f = x
            · subst e; simp at this ⊢; omega
            · have e' : ¬ x = f := fun q => e q.symm
              simp [e, e'] at this ⊢; omega
        · rintro ⟨h1, h2, h3⟩
          refine ⟨h1, fun x hx => ?_⟩
          have := h3 x hx
          by_cases e : f = x
          · subst e; simp at this ⊢; omega
          · have e' : ¬ x = f := fun q => e q.symm
            simp [e, e'] at this ⊢; omega
      rw [e]
    · rw [if_neg h, if_neg]
      intro hcan
      apply h
      simp only [canB, inF, Bool.and_eq_true, List.all_cons, Bool.not_eq_true', decide_eq_false_iff_not, hc, cnt_one, if_true] at hcan
      have := cnt_nonneg r f
      exact ⟨hcan.1.1, by omega⟩

/-- What a rule makes of tokens, and what is wrong. -/
def doR (needs gives : List Int) (tok : Int → Int) : Option (Int → Int) × Int :=
  if inF needs = true ∧ inF gives = true then
    if canB needs tok = true then
      match giveT gives (lessT needs tok) with
      | some t => (some t, 0)
      | none => (none, 5)
    else (none, 6)
  else (none, 4)
end Go.Proofs.YtlophgkgmhcagaaDoor.AM
