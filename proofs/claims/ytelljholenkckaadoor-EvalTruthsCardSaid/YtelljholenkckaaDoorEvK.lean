/- Right terms, and what they are. -/
-- TYPES: 3 4 22 24 25 31 53 54
import Derived.Test.YtelljholenkckaaDoorEvJ
import Derived.Test.YtelljholenkckaaDoorEvH
set_option linter.unusedVariables false
set_option linter.unusedSimpArgs false
set_option maxRecDepth 4000
set_option maxHeartbeats 4000000
namespace Go.Proofs.YtelljholenkckaaDoor.AM
open Go Go.Proofs
attribute [local irreducible] awp aops aqops
variable {G : Nat → Option (List PV)}

/-- A right term; true: of a truth. -/
inductive Good : Tm → Bool → Prop where
  | num (n : Int) (h1 : 0 ≤ n) (h2 : n ≤ 1099511627776) : Good (.mk 1 n []) false
  | var (n : Int) (h : n = 0 ∨ n = 1 ∨ n = 2 ∨ n = 3) : Good (.mk 2 n []) false
  | neg (a : Tm) (h : Good a false) : Good (.mk 3 0 [a]) false
  | not (a : Tm) (h : Good a true) : Good (.mk 4 0 [a]) true
  | bin (o : Int) (a b : Tm) (h1 : 5 ≤ o) (h2 : o ≤ 9) (ha : Good a false) (hb : Good b false) : Good (.mk o 0 [a, b]) false
  | cmp (o : Int) (a b : Tm) (h1 : 10 ≤ o) (h2 : o ≤ 12) (ha : Good a false) (hb : Good b false) : Good (.mk o 0 [a, b]) true
  | log (o : Int) (a b : Tm) (h : o = 13 ∨ o = 14) (ha : Good a true) (hb : Good b true) : Good (.mk o 0 [a, b]) true

theorem good_of (t : Tm) : t.form = true → t.typed = true → Good t (truthOp t.op) := by
  refine Tm.ind (p := fun t => t.form = true → t.typed = true → Good t (truthOp t.op)) (fun t ih hf ht => ?_) t
  rw [Tm.form_eq, Bool.and_eq_true, List.all_eq_true] at hf
  rw [Tm.typed_eq, List.all_eq_true] at ht
  obtain ⟨h1, h2⟩ := hf
  cases t with
  | mk o n ks =>
    simp only [Tm.op, Tm.n, Tm.kids] at *
    simp only [headOk, Bool.and_eq_true, decide_eq_true_eq] at h1
    obtain ⟨⟨⟨⟨⟨⟨g1, g2⟩, g3⟩, g4⟩, g5⟩, g6⟩, g7⟩ := h1
    have hk : ∀ k ∈ ks, truthOp k.op = wantOp o ∧ Good k (wantOp o) := fun k hm => by
      have := ht k hm
      simp only [kidTyped, Bool.and_eq_true, beq_iff_eq] at this
      exact ⟨this.1, this.1 ▸ ih k hm (h2 k hm) this.2⟩
    unfold kidsN at g3
    match ks, hk, g3 with
    | [], hk, g3 =>
      have : o = 1 ∨ o = 2 := by
        simp only [List.length_nil] at g3
        split at g3
        · omega
        · split at g3 <;> omega
      rcases this with rfl | rfl
      · exact Good.num n g4 (g5 rfl)
      · exact Good.var n (by have := g6 rfl; omega)
    | [a], hk, g3 =>
      have : o = 3 ∨ o = 4 := by
        simp only [List.length_cons, List.length_nil] at g3
        split at g3
        · omega
        · split at g3 <;> omega
      have ha := (hk a (by simp)).2
      have hn := g7 (by omega)
      subst hn
      rcases this with rfl | rfl
      · exact Good.neg a ha
      · exact Good.not a ha
    | [a, b], hk, g3 =>
      have h5 : 5 ≤ o := by
        simp only [List.length_cons, List.length_nil] at g3
        split at g3
        · omega
        · split at g3 <;> omega
      have ha := (hk a (by simp)).2
      have hb := (hk b (by simp)).2
      have hn := g7 (by omega)
      subst hn
      rcases (by omega : o ≤ 9 ∨ (10 ≤ o ∧ o ≤ 12) ∨ (o = 13 ∨ o = 14)) with e | e | e
      · have w : wantOp o = false := by unfold wantOp; simp; omega
        have u : truthOp o = false := by unfold truthOp; simp; omega
        rw [w] at ha hb; rw [u]
        exact Good.bin o a b h5 e ha hb
      · have w : wantOp o = false := by unfold wantOp; simp; omega
        have u : truthOp o = true := by unfold truthOp; simp; omega
        rw [w] at ha hb; rw [u]
        exact Good.cmp o a b e.1 e.2 ha hb
      · have w : wantOp o = true := by unfold wantOp; simp; omega
        have u : truthOp o = true := by unfold truthOp; simp; omega
        rw [w] at ha hb; rw [u]
        exact Good.log o a b e ha hb
    | a :: b :: c :: r, hk, g3 =>
      exfalso
      simp only [List.length_cons] at g3
      split at g3
      · omega
      · split at g3 <;> omega

def evOp (v : Int → Int) (o n : Int) : List (Int × Bool × Int) → Int × Bool × Int
  | [] => if o = 1 then (n, false, 0) else (v n, false, 0)
  | [a] => if a.2.2 ≠ 0 then (0, false, a.2.2) else if o = 3 then (-a.1, false, 0) else (0, !a.2.1, 0)
  | a :: b :: _ => if a.2.2 ≠ 0 then (0, false, a.2.2) else if o = 13 then (if a.2.1 then b else a) else if o = 14 then (if a.2.1 then a else b)
    else if b.2.2 ≠ 0 then (0, false, b.2.2) else sumS o a.1 b.1

def ev (v : Int → Int) : Tm → Int × Bool × Int
  | .mk o n ks => evOp v o n (ks.map (ev v))

theorem ev_nil (v : Int → Int) (o n : Int) : ev v (.mk o n []) = if o = 1 then (n, false, 0) else (v n, false, 0) := by simp [ev, evOp]
theorem ev_one (v : Int → Int) (o n : Int) (a : Tm) : ev v (.mk o n [a]) = if (ev v a).2.2 ≠ 0 then (0, false, (ev v a).2.2) else if o = 3 then (-(ev v a).1, false, 0) else (0, !(ev v a).2.1, 0) := by simp [ev, evOp]
theorem ev_two (v : Int → Int) (o n : Int) (a b : Tm) : ev v (.mk o n [a, b]) = if (ev v a).2.2 ≠ 0 then (0, false, (ev v a).2.2) else if o = 13 then (if (ev v a).2.1 then ev v b else ev v a) else if o = 14 then (if (ev v a).2.1 then ev v a else ev v b)
    else if (ev v b).2.2 ≠ 0 then (0, false, (ev v b).2.2) else sumS o (ev v a).1 (ev v b).1 := by simp [ev, evOp]

theorem prodS_num {a b : Int} : Num (prodS a b).1 ∧ ((prodS a b).2 ≠ 0 → (prodS a b).1 = 0) ∧ ((prodS a b).2 = 0 ∨ (prodS a b).2 = 40) := by
  unfold prodS
  split
  · exact ⟨⟨by decide, by decide⟩, fun _ => rfl, .inr rfl⟩
  · rename_i h
    refine ⟨?_, fun h => absurd rfl h, .inl rfl⟩
    by_cases hb : b = 0
    · subst hb; simp; exact ⟨by decide, by decide⟩
    · exact prod_num hb fun e => h ⟨hb, e⟩

theorem sumS_num {o a b : Int} (ha : Num a) : Num (sumS o a b).1 ∧ ((sumS o a b).2.2 ≠ 0 → (sumS o a b).1 = 0 ∧ (sumS o a b).2.1 = false) ∧ ((sumS o a b).2.2 = 0 ∨ (sumS o a b).2.2 = 40 ∨ (sumS o a b).2.2 = 41) := by
  have z : Num 0 := ⟨by decide, by decide⟩
  have hp := prodS_num (a := a) (b := b)
  unfold sumS
  repeat' split
  all_goals first
    | exact ⟨z, fun h => ⟨rfl, rfl⟩, .inr (.inl rfl)⟩
    | exact ⟨z, fun h => ⟨rfl, rfl⟩, .inr (.inr rfl)⟩
    | exact ⟨z, fun h => absurd rfl h, .inl rfl⟩
    | exact ⟨tdiv_num ha, fun h => absurd rfl h, .inl rfl⟩
    | exact ⟨tmod_num ha, fun h => absurd rfl h, .inl rfl⟩
    | exact ⟨hp.1, fun h => ⟨hp.2.1 h, rfl⟩, by rcases hp.2.2 with e | e <;> simp [e]⟩
    | exact ⟨(by unfold Num; dsimp only; omega), fun h => absurd rfl h, .inl rfl⟩

/-- A number is one; behind a fault there is nothing; which faults there are. -/
theorem ev_good {v : Int → Int} (hv : ∀ i, Num (v i)) {t : Tm} {k : Bool} (h : Good t k) : (k = false → Num (ev v t).1) ∧ ((ev v t).2.2 ≠ 0 → (ev v t).1 = 0 ∧ (ev v t).2.1 = false) ∧ ((ev v t).2.2 = 0 ∨ (ev v t).2.2 = 40 ∨ (ev v t).2.2 = 41) := by
  have z : Num 0 := ⟨by decide, by decide⟩
  induction h with
  | num n h1 h2 => rw [ev_nil]; simp; unfold Num; omega
  | var n h => rw [ev_nil, if_neg (by decide)]; exact ⟨fun _ => hv n, fun h => absurd rfl h, .inl rfl⟩
  | neg a h ih =>
    rw [ev_one]
    split
    · rename_i e; exact ⟨fun _ => z, fun _ => ⟨rfl, rfl⟩, ih.2.2⟩
    · have := ih.1 rfl
      rw [if_pos rfl]
      exact ⟨fun _ => (by unfold Num at *; simp only; omega), fun h => absurd rfl h, .inl rfl⟩
  | not a h ih =>
    rw [ev_one]
    split
    · exact ⟨fun _ => z, fun _ => ⟨rfl, rfl⟩, ih.2.2⟩
    · rw [if_neg (by decide)]; exact ⟨fun e => (by cases e), fun h => absurd rfl h, .inl rfl⟩
  | bin o a b h1 h2 ha hb iha ihb =>
    rw [ev_two]
    split
    · exact ⟨fun _ => z, fun _ => ⟨rfl, rfl⟩, iha.2.2⟩
    · rw [if_neg (by omega), if_neg (by omega)]
      split
      · exact ⟨fun _ => z, fun _ => ⟨rfl, rfl⟩, ihb.2.2⟩
      · have := sumS_num (o := o) (b := (ev v b).1) (iha.1 rfl)
        exact ⟨fun _ => this.1, this.2⟩
  | cmp o a b h1 h2 ha hb iha ihb =>
    rw [ev_two]
    split
    · exact ⟨fun _ => z, fun _ => ⟨rfl, rfl⟩, iha.2.2⟩
    · rw [if_neg (by omega), if_neg (by omega)]
      split
      · exact ⟨fun _ => z, fun _ => ⟨rfl, rfl⟩, ihb.2.2⟩
      · have := sumS_num (o := o) (b := (ev v b).1) (iha.1 rfl)
        exact ⟨fun e => (by cases e), this.2⟩
  | log o a b h ha hb iha ihb =>
    rw [ev_two]
    split
    · exact ⟨fun e => (by cases e), fun _ => ⟨rfl, rfl⟩, iha.2.2⟩
    · rcases h with rfl | rfl
      · rw [if_pos rfl]; split
        · exact ⟨fun e => (by cases e), ihb.2⟩
        · exact ⟨fun e => (by cases e), iha.2⟩
      · rw [if_neg (by decide), if_pos rfl]; split
        · exact ⟨fun e => (by cases e), iha.2⟩
        · exact ⟨fun e => (by cases e), ihb.2⟩
end Go.Proofs.YtelljholenkckaaDoor.AM
