/- The abstract machine, part Q: guarded operations without a fork. -/
import Derived.Test.YtlophgkgmhcagaaDoorAmP
set_option linter.unusedVariables false
set_option linter.unusedSimpArgs false
namespace Go.Proofs.YtlophgkgmhcagaaDoor.AM
open Go

theorem inR_i64 (n : Int) : inR .i64 n = (decide (-9223372036854775808 ≤ n) && decide (n ≤ 9223372036854775807)) := rfl
theorem inR_u64 (n : Int) : inR .u64 n = (decide (0 ≤ n) && decide (n ≤ 18446744073709551615)) := rfl
theorem inR_u32 (n : Int) : inR .u32 n = (decide (0 ≤ n) && decide (n ≤ 4294967295)) := rfl
theorem inR_i32 (n : Int) : inR .i32 n = (decide (-2147483648 ≤ n) && decide (n ≤ 2147483647)) := rfl
theorem inR_u8 (n : Int) : inR .u8 n = (decide (0 ≤ n) && decide (n ≤ 255)) := rfl

/-- What a guarded operation leaves: its value, or nothing. -/
def gate (w : Bool) (v : AV) : AV := if w = true then v else .undef

theorem gate_true (v : AV) : gate true v = v := rfl
theorem gate_false (v : AV) : gate false v = .undef := rfl
theorem selA_true (x y : AV) : selA true x y = x := by unfold selA; split <;> rfl
theorem selA_false (x y : AV) : selA false x y = y := by unfold selA; split <;> rfl
theorem selA_or (t x : Bool) : selA t (.b true) (gate (!t) (.b x)) = .b (t || x) := by cases t <;> rfl
theorem selA_or2 (t x : Bool) : selA (!t) (.b true) (gate t (.b x)) = .b (!t || x) := by cases t <;> rfl
theorem selA_and (t x : Bool) : selA t (gate t (.b x)) (.b false) = .b (t && x) := by cases t <;> rfl

/-- Whether a guard is met. -/
def wantOf : Option AV → Bool → Option Bool
  | some (.p (.bool g)), want => some (g == want)
  | some (.tup []), _ => some false
  | _, _ => none
theorem wantOf_b (g want : Bool) : wantOf (some (.p (.bool g))) want = some (g == want) := rfl
theorem wantOf_u (want : Bool) : wantOf (some (.tup [])) want = some false := rfl
theorem wantOf_g (u x want : Bool) : wantOf (some (gate u (.p (.bool x)))) want = some (u && (x == want)) := by cases u <;> rfl
theorem wantA_eq (ops : Array Oper) (o : Oper) (s : St) : wantA ops o s = match o.guard with | none => some true | some (j, want) => wantOf (guardA ops s j) want := by
  unfold wantA
  cases o.guard with
  | none => rfl
  | some q =>
    obtain ⟨j, want⟩ := q
    dsimp only
    generalize guardA ops s j = g
    cases g with
    | none => rfl
    | some v =>
      cases v with
      | p x => cases x <;> rfl
      | tup l => cases l <;> rfl
      | _ => rfl

theorem condA_b (t : Bool) (X Y : Prop) : condA (some (.p (.bool t))) X Y = ((t = true → X) ∧ (t = false → Y)) := rfl

/-- A guarded operation, the two ways of it joined. -/
theorem join_x {K : St → Prop} {X : Prop} {b : Bool} {fr : Nat → Option AV} {nt d : Nat} {hp : Heap} {v : AV} (hv : b = true → K ⟨upd fr d v, nt, hp⟩ → X) (hk : K ⟨upd fr d (gate b v), nt, hp⟩) : (b = true → X) ∧ (b = false → K ⟨upd fr d (.tup []), nt, hp⟩) := by
  cases b with
  | true => exact ⟨fun _ => hv rfl hk, fun h => (by cases h)⟩
  | false => exact ⟨fun h => (by cases h), fun _ => hk⟩

section
variable {P : Program} {G : Nat → Option (List PV)} {rl : List String} {ops : Array Oper} {o : Oper} {K : St → Prop} {s : St}

theorem awp_cond_k {h0 : Heap} {c : Operand} {x y : Code} {Q : Exit → St → Prop} (h : ∀ A B : Prop, (awp P G rl h0 x Q s → A) → (awp P G rl h0 y Q s → B) → condA (evalA G s c) A B) : awp P G rl h0 (.cond c x y) Q s :=
  h _ _ id id

/-- What an operation makes, where it is carried out, if it leaves the heap alone. -/
def Makes (P : Program) (G : Nat → Option (List PV)) (rl : List String) (o : Oper) (s : St) (v : AV) : Prop :=
  match callOf o with
  | some (f, args) => match evalA G s f, evals (evalA G s) args.toList with
    | some (.fn g caps), some xs => Enters P g ∧ ACalls P G g (xs ++ caps) s.heap (fun r' h' => r' = v ∧ h' = s.heap)
    | _, _ => False
  | none => opA P rl o (evalA G s) s.heap = some (v, s.heap)

theorem Makes.exec {v : AV} (h : Makes P G rl o s v) (hk : K (s.put o.dst v)) : aexec P G rl o K s := by
  unfold Makes at h
  unfold aexec
  split at h
  · rename_i f args e
    rw [e]
    dsimp only
    split at h
    · rename_i g caps xs e1 e2
      rw [e1, e2]
      exact ⟨h.1, h.2.mono fun r h' ⟨e1, e2⟩ => by subst e1; subst e2; exact hk⟩
    · exact h.elim
  · rename_i e
    rw [e]
    dsimp only
    rw [h]
    exact hk

theorem Makes.quiet {v : AV} (h : Makes P G rl o s v) (hk : K (s.put o.dst v)) : aquiet P G rl o K s := by
  unfold Makes at h
  unfold aquiet
  split at h
  · rename_i f args e
    rw [e]
    dsimp only
    split at h
    · rename_i g caps xs e1 e2
      rw [e1, e2]
      exact ⟨h.1, v, h.2, hk⟩
    · exact h.elim
  · rename_i e
    rw [e]
    dsimp only
    rw [h]
    exact ⟨rfl, hk⟩

theorem aop_gate {w : Bool} (hw : wantA ops o s = some w) (v : AV) (hv : w = true → Makes P G rl o s v) (hk : K (s.put o.dst (gate w v))) : aop P G rl ops o K s := by
  unfold aop
  rw [hw]
  refine ⟨fun e => ?_, fun e => ?_⟩
  · subst e; exact (hv rfl).exec hk
  · subst e; exact hk

theorem aqop_gate {w : Bool} (hw : wantA ops o s = some w) (v : AV) (hv : w = true → Makes P G rl o s v) (hk : K (s.put o.dst (gate w v))) : aqop P G rl ops o K s := by
  unfold aqop
  rw [hw]
  refine ⟨fun e => ?_, fun e => ?_⟩
  · subst e; exact (hv rfl).quiet hk
  · subst e; exact hk

theorem want_bt {j : Nat} {x : Bool} (hg : o.guard = some (j, true)) (hs : guardA ops s j = some (.b x)) : wantA ops o s = some x := by unfold wantA; rw [hg]; simp only [hs]; cases x <;> rfl
theorem want_bf {j : Nat} {x : Bool} (hg : o.guard = some (j, false)) (hs : guardA ops s j = some (.b x)) : wantA ops o s = some (!x) := by unfold wantA; rw [hg]; simp only [hs]; cases x <;> rfl
theorem want_gt {j : Nat} {u x : Bool} (hg : o.guard = some (j, true)) (hs : guardA ops s j = some (gate u (.b x))) : wantA ops o s = some (u && x) := by unfold wantA; rw [hg]; simp only [hs]; cases u <;> cases x <;> rfl
theorem want_gf {j : Nat} {u x : Bool} (hg : o.guard = some (j, false)) (hs : guardA ops s j = some (gate u (.b x))) : wantA ops o s = some (u && !x) := by unfold wantA; rw [hg]; simp only [hs]; cases u <;> cases x <;> rfl

theorem aop_bt {j : Nat} {x : Bool} (hg : o.guard = some (j, true)) (hs : guardA ops s j = some (.b x)) {v : AV} (hv : x = true → Makes P G rl o s v) (hk : K (s.put o.dst (gate x v))) : aop P G rl ops o K s := aop_gate (want_bt hg hs) v hv hk
theorem aop_bf {j : Nat} {x : Bool} (hg : o.guard = some (j, false)) (hs : guardA ops s j = some (.b x)) {v : AV} (hv : (!x) = true → Makes P G rl o s v) (hk : K (s.put o.dst (gate (!x) v))) : aop P G rl ops o K s := aop_gate (want_bf hg hs) v hv hk
theorem aop_gt {j : Nat} {u x : Bool} (hg : o.guard = some (j, true)) (hs : guardA ops s j = some (gate u (.b x))) {v : AV} (hv : x = true → u = true → Makes P G rl o s v) (hk : K (s.put o.dst (gate (u && x) v))) : aop P G rl ops o K s := aop_gate (want_gt hg hs) v (fun h => hv (by cases u <;> simp_all) (by cases u <;> simp_all)) hk
theorem aop_gf {j : Nat} {u x : Bool} (hg : o.guard = some (j, false)) (hs : guardA ops s j = some (gate u (.b x))) {v : AV} (hv : (!x) = true → u = true → Makes P G rl o s v) (hk : K (s.put o.dst (gate (u && !x) v))) : aop P G rl ops o K s := aop_gate (want_gf hg hs) v (fun h => hv (by cases u <;> simp_all) (by cases u <;> simp_all)) hk
theorem aqop_bt {j : Nat} {x : Bool} (hg : o.guard = some (j, true)) (hs : guardA ops s j = some (.b x)) {v : AV} (hv : x = true → Makes P G rl o s v) (hk : K (s.put o.dst (gate x v))) : aqop P G rl ops o K s := aqop_gate (want_bt hg hs) v hv hk
theorem aqop_bf {j : Nat} {x : Bool} (hg : o.guard = some (j, false)) (hs : guardA ops s j = some (.b x)) {v : AV} (hv : (!x) = true → Makes P G rl o s v) (hk : K (s.put o.dst (gate (!x) v))) : aqop P G rl ops o K s := aqop_gate (want_bf hg hs) v hv hk
theorem aqop_gt {j : Nat} {u x : Bool} (hg : o.guard = some (j, true)) (hs : guardA ops s j = some (gate u (.b x))) {v : AV} (hv : x = true → u = true → Makes P G rl o s v) (hk : K (s.put o.dst (gate (u && x) v))) : aqop P G rl ops o K s := aqop_gate (want_gt hg hs) v (fun h => hv (by cases u <;> simp_all) (by cases u <;> simp_all)) hk
theorem aqop_gf {j : Nat} {u x : Bool} (hg : o.guard = some (j, false)) (hs : guardA ops s j = some (gate u (.b x))) {v : AV} (hv : (!x) = true → u = true → Makes P G rl o s v) (hk : K (s.put o.dst (gate (u && !x) v))) : aqop P G rl ops o K s := aqop_gate (want_gf hg hs) v (fun h => hv (by cases u <;> simp_all) (by cases u <;> simp_all)) hk

end
end Go.Proofs.YtlophgkgmhcagaaDoor.AM
