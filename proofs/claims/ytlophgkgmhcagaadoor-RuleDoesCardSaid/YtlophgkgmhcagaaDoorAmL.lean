/- The abstract machine, part L: code, and functions. -/
import Derived.Test.YtlophgkgmhcagaaDoorAmK
set_option linter.unusedVariables false
set_option linter.unusedSimpArgs false
namespace Go.Proofs.YtlophgkgmhcagaaDoor.AM
open Go

theorem wp_loop_n {P : Program} {Q : Exit → Act → World → Prop} {c : Code} (I : Nat → Act → World → Prop)
    (round : ∀ n a w, I n a w → c.wp P (Exit.then (fun a' w' => ∃ m, m < n ∧ I m a' w') Q) a w) (n : Nat) (a : Act) (w : World) (h₀ : I n a w) : (Code.loop c).wp P Q a w := by
  intro b k cs
  have key : ∀ n a w, I n a w →
      ∃ e a' w', Q e a' w' ∧ Arrives P (lone (b.at a (.code c :: .inLoop c :: k)) cs w) b k cs e a' w' := by
    intro n
    induction n using Nat.strongRecOn with
    | _ n ih =>
      intro a w hI
      obtain ⟨e, a₁, w₁, hq, harr⟩ := round n a w hI b (.inLoop c :: k) cs
      cases e with
      | normal =>
        obtain ⟨m, hlt, hI₁⟩ := hq
        obtain ⟨e₂, a₂, w₂, hq₂, harr₂⟩ := ih m hlt a₁ w₁ hI₁
        exact ⟨e₂, a₂, w₂, hq₂, .of_steps (Steps.trans harr (.one step_inLoop)) harr₂⟩
      | exit id => exact ⟨_, a₁, w₁, hq, .pass (x := .inLoop c) rfl (fun _ _ => .inl (by simp)) harr⟩
      | goto l => exact ⟨_, a₁, w₁, hq, .pass (x := .inLoop c) rfl (fun _ _ => .inl (by simp)) harr⟩
      | ret => exact ⟨_, a₁, w₁, hq, .pass (x := .inLoop c) rfl (fun _ _ => .inl (by simp)) harr⟩
      | panic ch => exact ⟨_, a₁, w₁, hq, .pass (x := .inLoop c) rfl (fun _ _ => .inl (by simp)) harr⟩
      | outgrown => exact ⟨_, a₁, w₁, hq, .pass (x := .inLoop c) rfl (fun _ _ => .inl (by simp)) harr⟩
  obtain ⟨e, a', w', hq, harr⟩ := key n a w h₀
  exact ⟨e, a', w', hq, .of_steps (.one step_loop) harr⟩

section
variable {P : Program} {G : Nat → Option (List PV)} {rl : List String} {ι ι' ι0 : Nat → Nat × Nat} {h h' h0 : Heap} {w w' w0 : World} {n0 : Nat} {s : St} {a : Act}

def Lift (P : Program) (G : Nat → Option (List PV)) (ι0 : Nat → Nat × Nat) (h0 : Heap) (w0 : World) (Q : Exit → St → Prop) : Exit → Act → World → Prop :=
  fun e a w => ∃ s ι, Q e s ∧ Sim P G ι s a w ∧ Evo h0.length ι0 h0 w0 ι s.heap w

theorem awp_sound (hm : P.follows .mixedOrders = true) (hS0 : SimH P G ι0 h0 w0) : ∀ (c : Code) (Q : Exit → St → Prop) (s : St) (ι : Nat → Nat × Nat) (a : Act) (w : World), Sim P G ι s a w → Evo h0.length ι0 h0 w0 ι s.heap w →
    awp P G rl h0 c Q s → c.wp P (Lift P G ι0 h0 w0 Q) a w := by
  intro c
  induction c with
  | skip => intro Q s ι a w hs he h; exact wp_skip ⟨s, ι, h, hs, he⟩
  | label l => intro Q s ι a w hs he h; exact wp_label ⟨s, ι, h, hs, he⟩
  | region id ops draw =>
    intro Q s ι a w hs he h
    unfold awp at h
    split at h
    · rename_i hd; subst hd
      rcases h with h | h | ⟨s1, base, r, ord, hg, hl, hB, hi, hr⟩
      · exact draw_sound hm (fun s' ι' a' w' hq hs' he' => ⟨s', ι', hq, hs', he'⟩) hs he h.1 h.2
      · exact drawE_sound hm (fun s' ι' a' w' hq hs' he' => ⟨s', ι', hq, hs', he'⟩) hs he h.1 h.2
      · obtain ⟨ι1, hs1, he1⟩ := hg ι a w ι0 w0 hS0 hs he
        exact drawR_sound hm (fun s' ι' a' w' hq hs' he' => ⟨s', ι', hq, hs', he'⟩) hs1 he1 hl hB hi hr
    · rename_i hd
      have : draw = false := by simpa using hd
      subst this
      exact wp_region_list (aops_sound (fun s' ι' a' w' hq hs' he' => ⟨s', ι', hq, hs', he'⟩) ops.toList s ι a w hs he h)
  | seq x y ihx ihy =>
    intro Q s ι a w hs he ⟨J, h, hJ⟩
    refine wp_seq (wp_mono (ihx _ s ι a w hs he h) fun e a' w' ⟨s', ι', hq, hs', he'⟩ => ?_)
    cases e with
    | normal =>
      obtain ⟨s1, hg, hj⟩ := hq
      obtain ⟨ι1, hs1, he1⟩ := hg ι' a' w' ι0 w0 hS0 hs' he'
      exact ihy Q s1 ι1 a' w' hs1 he1 (hJ s1 hj)
    | _ => exact ⟨s', ι', hq, hs', he'⟩
  | cond c x y ihx ihy =>
    intro Q s ι a w hs he h
    unfold awp condA at h
    split at h
    · rename_i t ht
      have := (hs.eval ht).bool_inv
      refine wp_cond_split this (fun e => ihx Q s ι a w hs he (h.1 e)) (fun e => ihy Q s ι a w hs he (h.2 e))
    · exact h.elim
  | block id c ih =>
    intro Q s ι a w hs he h
    refine wp_block (wp_mono (ih _ s ι a w hs he h) fun e a' w' ⟨s', ι', hq, hs', he'⟩ => ?_)
    cases e with
    | exit i =>
      simp only [Exit.inBlock]
      simp only [blockA] at hq
      split
      · rename_i hi; simp only [hi, if_true] at hq; exact ⟨s', ι', hq, hs', he'⟩
      · rename_i hi; simp only [hi, if_false] at hq; exact ⟨s', ι', hq, hs', he'⟩
    | _ => exact ⟨s', ι', hq, hs', he'⟩
  | loop c ih =>
    intro Q s ι a w hs he ⟨I, ⟨n, s1, hg, hn⟩, hr⟩
    obtain ⟨ι1, hs1, he1⟩ := hg ι a w ι0 w0 hS0 hs he
    refine wp_loop_n (fun n a w => ∃ s ι, I n s ∧ Sim P G ι s a w ∧ Evo h0.length ι0 h0 w0 ι s.heap w) (fun n a w ⟨s, ι, hi, hs, he⟩ => ?_) n a w ⟨s1, ι1, hn, hs1, he1⟩
    refine wp_mono (ih _ s ι a w hs he (hr n s hi)) fun e a' w' ⟨s', ι', hq, hs', he'⟩ => ?_
    cases e with
    | normal =>
      obtain ⟨m, s2, hlt, hg2, hm⟩ := hq
      obtain ⟨ι2, hs2, he2⟩ := hg2 ι' a' w' ι0 w0 hS0 hs' he'
      exact ⟨m, hlt, s2, ι2, hm, hs2, he2⟩
    | _ => exact ⟨s', ι', hq, hs', he'⟩
  | exit id => intro Q s ι a w hs he h; exact wp_exit ⟨s, ι, h, hs, he⟩
  | ret => intro Q s ι a w hs he h; exact wp_ret ⟨s, ι, h, hs, he⟩
  | _ => intros; contradiction

/-! ### What a function hands back -/

def resA1 (P : Program) (s : St) : ResultVar → Option AV
  | .tmp t => s.fr t
  | .cell a t => (s.fr a).bind fun x => loadA P s.heap t x

def resL (P : Program) (s : St) : List ResultVar → Option (List AV)
  | [] => some []
  | r :: rest => match resA1 P s r, resL P s rest with
    | some x, some xs => some (x :: xs)
    | _, _ => none

def resA (P : Program) (s : St) (rs : List ResultVar) : Option AV :=
  match resL P s rs with
  | some [x] => some x
  | some xs => some (.tup xs)
  | none => none

def resSem (tmps : Array Value) : ResultVar → Sem Value
  | .tmp t => Pure.pure (tmps.getD t undef)
  | .cell a t => do loadVar t (← asAddr (tmps.getD a undef))

theorem results_eq (fn : Func) (tmps : Array Value) : results fn tmps = (do let vs ← fn.results.mapM (resSem tmps); Pure.pure (if h : vs.size = 1 then vs[0] else .tuple vs)) := by
  unfold results
  congr 1

theorem resA1_sound (hs : Sim P G ι s a w) {r : ResultVar} {x : AV} (hx : resA1 P s r = some x) :
    ∃ v, (resSem a.tmps r).run P w = .ok v w ∧ VRel ι s.heap w x v := by
  cases r with
  | tmp t =>
    obtain ⟨v, h1, h2⟩ := hs.fr t x hx
    exact ⟨v, by simp [resSem, h1], h2⟩
  | cell b t =>
    obtain ⟨y, hy, hl⟩ := Option.bind_eq_some_iff.mp hx
    obtain ⟨v, h1, h2⟩ := hs.fr b y hy
    obtain ⟨u, e1, e2⟩ := load_sound (P := P) hs.hS h2 hl
    refine ⟨u, ?_, e2⟩
    have hv : a.tmps.getD b undef = v := by simp [h1]
    simp only [resSem, hv, Sem.run_bind]
    unfold loadA at hl
    cases h2 with
    | ptr b g off A hb hg hlv =>
      split at hl
      · rename_i i b' g' off' ht hq
        cases hq
        obtain ⟨cells, hb', _⟩ := Option.bind_eq_some_iff.mp hl
        have := hlv (blkAt_live hb')
        subst this
        simpa [Instr.loadAt, Instr.sureAddr, asAddr] using e1
      · rename_i hq; cases hq
      · cases hl
    | pin cells blk off hv => simpa [Instr.loadAt, Instr.sureAddr, asAddr] using e1
    | p => simp at hl
    | agg => simp at hl
    | tup => simp at hl
    | fn => simp at hl
    | ref => simp at hl

theorem resL_sound (hs : Sim P G ι s a w) : ∀ (rs : List ResultVar) (xs : List AV), resL P s rs = some xs →
    ∃ vs : List Value, (rs.mapM (resSem a.tmps)).run P w = .ok vs w ∧ xs.length = vs.length ∧
      ∀ (i : Nat) x v, xs[i]? = some x → vs[i]? = some v → VRel ι s.heap w x v
  | [], xs, h => by cases h; exact ⟨[], rfl, rfl, fun i x v hx => by simp at hx⟩
  | r :: rest, xs, h => by
    simp only [resL] at h
    split at h
    · rename_i x xs' h1 h2
      cases h
      obtain ⟨v, e1, e2⟩ := resA1_sound hs h1
      obtain ⟨vs, p1, p2, p3⟩ := resL_sound hs rest xs' h2
      refine ⟨v :: vs, ?_, by simp [p2], fun i y u hy hu => ?_⟩
      · simp only [List.mapM_cons, Sem.run_bind]
        rw [e1]
        simp only [Result.andThen_ok]
        rw [p1]
        rfl
      · cases i with
        | zero => simp at hy hu; rw [← hy, ← hu]; exact e2
        | succ i => simp at hy hu; exact p3 i y u hy hu
    · cases h

theorem resA_sound (hs : Sim P G ι s a w) {fn : Func} {x : AV} (hx : resA P s fn.results.toList = some x) : ∃ v, (results fn a.tmps).run P w = .ok v w ∧ VRel ι s.heap w x v := by
  unfold resA at hx
  cases hl : resL P s fn.results.toList with
  | none => simp [hl] at hx
  | some xs =>
    obtain ⟨vs, p1, p2, p3⟩ := resL_sound hs _ xs hl
    have hrun : (results fn a.tmps).run P w = .ok (if h : vs.toArray.size = 1 then vs.toArray[0] else .tuple vs.toArray) w := by
      rw [results_eq, Array.mapM_eq_mapM_toList]
      simp only [Sem.run_bind, Sem.run_map]
      rw [p1]
      rfl
    refine ⟨_, hrun, ?_⟩
    simp only [hl] at hx
    split at hx
    · rename_i y hy
      cases hx
      cases hy
      have h1 : vs.length = 1 := by simpa using p2.symm
      simp only [List.size_toArray, h1, dite_true]
      exact p3 0 x _ rfl (by simp [h1])
    · rename_i xs' hne hy
      cases hy
      cases hx
      have h1 : ¬ vs.length = 1 := by
        intro e
        have : xs.length = 1 := by omega
        obtain ⟨y, hy⟩ := List.length_eq_one_iff.mp this
        exact hne y (by rw [hy])
      simp only [List.size_toArray, h1, dite_false]
      exact .tup _ _ (by simpa using p2) fun i x v hx hv => p3 i x v hx (by simpa using hv)
    · rename_i hq; cases hq

end
end Go.Proofs.YtlophgkgmhcagaaDoor.AM
