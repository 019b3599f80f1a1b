/- The abstract machine, part J: regions, in the order of the text and in any order; code; calls. -/
import Derived.Test.YtlophgkgmhcagaaDoorAmI
set_option linter.unusedVariables false
set_option linter.unusedSimpArgs false
namespace Go.Proofs.YtlophgkgmhcagaaDoor.AM
open Go

structure Sim (P : Program) (G : Nat → Option (List PV)) (ι : Nat → Nat × Nat) (s : St) (a : Act) (w : World) : Prop where
  hS : SimH P G ι s.heap w
  fr : ∀ (k : Nat) x, s.fr k = some x → ∃ v, a.tmps[k]? = some v ∧ VRel ι s.heap w x v
  nt : a.tmps.size = s.nt
  df : a.defers = []

section
variable {P : Program} {G : Nat → Option (List PV)} {rl : List String} {ι ι' ι0 : Nat → Nat × Nat} {h h' h0 : Heap} {w w' w0 : World} {n0 : Nat} {s : St} {a : Act} {ops : Array Oper}

theorem Sim.eval (hs : Sim P G ι s a w) {x : Operand} {v : AV} (hx : evalA G s x = some v) : VRel ι s.heap w v (a.eval x) := by
  cases x with
  | tmp t =>
    obtain ⟨u, h1, h2⟩ := hs.fr t v hx
    simpa [Act.eval, h1] using h2
  | const u => exact constA_rel hx
  | global g =>
    obtain ⟨cells, hg, rfl⟩ := Option.map_eq_some_iff.mp hx
    exact .pin _ _ _ (hs.hS.gr g cells hg)
  | func f =>
    simp only [evalA] at hx
    cases hx
    exact .fn _ _ _ rfl fun i x v hx _ => by simp at hx

theorem Sim.put (hs : Sim P G ι s a w) (hS : SimH P G ι' h' w') (he : Evo s.heap.length ι s.heap w ι' h' w') (dst : Option Nat) {r : AV} {v : Value} (hr : VRel ι' h' w' r v) :
    Sim P G ι' ({ s with heap := h' }.put dst r) (a.put dst v) w' := by
  cases dst with
  | none => exact ⟨hS, fun k x hx => by obtain ⟨u, h1, h2⟩ := hs.fr k x hx; exact ⟨u, h1, h2.evo he⟩, hs.nt, hs.df⟩
  | some d =>
    simp only [St.put, Act.put]
    split
    · rename_i hd
      refine ⟨hS, fun k x hx => ?_, by simp [hs.nt], hs.df⟩
      simp only [upd] at hx
      split at hx
      · rename_i hk; subst hk
        cases hx
        exact ⟨v, by simp [hs.nt, hd], hr⟩
      · rename_i hk
        obtain ⟨u, h1, h2⟩ := hs.fr k x hx
        exact ⟨u, by rw [Array.getElem?_setIfInBounds_ne (fun e => hk e.symm)]; exact h1, h2.evo he⟩
    · rename_i hd
      refine ⟨hS, fun k x hx => ?_, by simp [hs.nt], hs.df⟩
      obtain ⟨u, h1, h2⟩ := hs.fr k x hx
      have hk : d ≠ k := by
        intro e; subst e
        have := hs.nt
        have hlt : d < a.tmps.size := by
          rcases Nat.lt_or_ge d a.tmps.size with h | h
          · exact h
          · simp [Array.getElem?_eq_none h] at h1
        simp at hd; omega
      exact ⟨u, by rw [Array.getElem?_setIfInBounds_ne hk]; exact h1, h2.evo he⟩

theorem Sim.put0 (hs : Sim P G ι s a w) (dst : Option Nat) : Sim P G ι (s.put dst .undef) (a.put dst undef) w :=
  hs.put hs.hS (.refl (Nat.le_refl _)) dst undef_rel

theorem St.put_heap (s : St) (d : Option Nat) (v : AV) : (s.put d v).heap = s.heap := by
  cases d <;> simp only [St.put] <;> (try split) <;> rfl

theorem run_call {o : Oper} {f : Operand} {args : Array Operand} {ats : Array TypeId} {ρ : Operand → Value} {g : FuncId} {caps : Array Value} (ho : o.op = .call ⟨.value f, args, ats⟩) (hf : ρ f = .func (.func g) #[] caps) (hg : Enters P g) (w : World) :
    (execOp ρ o).run P w = .ok (.enter g (args.map ρ ++ caps)) w := by
  obtain ⟨fn, c, h1, h2, h3⟩ := hg
  have h3' : ¬ fn.name = "runtime.NumGoroutine" := by simpa using h3
  simp [execOp, ho, resolve, Deferred.ofValue, hf, invoke, callFunc, Sem.run_bind, h1, h2, h3']

theorem vrels_append {xs ys : List AV} {vs us : Array Value} (h1 : VRels ι h w xs vs) (h2 : xs.length = vs.size → VRels ι h w ys us) : VRels ι h w (xs ++ ys) (vs ++ us) := by
  obtain ⟨a1, a2⟩ := h1
  obtain ⟨b1, b2⟩ := h2 a1
  refine ⟨by simp [a1, b1], fun i x v hx hv => ?_⟩
  by_cases hi : i < xs.length
  · rw [List.getElem?_append_left hi] at hx
    rw [Array.getElem?_append_left (by omega)] at hv
    exact a2 i x v hx hv
  · rw [List.getElem?_append_right (by omega)] at hx
    rw [Array.getElem?_append_right (by omega), ← a1] at hv
    exact b2 _ x v hx hv

theorem VRel.fn_inv {f : FuncId} {cells : List AV} {v : Value} (hx : VRel ι h w (.fn f cells) v) : ∃ vs, v = .func (.func f) #[] vs ∧ VRels ι h w cells vs := by
  cases hx with
  | fn _ _ vs hl hv => exact ⟨vs, rfl, hl, hv⟩

theorem callOf_some {o : Oper} {f : Operand} {args : Array Operand} (h : callOf o = some (f, args)) : ∃ ats, o.op = .call ⟨.value f, args, ats⟩ := by
  unfold callOf at h
  split at h
  · rename_i f' args' ats ho
    cases h
    exact ⟨ats, ho⟩
  · cases h

/-- One operation. -/
theorem aexec_sound {o : Oper} {K : St → Prop} {K' : Act → World → Prop} {Q' : Exit → Act → World → Prop} (hs : Sim P G ι s a w) (he : Evo n0 ι0 h0 w0 ι s.heap w)
    (hK : ∀ s' ι' a' w', K s' → Sim P G ι' s' a' w' → Evo n0 ι0 h0 w0 ι' s'.heap w' → K' a' w') (hx : aexec P G rl o K s) : o.wp P a w K' Q' := by
  unfold aexec at hx
  cases hq : callOf o with
  | some q =>
    obtain ⟨f, args⟩ := q
    obtain ⟨ats, ho⟩ := callOf_some hq
    simp only [hq] at hx
    split at hx
    · rename_i g caps xs hf hargs
      obtain ⟨hg, hc⟩ := hx
      obtain ⟨vs, e1, e2⟩ := (hs.eval hf).fn_inv
      unfold Oper.wp
      rw [run_call ho e1 hg w]
      simp only [Oper.upon]
      refine (hc ι w _ hs.hS (vrels_append (vrels_evals (fun x a hx => hs.eval hx) hargs) fun _ => e2)).mono ?_
      rintro e w' ⟨v, r, h', ι', rfl, hk, hS', hr, he'⟩
      exact hK _ ι' _ w' hk (hs.put hS' he' o.dst hr) (by rw [St.put_heap]; exact he.trans he' he.len)
    · exact hx.elim
  | none =>
    simp only [hq] at hx
    split at hx
    · rename_i r h' hop
      obtain ⟨v, w', ι', hrun, hS', hr, he'⟩ := opA_sound hs.hS (fun x a hx => hs.eval hx) hop
      have := hK _ ι' _ w' hx (hs.put hS' he' o.dst hr) (by rw [St.put_heap]; exact he.trans he' he.len)
      unfold Oper.wp
      rcases hrun with hrun | ⟨hrun, rfl⟩
      · rw [hrun]; exact this
      · rw [hrun]; exact this
    · exact hx.elim

theorem guard_bool (hs : Sim P G ι s a w) {j : Nat} {g : Bool} (hg : guardA ops s j = some (.p (.bool g))) : yielded ops a.tmps j = some g := by
  obtain ⟨d, hd, hv⟩ := Option.bind_eq_some_iff.mp hg
  obtain ⟨u, h1, h2⟩ := hs.fr d _ hv
  have := h2.bool_inv; subst this
  simp [yielded, hd, h1]

theorem guard_undef (hs : Sim P G ι s a w) {j : Nat} (hg : guardA ops s j = some (.tup [])) : yielded ops a.tmps j = none := by
  obtain ⟨d, hd, hv⟩ := Option.bind_eq_some_iff.mp hg
  obtain ⟨u, h1, h2⟩ := hs.fr d _ hv
  cases h2 with
  | tup _ vs hl _ => simp [yielded, hd, h1]

theorem wanted_eq (hs : Sim P G ι s a w) {o : Oper} {b : Bool} (hb : wantA ops o s = some b) : Region.wanted o (yielded ops a.tmps) = b := by
  unfold wantA at hb
  unfold Region.wanted
  split at hb
  · rename_i hg; cases hb; simp [hg]
  · rename_i j want hg
    simp only [hg]
    split at hb
    · rename_i g hga
      cases hb
      rw [guard_bool hs hga]
      cases g <;> cases want <;> rfl
    · rename_i hga
      cases hb
      rw [guard_undef hs hga]
      cases want <;> rfl
    · cases hb

theorem aop_sound {o : Oper} {K : St → Prop} {K' : Act → World → Prop} {Q' : Exit → Act → World → Prop} (hs : Sim P G ι s a w) (he : Evo n0 ι0 h0 w0 ι s.heap w)
    (hK : ∀ s' ι' a' w', K s' → Sim P G ι' s' a' w' → Evo n0 ι0 h0 w0 ι' s'.heap w' → K' a' w') (hx : aop P G rl ops o K s) :
    if Region.wanted o (yielded ops a.tmps) then o.wp P a w K' Q' ∨ (o.asks P a w ∧ LetsOut Q') else K' (a.put o.dst undef) w := by
  unfold aop at hx
  split at hx
  case h_2 => exact hx.elim
  rename_i b hb
  rw [wanted_eq hs hb]
  cases b with
  | true =>
    simp only [if_true]
    exact .inl (aexec_sound hs he hK (hx.1 rfl))
  | false =>
    simp only [Bool.false_eq_true, if_false]
    exact hK _ ι _ w (hx.2 rfl) (hs.put0 o.dst) (by rw [St.put_heap]; exact he)

theorem aops_sound {K : St → Prop} {Q' : Exit → Act → World → Prop} (hK : ∀ s' ι' a' w', K s' → Sim P G ι' s' a' w' → Evo n0 ι0 h0 w0 ι' s'.heap w' → Q' .normal a' w') :
    ∀ (l : List Oper) (s : St) (ι : Nat → Nat × Nat) (a : Act) (w : World), Sim P G ι s a w → Evo n0 ι0 h0 w0 ι s.heap w → aops P G rl ops K l s → wpList P ops Q' l a w
  | [], s, ι, a, w, hs, he, h => hK s ι a w h hs he
  | o :: rest, s, ι, a, w, hs, he, h => by
    unfold wpList
    exact aop_sound (K := aops P G rl ops K rest) (K' := wpList P ops Q' rest) hs he (fun s' ι' a' w' hk hs' he' => aops_sound hK rest s' ι' a' w' hs' he' hk) h

end
end Go.Proofs.YtlophgkgmhcagaaDoor.AM
