/- Proved here, in parts, for one law: The abstract machine, part K: regions that ask for an order. The abstract machine, part L: code, and functions. The abstract machine, part M: what is handed back lasts; calls. The abstract machine, part P: loops, and states that are told as lists. PLAIN: scopes in one another: what a fault ends and undoes. PLAIN: what is undone, and what a fault does. The abstract machine, part Q: guarded operations without a fork. The abstract machine, part U: the rules of a step, as one. The abstract machine, part V: slices of rows that are handed back; a cell told otherwise. Facts of the translation: its types and functions, as the abstract machine asks for them. Printed by tables.py, a program of this work. The abstract machine, part W: what a function hands back is told otherwise at its end. A run of scopes in a heap; contracts: what is wrong with a number, the parts of a scope, an action is told. Conditions: none. -/
import Derived.Test.YtkmcecbglomemaaZScopeOnceA
import Derived.Test.YtkmcecbglomemaaProg
import Derived.KernelRfl

section
set_option linter.unusedVariables false
set_option linter.unusedSimpArgs false
namespace Go.Proofs.Ytkmcecbglomemaa.AM
open Go

section
variable {P : Program} {G : Nat → Option (List PV)} {rl : List String} {ops : Array Oper} {md : Region.Mode}

theorem evals_congr {ρ ρ' : Operand → Option AV} : ∀ {l : List Operand}, (∀ x ∈ l, ρ x = ρ' x) → evals ρ l = evals ρ' l
  | [], _ => rfl
  | x :: r, h => by simp only [evals]; rw [h x (by simp), evals_congr (l := r) (fun y hy => h y (by simp [hy]))]

theorem opA_congr {o : Oper} {ρ ρ' : Operand → Option AV} {h : Heap} (hc : ∀ x ∈ o.op.operands, ρ x = ρ' x) : opA P rl o ρ h = opA P rl o ρ' h := by
  obtain ⟨dst, op, type, pos, after, guard⟩ := o
  simp only at hc
  cases op with
  | move x => simp only [opA]; rw [hc x (by simp [Op.operands])]
  | assign x => simp only [opA]; rw [hc x (by simp [Op.operands])]
  | pick c x y => simp only [opA]; rw [hc c (by simp [Op.operands]), hc x (by simp [Op.operands]), hc y (by simp [Op.operands])]
  | alloc t => rfl
  | box t x => simp only [opA]; rw [hc x (by simp [Op.operands])]
  | build t ps =>
    have : (ps.toList.map fun q => (q.1, ρ q.2)) = (ps.toList.map fun q => (q.1, ρ' q.2)) := List.map_congr_left fun q hq => by
      rw [hc q.2 (by simp only [Op.operands, List.mem_toArray, List.mem_map]; exact ⟨q, hq, rfl⟩)]
    simp only [opA, this]
  | buildSlice t n ps =>
    have : (ps.toList.map fun q => (q.1, ρ q.2)) = (ps.toList.map fun q => (q.1, ρ' q.2)) := List.map_congr_left fun q hq => by
      rw [hc q.2 (by simp only [Op.operands, List.mem_toArray, List.mem_map]; exact ⟨q, hq, rfl⟩)]
    simp only [opA, this]
  | makeSlice t l c => simp only [opA]; rw [hc l (by simp [Op.operands]), hc c (by simp [Op.operands])]
  | load t x => simp only [opA]; rw [hc x (by simp [Op.operands])]
  | store t x y => simp only [opA]; rw [hc x (by simp [Op.operands]), hc y (by simp [Op.operands])]
  | nilCheck x => simp only [opA]; rw [hc x (by simp [Op.operands])]
  | binOp b t x y yt => simp only [opA]; rw [hc x (by simp [Op.operands]), hc y (by simp [Op.operands])]
  | unOp u t x => simp only [opA]; rw [hc x (by simp [Op.operands])]
  | convert a b x => simp only [opA]; rw [hc x (by simp [Op.operands])]
  | makeFunc fn first captured =>
    have : evals ρ captured.toList = evals ρ' captured.toList := evals_congr fun x hx => hc x (by simp only [Op.operands, Array.mem_append]; exact .inr (by simpa using hx))
    cases fn <;> simp only [opA, this]
  | slice t x lo hi mx =>
    have h1 : ρ x = ρ' x := hc x (by simp [Op.operands])
    have h2 : lo.map ρ = lo.map ρ' := by cases lo with
      | none => rfl
      | some l => simp [hc l (by simp [Op.operands])]
    have h3 : hi.map ρ = hi.map ρ' := by cases hi with
      | none => rfl
      | some l => simp [hc l (by simp [Op.operands])]
    simp only [opA, h1, h2, h3]
  | fieldAddr t x f => simp only [opA]; rw [hc x (by simp [Op.operands])]
  | field t x f => simp only [opA]; rw [hc x (by simp [Op.operands])]
  | indexAddr t x y => simp only [opA]; rw [hc x (by simp [Op.operands]), hc y (by simp [Op.operands])]
  | index t x y => simp only [opA]; rw [hc x (by simp [Op.operands]), hc y (by simp [Op.operands])]
  | extract x i => simp only [opA]; rw [hc x (by simp [Op.operands])]
  | call c =>
    have : evals ρ c.args.toList = evals ρ' c.args.toList := evals_congr fun x hx => hc x (by simp only [Op.operands, Call.operands, Array.mem_append]; exact .inr (by simpa using hx))
    simp only [opA, this]
  | makeMap t r => cases r <;> rfl
  | lookup t x ix b => cases b with
    | true => rfl
    | false => simp only [opA]; rw [hc x (by simp [Op.operands]), hc ix (by simp [Op.operands])]
  | mapUpdate t x ix y => simp only [opA]; rw [hc x (by simp [Op.operands]), hc ix (by simp [Op.operands]), hc y (by simp [Op.operands])]
  | _ => rfl

/-- What one quiet operation yields. -/
def AQ (P : Program) (G : Nat → Option (List PV)) (rl : List String) (o : Oper) (s : St) (v : AV) : Prop :=
  match callOf o with
  | some (f, args) => ∃ g caps xs, evalA G s f = some (.fn g caps) ∧ evals (evalA G s) args.toList = some xs ∧ Enters P g ∧ ACalls P G g (xs ++ caps) s.heap fun r' h' => r' = v ∧ h' = s.heap
  | none => opA P rl o (evalA G s) s.heap = some (v, s.heap)

def YieldsA (P : Program) (G : Nat → Option (List PV)) (rl : List String) (ops : Array Oper) (o : Oper) (v : AV) (s : St) : Prop :=
  (wantA ops o s = some true ∧ AQ P G rl o s v) ∨ (wantA ops o s = some false ∧ v = .undef)

theorem aquiet_iff {o : Oper} {K : St → Prop} {s : St} : aquiet P G rl o K s ↔ ∃ v, AQ P G rl o s v ∧ K (s.put o.dst v) := by
  unfold aquiet AQ
  cases hq : callOf o with
  | some q =>
    obtain ⟨f, args⟩ := q
    dsimp only
    split
    · rename_i g caps xs hf hx
      constructor
      · rintro ⟨he, r, hc, hk⟩
        exact ⟨r, ⟨g, caps, xs, hf, hx, he, hc⟩, hk⟩
      · rintro ⟨r, ⟨g', caps', xs', hf', hx', he, hc⟩, hk⟩
        rw [hf] at hf'; cases hf'
        rw [hx] at hx'; cases hx'
        exact ⟨he, r, hc, hk⟩
    · rename_i hn
      constructor
      · exact fun h => h.elim
      · rintro ⟨r, ⟨g', caps', xs', hf', hx', he, hc⟩, hk⟩
        exact (hn _ _ _ hf' hx').elim
  | none =>
    dsimp only
    cases hop : opA P rl o (evalA G s) s.heap with
    | none =>
      constructor
      · exact fun h => h.elim
      · rintro ⟨v, hv, hk⟩; cases hv
    | some q =>
      obtain ⟨r, h'⟩ := q
      constructor
      · rintro ⟨rfl, hk⟩; exact ⟨r, rfl, hk⟩
      · rintro ⟨v, hv, hk⟩
        simp only [Option.some.injEq, Prod.mk.injEq] at hv
        obtain ⟨rfl, rfl⟩ := hv
        exact ⟨rfl, hk⟩

theorem aqop_iff {o : Oper} {K : St → Prop} {s : St} : aqop P G rl ops o K s ↔ ∃ v, YieldsA P G rl ops o v s ∧ K (s.put o.dst v) := by
  unfold aqop YieldsA
  cases hw : wantA ops o s with
  | none =>
    constructor
    · exact fun h => h.elim
    · rintro ⟨v, ⟨h1, h2⟩ | ⟨h1, rfl⟩, h3⟩ <;> cases h1
  | some b =>
    dsimp only
    cases b with
    | true =>
      constructor
      · rintro ⟨h1, _⟩
        obtain ⟨v, h3, h4⟩ := aquiet_iff.mp (h1 rfl)
        exact ⟨v, .inl ⟨rfl, h3⟩, h4⟩
      · rintro ⟨v, ⟨_, h2⟩ | ⟨h1, _⟩, h3⟩
        · exact ⟨fun _ => aquiet_iff.mpr ⟨v, h2, h3⟩, fun e => (by cases e)⟩
        · cases h1
    | false =>
      constructor
      · rintro ⟨_, h2⟩
        exact ⟨.undef, .inr ⟨rfl, rfl⟩, h2 rfl⟩
      · rintro ⟨v, ⟨h1, _⟩ | ⟨_, rfl⟩, h3⟩
        · cases h1
        · exact ⟨fun e => (by cases e), fun _ => h3⟩

theorem evalA_put {s : St} {d : Option Nat} {v : AV} {x : Operand} (h : ∀ t, d = some t → x ≠ .tmp t) : evalA G (s.put d v) x = evalA G s x := by
  cases x with
  | tmp t =>
    cases d with
    | none => rfl
    | some d =>
      have hne : t ≠ d := fun e => h d rfl (by rw [e])
      simp only [evalA, St.put]
      split
      · simp [upd, hne]
      · rfl
  | _ => rfl

theorem fr_put {s : St} {d : Option Nat} {v : AV} {t : Nat} (h : ∀ e, d = some e → e ≠ t) : (s.put d v).fr t = s.fr t := by
  cases d with
  | none => rfl
  | some d =>
    have hne : t ≠ d := fun e => h d rfl e.symm
    simp only [St.put]
    split
    · simp [upd, hne]
    · rfl

theorem looks_op {o : Oper} {x : Operand} {t : Nat} (hx : x ∈ o.op.operands) (ht : x = .tmp t) : t ∈ o.looksAt ops := by
  subst ht
  simp only [Oper.looksAt, List.mem_append, List.mem_filterMap]
  exact .inl ⟨.tmp t, by simpa using hx, rfl⟩

theorem AQ_put {o : Oper} {s : St} {d : Option Nat} {u v : AV} (hd : ∀ t, d = some t → t ∉ o.looksAt ops) : AQ P G rl o (s.put d u) v ↔ AQ P G rl o s v := by
  have hev : ∀ x ∈ o.op.operands, evalA G (s.put d u) x = evalA G s x := fun x hx => evalA_put fun t ht e => hd t ht (looks_op hx e)
  unfold AQ
  cases hq : callOf o with
  | some q =>
    obtain ⟨f, args⟩ := q
    obtain ⟨ats, ho⟩ := callOf_some hq
    rw [ho] at hev
    have h1 : evalA G (s.put d u) f = evalA G s f := hev f (by simp [Op.operands, Call.operands])
    have h2 : evals (evalA G (s.put d u)) args.toList = evals (evalA G s) args.toList := evals_congr fun x hx => hev x (by simp only [Op.operands, Call.operands, Array.mem_append]; exact .inr (by simpa using hx))
    dsimp only
    rw [h1, h2, St.put_heap]
  | none =>
    dsimp only
    rw [opA_congr hev, St.put_heap]

theorem wantA_put {o : Oper} {s : St} {d : Option Nat} {u : AV} (hd : ∀ t, d = some t → t ∉ o.looksAt ops) : wantA ops o (s.put d u) = wantA ops o s := by
  unfold wantA
  cases hg : o.guard with
  | none => rfl
  | some q =>
    obtain ⟨j, want⟩ := q
    have : guardA ops (s.put d u) j = guardA ops s j := by
      unfold guardA
      cases hq : (ops[j]?).bind (·.dst) with
      | none => rfl
      | some t =>
        simp only [Option.bind_some]
        refine fr_put fun e he heq => hd e he ?_
        simp [Oper.looksAt, hg, hq, heq]
    simp only [this]

theorem YieldsA_put {o : Oper} {s : St} {d : Option Nat} {u v : AV} (hd : ∀ t, d = some t → t ∉ o.looksAt ops) : YieldsA P G rl ops o v (s.put d u) ↔ YieldsA P G rl ops o v s := by
  unfold YieldsA
  rw [wantA_put hd, AQ_put hd]

theorem St.put_comm (s : St) {x y : Option Nat} (v u : AV) (h : ∀ d, x = some d → y ≠ some d) : (s.put x v).put y u = (s.put y u).put x v := by
  cases x with
  | none => rfl
  | some d =>
    cases y with
    | none => rfl
    | some e =>
      have hne : d ≠ e := fun he => h d rfl (he ▸ rfl)
      simp only [St.put]
      by_cases h1 : d < s.nt <;> by_cases h2 : e < s.nt <;> simp only [h1, h2, if_true, if_false]
      congr 1
      funext k
      simp only [upd]
      by_cases k1 : k = d <;> by_cases k2 : k = e <;> simp_all

def aqOp (P : Program) (G : Nat → Option (List PV)) (rl : List String) (ops : Array Oper) (i : Nat) (K : St → Prop) (s : St) : Prop :=
  match ops[i]? with
  | none => K s
  | some o => aqop P G rl ops o K s

theorem aqOp_mono {i : Nat} {s : St} {K K' : St → Prop} (h : ∀ s, K s → K' s) (hh : aqOp P G rl ops i K s) : aqOp P G rl ops i K' s := by
  unfold aqOp at *
  split
  · exact h _ (by simpa [*] using hh)
  · rename_i o ho
    simp only [ho] at hh
    obtain ⟨v, h1, h2⟩ := aqop_iff.mp hh
    exact aqop_iff.mpr ⟨v, h1, h _ h2⟩

def aqAny (P : Program) (G : Nat → Option (List PV)) (rl : List String) (md : Region.Mode) (ops : Array Oper) (Q : St → Prop) : Nat → Array Bool → St → Prop
  | 0, listed, s => Region.ready md ops listed = [] ∧ Q s
  | fuel + 1, listed, s =>
    (Region.ready md ops listed = [] → Q s) ∧
    ∀ i ∈ Region.ready md ops listed, aqOp P G rl ops i (aqAny P G rl md ops Q fuel (listed.setIfInBounds i true)) s

theorem aqOp_put {j : Nat} {oi oj : Oper} {v : AV} (hj : ops[j]? = some oj) (hap : oi.apart ops oj = true) {K : St → Prop} {s : St}
    (hy : YieldsA P G rl ops oi v s) (h : aqOp P G rl ops j K (s.put oi.dst v)) :
    aqOp P G rl ops j (fun s' => YieldsA P G rl ops oi v s' ∧ K (s'.put oi.dst v)) s := by
  obtain ⟨h1, h2, h3⟩ := Oper.apart_spec hap
  unfold aqOp at *
  simp only [hj] at *
  obtain ⟨u, hu, hk⟩ := aqop_iff.mp h
  refine aqop_iff.mpr ⟨u, (YieldsA_put h1).mp hu, (YieldsA_put h3).mpr hy, ?_⟩
  rw [← St.put_comm s v u h2]
  exact hk

theorem aqAny_first {Q : St → Prop} {i : Nat} {oi : Oper} {v : AV} (hi : ops[i]? = some oi) :
    ∀ (fuel : Nat) (listed : Array Bool) (s : St),
      (∀ j oj, ops[j]? = some oj → j ≠ i → listed.getD j true = false → (∀ e ∈ oj.after, Region.binds md e = true → e.on ≠ i) → oi.apart ops oj = true) →
      i ∈ Region.ready md ops listed → YieldsA P G rl ops oi v s →
      aqAny P G rl md ops Q fuel (listed.setIfInBounds i true) (s.put oi.dst v) → aqAny P G rl md ops Q (fuel + 1) listed s := by
  have step : ∀ {K : St → Prop} {s : St}, YieldsA P G rl ops oi v s → K (s.put oi.dst v) → aqOp P G rl ops i K s := by
    intro K s hy hk
    unfold aqOp
    simp only [hi]
    exact aqop_iff.mpr ⟨v, hy, hk⟩
  intro fuel
  induction fuel with
  | zero =>
    intro listed s _ hr hy H
    refine ⟨fun h => (by rw [h] at hr; cases hr), fun j hj => ?_⟩
    by_cases hji : j = i
    · subst hji; exact step hy H
    · have := ready_mono hj hji
      rw [H.1] at this
      cases this
  | succ fuel ih =>
    intro listed s hfree hr hy H
    refine ⟨fun h => (by rw [h] at hr; cases hr), fun j hj => ?_⟩
    by_cases hji : j = i
    · subst hji; exact step hy H
    · have h1 := H.2 j (ready_mono hj hji)
      obtain ⟨hjun, oj, hoj, hall⟩ := mem_ready.1 hj
      have hnot : ∀ e ∈ oj.after, Region.binds md e = true → e.on ≠ i := fun e he hb heq => by
        have h1 := hall e he hb
        have h0 := (mem_ready.1 hr).1
        rw [heq] at h1
        rcases Nat.lt_or_ge i listed.size with h' | h'
        · simp [h'] at h0 h1; rw [h0] at h1; cases h1
        · simp [Array.getElem?_eq_none h'] at h1
      have h2 := aqOp_put hoj (hfree j oj hoj hji hjun hnot) hy h1
      have hfree' : ∀ k ok, ops[k]? = some ok → k ≠ i → (listed.setIfInBounds j true).getD k true = false →
          (∀ e ∈ ok.after, Region.binds md e = true → e.on ≠ i) → oi.apart ops ok = true := fun k ok hk hki hun hno => by
        refine hfree k ok hk hki ?_ hno
        by_cases hjk : j = k
        · subst hjk; exact hjun
        · rw [getD_set_ne true hjk] at hun; exact hun
      refine aqOp_mono (fun s' h3 => ih (listed.setIfInBounds j true) s' hfree' (ready_mono hr (Ne.symm hji)) h3.1 ?_) h2
      rw [Array.setIfInBounds_comm _ _ hji]
      exact h3.2

theorem aqAny_lex {Q : St → Prop} : ∀ (l : List Oper) (k : Nat) (listed : Array Bool) (s : St), (∀ j, l[j]? = ops[k + j]?) →
    Region.lexFrom md ops l.length k listed = true → aqops P G rl ops Q l s → aqAny P G rl md ops Q l.length listed s
  | [], _, _, _, _, hB, h => ⟨by simpa [Region.lexFrom] using hB, h⟩
  | o :: l, k, listed, s, hl, hB, h => by
    have h0 : ops[k]? = some o := by simpa using (hl 0).symm
    simp only [List.length_cons, Region.lexFrom, Bool.and_eq_true] at hB
    obtain ⟨⟨hr, hf⟩, hB'⟩ := hB
    obtain ⟨v, hy, hK⟩ := aqop_iff.mp h
    exact aqAny_first h0 l.length listed s (Region.free_spec h0 hf) (by simpa using hr) hy
      (aqAny_lex l (k + 1) _ _ (fun j => by have := hl (j + 1); simpa [Nat.add_assoc, Nat.add_comm 1 j] using this) hB' hK)


/-! ### Regions that ask for an order, with effects: quiet operations that do not mind more blocks; blocks that are made; what has an effect and comes in its turn. -/

def effB (o : Oper) : Bool := match o.op with | .alloc _ | .box _ _ | .store _ _ _ | .makeMap _ _ | .mapUpdate _ _ _ _ => true | .call ⟨.value _, _, _⟩ => o.type == 0 | .call ⟨.builtin .append, _, _⟩ => true | _ => false
def allocB (o : Oper) : Bool := (match o.op with | .alloc _ => true | _ => false) && o.guard.isNone

def St.ext (s : St) (L : Heap) : St := ⟨s.fr, s.nt, s.heap ++ L⟩

theorem ext_put (s : St) (d : Option Nat) (v : AV) (L : Heap) : (s.put d v).ext L = (s.ext L).put d v := by
  cases d with
  | none => rfl
  | some d => by_cases h : d < s.nt <;> simp [St.put, St.ext, h]

theorem ext_ext (s : St) (L M : Heap) : (s.ext L).ext M = s.ext (L ++ M) := by simp only [St.ext, List.append_assoc]
theorem ext_nil (s : St) : s.ext [] = s := by simp only [St.ext, List.append_nil]

/-- It yields v, however many blocks there are more. -/
def Stab (P : Program) (G : Nat → Option (List PV)) (rl : List String) (ops : Array Oper) (o : Oper) (v : AV) (s : St) : Prop := ∀ L, YieldsA P G rl ops o v (s.ext L)

theorem Stab.put {o : Oper} {s : St} {d : Option Nat} {u v : AV} (h : Stab P G rl ops o v s) (hd : ∀ t, d = some t → t ∉ o.looksAt ops) : Stab P G rl ops o v (s.put d u) := fun L => by
  rw [ext_put]; exact (YieldsA_put hd).mpr (h L)
theorem Stab.ext {o : Oper} {s : St} {v : AV} (h : Stab P G rl ops o v s) (M : Heap) : Stab P G rl ops o v (s.ext M) := fun L => by
  rw [ext_ext]; exact h _
theorem Stab.now {o : Oper} {s : St} {v : AV} (h : Stab P G rl ops o v s) : YieldsA P G rl ops o v s := by
  have := h []; rwa [ext_nil] at this

def axop (P : Program) (G : Nat → Option (List PV)) (rl : List String) (ops : Array Oper) (o : Oper) (K : St → Prop) (s : St) : Prop := if effB o = true then aop P G rl ops o K s else aqop P G rl ops o K s

def axOp (P : Program) (G : Nat → Option (List PV)) (rl : List String) (ops : Array Oper) (i : Nat) (K : St → Prop) (s : St) : Prop :=
  match ops[i]? with
  | none => K s
  | some o => axop P G rl ops o K s

theorem aexec_mono0 {K K' : St → Prop} {o : Oper} {s : St} (hk : ∀ s, K s → K' s) (h : aexec P G rl o K s) : aexec P G rl o K' s := by
  unfold aexec at *
  cases hc : callOf o with
  | some q =>
    obtain ⟨f, args⟩ := q
    simp only [hc] at h ⊢
    split at h
    · exact ⟨h.1, fun ι w vs hS hv => (h.2 ι w vs hS hv).mono fun e w' ⟨v, r, h', ι', e1, e2, e3⟩ => ⟨v, r, h', ι', e1, hk _ e2, e3⟩⟩
    · exact h
  | none =>
    simp only [hc] at h ⊢
    split at h
    · exact hk _ h
    · exact h

theorem aopX_mono {o : Oper} {K K' : St → Prop} {s : St} (h : ∀ s, K s → K' s) (hh : aop P G rl ops o K s) : aop P G rl ops o K' s := by
  unfold aop at *
  split at hh
  · exact ⟨fun e => aexec_mono0 h (hh.1 e), fun e => h _ (hh.2 e)⟩
  · exact hh.elim

theorem aopE_mono {o : Oper} (he : effB o = true) {K K' : St → Prop} {s : St} (h : ∀ s, K s → K' s) (hh : aop P G rl ops o K s) : aop P G rl ops o K' s := by
  unfold aop at *
  split at hh
  · exact ⟨fun e => aexec_mono0 h (hh.1 e), fun e => h _ (hh.2 e)⟩
  · exact hh.elim

theorem axop_mono {o : Oper} {K K' : St → Prop} {s : St} (h : ∀ s, K s → K' s) (hh : axop P G rl ops o K s) : axop P G rl ops o K' s := by
  unfold axop at *
  split
  · rename_i he; rw [if_pos he] at hh; exact aopE_mono he h hh
  · rename_i he
    rw [if_neg he] at hh
    obtain ⟨v, h1, h2⟩ := aqop_iff.mp hh
    exact aqop_iff.mpr ⟨v, h1, h _ h2⟩

theorem axOp_mono {i : Nat} {s : St} {K K' : St → Prop} (h : ∀ s, K s → K' s) (hh : axOp P G rl ops i K s) : axOp P G rl ops i K' s := by
  unfold axOp at *
  split
  · exact h _ (by simpa [*] using hh)
  · rename_i o ho
    simp only [ho] at hh
    exact axop_mono h hh

def axAny (P : Program) (G : Nat → Option (List PV)) (rl : List String) (md : Region.Mode) (ops : Array Oper) (Q : St → Prop) : Nat → Array Bool → St → Prop
  | 0, listed, s => Region.ready md ops listed = [] ∧ Q s
  | fuel + 1, listed, s =>
    (Region.ready md ops listed = [] → Q s) ∧
    ∀ i ∈ Region.ready md ops listed, axOp P G rl ops i (axAny P G rl md ops Q fuel (listed.setIfInBounds i true)) s

theorem alloc_iff {o : Oper} (ha : allocB o = true) {K : St → Prop} {s : St} : aop P G rl ops o K s ↔ ∃ z, (∀ ρ, opA P rl o ρ s.heap = some (.ptr s.heap.length 0 0, s.heap ++ [z])) ∧ K ((s.ext [z]).put o.dst (.ptr s.heap.length 0 0)) := by
  obtain ⟨dst, op, type, pos, after, guard⟩ := o
  simp only [allocB, Bool.and_eq_true, Option.isNone_iff_eq_none] at ha
  obtain ⟨h1, rfl⟩ := ha
  cases op with
  | alloc t =>
    unfold aop wantA
    dsimp only
    unfold aexec callOf
    dsimp only
    simp only [opA]
    constructor
    · rintro ⟨h, _⟩
      have h := h trivial
      split at h
      · rename_i r h' e
        split at e
        · rename_i z et
          split at e
          · cases e
          · rename_i hz
            cases e
            exact ⟨_, fun _ => by rw [if_neg hz], h⟩
        · cases e
      · exact h.elim
    · rintro ⟨z, hz, hk⟩
      refine ⟨fun _ => ?_, fun e => by cases e⟩
      rw [hz (evalA G s)]
      exact hk
  | _ => simp at h1

theorem axOp_put {j : Nat} {oi oj : Oper} {v : AV} (hj : ops[j]? = some oj) (hap : oi.apart ops oj = true) (hq : effB oj = true → allocB oj = true) {K : St → Prop} {s : St}
    (hy : Stab P G rl ops oi v s) (h : axOp P G rl ops j K (s.put oi.dst v)) :
    axOp P G rl ops j (fun s' => Stab P G rl ops oi v s' ∧ K (s'.put oi.dst v)) s := by
  obtain ⟨h1, h2, h3⟩ := Oper.apart_spec hap
  unfold axOp at *
  simp only [hj] at *
  unfold axop at *
  split
  · rename_i he
    rw [if_pos he] at h
    obtain ⟨z, hz, hk⟩ := (alloc_iff (hq he)).mp h
    rw [St.put_heap] at hz hk
    refine (alloc_iff (hq he)).mpr ⟨z, hz, (hy.ext [z]).put h3, ?_⟩
    rw [ext_put, ← St.put_comm _ _ _ h2] at *
    exact hk
  · rename_i he
    rw [if_neg he] at h
    obtain ⟨u, hu, hk⟩ := aqop_iff.mp h
    refine aqop_iff.mpr ⟨u, (YieldsA_put h1).mp hu, hy.put h3, ?_⟩
    rw [← St.put_comm s v u h2]
    exact hk

theorem axAny_first {Q : St → Prop} {i : Nat} {oi : Oper} {v : AV} (hi : ops[i]? = some oi) (hq : effB oi = false) :
    ∀ (fuel : Nat) (listed : Array Bool) (s : St),
      (∀ j oj, ops[j]? = some oj → j ≠ i → listed.getD j true = false → (∀ e ∈ oj.after, Region.binds md e = true → e.on ≠ i) → oi.apart ops oj = true ∧ (effB oj = true → allocB oj = true)) →
      i ∈ Region.ready md ops listed → Stab P G rl ops oi v s →
      axAny P G rl md ops Q fuel (listed.setIfInBounds i true) (s.put oi.dst v) → axAny P G rl md ops Q (fuel + 1) listed s := by
  have step : ∀ {K : St → Prop} {s : St}, Stab P G rl ops oi v s → K (s.put oi.dst v) → axOp P G rl ops i K s := by
    intro K s hy hk
    unfold axOp
    simp only [hi]
    unfold axop
    rw [if_neg (by rw [hq]; decide)]
    exact aqop_iff.mpr ⟨v, hy.now, hk⟩
  intro fuel
  induction fuel with
  | zero =>
    intro listed s _ hr hy H
    refine ⟨fun h => (by rw [h] at hr; cases hr), fun j hj => ?_⟩
    by_cases hji : j = i
    · subst hji; exact step hy H
    · have := ready_mono hj hji
      rw [H.1] at this
      cases this
  | succ fuel ih =>
    intro listed s hfree hr hy H
    refine ⟨fun h => (by rw [h] at hr; cases hr), fun j hj => ?_⟩
    by_cases hji : j = i
    · subst hji; exact step hy H
    · have h1 := H.2 j (ready_mono hj hji)
      obtain ⟨hjun, oj, hoj, hall⟩ := mem_ready.1 hj
      have hnot : ∀ e ∈ oj.after, Region.binds md e = true → e.on ≠ i := fun e he hb heq => by
        have h1 := hall e he hb
        have h0 := (mem_ready.1 hr).1
        rw [heq] at h1
        rcases Nat.lt_or_ge i listed.size with h' | h'
        · simp [h'] at h0 h1; rw [h0] at h1; cases h1
        · simp [Array.getElem?_eq_none h'] at h1
      obtain ⟨g1, g2⟩ := hfree j oj hoj hji hjun hnot
      have h2 := axOp_put hoj g1 g2 hy h1
      have hfree' : ∀ k ok, ops[k]? = some ok → k ≠ i → (listed.setIfInBounds j true).getD k true = false →
          (∀ e ∈ ok.after, Region.binds md e = true → e.on ≠ i) → oi.apart ops ok = true ∧ (effB ok = true → allocB ok = true) := fun k ok hk hki hun hno => by
        refine hfree k ok hk hki ?_ hno
        by_cases hjk : j = k
        · subst hjk; exact hjun
        · rw [getD_set_ne true hjk] at hun; exact hun
      refine axOp_mono (fun s' h3 => ih (listed.setIfInBounds j true) s' hfree' (ready_mono hr (Ne.symm hji)) h3.1 ?_) h2
      rw [Array.setIfInBounds_comm _ _ hji]
      exact h3.2

def growB (md : Region.Mode) (ops : Array Oper) (listed : Array Bool) (i : Nat) : Bool :=
  (List.range ops.size).all fun j => j == i || listed.getD j true || match ops[j]? with
    | some oj => oj.after.any (fun e => Region.binds md e && e.on == i) || (!effB oj || allocB oj)
    | none => true

theorem growB_spec {i : Nat} {listed : Array Bool} (h : growB md ops listed i = true) (j : Nat) (oj : Oper)
    (hj : ops[j]? = some oj) (hne : j ≠ i) (hun : listed.getD j true = false) (hno : ∀ e ∈ oj.after, Region.binds md e = true → e.on ≠ i) : effB oj = true → allocB oj = true := by
  simp only [growB, List.all_eq_true, List.mem_range] at h
  have h1 := h j (Array.getElem?_eq_some_iff.1 hj).1
  simp only [hj, Bool.or_eq_true, beq_iff_eq, hne, false_or, hun, Bool.false_eq_true] at h1
  rcases h1 with h1 | h1
  · obtain ⟨e, he, hb⟩ := Array.any_eq_true'.1 h1
    simp only [Bool.and_eq_true, beq_iff_eq] at hb
    exact absurd hb.2 (hno e he hb.1)
  · intro he
    rw [he] at h1
    simpa using h1

/-- The operations in their text's order: quiet ones, stable; the others each in its turn alone. -/
def aeops (P : Program) (G : Nat → Option (List PV)) (rl : List String) (ops : Array Oper) (Q : St → Prop) : List Oper → St → Prop
  | [], s => Q s
  | o :: rest, s => if effB o = true then aop P G rl ops o (aeops P G rl ops Q rest) s else ∃ v, Stab P G rl ops o v s ∧ aeops P G rl ops Q rest (s.put o.dst v)

def lexE (md : Region.Mode) (ops : Array Oper) : Nat → Nat → Array Bool → Bool
  | 0, _, listed => (Region.ready md ops listed).isEmpty
  | n + 1, k, listed =>
    (match ops[k]? with
      | none => false
      | some o => if effB o then Region.ready md ops listed == [k] else (Region.ready md ops listed).contains k && (Region.free md ops listed k && growB md ops listed k)) && lexE md ops n (k + 1) (listed.setIfInBounds k true)

theorem axAny_lex {Q : St → Prop} : ∀ (l : List Oper) (k : Nat) (listed : Array Bool) (s : St), (∀ j, l[j]? = ops[k + j]?) →
    lexE md ops l.length k listed = true → aeops P G rl ops Q l s → axAny P G rl md ops Q l.length listed s
  | [], _, _, _, _, hB, h => ⟨by simpa [lexE] using hB, h⟩
  | o :: l, k, listed, s, hl, hB, h => by
    have h0 : ops[k]? = some o := by simpa using (hl 0).symm
    have hl' : ∀ j, l[j]? = ops[k + 1 + j]? := fun j => by have := hl (j + 1); simpa [Nat.add_assoc, Nat.add_comm 1 j] using this
    simp only [List.length_cons, lexE, h0, Bool.and_eq_true] at hB
    obtain ⟨hr, hB'⟩ := hB
    unfold aeops at h
    split at h
    · rename_i he
      rw [if_pos he] at hr
      have hr := beq_iff_eq.mp hr
      refine ⟨fun e => (by rw [hr] at e; cases e), fun i hi => ?_⟩
      rw [hr] at hi
      have : i = k := by simpa using hi
      subst this
      unfold axOp
      simp only [h0]
      unfold axop
      rw [if_pos he]
      exact aopE_mono he (fun s' hs' => axAny_lex l (i + 1) _ s' hl' hB' hs') h
    · rename_i he
      rw [if_neg he] at hr
      simp only [Bool.and_eq_true] at hr
      obtain ⟨hr, hf, hg⟩ := hr
      obtain ⟨v, hy, hK⟩ := h
      exact axAny_first h0 (by simpa using he) l.length listed s (fun j oj a1 a2 a3 a4 => ⟨Region.free_spec h0 hf j oj a1 a2 a3 a4, growB_spec hg j oj a1 a2 a3 a4⟩) (by simpa using hr) hy
        (axAny_lex l (k + 1) _ _ hl' hB' hK)


/-! ### Drawn regions, with blocks that are laid by for what they make -/

def slotB (ops : Array Oper) (k : Nat) : Nat := ((ops.toList.take k).filter allocB).length

def St.setB (s : St) (b : Nat) (z : List PV) : St := ⟨s.fr, s.nt, s.heap.set b (some ⟨1, z.map .p⟩)⟩

def zeroB (P : Program) (o : Oper) : Option (List PV) :=
  match o.op with
  | .alloc t => (match tinfo P t with
    | some ⟨_, _, _, some z⟩ => if z = [] then none else some z
    | _ => none)
  | _ => none

def allocR (P : Program) (o : Oper) (b : Nat) (K : St → Prop) (s : St) : Prop :=
  ∃ z, zeroB P o = some z ∧ s.heap[b]? = some (some ⟨0, []⟩) ∧ K ((s.setB b z).put o.dst (.ptr b 1 0))

/-- An operation that has an effect, or is told to come in its turn alone. -/
def effI (es : List Nat) (i : Nat) (o : Oper) : Bool := effB o || es.contains i
def ropR (P : Program) (G : Nat → Option (List PV)) (rl : List String) (es : List Nat) (ops : Array Oper) (base i : Nat) (o : Oper) (K : St → Prop) (s : St) : Prop :=
  if allocB o = true then allocR P o (base + slotB ops i) K s else if effI es i o = true then aop P G rl ops o K s else aqop P G rl ops o K s

def ropI (P : Program) (G : Nat → Option (List PV)) (rl : List String) (es : List Nat) (ops : Array Oper) (base i : Nat) (K : St → Prop) (s : St) : Prop :=
  match ops[i]? with
  | none => K s
  | some o => ropR P G rl es ops base i o K s

section
variable {base r : Nat} {es : List Nat}

theorem ropR_mono {i : Nat} {o : Oper} {K K' : St → Prop} {s : St} (h : ∀ s, K s → K' s) (hh : ropR P G rl es ops base i o K s) : ropR P G rl es ops base i o K' s := by
  unfold ropR at *
  split
  · rename_i ha; rw [if_pos ha] at hh; obtain ⟨z, h1, h2, h3⟩ := hh; exact ⟨z, h1, h2, h _ h3⟩
  · rename_i ha
    rw [if_neg ha] at hh
    split
    · rename_i he; rw [if_pos he] at hh; exact aopX_mono h hh
    · rename_i he
      rw [if_neg he] at hh
      obtain ⟨v, h1, h2⟩ := aqop_iff.mp hh
      exact aqop_iff.mpr ⟨v, h1, h _ h2⟩

theorem ropI_mono {i : Nat} {s : St} {K K' : St → Prop} (h : ∀ s, K s → K' s) (hh : ropI P G rl es ops base i K s) : ropI P G rl es ops base i K' s := by
  unfold ropI at *
  split
  · exact h _ (by simpa [*] using hh)
  · rename_i o ho
    simp only [ho] at hh
    exact ropR_mono h hh

def ranyR (P : Program) (G : Nat → Option (List PV)) (rl : List String) (es : List Nat) (md : Region.Mode) (ops : Array Oper) (base : Nat) (Q : St → Prop) : Nat → Array Bool → St → Prop
  | 0, listed, s => Region.ready md ops listed = [] ∧ Q s
  | fuel + 1, listed, s =>
    (Region.ready md ops listed = [] → Q s) ∧
    ∀ i ∈ Region.ready md ops listed, ropI P G rl es ops base i (ranyR P G rl es md ops base Q fuel (listed.setIfInBounds i true)) s

/-- An operation that can be done now can be listed first, if it commutes with those that may be listed ahead of it. -/
theorem ranyR_first {Q : St → Prop} {i : Nat} (En : St → Prop) (T : St → St) (C : Nat → Oper → Prop) (D : Nat → Bool) (hstep : ∀ (s : St) (K : St → Prop), En s → K (T s) → ropI P G rl es ops base i K s)
    (hcomm : ∀ j oj, ops[j]? = some oj → C j oj → ∀ (s : St) (K : St → Prop), En s → ropI P G rl es ops base j K (T s) → ropI P G rl es ops base j (fun s' => En s' ∧ K (T s')) s)
    (hD : ∀ j oj, ops[j]? = some oj → D j = true → ∃ e ∈ oj.after, Region.binds md e = true ∧ (e.on = i ∨ D e.on = true)) :
    ∀ (fuel : Nat) (listed : Array Bool) (s : St),
      (∀ j oj, ops[j]? = some oj → j ≠ i → listed.getD j true = false → D j = false → C j oj) → (∀ d, D d = true → listed.getD d false = false) →
      i ∈ Region.ready md ops listed → En s →
      ranyR P G rl es md ops base Q fuel (listed.setIfInBounds i true) (T s) → ranyR P G rl es md ops base Q (fuel + 1) listed s := by
  intro fuel
  induction fuel with
  | zero =>
    intro listed s _ _ hr hy H
    refine ⟨fun h => (by rw [h] at hr; cases hr), fun j hj => ?_⟩
    by_cases hji : j = i
    · subst hji; exact hstep _ _ hy H
    · have := ready_mono hj hji
      rw [H.1] at this
      cases this
  | succ fuel ih =>
    intro listed s hfree hinv hr hy H
    refine ⟨fun h => (by rw [h] at hr; cases hr), fun j hj => ?_⟩
    by_cases hji : j = i
    · subst hji; exact hstep _ _ hy H
    · have h1 := H.2 j (ready_mono hj hji)
      obtain ⟨hjun, oj, hoj, hall⟩ := mem_ready.1 hj
      have hDj : D j = false := by
        cases hd : D j with
        | false => rfl
        | true =>
          exfalso
          obtain ⟨e, he, hb, hor⟩ := hD j oj hoj hd
          have h1 := hall e he hb
          rcases hor with heq | heq
          · have h0 := (mem_ready.1 hr).1
            rw [heq] at h1
            rcases Nat.lt_or_ge i listed.size with h' | h'
            · simp [h'] at h0 h1; rw [h0] at h1; cases h1
            · simp [Array.getElem?_eq_none h'] at h1
          · rw [hinv _ heq] at h1; cases h1
      have h2 := hcomm j oj hoj (hfree j oj hoj hji hjun hDj) s _ hy h1
      have hfree' : ∀ k ok, ops[k]? = some ok → k ≠ i → (listed.setIfInBounds j true).getD k true = false → D k = false → C k ok := fun k ok hk hki hun hno => by
        refine hfree k ok hk hki ?_ hno
        by_cases hjk : j = k
        · subst hjk; exact hjun
        · rw [getD_set_ne true hjk] at hun; exact hun
      have hinv' : ∀ d, D d = true → (listed.setIfInBounds j true).getD d false = false := fun d hd => by
        have hjd : j ≠ d := fun e => by subst e; rw [hDj] at hd; cases hd
        rw [getD_set_ne false hjd]; exact hinv d hd
      refine ropI_mono (fun s' h3 => ih (listed.setIfInBounds j true) s' hfree' hinv' (ready_mono hr (Ne.symm hji)) h3.1 ?_) h2
      rw [Array.setIfInBounds_comm _ _ hji]
      exact h3.2

theorem setB_put (s : St) (d : Option Nat) (v : AV) (b : Nat) (z : List PV) : (s.put d v).setB b z = (s.setB b z).put d v := by
  cases d with
  | none => rfl
  | some d => by_cases h : d < s.nt <;> simp [St.put, St.setB, h]

theorem setB_comm (s : St) (b c : Nat) (z y : List PV) (h : b ≠ c) : (s.setB b z).setB c y = (s.setB c y).setB b z := by
  simp only [St.setB, List.set_comm _ _ h]

/-- The zeros of what is made, in the text's order. -/
def zsB (P : Program) (ops : Array Oper) : List (List PV) := (ops.toList.filter allocB).map fun o => (zeroB P o).getD []

/-- What the blocks that are laid by can hold: nothing yet, or zeros. -/
def canR (P : Program) (ops : Array Oper) (r : Nat) (R : Heap) : Prop :=
  R.length = r ∧ ∀ (j : Nat) (z : List PV), (zsB P ops)[j]? = some z → R[j]? = some (some ⟨0, []⟩) ∨ R[j]? = some (some ⟨1, z.map .p⟩)

def InvR (P : Program) (ops : Array Oper) (base r : Nat) (s : St) : Prop := s.heap.length = base + r ∧ canR P ops r (s.heap.drop base)

/-- It yields v, whatever the blocks that are laid by can hold. -/
def StabS (P : Program) (G : Nat → Option (List PV)) (rl : List String) (ops : Array Oper) (base r : Nat) (o : Oper) (v : AV) (s : St) : Prop :=
  ∀ R : Heap, canR P ops r R → YieldsA P G rl ops o v ⟨s.fr, s.nt, s.heap.take base ++ R⟩

/-- It yields v, whatever the heap. -/
def StabF (P : Program) (G : Nat → Option (List PV)) (rl : List String) (ops : Array Oper) (o : Oper) (v : AV) (s : St) : Prop := ∀ H : Heap, YieldsA P G rl ops o v ⟨s.fr, s.nt, H⟩

theorem put_at (s : St) (d : Option Nat) (u : AV) (X : Heap) : (⟨(s.put d u).fr, (s.put d u).nt, X⟩ : St) = (⟨s.fr, s.nt, X⟩ : St).put d u := by
  cases d with
  | none => rfl
  | some d => by_cases h : d < s.nt <;> simp [St.put, h]

theorem filter_slot {α : Type} (q : α → Bool) : ∀ (l : List α) (k : Nat) (o : α), l[k]? = some o → q o = true → (l.filter q)[((l.take k).filter q).length]? = some o := by
  intro l k o hk hq
  have hlt : k < l.length := getElem?_lt hk
  have e : l = l.take k ++ (o :: l.drop (k + 1)) := by
    have := List.drop_eq_getElem_cons hlt
    have ho : l[k] = o := by rw [List.getElem?_eq_getElem hlt] at hk; simpa using hk
    rw [← ho, ← this, List.take_append_drop]
  conv => lhs; arg 1; rw [e, List.filter_append]
  rw [List.getElem?_append_right (Nat.le_refl _), Nat.sub_self, List.filter_cons_of_pos hq]
  rfl

theorem zs_slot {k : Nat} {o : Oper} {z : List PV} (ho : ops[k]? = some o) (ha : allocB o = true) (hz : zeroB P o = some z) : (zsB P ops)[slotB ops k]? = some z := by
  have ho' : ops.toList[k]? = some o := by rw [Array.getElem?_toList]; exact ho
  have := filter_slot allocB ops.toList k o ho' ha
  unfold zsB slotB
  rw [List.getElem?_map, this]
  simp [hz]

theorem canR.fill {R : Heap} (h : canR P ops r R) {k : Nat} {o : Oper} {z : List PV} (ho : ops[k]? = some o) (ha : allocB o = true) (hz : zeroB P o = some z) (hlt : slotB ops k < R.length) : canR P ops r (R.set (slotB ops k) (some ⟨1, z.map .p⟩)) := by
  refine ⟨by rw [List.length_set]; exact h.1, fun j y hy => ?_⟩
  by_cases e : slotB ops k = j
  · subst e
    rw [zs_slot ho ha hz] at hy
    cases hy
    exact .inr (by rw [List.getElem?_set_self hlt])
  · rw [List.getElem?_set_ne e]; exact h.2 j y hy

theorem InvR.put {s : St} {d : Option Nat} {u : AV} (h : InvR P ops base r s) : InvR P ops base r (s.put d u) := by
  unfold InvR; rw [St.put_heap]; exact h
theorem InvR.fill {s : St} (h : InvR P ops base r s) {k : Nat} {o : Oper} {z : List PV} (ho : ops[k]? = some o) (ha : allocB o = true) (hz : zeroB P o = some z) (hb : s.heap[base + slotB ops k]? = some (some ⟨0, []⟩)) : InvR P ops base r (s.setB (base + slotB ops k) z) := by
  have hlt : base + slotB ops k < s.heap.length := getElem?_lt hb
  refine ⟨by simp only [St.setB, List.length_set]; exact h.1, ?_⟩
  simp only [St.setB]
  rw [List.drop_set, if_neg (by omega), Nat.add_sub_cancel_left]
  exact h.2.fill ho ha hz (by rw [List.length_drop]; omega)
theorem InvR.now {o : Oper} {s : St} {v : AV} (h : InvR P ops base r s) (hs : StabS P G rl ops base r o v s) : YieldsA P G rl ops o v s := by
  have := hs (s.heap.drop base) h.2
  rwa [List.take_append_drop] at this
theorem InvR.start {fr : Nat → Option AV} {nt : Nat} {hp : Heap} (hr : (zsB P ops).length = r) : InvR P ops hp.length r ⟨fr, nt, hp ++ List.replicate r (some ⟨0, []⟩)⟩ := by
  refine ⟨by simp, by simp, fun j z hz => .inl ?_⟩
  have : j < r := by rw [← hr]; exact getElem?_lt hz
  simp [this]

theorem StabS.put {o : Oper} {s : St} {d : Option Nat} {u v : AV} (h : StabS P G rl ops base r o v s) (hd : ∀ t, d = some t → t ∉ o.looksAt ops) : StabS P G rl ops base r o v (s.put d u) :=
  fun R hR => by rw [put_at, St.put_heap]; exact (YieldsA_put hd).mpr (h R hR)
theorem StabS.setB {o : Oper} {s : St} {v : AV} (h : StabS P G rl ops base r o v s) {b : Nat} (hb : base ≤ b) (z : List PV) : StabS P G rl ops base r o v (s.setB b z) := fun R hR => by
  have : (s.setB b z).heap.take base = s.heap.take base := by simp only [St.setB]; exact List.take_set_of_le hb
  rw [this]; exact h R hR
theorem StabF.put {o : Oper} {s : St} {d : Option Nat} {u v : AV} (h : StabF P G rl ops o v s) (hd : ∀ t, d = some t → t ∉ o.looksAt ops) : StabF P G rl ops o v (s.put d u) :=
  fun H => by rw [put_at]; exact (YieldsA_put hd).mpr (h H)

/-- It does not look at the heap. -/
def heapFree (o : Oper) : Bool := match o.op with | .extract _ _ | .move _ | .assign _ | .pick _ _ _ | .nilCheck _ | .fieldAddr _ _ _ => true | _ => false
theorem opA_free {o : Oper} (hf : heapFree o = true) {ρ : Operand → Option AV} {H H' : Heap} {v : AV} (h : opA P rl o ρ H = some (v, H)) : opA P rl o ρ H' = some (v, H') := by
  obtain ⟨dst, op, type, pos, after, guard⟩ := o
  cases op with
  | extract t i =>
    simp only [opA] at *
    split at h
    · rename_i vs ht
      obtain ⟨x, hx, he⟩ := Option.map_eq_some_iff.mp h
      cases he
      rw [hx]; rfl
    · cases h
  | move x =>
    simp only [opA] at *
    obtain ⟨y, hy, he⟩ := Option.map_eq_some_iff.mp h
    cases he
    rw [hy]; rfl
  | assign x =>
    simp only [opA] at *
    obtain ⟨y, hy, he⟩ := Option.map_eq_some_iff.mp h
    cases he
    rw [hy]; rfl
  | pick c a b =>
    simp only [opA] at *
    split at h
    · rename_i t x y _ _ _
      cases h; rfl
    · cases h
  | nilCheck x =>
    simp only [opA] at *
    split at h
    · cases h; rfl
    · cases h; rfl
    · cases h
  | fieldAddr t x f =>
    simp only [opA] at *
    obtain ⟨a, ha, he⟩ := Option.bind_eq_some_iff.mp h
    obtain ⟨y, hy, he⟩ := Option.map_eq_some_iff.mp he
    cases he
    rw [ha]
    have : fieldAddrA P H' t a f = fieldAddrA P H t a f := rfl
    simp only [Option.bind_some, this, hy, Option.map_some]
  | _ => cases hf

theorem YieldsA_free {o : Oper} (hf : heapFree o = true) {fr : Nat → Option AV} {nt : Nat} {H H' : Heap} {v : AV} (h : YieldsA P G rl ops o v ⟨fr, nt, H⟩) : YieldsA P G rl ops o v ⟨fr, nt, H'⟩ := by
  have hc : callOf o = none := by
    unfold heapFree at hf; unfold callOf
    split <;> simp_all
  rcases h with ⟨h1, h2⟩ | h
  · refine .inl ⟨h1, ?_⟩
    unfold AQ at *
    rw [hc] at *
    exact opA_free hf h2
  · exact .inr h

theorem free_comm {j : Nat} {oi oj : Oper} {v : AV} (hj : ops[j]? = some oj) (hap : oi.apart ops oj = true) (s : St) (K : St → Prop)
    (hy : StabF P G rl ops oi v s) (h : ropI P G rl es ops base j K (s.put oi.dst v)) :
    ropI P G rl es ops base j (fun s' => StabF P G rl ops oi v s' ∧ K (s'.put oi.dst v)) s := by
  obtain ⟨h1, h2, h3⟩ := Oper.apart_spec hap
  have hev : ∀ x ∈ oj.op.operands, evalA G (s.put oi.dst v) x = evalA G s x := fun x hx => evalA_put fun t ht e => h1 t ht (looks_op hx e)
  unfold ropI at *
  simp only [hj] at *
  unfold ropR at *
  split
  · rename_i ha
    rw [if_pos ha] at h
    obtain ⟨z, hz, hb, hk⟩ := h
    rw [St.put_heap] at hb
    refine ⟨z, hz, hb, StabF.put (s := s.setB _ z) hy h3, ?_⟩
    rw [setB_put, St.put_comm _ _ _ h2] at hk
    exact hk
  · rename_i ha
    rw [if_neg ha] at h
    split
    · rename_i he
      rw [if_pos he] at h
      unfold aop at *
      rw [wantA_put h1] at h
      split at h
      · rename_i b hb
        refine ⟨fun e => ?_, fun e => ⟨hy.put h3, ?_⟩⟩
        · have h := h.1 e
          unfold aexec at h ⊢
          cases hcn : callOf oj with
          | some q =>
            obtain ⟨f, args⟩ := q
            obtain ⟨ats, ho⟩ := callOf_some hcn
            rw [ho] at hev
            have e1 : evalA G (s.put oi.dst v) f = evalA G s f := hev f (by simp [Op.operands, Call.operands])
            have e2 : evals (evalA G (s.put oi.dst v)) args.toList = evals (evalA G s) args.toList := evals_congr fun x hx => hev x (by simp only [Op.operands, Call.operands, Array.mem_append]; exact .inr (by simpa using hx))
            rw [hcn] at h
            dsimp only at h ⊢
            rw [e1, e2, St.put_heap] at h
            split at h
            · refine ⟨h.1, fun ι w vs hS hv => (h.2 ι w vs hS hv).mono fun e w' ⟨v', r, h', ι', q1, q2, q3⟩ => ⟨v', r, h', ι', q1, ⟨StabF.put (s := ⟨s.fr, s.nt, h'⟩) hy h3, ?_⟩, q3⟩⟩
              dsimp only at q2
              rw [put_at, St.put_comm _ _ _ h2] at q2
              exact q2
            · exact h.elim
          | none =>
            rw [hcn] at h
            dsimp only at h ⊢
            rw [opA_congr hev, St.put_heap] at h
            split at h
            · rename_i u h' hop
              refine ⟨StabF.put (s := ⟨s.fr, s.nt, h'⟩) hy h3, ?_⟩
              rw [put_at, St.put_comm _ _ _ h2] at h
              exact h
            · exact h.elim
        · have h := h.2 e
          rw [St.put_comm _ _ _ h2] at h
          exact h
      · exact h.elim
    · rename_i he
      rw [if_neg he] at h
      obtain ⟨u, hu, hk⟩ := aqop_iff.mp h
      refine aqop_iff.mpr ⟨u, (YieldsA_put h1).mp hu, hy.put h3, ?_⟩
      rw [← St.put_comm s v u h2]
      exact hk

theorem quiet_comm {j : Nat} {oi oj : Oper} {v : AV} (hj : ops[j]? = some oj) (hap : oi.apart ops oj = true) (hq : effI es j oj = true → allocB oj = true) (s : St) (K : St → Prop)
    (hy : InvR P ops base r s ∧ StabS P G rl ops base r oi v s) (h : ropI P G rl es ops base j K (s.put oi.dst v)) :
    ropI P G rl es ops base j (fun s' => (InvR P ops base r s' ∧ StabS P G rl ops base r oi v s') ∧ K (s'.put oi.dst v)) s := by
  obtain ⟨h1, h2, h3⟩ := Oper.apart_spec hap
  unfold ropI at *
  simp only [hj] at h ⊢
  unfold ropR at *
  split
  · rename_i ha
    rw [if_pos ha] at h
    obtain ⟨z, hz, hb, hk⟩ := h
    rw [St.put_heap] at hb
    refine ⟨z, hz, hb, ⟨(hy.1.fill hj ha hz hb).put, (hy.2.setB (Nat.le_add_right _ _) z).put h3⟩, ?_⟩
    rw [setB_put, St.put_comm _ _ _ h2] at hk
    exact hk
  · rename_i ha
    rw [if_neg ha] at h
    split
    · rename_i he; exact absurd (hq he) ha
    · rename_i he
      rw [if_neg he] at h
      obtain ⟨u, hu, hk⟩ := aqop_iff.mp h
      refine aqop_iff.mpr ⟨u, (YieldsA_put h1).mp hu, ⟨hy.1.put, hy.2.put h3⟩, ?_⟩
      rw [← St.put_comm s v u h2]
      exact hk

theorem alloc_comm {i j : Nat} {oi oj : Oper} {z : List PV} (hj : ops[j]? = some oj) (hap : oi.apart ops oj = true) (ha : allocB oj = true) (hne : slotB ops j ≠ slotB ops i) (s : St) (K : St → Prop)
    (hy : s.heap[base + slotB ops i]? = some (some ⟨0, []⟩)) (h : ropI P G rl es ops base j K ((s.setB (base + slotB ops i) z).put oi.dst (.ptr (base + slotB ops i) 1 0))) :
    ropI P G rl es ops base j (fun s' => s'.heap[base + slotB ops i]? = some (some ⟨0, []⟩) ∧ K ((s'.setB (base + slotB ops i) z).put oi.dst (.ptr (base + slotB ops i) 1 0))) s := by
  obtain ⟨h1, h2, h3⟩ := Oper.apart_spec hap
  have hn : base + slotB ops i ≠ base + slotB ops j := by omega
  unfold ropI at *
  simp only [hj] at *
  unfold ropR at *
  rw [if_pos ha] at *
  obtain ⟨y, hz, hb, hk⟩ := h
  rw [St.put_heap] at hb
  simp only [St.setB, List.getElem?_set_ne hn] at hb
  refine ⟨y, hz, hb, ?_, ?_⟩
  · rw [St.put_heap]
    simp only [St.setB, List.getElem?_set_ne hn.symm]
    exact hy
  · rw [setB_put, setB_comm _ _ _ _ _ hn, St.put_comm _ _ _ h2, ← setB_put] at hk
    exact hk

/-- What comes behind an operation, through others. -/
def depStep (md : Region.Mode) (ops : Array Oper) (i : Nat) (D : List Nat) : List Nat :=
  (List.range ops.size).filter fun j => match ops[j]? with
    | some oj => oj.after.any fun e => Region.binds md e && (e.on == i || D.contains e.on)
    | none => false
def depL (md : Region.Mode) (ops : Array Oper) (i : Nat) : Nat → List Nat
  | 0 => []
  | n + 1 => depStep md ops i (depL md ops i n)

/-- May it be listed first? 'ok' is asked of each operation that is not behind it. -/
def firstB (md : Region.Mode) (ops : Array Oper) (listed : Array Bool) (i : Nat) (D : List Nat) (ok : Nat → Oper → Bool) : Bool :=
  (D.all fun d => listed.getD d false == false && match ops[d]? with
    | some od => od.after.any fun e => Region.binds md e && (e.on == i || D.contains e.on)
    | none => true) &&
  (List.range ops.size).all fun j => j == i || listed.getD j true || D.contains j || match ops[j]? with
    | some oj => ok j oj
    | none => true

theorem firstB_dep {i : Nat} {listed : Array Bool} {D : List Nat} {ok : Nat → Oper → Bool} (h : firstB md ops listed i D ok = true) (j : Nat) (oj : Oper) (hj : ops[j]? = some oj) (hd : D.contains j = true) :
    ∃ e ∈ oj.after, Region.binds md e = true ∧ (e.on = i ∨ D.contains e.on = true) := by
  simp only [firstB, Bool.and_eq_true, List.all_eq_true] at h
  have h1 := (h.1 j (by simpa using hd)).2
  simp only [hj] at h1
  obtain ⟨e, he, hb⟩ := Array.any_eq_true'.1 h1
  simp only [Bool.and_eq_true, Bool.or_eq_true, beq_iff_eq] at hb
  exact ⟨e, he, hb.1, hb.2⟩

theorem firstB_inv {i : Nat} {listed : Array Bool} {D : List Nat} {ok : Nat → Oper → Bool} (h : firstB md ops listed i D ok = true) (d : Nat) (hd : D.contains d = true) : listed.getD d false = false := by
  simp only [firstB, Bool.and_eq_true, List.all_eq_true] at h
  exact beq_iff_eq.mp (h.1 d (by simpa using hd)).1

theorem firstB_ok {i : Nat} {listed : Array Bool} {D : List Nat} {ok : Nat → Oper → Bool} (h : firstB md ops listed i D ok = true) (j : Nat) (oj : Oper) (hj : ops[j]? = some oj) (hne : j ≠ i) (hun : listed.getD j true = false) (hd : D.contains j = false) : ok j oj = true := by
  simp only [firstB, Bool.and_eq_true, List.all_eq_true, List.mem_range] at h
  have h1 := h.2 j (Array.getElem?_eq_some_iff.1 hj).1
  simp only [hj, Bool.or_eq_true, beq_iff_eq, hne, false_or, hun, hd, Bool.false_eq_true] at h1
  exact h1

def okA (ops : Array Oper) (i : Nat) (oi : Oper) (j : Nat) (oj : Oper) : Bool := oi.apart ops oj && (allocB oj && slotB ops j != slotB ops i)
def okQ (es : List Nat) (ops : Array Oper) (oi : Oper) (j : Nat) (oj : Oper) : Bool := oi.apart ops oj && (!effI es j oj || allocB oj)
def okF (ops : Array Oper) (oi : Oper) (_ : Nat) (oj : Oper) : Bool := oi.apart ops oj

theorem okA_spec {i j : Nat} {oi oj : Oper} (h : okA ops i oi j oj = true) : oi.apart ops oj = true ∧ allocB oj = true ∧ slotB ops j ≠ slotB ops i := by
  simpa [okA] using h
theorem okQ_spec {j : Nat} {oi oj : Oper} (h : okQ es ops oi j oj = true) : oi.apart ops oj = true ∧ (effI es j oj = true → allocB oj = true) := by
  simp only [okQ, Bool.and_eq_true, Bool.or_eq_true] at h
  refine ⟨h.1, fun he => ?_⟩
  rcases h.2 with h1 | h1
  · rw [he] at h1; cases h1
  · exact h1
theorem okF_spec {j : Nat} {oi oj : Oper} (h : okF ops oi j oj = true) : oi.apart ops oj = true := h

/-- The last operations: those with an effect, and those that do not look at the heap. -/
def arunT (P : Program) (G : Nat → Option (List PV)) (rl : List String) (es : List Nat) (ops : Array Oper) (Q : St → Prop) : List Nat → St → Prop
  | [], s => Q s
  | k :: rest, s => match ops[k]? with
    | none => False
    | some o => if effI es k o = true then allocB o = false ∧ aop P G rl ops o (arunT P G rl es ops Q rest) s
      else heapFree o = true ∧ ∃ v, StabF P G rl ops o v s ∧ arunT P G rl es ops Q rest (s.put o.dst v)

/-- The operations in a given order ('fs': those that yield the same whatever the heap): quiet ones; blocks that are made; the rest, each in its turn alone. -/
def arun (P : Program) (G : Nat → Option (List PV)) (rl : List String) (es : List Nat) (ops : Array Oper) (fs : List Nat) (base r : Nat) (Q : St → Prop) : List Nat → St → Prop
  | [], s => Q s
  | k :: rest, s => match ops[k]? with
    | none => False
    | some o => if allocB o = true then allocR P o (base + slotB ops k) (arun P G rl es ops fs base r Q rest) s
      else if effI es k o = true then arunT P G rl es ops Q (k :: rest) s
      else if (heapFree o || fs.contains k) = true then ∃ v, StabF P G rl ops o v s ∧ arun P G rl es ops fs base r Q rest (s.put o.dst v)
      else ∃ v, StabS P G rl ops base r o v s ∧ arun P G rl es ops fs base r Q rest (s.put o.dst v)

def lexR (es : List Nat) (md : Region.Mode) (ops : Array Oper) (fs : List Nat) : List Nat → Array Bool → Bool
  | [], listed => (Region.ready md ops listed).isEmpty
  | k :: rest, listed =>
    (match ops[k]? with
      | none => false
      | some o => if allocB o then (Region.ready md ops listed).contains k && firstB md ops listed k (depL md ops k ops.size) (okA ops k o)
        else if effI es k o then Region.ready md ops listed == [k]
        else (Region.ready md ops listed).contains k && firstB md ops listed k (depL md ops k ops.size) (if (heapFree o || fs.contains k) = true then okF ops o else okQ es ops o)) && lexR es md ops fs rest (listed.setIfInBounds k true)

theorem free_first {Q : St → Prop} {k : Nat} {o : Oper} {v : AV} (h0 : ops[k]? = some o) (ha : ¬ allocB o = true) (he : ¬ effI es k o = true) {n : Nat} {listed : Array Bool} {s : St}
    (hr : (Region.ready md ops listed).contains k = true) (hf : firstB md ops listed k (depL md ops k ops.size) (okF ops o) = true) (hy : StabF P G rl ops o v s)
    (h : ranyR P G rl es md ops base Q n (listed.setIfInBounds k true) (s.put o.dst v)) : ranyR P G rl es md ops base Q (n + 1) listed s := by
  refine ranyR_first (i := k) (StabF P G rl ops o v) (fun s => s.put o.dst v) (fun j oj => o.apart ops oj = true) (fun j => (depL md ops k ops.size).contains j) (fun s K hs hK => ?_)
    (fun j oj hj hc s K hs hK => free_comm hj hc s K hs hK) (firstB_dep hf) n listed s (fun j oj a1 a2 a3 a4 => okF_spec (firstB_ok hf j oj a1 a2 a3 a4)) (firstB_inv hf) (by simpa using hr) hy h
  unfold ropI
  simp only [h0]
  unfold ropR
  rw [if_neg ha, if_neg he]
  exact aqop_iff.mpr ⟨v, hs s.heap, hK⟩

theorem turn_first {Q : St → Prop} {k : Nat} {o : Oper} (h0 : ops[k]? = some o) (ha : ¬ allocB o = true) (he : effI es k o = true) {n : Nat} {listed : Array Bool} {s : St}
    (hr : (Region.ready md ops listed == [k]) = true) (h : aop P G rl ops o (ranyR P G rl es md ops base Q n (listed.setIfInBounds k true)) s) : ranyR P G rl es md ops base Q (n + 1) listed s := by
  have hr := beq_iff_eq.mp hr
  refine ⟨fun e => (by rw [hr] at e; cases e), fun i hi => ?_⟩
  rw [hr] at hi
  have : i = k := by simpa using hi
  subst this
  unfold ropI
  simp only [h0]
  unfold ropR
  rw [if_neg ha, if_pos he]
  exact h

theorem ranyR_lexT {Q : St → Prop} {fs : List Nat} : ∀ (l : List Nat) (listed : Array Bool) (s : St), lexR es md ops fs l listed = true → arunT P G rl es ops Q l s → ranyR P G rl es md ops base Q l.length listed s
  | [], listed, s, hB, h => ⟨by simpa [lexR] using hB, h⟩
  | k :: rest, listed, s, hB, h => by
    simp only [lexR, Bool.and_eq_true] at hB
    obtain ⟨hr, hB'⟩ := hB
    unfold arunT at h
    split at h
    · exact h.elim
    · rename_i o h0
      simp only [h0] at hr
      split at h
      · rename_i he
        obtain ⟨ha, h⟩ := h
        rw [if_neg (by rw [ha]; decide), if_pos he] at hr
        exact turn_first h0 (by rw [ha]; decide) he hr (aopX_mono (fun s' hs' => ranyR_lexT rest _ s' hB' hs') h)
      · rename_i he
        obtain ⟨hh, v, hy, hK⟩ := h
        have ha : ¬ allocB o = true := by
          unfold heapFree at hh; unfold allocB
          split at hh <;> simp_all
        rw [if_neg ha, if_neg he] at hr
        simp only [Bool.and_eq_true, hh, Bool.true_or, if_true] at hr
        exact free_first h0 ha he hr.1 hr.2 hy (ranyR_lexT rest _ _ hB' hK)

theorem ranyR_lex {Q : St → Prop} {fs : List Nat} : ∀ (l : List Nat) (listed : Array Bool) (s : St), lexR es md ops fs l listed = true → InvR P ops base r s → arun P G rl es ops fs base r Q l s → ranyR P G rl es md ops base Q l.length listed s
  | [], listed, s, hB, _, h => ⟨by simpa [lexR] using hB, h⟩
  | k :: rest, listed, s, hB, hi, h => by
    have hB0 := hB
    simp only [lexR, Bool.and_eq_true] at hB
    obtain ⟨hr, hB'⟩ := hB
    unfold arun at h
    split at h
    · exact h.elim
    · rename_i o h0
      simp only [h0] at hr
      split at h
      · rename_i ha
        rw [if_pos ha] at hr
        simp only [Bool.and_eq_true] at hr
        obtain ⟨hr, hf⟩ := hr
        obtain ⟨z, hz, hb, hk⟩ := h
        refine ranyR_first (i := k) (fun s => s.heap[base + slotB ops k]? = some (some ⟨0, []⟩)) (fun s => (s.setB (base + slotB ops k) z).put o.dst (.ptr (base + slotB ops k) 1 0))
          (fun j oj => o.apart ops oj = true ∧ allocB oj = true ∧ slotB ops j ≠ slotB ops k) (fun j => (depL md ops k ops.size).contains j) (fun s K hs hK => ?_) (fun j oj hj hc s K hs hK => alloc_comm hj hc.1 hc.2.1 hc.2.2 s K hs hK) (firstB_dep hf) rest.length listed s
          (fun j oj a1 a2 a3 a4 => okA_spec (firstB_ok hf j oj a1 a2 a3 a4)) (firstB_inv hf) (by simpa using hr) hb (ranyR_lex rest _ _ hB' (hi.fill h0 ha hz hb).put hk)
        unfold ropI
        simp only [h0]
        unfold ropR
        rw [if_pos ha]
        exact ⟨z, hz, hs, hK⟩
      · rename_i ha
        split at h
        · exact ranyR_lexT (k :: rest) listed s hB0 h
        · rename_i he
          rw [if_neg ha, if_neg he] at hr
          simp only [Bool.and_eq_true] at hr
          obtain ⟨hr, hf⟩ := hr
          split at h
          · rename_i hh
            rw [if_pos hh] at hf
            obtain ⟨v, hy, hK⟩ := h
            exact free_first h0 ha he hr hf hy (ranyR_lex rest _ _ hB' hi.put hK)
          · rename_i hh
            rw [if_neg hh] at hf
            obtain ⟨v, hy, hK⟩ := h
            refine ranyR_first (i := k) (fun s => InvR P ops base r s ∧ StabS P G rl ops base r o v s) (fun s => s.put o.dst v) (fun j oj => o.apart ops oj = true ∧ (effI es j oj = true → allocB oj = true)) (fun j => (depL md ops k ops.size).contains j) (fun s K hs hK => ?_)
              (fun j oj hj hc s K hs hK => quiet_comm hj hc.1 hc.2 s K hs hK) (firstB_dep hf) rest.length listed s (fun j oj a1 a2 a3 a4 => okQ_spec (firstB_ok hf j oj a1 a2 a3 a4)) (firstB_inv hf) (by simpa using hr) ⟨hi, hy⟩ (ranyR_lex rest _ _ hB' hi.put hK)
            unfold ropI
            simp only [h0]
            unfold ropR
            rw [if_neg ha, if_neg he]
            exact aqop_iff.mpr ⟨v, hs.1.now hs.2, hK⟩
end

section
variable {ι ι0 : Nat → Nat × Nat} {h0 : Heap} {w w0 : World} {n0 : Nat} {s : St} {a : Act}

theorem aquiet_exec {o : Oper} {K : St → Prop} (hx : aquiet P G rl o K s) : aexec P G rl o K s := by
  unfold aquiet at hx
  unfold aexec
  cases hq : callOf o with
  | some q =>
    obtain ⟨f, args⟩ := q
    simp only [hq] at hx ⊢
    split at hx
    · rename_i g caps xs hf hxs
      obtain ⟨he, r, hc, hk⟩ := hx
      refine ⟨he, fun ι w vs hS hv => (hc ι w vs hS hv).mono ?_⟩
      rintro e w' ⟨v, r', h', ι', e1, ⟨rfl, rfl⟩, e2⟩
      exact ⟨v, _, _, ι', e1, hk, e2⟩
    · exact hx.elim
  | none =>
    simp only [hq] at hx ⊢
    split at hx
    · obtain ⟨rfl, hk⟩ := hx
      exact hk
    · exact hx.elim

theorem aqop_aop {o : Oper} {K : St → Prop} (hx : aqop P G rl ops o K s) : aop P G rl ops o K s := by
  unfold aqop at hx
  unfold aop
  split at hx
  · exact ⟨fun e => aquiet_exec (hx.1 e), hx.2⟩
  · exact hx.elim

theorem aqAny_sound {Q : St → Prop} {Q' : Exit → Act → World → Prop} (hK : ∀ s' ι' a' w', Q s' → Sim P G ι' s' a' w' → Evo n0 ι0 h0 w0 ι' s'.heap w' → Q' .normal a' w') :
    ∀ (fuel : Nat) (listed : Array Bool) (s : St) (ι : Nat → Nat × Nat) (a : Act) (w : World), Sim P G ι s a w → Evo n0 ι0 h0 w0 ι s.heap w →
      aqAny P G rl md ops Q fuel listed s → wpAny P md ops Q' fuel listed a w
  | 0, _, s, ι, a, w, hs, he, h => ⟨h.1, hK s ι a w h.2 hs he⟩
  | fuel + 1, listed, s, ι, a, w, hs, he, h => by
    refine ⟨fun h0 => hK s ι a w (h.1 h0) hs he, fun i hi => ?_⟩
    have h1 := h.2 i hi
    unfold aqOp at h1
    unfold wpOp
    split
    · rename_i ho; simp only [ho] at h1; exact aqAny_sound hK fuel _ s ι a w hs he h1
    · rename_i o ho
      simp only [ho] at h1
      exact aop_sound (rl := rl) (K := aqAny P G rl md ops Q fuel (listed.setIfInBounds i true)) hs he (fun s' ι' a' w' hk hs' he' => aqAny_sound hK fuel _ s' ι' a' w' hs' he' hk) (aqop_aop h1)

theorem axop_aop {o : Oper} {K : St → Prop} (hx : axop P G rl ops o K s) : aop P G rl ops o K s := by
  unfold axop at hx
  split at hx
  · exact hx
  · exact aqop_aop hx

theorem axAny_sound {Q : St → Prop} {Q' : Exit → Act → World → Prop} (hK : ∀ s' ι' a' w', Q s' → Sim P G ι' s' a' w' → Evo n0 ι0 h0 w0 ι' s'.heap w' → Q' .normal a' w') :
    ∀ (fuel : Nat) (listed : Array Bool) (s : St) (ι : Nat → Nat × Nat) (a : Act) (w : World), Sim P G ι s a w → Evo n0 ι0 h0 w0 ι s.heap w →
      axAny P G rl md ops Q fuel listed s → wpAny P md ops Q' fuel listed a w
  | 0, _, s, ι, a, w, hs, he, h => ⟨h.1, hK s ι a w h.2 hs he⟩
  | fuel + 1, listed, s, ι, a, w, hs, he, h => by
    refine ⟨fun h0 => hK s ι a w (h.1 h0) hs he, fun i hi => ?_⟩
    have h1 := h.2 i hi
    unfold axOp at h1
    unfold wpOp
    split
    · rename_i ho; simp only [ho] at h1; exact axAny_sound hK fuel _ s ι a w hs he h1
    · rename_i o ho
      simp only [ho] at h1
      exact aop_sound (rl := rl) (K := axAny P G rl md ops Q fuel (listed.setIfInBounds i true)) hs he (fun s' ι' a' w' hk hs' he' => axAny_sound hK fuel _ s' ι' a' w' hs' he' hk) (axop_aop h1)

theorem Sim.drew (hs : Sim P G ι s a w) : Sim P G ι s a { w with drawn := w.drawn + 1 } ∧ Evo s.heap.length ι s.heap w ι s.heap { w with drawn := w.drawn + 1 } := by
  obtain ⟨h1, h2⟩ := hs.hS.drew
  exact ⟨⟨h1, fun k x hx => by obtain ⟨v, p1, p2⟩ := hs.fr k x hx; exact ⟨v, p1, p2.evo h2⟩, hs.nt, hs.df⟩, h2⟩

theorem draw_sound {id : Nat} {Q : St → Prop} {Q' : Exit → Act → World → Prop} (hm : P.follows .mixedOrders = true) (hK : ∀ s' ι' a' w', Q s' → Sim P G ι' s' a' w' → Evo n0 ι0 h0 w0 ι' s'.heap w' → Q' .normal a' w')
    (hs : Sim P G ι s a w) (he : Evo n0 ι0 h0 w0 ι s.heap w) (hB : Region.lexB .any ops = true) (h : aqops P G rl ops Q ops.toList s) : (Code.region id ops true).wp P Q' a w := by
  simp only [Region.lexB, Bool.and_eq_true] at hB
  obtain ⟨d1, d2⟩ := hs.drew
  refine wp_region_any hm (aqAny_sound (rl := rl) hK _ _ s ι a _ d1 (he.trans d2 he.len) ?_)
  have := aqAny_lex (P := P) (G := G) (rl := rl) (md := .any) (Q := Q) ops.toList 0 (Array.replicate ops.size false) s (by simp) (by simpa using hB.2) h
  simpa using this

theorem drawE_sound {id : Nat} {Q : St → Prop} {Q' : Exit → Act → World → Prop} (hm : P.follows .mixedOrders = true) (hK : ∀ s' ι' a' w', Q s' → Sim P G ι' s' a' w' → Evo n0 ι0 h0 w0 ι' s'.heap w' → Q' .normal a' w')
    (hs : Sim P G ι s a w) (he : Evo n0 ι0 h0 w0 ι s.heap w) (hB : lexE .any ops ops.size 0 (Array.replicate ops.size false) = true) (h : aeops P G rl ops Q ops.toList s) : (Code.region id ops true).wp P Q' a w := by
  obtain ⟨d1, d2⟩ := hs.drew
  refine wp_region_any hm (axAny_sound (rl := rl) hK _ _ s ι a _ d1 (he.trans d2 he.len) ?_)
  have := axAny_lex (P := P) (G := G) (rl := rl) (md := .any) (Q := Q) ops.toList 0 (Array.replicate ops.size false) s (by simp) (by simpa using hB) h
  simpa using this

theorem alloc_at {b : Nat} {z : List PV} {o : Oper} {ρ : Operand → Value} {ι : Nat → Nat × Nat} {h : Heap} {w : World} (hS : SimH P G ι h w) (hz : zeroB P o = some z) (hb : h[b]? = some (some ⟨0, []⟩)) : Sound P G ι h w (execOp ρ o) (.ptr b 1 0) (h.set b (some ⟨1, z.map .p⟩)) := by
  obtain ⟨dst, op, type, pos, after, guard⟩ := o
  unfold zeroB at hz
  cases op with
  | alloc t =>
    dsimp only at hz
    split at hz
    · rename_i kk s1 b1 z' ht
      split at hz
      · cases hz
      · rename_i hne
        cases hz
        obtain ⟨zv, hzr, hzl, hzv⟩ := zero_rel ht rfl
        have hlt : b < h.length := getElem?_lt hb
        obtain ⟨q1, q2⟩ := hS.upd (h' := h.set b (some ⟨1, z.map .p⟩)) (ι' := fun i => if i = b then (w.heap.size, 0) else ι i) (w' := w.alloc (.cells zv.cells t)) b ⟨1, z.map .p⟩ w.heap.size 0 zv.cells t
          (.inr ⟨hlt, ⟨_, hb, Nat.zero_le _⟩, rfl⟩) (fun i => rfl) (.inl (Nat.le_refl _)) (by simpa using hne) (heap_alloc_new w _) (by simp [hzl]) (fun j x hx => by
            have hj : j < z.length := by have := getElem?_lt hx; simpa using this
            refine ⟨zv.cells[j]'(by omega), by rw [Nat.zero_add]; simp [show j < zv.cells.size by omega], ?_⟩
            simp only [List.getElem?_map, Option.map_eq_some_iff] at hx
            obtain ⟨y, hy, rfl⟩ := hx
            exact .p _ _ (hzv w _ j y _ hy (by simp [show j < zv.cells.size by omega])))
          (by simp) (fun k hk _ => by first | exact heap_alloc_old _ _ hk | exact heap_alloc_old _ _ _ hk) (fun bk hq hgg => by rw [hb] at hq; cases hq; cases hgg) rfl rfl rfl
        have hl : liveAt (h.set b (some ⟨1, z.map .p⟩)) b 1 := ⟨⟨1, z.map .p⟩, by simp [hlt], rfl⟩
        have hp := ptr_rel (ι := fun i => if i = b then (w.heap.size, 0) else ι i) (w := w.alloc (.cells zv.cells t)) hl ⟨zv.cells, t, (0, 0), by rw [if_pos rfl]; exact heap_alloc_new w _⟩ 0
        refine op_value' (w' := w.alloc (.cells zv.cells t)) ?_ q1 (by simpa using hp) q2
        simp [Instr.alloc, Sem.run_bind, hzr w, newVar, newRow]
    · cases hz
  | _ => cases hz

theorem allocR_sound {o : Oper} {b : Nat} {K : St → Prop} {K' : Act → World → Prop} {Q' : Exit → Act → World → Prop} (ha : allocB o = true) (hs : Sim P G ι s a w) (he : Evo n0 ι0 h0 w0 ι s.heap w)
    (hK : ∀ s' ι' a' w', K s' → Sim P G ι' s' a' w' → Evo n0 ι0 h0 w0 ι' s'.heap w' → K' a' w') (hx : allocR P o b K s) :
    if Region.wanted o (yielded ops a.tmps) then o.wp P a w K' Q' ∨ (o.asks P a w ∧ LetsOut Q') else K' (a.put o.dst undef) w := by
  obtain ⟨z, hz, hb, hk⟩ := hx
  have hw : wantA ops o s = some true := by
    simp only [allocB, Bool.and_eq_true, Option.isNone_iff_eq_none] at ha
    unfold wantA; rw [ha.2]
  rw [wanted_eq hs hw]
  simp only [if_true]
  left
  obtain ⟨v, w', ι', hrun, hS', hr, he'⟩ := alloc_at (ρ := fun x => a.eval x) hs.hS hz hb
  have := hK _ ι' _ w' hk (hs.put hS' he' o.dst hr) (by rw [St.put_heap]; exact he.trans he' he.len)
  unfold Oper.wp
  rcases hrun with hrun | ⟨hrun, rfl⟩
  · rw [hrun]; exact this
  · rw [hrun]; exact this

theorem ranyR_sound {es : List Nat} {base : Nat} {Q : St → Prop} {Q' : Exit → Act → World → Prop} (hK : ∀ s' ι' a' w', Q s' → Sim P G ι' s' a' w' → Evo n0 ι0 h0 w0 ι' s'.heap w' → Q' .normal a' w') :
    ∀ (fuel : Nat) (listed : Array Bool) (s : St) (ι : Nat → Nat × Nat) (a : Act) (w : World), Sim P G ι s a w → Evo n0 ι0 h0 w0 ι s.heap w →
      ranyR P G rl es md ops base Q fuel listed s → wpAny P md ops Q' fuel listed a w
  | 0, _, s, ι, a, w, hs, he, h => ⟨h.1, hK s ι a w h.2 hs he⟩
  | fuel + 1, listed, s, ι, a, w, hs, he, h => by
    refine ⟨fun h0 => hK s ι a w (h.1 h0) hs he, fun i hi => ?_⟩
    have h1 := h.2 i hi
    unfold ropI at h1
    unfold wpOp
    split
    · rename_i ho; simp only [ho] at h1; exact ranyR_sound hK fuel _ s ι a w hs he h1
    · rename_i o ho
      simp only [ho] at h1
      unfold ropR at h1
      split at h1
      · rename_i ha
        exact allocR_sound (K := ranyR P G rl es md ops base Q fuel (listed.setIfInBounds i true)) ha hs he (fun s' ι' a' w' hk hs' he' => ranyR_sound hK fuel _ s' ι' a' w' hs' he' hk) h1
      · split at h1
        · exact aop_sound (rl := rl) (K := ranyR P G rl es md ops base Q fuel (listed.setIfInBounds i true)) hs he (fun s' ι' a' w' hk hs' he' => ranyR_sound hK fuel _ s' ι' a' w' hs' he' hk) h1
        · exact aop_sound (rl := rl) (K := ranyR P G rl es md ops base Q fuel (listed.setIfInBounds i true)) hs he (fun s' ι' a' w' hk hs' he' => ranyR_sound hK fuel _ s' ι' a' w' hs' he' hk) (aqop_aop h1)

theorem drawR_sound {es : List Nat} {id base r : Nat} {ord fs : List Nat} {Q : St → Prop} {Q' : Exit → Act → World → Prop} (hm : P.follows .mixedOrders = true) (hK : ∀ s' ι' a' w', Q s' → Sim P G ι' s' a' w' → Evo n0 ι0 h0 w0 ι' s'.heap w' → Q' .normal a' w')
    (hs : Sim P G ι s a w) (he : Evo n0 ι0 h0 w0 ι s.heap w) (hl : ord.length = ops.size) (hB : lexR es .any ops fs ord (Array.replicate ops.size false) = true) (hi : InvR P ops base r s) (h : arun P G rl es ops fs base r Q ord s) : (Code.region id ops true).wp P Q' a w := by
  obtain ⟨d1, d2⟩ := hs.drew
  have := ranyR_lex (P := P) (G := G) (rl := rl) (md := .any) (Q := Q) (base := base) (r := r) ord (Array.replicate ops.size false) s hB hi h
  rw [hl] at this
  exact wp_region_any hm (ranyR_sound (rl := rl) hK _ _ s ι a _ d1 (he.trans d2 he.len) this)

end
end

/-! ### Drawn regions without blocks: those with an effect come in their turn alone, the others when nothing with an effect can come ahead of them or behind them. -/
def okN (es : List Nat) (ops : Array Oper) (oi : Oper) (j : Nat) (oj : Oper) : Bool := oi.apart ops oj && (!effI es j oj && !allocB oj)
def arunN (P : Program) (G : Nat → Option (List PV)) (rl : List String) (es : List Nat) (ops : Array Oper) (Q : St → Prop) : List Nat → St → Prop
  | [], s => Q s
  | k :: rest, s => match ops[k]? with
    | none => False
    | some o => allocB o = false ∧ (if effI es k o = true then aop P G rl ops o (arunN P G rl es ops Q rest) s else aqop P G rl ops o (arunN P G rl es ops Q rest) s)
def lexN (es : List Nat) (md : Region.Mode) (ops : Array Oper) : List Nat → Array Bool → Bool
  | [], listed => (Region.ready md ops listed).isEmpty
  | k :: rest, listed =>
    (match ops[k]? with
      | none => false
      | some o => if effI es k o then Region.ready md ops listed == [k]
        else (Region.ready md ops listed).contains k && firstB md ops listed k (depL md ops k ops.size) (if heapFree o = true then okF ops o else okN es ops o)) && lexN es md ops rest (listed.setIfInBounds k true)

section
variable {P : Program} {G : Nat → Option (List PV)} {rl : List String} {ops : Array Oper} {md : Region.Mode} {base : Nat} {es : List Nat}
theorem plain_comm {j : Nat} {oi oj : Oper} {v : AV} (hj : ops[j]? = some oj) (hap : oi.apart ops oj = true) (he : effI es j oj = false) (ha : allocB oj = false) (s : St) (K : St → Prop)
    (hy : YieldsA P G rl ops oi v s) (h : ropI P G rl es ops base j K (s.put oi.dst v)) :
    ropI P G rl es ops base j (fun s' => YieldsA P G rl ops oi v s' ∧ K (s'.put oi.dst v)) s := by
  obtain ⟨h1, h2, h3⟩ := Oper.apart_spec hap
  unfold ropI at *
  simp only [hj] at h ⊢
  unfold ropR at *
  rw [if_neg (by rw [ha]; decide), if_neg (by rw [he]; decide)] at h ⊢
  obtain ⟨u, hu, hk⟩ := aqop_iff.mp h
  refine aqop_iff.mpr ⟨u, (YieldsA_put h1).mp hu, (YieldsA_put h3).mpr hy, ?_⟩
  rw [← St.put_comm s v u h2]
  exact hk

theorem ranyR_lexN {Q : St → Prop} : ∀ (l : List Nat) (listed : Array Bool) (s : St), lexN es md ops l listed = true → arunN P G rl es ops Q l s → ranyR P G rl es md ops base Q l.length listed s
  | [], listed, s, hB, h => ⟨by simpa [lexN] using hB, h⟩
  | k :: rest, listed, s, hB, h => by
    simp only [lexN, Bool.and_eq_true] at hB
    obtain ⟨hr, hB'⟩ := hB
    unfold arunN at h
    split at h
    · exact h.elim
    · rename_i o h0
      obtain ⟨ha, h⟩ := h
      have ha' : ¬ allocB o = true := by rw [ha]; decide
      simp only [h0] at hr
      split at h
      · rename_i he
        rw [if_pos he] at hr
        exact turn_first h0 ha' he hr (aopX_mono (fun s' hs' => ranyR_lexN rest _ s' hB' hs') h)
      · rename_i he
        rw [if_neg he] at hr
        simp only [Bool.and_eq_true] at hr
        obtain ⟨hr, hf⟩ := hr
        obtain ⟨v, hy, hK⟩ := aqop_iff.mp h
        by_cases hh : heapFree o = true
        · rw [if_pos hh] at hf
          exact free_first h0 ha' he hr hf (fun H' => YieldsA_free hh hy) (ranyR_lexN rest _ _ hB' hK)
        rw [if_neg hh] at hf
        refine ranyR_first (i := k) (fun s => YieldsA P G rl ops o v s) (fun s => s.put o.dst v) (fun j oj => o.apart ops oj = true ∧ effI es j oj = false ∧ allocB oj = false) (fun j => (depL md ops k ops.size).contains j) (fun s K hs hK => ?_)
          (fun j oj hj hc s K hs hK => plain_comm hj hc.1 hc.2.1 hc.2.2 s K hs hK) (firstB_dep hf) rest.length listed s (fun j oj a1 a2 a3 a4 => ?_) (firstB_inv hf) (by simpa using hr) hy (ranyR_lexN rest _ _ hB' hK)
        · unfold ropI
          simp only [h0]
          unfold ropR
          rw [if_neg ha', if_neg he]
          exact aqop_iff.mpr ⟨v, hs, hK⟩
        · have := firstB_ok hf j oj a1 a2 a3 a4
          simpa [okN] using this

variable {ι ι0 : Nat → Nat × Nat} {h0 : Heap} {w w0 : World} {n0 : Nat} {s : St} {a : Act}
theorem drawN_sound {id : Nat} {ord : List Nat} {Q : St → Prop} {Q' : Exit → Act → World → Prop} (hm : P.follows .mixedOrders = true) (hK : ∀ s' ι' a' w', Q s' → Sim P G ι' s' a' w' → Evo n0 ι0 h0 w0 ι' s'.heap w' → Q' .normal a' w')
    (hs : Sim P G ι s a w) (he : Evo n0 ι0 h0 w0 ι s.heap w) (hl : ord.length = ops.size) (hB : lexN es .any ops ord (Array.replicate ops.size false) = true) (h : arunN P G rl es ops Q ord s) : (Code.region id ops true).wp P Q' a w := by
  obtain ⟨d1, d2⟩ := hs.drew
  have := ranyR_lexN (P := P) (G := G) (rl := rl) (md := .any) (Q := Q) (base := 0) ord (Array.replicate ops.size false) s hB h
  rw [hl] at this
  exact wp_region_any hm (ranyR_sound (rl := rl) hK _ _ s ι a _ d1 (he.trans d2 he.len) this)
end

/-- Another way to say what is known: frames may forget, heaps may be let go or told otherwise. -/
def Ghost (P : Program) (G : Nat → Option (List PV)) (h0 : Heap) (s s' : St) : Prop :=
  ∀ ι a w ι0 w0, SimH P G ι0 h0 w0 → Sim P G ι s a w → Evo h0.length ι0 h0 w0 ι s.heap w → ∃ ι', Sim P G ι' s' a w ∧ Evo h0.length ι0 h0 w0 ι' s'.heap w

def thenA (K : St → Prop) (Q : Exit → St → Prop) : Exit → St → Prop
  | .normal, s => K s
  | e, s => Q e s

def blockA (id : Nat) (Q : Exit → St → Prop) : Exit → St → Prop
  | .exit i, s => if i = id then Q .normal s else Q (.exit i) s
  | e, s => Q e s

section
variable (P : Program) (G : Nat → Option (List PV)) (rl : List String) (h0 : Heap)

def condA (v : Option AV) (X Y : Prop) : Prop :=
  match v with
  | some (.p (.bool t)) => (t = true → X) ∧ (t = false → Y)
  | _ => False

/-- What code does to abstract states, in a function that began with the heap h0. -/
def awp : Code → (Exit → St → Prop) → St → Prop
  | .skip, Q, s => Q .normal s
  | .label _, Q, s => Q .normal s
  | .region _ ops draw, Q, s =>
    if draw then (Region.lexB .any ops = true ∧ aqops P G rl ops (Q .normal) ops.toList s) ∨ (lexE .any ops ops.size 0 (Array.replicate ops.size false) = true ∧ aeops P G rl ops (Q .normal) ops.toList s) ∨
      (∃ s1 base r ord fs es, Ghost P G h0 s s1 ∧ ord.length = ops.size ∧ lexR es .any ops fs ord (Array.replicate ops.size false) = true ∧ InvR P ops base r s1 ∧ arun P G rl es ops fs base r (Q .normal) ord s1) ∨
      (∃ ord es, ord.length = ops.size ∧ lexN es .any ops ord (Array.replicate ops.size false) = true ∧ arunN P G rl es ops (Q .normal) ord s)
    else aops P G rl ops (Q .normal) ops.toList s
  | .seq a b, Q, s => ∃ J : St → Prop, awp a (thenA (fun s' => ∃ s1, Ghost P G h0 s' s1 ∧ J s1) Q) s ∧ ∀ s1, J s1 → awp b Q s1
  | .cond c x y, Q, s => condA (evalA G s c) (awp x Q s) (awp y Q s)
  | .block id c, Q, s => awp c (blockA id Q) s
  | .loop c, Q, s => ∃ I : Nat → St → Prop, (∃ n s1, Ghost P G h0 s s1 ∧ I n s1) ∧ ∀ n s, I n s → awp c (thenA (fun s' => ∃ m s1, m < n ∧ Ghost P G h0 s' s1 ∧ I m s1) Q) s
  | .exit id, Q, s => Q (.exit id) s
  | .ret, Q, s => Q .ret s
  | _, _, _ => False

end
end Go.Proofs.Ytkmcecbglomemaa.AM
end

section
set_option linter.unusedVariables false
set_option linter.unusedSimpArgs false
namespace Go.Proofs.Ytkmcecbglomemaa.AM
open Go

theorem wp_loop_n {P : Program} {Q : Exit → Act → World → Prop} {c : Code} (I : Nat → Act → World → Prop)
    (round : ∀ n a w, I n a w → c.wp P (Exit.then (fun a' w' => ∃ m, m < n ∧ I m a' w') Q) a w) (n : Nat) (a : Act) (w : World) (h₀ : I n a w) : (Code.loop c).wp P Q a w := by
  intro b k cs
  have key : ∀ n a w, I n a w →
      ∃ e a' w', Q e a' w' ∧ Arrives P (lone (b.at a (.code c :: .inLoop c :: k)) cs w) b k cs e a' w' := by
    intro n
    induction n using Nat.strongRecOn with
    | _ n ih =>
      intro a w hI
      obtain ⟨e, a₁, w₁, hq, harr⟩ := round n a w hI b (.inLoop c :: k) cs
      cases e with
      | normal =>
        obtain ⟨m, hlt, hI₁⟩ := hq
        obtain ⟨e₂, a₂, w₂, hq₂, harr₂⟩ := ih m hlt a₁ w₁ hI₁
        exact ⟨e₂, a₂, w₂, hq₂, .of_steps (Steps.trans harr (.one step_inLoop)) harr₂⟩
      | exit id => exact ⟨_, a₁, w₁, hq, .pass (x := .inLoop c) rfl (fun _ _ => .inl (by simp)) harr⟩
      | goto l => exact ⟨_, a₁, w₁, hq, .pass (x := .inLoop c) rfl (fun _ _ => .inl (by simp)) harr⟩
      | ret => exact ⟨_, a₁, w₁, hq, .pass (x := .inLoop c) rfl (fun _ _ => .inl (by simp)) harr⟩
      | panic ch => exact ⟨_, a₁, w₁, hq, .pass (x := .inLoop c) rfl (fun _ _ => .inl (by simp)) harr⟩
      | outgrown => exact ⟨_, a₁, w₁, hq, .pass (x := .inLoop c) rfl (fun _ _ => .inl (by simp)) harr⟩
  obtain ⟨e, a', w', hq, harr⟩ := key n a w h₀
  exact ⟨e, a', w', hq, .of_steps (.one step_loop) harr⟩

section
variable {P : Program} {G : Nat → Option (List PV)} {rl : List String} {ι ι' ι0 : Nat → Nat × Nat} {h h' h0 : Heap} {w w' w0 : World} {n0 : Nat} {s : St} {a : Act}

def Lift (P : Program) (G : Nat → Option (List PV)) (ι0 : Nat → Nat × Nat) (h0 : Heap) (w0 : World) (Q : Exit → St → Prop) : Exit → Act → World → Prop :=
  fun e a w => ∃ s ι, Q e s ∧ Sim P G ι s a w ∧ Evo h0.length ι0 h0 w0 ι s.heap w

theorem awp_sound (hm : P.follows .mixedOrders = true) (hS0 : SimH P G ι0 h0 w0) : ∀ (c : Code) (Q : Exit → St → Prop) (s : St) (ι : Nat → Nat × Nat) (a : Act) (w : World), Sim P G ι s a w → Evo h0.length ι0 h0 w0 ι s.heap w →
    awp P G rl h0 c Q s → c.wp P (Lift P G ι0 h0 w0 Q) a w := by
  intro c
  induction c with
  | skip => intro Q s ι a w hs he h; exact wp_skip ⟨s, ι, h, hs, he⟩
  | label l => intro Q s ι a w hs he h; exact wp_label ⟨s, ι, h, hs, he⟩
  | region id ops draw =>
    intro Q s ι a w hs he h
    unfold awp at h
    split at h
    · rename_i hd; subst hd
      rcases h with h | h | ⟨s1, base, r, ord, fs, es, hg, hl, hB, hi, hr⟩ | ⟨ord, es, hl, hB, hr⟩
      · exact draw_sound hm (fun s' ι' a' w' hq hs' he' => ⟨s', ι', hq, hs', he'⟩) hs he h.1 h.2
      · exact drawE_sound hm (fun s' ι' a' w' hq hs' he' => ⟨s', ι', hq, hs', he'⟩) hs he h.1 h.2
      · obtain ⟨ι1, hs1, he1⟩ := hg ι a w ι0 w0 hS0 hs he
        exact drawR_sound hm (fun s' ι' a' w' hq hs' he' => ⟨s', ι', hq, hs', he'⟩) hs1 he1 hl hB hi hr
      · exact drawN_sound hm (fun s' ι' a' w' hq hs' he' => ⟨s', ι', hq, hs', he'⟩) hs he hl hB hr
    · rename_i hd
      have : draw = false := by simpa using hd
      subst this
      exact wp_region_list (aops_sound (fun s' ι' a' w' hq hs' he' => ⟨s', ι', hq, hs', he'⟩) ops.toList s ι a w hs he h)
  | seq x y ihx ihy =>
    intro Q s ι a w hs he ⟨J, h, hJ⟩
    refine wp_seq (wp_mono (ihx _ s ι a w hs he h) fun e a' w' ⟨s', ι', hq, hs', he'⟩ => ?_)
    cases e with
    | normal =>
      obtain ⟨s1, hg, hj⟩ := hq
      obtain ⟨ι1, hs1, he1⟩ := hg ι' a' w' ι0 w0 hS0 hs' he'
      exact ihy Q s1 ι1 a' w' hs1 he1 (hJ s1 hj)
    | _ => exact ⟨s', ι', hq, hs', he'⟩
  | cond c x y ihx ihy =>
    intro Q s ι a w hs he h
    unfold awp condA at h
    split at h
    · rename_i t ht
      have := (hs.eval ht).bool_inv
      refine wp_cond_split this (fun e => ihx Q s ι a w hs he (h.1 e)) (fun e => ihy Q s ι a w hs he (h.2 e))
    · exact h.elim
  | block id c ih =>
    intro Q s ι a w hs he h
    refine wp_block (wp_mono (ih _ s ι a w hs he h) fun e a' w' ⟨s', ι', hq, hs', he'⟩ => ?_)
    cases e with
    | exit i =>
      simp only [Exit.inBlock]
      simp only [blockA] at hq
      split
      · rename_i hi; simp only [hi, if_true] at hq; exact ⟨s', ι', hq, hs', he'⟩
      · rename_i hi; simp only [hi, if_false] at hq; exact ⟨s', ι', hq, hs', he'⟩
    | _ => exact ⟨s', ι', hq, hs', he'⟩
  | loop c ih =>
    intro Q s ι a w hs he ⟨I, ⟨n, s1, hg, hn⟩, hr⟩
    obtain ⟨ι1, hs1, he1⟩ := hg ι a w ι0 w0 hS0 hs he
    refine wp_loop_n (fun n a w => ∃ s ι, I n s ∧ Sim P G ι s a w ∧ Evo h0.length ι0 h0 w0 ι s.heap w) (fun n a w ⟨s, ι, hi, hs, he⟩ => ?_) n a w ⟨s1, ι1, hn, hs1, he1⟩
    refine wp_mono (ih _ s ι a w hs he (hr n s hi)) fun e a' w' ⟨s', ι', hq, hs', he'⟩ => ?_
    cases e with
    | normal =>
      obtain ⟨m, s2, hlt, hg2, hm⟩ := hq
      obtain ⟨ι2, hs2, he2⟩ := hg2 ι' a' w' ι0 w0 hS0 hs' he'
      exact ⟨m, hlt, s2, ι2, hm, hs2, he2⟩
    | _ => exact ⟨s', ι', hq, hs', he'⟩
  | exit id => intro Q s ι a w hs he h; exact wp_exit ⟨s, ι, h, hs, he⟩
  | ret => intro Q s ι a w hs he h; exact wp_ret ⟨s, ι, h, hs, he⟩
  | _ => intros; contradiction

/-! ### What a function hands back -/

def resA1 (P : Program) (s : St) : ResultVar → Option AV
  | .tmp t => s.fr t
  | .cell a t => (s.fr a).bind fun x => loadA P s.heap t x

def resL (P : Program) (s : St) : List ResultVar → Option (List AV)
  | [] => some []
  | r :: rest => match resA1 P s r, resL P s rest with
    | some x, some xs => some (x :: xs)
    | _, _ => none

def resA (P : Program) (s : St) (rs : List ResultVar) : Option AV :=
  match resL P s rs with
  | some [x] => some x
  | some xs => some (.tup xs)
  | none => none

def resSem (tmps : Array Value) : ResultVar → Sem Value
  | .tmp t => Pure.pure (tmps.getD t undef)
  | .cell a t => do loadVar t (← asAddr (tmps.getD a undef))

theorem results_eq (fn : Func) (tmps : Array Value) : results fn tmps = (do let vs ← fn.results.mapM (resSem tmps); Pure.pure (if h : vs.size = 1 then vs[0] else .tuple vs)) := by
  unfold results
  congr 1

theorem resA1_sound (hs : Sim P G ι s a w) {r : ResultVar} {x : AV} (hx : resA1 P s r = some x) :
    ∃ v, (resSem a.tmps r).run P w = .ok v w ∧ VRel ι s.heap w x v := by
  cases r with
  | tmp t =>
    obtain ⟨v, h1, h2⟩ := hs.fr t x hx
    exact ⟨v, by simp [resSem, h1], h2⟩
  | cell b t =>
    obtain ⟨y, hy, hl⟩ := Option.bind_eq_some_iff.mp hx
    obtain ⟨v, h1, h2⟩ := hs.fr b y hy
    obtain ⟨u, e1, e2⟩ := load_sound (P := P) hs.hS h2 hl
    refine ⟨u, ?_, e2⟩
    have hv : a.tmps.getD b undef = v := by simp [h1]
    simp only [resSem, hv, Sem.run_bind]
    unfold loadA at hl
    cases h2 with
    | ptr b g off A hb hg hlv =>
      split at hl
      · rename_i i b' g' off' ht hq
        cases hq
        obtain ⟨cells, hb', _⟩ := Option.bind_eq_some_iff.mp hl
        obtain ⟨this, _⟩ := hlv (blkAt_live hb')
        subst this
        simpa [Instr.loadAt, Instr.sureAddr, asAddr] using e1
      · rename_i hq; cases hq
      · cases hl
    | pin cells blk off hv => simpa [Instr.loadAt, Instr.sureAddr, asAddr] using e1
    | p => simp at hl
    | agg => simp at hl
    | tup => simp at hl
    | fn => simp at hl
    | ref => simp at hl
    | mref => simp at hl

theorem resL_sound (hs : Sim P G ι s a w) : ∀ (rs : List ResultVar) (xs : List AV), resL P s rs = some xs →
    ∃ vs : List Value, (rs.mapM (resSem a.tmps)).run P w = .ok vs w ∧ xs.length = vs.length ∧
      ∀ (i : Nat) x v, xs[i]? = some x → vs[i]? = some v → VRel ι s.heap w x v
  | [], xs, h => by cases h; exact ⟨[], rfl, rfl, fun i x v hx => by simp at hx⟩
  | r :: rest, xs, h => by
    simp only [resL] at h
    split at h
    · rename_i x xs' h1 h2
      cases h
      obtain ⟨v, e1, e2⟩ := resA1_sound hs h1
      obtain ⟨vs, p1, p2, p3⟩ := resL_sound hs rest xs' h2
      refine ⟨v :: vs, ?_, by simp [p2], fun i y u hy hu => ?_⟩
      · simp only [List.mapM_cons, Sem.run_bind]
        rw [e1]
        simp only [Result.andThen_ok]
        rw [p1]
        rfl
      · cases i with
        | zero => simp at hy hu; rw [← hy, ← hu]; exact e2
        | succ i => simp at hy hu; exact p3 i y u hy hu
    · cases h

theorem resA_sound (hs : Sim P G ι s a w) {fn : Func} {x : AV} (hx : resA P s fn.results.toList = some x) : ∃ v, (results fn a.tmps).run P w = .ok v w ∧ VRel ι s.heap w x v := by
  unfold resA at hx
  cases hl : resL P s fn.results.toList with
  | none => simp [hl] at hx
  | some xs =>
    obtain ⟨vs, p1, p2, p3⟩ := resL_sound hs _ xs hl
    have hrun : (results fn a.tmps).run P w = .ok (if h : vs.toArray.size = 1 then vs.toArray[0] else .tuple vs.toArray) w := by
      rw [results_eq, Array.mapM_eq_mapM_toList]
      simp only [Sem.run_bind, Sem.run_map]
      rw [p1]
      rfl
    refine ⟨_, hrun, ?_⟩
    simp only [hl] at hx
    split at hx
    · rename_i y hy
      cases hx
      cases hy
      have h1 : vs.length = 1 := by simpa using p2.symm
      simp only [List.size_toArray, h1, dite_true]
      exact p3 0 x _ rfl (by simp [h1])
    · rename_i xs' hne hy
      cases hy
      cases hx
      have h1 : ¬ vs.length = 1 := by
        intro e
        have : xs.length = 1 := by omega
        obtain ⟨y, hy⟩ := List.length_eq_one_iff.mp this
        exact hne y (by rw [hy])
      simp only [List.size_toArray, h1, dite_false]
      exact .tup _ _ (by simpa using p2) fun i x v hx hv => p3 i x v hx (by simpa using hv)
    · rename_i hq; cases hq

end
end Go.Proofs.Ytkmcecbglomemaa.AM
end

section
set_option linter.unusedVariables false
set_option linter.unusedSimpArgs false
namespace Go.Proofs.Ytkmcecbglomemaa.AM
open Go

mutual
/-- A value that lasts, out of blocks from number n on (which nobody will write any more). -/
def pur (h : Heap) (n : Nat) : Nat → AV → Option PV
  | _, .p .nils => some (.sl [])
  | _, .p x => some x
  | fuel + 1, .ref b g off sz len =>
    if len = 0 then some (.sl []) else
    match blkAt h b g with
    | some cells => if n ≤ b ∧ off + len * sz ≤ cells.length then (purs h n fuel ((cells.drop off).take (len * sz))).map fun l => .sl (chunk sz len l) else none
    | none => none
  | _, _ => none
def purs (h : Heap) (n : Nat) : Nat → List AV → Option (List PV)
  | _, [] => some []
  | fuel, x :: r => match pur h n fuel x, purs h n fuel r with
    | some y, some ys => some (y :: ys)
    | _, _ => none
end

def lastA (h : Heap) (n : Nat) : AV → Option AV
  | .agg cells => (purs h n 5 cells).map fun l => .agg (l.map .p)
  | .ptr b g off => if b < n then some (.ptr b g off) else none
  | x => (pur h n 5 x).map .p

def lastAs (h : Heap) (n : Nat) : List AV → Option (List AV)
  | [] => some []
  | x :: r => match lastA h n x, lastAs h n r with
    | some y, some ys => some (y :: ys)
    | _, _ => none

def lastV (h : Heap) (n : Nat) : AV → Option AV
  | .tup vs => (lastAs h n vs).map .tup
  | x => lastA h n x

/-- Known by whoever knows the first n blocks. -/
inductive AVlt (n : Nat) : AV → Prop where
  | p (x : PV) : AVlt n (.p x)
  | agg (cells : List AV) (h : ∀ x ∈ cells, AVlt n x) : AVlt n (.agg cells)
  | tup (cells : List AV) (h : ∀ x ∈ cells, AVlt n x) : AVlt n (.tup cells)
  | fn (f : FuncId) (cells : List AV) (h : ∀ x ∈ cells, AVlt n x) : AVlt n (.fn f cells)
  | ref (b g off sz len : Nat) (h : b < n) : AVlt n (.ref b g off sz len)
  | ptr (b g off : Nat) (h : b < n) : AVlt n (.ptr b g off)
  | pin (cells : List PV) : AVlt n (.pin cells)
  | mref (b g : Nat) (h : b < n) : AVlt n (.mref b g)
  | mp (es : List (List Int × Bool)) : AVlt n (.mp es)

section
variable {P : Program} {G : Nat → Option (List PV)} {rl : List String} {ι ι' ι0 : Nat → Nat × Nat} {h h' h0 h1 : Heap} {w w' w0 : World} {n n0 : Nat} {s : St} {a : Act}

theorem take_get {α : Type} {l : List α} {n b : Nat} {x : α} (hx : (l.take n)[b]? = some x) : b < n ∧ l[b]? = some x := by
  rw [List.getElem?_take] at hx
  split at hx
  · exact ⟨by assumption, hx⟩
  · cases hx

theorem own_take {k : Nat} (ho : own ι (h.take n) k) : own ι h k := by
  obtain ⟨b, bk, h1, h2, h3⟩ := ho
  exact ⟨b, bk, (take_get h1).2, h2, h3⟩

theorem VRel.lt {x : AV} {v : Value} (hx : VRel ι h w x v) : AVlt h.length x := by
  induction hx with
  | p x v hx => exact .p x
  | agg cells vs hl hv ih =>
    refine .agg _ fun x hx => ?_
    obtain ⟨i, hi, rfl⟩ := List.getElem_of_mem hx
    exact ih i cells[i] (vs[i]'(by omega)) (by simp) (by simp)
  | tup cells vs hl hv ih =>
    refine .tup _ fun x hx => ?_
    obtain ⟨i, hi, rfl⟩ := List.getElem_of_mem hx
    exact ih i cells[i] (vs[i]'(by omega)) (by simp) (by simp)
  | fn f cells vs hl hv ih =>
    refine .fn _ _ fun x hx => ?_
    obtain ⟨i, hi, rfl⟩ := List.getElem_of_mem hx
    exact ih i cells[i] (vs[i]'(by omega)) (by simp) (by simp)
  | ref b g off sz len A c hn hb hg hv => exact .ref _ _ _ _ _ hb
  | ptr b g off A hb hg hv => exact .ptr _ _ _ hb
  | pin cells blk off hv => exact .pin _
  | mref b g r hb hg hv => exact .mref _ _ hb

theorem VRel.take {x : AV} {v : Value} (hx : VRel ι h w x v) (hn : n ≤ h.length) (hl : AVlt n x) : VRel ι (h.take n) w x v := by
  have hlen : (h.take n).length = n := by simp; omega
  induction hx with
  | p x v hx => exact .p _ _ (hx.mono (Nat.le_refl _) fun k _ ho => ⟨rfl, fun e => ho (own_take e)⟩)
  | agg cells vs hl' hv ih => cases hl with | agg _ hc => exact .agg _ _ hl' fun i x v hx hv' => ih i x v hx hv' (hc x (List.mem_of_getElem? hx))
  | tup cells vs hl' hv ih => cases hl with | tup _ hc => exact .tup _ _ hl' fun i x v hx hv' => ih i x v hx hv' (hc x (List.mem_of_getElem? hx))
  | fn f cells vs hl' hv ih => cases hl with | fn _ _ hc => exact .fn _ _ _ hl' fun i x v hx hv' => ih i x v hx hv' (hc x (List.mem_of_getElem? hx))
  | ref b g off sz len A c hn' hb hg hv =>
    cases hl with
    | ref _ _ _ _ _ hb' =>
      refine .ref _ _ _ _ _ _ _ hn' (by omega) (fun bk hq => hg bk (take_get hq).2) fun ⟨bk, hq, e⟩ => ?_
      rcases hv ⟨bk, (take_get hq).2, e⟩ with hz | ⟨hA, hle, ⟨bk0, q0, hne⟩, hcs⟩
      · exact .inl hz
      · exact .inr ⟨hA, hle, ⟨bk0, by rw [List.getElem?_take, if_pos hb']; exact q0, hne⟩, hcs⟩
  | ptr b g off A hb hg hv =>
    cases hl with
    | ptr _ _ _ hb' => exact .ptr _ _ _ _ (by omega) (fun bk hq => hg bk (take_get hq).2) fun ⟨bk, hq, e⟩ => hv ⟨bk, (take_get hq).2, e⟩
  | pin cells blk off hv => exact .pin _ _ _ (hv.mono (Nat.le_refl _) fun k _ ho => ⟨rfl, fun e => ho (own_take e)⟩)
  | mref b g r hb hg hv =>
    cases hl with
    | mref _ _ hb' => exact .mref _ _ _ (by omega) (fun bk hq => hg bk (take_get hq).2) fun ⟨bk, hq, e⟩ => hv ⟨bk, (take_get hq).2, e⟩

/-- Blocks from n on are let go. -/
theorem SimH.take (hS : SimH P G ι h w) (hn : n ≤ h.length) (hlt : ∀ (b : Nat) (bk : Blk), (h.take n)[b]? = some (some bk) → ∀ x ∈ bk.cells, AVlt n x) : SimH P G ι (h.take n) w := by
  refine ⟨⟨fun b bk hb hne => ?_, fun b b' bk bk' q1 q2 n1 n2 e => hS.hr.inj b b' bk bk' (take_get q1).2 (take_get q2).2 n1 n2 e⟩, fun g cells hg => (hS.gr g cells hg).mono (Nat.le_refl _) fun k _ ho => ⟨rfl, fun e => ho (own_take e)⟩⟩
  exact (hS.hr.blk b bk (take_get hb).2 hne).keep rfl rfl (fun x hx v hv => hv.take hn (hlt b bk hb x hx)) (Nat.le_refl _) fun k _ ho => ⟨rfl, fun e => ho (own_take e)⟩

theorem Evo.take (he : Evo n ι0 h0 w0 ι h w) (hn : n ≤ n0) : Evo n ι0 h0 w0 ι (h.take n0) w where
  size := he.size
  keep := fun k hk ho => ⟨(he.keep k hk ho).1, fun e => (he.keep k hk ho).2 (own_take e)⟩
  len := by have := he.len; simp; omega
  gens := fun b bk' hb hq => he.gens b bk' hb (take_get hq).2
  os := he.os
  output := he.output
  tape := he.tape
  drawn := he.drawn

theorem pur_step {fuel : Nat} {x : AV} {y : PV} (hx : pur h n fuel x = some y) : (∃ z, x = .p z ∧ (z = .nils ∧ y = .sl [] ∨ y = z)) ∨
    ∃ b g off sz len fuel', x = .ref b g off sz len ∧ fuel = fuel' + 1 ∧ ((len = 0 ∧ y = .sl []) ∨ ∃ cells l, len ≠ 0 ∧ blkAt h b g = some cells ∧ n ≤ b ∧ off + len * sz ≤ cells.length ∧ purs h n fuel' ((cells.drop off).take (len * sz)) = some l ∧ y = .sl (chunk sz len l)) := by
  cases x with
  | p z => 
    cases z <;> cases fuel <;> simp only [pur, Option.some.injEq] at hx <;> subst hx <;> exact .inl ⟨_, rfl, by simp⟩
  | ref b g off sz len =>
    cases fuel with
    | zero => simp [pur] at hx
    | succ fuel =>
      simp only [pur] at hx
      refine .inr ⟨b, g, off, sz, len, fuel, rfl, rfl, ?_⟩
      split at hx
      · rename_i hz; cases hx; exact .inl ⟨hz, rfl⟩
      · rename_i hz
        split at hx
        · rename_i cells hb
          split at hx
          · rename_i hc
            obtain ⟨l, hl, rfl⟩ := Option.map_eq_some_iff.mp hx
            exact .inr ⟨cells, l, hz, hb, hc.1, hc.2, hl, rfl⟩
          · cases hx
        · cases hx
  | agg => cases fuel <;> simp [pur] at hx
  | ptr => cases fuel <;> simp [pur] at hx
  | pin => cases fuel <;> simp [pur] at hx
  | mref => cases fuel <;> simp [pur] at hx
  | mp => cases fuel <;> simp [pur] at hx
  | fn => cases fuel <;> simp [pur] at hx
  | tup => cases fuel <;> simp [pur] at hx

theorem purs_get : ∀ {fuel : Nat} {l : List AV} {ys : List PV}, purs h n fuel l = some ys → ys.length = l.length ∧ ∀ (i : Nat) x y, l[i]? = some x → ys[i]? = some y → pur h n fuel x = some y
  | fuel, [], ys, hq => by simp only [purs, Option.some.injEq] at hq; subst hq; simp
  | fuel, x :: r, ys, hq => by
    simp only [purs] at hq
    split at hq
    · rename_i y ys' h1 h2
      cases hq
      obtain ⟨l1, l2⟩ := purs_get h2
      refine ⟨by simp [l1], fun i u v hu hv => ?_⟩
      cases i with
      | zero => simp at hu hv; rw [← hu, ← hv]; exact h1
      | succ i => simp at hu hv; exact l2 i u v hu hv
    · cases hq

theorem pur_sound (hS : SimH P G ι h w) : ∀ (fuel : Nat) (x : AV) (y : PV) (v : Value), pur h n fuel x = some y → VRel ι h w x v → PRel w (own ι (h.take n)) y v := by
  intro fuel
  induction fuel with
  | zero =>
    intro x y v hp hx
    rcases pur_step hp with ⟨z, rfl, ⟨rfl, rfl⟩ | rfl⟩ | ⟨b, g, off, sz, len, fuel', _, hf, _⟩
    · have := hx.nils_inv; subst this; exact .slz _ _
    · exact hx.pv.mono (Nat.le_refl _) fun k _ ho => ⟨rfl, fun e => ho (own_take e)⟩
    · omega
  | succ fuel ih =>
    intro x y v hp hx
    rcases pur_step hp with ⟨z, rfl, ⟨rfl, rfl⟩ | rfl⟩ | ⟨b, g, off, sz, len, fuel', rfl, hf, ⟨rfl, rfl⟩ | ⟨cells, l, hz, hb, hnb, hle, hl, rfl⟩⟩
    · have := hx.nils_inv; subst this; exact .slz _ _
    · exact hx.pv.mono (Nat.le_refl _) fun k _ ho => ⟨rfl, fun e => ho (own_take e)⟩
    · cases hx with
      | ref _ _ _ _ _ A c hn' hb hg hv => exact .slz _ _
    · have : fuel' = fuel := by omega
      subst this
      obtain ⟨A, c, rfl, hn', hcase⟩ := hx.ref_inv (blkAt_live hb)
      rcases hcase with ⟨h0, _⟩ | ⟨rfl, hlc, ⟨bk, hbk, hne⟩, cs, ty, fr, hcs, hcap⟩
      · exact absurd h0 hz
      · obtain ⟨l1, l2⟩ := purs_get hl
        have hbk' := blkAt_some hb
        rw [hbk'] at hbk; cases hbk
        refine prel_chunk l sz len c _ _ (by rw [l1, List.length_take, List.length_drop]; omega) hlc hn' ?_ (lt_of_heap hcs) fun j y hy => ?_
        · rintro ⟨b', bk', q1, q2, q3⟩
          obtain ⟨q4, q5⟩ := take_get q1
          have := hS.hr.inj b' b bk' _ q5 hbk' q2 hne q3
          omega
        · have hj := getElem?_lt hy
          have hj' : j < ((cells.drop off).take (len * sz)).length := by omega
          obtain ⟨u, hu1, hu2⟩ := ((place_of_blk hS hb fun _ => ⟨cs, ty, fr, hcs⟩).drop off) j _ (by
            have h1 : ((cells.drop off).take (len * sz))[j]? = some (((cells.drop off).take (len * sz))[j]) := List.getElem?_eq_getElem hj'
            rw [List.getElem?_take] at h1
            split at h1
            · exact h1
            · cases h1)
          exact ⟨u, hu1, ih _ y u (l2 j _ y (List.getElem?_eq_getElem hj') hy) hu2⟩

theorem lastA_sound (hS : SimH P G ι h w) (hn : n ≤ h.length) {x y : AV} {v : Value} (hp : lastA h n x = some y) (hx : VRel ι h w x v) : VRel ι (h.take n) w y v := by
  unfold lastA at hp
  split at hp
  · rename_i cells
    obtain ⟨l, hl, rfl⟩ := Option.map_eq_some_iff.mp hp
    obtain ⟨l1, l2⟩ := purs_get hl
    obtain ⟨vs, rfl, e1, e2⟩ := hx.agg_inv
    refine .agg _ _ (by simp; omega) fun i x v hx hv => ?_
    simp only [List.getElem?_map, Option.map_eq_some_iff] at hx
    obtain ⟨z, hz, rfl⟩ := hx
    have hi : i < cells.length := by have := getElem?_lt hz; omega
    exact .p _ _ (pur_sound hS 5 _ z v (l2 i cells[i] z (List.getElem?_eq_getElem hi) hz) (e2 i cells[i] v (List.getElem?_eq_getElem hi) hv))
  · rename_i b g off
    split at hp
    · rename_i hb
      cases hp
      exact hx.take hn (.ptr _ _ _ hb)
    · cases hp
  · obtain ⟨z, hz, rfl⟩ := Option.map_eq_some_iff.mp hp
    exact .p _ _ (pur_sound hS 5 _ z v hz hx)

theorem lastAs_get : ∀ {l : List AV} {ys : List AV}, lastAs h n l = some ys → ys.length = l.length ∧ ∀ (i : Nat) x y, l[i]? = some x → ys[i]? = some y → lastA h n x = some y
  | [], ys, hq => by cases hq; simp
  | x :: r, ys, hq => by
    simp only [lastAs] at hq
    split at hq
    · rename_i y ys' h1 h2
      cases hq
      obtain ⟨l1, l2⟩ := lastAs_get h2
      refine ⟨by simp [l1], fun i u v hu hv => ?_⟩
      cases i with
      | zero => simp at hu hv; rw [← hu, ← hv]; exact h1
      | succ i => simp at hu hv; exact l2 i u v hu hv
    · cases hq

theorem lastV_sound (hS : SimH P G ι h w) (hn : n ≤ h.length) {x y : AV} {v : Value} (hp : lastV h n x = some y) (hx : VRel ι h w x v) : VRel ι (h.take n) w y v := by
  unfold lastV at hp
  split at hp
  · rename_i cells
    obtain ⟨l, hl, rfl⟩ := Option.map_eq_some_iff.mp hp
    obtain ⟨l1, l2⟩ := lastAs_get hl
    cases hx with
    | tup _ vs e1 e2 =>
      refine .tup _ _ (by omega) fun i x v hx hv => ?_
      have hi : i < cells.length := by have := getElem?_lt hx; omega
      exact lastA_sound hS hn (l2 i cells[i] x (List.getElem?_eq_getElem hi) hx) (e2 i cells[i] v (List.getElem?_eq_getElem hi) hv)
  · exact lastA_sound hS hn hp hx

/-- The state in which a function begins. -/
def entry (args : List AV) (nt : Nat) (h : Heap) : St := ⟨fun k => args[k]?, nt, h⟩

/-- What is asked of the end of a function: the first n blocks are kept. -/
def Fin (P : Program) (rs : List ResultVar) (n : Nat) (h : Heap) (K : AV → Heap → Prop) (s : St) : Prop :=
  h.length ≤ n ∧ n ≤ s.heap.length ∧ ∃ r r', resA P s rs = some r ∧ lastV s.heap n r = some r' ∧
    (∀ (b : Nat) (bk : Blk), (s.heap.take n)[b]? = some (some bk) → h[b]? = some (some bk) ∨ ∀ x ∈ bk.cells, AVlt n x) ∧ K r' (s.heap.take n)

theorem AVlt.mono {x : AV} {m : Nat} (hx : AVlt n x) (hm : n ≤ m) : AVlt m x := by
  induction hx with
  | p x => exact .p x
  | agg cells h ih => exact .agg _ ih
  | tup cells h ih => exact .tup _ ih
  | fn f cells h ih => exact .fn _ _ ih
  | ref b g off sz len h => exact .ref _ _ _ _ _ (by omega)
  | ptr b g off h => exact .ptr _ _ _ (by omega)
  | pin cells => exact .pin _
  | mref b g h => exact .mref _ _ (by omega)
  | mp es => exact .mp _

theorem heap_lt (hS : SimH P G ι h w) {b : Nat} {bk : Blk} (hb : h[b]? = some (some bk)) : ∀ x ∈ bk.cells, AVlt h.length x := by
  intro x hx
  have hne : bk.cells ≠ [] := List.ne_nil_of_mem hx
  rcases hS.hr.blk b bk hb hne with ⟨c, ty, _, _, hv⟩ | ⟨es, e1, _⟩
  · obtain ⟨i, hi, rfl⟩ := List.getElem_of_mem hx
    obtain ⟨v, _, p2⟩ := hv i _ (List.getElem?_eq_getElem hi)
    exact p2.lt
  · rw [e1, List.mem_singleton] at hx
    subst hx
    exact .mp _

theorem acalls_intro (hm : P.follows .mixedOrders = true) {f : FuncId} {fn : Func} {c : Code} (hf : P.funcs[f]? = some fn) (hb : fn.body = some c) {args : List AV} {K : AV → Heap → Prop}
    (hnt : args.length ≤ fn.ntmps) (n : Nat)
    (H : awp P G rl h c (fun e s => (e = .normal ∨ e = .ret) ∧ Fin P fn.results.toList n h K s) (entry args fn.ntmps h)) : ACalls P G f args h K := by
  intro ι w vs hS hv
  refine calls_of_wp hf hb ?_
  have hs : Sim P G ι (entry args fn.ntmps h) { tmps := vs ++ Array.replicate (fn.ntmps - vs.size) undef, defers := [] } w := by
    refine ⟨hS, fun k x hx => ?_, ?_, rfl⟩
    · have hk : k < args.length := getElem?_lt hx
      have hk' : k < vs.size := by rw [← hv.1]; exact hk
      exact ⟨vs[k], by rw [Array.getElem?_append_left hk']; simp, hv.2 k x _ hx (by simp)⟩
    · have := hv.1
      simp [entry]; omega
  refine wp_mono (awp_sound hm hS c _ _ ι _ w hs (.refl (Nat.le_refl h.length)) H) fun e a w' ⟨s', ι', ⟨he, hn1, hn2, r, r', hr, hl, hlt, hk⟩, hs', hev⟩ => ?_
  obtain ⟨v, hrun, hrv⟩ := resA_sound hs' hr
  have hpost : a.defers = [] ∧ ∃ v, (results fn a.tmps).run P w' = .ok v w' ∧ ∃ v1 r h' ι', Ending.returned v = .returned v1 ∧ K r h' ∧ SimH P G ι' h' w' ∧ VRel ι' h' w' r v1 ∧ Evo h.length ι h w ι' h' w' := by
    refine ⟨hs'.df, v, hrun, v, r', s'.heap.take n, ι', rfl, hk, hs'.hS.take hn2 (fun b bk hb x hx => ?_), lastV_sound hs'.hS hn2 hl hrv, hev.take hn1⟩
    rcases hlt b bk hb with hq | hq
    · exact (heap_lt hS hq x hx).mono hn1
    · exact hq x hx
  rcases he with rfl | rfl <;> exact hpost

theorem ACalls.mono {f : FuncId} {args : List AV} {K K' : AV → Heap → Prop} (hc : ACalls P G f args h K) (hk : ∀ r h', K r h' → K' r h') : ACalls P G f args h K' :=
  fun ι w vs hS hv => (hc ι w vs hS hv).mono fun e w' ⟨v, r, h', ι', e1, e2, e3⟩ => ⟨v, r, h', ι', e1, hk _ _ e2, e3⟩

/-! ### Ghost steps -/

theorem Ghost.refl : Ghost P G h0 s s := fun ι a w ι0 w0 _ hs he => ⟨ι, hs, he⟩

theorem Ghost.trans {s' s'' : St} (h1 : Ghost P G h0 s s') (h2 : Ghost P G h0 s' s'') : Ghost P G h0 s s'' := fun ι a w ι0 w0 hS hs he =>
  let ⟨ι', hs', he'⟩ := h1 ι a w ι0 w0 hS hs he
  h2 ι' a w ι0 w0 hS hs' he'

/-- Slots are forgotten; the heap's end is let go. -/
theorem Ghost.le {s' : St} (hnt : s'.nt = s.nt) (m : Nat) (hm : h0.length ≤ m) (hm2 : m ≤ s.heap.length) (hh : s'.heap = s.heap.take m) (hf : ∀ k x, s'.fr k = some x → s.fr k = some x ∧ AVlt m x)
    (hb : ∀ (b : Nat) (bk : Blk), (s.heap.take m)[b]? = some (some bk) → h0[b]? = some (some bk) ∨ ∀ x ∈ bk.cells, AVlt m x) : Ghost P G h0 s s' := by
  intro ι a w ι0 w0 hS hs he
  refine ⟨ι, ⟨?_, fun k x hx => ?_, by rw [hnt]; exact hs.nt, hs.df⟩, ?_⟩
  · rw [hh]
    refine hs.hS.take hm2 fun b bk hq x hx => ?_
    rcases hb b bk hq with h1 | h1
    · exact (heap_lt hS h1 x hx).mono hm
    · exact h1 x hx
  · obtain ⟨h1, h2⟩ := hf k x hx
    obtain ⟨v, p1, p2⟩ := hs.fr k x h1
    exact ⟨v, p1, by rw [hh]; exact p2.take hm2 h2⟩
  · rw [hh]; exact he.take hm

theorem liveAt_app {b g : Nat} {bk : Option Blk} (hb : b < h.length) : liveAt (h ++ [bk]) b g ↔ liveAt h b g := by
  unfold liveAt; rw [List.getElem?_append_left hb]

theorem own_virt {k : Nat} {g : Nat} : own ι (h ++ [some ⟨g, []⟩]) k ↔ own ι h k := by
  constructor
  · rintro ⟨b, bk, h1, h2, h3⟩
    rcases Nat.lt_or_ge b h.length with hl | hl
    · rw [List.getElem?_append_left hl] at h1; exact ⟨b, bk, h1, h2, h3⟩
    · rw [List.getElem?_append_right hl] at h1
      cases hq : b - h.length with
      | zero => rw [hq] at h1; simp at h1; subst h1; exact absurd rfl h2
      | succ i => rw [hq] at h1; simp at h1
  · rintro ⟨b, bk, h1, h2, h3⟩
    exact ⟨b, bk, by rw [List.getElem?_append_left (getElem?_lt h1)]; exact h1, h2, h3⟩

theorem VRel.virt {x : AV} {v : Value} {g : Nat} (hx : VRel ι h w x v) : VRel ι (h ++ [some ⟨g, []⟩]) w x v := by
  induction hx with
  | p x v hx => exact .p _ _ (hx.mono (Nat.le_refl _) fun k _ ho => ⟨rfl, fun e => ho (own_virt.mp e)⟩)
  | agg cells vs hl hv ih => exact .agg _ _ hl ih
  | tup cells vs hl hv ih => exact .tup _ _ hl ih
  | fn f cells vs hl hv ih => exact .fn _ _ _ hl ih
  | ref b g off sz len A c hn hb hg hv =>
    refine .ref _ _ _ _ _ _ _ hn (by simp; omega) (fun bk hq => hg bk (by rwa [List.getElem?_append_left hb] at hq)) fun hl => ?_
    rcases hv ((liveAt_app hb).mp hl) with hz | ⟨hA, hle, ⟨bk0, q0, hne⟩, hcs⟩
    · exact .inl hz
    · exact .inr ⟨hA, hle, ⟨bk0, by rw [List.getElem?_append_left hb]; exact q0, hne⟩, hcs⟩
  | ptr b g off A hb hg hv => exact .ptr _ _ _ _ (by simp; omega) (fun bk hq => hg bk (by rwa [List.getElem?_append_left hb] at hq)) fun hl => hv ((liveAt_app hb).mp hl)
  | pin cells blk off hv => exact .pin _ _ _ (hv.mono (Nat.le_refl _) fun k _ ho => ⟨rfl, fun e => ho (own_virt.mp e)⟩)
  | mref b g r hb hg hv => exact .mref _ _ _ (by simp; omega) (fun bk hq => hg bk (by rwa [List.getElem?_append_left hb] at hq)) fun hl => hv ((liveAt_app hb).mp hl)

/-- A nil slice is told as a block of ours that is still empty. -/
theorem Ghost.adopt (k sz : Nat) (hk : s.fr k = some (.p .nils)) : Ghost P G h0 s { s with fr := upd s.fr k (.ref s.heap.length 0 0 sz 0), heap := s.heap ++ [some ⟨0, []⟩] } := by
  intro ι a w ι0 w0 hS hs he
  refine ⟨ι, ⟨⟨⟨fun b bk hb hne => ?_, fun b b' bk bk' q1 q2 n1 n2 e => ?_⟩, fun g cells hg => (hs.hS.gr g cells hg).mono (Nat.le_refl _) fun k _ ho => ⟨rfl, fun e => ho (own_virt.mp e)⟩⟩, fun j x hx => ?_, hs.nt, hs.df⟩, ?_⟩
  · have hl : b < s.heap.length := by
      rcases Nat.lt_or_ge b s.heap.length with hl | hl
      · exact hl
      · rw [List.getElem?_append_right hl] at hb
        cases hq : b - s.heap.length with
        | zero => rw [hq] at hb; simp at hb; subst hb; exact absurd rfl hne
        | succ i => rw [hq] at hb; simp at hb
    rw [List.getElem?_append_left hl] at hb
    exact (hs.hS.hr.blk b bk hb hne).keep rfl rfl (fun x _ v hv => hv.virt) (Nat.le_refl _) fun k _ ho => ⟨rfl, fun e => ho (own_virt.mp e)⟩
  · have hl : ∀ (b : Nat) (bk : Blk), (s.heap ++ [some ⟨0, []⟩])[b]? = some (some bk) → bk.cells ≠ [] → s.heap[b]? = some (some bk) := by
      intro b bk hb hne
      rcases Nat.lt_or_ge b s.heap.length with hl | hl
      · rwa [List.getElem?_append_left hl] at hb
      · rw [List.getElem?_append_right hl] at hb
        cases hq : b - s.heap.length with
        | zero => rw [hq] at hb; simp at hb; subst hb; exact absurd rfl hne
        | succ i => rw [hq] at hb; simp at hb
    exact hs.hS.hr.inj b b' bk bk' (hl b bk q1 n1) (hl b' bk' q2 n2) n1 n2 e
  · simp only [upd] at hx
    split at hx
    · rename_i hj; subst hj
      cases hx
      obtain ⟨v, p1, p2⟩ := hs.fr j _ hk
      have := p2.nils_inv; subst this
      exact ⟨_, p1, .ref _ _ _ _ _ _ _ (by omega) (by simp) (fun bk hq => Nat.zero_le _) fun _ => .inl ⟨rfl, rfl⟩⟩
    · obtain ⟨v, p1, p2⟩ := hs.fr j x hx
      exact ⟨v, p1, p2.virt⟩
  · refine ⟨he.size, fun j hj ho => ⟨(he.keep j hj ho).1, fun e => (he.keep j hj ho).2 (own_virt.mp e)⟩, by have := he.len; simp; omega, fun b bk' hb hq => ?_, he.os, he.output, he.tape, he.drawn⟩
    have hl : b < s.heap.length := Nat.lt_of_lt_of_le hb he.len
    rw [List.getElem?_append_left hl] at hq
    exact he.gens b bk' hb hq

/-- A block is laid by. -/
theorem Ghost.lay : Ghost P G h0 s ⟨s.fr, s.nt, s.heap ++ [some ⟨0, []⟩]⟩ := by
  intro ι a w ι0 w0 hS hs he
  have hlo : ∀ (b : Nat) (bk : Blk), (s.heap ++ [some ⟨0, []⟩])[b]? = some (some bk) → bk.cells ≠ [] → s.heap[b]? = some (some bk) := by
    intro b bk hb hne
    rcases Nat.lt_or_ge b s.heap.length with hl | hl
    · rwa [List.getElem?_append_left hl] at hb
    · rw [List.getElem?_append_right hl] at hb
      cases hq : b - s.heap.length with
      | zero => rw [hq] at hb; simp at hb; subst hb; exact absurd rfl hne
      | succ i => rw [hq] at hb; simp at hb
  refine ⟨ι, ⟨⟨⟨fun b bk hb hne => ?_, fun b b' bk bk' q1 q2 n1 n2 e => hs.hS.hr.inj b b' bk bk' (hlo b bk q1 n1) (hlo b' bk' q2 n2) n1 n2 e⟩,
    fun g cells hg => (hs.hS.gr g cells hg).mono (Nat.le_refl _) fun k _ ho => ⟨rfl, fun e => ho (own_virt.mp e)⟩⟩, fun j x hx => ?_, hs.nt, hs.df⟩, ?_⟩
  · exact (hs.hS.hr.blk b bk (hlo b bk hb hne) hne).keep rfl rfl (fun x _ v hv => hv.virt) (Nat.le_refl _) fun k _ ho => ⟨rfl, fun e => ho (own_virt.mp e)⟩
  · obtain ⟨v, p1, p2⟩ := hs.fr j x hx
    exact ⟨v, p1, p2.virt⟩
  · refine ⟨he.size, fun j hj ho => ⟨(he.keep j hj ho).1, fun e => (he.keep j hj ho).2 (own_virt.mp e)⟩, by have := he.len; simp; omega, fun b bk' hb hq => ?_, he.os, he.output, he.tape, he.drawn⟩
    have hl : b < s.heap.length := Nat.lt_of_lt_of_le hb he.len
    rw [List.getElem?_append_left hl] at hq
    exact he.gens b bk' hb hq

theorem Ghost.res : ∀ r : Nat, Ghost P G h0 s ⟨s.fr, s.nt, s.heap ++ List.replicate r (some ⟨0, []⟩)⟩
  | 0 => by simp only [List.replicate_zero, List.append_nil]; exact .refl
  | r + 1 => by
    refine (Ghost.res r).trans ?_
    rw [List.replicate_succ', ← List.append_assoc]
    exact Ghost.lay

/-! ### Control -/

theorem thenA_mono {K K' : St → Prop} {Q Q' : Exit → St → Prop} (hk : ∀ s, K s → K' s) (hq : ∀ e s, Q e s → Q' e s) : ∀ e s, thenA K Q e s → thenA K' Q' e s := by
  intro e s h
  cases e <;> first | exact hk _ h | exact hq _ _ h

theorem blockA_mono {id : Nat} {Q Q' : Exit → St → Prop} (hq : ∀ e s, Q e s → Q' e s) : ∀ e s, blockA id Q e s → blockA id Q' e s := by
  intro e s h
  cases e with
  | exit i =>
    simp only [blockA] at *
    split at h
    · rename_i hi; rw [if_pos hi]; exact hq _ _ h
    · rename_i hi; rw [if_neg hi]; exact hq _ _ h
  | _ => exact hq _ _ h

theorem aexec_mono {K K' : St → Prop} {o : Oper} (hk : ∀ s, K s → K' s) (h : aexec P G rl o K s) : aexec P G rl o K' s := by
  unfold aexec at *
  cases hc : callOf o with
  | some q =>
    obtain ⟨f, args⟩ := q
    simp only [hc] at h ⊢
    split at h
    · exact ⟨h.1, h.2.mono fun r h' hh => hk _ hh⟩
    · exact h
  | none =>
    simp only [hc] at h ⊢
    split at h
    · exact hk _ h
    · exact h

theorem aops_mono {K K' : St → Prop} {ops : Array Oper} (hk : ∀ s, K s → K' s) : ∀ (l : List Oper) (s : St), aops P G rl ops K l s → aops P G rl ops K' l s
  | [], s, h => hk _ h
  | o :: r, s, h => by
    simp only [aops, aop] at *
    split at h
    · exact ⟨fun e => aexec_mono (aops_mono hk r) (h.1 e), fun e => aops_mono hk r _ (h.2 e)⟩
    · exact h

variable {es : List Nat}
theorem arunT_mono {K K' : St → Prop} {ops : Array Oper} (hk : ∀ s, K s → K' s) : ∀ (l : List Nat) (s : St), arunT P G rl es ops K l s → arunT P G rl es ops K' l s
  | [], s, h => hk s h
  | k :: rest, s, h => by
    unfold arunT at *
    split at h
    · exact h.elim
    · rename_i o ho
      (try simp only [ho])
      split at h
      · rename_i he; rw [if_pos he]; exact ⟨h.1, aopX_mono (arunT_mono hk rest) h.2⟩
      · rename_i he; rw [if_neg he]; obtain ⟨hh, v, h1, h2⟩ := h; exact ⟨hh, v, h1, arunT_mono hk rest _ h2⟩

theorem arun_mono {K K' : St → Prop} {ops : Array Oper} {fs : List Nat} {base r : Nat} (hk : ∀ s, K s → K' s) : ∀ (l : List Nat) (s : St), arun P G rl es ops fs base r K l s → arun P G rl es ops fs base r K' l s
  | [], s, h => hk s h
  | k :: rest, s, h => by
    unfold arun at *
    split at h
    · exact h.elim
    · rename_i o ho
      (try simp only [ho])
      split at h
      · rename_i ha; rw [if_pos ha]; obtain ⟨z, h1, h2, h3⟩ := h; exact ⟨z, h1, h2, arun_mono hk rest _ h3⟩
      · rename_i ha
        rw [if_neg ha]
        split at h
        · rename_i he; rw [if_pos he]; exact arunT_mono hk _ _ h
        · rename_i he
          rw [if_neg he]
          split at h
          · rename_i hh; rw [if_pos hh]; obtain ⟨v, h1, h2⟩ := h; exact ⟨v, h1, arun_mono hk rest _ h2⟩
          · rename_i hh; rw [if_neg hh]; obtain ⟨v, h1, h2⟩ := h; exact ⟨v, h1, arun_mono hk rest _ h2⟩

theorem arunN_mono {K K' : St → Prop} {ops : Array Oper} (hk : ∀ s, K s → K' s) : ∀ (l : List Nat) (s : St), arunN P G rl es ops K l s → arunN P G rl es ops K' l s
  | [], s, h => hk s h
  | k :: rest, s, h => by
    unfold arunN at *
    split at h
    · exact h.elim
    · rename_i o ho
      (try simp only [ho])
      refine ⟨h.1, ?_⟩
      have h := h.2
      split at h
      · rename_i he; rw [if_pos he]; exact aopX_mono (arunN_mono hk rest) h
      · rename_i he; rw [if_neg he]; obtain ⟨v, h1, h2⟩ := aqop_iff.mp h; exact aqop_iff.mpr ⟨v, h1, arunN_mono hk rest _ h2⟩

theorem aeops_mono {K K' : St → Prop} {ops : Array Oper} (hk : ∀ s, K s → K' s) : ∀ (l : List Oper) (s : St), aeops P G rl ops K l s → aeops P G rl ops K' l s
  | [], s, h => hk s h
  | o :: r, s, h => by
    unfold aeops at *
    split at h
    · rename_i he; rw [if_pos he]; exact aopE_mono he (aeops_mono hk r) h
    · rename_i he; rw [if_neg he]; obtain ⟨v, h1, h2⟩ := h; exact ⟨v, h1, aeops_mono hk r _ h2⟩

theorem aqops_mono {K K' : St → Prop} {ops : Array Oper} (hk : ∀ s, K s → K' s) : ∀ (l : List Oper) (s : St), aqops P G rl ops K l s → aqops P G rl ops K' l s
  | [], s, h => hk _ h
  | o :: r, s, h => by
    obtain ⟨v, h1, h2⟩ := aqop_iff.mp h
    exact aqop_iff.mpr ⟨v, h1, aqops_mono hk r _ h2⟩

theorem awp_mono : ∀ (c : Code) (Q Q' : Exit → St → Prop) (s : St), (∀ e s, Q e s → Q' e s) → awp P G rl h0 c Q s → awp P G rl h0 c Q' s := by
  intro c
  induction c with
  | skip => intro Q Q' s hq h; exact hq _ _ h
  | label l => intro Q Q' s hq h; exact hq _ _ h
  | region id ops draw =>
    intro Q Q' s hq h
    unfold awp at *
    cases draw with
    | true => exact h.imp (fun h => ⟨h.1, aqops_mono (fun s hh => hq _ _ hh) _ _ h.2⟩) (fun h => h.imp (fun h => ⟨h.1, aeops_mono (fun s hh => hq _ _ hh) _ _ h.2⟩) fun h => h.imp (fun ⟨s1, base, r, ord, fs, es, h1, h2, h3, hi, h4⟩ => ⟨s1, base, r, ord, fs, es, h1, h2, h3, hi, arun_mono (fun s hh => hq _ _ hh) _ _ h4⟩) fun ⟨ord, es, h1, h2, h3⟩ => ⟨ord, es, h1, h2, arunN_mono (fun s hh => hq _ _ hh) _ _ h3⟩)
    | false => exact aops_mono (fun s hh => hq _ _ hh) _ _ h
  | seq a b iha ihb =>
    intro Q Q' s hq ⟨J, h1, h2⟩
    exact ⟨J, iha _ _ s (thenA_mono (fun _ h => h) hq) h1, fun s1 hj => ihb _ _ s1 hq (h2 s1 hj)⟩
  | cond c x y ihx ihy =>
    intro Q Q' s hq h
    change condA (evalA G s c) (awp P G rl h0 x Q s) (awp P G rl h0 y Q s) at h
    change condA (evalA G s c) (awp P G rl h0 x Q' s) (awp P G rl h0 y Q' s)
    have h1 := ihx Q Q' s hq
    have h2 := ihy Q Q' s hq
    revert h
    generalize evalA G s c = v
    intro h
    unfold condA at *
    split at h
    · exact ⟨fun e => h1 (h.1 e), fun e => h2 (h.2 e)⟩
    · exact h.elim
  | block id c ih =>
    intro Q Q' s hq h
    exact ih _ _ s (blockA_mono hq) h
  | loop c ih =>
    intro Q Q' s hq ⟨I, h1, h2⟩
    exact ⟨I, h1, fun n s hi => ih _ _ s (thenA_mono (fun _ h => h) hq) (h2 n s hi)⟩
  | exit id => intro Q Q' s hq h; exact hq _ _ h
  | ret => intro Q Q' s hq h; exact hq _ _ h
  | _ => intro Q Q' s hq h; exact h

theorem awp_seq {x y : Code} {Q : Exit → St → Prop} (h : awp P G rl h0 x (thenA (fun s' => awp P G rl h0 y Q s') Q) s) : awp P G rl h0 (.seq x y) Q s :=
  ⟨awp P G rl h0 y Q, awp_mono _ _ _ _ (thenA_mono (fun s hh => ⟨s, .refl, hh⟩) fun _ _ hh => hh) h, fun _ h => h⟩

theorem awp_seq_k {x y : Code} {Q : Exit → St → Prop} (h : ∀ K : St → Prop, (∀ s, awp P G rl h0 y Q s → K s) → awp P G rl h0 x (thenA K Q) s) : awp P G rl h0 (.seq x y) Q s :=
  awp_seq (h _ fun _ h => h)

theorem awp_region {id : Nat} {ops : Array Oper} {Q : Exit → St → Prop} (h : aops P G rl ops (Q .normal) ops.toList s) : awp P G rl h0 (.region id ops false) Q s := h

theorem awp_draw {id : Nat} {ops : Array Oper} {Q : Exit → St → Prop} (hB : Region.lexB .any ops = true) (h : aqops P G rl ops (Q .normal) ops.toList s) : awp P G rl h0 (.region id ops true) Q s := .inl ⟨hB, h⟩

theorem upd_same (fr : Nat → Option AV) (d : Nat) (v : AV) : upd fr d v d = some v := by simp [upd]
theorem awp_drawR {id : Nat} {ops : Array Oper} {Q : Exit → St → Prop} {fr : Nat → Option AV} {nt : Nat} {hp : Heap} (ord : List Nat) (r : Nat) (hl : ord.length = ops.size) (hr : (zsB P ops).length = r) {fs : List Nat} (hB : lexR es .any ops fs ord (Array.replicate ops.size false) = true)
    (h : arun P G rl es ops fs hp.length r (Q .normal) ord ⟨fr, nt, hp ++ List.replicate r (some ⟨0, []⟩)⟩) : awp P G rl h0 (.region id ops true) Q ⟨fr, nt, hp⟩ :=
  .inr (.inr (.inl ⟨_, hp.length, r, ord, fs, es, Ghost.res (s := ⟨fr, nt, hp⟩) r, hl, hB, InvR.start hr, h⟩))
theorem awp_drawN {id : Nat} {ops : Array Oper} {Q : Exit → St → Prop} (ord : List Nat) (hl : ord.length = ops.size) (hB : lexN es .any ops ord (Array.replicate ops.size false) = true) (h : arunN P G rl es ops (Q .normal) ord s) : awp P G rl h0 (.region id ops true) Q s :=
  .inr (.inr (.inr ⟨ord, es, hl, hB, h⟩))
theorem arunN_nil {ops : Array Oper} {K : St → Prop} (h : K s) : arunN P G rl es ops K [] s := h
theorem arunN_eff {ops : Array Oper} {k : Nat} {K0 : St → Prop} {o : Oper} {rest : List Nat} (ho : ops.toList[k]? = some o) (ha : allocB o = false) (he : effI es k o = true) (h : ∀ K : St → Prop, (∀ s, arunN P G rl es ops K0 rest s → K s) → aop P G rl ops o K s) : arunN P G rl es ops K0 (k :: rest) s := by
  have ho : ops[k]? = some o := by rw [← Array.getElem?_toList]; exact ho
  unfold arunN; simp only [ho]; rw [if_pos he]; exact ⟨ha, h _ fun _ h => h⟩
theorem arunN_q {ops : Array Oper} {k : Nat} {K0 : St → Prop} {o : Oper} {rest : List Nat} (ho : ops.toList[k]? = some o) (ha : allocB o = false) (he : effI es k o = false) (h : ∀ K : St → Prop, (∀ s, arunN P G rl es ops K0 rest s → K s) → aqop P G rl ops o K s) : arunN P G rl es ops K0 (k :: rest) s := by
  have ho : ops[k]? = some o := by rw [← Array.getElem?_toList]; exact ho
  unfold arunN; simp only [ho]; rw [if_neg (by rw [he]; decide)]; exact ⟨ha, h _ fun _ h => h⟩
theorem arun_nil {ops : Array Oper} {fs : List Nat} {base r : Nat} {K : St → Prop} (h : K s) : arun P G rl es ops fs base r K [] s := h
theorem arunT_nil {ops : Array Oper} {K : St → Prop} (h : K s) : arunT P G rl es ops K [] s := h
theorem arun_tail {ops : Array Oper} {fs : List Nat} {base r k : Nat} {K0 : St → Prop} {o : Oper} {rest : List Nat} (ho : ops.toList[k]? = some o) (ha : allocB o = false) (he : effI es k o = true) (h : arunT P G rl es ops K0 (k :: rest) s) : arun P G rl es ops fs base r K0 (k :: rest) s := by
  have ho : ops[k]? = some o := by rw [← Array.getElem?_toList]; exact ho
  unfold arun; simp only [ho]; rw [if_neg (by rw [ha]; decide), if_pos he]; exact h
theorem arun_eff {ops : Array Oper} {k : Nat} {K0 : St → Prop} {o : Oper} {rest : List Nat} (ho : ops.toList[k]? = some o) (ha : allocB o = false) (he : effI es k o = true) (h : ∀ K : St → Prop, (∀ s, arunT P G rl es ops K0 rest s → K s) → aop P G rl ops o K s) : arunT P G rl es ops K0 (k :: rest) s := by
  have ho : ops[k]? = some o := by rw [← Array.getElem?_toList]; exact ho
  unfold arunT; simp only [ho]; rw [if_pos he]; exact ⟨ha, h _ fun _ h => h⟩
theorem arun_alloc {ops : Array Oper} {fs : List Nat} {r k d nt : Nat} {K0 : St → Prop} {o : Oper} {rest : List Nat} {fr : Nat → Option AV} {hp R : Heap} {z : List PV} (ho : ops.toList[k]? = some o) (ha : allocB o = true) (hz : zeroB P o = some z) (hd : o.dst = some d) (hlt : d < nt)
    (hs : R[slotB ops k]? = some (some ⟨0, []⟩)) (h : arun P G rl es ops fs hp.length r K0 rest ⟨upd fr d (.ptr (hp.length + slotB ops k) 1 0), nt, hp ++ R.set (slotB ops k) (some ⟨1, z.map .p⟩)⟩) : arun P G rl es ops fs hp.length r K0 (k :: rest) ⟨fr, nt, hp ++ R⟩ := by
  have ho : ops[k]? = some o := by rw [← Array.getElem?_toList]; exact ho
  unfold arun
  simp only [ho]
  rw [if_pos ha]
  refine ⟨z, hz, by rw [List.getElem?_append_right (by omega)]; rw [show hp.length + slotB ops k - hp.length = slotB ops k by omega]; exact hs, ?_⟩
  rw [hd]
  simp only [St.put, St.setB, hlt, if_true]
  rw [List.set_append_right _ _ (by omega), show hp.length + slotB ops k - hp.length = slotB ops k by omega]
  exact h
theorem heapFree_not {o : Oper} (hf : heapFree o = true) : ¬ allocB o = true ∧ ¬ effB o = true := by
  constructor
  · unfold heapFree at hf; unfold allocB
    split at hf <;> simp_all
  · unfold heapFree at hf; unfold effB
    split at hf <;> simp_all
theorem heapFree_notI {o : Oper} {k : Nat} (hf : (heapFree o && !es.contains k) = true) : ¬ effI es k o = true := by
  simp only [Bool.and_eq_true, Bool.not_eq_true'] at hf
  unfold effI
  rw [hf.2, Bool.or_false]
  exact (heapFree_not hf.1).2
theorem effI_no {o : Oper} {k : Nat} (he : effI es k o = false) : effB o = false := by
  unfold effI at he
  rw [Bool.or_eq_false_iff] at he
  exact he.1
theorem free_stab {ops : Array Oper} {d nt : Nat} {o : Oper} {fr : Nat → Option AV} {H : Heap} {v : AV} (hf : heapFree o = true) (hd : o.dst = some d) (hlt : d < nt)
    (hv : ∀ (K : St → Prop), (∀ (fr' : Nat → Option AV) (nt' : Nat) (hp' : Heap), K ⟨upd fr' d v, nt', hp'⟩) → aqop P G rl ops o K ⟨fr, nt, H⟩) : StabF P G rl ops o v ⟨fr, nt, H⟩ := fun H' => by
  obtain ⟨u, hy, hk⟩ := aqop_iff.mp (hv (fun s' => s'.fr d = some v) (fun fr' _ _ => upd_same fr' d v))
  rw [hd] at hk
  simp only [St.put, hlt, if_true, upd] at hk
  cases hk
  exact YieldsA_free hf hy
theorem arunT_f {ops : Array Oper} {k d nt : Nat} {K0 : St → Prop} {o : Oper} {rest : List Nat} {fr : Nat → Option AV} {H : Heap} {v : AV} (ho : ops.toList[k]? = some o) (hf : (heapFree o && !es.contains k) = true) (hd : o.dst = some d) (hlt : d < nt)
    (hv : ∀ (K : St → Prop), (∀ (fr' : Nat → Option AV) (nt' : Nat) (hp' : Heap), K ⟨upd fr' d v, nt', hp'⟩) → aqop P G rl ops o K ⟨fr, nt, H⟩) (h : arunT P G rl es ops K0 rest ⟨upd fr d v, nt, H⟩) : arunT P G rl es ops K0 (k :: rest) ⟨fr, nt, H⟩ := by
  have ho : ops[k]? = some o := by rw [← Array.getElem?_toList]; exact ho
  have he : ¬ effI es k o = true := heapFree_notI hf
  have hf : heapFree o = true := by simp only [Bool.and_eq_true] at hf; exact hf.1
  unfold arunT
  simp only [ho]
  rw [if_neg he]
  refine ⟨hf, v, free_stab hf hd hlt hv, ?_⟩
  rw [hd]; simp only [St.put, hlt, if_true]; exact h
theorem arun_f {ops : Array Oper} {fs : List Nat} {base r k d nt : Nat} {K0 : St → Prop} {o : Oper} {rest : List Nat} {fr : Nat → Option AV} {H : Heap} {v : AV} (ho : ops.toList[k]? = some o) (hf : (heapFree o && !es.contains k) = true) (hd : o.dst = some d) (hlt : d < nt)
    (hv : ∀ (K : St → Prop), (∀ (fr' : Nat → Option AV) (nt' : Nat) (hp' : Heap), K ⟨upd fr' d v, nt', hp'⟩) → aqop P G rl ops o K ⟨fr, nt, H⟩) (h : arun P G rl es ops fs base r K0 rest ⟨upd fr d v, nt, H⟩) : arun P G rl es ops fs base r K0 (k :: rest) ⟨fr, nt, H⟩ := by
  have ho : ops[k]? = some o := by rw [← Array.getElem?_toList]; exact ho
  have he : ¬ effI es k o = true := heapFree_notI hf
  have hf : heapFree o = true := by simp only [Bool.and_eq_true] at hf; exact hf.1
  unfold arun
  simp only [ho]
  rw [if_neg (heapFree_not hf).1, if_neg he, if_pos (by rw [hf]; rfl)]
  refine ⟨v, free_stab hf hd hlt hv, ?_⟩
  rw [hd]; simp only [St.put, hlt, if_true]; exact h
theorem arun_allocj {ops : Array Oper} {fs : List Nat} {r k d nt : Nat} {K0 : St → Prop} {o : Oper} {rest : List Nat} {fr : Nat → Option AV} {hp R : Heap} {z : List PV} (j : Nat) (hj : slotB ops k = j) (ho : ops.toList[k]? = some o) (ha : allocB o = true) (hd : o.dst = some d) (hlt : d < nt)
    (hs : R[j]? = some (some ⟨0, []⟩)) (hz : zeroB P o = some z) (h : arun P G rl es ops fs hp.length r K0 rest ⟨upd fr d (.ptr (hp.length + j) 1 0), nt, hp ++ R.set j (some ⟨1, z.map .p⟩)⟩) : arun P G rl es ops fs hp.length r K0 (k :: rest) ⟨fr, nt, hp ++ R⟩ := by
  subst hj; exact arun_alloc ho ha hz hd hlt hs h
theorem arun_q {ops : Array Oper} {fs : List Nat} {r k d nt : Nat} {K0 : St → Prop} {o : Oper} {rest : List Nat} {fr : Nat → Option AV} {hp R : Heap} {v : AV} (ho : ops.toList[k]? = some o) (he : effI es k o = false) (hh : (heapFree o || fs.contains k) = false) (hd : o.dst = some d) (hlt : d < nt)
    (hv : ∀ (R' : Heap) (K : St → Prop), (∀ (fr' : Nat → Option AV) (nt' : Nat) (hp' : Heap), K ⟨upd fr' d v, nt', hp'⟩) → aqop P G rl ops o K ⟨fr, nt, hp ++ R'⟩) (h : arun P G rl es ops fs hp.length r K0 rest ⟨upd fr d v, nt, hp ++ R⟩) : arun P G rl es ops fs hp.length r K0 (k :: rest) ⟨fr, nt, hp ++ R⟩ := by
  have ho : ops[k]? = some o := by rw [← Array.getElem?_toList]; exact ho
  unfold arun
  simp only [ho]
  have ha : ¬ allocB o = true := by
    intro e
    unfold allocB at e
    have he : effB o = false := effI_no he
    unfold effB at he
    simp only [Bool.and_eq_true] at e
    cases hop : o.op <;> simp_all
  rw [if_neg ha, if_neg (by rw [he]; decide), if_neg (by rw [hh]; decide)]
  refine ⟨v, fun R' hR' => ?_, ?_⟩
  · obtain ⟨u, hy, hk⟩ := aqop_iff.mp (hv R' (fun s' => s'.fr d = some v) (fun fr' _ _ => upd_same fr' d v))
    rw [hd] at hk
    simp only [St.put, hlt, if_true, upd] at hk
    cases hk
    have : (hp ++ R).take hp.length = hp := by simp
    simp only [this]
    exact hy
  · rw [hd]
    simp only [St.put, hlt, if_true]
    exact h
theorem arun_w {ops : Array Oper} {fs : List Nat} {r k d nt : Nat} {K0 : St → Prop} {o : Oper} {rest : List Nat} {fr : Nat → Option AV} {hp R : Heap} {v : AV} (ho : ops.toList[k]? = some o) (he : effI es k o = false) (hf : fs.contains k = true) (hd : o.dst = some d) (hlt : d < nt)
    (hv : ∀ (H : Heap) (K : St → Prop), (∀ (fr' : Nat → Option AV) (nt' : Nat) (hp' : Heap), K ⟨upd fr' d v, nt', hp'⟩) → aqop P G rl ops o K ⟨fr, nt, H⟩) (h : arun P G rl es ops fs hp.length r K0 rest ⟨upd fr d v, nt, hp ++ R⟩) : arun P G rl es ops fs hp.length r K0 (k :: rest) ⟨fr, nt, hp ++ R⟩ := by
  have ho : ops[k]? = some o := by rw [← Array.getElem?_toList]; exact ho
  unfold arun
  simp only [ho]
  have ha : ¬ allocB o = true := by
    intro e
    unfold allocB at e
    have he : effB o = false := effI_no he
    unfold effB at he
    simp only [Bool.and_eq_true] at e
    cases hop : o.op <;> simp_all
  rw [if_neg ha, if_neg (by rw [he]; decide), if_pos (by rw [hf, Bool.or_true])]
  refine ⟨v, fun H => ?_, ?_⟩
  · obtain ⟨u, hy, hk⟩ := aqop_iff.mp (hv H (fun s' => s'.fr d = some v) (fun fr' _ _ => upd_same fr' d v))
    rw [hd] at hk
    simp only [St.put, hlt, if_true, upd] at hk
    cases hk
    exact hy
  · rw [hd]
    simp only [St.put, hlt, if_true]
    exact h
theorem aops_nil {ops : Array Oper} {K : St → Prop} (h : K s) : aops P G rl ops K [] s := h
theorem aqops_nil {ops : Array Oper} {K : St → Prop} (h : K s) : aqops P G rl ops K [] s := h

theorem aops_k {ops : Array Oper} {K0 : St → Prop} {o : Oper} {rest : List Oper} (h : ∀ K : St → Prop, (∀ s, aops P G rl ops K0 rest s → K s) → aop P G rl ops o K s) : aops P G rl ops K0 (o :: rest) s :=
  h _ fun _ h => h
theorem aqops_k {ops : Array Oper} {K0 : St → Prop} {o : Oper} {rest : List Oper} (h : ∀ K : St → Prop, (∀ s, aqops P G rl ops K0 rest s → K s) → aqop P G rl ops o K s) : aqops P G rl ops K0 (o :: rest) s :=
  h _ fun _ h => h

theorem awp_block {id : Nat} {c : Code} {Q : Exit → St → Prop} (h : awp P G rl h0 c (blockA id Q) s) : awp P G rl h0 (.block id c) Q s := h
theorem awp_exit {id : Nat} {Q : Exit → St → Prop} (h : Q (.exit id) s) : awp P G rl h0 (.exit id) Q s := h
theorem awp_ret {Q : Exit → St → Prop} (h : Q .ret s) : awp P G rl h0 .ret Q s := h
theorem awp_skip {Q : Exit → St → Prop} (h : Q .normal s) : awp P G rl h0 .skip Q s := h
@[simp] theorem thenA_normal {K : St → Prop} {Q : Exit → St → Prop} : thenA K Q .normal s = K s := rfl
@[simp] theorem thenA_exit {K : St → Prop} {Q : Exit → St → Prop} {i : Nat} : thenA K Q (.exit i) s = Q (.exit i) s := rfl
@[simp] theorem thenA_ret {K : St → Prop} {Q : Exit → St → Prop} : thenA K Q .ret s = Q .ret s := rfl
@[simp] theorem blockA_normal {id : Nat} {Q : Exit → St → Prop} : blockA id Q .normal s = Q .normal s := rfl
@[simp] theorem blockA_exit {id i : Nat} {Q : Exit → St → Prop} : blockA id Q (.exit i) s = if i = id then Q .normal s else Q (.exit i) s := rfl
@[simp] theorem blockA_ret {id : Nat} {Q : Exit → St → Prop} : blockA id Q .ret s = Q .ret s := rfl

theorem bt_true (b : Bool) : (b == true) = b := by cases b <;> rfl
theorem bt_false (b : Bool) : (b == false) = !b := by cases b <;> rfl
theorem upd_get (fr : Nat → Option AV) (d : Nat) (v : AV) (k : Nat) : upd fr d v k = if k = d then some v else fr k := rfl
theorem get_app (L : Heap) (i : Nat) : (h ++ L)[h.length + i]? = L[i]? := by rw [List.getElem?_append_right (by omega)]; congr 1; omega
theorem get_app0 (L : Heap) : (h ++ L)[h.length]? = L[0]? := by rw [List.getElem?_append_right (by omega)]; congr 1; omega
theorem set_app (L : Heap) (i : Nat) (x : Option Blk) : (h ++ L).set (h.length + i) x = h ++ L.set i x := by rw [List.set_append_right _ _ (by omega)]; congr 2; omega
theorem set_app0 (L : Heap) (x : Option Blk) : (h ++ L).set h.length x = h ++ L.set 0 x := by rw [List.set_append_right _ _ (by omega)]; congr 2; omega
theorem take_app (L : Heap) : (h ++ L).take h.length = h := by simp

/-- A cut: what stands behind the first part is proved once, from what is said of the state there. -/
theorem awp_cut {x y : Code} {Q : Exit → St → Prop} (J : St → Prop) (h : awp P G rl h0 x (thenA (fun s' => ∃ s1, Ghost P G h0 s' s1 ∧ J s1) Q) s) (hJ : ∀ s1, J s1 → awp P G rl h0 y Q s1) : awp P G rl h0 (.seq x y) Q s :=
  ⟨J, h, hJ⟩

theorem awp_loop {c : Code} {Q : Exit → St → Prop} (I : Nat → St → Prop) (n : Nat) (s1 : St) (hg : Ghost P G h0 s s1) (hi : I n s1)
    (hr : ∀ n s, I n s → awp P G rl h0 c (thenA (fun s' => ∃ m s1, m < n ∧ Ghost P G h0 s' s1 ∧ I m s1) Q) s) : awp P G rl h0 (.loop c) Q s :=
  ⟨I, ⟨n, s1, hg, hi⟩, hr⟩

/-- The end of a function that changes no block that it was given. -/
def FinP (P : Program) (rs : List ResultVar) (h : Heap) (K : AV → Prop) (s : St) : Prop :=
  match resA P s rs with
  | some r => match lastV s.heap h.length r with
    | some r' => s.heap.take h.length = h ∧ h.length ≤ s.heap.length ∧ K r'
    | none => False
  | none => False

theorem FinP.fin {rs : List ResultVar} {K : AV → Prop} (hf : FinP P rs h K s) : Fin P rs h.length h (fun r h' => K r ∧ h' = h) s := by
  unfold FinP at hf
  split at hf
  · rename_i r hr
    split at hf
    · rename_i r' hr'
      obtain ⟨h1, h2, h3⟩ := hf
      exact ⟨Nat.le_refl _, h2, r, r', hr, hr', fun b bk hb => .inl (by rwa [h1] at hb), h3, h1⟩
    · exact hf.elim
  · exact hf.elim

/-- What is asked of a function that only reads. -/
def EndP (P : Program) (rs : List ResultVar) (h : Heap) (K : AV → Prop) : Exit → St → Prop
  | .normal, s => FinP P rs h K s
  | .ret, s => FinP P rs h K s
  | _, _ => False

theorem acalls_pure (hm : P.follows .mixedOrders = true) {f : FuncId} {fn : Func} {c : Code} (hf : P.funcs[f]? = some fn) (hb : fn.body = some c) {args : List AV} {K : AV → Prop} {rs : List ResultVar} {nt : Nat}
    (hrs : fn.results.toList = rs) (hn : fn.ntmps = nt) (hnt : args.length ≤ nt) (H : awp P G rl h c (EndP P rs h K) (entry args nt h)) : ACalls P G f args h (fun r h' => K r ∧ h' = h) := by
  subst hrs; subst hn
  refine acalls_intro (rl := rl) hm hf hb hnt h.length (awp_mono _ _ _ _ (fun e s hh => ?_) H)
  cases e with
  | normal => exact ⟨.inl rfl, FinP.fin hh⟩
  | ret => exact ⟨.inr rfl, FinP.fin hh⟩
  | _ => exact hh.elim

/-- The end of a function that may change blocks that it was given. -/
def FinH (P : Program) (rs : List ResultVar) (h : Heap) (K : AV → Heap → Prop) (s : St) : Prop :=
  match resA P s rs with
  | some r => match lastV s.heap h.length r with
    | some r' => h.length ≤ s.heap.length ∧ (∀ (b : Nat) (bk : Blk), (s.heap.take h.length)[b]? = some (some bk) → h[b]? = some (some bk) ∨ ∀ x ∈ bk.cells, AVlt h.length x) ∧ K r' (s.heap.take h.length)
    | none => False
  | none => False

def EndH (P : Program) (rs : List ResultVar) (h : Heap) (K : AV → Heap → Prop) : Exit → St → Prop
  | .normal, s => FinH P rs h K s
  | .ret, s => FinH P rs h K s
  | _, _ => False

theorem acalls_heap (hm : P.follows .mixedOrders = true) {f : FuncId} {fn : Func} {c : Code} (hf : P.funcs[f]? = some fn) (hb : fn.body = some c) {args : List AV} {K : AV → Heap → Prop} {rs : List ResultVar} {nt : Nat}
    (hrs : fn.results.toList = rs) (hn : fn.ntmps = nt) (hnt : args.length ≤ nt) (H : awp P G rl h c (EndH P rs h K) (entry args nt h)) : ACalls P G f args h K := by
  subst hrs; subst hn
  have key : ∀ s, FinH P fn.results.toList h K s → Fin P fn.results.toList h.length h K s := by
    intro s hf
    unfold FinH at hf
    split at hf
    · rename_i r hr
      split at hf
      · rename_i r' hr'
        obtain ⟨h1, h2, h3⟩ := hf
        exact ⟨Nat.le_refl _, h1, r, r', hr, hr', h2, h3⟩
      · exact hf.elim
    · exact hf.elim
  refine acalls_intro (rl := rl) hm hf hb hnt h.length (awp_mono _ _ _ _ (fun e s hh => ?_) H)
  cases e with
  | normal => exact ⟨.inl rfl, key _ hh⟩
  | ret => exact ⟨.inr rfl, key _ hh⟩
  | _ => exact hh.elim

/-- The end of a function that makes blocks for whoever called it, or changes some: all is kept. -/
def FinK (P : Program) (rs : List ResultVar) (h : Heap) (K : AV → Heap → Prop) (s : St) : Prop :=
  h.length ≤ s.heap.length ∧ match resA P s rs with
  | some r => K r s.heap
  | none => False

end
end Go.Proofs.Ytkmcecbglomemaa.AM
end

section
set_option linter.unusedVariables false
set_option linter.unusedSimpArgs false
namespace Go.Proofs.Ytkmcecbglomemaa.AM
open Go

mutual
def avlt (m : Nat) : AV → Prop
  | .p _ => True
  | .agg l => avlts m l
  | .tup l => avlts m l
  | .fn _ l => avlts m l
  | .ref b _ _ _ _ => b < m
  | .ptr b _ _ => b < m
  | .pin _ => True
  | .mref b _ => b < m
  | .mp _ => True
def avlts (m : Nat) : List AV → Prop
  | [] => True
  | x :: r => avlt m x ∧ avlts m r
end

mutual
theorem avlt_lt {m : Nat} : ∀ (x : AV), avlt m x → AVlt m x
  | .p _, _ => .p _
  | .agg l, h => .agg l (avlts_lt l (by simpa [avlt] using h))
  | .tup l, h => .tup l (avlts_lt l (by simpa [avlt] using h))
  | .fn f l, h => .fn f l (avlts_lt l (by simpa [avlt] using h))
  | .ref b g o s l, h => .ref b g o s l (by simpa [avlt] using h)
  | .ptr b g o, h => .ptr b g o (by simpa [avlt] using h)
  | .pin c, _ => .pin c
  | .mref b g, h => .mref b g (by simpa [avlt] using h)
  | .mp es, _ => .mp es
theorem avlts_lt {m : Nat} : ∀ (l : List AV), avlts m l → ∀ x ∈ l, AVlt m x
  | [], _ => fun x hx => by simp at hx
  | y :: r, h => fun x hx => by
    simp only [avlts] at h
    rcases List.mem_cons.mp hx with e | e
    · rw [e]; exact avlt_lt y h.1
    · exact avlts_lt r h.2 x e
end

/-- A frame, told as a list. -/
def frL : List (Nat × AV) → Nat → Option AV
  | [], _ => none
  | (d, v) :: r, k => if k = d then some v else frL r k

def keeps (s : St) (m : Nat) : List (Nat × AV) → Prop
  | [] => True
  | (k, x) :: r => s.fr k = some x ∧ avlt m x ∧ keeps s m r

def blksLt (m : Nat) : List (Option Blk) → Prop
  | [] => True
  | none :: r => blksLt m r
  | some bk :: r => avlts m bk.cells ∧ blksLt m r

theorem keeps_get {s : St} {m : Nat} : ∀ {l : List (Nat × AV)}, keeps s m l → ∀ k x, frL l k = some x → s.fr k = some x ∧ AVlt m x
  | [], _, k, x, h => by simp [frL] at h
  | (d, v) :: r, hk, k, x, h => by
    simp only [keeps] at hk
    simp only [frL] at h
    split at h
    · rename_i e
      cases h
      rw [e]
      exact ⟨hk.1, avlt_lt _ hk.2.1⟩
    · exact keeps_get hk.2.2 k x h

theorem blksLt_get {m : Nat} : ∀ {l : List (Option Blk)}, blksLt m l → ∀ (i : Nat) bk, l[i]? = some (some bk) → ∀ x ∈ bk.cells, AVlt m x
  | [], _, i, bk, h => by simp at h
  | none :: r, hk, i, bk, h => by
    simp only [blksLt] at hk
    cases i with
    | zero => simp at h
    | succ i => exact blksLt_get hk i bk (by simpa using h)
  | some b :: r, hk, i, bk, h => by
    simp only [blksLt] at hk
    cases i with
    | zero => simp at h; subst h; exact avlts_lt _ hk.1
    | succ i => exact blksLt_get hk.2 i bk (by simpa using h)

section
variable {P : Program} {G : Nat → Option (List PV)} {rl : List String} {h : Heap}

/-- A state knows at least so much: these slots, these blocks behind the first ones. -/
def Sub (h : Heap) (s : St) (l : List (Nat × AV)) (L : List (Option Blk)) (nt : Nat) : Prop :=
  s.nt = nt ∧ (∃ L', s.heap = h ++ (L ++ L')) ∧ keeps s (h.length + L.length) l ∧ blksLt (h.length + L.length) L

theorem Sub.ghost {s : St} {l : List (Nat × AV)} {L : List (Option Blk)} {nt : Nat} (hs : Sub h s l L nt) : Ghost P G h s ⟨frL l, nt, h ++ L⟩ := by
  obtain ⟨h1, ⟨L', h2⟩, h3, h4⟩ := hs
  have ht : s.heap.take (h.length + L.length) = h ++ L := by rw [h2, ← List.append_assoc, List.take_left' (by simp)]
  refine Ghost.le h1.symm (h.length + L.length) (by omega) (by rw [h2]; simp only [List.length_append]; omega) ht.symm (fun k x hx => keeps_get h3 k x hx) fun b bk hb => ?_
  rw [ht] at hb
  by_cases hlt : b < h.length
  · left; rwa [List.getElem?_append_left hlt] at hb
  · right
    rw [List.getElem?_append_right (by omega)] at hb
    exact blksLt_get h4 _ bk hb

/-- A loop whose state is told by how often it was gone through. -/
theorem awp_for {c : Code} {Q : Exit → St → Prop} {s : St} (N nt : Nat) (l : Nat → List (Nat × AV)) (L : Nat → List (Option Blk)) (p : Nat → Prop) (hi : Sub h s (l 0) (L 0) nt) (hp : p 0)
    (hb : ∀ i, i ≤ N → p i → ∀ K : St → Prop, (∀ s', (i < N ∧ p (i + 1) ∧ Sub h s' (l (i + 1)) (L (i + 1)) nt) → K s') → awp P G rl h c (thenA K Q) ⟨frL (l i), nt, h ++ L i⟩) : awp P G rl h (.loop c) Q s := by
  refine awp_loop (fun n s => ∃ i, i ≤ N ∧ p i ∧ n = N - i ∧ s = ⟨frL (l i), nt, h ++ L i⟩) N _ hi.ghost ⟨0, Nat.zero_le _, hp, rfl, rfl⟩ fun n s hI => ?_
  obtain ⟨i, h1, h2, rfl, rfl⟩ := hI
  exact hb i h1 h2 _ fun s' hs => ⟨N - (i + 1), _, by omega, hs.2.2.ghost, i + 1, by omega, hs.2.1, rfl, rfl⟩

theorem Sub.ghostH {H : Heap} {s : St} {l : List (Nat × AV)} {L : List (Option Blk)} {nt : Nat} (hl : H.length = h.length)
    (hc : ∀ (b : Nat) (bk : Blk), H[b]? = some (some bk) → h[b]? = some (some bk) ∨ avlts h.length bk.cells) (hs : Sub H s l L nt) : Ghost P G h s ⟨frL l, nt, H ++ L⟩ := by
  obtain ⟨h1, ⟨L', h2⟩, h3, h4⟩ := hs
  have ht : s.heap.take (H.length + L.length) = H ++ L := by rw [h2, ← List.append_assoc, List.take_left' (by simp)]
  refine Ghost.le h1.symm (H.length + L.length) (by omega) (by rw [h2]; simp only [List.length_append]; omega) ht.symm (fun k x hx => keeps_get h3 k x hx) fun b bk hb => ?_
  rw [ht] at hb
  by_cases hlt : b < H.length
  · rw [List.getElem?_append_left hlt] at hb
    rcases hc b bk hb with hb | hb
    · exact .inl hb
    · exact .inr fun x hx => (avlts_lt _ hb x hx).mono (by omega)
  · right
    rw [List.getElem?_append_right (by omega)] at hb
    exact blksLt_get h4 _ bk hb

/-- A loop whose state is told by how often it was gone through, and that may change blocks that were there. -/
theorem awp_forH {c : Code} {Q : Exit → St → Prop} {s : St} (N nt : Nat) (H : Nat → Heap) (l : Nat → List (Nat × AV)) (L : Nat → List (Option Blk)) (p : Nat → Prop)
    (hH : ∀ i, (H i).length = h.length ∧ ∀ (b : Nat) (bk : Blk), (H i)[b]? = some (some bk) → h[b]? = some (some bk) ∨ avlts h.length bk.cells) (hi : Sub (H 0) s (l 0) (L 0) nt) (hp : p 0)
    (hb : ∀ i, i ≤ N → p i → ∀ K : St → Prop, (∀ s', (i < N ∧ p (i + 1) ∧ Sub (H (i + 1)) s' (l (i + 1)) (L (i + 1)) nt) → K s') → awp P G rl h c (thenA K Q) ⟨frL (l i), nt, H i ++ L i⟩) : awp P G rl h (.loop c) Q s := by
  refine awp_loop (fun n s => ∃ i, i ≤ N ∧ p i ∧ n = N - i ∧ s = ⟨frL (l i), nt, H i ++ L i⟩) N _ (hi.ghostH (hH 0).1 (hH 0).2) ⟨0, Nat.zero_le _, hp, rfl, rfl⟩ fun n s hI => ?_
  obtain ⟨i, h1, h2, rfl, rfl⟩ := hI
  exact hb i h1 h2 _ fun s' hs => ⟨N - (i + 1), _, by omega, hs.2.2.ghostH (hH (i + 1)).1 (hH (i + 1)).2, i + 1, by omega, hs.2.1, rfl, rfl⟩

end
end Go.Proofs.Ytkmcecbglomemaa.AM
end

section
set_option linter.unusedVariables false
namespace Go.Proofs.Ytkmcecbglomemaa.AM

/-- A scope of a plan: its parent, whether it catches, whether it can be undone. -/
abbrev Sc := Int × Bool × Bool
def parA (P : List Sc) (k : Nat) : Int := match P[k]? with | some s => s.1 | none => -2
def catA (P : List Sc) (k : Nat) : Bool := match P[k]? with | some s => s.2.1 | none => false
def undA (P : List Sc) (k : Nat) : Bool := match P[k]? with | some s => s.2.2 | none => false
def stA (s : List Int) (k : Nat) : Int := (s[k]?).getD 0
/-- What each is, which are done, in order; the actions. -/
structure Rs where
  st : List Int
  dn : List Nat
  ac : List (Int × Nat)
structure PlOk (P : List Sc) : Prop where
  n1 : 1 ≤ P.length
  n32 : P.length ≤ 32
  root : parA P 0 = -1
  par : ∀ k, 0 < k → k < P.length → 0 ≤ parA P k ∧ parA P k < k

def prts (P : List Sc) (st : List Int) (i : Nat) (x : Int) : List Nat := (List.range P.length).filter fun k => parA P k == (i : Int) && stA st k == x
def srtD (P : List Sc) (s : Rs) (i : Nat) : List Nat := s.dn.reverse.filter fun k => parA P k == (i : Int)
def endsF (P : List Sc) : Nat → Nat → Rs → Rs
  | 0, _, s => s
  | d + 1, i, s => ((prts P s.st i 1).reverse).foldl (fun s k => ⟨(endsF P d k s).st.set k 3, (endsF P d k s).dn, (endsF P d k s).ac ++ [(1, k)]⟩) s
def undosF (P : List Sc) : Nat → Nat → Rs → Rs
  | 0, _, s => s
  | d + 1, i, s => (srtD P s i).foldl (fun s k => if undA P k = true then ⟨s.st.set k 4, s.dn.filter (· != k), s.ac ++ [(2, k)]⟩ else ⟨(undosF P d k s).st.set k 4, (undosF P d k s).dn.filter (· != k), (undosF P d k s).ac⟩) s
def faultF (P : List Sc) : Nat → Nat → Rs → Rs
  | 0, _, s => s
  | d + 1, i, s =>
    let b := undosF P P.length i (endsF P P.length i s)
    if catA P i = true then ⟨b.st.set i 5, b.dn, b.ac ++ [(3, i)]⟩
    else if 0 < i then faultF P d (parA P i).toNat ⟨b.st.set i 6, b.dn, b.ac ++ [(4, i)]⟩ else ⟨b.st.set i 6, b.dn, b.ac ++ [(4, i)]⟩

/-- A scope is a part of another one, or that one. -/
inductive Ins (P : List Sc) (c : Nat) : Nat → Prop where
  | self : Ins P c c
  | up (k j : Nat) (h : parA P k = (j : Int)) (hj : Ins P c j) : Ins P c k

theorem nodup_le : ∀ (n : Nat) (l : List Nat), l.Nodup → (∀ k ∈ l, k < n) → l.length ≤ n
  | 0, l, _, h => by
    cases l with
    | nil => simp
    | cons x l => have := h x (List.mem_cons_self ..); omega
  | n + 1, l, hn, h => by
    have h1 := nodup_le n (l.erase n) (hn.erase n) fun k hk => by
      have h2 := h k (List.mem_of_mem_erase hk)
      have h3 : k ≠ n := fun e => by subst e; exact hn.not_mem_erase hk
      omega
    by_cases hm : n ∈ l
    · have := List.length_erase_of_mem hm; omega
    · rw [List.erase_of_not_mem hm] at h1; omega

section
variable {P : List Sc}
theorem PlOk.lt (ok : PlOk P) {k j : Nat} (h : parA P k = (j : Int)) : j < k ∧ k < P.length := by
  have hk : k < P.length := by
    rcases Nat.lt_or_ge k P.length with hk | hk
    · exact hk
    · unfold parA at h; rw [List.getElem?_eq_none hk] at h; change (-2 : Int) = (j : Int) at h; omega
  rcases Nat.eq_zero_or_pos k with h0 | h0
  · subst h0; rw [ok.root] at h; omega
  · have := ok.par k h0 hk; omega
theorem Ins.le (ok : PlOk P) {c k : Nat} (h : Ins P c k) : c ≤ k := by
  induction h with
  | self => exact Nat.le_refl _
  | up k j h hj ih => have := (ok.lt h).1; omega
theorem Ins.trans {a b k : Nat} (h1 : Ins P a b) (h2 : Ins P b k) : Ins P a k := by
  induction h2 with
  | self => exact h1
  | up k j h hj ih => exact .up k j h ih
theorem Ins.sib (ok : PlOk P) {a b i : Nat} (ha : parA P a = (i : Int)) (hb : parA P b = (i : Int)) (hne : a ≠ b) : ¬ Ins P a b := by
  intro h
  cases h with
  | self => exact hne rfl
  | up _ j h hj =>
    have := hj.le ok
    have := (ok.lt ha).1
    omega
theorem Ins.kid {i k : Nat} (h : parA P k = (i : Int)) : Ins P i k := .up k i h .self

theorem stA_set {s : List Int} {k : Nat} {x : Int} (hk : k < s.length) (j : Nat) : stA (s.set k x) j = if j = k then x else stA s j := by
  unfold stA
  rw [List.getElem?_set]
  by_cases h : j = k
  · subst h; simp [hk]
  · rw [if_neg (fun e => h e.symm), if_neg h]
theorem stA_ge {s : List Int} {k : Nat} (h : s.length ≤ k) : stA s k = 0 := by unfold stA; rw [List.getElem?_eq_none h]; rfl
theorem stA_lt {s : List Int} {k : Nat} (h : stA s k ≠ 0) : k < s.length := by
  rcases Nat.lt_or_ge k s.length with hk | hk
  · exact hk
  · exact absurd (stA_ge hk) h

/-- What holds of a run. -/
structure RsOk (P : List Sc) (s : Rs) : Prop where
  len : s.st.length = P.length
  rng : ∀ k, 0 ≤ stA s.st k ∧ stA s.st k ≤ 6
  inp : ∀ k j : Nat, parA P k = (j : Int) → stA s.st k = 1 → stA s.st j = 1
  dnp : ∀ k, k ∈ s.dn ↔ stA s.st k = 2
  ndp : s.dn.Nodup
  acn : (s.ac.map (·.2)).Nodup
  ac3 : ∀ a ∈ s.ac, 3 ≤ stA s.st a.2

theorem RsOk.lt {s : Rs} (h : RsOk P s) {k : Nat} (hk : stA s.st k ≠ 0) : k < P.length := by rw [← h.len]; exact stA_lt hk
theorem RsOk.acle {s : Rs} (h : RsOk P s) : s.ac.length ≤ P.length := by
  have := nodup_le P.length (s.ac.map (·.2)) h.acn fun k hk => by
    obtain ⟨a, ha, rfl⟩ := List.mem_map.mp hk
    exact h.lt (by have := h.ac3 a ha; omega)
  simpa using this
theorem RsOk.dnle {s : Rs} (h : RsOk P s) : s.dn.length ≤ P.length := nodup_le P.length s.dn h.ndp fun k hk => h.lt (by have := (h.dnp k).mp hk; omega)
theorem mem_prts {st : List Int} {i k : Nat} {x : Int} : k ∈ prts P st i x ↔ k < P.length ∧ parA P k = (i : Int) ∧ stA st k = x := by
  unfold prts
  rw [List.mem_filter, List.mem_range, Bool.and_eq_true, beq_iff_eq, beq_iff_eq]
theorem mem_srt {s : Rs} {i k : Nat} : k ∈ srtD P s i ↔ k ∈ s.dn ∧ parA P k = (i : Int) := by
  unfold srtD
  rw [List.mem_filter, List.mem_reverse, beq_iff_eq]

/-- A scope that was in, and in which nothing is in any more, is not in any more. -/
theorem RsOk.out {s : Rs} (h : RsOk P s) {k : Nat} {x what : Int} (h1 : stA s.st k = 1) (hk : ∀ j, parA P j = (k : Int) → stA s.st j ≠ 1) (hx : 3 ≤ x) (hx6 : x ≤ 6) : RsOk P ⟨s.st.set k x, s.dn, s.ac ++ [(what, k)]⟩ := by
  have hlt : k < s.st.length := stA_lt (by omega)
  have hs := fun j => stA_set (x := x) hlt j
  refine ⟨by simpa using h.len, fun j => ?_, fun j i hp h2 => ?_, fun j => ?_, h.ndp, ?_, fun a ha => ?_⟩
  · show 0 ≤ stA (s.st.set k x) j ∧ _
    rw [hs]; split
    · omega
    · exact h.rng j
  · change stA (s.st.set k x) j = 1 at h2
    show stA (s.st.set k x) i = 1
    rw [hs] at h2 ⊢
    split at h2
    · omega
    · split
      · rename_i e; subst e; exact absurd h2 (hk j hp)
      · exact h.inp j i hp h2
  · show j ∈ s.dn ↔ stA (s.st.set k x) j = 2
    rw [hs, h.dnp]
    split
    · rename_i e; subst e; omega
    · exact Iff.rfl
  · rw [List.map_append, List.nodup_append]
    refine ⟨h.acn, by simp, fun a ha b hb e => ?_⟩
    simp only [List.map_cons, List.map_nil, List.mem_singleton] at hb
    obtain ⟨y, hy, rfl⟩ := List.mem_map.mp ha
    have := h.ac3 y hy
    rw [e, hb] at this; omega
  · show 3 ≤ stA (s.st.set k x) a.2
    rw [hs]
    split
    · exact hx
    · rename_i e
      rcases List.mem_append.mp ha with ha | ha
      · exact h.ac3 a ha
      · rw [List.mem_singleton] at ha; subst ha; exact absurd rfl e

theorem range_nodup (n : Nat) (p : Nat → Bool) : ((List.range n).filter p).Nodup := List.nodup_range.filter _

structure EndsTo (P : List Sc) (D : Nat → Prop) (s t : Rs) : Prop where
  ok : RsOk P t
  dn : t.dn = s.dn
  only : ∀ k, ¬ D k → stA t.st k = stA s.st k
  how : ∀ k, stA t.st k = stA s.st k ∨ (stA s.st k = 1 ∧ stA t.st k = 3)
  app : ∃ m, t.ac = s.ac ++ m ∧ ∀ a ∈ m, a.1 = 1

def endB (P : List Sc) (d : Nat) (s : Rs) (k : Nat) : Rs := ⟨(endsF P d k s).st.set k 3, (endsF P d k s).dn, (endsF P d k s).ac ++ [(1, k)]⟩
theorem ends_loop (pl : PlOk P) {d i : Nat} (IH : ∀ (k : Nat) (s : Rs), i < k → RsOk P s → EndsTo P (fun j => Ins P k j ∧ j ≠ k) s (endsF P d k s) ∧ ∀ j, parA P j = (k : Int) → stA (endsF P d k s).st j ≠ 1) : ∀ (l : List Nat) (s : Rs), l.Nodup → (∀ k ∈ l, parA P k = (i : Int) ∧ stA s.st k = 1) → RsOk P s →
    EndsTo P (fun k => Ins P i k ∧ k ≠ i) s (l.foldl (endB P d) s) ∧
      ∀ k ∈ l, stA (l.foldl (endB P d) s).st k ≠ 1 := by
  intro l
  induction l with
  | nil => exact fun s _ _ h => ⟨⟨h, rfl, fun _ _ => rfl, fun _ => .inl rfl, [], by simp, by simp⟩, by simp⟩
  | cons k l ih =>
    intro s hn hl h
    rw [List.nodup_cons] at hn
    obtain ⟨hp, h1⟩ := hl k (List.mem_cons_self ..)
    have hik := (pl.lt hp).1
    obtain ⟨e1, e2⟩ := IH k s hik h
    have hk1 : stA (endsF P d k s).st k = 1 := by rw [e1.only k (fun e => e.2 rfl)]; exact h1
    have ho := e1.ok.out (what := 1) (x := 3) hk1 e2 (by omega) (by omega)
    have hlt : k < (endsF P d k s).st.length := stA_lt (by omega)
    have hs := fun j => stA_set (x := 3) hlt j
    rw [List.foldl_cons, show endB P d s k = ⟨(endsF P d k s).st.set k 3, (endsF P d k s).dn, (endsF P d k s).ac ++ [(1, k)]⟩ from rfl]
    obtain ⟨f1, f2⟩ := ih ⟨(endsF P d k s).st.set k 3, (endsF P d k s).dn, (endsF P d k s).ac ++ [(1, k)]⟩ hn.2 (fun j hj => by
      obtain ⟨q1, q2⟩ := hl j (List.mem_cons_of_mem _ hj)
      have hne : k ≠ j := fun e => hn.1 (e ▸ hj)
      refine ⟨q1, ?_⟩
      show stA ((endsF P d k s).st.set k 3) j = 1
      rw [hs, if_neg (Ne.symm hne), e1.only j (fun e => Ins.sib pl hp q1 hne e.1)]
      exact q2) ho
    refine ⟨⟨f1.ok, f1.dn.trans e1.dn, fun j hj => ?_, fun j => ?_, ?_⟩, fun j hj => ?_⟩
    · have hjk : ¬ Ins P k j := fun e => hj ⟨(Ins.kid hp).trans e, fun e2 => by have := e.le pl; omega⟩
      have hne : j ≠ k := fun e => hjk (e ▸ .self)
      rw [f1.only j hj]
      show stA ((endsF P d k s).st.set k 3) j = _
      rw [hs, if_neg hne]
      exact e1.only j fun e => hjk e.1
    · have a1 := f1.how j
      have a2 : stA ((endsF P d k s).st.set k 3) j = if j = k then 3 else stA (endsF P d k s).st j := hs j
      have a3 := e1.how j
      change stA _ j = stA ((endsF P d k s).st.set k 3) j ∨ (stA ((endsF P d k s).st.set k 3) j = 1 ∧ _) at a1
      rw [a2] at a1
      by_cases hjk : j = k
      · subst hjk
        rw [if_pos rfl] at a1
        omega
      · rw [if_neg hjk] at a1
        omega
    · obtain ⟨m1, p1, p2⟩ := f1.app
      obtain ⟨m2, q1, q2⟩ := e1.app
      refine ⟨m2 ++ [(1, k)] ++ m1, ?_, fun a ha => ?_⟩
      · rw [p1]
        show (endsF P d k s).ac ++ [(1, k)] ++ m1 = _
        rw [q1]; simp
      · rcases List.mem_append.mp ha with ha | ha
        · rcases List.mem_append.mp ha with ha | ha
          · exact q2 a ha
          · rw [List.mem_singleton] at ha; subst ha; rfl
        · exact p2 a ha
    · rcases List.mem_cons.mp hj with e | hj
      · subst e
        have a1 := f1.how j
        have a2 : stA ((endsF P d j s).st.set j 3) j = 3 := by rw [hs, if_pos rfl]
        change stA _ j = stA ((endsF P d j s).st.set j 3) j ∨ (stA ((endsF P d j s).st.set j 3) j = 1 ∧ _) at a1
        rw [a2] at a1
        omega
      · exact f2 j hj

theorem ends_spec (pl : PlOk P) : ∀ (d i : Nat) (s : Rs), P.length ≤ i + d → RsOk P s → EndsTo P (fun k => Ins P i k ∧ k ≠ i) s (endsF P d i s) ∧ ∀ k, parA P k = (i : Int) → stA (endsF P d i s).st k ≠ 1
  | 0, i, s, hd, h => by
    unfold endsF
    refine ⟨⟨h, rfl, fun _ _ => rfl, fun _ => .inl rfl, [], by simp, by simp⟩, fun k hk => ?_⟩
    have := pl.lt hk
    omega
  | d + 1, i, s, hd, h => by
    have hu : endsF P (d + 1) i s = ((prts P s.st i 1).reverse).foldl (endB P d) s := rfl
    rw [hu]
    have hm : ∀ k ∈ (prts P s.st i 1).reverse, parA P k = (i : Int) ∧ stA s.st k = 1 := fun k hk => (mem_prts.mp (List.mem_reverse.mp hk)).2
    obtain ⟨g1, g2⟩ := ends_loop pl (d := d) (i := i) (fun k s hk h => ends_spec pl d k s (by omega) h) _ s (List.pairwise_reverse.mpr ((range_nodup _ _).imp Ne.symm)) hm h
    refine ⟨g1, fun k hk hc => ?_⟩
    have hin : k ∈ (prts P s.st i 1).reverse := by
      rw [List.mem_reverse, mem_prts]
      refine ⟨(pl.lt hk).2, hk, ?_⟩
      rcases g1.how k with e | ⟨e, _⟩
      · rw [← e]; exact hc
      · exact e
    exact g2 k hin hc
end
end Go.Proofs.Ytkmcecbglomemaa.AM
end

section
set_option linter.unusedVariables false
namespace Go.Proofs.Ytkmcecbglomemaa.AM

/-- Which was done ahead of which: their places in a list. -/
theorem idx_pw : ∀ {l : List Nat}, l.Nodup → l.Pairwise fun a b => l.idxOf a < l.idxOf b
  | [], _ => List.Pairwise.nil
  | x :: l, h => by
    rw [List.nodup_cons] at h
    have ne : ∀ a ∈ l, x ≠ a := fun a ha e => h.1 (e ▸ ha)
    have e : ∀ a ∈ l, (x :: l).idxOf a = l.idxOf a + 1 := fun a ha => by rw [List.idxOf_cons, beq_false_of_ne (ne a ha)]; rfl
    rw [List.pairwise_cons]
    refine ⟨fun a ha => ?_, (idx_pw h.2).imp_of_mem fun ha hb hab => ?_⟩
    · rw [e a ha, List.idxOf_cons_self]; omega
    · rw [e _ ha, e _ hb]; omega

structure RvOk (P : List Sc) (dn0 : List Nat) (s : Rs) : Prop where
  sub : s.dn.Sublist dn0
  ac4 : ∀ a ∈ s.ac, a.1 = 2 → a.2 ∈ dn0 ∧ stA s.st a.2 = 4 ∧ undA P a.2 = true
  later : ∀ a ∈ s.ac, a.1 = 2 → ∀ k ∈ s.dn, parA P k = parA P a.2 → dn0.idxOf k < dn0.idxOf a.2
  ord : s.ac.Pairwise fun a b => a.1 = 2 → b.1 = 2 → parA P a.2 = parA P b.2 → dn0.idxOf b.2 < dn0.idxOf a.2

section
variable {P : List Sc}
theorem RsOk.undo {s : Rs} (h : RsOk P s) {k : Nat} (h2 : stA s.st k = 2) (m : List (Int × Nat)) (hm : m = [] ∨ m = [(2, k)]) : RsOk P ⟨s.st.set k 4, s.dn.filter (· != k), s.ac ++ m⟩ := by
  have hlt : k < s.st.length := stA_lt (by omega)
  have hs := fun j => stA_set (x := 4) hlt j
  refine ⟨by simpa using h.len, fun j => ?_, fun j i hp h1 => ?_, fun j => ?_, h.ndp.filter _, ?_, fun a ha => ?_⟩
  · show 0 ≤ stA (s.st.set k 4) j ∧ _
    rw [hs]; split
    · omega
    · exact h.rng j
  · change stA (s.st.set k 4) j = 1 at h1
    show stA (s.st.set k 4) i = 1
    rw [hs] at h1 ⊢
    split at h1
    · omega
    · have := h.inp j i hp h1
      rw [if_neg (by intro e; subst e; omega)]
      exact this
  · show j ∈ s.dn.filter (· != k) ↔ stA (s.st.set k 4) j = 2
    rw [hs, List.mem_filter, h.dnp]
    by_cases e : j = k
    · subst e; simp
    · simp [e]
  · rw [List.map_append, List.nodup_append]
    rcases hm with rfl | rfl
    · simpa using h.acn
    refine ⟨h.acn, by simp, fun a ha b hb e => ?_⟩
    simp only [List.map_cons, List.map_nil, List.mem_singleton] at hb
    obtain ⟨y, hy, rfl⟩ := List.mem_map.mp ha
    have := h.ac3 y hy
    rw [e, hb] at this; omega
  · show 3 ≤ stA (s.st.set k 4) a.2
    rw [hs]
    split
    · omega
    · rename_i e
      rcases List.mem_append.mp ha with ha | ha
      · exact h.ac3 a ha
      · rcases hm with rfl | rfl
        · simp at ha
        · rw [List.mem_singleton] at ha; subst ha; exact absurd rfl e

structure UndTo (P : List Sc) (D : Nat → Prop) (s t : Rs) : Prop where
  ok : RsOk P t
  sub : t.dn.Sublist s.dn
  only : ∀ k, ¬ D k → stA t.st k = stA s.st k
  how : ∀ k, stA t.st k = stA s.st k ∨ (stA s.st k = 2 ∧ stA t.st k = 4)
  acl : s.ac.length ≤ t.ac.length

def undB (P : List Sc) (d : Nat) (s : Rs) (k : Nat) : Rs := if undA P k = true then ⟨s.st.set k 4, s.dn.filter (· != k), s.ac ++ [(2, k)]⟩ else ⟨(undosF P d k s).st.set k 4, (undosF P d k s).dn.filter (· != k), (undosF P d k s).ac⟩

theorem undos_one (pl : PlOk P) {d i : Nat} (IH : ∀ (k : Nat) (s : Rs), i < k → RsOk P s → UndTo P (fun j => Ins P k j ∧ j ≠ k) s (undosF P d k s) ∧ ∀ dn0 : List Nat, dn0.Nodup → RvOk P dn0 s → RvOk P dn0 (undosF P d k s)) : ∀ (k : Nat) (s : Rs), parA P k = (i : Int) → stA s.st k = 2 → RsOk P s →
    UndTo P (Ins P k) s (undB P d s k) ∧ (k ∉ (undB P d s k).dn) ∧ ∀ dn0 : List Nat, dn0.Nodup → RvOk P dn0 s → (∀ j ∈ s.dn, parA P j = (i : Int) → j ≠ k → dn0.idxOf j < dn0.idxOf k) → RvOk P dn0 (undB P d s k) := by
  intro k s hp h2 h
  have hik := (pl.lt hp).1
  have hkd : k ∈ s.dn := (h.dnp k).mpr h2
  unfold undB
  split
  · rename_i hf
    have hlt : k < s.st.length := stA_lt (by omega)
    have hs := fun j => stA_set (x := 4) hlt j
    refine ⟨⟨h.undo h2 _ (.inr rfl), List.filter_sublist, fun j hj => ?_, fun j => ?_, by simp⟩, by simp, fun dn0 hn hr hl => ?_⟩
    · show stA (s.st.set k 4) j = _
      have hjk : ¬ j = k := fun e => hj (by rw [e]; exact .self)
      rw [hs, if_neg hjk]
    · show stA (s.st.set k 4) j = _ ∨ (_ ∧ stA (s.st.set k 4) j = 4)
      rw [hs]
      by_cases e : j = k
      · subst e; rw [if_pos rfl]; exact .inr ⟨h2, rfl⟩
      · rw [if_neg e]; exact .inl rfl
    · refine ⟨List.filter_sublist.trans hr.sub, fun a ha h2a => ?_, fun a ha h2a j hj hpj => ?_, ?_⟩
      · show _ ∧ stA (s.st.set k 4) a.2 = 4 ∧ _
        rw [hs]
        rcases List.mem_append.mp ha with ha | ha
        · have := hr.ac4 a ha h2a
          refine ⟨this.1, ?_, this.2.2⟩
          split
          · rfl
          · exact this.2.1
        · rw [List.mem_singleton] at ha; subst ha
          exact ⟨hr.sub.subset hkd, if_pos rfl, hf⟩
      · rw [List.mem_filter] at hj
        rcases List.mem_append.mp ha with ha | ha
        · exact hr.later a ha h2a j hj.1 hpj
        · rw [List.mem_singleton] at ha; subst ha
          exact hl j hj.1 (hpj.trans hp) (by simpa using hj.2)
      · rw [List.pairwise_append]
        refine ⟨hr.ord, List.pairwise_singleton .., fun a ha b hb h2a h2b hpp => ?_⟩
        rw [List.mem_singleton] at hb; subst hb
        exact hr.later a ha h2a k hkd hpp.symm
  · rename_i hf
    obtain ⟨e1, e2⟩ := IH k s hik h
    have hk2 : stA (undosF P d k s).st k = 2 := by rw [e1.only k (fun e => e.2 rfl)]; exact h2
    have hlt : k < (undosF P d k s).st.length := stA_lt (by omega)
    have hs := fun j => stA_set (x := 4) hlt j
    have ho := e1.ok.undo hk2 [] (.inl rfl)
    rw [List.append_nil] at ho
    refine ⟨⟨ho, List.filter_sublist.trans e1.sub, fun j hj => ?_, fun j => ?_, e1.acl⟩, by simp, fun dn0 hn hr hl => ?_⟩
    · show stA ((undosF P d k s).st.set k 4) j = _
      have hjk : ¬ j = k := fun e => hj (by rw [e]; exact .self)
      rw [hs, if_neg hjk]
      exact e1.only j fun e => hj e.1
    · show stA ((undosF P d k s).st.set k 4) j = _ ∨ (_ ∧ stA ((undosF P d k s).st.set k 4) j = 4)
      rw [hs]
      by_cases e : j = k
      · subst e; rw [if_pos rfl]; exact .inr ⟨h2, rfl⟩
      · rw [if_neg e]; exact e1.how j
    · have hr2 := e2 dn0 hn hr
      refine ⟨List.filter_sublist.trans hr2.sub, fun a ha h2a => ?_, fun a ha h2a j hj hpj => ?_, hr2.ord⟩
      · show _ ∧ stA ((undosF P d k s).st.set k 4) a.2 = 4 ∧ _
        rw [hs]
        have := hr2.ac4 a ha h2a
        refine ⟨this.1, ?_, this.2.2⟩
        split
        · rfl
        · exact this.2.1
      · rw [List.mem_filter] at hj
        exact hr2.later a ha h2a j hj.1 hpj

theorem undos_loop (pl : PlOk P) {d i : Nat} (IH : ∀ (k : Nat) (s : Rs), i < k → RsOk P s → UndTo P (fun j => Ins P k j ∧ j ≠ k) s (undosF P d k s) ∧ ∀ dn0 : List Nat, dn0.Nodup → RvOk P dn0 s → RvOk P dn0 (undosF P d k s)) : ∀ (l : List Nat) (s : Rs), l.Nodup → (∀ k ∈ l, parA P k = (i : Int) ∧ stA s.st k = 2) → RsOk P s →
    UndTo P (fun k => Ins P i k ∧ k ≠ i) s (l.foldl (undB P d) s) ∧
      ∀ dn0 : List Nat, dn0.Nodup → RvOk P dn0 s → (∀ k ∈ s.dn, parA P k = (i : Int) → k ∈ l) → l.Pairwise (fun a b => dn0.idxOf b < dn0.idxOf a) → RvOk P dn0 (l.foldl (undB P d) s) := by
  intro l
  induction l with
  | nil => exact fun s _ _ h => ⟨⟨h, List.Sublist.refl _, fun _ _ => rfl, fun _ => .inl rfl, Nat.le_refl _⟩, fun _ _ hr _ _ => hr⟩
  | cons k l ih =>
    intro s hn hl h
    rw [List.nodup_cons] at hn
    obtain ⟨hp, h2⟩ := hl k (List.mem_cons_self ..)
    have hik := (pl.lt hp).1
    obtain ⟨e1, e2, e3⟩ := undos_one pl IH k s hp h2 h
    rw [List.foldl_cons]
    obtain ⟨f1, f2⟩ := ih (undB P d s k) hn.2 (fun j hj => by
      obtain ⟨q1, q2⟩ := hl j (List.mem_cons_of_mem _ hj)
      have hne : k ≠ j := fun e => hn.1 (e ▸ hj)
      exact ⟨q1, by rw [e1.only j (Ins.sib pl hp q1 hne)]; exact q2⟩) e1.ok
    refine ⟨⟨f1.ok, f1.sub.trans e1.sub, fun j hj => ?_, fun j => ?_, Nat.le_trans e1.acl f1.acl⟩, fun dn0 hd0 hr hin hpw => ?_⟩
    · have hjk : ¬ Ins P k j := fun e => hj ⟨(Ins.kid hp).trans e, fun e2 => by have := e.le pl; omega⟩
      rw [f1.only j hj, e1.only j hjk]
    · have a1 := f1.how j
      have a2 := e1.how j
      omega
    · rw [List.pairwise_cons] at hpw
      refine f2 dn0 hd0 (e3 dn0 hd0 hr fun j hj hpj hne => ?_) (fun j hj hpj => ?_) hpw.2
      · rcases List.mem_cons.mp (hin j hj hpj) with e | hjl
        · exact absurd e hne
        · exact hpw.1 j hjl
      · rcases List.mem_cons.mp (hin j (e1.sub.subset hj) hpj) with e | hjl
        · subst e; exact absurd hj e2
        · exact hjl

theorem undos_spec (pl : PlOk P) : ∀ (d i : Nat) (s : Rs), P.length ≤ i + d → RsOk P s → UndTo P (fun k => Ins P i k ∧ k ≠ i) s (undosF P d i s) ∧ ∀ dn0 : List Nat, dn0.Nodup → RvOk P dn0 s → RvOk P dn0 (undosF P d i s)
  | 0, i, s, hd, h => by
    unfold undosF
    exact ⟨⟨h, List.Sublist.refl _, fun _ _ => rfl, fun _ => .inl rfl, Nat.le_refl _⟩, fun _ _ hr => hr⟩
  | d + 1, i, s, hd, h => by
    have hu : undosF P (d + 1) i s = (srtD P s i).foldl (undB P d) s := rfl
    rw [hu]
    have hm : ∀ k ∈ srtD P s i, parA P k = (i : Int) ∧ stA s.st k = 2 := fun k hk => ⟨(mem_srt.mp hk).2, (h.dnp k).mp (mem_srt.mp hk).1⟩
    have hnd : (srtD P s i).Nodup := (List.pairwise_reverse.mpr (h.ndp.imp Ne.symm)).filter _
    obtain ⟨g1, g2⟩ := undos_loop pl (d := d) (i := i) (fun k s hk h => undos_spec pl d k s (by omega) h) _ s hnd hm h
    refine ⟨g1, fun dn0 hd0 hr => g2 dn0 hd0 hr (fun k hk hp => mem_srt.mpr ⟨hk, hp⟩) ?_⟩
    have hsub := (idx_pw hd0).sublist hr.sub
    exact (List.pairwise_reverse.mpr hsub).filter _
end
end Go.Proofs.Ytkmcecbglomemaa.AM
end

section
set_option linter.unusedVariables false
set_option linter.unusedSimpArgs false
namespace Go.Proofs.Ytkmcecbglomemaa.AM
open Go

theorem inR_i64 (n : Int) : inR .i64 n = (decide (-9223372036854775808 ≤ n) && decide (n ≤ 9223372036854775807)) := rfl
theorem inR_u64 (n : Int) : inR .u64 n = (decide (0 ≤ n) && decide (n ≤ 18446744073709551615)) := rfl
theorem inR_u32 (n : Int) : inR .u32 n = (decide (0 ≤ n) && decide (n ≤ 4294967295)) := rfl
theorem inR_i32 (n : Int) : inR .i32 n = (decide (-2147483648 ≤ n) && decide (n ≤ 2147483647)) := rfl
theorem inR_u8 (n : Int) : inR .u8 n = (decide (0 ≤ n) && decide (n ≤ 255)) := rfl

/-- What a guarded operation leaves: its value, or nothing. -/
def gate (w : Bool) (v : AV) : AV := if w = true then v else .undef

theorem gate_true (v : AV) : gate true v = v := rfl
theorem gate_false (v : AV) : gate false v = .undef := rfl
theorem selA_true (x y : AV) : selA true x y = x := by unfold selA; split <;> rfl
theorem selA_false (x y : AV) : selA false x y = y := by unfold selA; split <;> rfl
theorem selA_or (t x : Bool) : selA t (.b true) (gate (!t) (.b x)) = .b (t || x) := by cases t <;> rfl
theorem selA_or2 (t x : Bool) : selA (!t) (.b true) (gate t (.b x)) = .b (!t || x) := by cases t <;> rfl
theorem selA_and (t x : Bool) : selA t (gate t (.b x)) (.b false) = .b (t && x) := by cases t <;> rfl

/-- Whether a guard is met. -/
def wantOf : Option AV → Bool → Option Bool
  | some (.p (.bool g)), want => some (g == want)
  | some (.tup []), _ => some false
  | _, _ => none
theorem wantOf_b (g want : Bool) : wantOf (some (.p (.bool g))) want = some (g == want) := rfl
theorem wantOf_u (want : Bool) : wantOf (some (.tup [])) want = some false := rfl
theorem wantOf_g (u x want : Bool) : wantOf (some (gate u (.p (.bool x)))) want = some (u && (x == want)) := by cases u <;> rfl
theorem wantA_eq (ops : Array Oper) (o : Oper) (s : St) : wantA ops o s = match o.guard with | none => some true | some (j, want) => wantOf (guardA ops s j) want := by
  unfold wantA
  cases o.guard with
  | none => rfl
  | some q =>
    obtain ⟨j, want⟩ := q
    dsimp only
    generalize guardA ops s j = g
    cases g with
    | none => rfl
    | some v =>
      cases v with
      | p x => cases x <;> rfl
      | tup l => cases l <;> rfl
      | _ => rfl

theorem condA_b (t : Bool) (X Y : Prop) : condA (some (.p (.bool t))) X Y = ((t = true → X) ∧ (t = false → Y)) := rfl

/-- A guarded operation, the two ways of it joined. -/
theorem join_x {K : St → Prop} {X : Prop} {b : Bool} {fr : Nat → Option AV} {nt d : Nat} {hp : Heap} {v : AV} (hv : b = true → K ⟨upd fr d v, nt, hp⟩ → X) (hk : K ⟨upd fr d (gate b v), nt, hp⟩) : (b = true → X) ∧ (b = false → K ⟨upd fr d (.tup []), nt, hp⟩) := by
  cases b with
  | true => exact ⟨fun _ => hv rfl hk, fun h => (by cases h)⟩
  | false => exact ⟨fun h => (by cases h), fun _ => hk⟩

section
variable {P : Program} {G : Nat → Option (List PV)} {rl : List String} {ops : Array Oper} {o : Oper} {K : St → Prop} {s : St}

theorem awp_cond_k {h0 : Heap} {c : Operand} {x y : Code} {Q : Exit → St → Prop} (h : ∀ A B : Prop, (awp P G rl h0 x Q s → A) → (awp P G rl h0 y Q s → B) → condA (evalA G s c) A B) : awp P G rl h0 (.cond c x y) Q s :=
  h _ _ id id

end
end Go.Proofs.Ytkmcecbglomemaa.AM
end

section
set_option linter.unusedVariables false
set_option linter.defProp false
namespace Go.Proofs.Ytkmcecbglomemaa.AM
open Go

def SS := And.intro (And.intro (And.intro (And.intro (And.intro (And.intro (And.intro (@aop.eq_1) (And.intro (@guardA.eq_1) (@aexec.eq_1))) (And.intro (@aquiet.eq_1) (And.intro (@aqop.eq_1) (@callOf.eq_1)))) (And.intro (And.intro (@opA.eq_1) (And.intro (@evalA.eq_1) (@evalA.eq_2))) (And.intro (And.intro (@evalA.eq_3) (@evalA.eq_4)) (And.intro (@evals.eq_1) (@evals.eq_2))))) (And.intro (And.intro (And.intro (@constA.eq_1) (And.intro (@constA.eq_2) (@constA.eq_3))) (And.intro (@constPV.eq_1) (And.intro (@constPV.eq_2) (@constPV.eq_3)))) (And.intro (And.intro (@constPV.eq_4) (And.intro (@constPV.eq_5) (@constPV.eq_6))) (And.intro (And.intro (@constPV.eq_7) (@constPVs.eq_1)) (And.intro (@constPVs.eq_2) (@inR_i64)))))) (And.intro (And.intro (And.intro (And.intro (@inR_u64) (And.intro (@inR_u32) (@inR_i32))) (And.intro (@inR_u8) (And.intro (@Option.map_some.{0, 0}) (@Option.map_none.{0, 0})))) (And.intro (And.intro (@Option.bind_some.{0, 0}) (And.intro (@Option.bind_none.{0, 0}) (@St.put.eq_1))) (And.intro (And.intro (@St.put.eq_2) (@upd_get)) (And.intro (@thenA_normal) (@thenA_exit))))) (And.intro (And.intro (And.intro (@thenA_ret) (And.intro (@blockA_normal) (@blockA_exit))) (And.intro (@blockA_ret) (And.intro (@cellsA.eq_1) (@cellsA.eq_2)))) (And.intro (And.intro (@cellsA.eq_3) (And.intro (@AV.scalar.eq_1) (@AV.scalar.eq_2))) (And.intro (And.intro (@AV.scalar.eq_3) (@binA.eq_1)) (And.intro (@binA.eq_2) (@binA.eq_3))))))) (And.intro (And.intro (And.intro (And.intro (And.intro (@opBin.eq_1) (And.intro (@opBin.eq_2) (@opBin.eq_3))) (And.intro (@opBin.eq_4) (And.intro (@opBin.eq_5) (@opBin.eq_6)))) (And.intro (And.intro (@opBin.eq_7) (And.intro (@cmpInt.eq_1) (@cmpInt.eq_2))) (And.intro (And.intro (@cmpInt.eq_3) (@cmpInt.eq_4)) (And.intro (@cmpInt.eq_5) (@cmpInt.eq_6))))) (And.intro (And.intro (And.intro (@cmpInt.eq_7) (And.intro (@eqA.eq_1) (@eqA.eq_2))) (And.intro (@eqA.eq_3) (And.intro (@eqA.eq_4) (@eqA.eq_5)))) (And.intro (And.intro (@eqA.eq_6) (And.intro (@unA.eq_1) (@unA.eq_2))) (And.intro (And.intro (@unA.eq_3) (@blkAt.eq_1)) (And.intro (@takeA.eq_1) (@takeA.eq_2)))))) (And.intro (And.intro (And.intro (And.intro (@TI.isAgg.eq_1) (And.intro (@fieldAddrA.eq_1) (@sizeA.eq_1))) (And.intro (@lenA.eq_1) (And.intro (@lenA.eq_2) (@lenA.eq_3)))) (And.intro (And.intro (@lenA.eq_4) (And.intro (@lenA.eq_5) (@builtinA.eq_1))) (And.intro (And.intro (@builtinA.eq_2) (@builtinA.eq_3)) (And.intro (@builtinA.eq_4) (@builtinA.eq_5))))) (And.intro (And.intro (And.intro (@builtinA.eq_6) (And.intro (@appendA.eq_1) (@srcCells.eq_1))) (And.intro (And.intro (@srcCells.eq_2) (@srcCells.eq_3)) (And.intro (@srcCells.eq_4) (@sliceA.eq_1)))) (And.intro (And.intro (@boundA.eq_1) (And.intro (@boundA.eq_2) (@boundA.eq_3))) (And.intro (And.intro (@selA_true) (@selA_false)) (And.intro (@selA_or) (@selA_or2)))))))) (And.intro (And.intro (And.intro (And.intro (And.intro (And.intro (@selA_and) (And.intro (@gate_true) (@gate_false))) (And.intro (@decide_true) (And.intro (@decide_false) (@ne_eq.{1})))) (And.intro (And.intro (@fillA.eq_1) (And.intro (@fillA.eq_2) (@over.eq_1))) (And.intro (And.intro (@over.eq_2) (@pvs.eq_1)) (And.intro (@pvs.eq_2) (@pvs.eq_3))))) (And.intro (And.intro (And.intro (@chunk.eq_1) (And.intro (@chunk.eq_2) (@get_app))) (And.intro (@get_app0) (And.intro (@set_app) (@set_app0)))) (And.intro (And.intro (@if_true.{1}) (And.intro (@if_false.{1}) (@ite_true.{1}))) (And.intro (And.intro (@ite_false.{1}) (@true_implies)) (And.intro (@false_implies) (@forall_const.{1})))))) (And.intro (And.intro (And.intro (And.intro (@and_true) (And.intro (@true_and) (@and_self))) (And.intro (@and_false) (And.intro (@false_and) (@List.getElem?_cons_zero.{0})))) (And.intro (And.intro (@List.getElem?_cons_succ.{0}) (And.intro (@List.getElem?_nil.{0}) (@List.map_cons.{0, 0}))) (And.intro (And.intro (@List.map_nil.{0, 0}) (@List.drop_succ_cons.{0})) (And.intro (@List.drop_zero.{0}) (@List.take_succ_cons.{0}))))) (And.intro (And.intro (And.intro (@List.take_zero.{0}) (And.intro (@List.length_cons.{0}) (@List.length_nil.{0}))) (And.intro (@List.cons_append.{0}) (And.intro (@List.nil_append.{0}) (@List.append_nil.{0})))) (And.intro (And.intro (@List.append_assoc.{0}) (And.intro (@List.all_cons.{0}) (@List.all_nil.{0}))) (And.intro (And.intro (@List.isEmpty_cons.{0}) (@List.set_cons_zero.{0})) (And.intro (@List.set_cons_succ.{0}) (@Bool.and_true))))))) (And.intro (And.intro (And.intro (And.intro (And.intro (@Bool.true_and) (And.intro (@Bool.false_eq_true) (@Bool.and_self))) (And.intro (@Option.isSome_some.{0}) (And.intro (@Option.some.injEq.{0}) (@Option.bind_map.{0, 0, 0})))) (And.intro (And.intro (@beq_self_eq_true.{0}) (And.intro (@not_true_eq_false) (@not_false_eq_true))) (And.intro (And.intro (@Bool.not_true) (@Bool.not_false)) (And.intro (@Nat.zero_le) (@Nat.add_zero))))) (And.intro (And.intro (And.intro (@Nat.zero_add) (And.intro (@Nat.lt_irrefl) (@List.length_append.{0}))) (And.intro (@cond_true.{1}) (And.intro (@cond_false.{1}) (@List.flatMap_cons.{0, 0})))) (And.intro (And.intro (@List.flatMap_nil.{0, 0}) (And.intro (@List.replicate.eq_1.{0}) (@List.replicate.eq_2.{0}))) (And.intro (And.intro (@id_eq.{1}) (@entry.eq_1)) (And.intro (@List.getElem?_toArray.{0}) (@bt_true)))))) (And.intro (And.intro (And.intro (And.intro (@bt_false) (And.intro (@Option.isSome_none.{0}) (@Bool.not_eq_true))) (And.intro (@Bool.not_eq_false) (And.intro (@eq_self.{1}) (@Bool.or_true)))) (And.intro (And.intro (@Bool.true_or) (And.intro (@Bool.or_false) (@Bool.false_or))) (And.intro (And.intro (@Bool.and_false) (@Bool.false_and)) (And.intro (@Bool.not_not) (@frL.eq_1))))) (And.intro (And.intro (And.intro (@frL.eq_2) (And.intro (@Int.toNat_natCast) (@Int.natCast_nonneg))) (And.intro (And.intro (@List.getElem?_map.{0, 0}) (@fieldA.eq_def)) (And.intro (@indexA.eq_def) (@indexAddrA.eq_def)))) (And.intro (And.intro (@loadA.eq_def) (And.intro (@storeA.eq_def) (@wantA_eq))) (And.intro (And.intro (@wantOf_b) (@wantOf_u)) (And.intro (@wantOf_g) (@condA_b))))))))
def S1 := And.intro SS (And.intro @AV.i.eq_1 (And.intro @AV.b.eq_1 (And.intro @AV.undef.eq_1 (And.intro @List.contains_nil.{0} @Bool.false_eq_true))))
def NB := And.intro @thenA_normal (And.intro @thenA_exit (And.intro @thenA_ret (And.intro @blockA_normal (And.intro @blockA_exit @blockA_ret))))
def BN := And.intro @Bool.not_not (And.intro @Bool.and_eq_true (And.intro @Bool.not_eq_eq_eq_not (And.intro @Bool.not_true (And.intro @Bool.not_false (And.intro @Bool.and_true (And.intro @Bool.true_and (And.intro @Bool.or_false (And.intro @Bool.false_or (And.intro @decide_true (And.intro @decide_false (And.intro @bt_true @bt_false)))))))))))
def BN2 := And.intro @Bool.not_eq_eq_eq_not (And.intro @Bool.not_true @Bool.not_false)
def BN3 := And.intro @decide_eq_true_eq (And.intro @decide_eq_false_iff_not (And.intro @beq_iff_eq.{0} (And.intro @bne_iff_ne.{0} (And.intro @beq_eq_false_iff_ne.{0} (And.intro @bne_eq_false_iff_eq.{0} (And.intro @ne_eq.{1} (And.intro @Bool.not_eq_eq_eq_not (And.intro @Bool.not_true (And.intro @Bool.not_false (And.intro @Bool.and_eq_true @Bool.or_eq_false_iff))))))))))

theorem call_a {P : Program} {G : Nat → Option (List PV)} {f : FuncId} {args : List AV} {h h0 : Heap} {r0 : AV} {K : AV → Heap → Prop} (hE : Enters P f) (hc : ACalls P G f args h fun r h' => r = r0 ∧ h' = h0) (hk : K r0 h0) : Enters P f ∧ ACalls P G f args h fun r h' => K r h' :=
  ⟨hE, hc.mono fun r h' e => by rw [e.1, e.2]; exact hk⟩
theorem call_q {P : Program} {G : Nat → Option (List PV)} {f : FuncId} {args : List AV} {h : Heap} {r0 : AV} {K : AV → Prop} (hE : Enters P f) (hc : ACalls P G f args h fun r h' => r = r0 ∧ h' = h) (hk : K r0) : Enters P f ∧ ∃ r, ACalls P G f args h (fun r' h' => r' = r ∧ h' = h) ∧ K r :=
  ⟨hE, r0, hc, hk⟩
end Go.Proofs.Ytkmcecbglomemaa.AM
end

section
set_option linter.unusedVariables false
set_option linter.unusedSimpArgs false
namespace Go.Proofs.Ytkmcecbglomemaa.AM
open Go

/-- Heaps that differ in what stands in blocks alone. -/
def Alike (h h' : Heap) : Prop := h'.length = h.length ∧ ∀ (b : Nat) (bk' : Blk), h'[b]? = some (some bk') → ∃ bk : Blk, h[b]? = some (some bk) ∧ bk.g = bk'.g ∧ (bk.cells = [] ↔ bk'.cells = [])

theorem own_alike {ι : Nat → Nat × Nat} {h h' : Heap} (ha : Alike h h') {k : Nat} (ho : own ι h' k) : own ι h k := by
  obtain ⟨b, bk', q1, q2, q3⟩ := ho
  obtain ⟨bk, p1, p2, p3⟩ := ha.2 b bk' q1
  exact ⟨b, bk, p1, fun e => q2 (p3.mp e), q3⟩

theorem VRel.alike {ι : Nat → Nat × Nat} {h h' : Heap} {w : World} {x : AV} {v : Value} (ha : Alike h h') (hx : VRel ι h w x v) : VRel ι h' w x v := by
  have lv : ∀ b g : Nat, liveAt h' b g → liveAt h b g := by
    rintro b g ⟨bk', q1, q2⟩
    obtain ⟨bk, p1, p2, p3⟩ := ha.2 b bk' q1
    exact ⟨bk, p1, by omega⟩
  have gg : ∀ b g : Nat, (∀ bk : Blk, h[b]? = some (some bk) → g ≤ bk.g) → ∀ bk : Blk, h'[b]? = some (some bk) → g ≤ bk.g := by
    intro b g hg bk' q1
    obtain ⟨bk, p1, p2, p3⟩ := ha.2 b bk' q1
    have := hg bk p1; omega
  have oo : ∀ k, k < w.heap.size → ¬ own ι h k → w.heap[k]? = w.heap[k]? ∧ ¬ own ι h' k := fun k _ ho => ⟨rfl, fun e => ho (own_alike ha e)⟩
  induction hx with
  | p x v hx => exact .p _ _ (hx.mono (Nat.le_refl _) oo)
  | agg cells vs hl hv ih => exact .agg _ _ hl ih
  | tup cells vs hl hv ih => exact .tup _ _ hl ih
  | fn f cells vs hl hv ih => exact .fn _ _ _ hl ih
  | ref b g off sz len A c hn hb hg hv =>
    refine .ref _ _ _ _ _ _ _ hn (by rw [ha.1]; exact hb) (gg b g hg) fun hl => ?_
    rcases hv (lv b g hl) with hz | ⟨hA, hle, ⟨bk0, q0, hne⟩, hcs⟩
    · exact .inl hz
    · obtain ⟨bk', q1, q2⟩ := hl
      obtain ⟨bk, p1, p2, p3⟩ := ha.2 b bk' q1
      rw [p1] at q0
      obtain rfl := Option.some.inj (Option.some.inj q0)
      exact .inr ⟨hA, hle, ⟨bk', q1, fun e => hne (p3.mpr e)⟩, hcs⟩
  | ptr b g off A hb hg hv => exact .ptr _ _ _ _ (by rw [ha.1]; exact hb) (gg b g hg) fun hl => hv (lv b g hl)
  | pin cells blk off hv => exact .pin _ _ _ (hv.mono (Nat.le_refl _) oo)
  | mref b g r hb hg hv => exact .mref _ _ _ (by rw [ha.1]; exact hb) (gg b g hg) fun hl => hv (lv b g hl)

section
variable {P : Program} {G : Nat → Option (List PV)} {h0 : Heap} {s : St}

theorem alike_set {h : Heap} {b j : Nat} {bk : Blk} {x' : AV} (hb : h[b]? = some (some bk)) : Alike h (h.set b (some ⟨bk.g, bk.cells.set j x'⟩)) := by
  refine ⟨by simp, fun c bk' hc => ?_⟩
  rw [List.getElem?_set] at hc
  split at hc
  · rename_i e; subst e
    split at hc
    · obtain rfl := Option.some.inj (Option.some.inj hc)
      exact ⟨bk, hb, rfl, by simp only [← List.length_eq_zero_iff, List.length_set]⟩
    · cases hc
  · exact ⟨bk', hc, rfl, Iff.rfl⟩

/-- A cell of a block is told otherwise. -/
theorem Ghost.cell {b j : Nat} {bk : Blk} {x x' : AV} (hb : s.heap[b]? = some (some bk)) (hx : bk.cells[j]? = some x) (hnm : ∀ es, x ≠ .mp es) (hv : ∀ ι w v, VRel ι s.heap w x v → VRel ι s.heap w x' v) (hbl : h0.length ≤ b) :
    Ghost P G h0 s ⟨s.fr, s.nt, s.heap.set b (some ⟨bk.g, bk.cells.set j x'⟩)⟩ := by
  intro ι a w ι0 w0 hS hs he
  have ha := alike_set (j := j) (x' := x') hb
  have hlo : ∀ (c : Nat) (bk' : Blk), (s.heap.set b (some ⟨bk.g, bk.cells.set j x'⟩))[c]? = some (some bk') → (c = b ∧ bk' = ⟨bk.g, bk.cells.set j x'⟩) ∨ s.heap[c]? = some (some bk') := by
    intro c bk' hc
    rw [List.getElem?_set] at hc
    split at hc
    · rename_i e
      split at hc
      · exact .inl ⟨e.symm, (Option.some.inj (Option.some.inj hc)).symm⟩
      · cases hc
    · exact .inr hc
  have oo : ∀ k, k < w.heap.size → ¬ own ι s.heap k → w.heap[k]? = w.heap[k]? ∧ ¬ own ι (s.heap.set b (some ⟨bk.g, bk.cells.set j x'⟩)) k := fun k _ ho => ⟨rfl, fun e => ho (own_alike ha e)⟩
  refine ⟨ι, ⟨⟨⟨fun c bk' hc hne => ?_, fun c c' k k' q1 q2 n1 n2 e => ?_⟩, fun g cells hg => (hs.hS.gr g cells hg).mono (Nat.le_refl _) oo⟩, fun k y hy => ?_, hs.nt, hs.df⟩, ?_⟩
  · rcases hlo c bk' hc with ⟨rfl, rfl⟩ | hc
    · have hne' : bk.cells ≠ [] := by
        intro e
        rw [e] at hx; simp at hx
      have hB := hs.hS.hr.blk c bk hb hne'
      rcases hB with ⟨cs, ty, p1, p2, p3⟩ | ⟨es, e1, _⟩
      case inr =>
        rw [e1] at hx
        cases j with
        | zero => simp at hx; exact absurd hx.symm (hnm es)
        | succ j => simp at hx
      refine .inl ⟨cs, ty, p1, by simpa using p2, fun i y hy => ?_⟩
      simp only [List.getElem?_set] at hy
      split at hy
      · rename_i e; subst e
        split at hy
        · cases hy
          obtain ⟨v, r1, r2⟩ := p3 j x hx
          exact ⟨v, r1, (hv ι w v r2).alike ha⟩
        · cases hy
      · obtain ⟨v, r1, r2⟩ := p3 i y hy
        exact ⟨v, r1, r2.alike ha⟩
    · exact (hs.hS.hr.blk c bk' hc hne).keep rfl rfl (fun y _ v hv => hv.alike ha) (Nat.le_refl _) oo
  · obtain ⟨k0, p1, p2, p3⟩ := ha.2 c k q1
    obtain ⟨k1, r1, r2, r3⟩ := ha.2 c' k' q2
    exact hs.hS.hr.inj c c' k0 k1 p1 r1 (fun e => n1 (p3.mp e)) (fun e => n2 (r3.mp e)) e
  · obtain ⟨v, p1, p2⟩ := hs.fr k y hy
    exact ⟨v, p1, p2.alike ha⟩
  · refine ⟨he.size, fun k hk ho => ⟨(he.keep k hk ho).1, fun e => (he.keep k hk ho).2 (own_alike ha e)⟩, by rw [ha.1]; exact he.len, fun c bk' hc hq => ?_, he.os, he.output, he.tape, he.drawn⟩
    rcases hlo c bk' hq with ⟨rfl, _⟩ | hq
    · omega
    · exact he.gens c bk' hc hq

end

/-! ### Rows -/

def flatE {α : Type} (e : α → List PV) (l : List α) : List PV := l.flatMap e

theorem flatE_len {α : Type} {e : α → List PV} {sz : Nat} (he : ∀ a, (e a).length = sz) : ∀ l : List α, (flatE e l).length = l.length * sz
  | [] => by simp [flatE]
  | x :: r => by
    have := flatE_len he r
    unfold flatE at this ⊢
    rw [List.flatMap_cons, List.length_append, this, he, List.length_cons, Nat.add_mul]; omega
theorem chunk_rowsE {α : Type} {e : α → List PV} {sz : Nat} (he : ∀ a, (e a).length = sz) : ∀ l : List α, chunk sz l.length (flatE e l) = l.map e
  | [] => rfl
  | x :: r => by
    have := chunk_rowsE he r
    have e1 : flatE e (x :: r) = e x ++ flatE e r := rfl
    rw [List.length_cons, chunk, e1, List.take_left' (he x), List.drop_left' (he x), this]; rfl
theorem purs_p (h : Heap) (n fuel : Nat) : ∀ l : List PV, (∀ x ∈ l, x ≠ .nils) → purs h n fuel (l.map AV.p) = some l
  | [], _ => by unfold purs; rfl
  | x :: r, hx => by
    have ih := purs_p h n fuel r fun y hy => hx y (by simp [hy])
    have h0 := hx x (by simp)
    simp only [List.map_cons]
    unfold purs
    rw [ih]
    have : pur h n fuel (AV.p x) = some x := by
      cases x with
      | nils => exact absurd rfl h0
      | _ => unfold pur; rfl
    rw [this]
theorem avlts_p (m : Nat) (l : List PV) : avlts m (l.map AV.p) := by
  induction l with
  | nil => trivial
  | cons x r ih => exact ⟨trivial, ih⟩

theorem pur_rows {α : Type} {e : α → List PV} {sz : Nat} (he : ∀ a, (e a).length = sz) (hz : ∀ a, ∀ x ∈ e a, x ≠ .nils) {h : Heap} {n fuel b g m : Nat} {l : List α} (hm : m = l.length) (hb : blkAt h b g = some ((flatE e l).map AV.p)) (hn : n ≤ b) :
    pur h n (fuel + 1) (.ref b g 0 sz m) = some (.sl (l.map e)) := by
  subst hm
  unfold pur
  by_cases h0 : l.length = 0
  · rw [if_pos h0]; have := List.eq_nil_of_length_eq_zero h0; subst this; rfl
  · rw [if_neg h0, hb]
    simp only [hn, true_and, Nat.zero_add, List.length_map, flatE_len he, Nat.le_refl, if_true, List.drop_zero]
    rw [List.take_of_length_le (by rw [List.length_map, flatE_len he]; exact Nat.le_refl _), purs_p _ _ _ _ (fun x hx => by
      unfold flatE at hx
      obtain ⟨a, _, ha⟩ := List.mem_flatMap.mp hx
      exact hz a x ha)]
    simp only [Option.map_some, chunk_rowsE he]

theorem EndP_rows {α : Type} {e : α → List PV} {sz : Nat} (he : ∀ a, (e a).length = sz) (hz : ∀ a, ∀ x ∈ e a, x ≠ .nils) {P : Program} {h : Heap} {K : AV → Prop} {x : Exit} {s : St} (hx : x = .normal ∨ x = .ret) {t b g m : Nat} {l : List α} (hm : m = l.length) (hf : s.fr t = some (.ref b g 0 sz m))
    (hb : blkAt s.heap b g = some ((flatE e l).map AV.p)) (hn : h.length ≤ b) (ht : s.heap.take h.length = h) (hle : h.length ≤ s.heap.length) (hk : K (.p (.sl (l.map e)))) : EndP P [.tmp t] h K x s := by
  have key : FinP P [.tmp t] h K s := by
    unfold FinP
    simp only [resA, resL, resA1, hf, lastV, lastA, pur_rows he hz hm hb hn, Option.map_some]
    exact ⟨ht, hle, hk⟩
  rcases hx with rfl | rfl <;> exact key

theorem FinK_tmp {P : Program} {h : Heap} {K : AV → Heap → Prop} {s : St} {t : Nat} {v : AV} (hf : s.fr t = some v) (hl : h.length ≤ s.heap.length) (hk : K v s.heap) : FinK P [.tmp t] h K s := by
  unfold FinK
  refine ⟨hl, ?_⟩
  simp only [resA, resL, resA1, hf]
  exact hk
end Go.Proofs.Ytkmcecbglomemaa.AM
end

section
set_option maxRecDepth 10000
namespace Go.Proofs.Ytkmcecbglomemaa.AM
open Go Go.Proofs
theorem mixed : Try.prog.follows .mixedOrders = true := by kernel_rfl
theorem T2 : tinfo Try.prog 2 = some ⟨.int .i64, 1, 8, some [.int .i64 0]⟩ := by kernel_rfl
theorem T3 : tinfo Try.prog 3 = some ⟨.int .i64, 1, 8, some [.int .i64 0]⟩ := by kernel_rfl
theorem T4 : tinfo Try.prog 4 = some ⟨.bool, 1, 1, some [.bool false]⟩ := by kernel_rfl
theorem T22 : tinfo Try.prog 22 = some ⟨.slice 49, 1, 24, some [.nils]⟩ := by kernel_rfl
theorem T23 : tinfo Try.prog 23 = some ⟨.slice 35, 1, 24, some [.nils]⟩ := by kernel_rfl
theorem T25 : tinfo Try.prog 25 = some ⟨.ptr, 1, 8, some [.nilp]⟩ := by kernel_rfl
theorem T26 : tinfo Try.prog 26 = some ⟨.int .i64, 1, 8, some [.int .i64 0]⟩ := by kernel_rfl
theorem T29 : tinfo Try.prog 29 = some ⟨.ptr, 1, 8, some [.nilp]⟩ := by kernel_rfl
theorem T32 : tinfo Try.prog 32 = some ⟨.slice 55, 1, 24, some [.nils]⟩ := by kernel_rfl
theorem T35 : tinfo Try.prog 35 = some ⟨.struct [(0, 1, 3), (1, 1, 3)], 2, 16, some [.int .i64 0, .int .i64 0]⟩ := by kernel_rfl
theorem T37 : tinfo Try.prog 37 = some ⟨.slice 41, 1, 24, some [.nils]⟩ := by kernel_rfl
theorem T41 : tinfo Try.prog 41 = some ⟨.struct [(0, 1, 3), (1, 1, 3)], 2, 16, some [.int .i64 0, .int .i64 0]⟩ := by kernel_rfl
theorem T45 : tinfo Try.prog 45 = some ⟨.slice 3, 1, 24, some [.nils]⟩ := by kernel_rfl
theorem T49 : tinfo Try.prog 49 = some ⟨.struct [(0, 1, 3), (1, 1, 4), (2, 1, 4)], 3, 16, some [.int .i64 0, .bool false, .bool false]⟩ := by kernel_rfl
theorem T51 : tinfo Try.prog 51 = some ⟨.func, 1, 8, some [.nilf]⟩ := by kernel_rfl
theorem T54 : tinfo Try.prog 54 = some ⟨.struct [(0, 1, 22), (1, 1, 45), (2, 1, 45), (3, 1, 37)], 4, 96, some [.nils, .nils, .nils, .nils]⟩ := by kernel_rfl
theorem T55 : tinfo Try.prog 55 = some ⟨.struct [(0, 1, 3), (1, 1, 4), (2, 1, 4)], 3, 16, some [.int .i64 0, .bool false, .bool false]⟩ := by kernel_rfl
theorem T56 : tinfo Try.prog 56 = some ⟨.slice 61, 1, 24, some [.nils]⟩ := by kernel_rfl
theorem T57 : tinfo Try.prog 57 = some ⟨.slice 64, 1, 24, some [.nils]⟩ := by kernel_rfl
theorem T59 : tinfo Try.prog 59 = some ⟨.struct [(0, 1, 56), (1, 1, 3), (2, 1, 57)], 3, 56, some [.nils, .int .i64 0, .nils]⟩ := by kernel_rfl
theorem T61 : tinfo Try.prog 61 = some ⟨.struct [(0, 1, 3), (1, 1, 4), (2, 1, 4), (3, 1, 3), (4, 1, 3)], 5, 32, some [.int .i64 0, .bool false, .bool false, .int .i64 0, .int .i64 0]⟩ := by kernel_rfl
theorem T64 : tinfo Try.prog 64 = some ⟨.struct [(0, 1, 3), (1, 1, 3)], 2, 16, some [.int .i64 0, .int .i64 0]⟩ := by kernel_rfl
theorem T72 : tinfo Try.prog 72 = some ⟨.func, 1, 8, some [.nilf]⟩ := by kernel_rfl
theorem W41 : intsB Try.prog 41 2 = true := by kernel_rfl
theorem E7 : Enters Try.prog 7 := ⟨_, _, Try.func7, rfl, by kernel_rfl⟩
theorem E8 : Enters Try.prog 8 := ⟨_, _, Try.func8, rfl, by kernel_rfl⟩
theorem E9 : Enters Try.prog 9 := ⟨_, _, Try.func9, rfl, by kernel_rfl⟩
theorem E10 : Enters Try.prog 10 := ⟨_, _, Try.func10, rfl, by kernel_rfl⟩
theorem E11 : Enters Try.prog 11 := ⟨_, _, Try.func11, rfl, by kernel_rfl⟩
theorem E12 : Enters Try.prog 12 := ⟨_, _, Try.func12, rfl, by kernel_rfl⟩
theorem E13 : Enters Try.prog 13 := ⟨_, _, Try.func13, rfl, by kernel_rfl⟩
theorem E14 : Enters Try.prog 14 := ⟨_, _, Try.func14, rfl, by kernel_rfl⟩
theorem E15 : Enters Try.prog 15 := ⟨_, _, Try.func15, rfl, by kernel_rfl⟩
theorem E16 : Enters Try.prog 16 := ⟨_, _, Try.func16, rfl, by kernel_rfl⟩
theorem E17 : Enters Try.prog 17 := ⟨_, _, Try.func17, rfl, by kernel_rfl⟩
theorem E18 : Enters Try.prog 18 := ⟨_, _, Try.func18, rfl, by kernel_rfl⟩
theorem E19 : Enters Try.prog 19 := ⟨_, _, Try.func19, rfl, by kernel_rfl⟩
theorem E20 : Enters Try.prog 20 := ⟨_, _, Try.func20, rfl, by kernel_rfl⟩
theorem E21 : Enters Try.prog 21 := ⟨_, _, Try.func21, rfl, by kernel_rfl⟩
theorem E22 : Enters Try.prog 22 := ⟨_, _, Try.func22, rfl, by kernel_rfl⟩
theorem E23 : Enters Try.prog 23 := ⟨_, _, Try.func23, rfl, by kernel_rfl⟩
theorem E24 : Enters Try.prog 24 := ⟨_, _, Try.func24, rfl, by kernel_rfl⟩
theorem E25 : Enters Try.prog 25 := ⟨_, _, Try.func25, rfl, by kernel_rfl⟩
theorem E26 : Enters Try.prog 26 := ⟨_, _, Try.func26, rfl, by kernel_rfl⟩
theorem E27 : Enters Try.prog 27 := ⟨_, _, Try.func27, rfl, by kernel_rfl⟩
theorem E28 : Enters Try.prog 28 := ⟨_, _, Try.func28, rfl, by kernel_rfl⟩
theorem E29 : Enters Try.prog 29 := ⟨_, _, Try.func29, rfl, by kernel_rfl⟩
theorem E30 : Enters Try.prog 30 := ⟨_, _, Try.func30, rfl, by kernel_rfl⟩
theorem E31 : Enters Try.prog 31 := ⟨_, _, Try.func31, rfl, by kernel_rfl⟩
theorem E32 : Enters Try.prog 32 := ⟨_, _, Try.func32, rfl, by kernel_rfl⟩
theorem E33 : Enters Try.prog 33 := ⟨_, _, Try.func33, rfl, by kernel_rfl⟩
theorem E34 : Enters Try.prog 34 := ⟨_, _, Try.func34, rfl, by kernel_rfl⟩
theorem E35 : Enters Try.prog 35 := ⟨_, _, Try.func35, rfl, by kernel_rfl⟩
theorem E36 : Enters Try.prog 36 := ⟨_, _, Try.func36, rfl, by kernel_rfl⟩
theorem E40 : Enters Try.prog 40 := ⟨_, _, Try.func40, rfl, by kernel_rfl⟩
theorem E43 : Enters Try.prog 43 := ⟨_, _, Try.func43, rfl, by kernel_rfl⟩
theorem E44 : Enters Try.prog 44 := ⟨_, _, Try.func44, rfl, by kernel_rfl⟩
theorem E45 : Enters Try.prog 45 := ⟨_, _, Try.func45, rfl, by kernel_rfl⟩
theorem E56 : Enters Try.prog 56 := ⟨_, _, Try.func56, rfl, by kernel_rfl⟩
end Go.Proofs.Ytkmcecbglomemaa.AM
end

section
set_option linter.unusedVariables false
set_option linter.unusedSimpArgs false
namespace Go.Proofs.Ytkmcecbglomemaa.AM
open Go
section
variable {P : Program} {G : Nat → Option (List PV)} {rl : List String} {h : Heap}
theorem Sim.evoKeepG (hm : P.follows .mixedOrders = true) {f : FuncId} {fn : Func} {c : Code} (hf : P.funcs[f]? = some fn) (hb : fn.body = some c) {args : List AV} {K : AV → Heap → Prop}
    (hnt : args.length ≤ fn.ntmps)
    (H : awp P G rl h c (fun e s => (e = .normal ∨ e = .ret) ∧ ∃ s1, Ghost P G h s s1 ∧ FinK P fn.results.toList h K s1) (entry args fn.ntmps h)) : ACalls P G f args h K := by
  intro ι w vs hS hv
  refine calls_of_wp hf hb ?_
  have hs : Sim P G ι (entry args fn.ntmps h) { tmps := vs ++ Array.replicate (fn.ntmps - vs.size) undef, defers := [] } w := by
    refine ⟨hS, fun k x hx => ?_, ?_, rfl⟩
    · have hk : k < args.length := getElem?_lt hx
      have hk' : k < vs.size := by rw [← hv.1]; exact hk
      exact ⟨vs[k], by rw [Array.getElem?_append_left hk']; simp, hv.2 k x _ hx (by simp)⟩
    · have := hv.1
      simp [entry]; omega
  refine wp_mono (awp_sound hm hS c _ _ ι _ w hs (.refl (Nat.le_refl h.length)) H) fun e a w' ⟨s0, ι0, ⟨he, s', hg, hn1, hr⟩, hs0, hev0⟩ => ?_
  obtain ⟨ι', hs', hev⟩ := hg ι0 a w' ι w hS hs0 hev0
  split at hr
  case h_2 => exact hr.elim
  rename_i r hr'
  obtain ⟨v, hrun, hrv⟩ := resA_sound hs' hr'
  have hpost : a.defers = [] ∧ ∃ v, (results fn a.tmps).run P w' = .ok v w' ∧ ∃ v1 r h' ι', Ending.returned v = .returned v1 ∧ K r h' ∧ SimH P G ι' h' w' ∧ VRel ι' h' w' r v1 ∧ Evo h.length ι h w ι' h' w' :=
    ⟨hs'.df, v, hrun, v, r, s'.heap, ι', rfl, hr, hs'.hS, hrv, hev⟩
  rcases he with rfl | rfl <;> exact hpost

/-- A cut at which the state is told anew, by whatever way of telling. -/
theorem awp_tellG {x y : Code} {Q : Exit → St → Prop} {s : St} (s1 : St) (h1 : ∀ K : St → Prop, (∀ s', Ghost P G h s' s1 → K s') → awp P G rl h x (thenA K Q) s) (h2 : awp P G rl h y Q s1) : awp P G rl h (.seq x y) Q s :=
  awp_cut (fun t => t = s1) (h1 _ fun s' hs => ⟨_, hs, rfl⟩) fun t e => by subst e; exact h2

/-- A cell of a block is told otherwise, whoever made the block. -/
theorem Ghost.cellG {h0 : Heap} {s : St} {b j : Nat} {bk : Blk} {x x' : AV} (hb : s.heap[b]? = some (some bk)) (hx : bk.cells[j]? = some x) (hnm : ∀ es, x ≠ .mp es) (hv : ∀ ι w v, VRel ι s.heap w x v → VRel ι s.heap w x' v) :
    Ghost P G h0 s ⟨s.fr, s.nt, s.heap.set b (some ⟨bk.g, bk.cells.set j x'⟩)⟩ := by
  intro ι a w ι0 w0 hS hs he
  have ha := alike_set (j := j) (x' := x') hb
  have hne' : bk.cells ≠ [] := by
    intro e
    rw [e] at hx; simp at hx
  have hlo : ∀ (c : Nat) (bk' : Blk), (s.heap.set b (some ⟨bk.g, bk.cells.set j x'⟩))[c]? = some (some bk') → (c = b ∧ bk' = ⟨bk.g, bk.cells.set j x'⟩) ∨ s.heap[c]? = some (some bk') := by
    intro c bk' hc
    rw [List.getElem?_set] at hc
    split at hc
    · rename_i e
      split at hc
      · exact .inl ⟨e.symm, (Option.some.inj (Option.some.inj hc)).symm⟩
      · cases hc
    · exact .inr hc
  have oo : ∀ k, k < w.heap.size → ¬ own ι s.heap k → w.heap[k]? = w.heap[k]? ∧ ¬ own ι (s.heap.set b (some ⟨bk.g, bk.cells.set j x'⟩)) k := fun k _ ho => ⟨rfl, fun e => ho (own_alike ha e)⟩
  refine ⟨ι, ⟨⟨⟨fun c bk' hc hne => ?_, fun c c' k k' q1 q2 n1 n2 e => ?_⟩, fun g cells hg => (hs.hS.gr g cells hg).mono (Nat.le_refl _) oo⟩, fun k y hy => ?_, hs.nt, hs.df⟩, ?_⟩
  · rcases hlo c bk' hc with ⟨rfl, rfl⟩ | hc
    · have hB := hs.hS.hr.blk c bk hb hne'
      rcases hB with ⟨cs, ty, p1, p2, p3⟩ | ⟨es, e1, _⟩
      case inr =>
        rw [e1] at hx
        cases j with
        | zero => simp at hx; exact absurd hx.symm (hnm es)
        | succ j => simp at hx
      refine .inl ⟨cs, ty, p1, by simpa using p2, fun i y hy => ?_⟩
      simp only [List.getElem?_set] at hy
      split at hy
      · rename_i e; subst e
        split at hy
        · cases hy
          obtain ⟨v, r1, r2⟩ := p3 j x hx
          exact ⟨v, r1, (hv ι w v r2).alike ha⟩
        · cases hy
      · obtain ⟨v, r1, r2⟩ := p3 i y hy
        exact ⟨v, r1, r2.alike ha⟩
    · exact (hs.hS.hr.blk c bk' hc hne).keep rfl rfl (fun y _ v hv => hv.alike ha) (Nat.le_refl _) oo
  · obtain ⟨k0, p1, p2, p3⟩ := ha.2 c k q1
    obtain ⟨k1, r1, r2, r3⟩ := ha.2 c' k' q2
    exact hs.hS.hr.inj c c' k0 k1 p1 r1 (fun e => n1 (p3.mp e)) (fun e => n2 (r3.mp e)) e
  · obtain ⟨v, p1, p2⟩ := hs.fr k y hy
    exact ⟨v, p1, p2.alike ha⟩
  · refine ⟨he.size, fun k hk ho => ⟨(he.keep k hk ho).1, fun e => (he.keep k hk ho).2 (own_alike ha e)⟩, by rw [ha.1]; exact he.len, fun c bk' hc hq => ?_, he.os, he.output, he.tape, he.drawn⟩
    rcases hlo c bk' hq with ⟨rfl, rfl⟩ | hq
    · obtain ⟨bk0, a1, a2, a3⟩ := he.gens c bk hc hb
      refine ⟨bk0, a1, a2, fun e => ?_⟩
      obtain ⟨b1, b2, b3⟩ := a3 e
      exact ⟨b1, fun _ => by rw [ne_eq, ← List.length_eq_zero_iff, List.length_set, List.length_eq_zero_iff]; exact hne', b3⟩
    · exact he.gens c bk' hc hq

/-- A nil slice in a cell is told as a block of ours that is still empty, whoever made the cell's block. -/
theorem Ghost.adoptCellG {h0 : Heap} {s : St} {b j : Nat} {bk : Blk} (sz : Nat) (hb : s.heap[b]? = some (some bk)) (hx : bk.cells[j]? = some (.p .nils)) :
    Ghost P G h0 s ⟨s.fr, s.nt, (s.heap ++ [some ⟨0, []⟩] : Heap).set b (some ⟨bk.g, bk.cells.set j (.ref s.heap.length 0 0 sz 0)⟩)⟩ := by
  have hlt : b < s.heap.length := getElem?_lt hb
  refine (Ghost.lay (s := s)).trans (Ghost.cellG (s := (⟨s.fr, s.nt, s.heap ++ [some ⟨0, []⟩]⟩ : St)) (b := b) (j := j) (bk := bk) (by rw [List.getElem?_append_left hlt]; exact hb) hx (fun es e => by cases e) (fun ι w v hv => ?_))
  have := hv.nils_inv; subst this
  exact VRel.ref _ _ _ _ _ none 0 (by omega) (by simp) (fun bk hq => Nat.zero_le _) fun _ => Or.inl ⟨rfl, rfl⟩

/-- A row that a cell tells of comes to stand in another block. -/
theorem Ghost.move {h0 : Heap} {s : St} {b j q m off sz n : Nat} {bk bq bm : Blk} (hb : s.heap[b]? = some (some bk)) (hx : bk.cells[j]? = some (.ref m bm.g off sz n)) (hq : s.heap[q]? = some (some bq)) (hm : s.heap[m]? = some (some bm)) (hbq : b ≠ q) (hbm : b ≠ m) (hqm : q ≠ m) :
    Ghost P G h0 s ⟨s.fr, s.nt, ((s.heap.set m none).set q (some ⟨bq.g + 1, bm.cells⟩)).set b (some ⟨bk.g, bk.cells.set j (.ref q (bq.g + 1) off sz n)⟩)⟩ := by
  intro ι a w ι0 w0 hS hs he
  have hbl : b < s.heap.length := getElem?_lt hb
  have hql : q < s.heap.length := getElem?_lt hq
  have hml : m < s.heap.length := getElem?_lt hm
  have hne' : bk.cells ≠ [] := by
    intro e
    rw [e] at hx; simp at hx
  obtain ⟨h', hh'⟩ : ∃ h', h' = ((s.heap.set m none).set q (some ⟨bq.g + 1, bm.cells⟩)).set b (some ⟨bk.g, bk.cells.set j (.ref q (bq.g + 1) off sz n)⟩) := ⟨_, rfl⟩
  obtain ⟨ι', hι⟩ : ∃ ι' : Nat → Nat × Nat, ι' = fun i => if i = q then ι m else ι i := ⟨_, rfl⟩
  have hlen : h'.length = s.heap.length := by rw [hh']; simp
  have hlo : ∀ (c : Nat) (bk' : Blk), h'[c]? = some (some bk') → (c = b ∧ bk' = ⟨bk.g, bk.cells.set j (.ref q (bq.g + 1) off sz n)⟩) ∨ (c = q ∧ bk' = ⟨bq.g + 1, bm.cells⟩) ∨ (c ≠ b ∧ c ≠ q ∧ c ≠ m ∧ s.heap[c]? = some (some bk')) := by
    intro c bk' hc
    rw [hh', List.getElem?_set] at hc
    split at hc
    · rename_i e
      split at hc
      · exact .inl ⟨e.symm, (Option.some.inj (Option.some.inj hc)).symm⟩
      · cases hc
    · rename_i e1
      rw [List.getElem?_set] at hc
      split at hc
      · rename_i e
        split at hc
        · exact .inr (.inl ⟨e.symm, (Option.some.inj (Option.some.inj hc)).symm⟩)
        · cases hc
      · rename_i e2
        rw [List.getElem?_set] at hc
        split at hc
        · (try split at hc) <;> cases hc
        · rename_i e3
          exact .inr (.inr ⟨fun e => e1 e.symm, fun e => e2 e.symm, fun e => e3 e.symm, hc⟩)
  have hιo : ∀ c, c ≠ q → ι' c = ι c := fun c hc => by rw [hι]; simp [hc]
  have hιq : ι' q = ι m := by rw [hι]; simp
  have own_lo : ∀ k, own ι' h' k → own ι s.heap k := by
    rintro k ⟨c, bk', q1, q2, q3⟩
    rcases hlo c bk' q1 with ⟨rfl, rfl⟩ | ⟨rfl, rfl⟩ | ⟨n1, n2, n3, q1⟩
    · exact ⟨c, bk, hb, hne', by rw [← q3, hιo c hbq]⟩
    · exact ⟨m, bm, hm, q2, by rw [← q3, hιq]⟩
    · exact ⟨c, bk', q1, q2, by rw [← q3, hιo c n2]⟩
  have oo : ∀ k, k < w.heap.size → ¬ own ι s.heap k → w.heap[k]? = w.heap[k]? ∧ ¬ own ι' h' k := fun k _ ho => ⟨rfl, fun e => ho (own_lo k e)⟩
  have lv : ∀ (c g : Nat), (∀ bk : Blk, s.heap[c]? = some (some bk) → g ≤ bk.g) → liveAt h' c g → c ≠ q ∧ c ≠ m ∧ liveAt s.heap c g ∧ (∀ bk : Blk, s.heap[c]? = some (some bk) → bk.cells ≠ [] → ∃ bk' : Blk, h'[c]? = some (some bk') ∧ bk'.cells ≠ []) := by
    rintro c g hg ⟨bk', q1, q2⟩
    rcases hlo c bk' q1 with ⟨rfl, rfl⟩ | ⟨rfl, rfl⟩ | ⟨n1, n2, n3, q3⟩
    · refine ⟨hbq, hbm, ⟨bk, hb, q2⟩, fun bk1 hk1 hk2 => ⟨_, q1, ?_⟩⟩
      rw [hb] at hk1; cases hk1
      rw [ne_eq, ← List.length_eq_zero_iff, List.length_set, List.length_eq_zero_iff]; exact hne'
    · have := hg bq hq
      simp only at q2
      omega
    · exact ⟨n2, n3, ⟨bk', q3, q2⟩, fun bk1 hk1 hk2 => ⟨bk', q1, by rw [q3] at hk1; cases hk1; exact hk2⟩⟩
  have gg : ∀ (c g : Nat), (∀ bk : Blk, s.heap[c]? = some (some bk) → g ≤ bk.g) → ∀ bk : Blk, h'[c]? = some (some bk) → g ≤ bk.g := by
    intro c g hg bk' q1
    rcases hlo c bk' q1 with ⟨rfl, rfl⟩ | ⟨rfl, rfl⟩ | ⟨n1, n2, n3, q3⟩
    · exact hg bk hb
    · have := hg bq hq
      simp only; omega
    · exact hg bk' q3
  have vr : ∀ x v, VRel ι s.heap w x v → VRel ι' h' w x v := by
    intro x v hx
    induction hx with
    | p x v hx => exact .p _ _ (hx.mono (Nat.le_refl _) oo)
    | agg cells vs hl hv ih => exact .agg _ _ hl ih
    | tup cells vs hl hv ih => exact .tup _ _ hl ih
    | fn f cells vs hl hv ih => exact .fn _ _ _ hl ih
    | ref c g off sz len A cc hn hb0 hg hv =>
      refine .ref _ _ _ _ _ _ _ hn (by rw [hlen]; exact hb0) (gg c g hg) fun hl => ?_
      obtain ⟨l1, l2, l3, l4⟩ := lv c g hg hl
      rw [hιo c l1]
      rcases hv l3 with hz | ⟨hA, hle, ⟨bk0, q0, hn0⟩, hcs⟩
      · exact .inl hz
      · exact .inr ⟨hA, hle, l4 bk0 q0 hn0, hcs⟩
    | ptr c g off A hb0 hg hv =>
      refine .ptr _ _ _ _ (by rw [hlen]; exact hb0) (gg c g hg) fun hl => ?_
      obtain ⟨l1, l2, l3, l4⟩ := lv c g hg hl
      rw [hιo c l1]
      exact hv l3
    | pin cells blk off hv => exact .pin _ _ _ (hv.mono (Nat.le_refl _) oo)
    | mref c g r hb0 hg hv =>
      refine .mref _ _ _ (by rw [hlen]; exact hb0) (gg c g hg) fun hl => ?_
      obtain ⟨l1, l2, l3, l4⟩ := lv c g hg hl
      rw [hιo c l1]
      exact hv l3
  have hq' : h'[q]? = some (some ⟨bq.g + 1, bm.cells⟩) := by
    rw [hh', List.getElem?_set_ne hbq, List.getElem?_set_self (by simpa using hql)]
  have vm : ∀ v, VRel ι s.heap w (.ref m bm.g off sz n) v → VRel ι' h' w (.ref q (bq.g + 1) off sz n) v := by
    intro v hv
    cases hv with
    | ref _ _ _ _ _ A cc hn hb0 hg hv =>
      refine .ref _ _ _ _ _ _ _ hn (by rw [hlen]; exact hql) (fun bk hk => by rw [hq'] at hk; cases hk; exact Nat.le_refl _) fun _ => ?_
      rw [hιq]
      rcases hv ⟨bm, hm, rfl⟩ with hz | ⟨hA, hle, ⟨bk0, q0, hn0⟩, hcs⟩
      · exact .inl hz
      · rw [hm] at q0; cases q0
        exact .inr ⟨hA, hle, ⟨_, hq', hn0⟩, hcs⟩
  rw [← hh']
  refine ⟨ι', ⟨⟨⟨fun c bk' hc hne => ?_, fun c c' k k' q1 q2 n1 n2 e => ?_⟩, fun g cells hg => (hs.hS.gr g cells hg).mono (Nat.le_refl _) oo⟩, fun k y hy => ?_, hs.nt, hs.df⟩, ?_⟩
  · rcases hlo c bk' hc with ⟨rfl, rfl⟩ | ⟨rfl, rfl⟩ | ⟨e1, e2, e3, hc⟩
    · have hB := hs.hS.hr.blk c bk hb hne'
      rcases hB with ⟨cs, ty, p1, p2, p3⟩ | ⟨es, e1, _⟩
      case inr =>
        rw [e1] at hx
        cases j with
        | zero => simp at hx
        | succ j => simp at hx
      refine .inl ⟨cs, ty, by rw [hιo c hbq]; exact p1, by rw [hιo c hbq]; simpa using p2, fun i y hy => ?_⟩
      rw [hιo c hbq]
      simp only [List.getElem?_set] at hy
      split at hy
      · rename_i e; subst e
        split at hy
        · cases hy
          obtain ⟨v, r1, r2⟩ := p3 j _ hx
          exact ⟨v, r1, vm v r2⟩
        · cases hy
      · obtain ⟨v, r1, r2⟩ := p3 i y hy
        exact ⟨v, r1, vr _ _ r2⟩
    · have := (hs.hS.hr.blk m bm hm hne).keep (b' := c) (ι' := ι') (h' := h') (w' := w) hιq rfl (fun y _ v hv => vr _ _ hv) (Nat.le_refl _) oo
      rcases this with ⟨cs, ty, p1, p2, p3⟩ | ⟨es, e1, p1, p2, p3⟩
      · exact .inl ⟨cs, ty, p1, p2, p3⟩
      · exact .inr ⟨es, e1, p1, p2, p3⟩
    · exact (hs.hS.hr.blk c bk' hc hne).keep (hιo c e2) rfl (fun y _ v hv => vr _ _ hv) (Nat.le_refl _) oo
  · have back : ∀ (c : Nat) (k : Blk), h'[c]? = some (some k) → k.cells ≠ [] → ∃ (d : Nat) (k0 : Blk), s.heap[d]? = some (some k0) ∧ k0.cells ≠ [] ∧ (ι' c).1 = (ι d).1 ∧ d = (if c = q then m else c) := by
      intro c k q1 n1
      rcases hlo c k q1 with ⟨rfl, rfl⟩ | ⟨rfl, rfl⟩ | ⟨e1, e2, e3, hc⟩
      · exact ⟨c, bk, hb, hne', by rw [hιo c hbq], by rw [if_neg hbq]⟩
      · exact ⟨m, bm, hm, n1, by rw [hιq], by rw [if_pos rfl]⟩
      · exact ⟨c, k, hc, n1, by rw [hιo c e2], by rw [if_neg e2]⟩
    obtain ⟨d, k0, a1, a2, a3, a4⟩ := back c k q1 n1
    obtain ⟨d', k1, b1, b2, b3, b4⟩ := back c' k' q2 n2
    have hd := hs.hS.hr.inj d d' k0 k1 a1 b1 a2 b2 (by rw [← a3, ← b3]; exact e)
    have nm : ∀ (c : Nat) (k : Blk), h'[c]? = some (some k) → c ≠ m := by
      intro c k q1
      rcases hlo c k q1 with ⟨rfl, _⟩ | ⟨rfl, _⟩ | ⟨_, _, e3, _⟩
      · exact hbm
      · exact hqm
      · exact e3
    have m1 := nm c k q1
    have m2 := nm c' k' q2
    rw [hd, b4] at a4
    split at a4 <;> split at a4 <;> omega
  · obtain ⟨v, p1, p2⟩ := hs.fr k y hy
    exact ⟨v, p1, vr _ _ p2⟩
  · refine ⟨he.size, fun k hk ho => ⟨(he.keep k hk ho).1, fun e => (he.keep k hk ho).2 (own_lo k e)⟩, by show _ ≤ h'.length; rw [hlen]; exact he.len, fun c bk' hc hk => ?_, he.os, he.output, he.tape, he.drawn⟩
    rcases hlo c bk' hk with ⟨rfl, rfl⟩ | ⟨rfl, rfl⟩ | ⟨e1, e2, e3, hk⟩
    · obtain ⟨bk0, a1, a2, a3⟩ := he.gens c bk hc hb
      refine ⟨bk0, a1, a2, fun e => ?_⟩
      obtain ⟨b1, b2, b3⟩ := a3 e
      exact ⟨by rw [hιo c hbq]; exact b1, fun _ => by rw [ne_eq, ← List.length_eq_zero_iff, List.length_set, List.length_eq_zero_iff]; exact hne', b3⟩
    · obtain ⟨bk0, a1, a2, a3⟩ := he.gens c bq hc hq
      exact ⟨bk0, a1, by simp only; omega, fun e => by simp only at e; omega⟩
    · obtain ⟨bk0, a1, a2, a3⟩ := he.gens c bk' hc hk
      refine ⟨bk0, a1, a2, fun e => ?_⟩
      obtain ⟨b1, b2, b3⟩ := a3 e
      exact ⟨by rw [hιo c e2]; exact b1, b2, b3⟩

/-- A row of ours that nobody writes any more. -/
theorem Ghost.freeze {h0 : Heap} {s : St} {k b sz n : Nat} {bk : Blk} {rows : List (List PV)} {rest : List AV} (hk : s.fr k = some (.ref b bk.g 0 sz n)) (hb : s.heap[b]? = some (some bk)) (hn : n = rows.length) (hrows : ∀ r ∈ rows, r.length = sz) (hsz : sz ≠ 0)
    (hc : bk.cells = (rows.flatMap id).map AV.p ++ rest) :
    Ghost P G h0 s ⟨upd s.fr k (.p (.sl rows)), s.nt, s.heap.set b none⟩ := by
  intro ι a w ι0 w0 hS hs he
  have hbl : b < s.heap.length := getElem?_lt hb
  obtain ⟨h', hh'⟩ : ∃ h', h' = s.heap.set b none := ⟨_, rfl⟩
  have hlen : h'.length = s.heap.length := by rw [hh']; simp
  have hlo : ∀ (c : Nat) (bk' : Blk), h'[c]? = some (some bk') → c ≠ b ∧ s.heap[c]? = some (some bk') := by
    intro c bk' hc
    rw [hh', List.getElem?_set] at hc
    split at hc
    · (try split at hc) <;> cases hc
    · rename_i e; exact ⟨fun e' => e e'.symm, hc⟩
  have hhi : ∀ (c : Nat), c ≠ b → h'[c]? = s.heap[c]? := fun c hc => by rw [hh', List.getElem?_set_ne (fun e => hc e.symm)]
  have own_lo : ∀ k, own ι h' k → own ι s.heap k := by
    rintro k ⟨c, bk', q1, q2, q3⟩
    exact ⟨c, bk', (hlo c bk' q1).2, q2, q3⟩
  have oo : ∀ k, k < w.heap.size → ¬ own ι s.heap k → w.heap[k]? = w.heap[k]? ∧ ¬ own ι h' k := fun k _ ho => ⟨rfl, fun e => ho (own_lo k e)⟩
  have lv : ∀ (c g : Nat), liveAt h' c g → c ≠ b ∧ liveAt s.heap c g := by
    rintro c g ⟨bk', q1, q2⟩
    obtain ⟨n1, q3⟩ := hlo c bk' q1
    exact ⟨n1, bk', q3, q2⟩
  have gg : ∀ (c g : Nat), (∀ bk : Blk, s.heap[c]? = some (some bk) → g ≤ bk.g) → ∀ bk : Blk, h'[c]? = some (some bk) → g ≤ bk.g := fun c g hg bk' q1 => hg bk' (hlo c bk' q1).2
  have vr : ∀ x v, VRel ι s.heap w x v → VRel ι h' w x v := by
    intro x v hx
    induction hx with
    | p x v hx => exact .p _ _ (hx.mono (Nat.le_refl _) oo)
    | agg cells vs hl hv ih => exact .agg _ _ hl ih
    | tup cells vs hl hv ih => exact .tup _ _ hl ih
    | fn f cells vs hl hv ih => exact .fn _ _ _ hl ih
    | ref c g off sz len A cc hn hb0 hg hv =>
      refine .ref _ _ _ _ _ _ _ hn (by rw [hlen]; exact hb0) (gg c g hg) fun hl => ?_
      obtain ⟨l1, l3⟩ := lv c g hl
      rcases hv l3 with hz | ⟨hA, hle, ⟨bk0, q0, hn0⟩, hcs⟩
      · exact .inl hz
      · exact .inr ⟨hA, hle, ⟨bk0, by rw [hhi c l1]; exact q0, hn0⟩, hcs⟩
    | ptr c g off A hb0 hg hv =>
      refine .ptr _ _ _ _ (by rw [hlen]; exact hb0) (gg c g hg) fun hl => ?_
      obtain ⟨l1, l3⟩ := lv c g hl
      exact hv l3
    | pin cells blk off hv => exact .pin _ _ _ (hv.mono (Nat.le_refl _) oo)
    | mref c g r hb0 hg hv =>
      refine .mref _ _ _ (by rw [hlen]; exact hb0) (gg c g hg) fun hl => ?_
      obtain ⟨l1, l3⟩ := lv c g hl
      exact hv l3
  obtain ⟨v, hv1, hv2⟩ := hs.fr k _ hk
  have hnew : VRel ι h' w (.p (.sl rows)) v := by
    obtain ⟨A, c, rfl, hn64, hcase⟩ := hv2.ref_inv ⟨bk, hb, rfl⟩
    by_cases h0 : rows = []
    · subst h0; subst hn
      exact .p _ _ (.slz A c)
    rcases hcase with ⟨hz, _⟩ | ⟨rfl, hle, ⟨bk0, hq0, hne⟩, cs0, ty1, fr1, hcc, hfit⟩
    · rw [hn] at hz; exact absurd (List.eq_nil_of_length_eq_zero hz) h0
    rw [hb] at hq0; cases hq0
    obtain ⟨c0, ty0, hc0, hl0, hv0⟩ := (hs.hS.hr.blk b _ hb hne).cells hcc
    subst hn
    have hnown : ¬ own ι h' (ι b).1 := by
      rintro ⟨d, bk', q1, q2, q3⟩
      obtain ⟨n1, q4⟩ := hlo d bk' q1
      exact n1 (hs.hS.hr.inj d b bk' bk q4 hb q2 hne q3)
    have key : ∀ i j x, get2 rows i j = some x → ∃ u, c0[(ι b).2 + (i * sz + j)]? = some u ∧ VRel ι s.heap w (.p x) u := by
      intro i j x hx
      have hj : j < sz := by
        unfold get2 at hx
        cases hr : rows[i]? with
        | none => rw [hr] at hx; simp at hx
        | some r =>
          rw [hr] at hx
          have h1 := hrows r (List.mem_of_getElem? hr)
          have h2 := getElem?_lt (show r[j]? = some x from hx)
          omega
      have hf := flat_get rows hrows i j hj
      rw [hx] at hf
      refine hv0 _ _ ?_
      rw [hc, List.getElem?_append_left (by rw [List.length_map]; exact getElem?_lt hf), List.getElem?_map, hf]; rfl
    refine .p _ _ (.sl rows (ι b).1 ((ι b).2 + 0) c sz (fun i j => (c0[(ι b).2 + (i * sz + j)]?).getD undef) hle hn64 hnown (lt_heap hc0) hrows (fun i j x hx => ?_) (fun i j x hx => ?_))
    · obtain ⟨u, q1, q2⟩ := key i j x hx
      rw [Nat.add_zero, q1]
      unfold World.cell?
      simp only [hc0, q1]; rfl
    · obtain ⟨u, q1, q2⟩ := key i j x hx
      rw [q1]
      cases q2 with
      | p _ _ q2 => exact q2.mono (Nat.le_refl _) oo
  rw [← hh']
  refine ⟨ι, ⟨⟨⟨fun c bk' hc hne => ?_, fun c c' k k' q1 q2 n1 n2 e => ?_⟩, fun g cells hg => (hs.hS.gr g cells hg).mono (Nat.le_refl _) oo⟩, fun j y hy => ?_, hs.nt, hs.df⟩, ?_⟩
  · exact (hs.hS.hr.blk c bk' (hlo c bk' hc).2 hne).keep rfl rfl (fun y _ v hv => vr _ _ hv) (Nat.le_refl _) oo
  · exact hs.hS.hr.inj c c' k k' (hlo c k q1).2 (hlo c' k' q2).2 n1 n2 e
  · simp only [upd] at hy
    split at hy
    · rename_i e; subst e; cases hy
      exact ⟨v, hv1, hnew⟩
    · obtain ⟨u, p1, p2⟩ := hs.fr j y hy
      exact ⟨u, p1, vr _ _ p2⟩
  · refine ⟨he.size, fun k hk ho => ⟨(he.keep k hk ho).1, fun e => (he.keep k hk ho).2 (own_lo k e)⟩, by show _ ≤ h'.length; rw [hlen]; exact he.len, fun c bk' hc hk => ?_, he.os, he.output, he.tape, he.drawn⟩
    obtain ⟨e1, e2⟩ := hlo c bk' hk
    obtain ⟨bk0, a1, a2, a3⟩ := he.gens c bk' hc e2
    exact ⟨bk0, a1, a2, a3⟩

/-- A place of ours that nobody writes any more. -/
theorem Ghost.freezeP {h0 : Heap} {s : St} {k b : Nat} {bk : Blk} {cells : List PV} (hk : s.fr k = some (.ptr b bk.g 0)) (hb : s.heap[b]? = some (some bk)) (hc : bk.cells = cells.map AV.p) (hne : cells ≠ []) :
    Ghost P G h0 s ⟨upd s.fr k (.pin cells), s.nt, s.heap.set b none⟩ := by
  intro ι a w ι0 w0 hS hs he
  have hbl : b < s.heap.length := getElem?_lt hb
  obtain ⟨h', hh'⟩ : ∃ h', h' = s.heap.set b none := ⟨_, rfl⟩
  have hlen : h'.length = s.heap.length := by rw [hh']; simp
  have hlo : ∀ (c : Nat) (bk' : Blk), h'[c]? = some (some bk') → c ≠ b ∧ s.heap[c]? = some (some bk') := by
    intro c bk' hc
    rw [hh', List.getElem?_set] at hc
    split at hc
    · (try split at hc) <;> cases hc
    · rename_i e; exact ⟨fun e' => e e'.symm, hc⟩
  have hhi : ∀ (c : Nat), c ≠ b → h'[c]? = s.heap[c]? := fun c hc => by rw [hh', List.getElem?_set_ne (fun e => hc e.symm)]
  have own_lo : ∀ k, own ι h' k → own ι s.heap k := by
    rintro k ⟨c, bk', q1, q2, q3⟩
    exact ⟨c, bk', (hlo c bk' q1).2, q2, q3⟩
  have oo : ∀ k, k < w.heap.size → ¬ own ι s.heap k → w.heap[k]? = w.heap[k]? ∧ ¬ own ι h' k := fun k _ ho => ⟨rfl, fun e => ho (own_lo k e)⟩
  have lv : ∀ (c g : Nat), liveAt h' c g → c ≠ b ∧ liveAt s.heap c g := by
    rintro c g ⟨bk', q1, q2⟩
    obtain ⟨n1, q3⟩ := hlo c bk' q1
    exact ⟨n1, bk', q3, q2⟩
  have gg : ∀ (c g : Nat), (∀ bk : Blk, s.heap[c]? = some (some bk) → g ≤ bk.g) → ∀ bk : Blk, h'[c]? = some (some bk) → g ≤ bk.g := fun c g hg bk' q1 => hg bk' (hlo c bk' q1).2
  have vr : ∀ x v, VRel ι s.heap w x v → VRel ι h' w x v := by
    intro x v hx
    induction hx with
    | p x v hx => exact .p _ _ (hx.mono (Nat.le_refl _) oo)
    | agg cells vs hl hv ih => exact .agg _ _ hl ih
    | tup cells vs hl hv ih => exact .tup _ _ hl ih
    | fn f cells vs hl hv ih => exact .fn _ _ _ hl ih
    | ref c g off sz len A cc hn hb0 hg hv =>
      refine .ref _ _ _ _ _ _ _ hn (by rw [hlen]; exact hb0) (gg c g hg) fun hl => ?_
      obtain ⟨l1, l3⟩ := lv c g hl
      rcases hv l3 with hz | ⟨hA, hle, ⟨bk0, q0, hn0⟩, hcs⟩
      · exact .inl hz
      · exact .inr ⟨hA, hle, ⟨bk0, by rw [hhi c l1]; exact q0, hn0⟩, hcs⟩
    | ptr c g off A hb0 hg hv =>
      refine .ptr _ _ _ _ (by rw [hlen]; exact hb0) (gg c g hg) fun hl => ?_
      obtain ⟨l1, l3⟩ := lv c g hl
      exact hv l3
    | pin cells blk off hv => exact .pin _ _ _ (hv.mono (Nat.le_refl _) oo)
    | mref c g r hb0 hg hv =>
      refine .mref _ _ _ (by rw [hlen]; exact hb0) (gg c g hg) fun hl => ?_
      obtain ⟨l1, l3⟩ := lv c g hl
      exact hv l3
  obtain ⟨v, hv1, hv2⟩ := hs.fr k _ hk
  have hnew : VRel ι h' w (.pin cells) v := by
    cases hv2 with
    | ptr _ _ _ A hb0 hg hv =>
    obtain ⟨rfl, cs0, ty1, fr1, hcc⟩ := hv ⟨bk, hb, rfl⟩
    have hne' : bk.cells ≠ [] := by rw [hc]; simpa using hne
    obtain ⟨c0, ty0, hc0, hl0, hv0⟩ := (hs.hS.hr.blk b _ hb hne').cells hcc
    have hnown : ¬ own ι h' (ι b).1 := by
      rintro ⟨d, bk', q1, q2, q3⟩
      obtain ⟨n1, q4⟩ := hlo d bk' q1
      exact n1 (hs.hS.hr.inj d b bk' bk q4 hb q2 hne' q3)
    refine .pin _ _ _ ⟨hnown, lt_heap hc0, fun j x hx => ?_⟩
    obtain ⟨u, q1, q2⟩ := hv0 j (.p x) (by rw [hc, List.getElem?_map, hx]; rfl)
    refine ⟨u, ?_, ?_⟩
    · unfold World.cell?
      simp only [hc0]
      rw [show (ι b).2 + 0 + j = (ι b).2 + j by omega, q1]; rfl
    · cases q2 with
      | p _ _ q2 => exact q2.mono (Nat.le_refl _) oo
  rw [← hh']
  refine ⟨ι, ⟨⟨⟨fun c bk' hc hne => ?_, fun c c' k k' q1 q2 n1 n2 e => ?_⟩, fun g cells hg => (hs.hS.gr g cells hg).mono (Nat.le_refl _) oo⟩, fun j y hy => ?_, hs.nt, hs.df⟩, ?_⟩
  · exact (hs.hS.hr.blk c bk' (hlo c bk' hc).2 hne).keep rfl rfl (fun y _ v hv => vr _ _ hv) (Nat.le_refl _) oo
  · exact hs.hS.hr.inj c c' k k' (hlo c k q1).2 (hlo c' k' q2).2 n1 n2 e
  · simp only [upd] at hy
    split at hy
    · rename_i e; subst e; cases hy
      exact ⟨v, hv1, hnew⟩
    · obtain ⟨u, p1, p2⟩ := hs.fr j y hy
      exact ⟨u, p1, vr _ _ p2⟩
  · refine ⟨he.size, fun k hk ho => ⟨(he.keep k hk ho).1, fun e => (he.keep k hk ho).2 (own_lo k e)⟩, by show _ ≤ h'.length; rw [hlen]; exact he.len, fun c bk' hc hk => ?_, he.os, he.output, he.tape, he.drawn⟩
    obtain ⟨e1, e2⟩ := hlo c bk' hk
    obtain ⟨bk0, a1, a2, a3⟩ := he.gens c bk' hc e2
    exact ⟨bk0, a1, a2, a3⟩

/-- A loop whose state is told by whatever data, and that may change blocks that were there. -/
theorem awp_whileH {σ : Type} {c : Code} {Q : Exit → St → Prop} {s : St} (m : σ → Nat) (nt : Nat) (H : σ → Heap) (l : σ → List (Nat × AV)) (L : σ → List (Option Blk)) (p : σ → Prop) (x0 : σ)
    (hH : ∀ x, (H x).length = h.length ∧ ∀ (b : Nat) (bk : Blk), (H x)[b]? = some (some bk) → h[b]? = some (some bk) ∨ avlts h.length bk.cells) (hi : Sub (H x0) s (l x0) (L x0) nt) (hp : p x0)
    (hb : ∀ x, p x → ∀ K : St → Prop, (∀ s', (∃ y, m y < m x ∧ p y ∧ Sub (H y) s' (l y) (L y) nt) → K s') → awp P G rl h c (thenA K Q) ⟨frL (l x), nt, H x ++ L x⟩) : awp P G rl h (.loop c) Q s := by
  refine awp_loop (fun n s => ∃ x, p x ∧ n = m x ∧ s = ⟨frL (l x), nt, H x ++ L x⟩) (m x0) _ (hi.ghostH (hH x0).1 (hH x0).2) ⟨x0, hp, rfl, rfl⟩ fun n s hI => ?_
  obtain ⟨x, h1, rfl, rfl⟩ := hI
  refine hb x h1 _ fun s' hs => ?_
  obtain ⟨y, h2, h3, h4⟩ := hs
  exact ⟨m y, _, h2, h4.ghostH (hH y).1 (hH y).2, y, h3, rfl, rfl⟩
end
end Go.Proofs.Ytkmcecbglomemaa.AM
end

section
set_option linter.unusedVariables false
set_option linter.unusedSimpArgs false
set_option maxRecDepth 4000
set_option maxHeartbeats 4000000
namespace Go.Proofs.Ytkmcecbglomemaa.AM
open Go Go.Proofs
set_option linter.defProp false in
def TTScC := And.intro T2 (And.intro T3 (And.intro T4 (And.intro T22 (And.intro T25 (And.intro T26 (And.intro T37 (And.intro T41 (And.intro T45 (And.intro T49 T54)))))))))
attribute [local irreducible] awp aops aqops aeops arun arunT arunN
variable {G : Nat → Option (List PV)}

def eSc (s : Sc) : List PV := [.int .i64 s.1, .bool s.2.1, .bool s.2.2]
abbrev aSc (P : List Sc) : AV := .p (.sl (P.map eSc))
def cAct (l : List (Int × Nat)) : List AV := l.flatMap fun a => [.i a.1, .i (a.2 : Int)]
def cDn (l : List Nat) (z : Nat) : List AV := l.map (fun k : Nat => AV.i (k : Int)) ++ List.replicate z (.i 0)
/-- Generations of the list of those that are done and of the actions; cells that are left behind the first. -/
structure Rg where
  gd : Nat
  z : Nat
  ga : Nat
def stB (s : Rs) : Option Blk := some ⟨0, s.st.map AV.i⟩
def runB (n : Nat) (P : List Sc) (g : Rg) (s : Rs) : Option Blk := some ⟨0, [aSc P, .ref n 0 0 1 s.st.length, .ref (n + 2) g.gd 0 1 s.dn.length, .ref (n + 3) g.ga 0 2 s.ac.length]⟩
def dnB (g : Rg) (s : Rs) : Option Blk := some ⟨g.gd, cDn s.dn g.z⟩
def acB (g : Rg) (s : Rs) : Option Blk := some ⟨g.ga, cAct s.ac⟩
/-- A heap with a run behind it, and what is behind the run. -/
def rnH (h : Heap) (P : List Sc) (g : Rg) (s : Rs) (L : Heap) : Heap := h ++ (stB s :: runB h.length P g s :: dnB g s :: acB g s :: L)

theorem cAct_app (l m : List (Int × Nat)) : cAct (l ++ m) = cAct l ++ cAct m := List.flatMap_append
theorem cAct_len (l : List (Int × Nat)) : (cAct l).length = l.length * 2 := by
  unfold cAct
  induction l with
  | nil => rfl
  | cons a l ih => rw [List.flatMap_cons, List.length_append, ih, List.length_cons]; simp; omega
theorem cDn_len (l : List Nat) (z : Nat) : (cDn l z).length = l.length + z := by simp [cDn]
theorem cAct_avl (l : List (Int × Nat)) (n : Nat) : avlts n (cAct l) := by
  unfold cAct
  induction l with
  | nil => exact trivial
  | cons a l ih => exact ⟨trivial, trivial, ih⟩
theorem avlts_ns (n : Nat) : ∀ l : List Nat, avlts n (l.map fun k : Nat => AV.i (k : Int))
  | [] => trivial
  | x :: l => ⟨trivial, avlts_ns n l⟩
theorem avlts_i (n : Nat) : ∀ l : List Int, avlts n (l.map AV.i)
  | [] => trivial
  | x :: l => ⟨trivial, avlts_i n l⟩
theorem avlts_cat {n : Nat} : ∀ {l m : List AV}, avlts n l → avlts n m → avlts n (l ++ m)
  | [], _, _, h => h
  | x :: l, m, h1, h2 => ⟨h1.1, avlts_cat h1.2 h2⟩
theorem avlts_rep (n : Nat) : ∀ z : Nat, avlts n (List.replicate z (AV.i 0))
  | 0 => trivial
  | z + 1 => ⟨trivial, avlts_rep n z⟩
theorem cDn_avl (l : List Nat) (z n : Nat) : avlts n (cDn l z) := avlts_cat (avlts_ns n l) (avlts_rep n z)

section
variable {h : Heap} {P : List Sc} {g : Rg} {s : Rs} {L : Heap}
theorem rn_len : (rnH h P g s L).length = h.length + (L.length + 4) := by simp [rnH]
theorem rn_app (M : Heap) : rnH h P g s L ++ M = rnH h P g s (L ++ M) := by unfold rnH; rw [List.append_assoc]; rfl
theorem rn_st : (rnH h P g s L)[h.length]? = some (stB s) := by unfold rnH; rw [get_app0]; rfl
theorem rn_run : (rnH h P g s L)[h.length + 1]? = some (runB h.length P g s) := by unfold rnH; rw [get_app]; rfl
theorem rn_dn : (rnH h P g s L)[h.length + 2]? = some (dnB g s) := by unfold rnH; rw [get_app]; rfl
theorem rn_ac : (rnH h P g s L)[h.length + 3]? = some (acB g s) := by unfold rnH; rw [get_app]; rfl
theorem rn_at (i : Nat) : (rnH h P g s L)[h.length + (4 + i)]? = L[i]? := by unfold rnH; rw [get_app]; rw [show 4 + i = i + 1 + 1 + 1 + 1 by omega]; rfl
theorem rn_set (i : Nat) (x : Option Blk) : (rnH h P g s L).set (h.length + (4 + i)) x = rnH h P g s (L.set i x) := by unfold rnH; rw [set_app, show 4 + i = i + 1 + 1 + 1 + 1 by omega]; rfl
theorem rn_sst (st' : List Int) (e : st'.length = s.st.length) : (rnH h P g s L).set h.length (some ⟨0, st'.map AV.i⟩) = rnH h P g ⟨st', s.dn, s.ac⟩ L := by
  unfold rnH; rw [set_app0]; unfold runB stB dnB acB; rw [e]; rfl
theorem rn_take : (rnH h P g s L).take (h.length + (L.length + 4)) = rnH h P g s L := by rw [← rn_len (h := h) (P := P) (g := g) (s := s) (L := L), List.take_length]
theorem rn_takeM (M : Heap) : (rnH h P g s (L ++ M)).take (h.length + (L.length + 4)) = rnH h P g s L := by
  rw [← rn_app, ← rn_len (h := h) (P := P) (g := g) (s := s) (L := L), List.take_left']; rfl
theorem rn_keep {g0 : Rg} {s0 : Rs} (i : Nat) (bk : Blk) (hi : (rnH h P g s L)[i]? = some (some bk)) : (rnH h P g0 s0 L)[i]? = some (some bk) ∨ ∀ x, x ∈ bk.cells → AVlt (h.length + (L.length + 4)) x := by
  unfold rnH at hi ⊢
  rcases Nat.lt_or_ge i h.length with hl | hl
  · rw [List.getElem?_append_left hl] at hi ⊢; exact .inl hi
  rw [List.getElem?_append_right hl] at hi ⊢
  generalize i - h.length = j at hi ⊢
  match j, hi with
  | 0, hi => simp [stB] at hi; subst hi; exact .inr (avlts_lt _ (avlts_i _ _))
  | 1, hi => simp [runB] at hi; subst hi; exact .inr (avlts_lt _ ⟨trivial, by simp only [avlt]; omega, by simp only [avlt]; omega, by simp only [avlt]; omega, trivial⟩)
  | 2, hi => simp [dnB] at hi; subst hi; exact .inr (avlts_lt _ (cDn_avl _ _ _))
  | 3, hi => simp [acB] at hi; subst hi; exact .inr (avlts_lt _ (cAct_avl _ _))
  | j + 4, hi => exact .inl (by simpa using hi)
end

theorem rowSc {P : List Sc} {i : Nat} {s : Sc} (h : P[i]? = some s) : (P.map eSc)[i]? = some [.int .i64 s.1, .bool s.2.1, .bool s.2.2] := by simp [h, eSc]
theorem dropSt {l : List Int} {i : Nat} {x : Int} (h : l[i]? = some x) : (l.map AV.i).drop i = .i x :: (l.map AV.i).drop (i + 1) := by
  rw [List.drop_eq_getElem_cons (by rw [List.length_map]; exact (List.getElem?_eq_some_iff.mp h).1)]
  simp [(List.getElem?_eq_some_iff.mp h).2]

section
variable {h : Heap} {P : List Sc} {g : Rg} {s : Rs} {L : Heap}
theorem wrong_calls (i : Int) : ACalls Try.prog G 22 [.ptr (h.length + 1) 0 0, .i i] (rnH h P g s L) (fun r h' => r = .i (if i < 0 ∨ (P.length : Int) ≤ i then 1 else 0) ∧ h' = rnH h P g s L) := by
  by_cases c1 : i < 0
  · rw [if_pos (.inl c1)]
    refine acalls_pure (rl := []) mixed Try.func22 rfl (rs := [.tmp 4]) rfl Try.ntmps22 (by simp) ?_
    repeat' (first | ((first | refine aops_nil ?_ | refine aqops_nil ?_); (try simp only [NB])) | ((repeat ((fail_if_success (refine hK _ ?_)); clear hK K)); refine hK _ ?_; clear hK K) | ((first | refine aops_k fun K1 hK1 => ?_ | refine aqops_k fun K1 hK1 => ?_ | refine awp_cond_k fun A B hA hB => ?_); simp only [S1, simprocAttr, TTScC, c1]; first | (refine hK1 _ ?_; clear hK1 K1) | ((first | refine hA ?_ | refine hB ?_); clear hA hB A B) | (refine join_x (v := ?_) (fun hg hk9 => ?_) ?_; rotate_left; (focus (try ((try simp only [BN] at hg); simp only [S1, simprocAttr, TTScC, c1, hg] at hk9 ⊢)); first | exact hk9); (refine hK1 _ ?_; clear hK1 K1)) | (((first | (refine ⟨fun hg => hA ?_, fun hg => hB ?_⟩ <;> clear hA hB A B) | refine ⟨fun hg => ?_, fun hg => ?_⟩) <;> (try simp only [BN2] at hg) <;> (try simp only [hg, cond_true, cond_false])) <;> (try (refine hK1 _ ?_; clear hK1 K1)) <;> (try simp only [BN3] at hg))) | (refine awp_seq_k fun K hK => ?_) | ((first | refine awp_region ?_ | refine awp_draw (by kernel_rfl) ?_ | refine awp_block ?_ | refine awp_exit ?_ | refine awp_skip ?_ | refine awp_ret ?_); (try simp only [NB, simprocAttr])))
    all_goals simp only [EndP, FinP, resA, resL, resA1, lastV, lastA, lastAs, pur, purs, take_app, List.take_length, S1, simprocAttr, TTScC, Nat.le_add_right, Nat.le_refl, rn_len, rn_take]
  by_cases c2 : (P.length : Int) ≤ i
  · rw [if_pos (.inr c2)]
    refine acalls_pure (rl := []) mixed Try.func22 rfl (rs := [.tmp 4]) rfl Try.ntmps22 (by simp) ?_
    repeat' (first | ((first | refine aops_nil ?_ | refine aqops_nil ?_); (try simp only [NB])) | ((repeat ((fail_if_success (refine hK _ ?_)); clear hK K)); refine hK _ ?_; clear hK K) | ((first | refine aops_k fun K1 hK1 => ?_ | refine aqops_k fun K1 hK1 => ?_ | refine awp_cond_k fun A B hA hB => ?_); simp only [S1, simprocAttr, TTScC, c1, c2, rn_run, runB, List.length_map]; first | (refine hK1 _ ?_; clear hK1 K1) | ((first | refine hA ?_ | refine hB ?_); clear hA hB A B) | (refine join_x (v := ?_) (fun hg hk9 => ?_) ?_; rotate_left; (focus (try ((try simp only [BN] at hg); simp only [S1, simprocAttr, TTScC, c1, c2, rn_run, runB, List.length_map, hg] at hk9 ⊢)); first | exact hk9); (refine hK1 _ ?_; clear hK1 K1)) | (((first | (refine ⟨fun hg => hA ?_, fun hg => hB ?_⟩ <;> clear hA hB A B) | refine ⟨fun hg => ?_, fun hg => ?_⟩) <;> (try simp only [BN2] at hg) <;> (try simp only [hg, cond_true, cond_false])) <;> (try (refine hK1 _ ?_; clear hK1 K1)) <;> (try simp only [BN3] at hg))) | (refine awp_seq_k fun K hK => ?_) | ((first | refine awp_region ?_ | refine awp_draw (by kernel_rfl) ?_ | refine awp_block ?_ | refine awp_exit ?_ | refine awp_skip ?_ | refine awp_ret ?_); (try simp only [NB, simprocAttr])))
    all_goals simp only [EndP, FinP, resA, resL, resA1, lastV, lastA, lastAs, pur, purs, take_app, List.take_length, S1, simprocAttr, TTScC, Nat.le_add_right, Nat.le_refl, rn_len, rn_take]
  · rw [if_neg (by omega)]
    refine acalls_pure (rl := []) mixed Try.func22 rfl (rs := [.tmp 4]) rfl Try.ntmps22 (by simp) ?_
    repeat' (first | ((first | refine aops_nil ?_ | refine aqops_nil ?_); (try simp only [NB])) | ((repeat ((fail_if_success (refine hK _ ?_)); clear hK K)); refine hK _ ?_; clear hK K) | ((first | refine aops_k fun K1 hK1 => ?_ | refine aqops_k fun K1 hK1 => ?_ | refine awp_cond_k fun A B hA hB => ?_); simp only [S1, simprocAttr, TTScC, c1, c2, rn_run, runB, List.length_map]; first | (refine hK1 _ ?_; clear hK1 K1) | ((first | refine hA ?_ | refine hB ?_); clear hA hB A B) | (refine join_x (v := ?_) (fun hg hk9 => ?_) ?_; rotate_left; (focus (try ((try simp only [BN] at hg); simp only [S1, simprocAttr, TTScC, c1, c2, rn_run, runB, List.length_map, hg] at hk9 ⊢)); first | exact hk9); (refine hK1 _ ?_; clear hK1 K1)) | (((first | (refine ⟨fun hg => hA ?_, fun hg => hB ?_⟩ <;> clear hA hB A B) | refine ⟨fun hg => ?_, fun hg => ?_⟩) <;> (try simp only [BN2] at hg) <;> (try simp only [hg, cond_true, cond_false])) <;> (try (refine hK1 _ ?_; clear hK1 K1)) <;> (try simp only [BN3] at hg))) | (refine awp_seq_k fun K hK => ?_) | ((first | refine awp_region ?_ | refine awp_draw (by kernel_rfl) ?_ | refine awp_block ?_ | refine awp_exit ?_ | refine awp_skip ?_ | refine awp_ret ?_); (try simp only [NB, simprocAttr])))
    all_goals simp only [EndP, FinP, resA, resL, resA1, lastV, lastA, lastAs, pur, purs, take_app, List.take_length, S1, simprocAttr, TTScC, Nat.le_add_right, Nat.le_refl, rn_len, rn_take]

theorem act_calls (hn : s.ac.length ≤ 1000) (what : Int) (i : Nat) : ACalls Try.prog G 32 [.ptr (h.length + 1) 0 0, .i what, .i (i : Int)] (rnH h P g s L) (fun r h' => r = .undef ∧ h' = rnH h P ⟨g.gd, g.z, g.ga + 1⟩ ⟨s.st, s.dn, s.ac ++ [(what, i)]⟩ L) := by
  have hmax : s.ac.length + 1 ≤ maxCount := by unfold maxCount; omega
  have hcl := cAct_len s.ac
  have hs : ((rnH h P g s L).set (h.length + 3) (some ⟨g.ga + 1, cAct s.ac ++ [.i what, .i (i : Int)]⟩)).set (h.length + 1) (some ⟨0, [aSc P, .ref h.length 0 0 1 s.st.length, .ref (h.length + 2) g.gd 0 1 s.dn.length, .ref (h.length + 3) (g.ga + 1) 0 2 (s.ac.length + 1)]⟩) = rnH h P ⟨g.gd, g.z, g.ga + 1⟩ ⟨s.st, s.dn, s.ac ++ [(what, i)]⟩ L := by
    unfold rnH
    rw [set_app, set_app]
    unfold runB stB dnB acB
    rw [cAct_app, List.length_append]; rfl
  have hr2 : ∀ x : Option Blk, ((rnH h P g s L).set (h.length + 3) x)[h.length + 1]? = some (runB h.length P g s) := fun x => by rw [List.getElem?_set_ne (by omega)]; exact rn_run
  refine acalls_heap (rl := []) mixed Try.func32 rfl (rs := []) rfl Try.ntmps32 (by simp) ?_
  repeat' (first | ((first | refine aops_nil ?_ | refine aqops_nil ?_); (try simp only [NB])) | ((repeat ((fail_if_success (refine hK _ ?_)); clear hK K)); refine hK _ ?_; clear hK K) | ((first | refine aops_k fun K1 hK1 => ?_ | refine aqops_k fun K1 hK1 => ?_ | refine awp_cond_k fun A B hA hB => ?_); simp only [S1, simprocAttr, TTScC, rn_run, rn_ac, hr2, runB, acB, hmax, hcl, hs, Nat.zero_add, List.drop_zero]; first | (refine hK1 _ ?_; clear hK1 K1) | ((first | refine hA ?_ | refine hB ?_); clear hA hB A B) | (((first | (refine ⟨fun hg => hA ?_, fun hg => hB ?_⟩ <;> clear hA hB A B) | refine ⟨fun hg => ?_, fun hg => ?_⟩) <;> (try simp only [BN2] at hg) <;> (try simp only [hg, cond_true, cond_false])) <;> (try (refine hK1 _ ?_; clear hK1 K1)) <;> (try simp only [BN3] at hg))) | (refine awp_seq_k fun K hK => ?_) | ((first | refine awp_region ?_ | refine awp_draw (by kernel_rfl) ?_ | refine awp_block ?_ | refine awp_exit ?_ | refine awp_skip ?_ | refine awp_ret ?_); (try simp only [NB, simprocAttr])))
  all_goals simp only [EndH, FinH, resA, resL, resA1, lastV, lastA, lastAs, pur, purs, rn_len, rn_take, S1, simprocAttr, Nat.le_add_right, Nat.le_refl]
  all_goals first | exact rn_keep | exact ⟨rn_keep, rfl⟩ | exact ⟨rn_keep, rfl, rfl⟩
end
end Go.Proofs.Ytkmcecbglomemaa.AM
end
