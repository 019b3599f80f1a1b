/- The abstract machine, part K: regions that ask for an order. -/
import Derived.Test.YtelljholenkckaaDoorAmJ
set_option linter.unusedVariables false
set_option linter.unusedSimpArgs false
namespace Go.Proofs.YtelljholenkckaaDoor.AM
open Go

section
variable {P : Program} {G : Nat → Option (List PV)} {rl : List String} {ops : Array Oper} {md : Region.Mode}

theorem evals_congr {ρ ρ' : Operand → Option AV} : ∀ {l : List Operand}, (∀ x ∈ l, ρ x = ρ' x) → evals ρ l = evals ρ' l
  | [], _ => rfl
  | x :: r, h => by simp only [evals]; rw [h x (by simp), evals_congr (l := r) (fun y hy => h y (by simp [hy]))]

theorem opA_congr {o : Oper} {ρ ρ' : Operand → Option AV} {h : Heap} (hc : ∀ x ∈ o.op.operands, ρ x = ρ' x) : opA P rl o ρ h = opA P rl o ρ' h := by
  obtain ⟨dst, op, type, pos, after, guard⟩ := o
  simp only at hc
  cases op with
  | move x => simp only [opA]; rw [hc x (by simp [Op.operands])]
  | assign x => simp only [opA]; rw [hc x (by simp [Op.operands])]
  | pick c x y => simp only [opA]; rw [hc c (by simp [Op.operands]), hc x (by simp [Op.operands]), hc y (by simp [Op.operands])]
  | alloc t => rfl
  | box t x => simp only [opA]; rw [hc x (by simp [Op.operands])]
  | build t ps =>
    have : (ps.toList.map fun q => (q.1, ρ q.2)) = (ps.toList.map fun q => (q.1, ρ' q.2)) := List.map_congr_left fun q hq => by
      rw [hc q.2 (by simp only [Op.operands, List.mem_toArray, List.mem_map]; exact ⟨q, hq, rfl⟩)]
    simp only [opA, this]
  | buildSlice t n ps =>
    have : (ps.toList.map fun q => (q.1, ρ q.2)) = (ps.toList.map fun q => (q.1, ρ' q.2)) := List.map_congr_left fun q hq => by
      rw [hc q.2 (by simp only [Op.operands, List.mem_toArray, List.mem_map]; exact ⟨q, hq, rfl⟩)]
    simp only [opA, this]
  | load t x => simp only [opA]; rw [hc x (by simp [Op.operands])]
  | store t x y => simp only [opA]; rw [hc x (by simp [Op.operands]), hc y (by simp [Op.operands])]
  | nilCheck x => simp only [opA]; rw [hc x (by simp [Op.operands])]
  | binOp b t x y yt => simp only [opA]; rw [hc x (by simp [Op.operands]), hc y (by simp [Op.operands])]
  | unOp u t x => simp only [opA]; rw [hc x (by simp [Op.operands])]
  | convert a b x => simp only [opA]; rw [hc x (by simp [Op.operands])]
  | makeFunc fn first captured =>
    have : evals ρ captured.toList = evals ρ' captured.toList := evals_congr fun x hx => hc x (by simp only [Op.operands, Array.mem_append]; exact .inr (by simpa using hx))
    cases fn <;> simp only [opA, this]
  | slice t x lo hi mx =>
    have h1 : ρ x = ρ' x := hc x (by simp [Op.operands])
    have h2 : lo.map ρ = lo.map ρ' := by cases lo with
      | none => rfl
      | some l => simp [hc l (by simp [Op.operands])]
    have h3 : hi.map ρ = hi.map ρ' := by cases hi with
      | none => rfl
      | some l => simp [hc l (by simp [Op.operands])]
    simp only [opA, h1, h2, h3]
  | fieldAddr t x f => simp only [opA]; rw [hc x (by simp [Op.operands])]
  | field t x f => simp only [opA]; rw [hc x (by simp [Op.operands])]
  | indexAddr t x y => simp only [opA]; rw [hc x (by simp [Op.operands]), hc y (by simp [Op.operands])]
  | index t x y => simp only [opA]; rw [hc x (by simp [Op.operands]), hc y (by simp [Op.operands])]
  | extract x i => simp only [opA]; rw [hc x (by simp [Op.operands])]
  | call c =>
    have : evals ρ c.args.toList = evals ρ' c.args.toList := evals_congr fun x hx => hc x (by simp only [Op.operands, Call.operands, Array.mem_append]; exact .inr (by simpa using hx))
    simp only [opA, this]
  | _ => rfl

/-- What one quiet operation yields. -/
def AQ (P : Program) (G : Nat → Option (List PV)) (rl : List String) (o : Oper) (s : St) (v : AV) : Prop :=
  match callOf o with
  | some (f, args) => ∃ g caps xs, evalA G s f = some (.fn g caps) ∧ evals (evalA G s) args.toList = some xs ∧ Enters P g ∧ ACalls P G g (xs ++ caps) s.heap fun r' h' => r' = v ∧ h' = s.heap
  | none => opA P rl o (evalA G s) s.heap = some (v, s.heap)

def YieldsA (P : Program) (G : Nat → Option (List PV)) (rl : List String) (ops : Array Oper) (o : Oper) (v : AV) (s : St) : Prop :=
  (wantA ops o s = some true ∧ AQ P G rl o s v) ∨ (wantA ops o s = some false ∧ v = .undef)

theorem aquiet_iff {o : Oper} {K : St → Prop} {s : St} : aquiet P G rl o K s ↔ ∃ v, AQ P G rl o s v ∧ K (s.put o.dst v) := by
  unfold aquiet AQ
  cases hq : callOf o with
  | some q =>
    obtain ⟨f, args⟩ := q
    dsimp only
    split
    · rename_i g caps xs hf hx
      constructor
      · rintro ⟨he, r, hc, hk⟩
        exact ⟨r, ⟨g, caps, xs, hf, hx, he, hc⟩, hk⟩
      · rintro ⟨r, ⟨g', caps', xs', hf', hx', he, hc⟩, hk⟩
        rw [hf] at hf'; cases hf'
        rw [hx] at hx'; cases hx'
        exact ⟨he, r, hc, hk⟩
    · rename_i hn
      constructor
      · exact fun h => h.elim
      · rintro ⟨r, ⟨g', caps', xs', hf', hx', he, hc⟩, hk⟩
        exact (hn _ _ _ hf' hx').elim
  | none =>
    dsimp only
    cases hop : opA P rl o (evalA G s) s.heap with
    | none =>
      constructor
      · exact fun h => h.elim
      · rintro ⟨v, hv, hk⟩; cases hv
    | some q =>
      obtain ⟨r, h'⟩ := q
      constructor
      · rintro ⟨rfl, hk⟩; exact ⟨r, rfl, hk⟩
      · rintro ⟨v, hv, hk⟩
        simp only [Option.some.injEq, Prod.mk.injEq] at hv
        obtain ⟨rfl, rfl⟩ := hv
        exact ⟨rfl, hk⟩

theorem aqop_iff {o : Oper} {K : St → Prop} {s : St} : aqop P G rl ops o K s ↔ ∃ v, YieldsA P G rl ops o v s ∧ K (s.put o.dst v) := by
  unfold aqop YieldsA
  cases hw : wantA ops o s with
  | none =>
    constructor
    · exact fun h => h.elim
    · rintro ⟨v, ⟨h1, h2⟩ | ⟨h1, rfl⟩, h3⟩ <;> cases h1
  | some b =>
    dsimp only
    cases b with
    | true =>
      constructor
      · rintro ⟨h1, _⟩
        obtain ⟨v, h3, h4⟩ := aquiet_iff.mp (h1 rfl)
        exact ⟨v, .inl ⟨rfl, h3⟩, h4⟩
      · rintro ⟨v, ⟨_, h2⟩ | ⟨h1, _⟩, h3⟩
        · exact ⟨fun _ => aquiet_iff.mpr ⟨v, h2, h3⟩, fun e => (by cases e)⟩
        · cases h1
    | false =>
      constructor
      · rintro ⟨_, h2⟩
        exact ⟨.undef, .inr ⟨rfl, rfl⟩, h2 rfl⟩
      · rintro ⟨v, ⟨h1, _⟩ | ⟨_, rfl⟩, h3⟩
        · cases h1
        · exact ⟨fun e => (by cases e), fun _ => h3⟩

theorem evalA_put {s : St} {d : Option Nat} {v : AV} {x : Operand} (h : ∀ t, d = some t → x ≠ .tmp t) : evalA G (s.put d v) x = evalA G s x := by
  cases x with
  | tmp t =>
    cases d with
    | none => rfl
    | some d =>
      have hne : t ≠ d := fun e => h d rfl (by rw [e])
      simp only [evalA, St.put]
      split
      · simp [upd, hne]
      · rfl
  | _ => rfl

theorem fr_put {s : St} {d : Option Nat} {v : AV} {t : Nat} (h : ∀ e, d = some e → e ≠ t) : (s.put d v).fr t = s.fr t := by
  cases d with
  | none => rfl
  | some d =>
    have hne : t ≠ d := fun e => h d rfl e.symm
    simp only [St.put]
    split
    · simp [upd, hne]
    · rfl

theorem looks_op {o : Oper} {x : Operand} {t : Nat} (hx : x ∈ o.op.operands) (ht : x = .tmp t) : t ∈ o.looksAt ops := by
  subst ht
  simp only [Oper.looksAt, List.mem_append, List.mem_filterMap]
  exact .inl ⟨.tmp t, by simpa using hx, rfl⟩

theorem AQ_put {o : Oper} {s : St} {d : Option Nat} {u v : AV} (hd : ∀ t, d = some t → t ∉ o.looksAt ops) : AQ P G rl o (s.put d u) v ↔ AQ P G rl o s v := by
  have hev : ∀ x ∈ o.op.operands, evalA G (s.put d u) x = evalA G s x := fun x hx => evalA_put fun t ht e => hd t ht (looks_op hx e)
  unfold AQ
  cases hq : callOf o with
  | some q =>
    obtain ⟨f, args⟩ := q
    obtain ⟨ats, ho⟩ := callOf_some hq
    rw [ho] at hev
    have h1 : evalA G (s.put d u) f = evalA G s f := hev f (by simp [Op.operands, Call.operands])
    have h2 : evals (evalA G (s.put d u)) args.toList = evals (evalA G s) args.toList := evals_congr fun x hx => hev x (by simp only [Op.operands, Call.operands, Array.mem_append]; exact .inr (by simpa using hx))
    dsimp only
    rw [h1, h2, St.put_heap]
  | none =>
    dsimp only
    rw [opA_congr hev, St.put_heap]

theorem wantA_put {o : Oper} {s : St} {d : Option Nat} {u : AV} (hd : ∀ t, d = some t → t ∉ o.looksAt ops) : wantA ops o (s.put d u) = wantA ops o s := by
  unfold wantA
  cases hg : o.guard with
  | none => rfl
  | some q =>
    obtain ⟨j, want⟩ := q
    have : guardA ops (s.put d u) j = guardA ops s j := by
      unfold guardA
      cases hq : (ops[j]?).bind (·.dst) with
      | none => rfl
      | some t =>
        simp only [Option.bind_some]
        refine fr_put fun e he heq => hd e he ?_
        simp [Oper.looksAt, hg, hq, heq]
    simp only [this]

theorem YieldsA_put {o : Oper} {s : St} {d : Option Nat} {u v : AV} (hd : ∀ t, d = some t → t ∉ o.looksAt ops) : YieldsA P G rl ops o v (s.put d u) ↔ YieldsA P G rl ops o v s := by
  unfold YieldsA
  rw [wantA_put hd, AQ_put hd]

theorem St.put_comm (s : St) {x y : Option Nat} (v u : AV) (h : ∀ d, x = some d → y ≠ some d) : (s.put x v).put y u = (s.put y u).put x v := by
  cases x with
  | none => rfl
  | some d =>
    cases y with
    | none => rfl
    | some e =>
      have hne : d ≠ e := fun he => h d rfl (he ▸ rfl)
      simp only [St.put]
      by_cases h1 : d < s.nt <;> by_cases h2 : e < s.nt <;> simp only [h1, h2, if_true, if_false]
      congr 1
      funext k
      simp only [upd]
      by_cases k1 : k = d <;> by_cases k2 : k = e <;> simp_all

def aqOp (P : Program) (G : Nat → Option (List PV)) (rl : List String) (ops : Array Oper) (i : Nat) (K : St → Prop) (s : St) : Prop :=
  match ops[i]? with
  | none => K s
  | some o => aqop P G rl ops o K s

theorem aqOp_mono {i : Nat} {s : St} {K K' : St → Prop} (h : ∀ s, K s → K' s) (hh : aqOp P G rl ops i K s) : aqOp P G rl ops i K' s := by
  unfold aqOp at *
  split
  · exact h _ (by simpa [*] using hh)
  · rename_i o ho
    simp only [ho] at hh
    obtain ⟨v, h1, h2⟩ := aqop_iff.mp hh
    exact aqop_iff.mpr ⟨v, h1, h _ h2⟩

def aqAny (P : Program) (G : Nat → Option (List PV)) (rl : List String) (md : Region.Mode) (ops : Array Oper) (Q : St → Prop) : Nat → Array Bool → St → Prop
  | 0, listed, s => Region.ready md ops listed = [] ∧ Q s
  | fuel + 1, listed, s =>
    (Region.ready md ops listed = [] → Q s) ∧
    ∀ i ∈ Region.ready md ops listed, aqOp P G rl ops i (aqAny P G rl md ops Q fuel (listed.setIfInBounds i true)) s

theorem aqOp_put {j : Nat} {oi oj : Oper} {v : AV} (hj : ops[j]? = some oj) (hap : oi.apart ops oj = true) {K : St → Prop} {s : St}
    (hy : YieldsA P G rl ops oi v s) (h : aqOp P G rl ops j K (s.put oi.dst v)) :
    aqOp P G rl ops j (fun s' => YieldsA P G rl ops oi v s' ∧ K (s'.put oi.dst v)) s := by
  obtain ⟨h1, h2, h3⟩ := Oper.apart_spec hap
  unfold aqOp at *
  simp only [hj] at *
  obtain ⟨u, hu, hk⟩ := aqop_iff.mp h
  refine aqop_iff.mpr ⟨u, (YieldsA_put h1).mp hu, (YieldsA_put h3).mpr hy, ?_⟩
  rw [← St.put_comm s v u h2]
  exact hk

theorem aqAny_first {Q : St → Prop} {i : Nat} {oi : Oper} {v : AV} (hi : ops[i]? = some oi) :
    ∀ (fuel : Nat) (listed : Array Bool) (s : St),
      (∀ j oj, ops[j]? = some oj → j ≠ i → listed.getD j true = false → (∀ e ∈ oj.after, Region.binds md e = true → e.on ≠ i) → oi.apart ops oj = true) →
      i ∈ Region.ready md ops listed → YieldsA P G rl ops oi v s →
      aqAny P G rl md ops Q fuel (listed.setIfInBounds i true) (s.put oi.dst v) → aqAny P G rl md ops Q (fuel + 1) listed s := by
  have step : ∀ {K : St → Prop} {s : St}, YieldsA P G rl ops oi v s → K (s.put oi.dst v) → aqOp P G rl ops i K s := by
    intro K s hy hk
    unfold aqOp
    simp only [hi]
    exact aqop_iff.mpr ⟨v, hy, hk⟩
  intro fuel
  induction fuel with
  | zero =>
    intro listed s _ hr hy H
    refine ⟨fun h => (by rw [h] at hr; cases hr), fun j hj => ?_⟩
    by_cases hji : j = i
    · subst hji; exact step hy H
    · have := ready_mono hj hji
      rw [H.1] at this
      cases this
  | succ fuel ih =>
    intro listed s hfree hr hy H
    refine ⟨fun h => (by rw [h] at hr; cases hr), fun j hj => ?_⟩
    by_cases hji : j = i
    · subst hji; exact step hy H
    · have h1 := H.2 j (ready_mono hj hji)
      obtain ⟨hjun, oj, hoj, hall⟩ := mem_ready.1 hj
      have hnot : ∀ e ∈ oj.after, Region.binds md e = true → e.on ≠ i := fun e he hb heq => by
        have h1 := hall e he hb
        have h0 := (mem_ready.1 hr).1
        rw [heq] at h1
        rcases Nat.lt_or_ge i listed.size with h' | h'
        · simp [h'] at h0 h1; rw [h0] at h1; cases h1
        · simp [Array.getElem?_eq_none h'] at h1
      have h2 := aqOp_put hoj (hfree j oj hoj hji hjun hnot) hy h1
      have hfree' : ∀ k ok, ops[k]? = some ok → k ≠ i → (listed.setIfInBounds j true).getD k true = false →
          (∀ e ∈ ok.after, Region.binds md e = true → e.on ≠ i) → oi.apart ops ok = true := fun k ok hk hki hun hno => by
        refine hfree k ok hk hki ?_ hno
        by_cases hjk : j = k
        · subst hjk; exact hjun
        · rw [getD_set_ne true hjk] at hun; exact hun
      refine aqOp_mono (fun s' h3 => ih (listed.setIfInBounds j true) s' hfree' (ready_mono hr (Ne.symm hji)) h3.1 ?_) h2
      rw [Array.setIfInBounds_comm _ _ hji]
      exact h3.2

theorem aqAny_lex {Q : St → Prop} : ∀ (l : List Oper) (k : Nat) (listed : Array Bool) (s : St), (∀ j, l[j]? = ops[k + j]?) →
    Region.lexFrom md ops l.length k listed = true → aqops P G rl ops Q l s → aqAny P G rl md ops Q l.length listed s
  | [], _, _, _, _, hB, h => ⟨by simpa [Region.lexFrom] using hB, h⟩
  | o :: l, k, listed, s, hl, hB, h => by
    have h0 : ops[k]? = some o := by simpa using (hl 0).symm
    simp only [List.length_cons, Region.lexFrom, Bool.and_eq_true] at hB
    obtain ⟨⟨hr, hf⟩, hB'⟩ := hB
    obtain ⟨v, hy, hK⟩ := aqop_iff.mp h
    exact aqAny_first h0 l.length listed s (Region.free_spec h0 hf) (by simpa using hr) hy
      (aqAny_lex l (k + 1) _ _ (fun j => by have := hl (j + 1); simpa [Nat.add_assoc, Nat.add_comm 1 j] using this) hB' hK)


/-! ### Regions that ask for an order, with effects: quiet operations that do not mind more blocks; blocks that are made; what has an effect and comes in its turn. -/

def effB (o : Oper) : Bool := match o.op with | .alloc _ | .box _ _ | .store _ _ _ => true | _ => false
def allocB (o : Oper) : Bool := (match o.op with | .alloc _ => true | _ => false) && o.guard.isNone

def St.ext (s : St) (L : Heap) : St := ⟨s.fr, s.nt, s.heap ++ L⟩

theorem ext_put (s : St) (d : Option Nat) (v : AV) (L : Heap) : (s.put d v).ext L = (s.ext L).put d v := by
  cases d with
  | none => rfl
  | some d => by_cases h : d < s.nt <;> simp [St.put, St.ext, h]

theorem ext_ext (s : St) (L M : Heap) : (s.ext L).ext M = s.ext (L ++ M) := by simp only [St.ext, List.append_assoc]
theorem ext_nil (s : St) : s.ext [] = s := by simp only [St.ext, List.append_nil]

/-- It yields v, however many blocks there are more. -/
def Stab (P : Program) (G : Nat → Option (List PV)) (rl : List String) (ops : Array Oper) (o : Oper) (v : AV) (s : St) : Prop := ∀ L, YieldsA P G rl ops o v (s.ext L)

theorem Stab.put {o : Oper} {s : St} {d : Option Nat} {u v : AV} (h : Stab P G rl ops o v s) (hd : ∀ t, d = some t → t ∉ o.looksAt ops) : Stab P G rl ops o v (s.put d u) := fun L => by
  rw [ext_put]; exact (YieldsA_put hd).mpr (h L)
theorem Stab.ext {o : Oper} {s : St} {v : AV} (h : Stab P G rl ops o v s) (M : Heap) : Stab P G rl ops o v (s.ext M) := fun L => by
  rw [ext_ext]; exact h _
theorem Stab.now {o : Oper} {s : St} {v : AV} (h : Stab P G rl ops o v s) : YieldsA P G rl ops o v s := by
  have := h []; rwa [ext_nil] at this

def axop (P : Program) (G : Nat → Option (List PV)) (rl : List String) (ops : Array Oper) (o : Oper) (K : St → Prop) (s : St) : Prop := if effB o = true then aop P G rl ops o K s else aqop P G rl ops o K s

def axOp (P : Program) (G : Nat → Option (List PV)) (rl : List String) (ops : Array Oper) (i : Nat) (K : St → Prop) (s : St) : Prop :=
  match ops[i]? with
  | none => K s
  | some o => axop P G rl ops o K s

theorem eff_call {o : Oper} (he : effB o = true) : callOf o = none := by
  unfold effB at he; unfold callOf
  split <;> simp_all

theorem aopE_mono {o : Oper} (he : effB o = true) {K K' : St → Prop} {s : St} (h : ∀ s, K s → K' s) (hh : aop P G rl ops o K s) : aop P G rl ops o K' s := by
  unfold aop at *
  split at hh
  · refine ⟨fun e => ?_, fun e => h _ (hh.2 e)⟩
    have := hh.1 e
    unfold aexec at *
    rw [eff_call he] at *
    dsimp only at *
    split at this
    · rename_i r h' e2; exact h _ this
    · exact this.elim
  · exact hh.elim

theorem axop_mono {o : Oper} {K K' : St → Prop} {s : St} (h : ∀ s, K s → K' s) (hh : axop P G rl ops o K s) : axop P G rl ops o K' s := by
  unfold axop at *
  split
  · rename_i he; rw [if_pos he] at hh; exact aopE_mono he h hh
  · rename_i he
    rw [if_neg he] at hh
    obtain ⟨v, h1, h2⟩ := aqop_iff.mp hh
    exact aqop_iff.mpr ⟨v, h1, h _ h2⟩

theorem axOp_mono {i : Nat} {s : St} {K K' : St → Prop} (h : ∀ s, K s → K' s) (hh : axOp P G rl ops i K s) : axOp P G rl ops i K' s := by
  unfold axOp at *
  split
  · exact h _ (by simpa [*] using hh)
  · rename_i o ho
    simp only [ho] at hh
    exact axop_mono h hh

def axAny (P : Program) (G : Nat → Option (List PV)) (rl : List String) (md : Region.Mode) (ops : Array Oper) (Q : St → Prop) : Nat → Array Bool → St → Prop
  | 0, listed, s => Region.ready md ops listed = [] ∧ Q s
  | fuel + 1, listed, s =>
    (Region.ready md ops listed = [] → Q s) ∧
    ∀ i ∈ Region.ready md ops listed, axOp P G rl ops i (axAny P G rl md ops Q fuel (listed.setIfInBounds i true)) s

theorem alloc_iff {o : Oper} (ha : allocB o = true) {K : St → Prop} {s : St} : aop P G rl ops o K s ↔ ∃ z, (∀ ρ, opA P rl o ρ s.heap = some (.ptr s.heap.length 0 0, s.heap ++ [z])) ∧ K ((s.ext [z]).put o.dst (.ptr s.heap.length 0 0)) := by
  obtain ⟨dst, op, type, pos, after, guard⟩ := o
  simp only [allocB, Bool.and_eq_true, Option.isNone_iff_eq_none] at ha
  obtain ⟨h1, rfl⟩ := ha
  cases op with
  | alloc t =>
    unfold aop wantA
    dsimp only
    unfold aexec callOf
    dsimp only
    simp only [opA]
    constructor
    · rintro ⟨h, _⟩
      have h := h trivial
      split at h
      · rename_i r h' e
        split at e
        · rename_i z et
          split at e
          · cases e
          · rename_i hz
            cases e
            exact ⟨_, fun _ => by rw [if_neg hz], h⟩
        · cases e
      · exact h.elim
    · rintro ⟨z, hz, hk⟩
      refine ⟨fun _ => ?_, fun e => by cases e⟩
      rw [hz (evalA G s)]
      exact hk
  | _ => simp at h1

theorem axOp_put {j : Nat} {oi oj : Oper} {v : AV} (hj : ops[j]? = some oj) (hap : oi.apart ops oj = true) (hq : effB oj = true → allocB oj = true) {K : St → Prop} {s : St}
    (hy : Stab P G rl ops oi v s) (h : axOp P G rl ops j K (s.put oi.dst v)) :
    axOp P G rl ops j (fun s' => Stab P G rl ops oi v s' ∧ K (s'.put oi.dst v)) s := by
  obtain ⟨h1, h2, h3⟩ := Oper.apart_spec hap
  unfold axOp at *
  simp only [hj] at *
  unfold axop at *
  split
  · rename_i he
    rw [if_pos he] at h
    obtain ⟨z, hz, hk⟩ := (alloc_iff (hq he)).mp h
    rw [St.put_heap] at hz hk
    refine (alloc_iff (hq he)).mpr ⟨z, hz, (hy.ext [z]).put h3, ?_⟩
    rw [ext_put, ← St.put_comm _ _ _ h2] at *
    exact hk
  · rename_i he
    rw [if_neg he] at h
    obtain ⟨u, hu, hk⟩ := aqop_iff.mp h
    refine aqop_iff.mpr ⟨u, (YieldsA_put h1).mp hu, hy.put h3, ?_⟩
    rw [← St.put_comm s v u h2]
    exact hk

theorem axAny_first {Q : St → Prop} {i : Nat} {oi : Oper} {v : AV} (hi : ops[i]? = some oi) (hq : effB oi = false) :
    ∀ (fuel : Nat) (listed : Array Bool) (s : St),
      (∀ j oj, ops[j]? = some oj → j ≠ i → listed.getD j true = false → (∀ e ∈ oj.after, Region.binds md e = true → e.on ≠ i) → oi.apart ops oj = true ∧ (effB oj = true → allocB oj = true)) →
      i ∈ Region.ready md ops listed → Stab P G rl ops oi v s →
      axAny P G rl md ops Q fuel (listed.setIfInBounds i true) (s.put oi.dst v) → axAny P G rl md ops Q (fuel + 1) listed s := by
  have step : ∀ {K : St → Prop} {s : St}, Stab P G rl ops oi v s → K (s.put oi.dst v) → axOp P G rl ops i K s := by
    intro K s hy hk
    unfold axOp
    simp only [hi]
    unfold axop
    rw [if_neg (by rw [hq]; decide)]
    exact aqop_iff.mpr ⟨v, hy.now, hk⟩
  intro fuel
  induction fuel with
  | zero =>
    intro listed s _ hr hy H
    refine ⟨fun h => (by rw [h] at hr; cases hr), fun j hj => ?_⟩
    by_cases hji : j = i
    · subst hji; exact step hy H
    · have := ready_mono hj hji
      rw [H.1] at this
      cases this
  | succ fuel ih =>
    intro listed s hfree hr hy H
    refine ⟨fun h => (by rw [h] at hr; cases hr), fun j hj => ?_⟩
    by_cases hji : j = i
    · subst hji; exact step hy H
    · have h1 := H.2 j (ready_mono hj hji)
      obtain ⟨hjun, oj, hoj, hall⟩ := mem_ready.1 hj
      have hnot : ∀ e ∈ oj.after, Region.binds md e = true → e.on ≠ i := fun e he hb heq => by
        have h1 := hall e he hb
        have h0 := (mem_ready.1 hr).1
        rw [heq] at h1
        rcases Nat.lt_or_ge i listed.size with h' | h'
        · simp [h'] at h0 h1; rw [h0] at h1; cases h1
        · simp [Array.getElem?_eq_none h'] at h1
      obtain ⟨g1, g2⟩ := hfree j oj hoj hji hjun hnot
      have h2 := axOp_put hoj g1 g2 hy h1
      have hfree' : ∀ k ok, ops[k]? = some ok → k ≠ i → (listed.setIfInBounds j true).getD k true = false →
          (∀ e ∈ ok.after, Region.binds md e = true → e.on ≠ i) → oi.apart ops ok = true ∧ (effB ok = true → allocB ok = true) := fun k ok hk hki hun hno => by
        refine hfree k ok hk hki ?_ hno
        by_cases hjk : j = k
        · subst hjk; exact hjun
        · rw [getD_set_ne true hjk] at hun; exact hun
      refine axOp_mono (fun s' h3 => ih (listed.setIfInBounds j true) s' hfree' (ready_mono hr (Ne.symm hji)) h3.1 ?_) h2
      rw [Array.setIfInBounds_comm _ _ hji]
      exact h3.2

def growB (md : Region.Mode) (ops : Array Oper) (listed : Array Bool) (i : Nat) : Bool :=
  (List.range ops.size).all fun j => j == i || listed.getD j true || match ops[j]? with
    | some oj => oj.after.any (fun e => Region.binds md e && e.on == i) || (!effB oj || allocB oj)
    | none => true

theorem growB_spec {i : Nat} {listed : Array Bool} (h : growB md ops listed i = true) (j : Nat) (oj : Oper)
    (hj : ops[j]? = some oj) (hne : j ≠ i) (hun : listed.getD j true = false) (hno : ∀ e ∈ oj.after, Region.binds md e = true → e.on ≠ i) : effB oj = true → allocB oj = true := by
  simp only [growB, List.all_eq_true, List.mem_range] at h
  have h1 := h j (Array.getElem?_eq_some_iff.1 hj).1
  simp only [hj, Bool.or_eq_true, beq_iff_eq, hne, false_or, hun, Bool.false_eq_true] at h1
  rcases h1 with h1 | h1
  · obtain ⟨e, he, hb⟩ := Array.any_eq_true'.1 h1
    simp only [Bool.and_eq_true, beq_iff_eq] at hb
    exact absurd hb.2 (hno e he hb.1)
  · intro he
    rw [he] at h1
    simpa using h1

/-- The operations in their text's order: quiet ones, stable; the others each in its turn alone. -/
def aeops (P : Program) (G : Nat → Option (List PV)) (rl : List String) (ops : Array Oper) (Q : St → Prop) : List Oper → St → Prop
  | [], s => Q s
  | o :: rest, s => if effB o = true then aop P G rl ops o (aeops P G rl ops Q rest) s else ∃ v, Stab P G rl ops o v s ∧ aeops P G rl ops Q rest (s.put o.dst v)

def lexE (md : Region.Mode) (ops : Array Oper) : Nat → Nat → Array Bool → Bool
  | 0, _, listed => (Region.ready md ops listed).isEmpty
  | n + 1, k, listed =>
    (match ops[k]? with
      | none => false
      | some o => if effB o then Region.ready md ops listed == [k] else (Region.ready md ops listed).contains k && (Region.free md ops listed k && growB md ops listed k)) && lexE md ops n (k + 1) (listed.setIfInBounds k true)

theorem axAny_lex {Q : St → Prop} : ∀ (l : List Oper) (k : Nat) (listed : Array Bool) (s : St), (∀ j, l[j]? = ops[k + j]?) →
    lexE md ops l.length k listed = true → aeops P G rl ops Q l s → axAny P G rl md ops Q l.length listed s
  | [], _, _, _, _, hB, h => ⟨by simpa [lexE] using hB, h⟩
  | o :: l, k, listed, s, hl, hB, h => by
    have h0 : ops[k]? = some o := by simpa using (hl 0).symm
    have hl' : ∀ j, l[j]? = ops[k + 1 + j]? := fun j => by have := hl (j + 1); simpa [Nat.add_assoc, Nat.add_comm 1 j] using this
    simp only [List.length_cons, lexE, h0, Bool.and_eq_true] at hB
    obtain ⟨hr, hB'⟩ := hB
    unfold aeops at h
    split at h
    · rename_i he
      rw [if_pos he] at hr
      have hr := beq_iff_eq.mp hr
      refine ⟨fun e => (by rw [hr] at e; cases e), fun i hi => ?_⟩
      rw [hr] at hi
      have : i = k := by simpa using hi
      subst this
      unfold axOp
      simp only [h0]
      unfold axop
      rw [if_pos he]
      exact aopE_mono he (fun s' hs' => axAny_lex l (i + 1) _ s' hl' hB' hs') h
    · rename_i he
      rw [if_neg he] at hr
      simp only [Bool.and_eq_true] at hr
      obtain ⟨hr, hf, hg⟩ := hr
      obtain ⟨v, hy, hK⟩ := h
      exact axAny_first h0 (by simpa using he) l.length listed s (fun j oj a1 a2 a3 a4 => ⟨Region.free_spec h0 hf j oj a1 a2 a3 a4, growB_spec hg j oj a1 a2 a3 a4⟩) (by simpa using hr) hy
        (axAny_lex l (k + 1) _ _ hl' hB' hK)

section
variable {ι ι0 : Nat → Nat × Nat} {h0 : Heap} {w w0 : World} {n0 : Nat} {s : St} {a : Act}

theorem aquiet_exec {o : Oper} {K : St → Prop} (hx : aquiet P G rl o K s) : aexec P G rl o K s := by
  unfold aquiet at hx
  unfold aexec
  cases hq : callOf o with
  | some q =>
    obtain ⟨f, args⟩ := q
    simp only [hq] at hx ⊢
    split at hx
    · rename_i g caps xs hf hxs
      obtain ⟨he, r, hc, hk⟩ := hx
      refine ⟨he, fun ι w vs hS hv => (hc ι w vs hS hv).mono ?_⟩
      rintro e w' ⟨v, r', h', ι', e1, ⟨rfl, rfl⟩, e2⟩
      exact ⟨v, _, _, ι', e1, hk, e2⟩
    · exact hx.elim
  | none =>
    simp only [hq] at hx ⊢
    split at hx
    · obtain ⟨rfl, hk⟩ := hx
      exact hk
    · exact hx.elim

theorem aqop_aop {o : Oper} {K : St → Prop} (hx : aqop P G rl ops o K s) : aop P G rl ops o K s := by
  unfold aqop at hx
  unfold aop
  split at hx
  · exact ⟨fun e => aquiet_exec (hx.1 e), hx.2⟩
  · exact hx.elim

theorem aqAny_sound {Q : St → Prop} {Q' : Exit → Act → World → Prop} (hK : ∀ s' ι' a' w', Q s' → Sim P G ι' s' a' w' → Evo n0 ι0 h0 w0 ι' s'.heap w' → Q' .normal a' w') :
    ∀ (fuel : Nat) (listed : Array Bool) (s : St) (ι : Nat → Nat × Nat) (a : Act) (w : World), Sim P G ι s a w → Evo n0 ι0 h0 w0 ι s.heap w →
      aqAny P G rl md ops Q fuel listed s → wpAny P md ops Q' fuel listed a w
  | 0, _, s, ι, a, w, hs, he, h => ⟨h.1, hK s ι a w h.2 hs he⟩
  | fuel + 1, listed, s, ι, a, w, hs, he, h => by
    refine ⟨fun h0 => hK s ι a w (h.1 h0) hs he, fun i hi => ?_⟩
    have h1 := h.2 i hi
    unfold aqOp at h1
    unfold wpOp
    split
    · rename_i ho; simp only [ho] at h1; exact aqAny_sound hK fuel _ s ι a w hs he h1
    · rename_i o ho
      simp only [ho] at h1
      exact aop_sound (rl := rl) (K := aqAny P G rl md ops Q fuel (listed.setIfInBounds i true)) hs he (fun s' ι' a' w' hk hs' he' => aqAny_sound hK fuel _ s' ι' a' w' hs' he' hk) (aqop_aop h1)

theorem axop_aop {o : Oper} {K : St → Prop} (hx : axop P G rl ops o K s) : aop P G rl ops o K s := by
  unfold axop at hx
  split at hx
  · exact hx
  · exact aqop_aop hx

theorem axAny_sound {Q : St → Prop} {Q' : Exit → Act → World → Prop} (hK : ∀ s' ι' a' w', Q s' → Sim P G ι' s' a' w' → Evo n0 ι0 h0 w0 ι' s'.heap w' → Q' .normal a' w') :
    ∀ (fuel : Nat) (listed : Array Bool) (s : St) (ι : Nat → Nat × Nat) (a : Act) (w : World), Sim P G ι s a w → Evo n0 ι0 h0 w0 ι s.heap w →
      axAny P G rl md ops Q fuel listed s → wpAny P md ops Q' fuel listed a w
  | 0, _, s, ι, a, w, hs, he, h => ⟨h.1, hK s ι a w h.2 hs he⟩
  | fuel + 1, listed, s, ι, a, w, hs, he, h => by
    refine ⟨fun h0 => hK s ι a w (h.1 h0) hs he, fun i hi => ?_⟩
    have h1 := h.2 i hi
    unfold axOp at h1
    unfold wpOp
    split
    · rename_i ho; simp only [ho] at h1; exact axAny_sound hK fuel _ s ι a w hs he h1
    · rename_i o ho
      simp only [ho] at h1
      exact aop_sound (rl := rl) (K := axAny P G rl md ops Q fuel (listed.setIfInBounds i true)) hs he (fun s' ι' a' w' hk hs' he' => axAny_sound hK fuel _ s' ι' a' w' hs' he' hk) (axop_aop h1)

theorem Sim.drew (hs : Sim P G ι s a w) : Sim P G ι s a { w with drawn := w.drawn + 1 } ∧ Evo s.heap.length ι s.heap w ι s.heap { w with drawn := w.drawn + 1 } := by
  obtain ⟨h1, h2⟩ := hs.hS.drew
  exact ⟨⟨h1, fun k x hx => by obtain ⟨v, p1, p2⟩ := hs.fr k x hx; exact ⟨v, p1, p2.evo h2⟩, hs.nt, hs.df⟩, h2⟩

theorem draw_sound {id : Nat} {Q : St → Prop} {Q' : Exit → Act → World → Prop} (hm : P.follows .mixedOrders = true) (hK : ∀ s' ι' a' w', Q s' → Sim P G ι' s' a' w' → Evo n0 ι0 h0 w0 ι' s'.heap w' → Q' .normal a' w')
    (hs : Sim P G ι s a w) (he : Evo n0 ι0 h0 w0 ι s.heap w) (hB : Region.lexB .any ops = true) (h : aqops P G rl ops Q ops.toList s) : (Code.region id ops true).wp P Q' a w := by
  simp only [Region.lexB, Bool.and_eq_true] at hB
  obtain ⟨d1, d2⟩ := hs.drew
  refine wp_region_any hm (aqAny_sound (rl := rl) hK _ _ s ι a _ d1 (he.trans d2 he.len) ?_)
  have := aqAny_lex (P := P) (G := G) (rl := rl) (md := .any) (Q := Q) ops.toList 0 (Array.replicate ops.size false) s (by simp) (by simpa using hB.2) h
  simpa using this

theorem drawE_sound {id : Nat} {Q : St → Prop} {Q' : Exit → Act → World → Prop} (hm : P.follows .mixedOrders = true) (hK : ∀ s' ι' a' w', Q s' → Sim P G ι' s' a' w' → Evo n0 ι0 h0 w0 ι' s'.heap w' → Q' .normal a' w')
    (hs : Sim P G ι s a w) (he : Evo n0 ι0 h0 w0 ι s.heap w) (hB : lexE .any ops ops.size 0 (Array.replicate ops.size false) = true) (h : aeops P G rl ops Q ops.toList s) : (Code.region id ops true).wp P Q' a w := by
  obtain ⟨d1, d2⟩ := hs.drew
  refine wp_region_any hm (axAny_sound (rl := rl) hK _ _ s ι a _ d1 (he.trans d2 he.len) ?_)
  have := axAny_lex (P := P) (G := G) (rl := rl) (md := .any) (Q := Q) ops.toList 0 (Array.replicate ops.size false) s (by simp) (by simpa using hB) h
  simpa using this

end
end

/-- Another way to say what is known: frames may forget, heaps may be let go or told otherwise. -/
def Ghost (P : Program) (G : Nat → Option (List PV)) (h0 : Heap) (s s' : St) : Prop :=
  ∀ ι a w ι0 w0, SimH P G ι0 h0 w0 → Sim P G ι s a w → Evo h0.length ι0 h0 w0 ι s.heap w → ∃ ι', Sim P G ι' s' a w ∧ Evo h0.length ι0 h0 w0 ι' s'.heap w

def thenA (K : St → Prop) (Q : Exit → St → Prop) : Exit → St → Prop
  | .normal, s => K s
  | e, s => Q e s

def blockA (id : Nat) (Q : Exit → St → Prop) : Exit → St → Prop
  | .exit i, s => if i = id then Q .normal s else Q (.exit i) s
  | e, s => Q e s

section
variable (P : Program) (G : Nat → Option (List PV)) (rl : List String) (h0 : Heap)

def condA (v : Option AV) (X Y : Prop) : Prop :=
  match v with
  | some (.p (.bool t)) => (t = true → X) ∧ (t = false → Y)
  | _ => False

/-- What code does to abstract states, in a function that began with the heap h0. -/
def awp : Code → (Exit → St → Prop) → St → Prop
  | .skip, Q, s => Q .normal s
  | .label _, Q, s => Q .normal s
  | .region _ ops draw, Q, s =>
    if draw then (Region.lexB .any ops = true ∧ aqops P G rl ops (Q .normal) ops.toList s) ∨ (lexE .any ops ops.size 0 (Array.replicate ops.size false) = true ∧ aeops P G rl ops (Q .normal) ops.toList s)
    else aops P G rl ops (Q .normal) ops.toList s
  | .seq a b, Q, s => ∃ J : St → Prop, awp a (thenA (fun s' => ∃ s1, Ghost P G h0 s' s1 ∧ J s1) Q) s ∧ ∀ s1, J s1 → awp b Q s1
  | .cond c x y, Q, s => condA (evalA G s c) (awp x Q s) (awp y Q s)
  | .block id c, Q, s => awp c (blockA id Q) s
  | .loop c, Q, s => ∃ I : Nat → St → Prop, (∃ n s1, Ghost P G h0 s s1 ∧ I n s1) ∧ ∀ n s, I n s → awp c (thenA (fun s' => ∃ m s1, m < n ∧ Ghost P G h0 s' s1 ∧ I m s1) Q) s
  | .exit id, Q, s => Q (.exit id) s
  | .ret, Q, s => Q .ret s
  | _, _, _ => False

end
end Go.Proofs.YtelljholenkckaaDoor.AM
