/- The abstract machine, part K: regions that ask for an order. -/
import Derived.Test.YtlophgkgmhcagaaDoorAmJ
set_option linter.unusedVariables false
set_option linter.unusedSimpArgs false
namespace Go.Proofs.YtlophgkgmhcagaaDoor.AM
open Go

section
variable {P : Program} {G : Nat → Option (List PV)} {rl : List String} {ops : Array Oper} {md : Region.Mode}

theorem evals_congr {ρ ρ' : Operand → Option AV} : ∀ {l : List Operand}, (∀ x ∈ l, ρ x = ρ' x) → evals ρ l = evals ρ' l
  | [], _ => rfl
  | x :: r, h => by simp only [evals]; rw [h x (by simp), evals_congr (l := r) (fun y hy => h y (by simp [hy]))]

theorem opA_congr {o : Oper} {ρ ρ' : Operand → Option AV} {h : Heap} (hc : ∀ x ∈ o.op.operands, ρ x = ρ' x) : opA P rl o ρ h = opA P rl o ρ' h := by
  obtain ⟨dst, op, type, pos, after, guard⟩ := o
  simp only at hc
  cases op with
  | move x => simp only [opA]; rw [hc x (by simp [Op.operands])]
  | assign x => simp only [opA]; rw [hc x (by simp [Op.operands])]
  | pick c x y => simp only [opA]; rw [hc c (by simp [Op.operands]), hc x (by simp [Op.operands]), hc y (by simp [Op.operands])]
  | alloc t => rfl
  | box t x => simp only [opA]; rw [hc x (by simp [Op.operands])]
  | build t ps =>
    have : (ps.toList.map fun q => (q.1, ρ q.2)) = (ps.toList.map fun q => (q.1, ρ' q.2)) := List.map_congr_left fun q hq => by
      rw [hc q.2 (by simp only [Op.operands, List.mem_toArray, List.mem_map]; exact ⟨q, hq, rfl⟩)]
    simp only [opA, this]
  | buildSlice t n ps =>
    have : (ps.toList.map fun q => (q.1, ρ q.2)) = (ps.toList.map fun q => (q.1, ρ' q.2)) := List.map_congr_left fun q hq => by
      rw [hc q.2 (by simp only [Op.operands, List.mem_toArray, List.mem_map]; exact ⟨q, hq, rfl⟩)]
    simp only [opA, this]
  | makeSlice t l c => simp only [opA]; rw [hc l (by simp [Op.operands]), hc c (by simp [Op.operands])]
  | load t x => simp only [opA]; rw [hc x (by simp [Op.operands])]
  | store t x y => simp only [opA]; rw [hc x (by simp [Op.operands]), hc y (by simp [Op.operands])]
  | nilCheck x => simp only [opA]; rw [hc x (by simp [Op.operands])]
  | binOp b t x y yt => simp only [opA]; rw [hc x (by simp [Op.operands]), hc y (by simp [Op.operands])]
  | unOp u t x => simp only [opA]; rw [hc x (by simp [Op.operands])]
  | convert a b x => simp only [opA]; rw [hc x (by simp [Op.operands])]
  | makeFunc fn first captured =>
    have : evals ρ captured.toList = evals ρ' captured.toList := evals_congr fun x hx => hc x (by simp only [Op.operands, Array.mem_append]; exact .inr (by simpa using hx))
    cases fn <;> simp only [opA, this]
  | slice t x lo hi mx =>
    have h1 : ρ x = ρ' x := hc x (by simp [Op.operands])
    have h2 : lo.map ρ = lo.map ρ' := by cases lo with
      | none => rfl
      | some l => simp [hc l (by simp [Op.operands])]
    have h3 : hi.map ρ = hi.map ρ' := by cases hi with
      | none => rfl
      | some l => simp [hc l (by simp [Op.operands])]
    simp only [opA, h1, h2, h3]
  | fieldAddr t x f => simp only [opA]; rw [hc x (by simp [Op.operands])]
  | field t x f => simp only [opA]; rw [hc x (by simp [Op.operands])]
  | indexAddr t x y => simp only [opA]; rw [hc x (by simp [Op.operands]), hc y (by simp [Op.operands])]
  | index t x y => simp only [opA]; rw [hc x (by simp [Op.operands]), hc y (by simp [Op.operands])]
  | extract x i => simp only [opA]; rw [hc x (by simp [Op.operands])]
  | call c =>
    have : evals ρ c.args.toList = evals ρ' c.args.toList := evals_congr fun x hx => hc x (by simp only [Op.operands, Call.operands, Array.mem_append]; exact .inr (by simpa using hx))
    simp only [opA, this]
  | _ => rfl

/-- What one quiet operation yields. -/
def AQ (P : Program) (G : Nat → Option (List PV)) (rl : List String) (o : Oper) (s : St) (v : AV) : Prop :=
  match callOf o with
  | some (f, args) => ∃ g caps xs, evalA G s f = some (.fn g caps) ∧ evals (evalA G s) args.toList = some xs ∧ Enters P g ∧ ACalls P G g (xs ++ caps) s.heap fun r' h' => r' = v ∧ h' = s.heap
  | none => opA P rl o (evalA G s) s.heap = some (v, s.heap)

def YieldsA (P : Program) (G : Nat → Option (List PV)) (rl : List String) (ops : Array Oper) (o : Oper) (v : AV) (s : St) : Prop :=
  (wantA ops o s = some true ∧ AQ P G rl o s v) ∨ (wantA ops o s = some false ∧ v = .undef)

theorem aquiet_iff {o : Oper} {K : St → Prop} {s : St} : aquiet P G rl o K s ↔ ∃ v, AQ P G rl o s v ∧ K (s.put o.dst v) := by
  unfold aquiet AQ
  cases hq : callOf o with
  | some q =>
    obtain ⟨f, args⟩ := q
    dsimp only
    split
    · rename_i g caps xs hf hx
      constructor
      · rintro ⟨he, r, hc, hk⟩
        exact ⟨r, ⟨g, caps, xs, hf, hx, he, hc⟩, hk⟩
      · rintro ⟨r, ⟨g', caps', xs', hf', hx', he, hc⟩, hk⟩
        rw [hf] at hf'; cases hf'
        rw [hx] at hx'; cases hx'
        exact ⟨he, r, hc, hk⟩
    · rename_i hn
      constructor
      · exact fun h => h.elim
      · rintro ⟨r, ⟨g', caps', xs', hf', hx', he, hc⟩, hk⟩
        exact (hn _ _ _ hf' hx').elim
  | none =>
    dsimp only
    cases hop : opA P rl o (evalA G s) s.heap with
    | none =>
      constructor
      · exact fun h => h.elim
      · rintro ⟨v, hv, hk⟩; cases hv
    | some q =>
      obtain ⟨r, h'⟩ := q
      constructor
      · rintro ⟨rfl, hk⟩; exact ⟨r, rfl, hk⟩
      · rintro ⟨v, hv, hk⟩
        simp only [Option.some.injEq, Prod.mk.injEq] at hv
        obtain ⟨rfl, rfl⟩ := hv
        exact ⟨rfl, hk⟩

theorem aqop_iff {o : Oper} {K : St → Prop} {s : St} : aqop P G rl ops o K s ↔ ∃ v, YieldsA P G rl ops o v s ∧ K (s.put o.dst v) := by
  unfold aqop YieldsA
  cases hw : wantA ops o s with
  | none =>
    constructor
    · exact fun h => h.elim
    · rintro ⟨v, ⟨h1, h2⟩ | ⟨h1, rfl⟩, h3⟩ <;> cases h1
  | some b =>
    dsimp only
    cases b with
    | true =>
      constructor
      · rintro ⟨h1, _⟩
        obtain ⟨v, h3, h4⟩ := aquiet_iff.mp (h1 rfl)
        exact ⟨v, .inl ⟨rfl, h3⟩, h4⟩
      · rintro ⟨v, ⟨_, h2⟩ | ⟨h1, _⟩, h3⟩
        · exact ⟨fun _ => aquiet_iff.mpr ⟨v, h2, h3⟩, fun e => (by cases e)⟩
        · cases h1
    | false =>
      constructor
      · rintro ⟨_, h2⟩
        exact ⟨.undef, .inr ⟨rfl, rfl⟩, h2 rfl⟩
      · rintro ⟨v, ⟨h1, _⟩ | ⟨_, rfl⟩, h3⟩
        · cases h1
        · exact ⟨fun e => (by cases e), fun _ => h3⟩

theorem evalA_put {s : St} {d : Option Nat} {v : AV} {x : Operand} (h : ∀ t, d = some t → x ≠ .tmp t) : evalA G (s.put d v) x = evalA G s x := by
  cases x with
  | tmp t =>
    cases d with
    | none => rfl
    | some d =>
      have hne : t ≠ d := fun e => h d rfl (by rw [e])
      simp only [evalA, St.put]
      split
      · simp [upd, hne]
      · rfl
  | _ => rfl

theorem fr_put {s : St} {d : Option Nat} {v : AV} {t : Nat} (h : ∀ e, d = some e → e ≠ t) : (s.put d v).fr t = s.fr t := by
  cases d with
  | none => rfl
  | some d =>
    have hne : t ≠ d := fun e => h d rfl e.symm
    simp only [St.put]
    split
    · simp [upd, hne]
    · rfl

theorem looks_op {o : Oper} {x : Operand} {t : Nat} (hx : x ∈ o.op.operands) (ht : x = .tmp t) : t ∈ o.looksAt ops := by
  subst ht
  simp only [Oper.looksAt, List.mem_append, List.mem_filterMap]
  exact .inl ⟨.tmp t, by simpa using hx, rfl⟩

theorem AQ_put {o : Oper} {s : St} {d : Option Nat} {u v : AV} (hd : ∀ t, d = some t → t ∉ o.looksAt ops) : AQ P G rl o (s.put d u) v ↔ AQ P G rl o s v := by
  have hev : ∀ x ∈ o.op.operands, evalA G (s.put d u) x = evalA G s x := fun x hx => evalA_put fun t ht e => hd t ht (looks_op hx e)
  unfold AQ
  cases hq : callOf o with
  | some q =>
    obtain ⟨f, args⟩ := q
    obtain ⟨ats, ho⟩ := callOf_some hq
    rw [ho] at hev
    have h1 : evalA G (s.put d u) f = evalA G s f := hev f (by simp [Op.operands, Call.operands])
    have h2 : evals (evalA G (s.put d u)) args.toList = evals (evalA G s) args.toList := evals_congr fun x hx => hev x (by simp only [Op.operands, Call.operands, Array.mem_append]; exact .inr (by simpa using hx))
    dsimp only
    rw [h1, h2, St.put_heap]
  | none =>
    dsimp only
    rw [opA_congr hev, St.put_heap]

theorem wantA_put {o : Oper} {s : St} {d : Option Nat} {u : AV} (hd : ∀ t, d = some t → t ∉ o.looksAt ops) : wantA ops o (s.put d u) = wantA ops o s := by
  unfold wantA
  cases hg : o.guard with
  | none => rfl
  | some q =>
    obtain ⟨j, want⟩ := q
    have : guardA ops (s.put d u) j = guardA ops s j := by
      unfold guardA
      cases hq : (ops[j]?).bind (·.dst) with
      | none => rfl
      | some t =>
        simp only [Option.bind_some]
        refine fr_put fun e he heq => hd e he ?_
        simp [Oper.looksAt, hg, hq, heq]
    simp only [this]

theorem YieldsA_put {o : Oper} {s : St} {d : Option Nat} {u v : AV} (hd : ∀ t, d = some t → t ∉ o.looksAt ops) : YieldsA P G rl ops o v (s.put d u) ↔ YieldsA P G rl ops o v s := by
  unfold YieldsA
  rw [wantA_put hd, AQ_put hd]

theorem St.put_comm (s : St) {x y : Option Nat} (v u : AV) (h : ∀ d, x = some d → y ≠ some d) : (s.put x v).put y u = (s.put y u).put x v := by
  cases x with
  | none => rfl
  | some d =>
    cases y with
    | none => rfl
    | some e =>
      have hne : d ≠ e := fun he => h d rfl (he ▸ rfl)
      simp only [St.put]
      by_cases h1 : d < s.nt <;> by_cases h2 : e < s.nt <;> simp only [h1, h2, if_true, if_false]
      congr 1
      funext k
      simp only [upd]
      by_cases k1 : k = d <;> by_cases k2 : k = e <;> simp_all

def aqOp (P : Program) (G : Nat → Option (List PV)) (rl : List String) (ops : Array Oper) (i : Nat) (K : St → Prop) (s : St) : Prop :=
  match ops[i]? with
  | none => K s
  | some o => aqop P G rl ops o K s

theorem aqOp_mono {i : Nat} {s : St} {K K' : St → Prop} (h : ∀ s, K s → K' s) (hh : aqOp P G rl ops i K s) : aqOp P G rl ops i K' s := by
  unfold aqOp at *
  split
  · exact h _ (by simpa [*] using hh)
  · rename_i o ho
    simp only [ho] at hh
    obtain ⟨v, h1, h2⟩ := aqop_iff.mp hh
    exact aqop_iff.mpr ⟨v, h1, h _ h2⟩

def aqAny (P : Program) (G : Nat → Option (List PV)) (rl : List String) (md : Region.Mode) (ops : Array Oper) (Q : St → Prop) : Nat → Array Bool → St → Prop
  | 0, listed, s => Region.ready md ops listed = [] ∧ Q s
  | fuel + 1, listed, s =>
    (Region.ready md ops listed = [] → Q s) ∧
    ∀ i ∈ Region.ready md ops listed, aqOp P G rl ops i (aqAny P G rl md ops Q fuel (listed.setIfInBounds i true)) s

theorem aqOp_put {j : Nat} {oi oj : Oper} {v : AV} (hj : ops[j]? = some oj) (hap : oi.apart ops oj = true) {K : St → Prop} {s : St}
    (hy : YieldsA P G rl ops oi v s) (h : aqOp P G rl ops j K (s.put oi.dst v)) :
    aqOp P G rl ops j (fun s' => YieldsA P G rl ops oi v s' ∧ K (s'.put oi.dst v)) s := by
  obtain ⟨h1, h2, h3⟩ := Oper.apart_spec hap
  unfold aqOp at *
  simp only [hj] at *
  obtain ⟨u, hu, hk⟩ := aqop_iff.mp h
  refine aqop_iff.mpr ⟨u, (YieldsA_put h1).mp hu, (YieldsA_put h3).mpr hy, ?_⟩
  rw [← St.put_comm s v u h2]
  exact hk

theorem aqAny_first {Q : St → Prop} {i : Nat} {oi : Oper} {v : AV} (hi : ops[i]? = some oi) :
    ∀ (fuel : Nat) (listed : Array Bool) (s : St),
      (∀ j oj, ops[j]? = some oj → j ≠ i → listed.getD j true = false → (∀ e ∈ oj.after, Region.binds md e = true → e.on ≠ i) → oi.apart ops oj = true) →
      i ∈ Region.ready md ops listed → YieldsA P G rl ops oi v s →
      aqAny P G rl md ops Q fuel (listed.setIfInBounds i true) (s.put oi.dst v) → aqAny P G rl md ops Q (fuel + 1) listed s := by
  have step : ∀ {K : St → Prop} {s : St}, YieldsA P G rl ops oi v s → K (s.put oi.dst v) → aqOp P G rl ops i K s := by
    intro K s hy hk
    unfold aqOp
    simp only [hi]
    exact aqop_iff.mpr ⟨v, hy, hk⟩
  intro fuel
  induction fuel with
  | zero =>
    intro listed s _ hr hy H
    refine ⟨fun h => (by rw [h] at hr; cases hr), fun j hj => ?_⟩
    by_cases hji : j = i
    · subst hji; exact step hy H
    · have := ready_mono hj hji
      rw [H.1] at this
      cases this
  | succ fuel ih =>
    intro listed s hfree hr hy H
    refine ⟨fun h => (by rw [h] at hr; cases hr), fun j hj => ?_⟩
    by_cases hji : j = i
    · subst hji; exact step hy H
    · have h1 := H.2 j (ready_mono hj hji)
      obtain ⟨hjun, oj, hoj, hall⟩ := mem_ready.1 hj
      have hnot : ∀ e ∈ oj.after, Region.binds md e = true → e.on ≠ i := fun e he hb heq => by
        have h1 := hall e he hb
        have h0 := (mem_ready.1 hr).1
        rw [heq] at h1
        rcases Nat.lt_or_ge i listed.size with h' | h'
        · simp [h'] at h0 h1; rw [h0] at h1; cases h1
        · simp [Array.getElem?_eq_none h'] at h1
      have h2 := aqOp_put hoj (hfree j oj hoj hji hjun hnot) hy h1
      have hfree' : ∀ k ok, ops[k]? = some ok → k ≠ i → (listed.setIfInBounds j true).getD k true = false →
          (∀ e ∈ ok.after, Region.binds md e = true → e.on ≠ i) → oi.apart ops ok = true := fun k ok hk hki hun hno => by
        refine hfree k ok hk hki ?_ hno
        by_cases hjk : j = k
        · subst hjk; exact hjun
        · rw [getD_set_ne true hjk] at hun; exact hun
      refine aqOp_mono (fun s' h3 => ih (listed.setIfInBounds j true) s' hfree' (ready_mono hr (Ne.symm hji)) h3.1 ?_) h2
      rw [Array.setIfInBounds_comm _ _ hji]
      exact h3.2

theorem aqAny_lex {Q : St → Prop} : ∀ (l : List Oper) (k : Nat) (listed : Array Bool) (s : St), (∀ j, l[j]? = ops[k + j]?) →
    Region.lexFrom md ops l.length k listed = true → aqops P G rl ops Q l s → aqAny P G rl md ops Q l.length listed s
  | [], _, _, _, _, hB, h => ⟨by simpa [Region.lexFrom] using hB, h⟩
  | o :: l, k, listed, s, hl, hB, h => by
    have h0 : ops[k]? = some o := by simpa using (hl 0).symm
    simp only [List.length_cons, Region.lexFrom, Bool.and_eq_true] at hB
    obtain ⟨⟨hr, hf⟩, hB'⟩ := hB
    obtain ⟨v, hy, hK⟩ := aqop_iff.mp h
    exact aqAny_first h0 l.length listed s (Region.free_spec h0 hf) (by simpa using hr) hy
      (aqAny_lex l (k + 1) _ _ (fun j => by have := hl (j + 1); simpa [Nat.add_assoc, Nat.add_comm 1 j] using this) hB' hK)


/-! ### Regions that ask for an order, with effects: quiet operations that do not mind more blocks; blocks that are made; what has an effect and comes in its turn. -/

def effB (o : Oper) : Bool := match o.op with | .alloc _ | .box _ _ | .store _ _ _ => true | _ => false
def allocB (o : Oper) : Bool := (match o.op with | .alloc _ => true | _ => false) && o.guard.isNone

def St.ext (s : St) (L : Heap) : St := ⟨s.fr, s.nt, s.heap ++ L⟩

theorem ext_put (s : St) (d : Option Nat) (v : AV) (L : Heap) : (s.put d v).ext L = (s.ext L).put d v := by
  cases d with
  | none => rfl
  | some d => by_cases h : d < s.nt <;> simp [St.put, St.ext, h]

theorem ext_ext (s : St) (L M : Heap) : (s.ext L).ext M = s.ext (L ++ M) := by simp only [St.ext, List.append_assoc]
theorem ext_nil (s : St) : s.ext [] = s := by simp only [St.ext, List.append_nil]

/-- It yields v, however many blocks there are more. -/
def Stab (P : Program) (G : Nat → Option (List PV)) (rl : List String) (ops : Array Oper) (o : Oper) (v : AV) (s : St) : Prop := ∀ L, YieldsA P G rl ops o v (s.ext L)

theorem Stab.put {o : Oper} {s : St} {d : Option Nat} {u v : AV} (h : Stab P G rl ops o v s) (hd : ∀ t, d = some t → t ∉ o.looksAt ops) : Stab P G rl ops o v (s.put d u) := fun L => by
  rw [ext_put]; exact (YieldsA_put hd).mpr (h L)
theorem Stab.ext {o : Oper} {s : St} {v : AV} (h : Stab P G rl ops o v s) (M : Heap) : Stab P G rl ops o v (s.ext M) := fun L => by
  rw [ext_ext]; exact h _
theorem Stab.now {o : Oper} {s : St} {v : AV} (h : Stab P G rl ops o v s) : YieldsA P G rl ops o v s := by
  have := h []; rwa [ext_nil] at this

def axop (P : Program) (G : Nat → Option (List PV)) (rl : List String) (ops : Array Oper) (o : Oper) (K : St → Prop) (s : St) : Prop := if effB o = true then aop P G rl ops o K s else aqop P G rl ops o K s

def axOp (P : Program) (G : Nat → Option (List PV)) (rl : List String) (ops : Array Oper) (i : Nat) (K : St → Prop) (s : St) : Prop :=
  match ops[i]? with
  | none => K s
  | some o => axop P G rl ops o K s

theorem eff_call {o : Oper} (he : effB o = true) : callOf o = none := by
  unfold effB at he; unfold callOf
  split <;> simp_all

theorem aopE_mono {o : Oper} (he : effB o = true) {K K' : St → Prop} {s : St} (h : ∀ s, K s → K' s) (hh : aop P G rl ops o K s) : aop P G rl ops o K' s := by
  unfold aop at *
  split at hh
  · refine ⟨fun e => ?_, fun e => h _ (hh.2 e)⟩
    have := hh.1 e
    unfold aexec at *
    rw [eff_call he] at *
    dsimp only at *
    split at this
    · rename_i r h' e2; exact h _ this
    · exact this.elim
  · exact hh.elim

theorem axop_mono {o : Oper} {K K' : St → Prop} {s : St} (h : ∀ s, K s → K' s) (hh : axop P G rl ops o K s) : axop P G rl ops o K' s := by
  unfold axop at *
  split
  · rename_i he; rw [if_pos he] at hh; exact aopE_mono he h hh
  · rename_i he
    rw [if_neg he] at hh
    obtain ⟨v, h1, h2⟩ := aqop_iff.mp hh
    exact aqop_iff.mpr ⟨v, h1, h _ h2⟩

theorem axOp_mono {i : Nat} {s : St} {K K' : St → Prop} (h : ∀ s, K s → K' s) (hh : axOp P G rl ops i K s) : axOp P G rl ops i K' s := by
  unfold axOp at *
  split
  · exact h _ (by simpa [*] using hh)
  · rename_i o ho
    simp only [ho] at hh
    exact axop_mono h hh

def axAny (P : Program) (G : Nat → Option (List PV)) (rl : List String) (md : Region.Mode) (ops : Array Oper) (Q : St → Prop) : Nat → Array Bool → St → Prop
  | 0, listed, s => Region.ready md ops listed = [] ∧ Q s
  | fuel + 1, listed, s =>
    (Region.ready md ops listed = [] → Q s) ∧
    ∀ i ∈ Region.ready md ops listed, axOp P G rl ops i (axAny P G rl md ops Q fuel (listed.setIfInBounds i true)) s

theorem alloc_iff {o : Oper} (ha : allocB o = true) {K : St → Prop} {s : St} : aop P G rl ops o K s ↔ ∃ z, (∀ ρ, opA P rl o ρ s.heap = some (.ptr s.heap.length 0 0, s.heap ++ [z])) ∧ K ((s.ext [z]).put o.dst (.ptr s.heap.length 0 0)) := by
  obtain ⟨dst, op, type, pos, after, guard⟩ := o
  simp only [allocB, Bool.and_eq_true, Option.isNone_iff_eq_none] at ha
  obtain ⟨h1, rfl⟩ := ha
  cases op with
  | alloc t =>
    unfold aop wantA
    dsimp only
    unfold aexec callOf
    dsimp only
    simp only [opA]
    constructor
    · rintro ⟨h, _⟩
      have h := h trivial
      split at h
      · rename_i r h' e
        split at e
        · rename_i z et
          split at e
          · cases e
          · rename_i hz
            cases e
            exact ⟨_, fun _ => by rw [if_neg hz], h⟩
        · cases e
      · exact h.elim
    · rintro ⟨z, hz, hk⟩
      refine ⟨fun _ => ?_, fun e => by cases e⟩
      rw [hz (evalA G s)]
      exact hk
  | _ => simp at h1

theorem axOp_put {j : Nat} {oi oj : Oper} {v : AV} (hj : ops[j]? = some oj) (hap : oi.apart ops oj = true) (hq : effB oj = true → allocB oj = true) {K : St → Prop} {s : St}
    (hy : Stab P G rl ops oi v s) (h : axOp P G rl ops j K (s.put oi.dst v)) :
    axOp P G rl ops j (fun s' => Stab P G rl ops oi v s' ∧ K (s'.put oi.dst v)) s := by
  obtain ⟨h1, h2, h3⟩ := Oper.apart_spec hap
  unfold axOp at *
  simp only [hj] at *
  unfold axop at *
  split
  · rename_i he
    rw [if_pos he] at h
    obtain ⟨z, hz, hk⟩ := (alloc_iff (hq he)).mp h
    rw [St.put_heap] at hz hk
    refine (alloc_iff (hq he)).mpr ⟨z, hz, (hy.ext [z]).put h3, ?_⟩
    rw [ext_put, ← St.put_comm _ _ _ h2] at *
    exact hk
  · rename_i he
    rw [if_neg he] at h
    obtain ⟨u, hu, hk⟩ := aqop_iff.mp h
    refine aqop_iff.mpr ⟨u, (YieldsA_put h1).mp hu, hy.put h3, ?_⟩
    rw [← St.put_comm s v u h2]
    exact hk

theorem axAny_first {Q : St → Prop} {i : Nat} {oi : Oper} {v : AV} (hi : ops[i]? = some oi) (hq : effB oi = false) :
    ∀ (fuel : Nat) (listed : Array Bool) (s : St),
      (∀ j oj, ops[j]? = some oj → j ≠ i → listed.getD j true = false → (∀ e ∈ oj.after, Region.binds md e = true → e.on ≠ i) → oi.apart ops oj = true ∧ (effB oj = true → allocB oj = true)) →
      i ∈ Region.ready md ops listed → Stab P G rl ops oi v s →
      axAny P G rl md ops Q fuel (listed.setIfInBounds i true) (s.put oi.dst v) → axAny P G rl md ops Q (fuel + 1) listed s := by
  have step : ∀ {K : St → Prop} {s : St}, Stab P G rl ops oi v s → K (s.put oi.dst v) → axOp P G rl ops i K s := by
    intro K s hy hk
    unfold axOp
    simp only [hi]
    unfold axop
    rw [if_neg (by rw [hq]; decide)]
    exact aqop_iff.mpr ⟨v, hy.now, hk⟩
  intro fuel
  induction fuel with
  | zero =>
    intro listed s _ hr hy H
    refine ⟨fun h => (by rw [h] at hr; cases hr), fun j hj => ?_⟩
    by_cases hji : j = i
    · subst hji; exact step hy H
    · have := ready_mono hj hji
      rw [H.1] at this
      cases this
  | succ fuel ih =>
    intro listed s hfree hr hy H
    refine ⟨fun h => (by rw [h] at hr; cases hr), fun j hj => ?_⟩
    by_cases hji : j = i
    · subst hji; exact step hy H
    · have h1 := H.2 j (ready_mono hj hji)
      obtain ⟨hjun, oj, hoj, hall⟩ := mem_ready.1 hj
      have hnot : ∀ e ∈ oj.after, Region.binds md e = true → e.on ≠ i := fun e he hb heq => by
        have h1 := hall e he hb
        have h0 := (mem_ready.1 hr).1
        rw [heq] at h1
        rcases Nat.lt_or_ge i listed.size with h' | h'
        · simp [h'] at h0 h1; rw [h0] at h1; cases h1
        · simp [Array.getElem?_eq_none h'] at h1
      obtain ⟨g1, g2⟩ := hfree j oj hoj hji hjun hnot
      have h2 := axOp_put hoj g1 g2 hy h1
      have hfree' : ∀ k ok, ops[k]? = some ok → k ≠ i → (listed.setIfInBounds j true).getD k true = false →
          (∀ e ∈ ok.after, Region.binds md e = true → e.on ≠ i) → oi.apart ops ok = true ∧ (effB ok = true → allocB ok = true) := fun k ok hk hki hun hno => by
        refine hfree k ok hk hki ?_ hno
        by_cases hjk : j = k
        · subst hjk; exact hjun
        · rw [getD_set_ne true hjk] at hun; exact hun
      refine axOp_mono (fun s' h3 => ih (listed.setIfInBounds j true) s' hfree' (ready_mono hr (Ne.symm hji)) h3.1 ?_) h2
      rw [Array.setIfInBounds_comm _ _ hji]
      exact h3.2

def growB (md : Region.Mode) (ops : Array Oper) (listed : Array Bool) (i : Nat) : Bool :=
  (List.range ops.size).all fun j => j == i || listed.getD j true || match ops[j]? with
    | some oj => oj.after.any (fun e => Region.binds md e && e.on == i) || (!effB oj || allocB oj)
    | none => true

theorem growB_spec {i : Nat} {listed : Array Bool} (h : growB md ops listed i = true) (j : Nat) (oj : Oper)
    (hj : ops[j]? = some oj) (hne : j ≠ i) (hun : listed.getD j true = false) (hno : ∀ e ∈ oj.after, Region.binds md e = true → e.on ≠ i) : effB oj = true → allocB oj = true := by
  simp only [growB, List.all_eq_true, List.mem_range] at h
  have h1 := h j (Array.getElem?_eq_some_iff.1 hj).1
  simp only [hj, Bool.or_eq_true, beq_iff_eq, hne, false_or, hun, Bool.false_eq_true] at h1
  rcases h1 with h1 | h1
  · obtain ⟨e, he, hb⟩ := Array.any_eq_true'.1 h1
    simp only [Bool.and_eq_true, beq_iff_eq] at hb
    exact absurd hb.2 (hno e he hb.1)
  · intro he
    rw [he] at h1
    simpa using h1

/-- The operations in their text's order: quiet ones, stable; the others each in its turn alone. -/
def aeops (P : Program) (G : Nat → Option (List PV)) (rl : List String) (ops : Array Oper) (Q : St → Prop) : List Oper → St → Prop
  | [], s => Q s
  | o :: rest, s => if effB o = true then aop P G rl ops o (aeops P G rl ops Q rest) s else ∃ v, Stab P G rl ops o v s ∧ aeops P G rl ops Q rest (s.put o.dst v)

def lexE (md : Region.Mode) (ops : Array Oper) : Nat → Nat → Array Bool → Bool
  | 0, _, listed => (Region.ready md ops listed).isEmpty
  | n + 1, k, listed =>
    (match ops[k]? with
      | none => false
      | some o => if effB o then Region.ready md ops listed == [k] else (Region.ready md ops listed).contains k && (Region.free md ops listed k && growB md ops listed k)) && lexE md ops n (k + 1) (listed.setIfInBounds k true)

theorem axAny_lex {Q : St → Prop} : ∀ (l : List Oper) (k : Nat) (listed : Array Bool) (s : St), (∀ j, l[j]? = ops[k + j]?) →
    lexE md ops l.length k listed = true → aeops P G rl ops Q l s → axAny P G rl md ops Q l.length listed s
  | [], _, _, _, _, hB, h => ⟨by simpa [lexE] using hB, h⟩
  | o :: l, k, listed, s, hl, hB, h => by
    have h0 : ops[k]? = some o := by simpa using (hl 0).symm
    have hl' : ∀ j, l[j]? = ops[k + 1 + j]? := fun j => by have := hl (j + 1); simpa [Nat.add_assoc, Nat.add_comm 1 j] using this
    simp only [List.length_cons, lexE, h0, Bool.and_eq_true] at hB
    obtain ⟨hr, hB'⟩ := hB
    unfold aeops at h
    split at h
    · rename_i he
      rw [if_pos he] at hr
      have hr := beq_iff_eq.mp hr
      refine ⟨fun e => (by rw [hr] at e; cases e), fun i hi => ?_⟩
      rw [hr] at hi
      have : i = k := by simpa using hi
      subst this
      unfold axOp
      simp only [h0]
      unfold axop
      rw [if_pos he]
      exact aopE_mono he (fun s' hs' => axAny_lex l (i + 1) _ s' hl' hB' hs') h
    · rename_i he
      rw [if_neg he] at hr
      simp only [Bool.and_eq_true] at hr
      obtain ⟨hr, hf, hg⟩ := hr
      obtain ⟨v, hy, hK⟩ := h
      exact axAny_first h0 (by simpa using he) l.length listed s (fun j oj a1 a2 a3 a4 => ⟨Region.free_spec h0 hf j oj a1 a2 a3 a4, growB_spec hg j oj a1 a2 a3 a4⟩) (by simpa using hr) hy
        (axAny_lex l (k + 1) _ _ hl' hB' hK)


/-! ### Drawn regions, with blocks that are laid by for what they make -/

def slotB (ops : Array Oper) (k : Nat) : Nat := ((ops.toList.take k).filter allocB).length

def St.setB (s : St) (b : Nat) (z : List PV) : St := ⟨s.fr, s.nt, s.heap.set b (some ⟨1, z.map .p⟩)⟩

def zeroB (P : Program) (o : Oper) : Option (List PV) :=
  match o.op with
  | .alloc t => (match tinfo P t with
    | some ⟨_, _, _, some z⟩ => if z = [] then none else some z
    | _ => none)
  | _ => none

def allocR (P : Program) (o : Oper) (b : Nat) (K : St → Prop) (s : St) : Prop :=
  ∃ z, zeroB P o = some z ∧ s.heap[b]? = some (some ⟨0, []⟩) ∧ K ((s.setB b z).put o.dst (.ptr b 1 0))

def ropR (P : Program) (G : Nat → Option (List PV)) (rl : List String) (ops : Array Oper) (base i : Nat) (o : Oper) (K : St → Prop) (s : St) : Prop :=
  if allocB o = true then allocR P o (base + slotB ops i) K s else if effB o = true then aop P G rl ops o K s else aqop P G rl ops o K s

def ropI (P : Program) (G : Nat → Option (List PV)) (rl : List String) (ops : Array Oper) (base i : Nat) (K : St → Prop) (s : St) : Prop :=
  match ops[i]? with
  | none => K s
  | some o => ropR P G rl ops base i o K s

section
variable {base r : Nat}

theorem ropR_mono {i : Nat} {o : Oper} {K K' : St → Prop} {s : St} (h : ∀ s, K s → K' s) (hh : ropR P G rl ops base i o K s) : ropR P G rl ops base i o K' s := by
  unfold ropR at *
  split
  · rename_i ha; rw [if_pos ha] at hh; obtain ⟨z, h1, h2, h3⟩ := hh; exact ⟨z, h1, h2, h _ h3⟩
  · rename_i ha
    rw [if_neg ha] at hh
    split
    · rename_i he; rw [if_pos he] at hh; exact aopE_mono he h hh
    · rename_i he
      rw [if_neg he] at hh
      obtain ⟨v, h1, h2⟩ := aqop_iff.mp hh
      exact aqop_iff.mpr ⟨v, h1, h _ h2⟩

theorem ropI_mono {i : Nat} {s : St} {K K' : St → Prop} (h : ∀ s, K s → K' s) (hh : ropI P G rl ops base i K s) : ropI P G rl ops base i K' s := by
  unfold ropI at *
  split
  · exact h _ (by simpa [*] using hh)
  · rename_i o ho
    simp only [ho] at hh
    exact ropR_mono h hh

def ranyR (P : Program) (G : Nat → Option (List PV)) (rl : List String) (md : Region.Mode) (ops : Array Oper) (base : Nat) (Q : St → Prop) : Nat → Array Bool → St → Prop
  | 0, listed, s => Region.ready md ops listed = [] ∧ Q s
  | fuel + 1, listed, s =>
    (Region.ready md ops listed = [] → Q s) ∧
    ∀ i ∈ Region.ready md ops listed, ropI P G rl ops base i (ranyR P G rl md ops base Q fuel (listed.setIfInBounds i true)) s

/-- An operation that can be done now can be listed first, if it commutes with those that may be listed ahead of it. -/
theorem ranyR_first {Q : St → Prop} {i : Nat} (En : St → Prop) (T : St → St) (C : Nat → Oper → Prop) (D : Nat → Bool) (hstep : ∀ (s : St) (K : St → Prop), En s → K (T s) → ropI P G rl ops base i K s)
    (hcomm : ∀ j oj, ops[j]? = some oj → C j oj → ∀ (s : St) (K : St → Prop), En s → ropI P G rl ops base j K (T s) → ropI P G rl ops base j (fun s' => En s' ∧ K (T s')) s)
    (hD : ∀ j oj, ops[j]? = some oj → D j = true → ∃ e ∈ oj.after, Region.binds md e = true ∧ (e.on = i ∨ D e.on = true)) :
    ∀ (fuel : Nat) (listed : Array Bool) (s : St),
      (∀ j oj, ops[j]? = some oj → j ≠ i → listed.getD j true = false → D j = false → C j oj) → (∀ d, D d = true → listed.getD d false = false) →
      i ∈ Region.ready md ops listed → En s →
      ranyR P G rl md ops base Q fuel (listed.setIfInBounds i true) (T s) → ranyR P G rl md ops base Q (fuel + 1) listed s := by
  intro fuel
  induction fuel with
  | zero =>
    intro listed s _ _ hr hy H
    refine ⟨fun h => (by rw [h] at hr; cases hr), fun j hj => ?_⟩
    by_cases hji : j = i
    · subst hji; exact hstep _ _ hy H
    · have := ready_mono hj hji
      rw [H.1] at this
      cases this
  | succ fuel ih =>
    intro listed s hfree hinv hr hy H
    refine ⟨fun h => (by rw [h] at hr; cases hr), fun j hj => ?_⟩
    by_cases hji : j = i
    · subst hji; exact hstep _ _ hy H
    · have h1 := H.2 j (ready_mono hj hji)
      obtain ⟨hjun, oj, hoj, hall⟩ := mem_ready.1 hj
      have hDj : D j = false := by
        cases hd : D j with
        | false => rfl
        | true =>
          exfalso
          obtain ⟨e, he, hb, hor⟩ := hD j oj hoj hd
          have h1 := hall e he hb
          rcases hor with heq | heq
          · have h0 := (mem_ready.1 hr).1
            rw [heq] at h1
            rcases Nat.lt_or_ge i listed.size with h' | h'
            · simp [h'] at h0 h1; rw [h0] at h1; cases h1
            · simp [Array.getElem?_eq_none h'] at h1
          · rw [hinv _ heq] at h1; cases h1
      have h2 := hcomm j oj hoj (hfree j oj hoj hji hjun hDj) s _ hy h1
      have hfree' : ∀ k ok, ops[k]? = some ok → k ≠ i → (listed.setIfInBounds j true).getD k true = false → D k = false → C k ok := fun k ok hk hki hun hno => by
        refine hfree k ok hk hki ?_ hno
        by_cases hjk : j = k
        · subst hjk; exact hjun
        · rw [getD_set_ne true hjk] at hun; exact hun
      have hinv' : ∀ d, D d = true → (listed.setIfInBounds j true).getD d false = false := fun d hd => by
        have hjd : j ≠ d := fun e => by subst e; rw [hDj] at hd; cases hd
        rw [getD_set_ne false hjd]; exact hinv d hd
      refine ropI_mono (fun s' h3 => ih (listed.setIfInBounds j true) s' hfree' hinv' (ready_mono hr (Ne.symm hji)) h3.1 ?_) h2
      rw [Array.setIfInBounds_comm _ _ hji]
      exact h3.2

theorem setB_put (s : St) (d : Option Nat) (v : AV) (b : Nat) (z : List PV) : (s.put d v).setB b z = (s.setB b z).put d v := by
  cases d with
  | none => rfl
  | some d => by_cases h : d < s.nt <;> simp [St.put, St.setB, h]

theorem setB_comm (s : St) (b c : Nat) (z y : List PV) (h : b ≠ c) : (s.setB b z).setB c y = (s.setB c y).setB b z := by
  simp only [St.setB, List.set_comm _ _ h]

/-- The zeros of what is made, in the text's order. -/
def zsB (P : Program) (ops : Array Oper) : List (List PV) := (ops.toList.filter allocB).map fun o => (zeroB P o).getD []

/-- What the blocks that are laid by can hold: nothing yet, or zeros. -/
def canR (P : Program) (ops : Array Oper) (r : Nat) (R : Heap) : Prop :=
  R.length = r ∧ ∀ (j : Nat) (z : List PV), (zsB P ops)[j]? = some z → R[j]? = some (some ⟨0, []⟩) ∨ R[j]? = some (some ⟨1, z.map .p⟩)

def InvR (P : Program) (ops : Array Oper) (base r : Nat) (s : St) : Prop := s.heap.length = base + r ∧ canR P ops r (s.heap.drop base)

/-- It yields v, whatever the blocks that are laid by can hold. -/
def StabS (P : Program) (G : Nat → Option (List PV)) (rl : List String) (ops : Array Oper) (base r : Nat) (o : Oper) (v : AV) (s : St) : Prop :=
  ∀ R : Heap, canR P ops r R → YieldsA P G rl ops o v ⟨s.fr, s.nt, s.heap.take base ++ R⟩

/-- It yields v, whatever the heap. -/
def StabF (P : Program) (G : Nat → Option (List PV)) (rl : List String) (ops : Array Oper) (o : Oper) (v : AV) (s : St) : Prop := ∀ H : Heap, YieldsA P G rl ops o v ⟨s.fr, s.nt, H⟩

theorem put_at (s : St) (d : Option Nat) (u : AV) (X : Heap) : (⟨(s.put d u).fr, (s.put d u).nt, X⟩ : St) = (⟨s.fr, s.nt, X⟩ : St).put d u := by
  cases d with
  | none => rfl
  | some d => by_cases h : d < s.nt <;> simp [St.put, h]

theorem filter_slot {α : Type} (q : α → Bool) : ∀ (l : List α) (k : Nat) (o : α), l[k]? = some o → q o = true → (l.filter q)[((l.take k).filter q).length]? = some o := by
  intro l k o hk hq
  have hlt : k < l.length := getElem?_lt hk
  have e : l = l.take k ++ (o :: l.drop (k + 1)) := by
    have := List.drop_eq_getElem_cons hlt
    have ho : l[k] = o := by rw [List.getElem?_eq_getElem hlt] at hk; simpa using hk
    rw [← ho, ← this, List.take_append_drop]
  conv => lhs; arg 1; rw [e, List.filter_append]
  rw [List.getElem?_append_right (Nat.le_refl _), Nat.sub_self, List.filter_cons_of_pos hq]
  rfl

theorem zs_slot {k : Nat} {o : Oper} {z : List PV} (ho : ops[k]? = some o) (ha : allocB o = true) (hz : zeroB P o = some z) : (zsB P ops)[slotB ops k]? = some z := by
  have ho' : ops.toList[k]? = some o := by rw [Array.getElem?_toList]; exact ho
  have := filter_slot allocB ops.toList k o ho' ha
  unfold zsB slotB
  rw [List.getElem?_map, this]
  simp [hz]

theorem canR.fill {R : Heap} (h : canR P ops r R) {k : Nat} {o : Oper} {z : List PV} (ho : ops[k]? = some o) (ha : allocB o = true) (hz : zeroB P o = some z) (hlt : slotB ops k < R.length) : canR P ops r (R.set (slotB ops k) (some ⟨1, z.map .p⟩)) := by
  refine ⟨by rw [List.length_set]; exact h.1, fun j y hy => ?_⟩
  by_cases e : slotB ops k = j
  · subst e
    rw [zs_slot ho ha hz] at hy
    cases hy
    exact .inr (by rw [List.getElem?_set_self hlt])
  · rw [List.getElem?_set_ne e]; exact h.2 j y hy

theorem InvR.put {s : St} {d : Option Nat} {u : AV} (h : InvR P ops base r s) : InvR P ops base r (s.put d u) := by
  unfold InvR; rw [St.put_heap]; exact h
theorem InvR.fill {s : St} (h : InvR P ops base r s) {k : Nat} {o : Oper} {z : List PV} (ho : ops[k]? = some o) (ha : allocB o = true) (hz : zeroB P o = some z) (hb : s.heap[base + slotB ops k]? = some (some ⟨0, []⟩)) : InvR P ops base r (s.setB (base + slotB ops k) z) := by
  have hlt : base + slotB ops k < s.heap.length := getElem?_lt hb
  refine ⟨by simp only [St.setB, List.length_set]; exact h.1, ?_⟩
  simp only [St.setB]
  rw [List.drop_set, if_neg (by omega), Nat.add_sub_cancel_left]
  exact h.2.fill ho ha hz (by rw [List.length_drop]; omega)
theorem InvR.now {o : Oper} {s : St} {v : AV} (h : InvR P ops base r s) (hs : StabS P G rl ops base r o v s) : YieldsA P G rl ops o v s := by
  have := hs (s.heap.drop base) h.2
  rwa [List.take_append_drop] at this
theorem InvR.start {fr : Nat → Option AV} {nt : Nat} {hp : Heap} (hr : (zsB P ops).length = r) : InvR P ops hp.length r ⟨fr, nt, hp ++ List.replicate r (some ⟨0, []⟩)⟩ := by
  refine ⟨by simp, by simp, fun j z hz => .inl ?_⟩
  have : j < r := by rw [← hr]; exact getElem?_lt hz
  simp [this]

theorem StabS.put {o : Oper} {s : St} {d : Option Nat} {u v : AV} (h : StabS P G rl ops base r o v s) (hd : ∀ t, d = some t → t ∉ o.looksAt ops) : StabS P G rl ops base r o v (s.put d u) :=
  fun R hR => by rw [put_at, St.put_heap]; exact (YieldsA_put hd).mpr (h R hR)
theorem StabS.setB {o : Oper} {s : St} {v : AV} (h : StabS P G rl ops base r o v s) {b : Nat} (hb : base ≤ b) (z : List PV) : StabS P G rl ops base r o v (s.setB b z) := fun R hR => by
  have : (s.setB b z).heap.take base = s.heap.take base := by simp only [St.setB]; exact List.take_set_of_le hb
  rw [this]; exact h R hR
theorem StabF.put {o : Oper} {s : St} {d : Option Nat} {u v : AV} (h : StabF P G rl ops o v s) (hd : ∀ t, d = some t → t ∉ o.looksAt ops) : StabF P G rl ops o v (s.put d u) :=
  fun H => by rw [put_at]; exact (YieldsA_put hd).mpr (h H)

/-- It does not look at the heap. -/
def heapFree (o : Oper) : Bool := match o.op with | .extract _ _ | .move _ | .assign _ | .pick _ _ _ => true | _ => false
def storeB (o : Oper) : Bool := match o.op with | .store _ _ _ => true | _ => false

theorem opA_free {o : Oper} (hf : heapFree o = true) {ρ : Operand → Option AV} {H H' : Heap} {v : AV} (h : opA P rl o ρ H = some (v, H)) : opA P rl o ρ H' = some (v, H') := by
  obtain ⟨dst, op, type, pos, after, guard⟩ := o
  cases op with
  | extract t i =>
    simp only [opA] at *
    split at h
    · rename_i vs ht
      obtain ⟨x, hx, he⟩ := Option.map_eq_some_iff.mp h
      cases he
      rw [hx]; rfl
    · cases h
  | move x =>
    simp only [opA] at *
    obtain ⟨y, hy, he⟩ := Option.map_eq_some_iff.mp h
    cases he
    rw [hy]; rfl
  | assign x =>
    simp only [opA] at *
    obtain ⟨y, hy, he⟩ := Option.map_eq_some_iff.mp h
    cases he
    rw [hy]; rfl
  | pick c a b =>
    simp only [opA] at *
    split at h
    · rename_i t x y _ _ _
      cases h; rfl
    · cases h
  | _ => cases hf

theorem YieldsA_free {o : Oper} (hf : heapFree o = true) {fr : Nat → Option AV} {nt : Nat} {H H' : Heap} {v : AV} (h : YieldsA P G rl ops o v ⟨fr, nt, H⟩) : YieldsA P G rl ops o v ⟨fr, nt, H'⟩ := by
  have hc : callOf o = none := by
    unfold heapFree at hf; unfold callOf
    split <;> simp_all
  rcases h with ⟨h1, h2⟩ | h
  · refine .inl ⟨h1, ?_⟩
    unfold AQ at *
    rw [hc] at *
    exact opA_free hf h2
  · exact .inr h

theorem store_len {o : Oper} (hs : storeB o = true) {ρ : Operand → Option AV} {H H' : Heap} {v : AV} (h : opA P rl o ρ H = some (v, H')) : H'.length = H.length := by
  obtain ⟨dst, op, type, pos, after, guard⟩ := o
  cases op with
  | store t a x =>
    simp only [opA] at h
    split at h
    · obtain ⟨h2, hh, he⟩ := Option.map_eq_some_iff.mp h
      cases he
      unfold storeA at hh
      split at hh
      · obtain ⟨cells, _, hh⟩ := Option.bind_eq_some_iff.mp hh
        split at hh
        · cases hh; exact List.length_set
        · cases hh
      · cases hh
    · cases h
  | _ => cases hs

theorem free_comm {j : Nat} {oi oj : Oper} {v : AV} (hj : ops[j]? = some oj) (hap : oi.apart ops oj = true) (hq : effB oj = true → allocB oj = true ∨ storeB oj = true) (s : St) (K : St → Prop)
    (hy : StabF P G rl ops oi v s) (h : ropI P G rl ops base j K (s.put oi.dst v)) :
    ropI P G rl ops base j (fun s' => StabF P G rl ops oi v s' ∧ K (s'.put oi.dst v)) s := by
  obtain ⟨h1, h2, h3⟩ := Oper.apart_spec hap
  have hev : ∀ x ∈ oj.op.operands, evalA G (s.put oi.dst v) x = evalA G s x := fun x hx => evalA_put fun t ht e => h1 t ht (looks_op hx e)
  unfold ropI at *
  simp only [hj] at *
  unfold ropR at *
  split
  · rename_i ha
    rw [if_pos ha] at h
    obtain ⟨z, hz, hb, hk⟩ := h
    rw [St.put_heap] at hb
    refine ⟨z, hz, hb, StabF.put (s := s.setB _ z) hy h3, ?_⟩
    rw [setB_put, St.put_comm _ _ _ h2] at hk
    exact hk
  · rename_i ha
    rw [if_neg ha] at h
    split
    · rename_i he
      rw [if_pos he] at h
      unfold aop at *
      rw [wantA_put h1] at h
      split at h
      · rename_i b hb
        refine ⟨fun e => ?_, fun e => ⟨hy.put h3, ?_⟩⟩
        · have h := h.1 e
          unfold aexec at *
          rw [eff_call he] at *
          dsimp only at *
          rw [opA_congr hev, St.put_heap] at h
          split at h
          · rename_i u h' hop
            refine ⟨StabF.put (s := ⟨s.fr, s.nt, h'⟩) hy h3, ?_⟩
            rw [put_at, St.put_comm _ _ _ h2] at h
            exact h
          · exact h.elim
        · have h := h.2 e
          rw [St.put_comm _ _ _ h2] at h
          exact h
      · exact h.elim
    · rename_i he
      rw [if_neg he] at h
      obtain ⟨u, hu, hk⟩ := aqop_iff.mp h
      refine aqop_iff.mpr ⟨u, (YieldsA_put h1).mp hu, hy.put h3, ?_⟩
      rw [← St.put_comm s v u h2]
      exact hk

theorem quiet_comm {j : Nat} {oi oj : Oper} {v : AV} (hj : ops[j]? = some oj) (hap : oi.apart ops oj = true) (hq : effB oj = true → allocB oj = true) (s : St) (K : St → Prop)
    (hy : InvR P ops base r s ∧ StabS P G rl ops base r oi v s) (h : ropI P G rl ops base j K (s.put oi.dst v)) :
    ropI P G rl ops base j (fun s' => (InvR P ops base r s' ∧ StabS P G rl ops base r oi v s') ∧ K (s'.put oi.dst v)) s := by
  obtain ⟨h1, h2, h3⟩ := Oper.apart_spec hap
  unfold ropI at *
  simp only [hj] at h ⊢
  unfold ropR at *
  split
  · rename_i ha
    rw [if_pos ha] at h
    obtain ⟨z, hz, hb, hk⟩ := h
    rw [St.put_heap] at hb
    refine ⟨z, hz, hb, ⟨(hy.1.fill hj ha hz hb).put, (hy.2.setB (Nat.le_add_right _ _) z).put h3⟩, ?_⟩
    rw [setB_put, St.put_comm _ _ _ h2] at hk
    exact hk
  · rename_i ha
    rw [if_neg ha] at h
    split
    · rename_i he; exact absurd (hq he) ha
    · rename_i he
      rw [if_neg he] at h
      obtain ⟨u, hu, hk⟩ := aqop_iff.mp h
      refine aqop_iff.mpr ⟨u, (YieldsA_put h1).mp hu, ⟨hy.1.put, hy.2.put h3⟩, ?_⟩
      rw [← St.put_comm s v u h2]
      exact hk

theorem alloc_comm {i j : Nat} {oi oj : Oper} {z : List PV} (hj : ops[j]? = some oj) (hap : oi.apart ops oj = true) (ha : allocB oj = true) (hne : slotB ops j ≠ slotB ops i) (s : St) (K : St → Prop)
    (hy : s.heap[base + slotB ops i]? = some (some ⟨0, []⟩)) (h : ropI P G rl ops base j K ((s.setB (base + slotB ops i) z).put oi.dst (.ptr (base + slotB ops i) 1 0))) :
    ropI P G rl ops base j (fun s' => s'.heap[base + slotB ops i]? = some (some ⟨0, []⟩) ∧ K ((s'.setB (base + slotB ops i) z).put oi.dst (.ptr (base + slotB ops i) 1 0))) s := by
  obtain ⟨h1, h2, h3⟩ := Oper.apart_spec hap
  have hn : base + slotB ops i ≠ base + slotB ops j := by omega
  unfold ropI at *
  simp only [hj] at *
  unfold ropR at *
  rw [if_pos ha] at *
  obtain ⟨y, hz, hb, hk⟩ := h
  rw [St.put_heap] at hb
  simp only [St.setB, List.getElem?_set_ne hn] at hb
  refine ⟨y, hz, hb, ?_, ?_⟩
  · rw [St.put_heap]
    simp only [St.setB, List.getElem?_set_ne hn.symm]
    exact hy
  · rw [setB_put, setB_comm _ _ _ _ _ hn, St.put_comm _ _ _ h2, ← setB_put] at hk
    exact hk

/-- What comes behind an operation, through others. -/
def depStep (md : Region.Mode) (ops : Array Oper) (i : Nat) (D : List Nat) : List Nat :=
  (List.range ops.size).filter fun j => match ops[j]? with
    | some oj => oj.after.any fun e => Region.binds md e && (e.on == i || D.contains e.on)
    | none => false
def depL (md : Region.Mode) (ops : Array Oper) (i : Nat) : Nat → List Nat
  | 0 => []
  | n + 1 => depStep md ops i (depL md ops i n)

/-- May it be listed first? 'ok' is asked of each operation that is not behind it. -/
def firstB (md : Region.Mode) (ops : Array Oper) (listed : Array Bool) (i : Nat) (D : List Nat) (ok : Nat → Oper → Bool) : Bool :=
  (D.all fun d => listed.getD d false == false && match ops[d]? with
    | some od => od.after.any fun e => Region.binds md e && (e.on == i || D.contains e.on)
    | none => true) &&
  (List.range ops.size).all fun j => j == i || listed.getD j true || D.contains j || match ops[j]? with
    | some oj => ok j oj
    | none => true

theorem firstB_dep {i : Nat} {listed : Array Bool} {D : List Nat} {ok : Nat → Oper → Bool} (h : firstB md ops listed i D ok = true) (j : Nat) (oj : Oper) (hj : ops[j]? = some oj) (hd : D.contains j = true) :
    ∃ e ∈ oj.after, Region.binds md e = true ∧ (e.on = i ∨ D.contains e.on = true) := by
  simp only [firstB, Bool.and_eq_true, List.all_eq_true] at h
  have h1 := (h.1 j (by simpa using hd)).2
  simp only [hj] at h1
  obtain ⟨e, he, hb⟩ := Array.any_eq_true'.1 h1
  simp only [Bool.and_eq_true, Bool.or_eq_true, beq_iff_eq] at hb
  exact ⟨e, he, hb.1, hb.2⟩

theorem firstB_inv {i : Nat} {listed : Array Bool} {D : List Nat} {ok : Nat → Oper → Bool} (h : firstB md ops listed i D ok = true) (d : Nat) (hd : D.contains d = true) : listed.getD d false = false := by
  simp only [firstB, Bool.and_eq_true, List.all_eq_true] at h
  exact beq_iff_eq.mp (h.1 d (by simpa using hd)).1

theorem firstB_ok {i : Nat} {listed : Array Bool} {D : List Nat} {ok : Nat → Oper → Bool} (h : firstB md ops listed i D ok = true) (j : Nat) (oj : Oper) (hj : ops[j]? = some oj) (hne : j ≠ i) (hun : listed.getD j true = false) (hd : D.contains j = false) : ok j oj = true := by
  simp only [firstB, Bool.and_eq_true, List.all_eq_true, List.mem_range] at h
  have h1 := h.2 j (Array.getElem?_eq_some_iff.1 hj).1
  simp only [hj, Bool.or_eq_true, beq_iff_eq, hne, false_or, hun, hd, Bool.false_eq_true] at h1
  exact h1

def okA (ops : Array Oper) (i : Nat) (oi : Oper) (j : Nat) (oj : Oper) : Bool := oi.apart ops oj && (allocB oj && slotB ops j != slotB ops i)
def okQ (ops : Array Oper) (oi : Oper) (_ : Nat) (oj : Oper) : Bool := oi.apart ops oj && (!effB oj || allocB oj)
def okF (ops : Array Oper) (oi : Oper) (_ : Nat) (oj : Oper) : Bool := oi.apart ops oj && (!effB oj || (allocB oj || storeB oj))

theorem okA_spec {i j : Nat} {oi oj : Oper} (h : okA ops i oi j oj = true) : oi.apart ops oj = true ∧ allocB oj = true ∧ slotB ops j ≠ slotB ops i := by
  simpa [okA] using h
theorem okQ_spec {j : Nat} {oi oj : Oper} (h : okQ ops oi j oj = true) : oi.apart ops oj = true ∧ (effB oj = true → allocB oj = true) := by
  simp only [okQ, Bool.and_eq_true, Bool.or_eq_true] at h
  refine ⟨h.1, fun he => ?_⟩
  rcases h.2 with h1 | h1
  · rw [he] at h1; cases h1
  · exact h1
theorem okF_spec {j : Nat} {oi oj : Oper} (h : okF ops oi j oj = true) : oi.apart ops oj = true ∧ (effB oj = true → allocB oj = true ∨ storeB oj = true) := by
  simp only [okF, Bool.and_eq_true, Bool.or_eq_true] at h
  refine ⟨h.1, fun he => ?_⟩
  rcases h.2 with h1 | h1
  · rw [he] at h1; cases h1
  · exact h1

/-- The last operations: those with an effect, and those that do not look at the heap. -/
def arunT (P : Program) (G : Nat → Option (List PV)) (rl : List String) (ops : Array Oper) (Q : St → Prop) : List Nat → St → Prop
  | [], s => Q s
  | k :: rest, s => match ops[k]? with
    | none => False
    | some o => if effB o = true then allocB o = false ∧ aop P G rl ops o (arunT P G rl ops Q rest) s
      else heapFree o = true ∧ ∃ v, StabF P G rl ops o v s ∧ arunT P G rl ops Q rest (s.put o.dst v)

/-- The operations in a given order: quiet ones; blocks that are made; the rest, each in its turn alone. -/
def arun (P : Program) (G : Nat → Option (List PV)) (rl : List String) (ops : Array Oper) (base r : Nat) (Q : St → Prop) : List Nat → St → Prop
  | [], s => Q s
  | k :: rest, s => match ops[k]? with
    | none => False
    | some o => if allocB o = true then allocR P o (base + slotB ops k) (arun P G rl ops base r Q rest) s
      else if effB o = true then arunT P G rl ops Q (k :: rest) s
      else if heapFree o = true then ∃ v, StabF P G rl ops o v s ∧ arun P G rl ops base r Q rest (s.put o.dst v)
      else ∃ v, StabS P G rl ops base r o v s ∧ arun P G rl ops base r Q rest (s.put o.dst v)

def lexR (md : Region.Mode) (ops : Array Oper) : List Nat → Array Bool → Bool
  | [], listed => (Region.ready md ops listed).isEmpty
  | k :: rest, listed =>
    (match ops[k]? with
      | none => false
      | some o => if allocB o then (Region.ready md ops listed).contains k && firstB md ops listed k (depL md ops k ops.size) (okA ops k o)
        else if effB o then Region.ready md ops listed == [k]
        else (Region.ready md ops listed).contains k && firstB md ops listed k (depL md ops k ops.size) (if heapFree o then okF ops o else okQ ops o)) && lexR md ops rest (listed.setIfInBounds k true)

theorem free_first {Q : St → Prop} {k : Nat} {o : Oper} {v : AV} (h0 : ops[k]? = some o) (ha : ¬ allocB o = true) (he : ¬ effB o = true) (hh : heapFree o = true) {n : Nat} {listed : Array Bool} {s : St}
    (hr : (Region.ready md ops listed).contains k = true) (hf : firstB md ops listed k (depL md ops k ops.size) (okF ops o) = true) (hy : StabF P G rl ops o v s)
    (h : ranyR P G rl md ops base Q n (listed.setIfInBounds k true) (s.put o.dst v)) : ranyR P G rl md ops base Q (n + 1) listed s := by
  refine ranyR_first (i := k) (StabF P G rl ops o v) (fun s => s.put o.dst v) (fun j oj => o.apart ops oj = true ∧ (effB oj = true → allocB oj = true ∨ storeB oj = true)) (fun j => (depL md ops k ops.size).contains j) (fun s K hs hK => ?_)
    (fun j oj hj hc s K hs hK => free_comm hj hc.1 hc.2 s K hs hK) (firstB_dep hf) n listed s (fun j oj a1 a2 a3 a4 => okF_spec (firstB_ok hf j oj a1 a2 a3 a4)) (firstB_inv hf) (by simpa using hr) hy h
  unfold ropI
  simp only [h0]
  unfold ropR
  rw [if_neg ha, if_neg he]
  exact aqop_iff.mpr ⟨v, hs s.heap, hK⟩

theorem turn_first {Q : St → Prop} {k : Nat} {o : Oper} (h0 : ops[k]? = some o) (ha : ¬ allocB o = true) (he : effB o = true) {n : Nat} {listed : Array Bool} {s : St}
    (hr : (Region.ready md ops listed == [k]) = true) (h : aop P G rl ops o (ranyR P G rl md ops base Q n (listed.setIfInBounds k true)) s) : ranyR P G rl md ops base Q (n + 1) listed s := by
  have hr := beq_iff_eq.mp hr
  refine ⟨fun e => (by rw [hr] at e; cases e), fun i hi => ?_⟩
  rw [hr] at hi
  have : i = k := by simpa using hi
  subst this
  unfold ropI
  simp only [h0]
  unfold ropR
  rw [if_neg ha, if_pos he]
  exact h

theorem ranyR_lexT {Q : St → Prop} : ∀ (l : List Nat) (listed : Array Bool) (s : St), lexR md ops l listed = true → arunT P G rl ops Q l s → ranyR P G rl md ops base Q l.length listed s
  | [], listed, s, hB, h => ⟨by simpa [lexR] using hB, h⟩
  | k :: rest, listed, s, hB, h => by
    simp only [lexR, Bool.and_eq_true] at hB
    obtain ⟨hr, hB'⟩ := hB
    unfold arunT at h
    split at h
    · exact h.elim
    · rename_i o h0
      simp only [h0] at hr
      split at h
      · rename_i he
        obtain ⟨ha, h⟩ := h
        rw [if_neg (by rw [ha]; decide), if_pos he] at hr
        exact turn_first h0 (by rw [ha]; decide) he hr (aopE_mono he (fun s' hs' => ranyR_lexT rest _ s' hB' hs') h)
      · rename_i he
        obtain ⟨hh, v, hy, hK⟩ := h
        have ha : ¬ allocB o = true := by
          unfold heapFree at hh; unfold allocB
          split at hh <;> simp_all
        rw [if_neg ha, if_neg he] at hr
        simp only [Bool.and_eq_true, hh, if_true] at hr
        exact free_first h0 ha he hh hr.1 hr.2 hy (ranyR_lexT rest _ _ hB' hK)

theorem ranyR_lex {Q : St → Prop} : ∀ (l : List Nat) (listed : Array Bool) (s : St), lexR md ops l listed = true → InvR P ops base r s → arun P G rl ops base r Q l s → ranyR P G rl md ops base Q l.length listed s
  | [], listed, s, hB, _, h => ⟨by simpa [lexR] using hB, h⟩
  | k :: rest, listed, s, hB, hi, h => by
    have hB0 := hB
    simp only [lexR, Bool.and_eq_true] at hB
    obtain ⟨hr, hB'⟩ := hB
    unfold arun at h
    split at h
    · exact h.elim
    · rename_i o h0
      simp only [h0] at hr
      split at h
      · rename_i ha
        rw [if_pos ha] at hr
        simp only [Bool.and_eq_true] at hr
        obtain ⟨hr, hf⟩ := hr
        obtain ⟨z, hz, hb, hk⟩ := h
        refine ranyR_first (i := k) (fun s => s.heap[base + slotB ops k]? = some (some ⟨0, []⟩)) (fun s => (s.setB (base + slotB ops k) z).put o.dst (.ptr (base + slotB ops k) 1 0))
          (fun j oj => o.apart ops oj = true ∧ allocB oj = true ∧ slotB ops j ≠ slotB ops k) (fun j => (depL md ops k ops.size).contains j) (fun s K hs hK => ?_) (fun j oj hj hc s K hs hK => alloc_comm hj hc.1 hc.2.1 hc.2.2 s K hs hK) (firstB_dep hf) rest.length listed s
          (fun j oj a1 a2 a3 a4 => okA_spec (firstB_ok hf j oj a1 a2 a3 a4)) (firstB_inv hf) (by simpa using hr) hb (ranyR_lex rest _ _ hB' (hi.fill h0 ha hz hb).put hk)
        unfold ropI
        simp only [h0]
        unfold ropR
        rw [if_pos ha]
        exact ⟨z, hz, hs, hK⟩
      · rename_i ha
        split at h
        · exact ranyR_lexT (k :: rest) listed s hB0 h
        · rename_i he
          rw [if_neg ha, if_neg he] at hr
          simp only [Bool.and_eq_true] at hr
          obtain ⟨hr, hf⟩ := hr
          split at h
          · rename_i hh
            rw [if_pos hh] at hf
            obtain ⟨v, hy, hK⟩ := h
            exact free_first h0 ha he hh hr hf hy (ranyR_lex rest _ _ hB' hi.put hK)
          · rename_i hh
            rw [if_neg hh] at hf
            obtain ⟨v, hy, hK⟩ := h
            refine ranyR_first (i := k) (fun s => InvR P ops base r s ∧ StabS P G rl ops base r o v s) (fun s => s.put o.dst v) (fun j oj => o.apart ops oj = true ∧ (effB oj = true → allocB oj = true)) (fun j => (depL md ops k ops.size).contains j) (fun s K hs hK => ?_)
              (fun j oj hj hc s K hs hK => quiet_comm hj hc.1 hc.2 s K hs hK) (firstB_dep hf) rest.length listed s (fun j oj a1 a2 a3 a4 => okQ_spec (firstB_ok hf j oj a1 a2 a3 a4)) (firstB_inv hf) (by simpa using hr) ⟨hi, hy⟩ (ranyR_lex rest _ _ hB' hi.put hK)
            unfold ropI
            simp only [h0]
            unfold ropR
            rw [if_neg ha, if_neg he]
            exact aqop_iff.mpr ⟨v, hs.1.now hs.2, hK⟩
end

section
variable {ι ι0 : Nat → Nat × Nat} {h0 : Heap} {w w0 : World} {n0 : Nat} {s : St} {a : Act}

theorem aquiet_exec {o : Oper} {K : St → Prop} (hx : aquiet P G rl o K s) : aexec P G rl o K s := by
  unfold aquiet at hx
  unfold aexec
  cases hq : callOf o with
  | some q =>
    obtain ⟨f, args⟩ := q
    simp only [hq] at hx ⊢
    split at hx
    · rename_i g caps xs hf hxs
      obtain ⟨he, r, hc, hk⟩ := hx
      refine ⟨he, fun ι w vs hS hv => (hc ι w vs hS hv).mono ?_⟩
      rintro e w' ⟨v, r', h', ι', e1, ⟨rfl, rfl⟩, e2⟩
      exact ⟨v, _, _, ι', e1, hk, e2⟩
    · exact hx.elim
  | none =>
    simp only [hq] at hx ⊢
    split at hx
    · obtain ⟨rfl, hk⟩ := hx
      exact hk
    · exact hx.elim

theorem aqop_aop {o : Oper} {K : St → Prop} (hx : aqop P G rl ops o K s) : aop P G rl ops o K s := by
  unfold aqop at hx
  unfold aop
  split at hx
  · exact ⟨fun e => aquiet_exec (hx.1 e), hx.2⟩
  · exact hx.elim

theorem aqAny_sound {Q : St → Prop} {Q' : Exit → Act → World → Prop} (hK : ∀ s' ι' a' w', Q s' → Sim P G ι' s' a' w' → Evo n0 ι0 h0 w0 ι' s'.heap w' → Q' .normal a' w') :
    ∀ (fuel : Nat) (listed : Array Bool) (s : St) (ι : Nat → Nat × Nat) (a : Act) (w : World), Sim P G ι s a w → Evo n0 ι0 h0 w0 ι s.heap w →
      aqAny P G rl md ops Q fuel listed s → wpAny P md ops Q' fuel listed a w
  | 0, _, s, ι, a, w, hs, he, h => ⟨h.1, hK s ι a w h.2 hs he⟩
  | fuel + 1, listed, s, ι, a, w, hs, he, h => by
    refine ⟨fun h0 => hK s ι a w (h.1 h0) hs he, fun i hi => ?_⟩
    have h1 := h.2 i hi
    unfold aqOp at h1
    unfold wpOp
    split
    · rename_i ho; simp only [ho] at h1; exact aqAny_sound hK fuel _ s ι a w hs he h1
    · rename_i o ho
      simp only [ho] at h1
      exact aop_sound (rl := rl) (K := aqAny P G rl md ops Q fuel (listed.setIfInBounds i true)) hs he (fun s' ι' a' w' hk hs' he' => aqAny_sound hK fuel _ s' ι' a' w' hs' he' hk) (aqop_aop h1)

theorem axop_aop {o : Oper} {K : St → Prop} (hx : axop P G rl ops o K s) : aop P G rl ops o K s := by
  unfold axop at hx
  split at hx
  · exact hx
  · exact aqop_aop hx

theorem axAny_sound {Q : St → Prop} {Q' : Exit → Act → World → Prop} (hK : ∀ s' ι' a' w', Q s' → Sim P G ι' s' a' w' → Evo n0 ι0 h0 w0 ι' s'.heap w' → Q' .normal a' w') :
    ∀ (fuel : Nat) (listed : Array Bool) (s : St) (ι : Nat → Nat × Nat) (a : Act) (w : World), Sim P G ι s a w → Evo n0 ι0 h0 w0 ι s.heap w →
      axAny P G rl md ops Q fuel listed s → wpAny P md ops Q' fuel listed a w
  | 0, _, s, ι, a, w, hs, he, h => ⟨h.1, hK s ι a w h.2 hs he⟩
  | fuel + 1, listed, s, ι, a, w, hs, he, h => by
    refine ⟨fun h0 => hK s ι a w (h.1 h0) hs he, fun i hi => ?_⟩
    have h1 := h.2 i hi
    unfold axOp at h1
    unfold wpOp
    split
    · rename_i ho; simp only [ho] at h1; exact axAny_sound hK fuel _ s ι a w hs he h1
    · rename_i o ho
      simp only [ho] at h1
      exact aop_sound (rl := rl) (K := axAny P G rl md ops Q fuel (listed.setIfInBounds i true)) hs he (fun s' ι' a' w' hk hs' he' => axAny_sound hK fuel _ s' ι' a' w' hs' he' hk) (axop_aop h1)

theorem Sim.drew (hs : Sim P G ι s a w) : Sim P G ι s a { w with drawn := w.drawn + 1 } ∧ Evo s.heap.length ι s.heap w ι s.heap { w with drawn := w.drawn + 1 } := by
  obtain ⟨h1, h2⟩ := hs.hS.drew
  exact ⟨⟨h1, fun k x hx => by obtain ⟨v, p1, p2⟩ := hs.fr k x hx; exact ⟨v, p1, p2.evo h2⟩, hs.nt, hs.df⟩, h2⟩

theorem draw_sound {id : Nat} {Q : St → Prop} {Q' : Exit → Act → World → Prop} (hm : P.follows .mixedOrders = true) (hK : ∀ s' ι' a' w', Q s' → Sim P G ι' s' a' w' → Evo n0 ι0 h0 w0 ι' s'.heap w' → Q' .normal a' w')
    (hs : Sim P G ι s a w) (he : Evo n0 ι0 h0 w0 ι s.heap w) (hB : Region.lexB .any ops = true) (h : aqops P G rl ops Q ops.toList s) : (Code.region id ops true).wp P Q' a w := by
  simp only [Region.lexB, Bool.and_eq_true] at hB
  obtain ⟨d1, d2⟩ := hs.drew
  refine wp_region_any hm (aqAny_sound (rl := rl) hK _ _ s ι a _ d1 (he.trans d2 he.len) ?_)
  have := aqAny_lex (P := P) (G := G) (rl := rl) (md := .any) (Q := Q) ops.toList 0 (Array.replicate ops.size false) s (by simp) (by simpa using hB.2) h
  simpa using this

theorem drawE_sound {id : Nat} {Q : St → Prop} {Q' : Exit → Act → World → Prop} (hm : P.follows .mixedOrders = true) (hK : ∀ s' ι' a' w', Q s' → Sim P G ι' s' a' w' → Evo n0 ι0 h0 w0 ι' s'.heap w' → Q' .normal a' w')
    (hs : Sim P G ι s a w) (he : Evo n0 ι0 h0 w0 ι s.heap w) (hB : lexE .any ops ops.size 0 (Array.replicate ops.size false) = true) (h : aeops P G rl ops Q ops.toList s) : (Code.region id ops true).wp P Q' a w := by
  obtain ⟨d1, d2⟩ := hs.drew
  refine wp_region_any hm (axAny_sound (rl := rl) hK _ _ s ι a _ d1 (he.trans d2 he.len) ?_)
  have := axAny_lex (P := P) (G := G) (rl := rl) (md := .any) (Q := Q) ops.toList 0 (Array.replicate ops.size false) s (by simp) (by simpa using hB) h
  simpa using this

theorem alloc_at {b : Nat} {z : List PV} {o : Oper} {ρ : Operand → Value} {ι : Nat → Nat × Nat} {h : Heap} {w : World} (hS : SimH P G ι h w) (hz : zeroB P o = some z) (hb : h[b]? = some (some ⟨0, []⟩)) : Sound P G ι h w (execOp ρ o) (.ptr b 1 0) (h.set b (some ⟨1, z.map .p⟩)) := by
  obtain ⟨dst, op, type, pos, after, guard⟩ := o
  unfold zeroB at hz
  cases op with
  | alloc t =>
    dsimp only at hz
    split at hz
    · rename_i kk s1 b1 z' ht
      split at hz
      · cases hz
      · rename_i hne
        cases hz
        obtain ⟨zv, hzr, hzl, hzv⟩ := zero_rel ht rfl
        have hlt : b < h.length := getElem?_lt hb
        obtain ⟨q1, q2⟩ := hS.upd (h' := h.set b (some ⟨1, z.map .p⟩)) (ι' := fun i => if i = b then (w.heap.size, 0) else ι i) (w' := w.alloc (.cells zv.cells t)) b ⟨1, z.map .p⟩ w.heap.size 0 zv.cells t
          (.inr ⟨hlt, ⟨_, hb, Nat.zero_le _⟩, rfl⟩) (fun i => rfl) (.inl (Nat.le_refl _)) (by simpa using hne) (heap_alloc_new w _) (by simp [hzl]) (fun j x hx => by
            have hj : j < z.length := by have := getElem?_lt hx; simpa using this
            refine ⟨zv.cells[j]'(by omega), by rw [Nat.zero_add]; simp [show j < zv.cells.size by omega], ?_⟩
            simp only [List.getElem?_map, Option.map_eq_some_iff] at hx
            obtain ⟨y, hy, rfl⟩ := hx
            exact .p _ _ (hzv w _ j y _ hy (by simp [show j < zv.cells.size by omega])))
          (by simp) (fun k hk _ => by first | exact heap_alloc_old _ _ hk | exact heap_alloc_old _ _ _ hk) (fun bk hq hgg => by rw [hb] at hq; cases hq; cases hgg) rfl rfl rfl
        have hl : liveAt (h.set b (some ⟨1, z.map .p⟩)) b 1 := ⟨⟨1, z.map .p⟩, by simp [hlt], rfl⟩
        have hp := ptr_rel (ι := fun i => if i = b then (w.heap.size, 0) else ι i) (w := w.alloc (.cells zv.cells t)) hl 0
        refine op_value' (w' := w.alloc (.cells zv.cells t)) ?_ q1 (by simpa using hp) q2
        simp [Instr.alloc, Sem.run_bind, hzr w, newVar, newRow]
    · cases hz
  | _ => cases hz

theorem allocR_sound {o : Oper} {b : Nat} {K : St → Prop} {K' : Act → World → Prop} {Q' : Exit → Act → World → Prop} (ha : allocB o = true) (hs : Sim P G ι s a w) (he : Evo n0 ι0 h0 w0 ι s.heap w)
    (hK : ∀ s' ι' a' w', K s' → Sim P G ι' s' a' w' → Evo n0 ι0 h0 w0 ι' s'.heap w' → K' a' w') (hx : allocR P o b K s) :
    if Region.wanted o (yielded ops a.tmps) then o.wp P a w K' Q' ∨ (o.asks P a w ∧ LetsOut Q') else K' (a.put o.dst undef) w := by
  obtain ⟨z, hz, hb, hk⟩ := hx
  have hw : wantA ops o s = some true := by
    simp only [allocB, Bool.and_eq_true, Option.isNone_iff_eq_none] at ha
    unfold wantA; rw [ha.2]
  rw [wanted_eq hs hw]
  simp only [if_true]
  left
  obtain ⟨v, w', ι', hrun, hS', hr, he'⟩ := alloc_at (ρ := fun x => a.eval x) hs.hS hz hb
  have := hK _ ι' _ w' hk (hs.put hS' he' o.dst hr) (by rw [St.put_heap]; exact he.trans he' he.len)
  unfold Oper.wp
  rcases hrun with hrun | ⟨hrun, rfl⟩
  · rw [hrun]; exact this
  · rw [hrun]; exact this

theorem ranyR_sound {base : Nat} {Q : St → Prop} {Q' : Exit → Act → World → Prop} (hK : ∀ s' ι' a' w', Q s' → Sim P G ι' s' a' w' → Evo n0 ι0 h0 w0 ι' s'.heap w' → Q' .normal a' w') :
    ∀ (fuel : Nat) (listed : Array Bool) (s : St) (ι : Nat → Nat × Nat) (a : Act) (w : World), Sim P G ι s a w → Evo n0 ι0 h0 w0 ι s.heap w →
      ranyR P G rl md ops base Q fuel listed s → wpAny P md ops Q' fuel listed a w
  | 0, _, s, ι, a, w, hs, he, h => ⟨h.1, hK s ι a w h.2 hs he⟩
  | fuel + 1, listed, s, ι, a, w, hs, he, h => by
    refine ⟨fun h0 => hK s ι a w (h.1 h0) hs he, fun i hi => ?_⟩
    have h1 := h.2 i hi
    unfold ropI at h1
    unfold wpOp
    split
    · rename_i ho; simp only [ho] at h1; exact ranyR_sound hK fuel _ s ι a w hs he h1
    · rename_i o ho
      simp only [ho] at h1
      unfold ropR at h1
      split at h1
      · rename_i ha
        exact allocR_sound (K := ranyR P G rl md ops base Q fuel (listed.setIfInBounds i true)) ha hs he (fun s' ι' a' w' hk hs' he' => ranyR_sound hK fuel _ s' ι' a' w' hs' he' hk) h1
      · split at h1
        · exact aop_sound (rl := rl) (K := ranyR P G rl md ops base Q fuel (listed.setIfInBounds i true)) hs he (fun s' ι' a' w' hk hs' he' => ranyR_sound hK fuel _ s' ι' a' w' hs' he' hk) h1
        · exact aop_sound (rl := rl) (K := ranyR P G rl md ops base Q fuel (listed.setIfInBounds i true)) hs he (fun s' ι' a' w' hk hs' he' => ranyR_sound hK fuel _ s' ι' a' w' hs' he' hk) (aqop_aop h1)

theorem drawR_sound {id base r : Nat} {ord : List Nat} {Q : St → Prop} {Q' : Exit → Act → World → Prop} (hm : P.follows .mixedOrders = true) (hK : ∀ s' ι' a' w', Q s' → Sim P G ι' s' a' w' → Evo n0 ι0 h0 w0 ι' s'.heap w' → Q' .normal a' w')
    (hs : Sim P G ι s a w) (he : Evo n0 ι0 h0 w0 ι s.heap w) (hl : ord.length = ops.size) (hB : lexR .any ops ord (Array.replicate ops.size false) = true) (hi : InvR P ops base r s) (h : arun P G rl ops base r Q ord s) : (Code.region id ops true).wp P Q' a w := by
  obtain ⟨d1, d2⟩ := hs.drew
  have := ranyR_lex (P := P) (G := G) (rl := rl) (md := .any) (Q := Q) (base := base) (r := r) ord (Array.replicate ops.size false) s hB hi h
  rw [hl] at this
  exact wp_region_any hm (ranyR_sound (rl := rl) hK _ _ s ι a _ d1 (he.trans d2 he.len) this)

end
end

/-- Another way to say what is known: frames may forget, heaps may be let go or told otherwise. -/
def Ghost (P : Program) (G : Nat → Option (List PV)) (h0 : Heap) (s s' : St) : Prop :=
  ∀ ι a w ι0 w0, SimH P G ι0 h0 w0 → Sim P G ι s a w → Evo h0.length ι0 h0 w0 ι s.heap w → ∃ ι', Sim P G ι' s' a w ∧ Evo h0.length ι0 h0 w0 ι' s'.heap w

def thenA (K : St → Prop) (Q : Exit → St → Prop) : Exit → St → Prop
  | .normal, s => K s
  | e, s => Q e s

def blockA (id : Nat) (Q : Exit → St → Prop) : Exit → St → Prop
  | .exit i, s => if i = id then Q .normal s else Q (.exit i) s
  | e, s => Q e s

section
variable (P : Program) (G : Nat → Option (List PV)) (rl : List String) (h0 : Heap)

def condA (v : Option AV) (X Y : Prop) : Prop :=
  match v with
  | some (.p (.bool t)) => (t = true → X) ∧ (t = false → Y)
  | _ => False

/-- What code does to abstract states, in a function that began with the heap h0. -/
def awp : Code → (Exit → St → Prop) → St → Prop
  | .skip, Q, s => Q .normal s
  | .label _, Q, s => Q .normal s
  | .region _ ops draw, Q, s =>
    if draw then (Region.lexB .any ops = true ∧ aqops P G rl ops (Q .normal) ops.toList s) ∨ (lexE .any ops ops.size 0 (Array.replicate ops.size false) = true ∧ aeops P G rl ops (Q .normal) ops.toList s) ∨
      (∃ s1 base r ord, Ghost P G h0 s s1 ∧ ord.length = ops.size ∧ lexR .any ops ord (Array.replicate ops.size false) = true ∧ InvR P ops base r s1 ∧ arun P G rl ops base r (Q .normal) ord s1)
    else aops P G rl ops (Q .normal) ops.toList s
  | .seq a b, Q, s => ∃ J : St → Prop, awp a (thenA (fun s' => ∃ s1, Ghost P G h0 s' s1 ∧ J s1) Q) s ∧ ∀ s1, J s1 → awp b Q s1
  | .cond c x y, Q, s => condA (evalA G s c) (awp x Q s) (awp y Q s)
  | .block id c, Q, s => awp c (blockA id Q) s
  | .loop c, Q, s => ∃ I : Nat → St → Prop, (∃ n s1, Ghost P G h0 s s1 ∧ I n s1) ∧ ∀ n s, I n s → awp c (thenA (fun s' => ∃ m s1, m < n ∧ Ghost P G h0 s' s1 ∧ I m s1) Q) s
  | .exit id, Q, s => Q (.exit id) s
  | .ret, Q, s => Q .ret s
  | _, _, _ => False

end
end Go.Proofs.YtlophgkgmhcagaaDoor.AM
