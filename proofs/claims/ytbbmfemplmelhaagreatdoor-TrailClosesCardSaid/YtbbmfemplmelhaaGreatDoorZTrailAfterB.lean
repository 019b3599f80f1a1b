/- Proved here, in parts, for one law: contracts of the functions that the laws call, and the plain facts behind them. Conditions: none. -/
import Derived.Test.YtbbmfemplmelhaaGreatDoorZTrailAfterA
import Derived.Test.YtbbmfemplmelhaaGreatDoorProg
import Derived.KernelRfl
import Derived.IntWalk
set_option linter.unusedVariables false
set_option linter.unusedSimpArgs false
set_option linter.defProp false
set_option maxRecDepth 4000
set_option maxHeartbeats 4000000
namespace Go.Proofs.YtbbmfemplmelhaaGreatDoor.AM
open Go Go.Proofs
section
section
variable {P : Program} {G : Nat → Option (List PV)} {rl : List String} {ops : Array Oper} {md : Region.Mode}
theorem Q6 {ρ ρ' : Operand → Option AV} : ∀ {l : List Operand}, (∀ x ∈ l, ρ x = ρ' x) → K4 ρ l = K4 ρ' l
  | [], _ => rfl
  | x :: r, h => by simp only [K4]; rw [h x (by simp), Q6 (l := r) (fun y hy => h y (by simp [hy]))]
theorem lG {o : Oper} {ρ ρ' : Operand → Option AV} {h : Heap} (hc : ∀ x ∈ o.op.operands, ρ x = ρ' x) : opA P rl o ρ h = opA P rl o ρ' h := by
  obtain ⟨dst, op, type, pos, after, guard⟩ := o
  simp only at hc
  cases op with
  | move x => simp only [opA]; rw [hc x (by simp [Op.operands])]
  | assign x => simp only [opA]; rw [hc x (by simp [Op.operands])]
  | pick c x y => simp only [opA]; rw [hc c (by simp [Op.operands]), hc x (by simp [Op.operands]), hc y (by simp [Op.operands])]
  | alloc t => rfl
  | box t x => simp only [opA]; rw [hc x (by simp [Op.operands])]
  | build t ps =>
    have : (ps.toList.map fun q => (q.1, ρ q.2)) = (ps.toList.map fun q => (q.1, ρ' q.2)) := List.map_congr_left fun q hq => by
      rw [hc q.2 (by simp only [Op.operands, List.mem_toArray, List.mem_map]; exact ⟨q, hq, rfl⟩)]
    simp only [opA, this]
  | buildSlice t n ps =>
    have : (ps.toList.map fun q => (q.1, ρ q.2)) = (ps.toList.map fun q => (q.1, ρ' q.2)) := List.map_congr_left fun q hq => by
      rw [hc q.2 (by simp only [Op.operands, List.mem_toArray, List.mem_map]; exact ⟨q, hq, rfl⟩)]
    simp only [opA, this]
  | makeSlice t l c => simp only [opA]; rw [hc l (by simp [Op.operands]), hc c (by simp [Op.operands])]
  | load t x => simp only [opA]; rw [hc x (by simp [Op.operands])]
  | store t x y => simp only [opA]; rw [hc x (by simp [Op.operands]), hc y (by simp [Op.operands])]
  | nilCheck x => simp only [opA]; rw [hc x (by simp [Op.operands])]
  | binOp b t x y yt => simp only [opA]; rw [hc x (by simp [Op.operands]), hc y (by simp [Op.operands])]
  | unOp u t x => simp only [opA]; rw [hc x (by simp [Op.operands])]
  | convert a b x => simp only [opA]; rw [hc x (by simp [Op.operands])]
  | makeFunc fn first captured =>
    have : K4 ρ captured.toList = K4 ρ' captured.toList := Q6 fun x hx => hc x (by simp only [Op.operands, Array.mem_append]; exact .inr (by simpa using hx))
    cases fn <;> simp only [opA, this]
  | slice t x lo hi mx =>
    have h1 : ρ x = ρ' x := hc x (by simp [Op.operands])
    have h2 : lo.map ρ = lo.map ρ' := by cases lo with
      | none => rfl
      | some l => simp [hc l (by simp [Op.operands])]
    have h3 : hi.map ρ = hi.map ρ' := by cases hi with
      | none => rfl
      | some l => simp [hc l (by simp [Op.operands])]
    simp only [opA, h1, h2, h3]
  | fieldAddr t x f => simp only [opA]; rw [hc x (by simp [Op.operands])]
  | field t x f => simp only [opA]; rw [hc x (by simp [Op.operands])]
  | indexAddr t x y => simp only [opA]; rw [hc x (by simp [Op.operands]), hc y (by simp [Op.operands])]
  | index t x y => simp only [opA]; rw [hc x (by simp [Op.operands]), hc y (by simp [Op.operands])]
  | extract x i => simp only [opA]; rw [hc x (by simp [Op.operands])]
  | call c =>
    have : K4 ρ c.args.toList = K4 ρ' c.args.toList := Q6 fun x hx => hc x (by simp only [Op.operands, Call.operands, Array.mem_append]; exact .inr (by simpa using hx))
    simp only [opA, this]
  | makeMap t r => cases r <;> rfl
  | lookup t x ix b => cases b with
    | true => rfl
    | false => simp only [opA]; rw [hc x (by simp [Op.operands]), hc ix (by simp [Op.operands])]
  | mapUpdate t x ix y => simp only [opA]; rw [hc x (by simp [Op.operands]), hc ix (by simp [Op.operands]), hc y (by simp [Op.operands])]
  | _ => rfl
def AQ (P : Program) (G : Nat → Option (List PV)) (rl : List String) (o : Oper) (s : St) (v : AV) : Prop :=
  match L0 o with
  | some (f, args) => ∃ g caps xs, A5 G s f = some (.fn g caps) ∧ K4 (A5 G s) args.toList = some xs ∧ g8 P g ∧ d5 P G g (xs ++ caps) s.heap fun r' h' => r' = v ∧ h' = s.heap
  | none => opA P rl o (A5 G s) s.heap = some (v, s.heap)
def E3 (P : Program) (G : Nat → Option (List PV)) (rl : List String) (ops : Array Oper) (o : Oper) (v : AV) (s : St) : Prop :=
  (V0 ops o s = some true ∧ AQ P G rl o s v) ∨ (V0 ops o s = some false ∧ v = .undef)
theorem jv {o : Oper} {K : St → Prop} {s : St} : fG P G rl o K s ↔ ∃ v, AQ P G rl o s v ∧ K (s.put o.dst v) := by
  unfold fG AQ
  cases hq : L0 o with
  | some q =>
    obtain ⟨f, args⟩ := q
    dsimp only
    split
    · rename_i g caps xs hf hx
      constructor
      · rintro ⟨he, r, hc, hk⟩
        exact ⟨r, ⟨g, caps, xs, hf, hx, he, hc⟩, hk⟩
      · rintro ⟨r, ⟨g', caps', xs', hf', hx', he, hc⟩, hk⟩
        rw [hf] at hf'; cases hf'
        rw [hx] at hx'; cases hx'
        exact ⟨he, r, hc, hk⟩
    · rename_i hn
      constructor
      · exact fun h => h.elim
      · rintro ⟨r, ⟨g', caps', xs', hf', hx', he, hc⟩, hk⟩
        exact (hn _ _ _ hf' hx').elim
  | none =>
    dsimp only
    cases hop : opA P rl o (A5 G s) s.heap with
    | none =>
      constructor
      · exact fun h => h.elim
      · rintro ⟨v, hv, hk⟩; cases hv
    | some q =>
      obtain ⟨r, h'⟩ := q
      constructor
      · rintro ⟨rfl, hk⟩; exact ⟨r, rfl, hk⟩
      · rintro ⟨v, hv, hk⟩
        simp only [Option.some.injEq, Prod.mk.injEq] at hv
        obtain ⟨rfl, rfl⟩ := hv
        exact ⟨rfl, hk⟩
theorem s8 {o : Oper} {K : St → Prop} {s : St} : cL P G rl ops o K s ↔ ∃ v, E3 P G rl ops o v s ∧ K (s.put o.dst v) := by
  unfold cL E3
  cases hw : V0 ops o s with
  | none =>
    constructor
    · exact fun h => h.elim
    · rintro ⟨v, ⟨h1, h2⟩ | ⟨h1, rfl⟩, h3⟩ <;> cases h1
  | some b =>
    dsimp only
    cases b with
    | true =>
      constructor
      · rintro ⟨h1, _⟩
        obtain ⟨v, h3, h4⟩ := jv.mp (h1 rfl)
        exact ⟨v, .inl ⟨rfl, h3⟩, h4⟩
      · rintro ⟨v, ⟨_, h2⟩ | ⟨h1, _⟩, h3⟩
        · exact ⟨fun _ => jv.mpr ⟨v, h2, h3⟩, fun e => (by cases e)⟩
        · cases h1
    | false =>
      constructor
      · rintro ⟨_, h2⟩
        exact ⟨.undef, .inr ⟨rfl, rfl⟩, h2 rfl⟩
      · rintro ⟨v, ⟨h1, _⟩ | ⟨_, rfl⟩, h3⟩
        · cases h1
        · exact ⟨fun e => (by cases e), fun _ => h3⟩
theorem lH {s : St} {d : Option Nat} {v : AV} {x : Operand} (h : ∀ t, d = some t → x ≠ .tmp t) : A5 G (s.put d v) x = A5 G s x := by
  cases x with
  | tmp t =>
    cases d with
    | none => rfl
    | some d =>
      have hne : t ≠ d := fun e => h d rfl (by rw [e])
      simp only [A5, St.put]
      split
      · simp [upd, hne]
      · rfl
  | _ => rfl
theorem yQ {s : St} {d : Option Nat} {v : AV} {t : Nat} (h : ∀ e, d = some e → e ≠ t) : (s.put d v).fr t = s.fr t := by
  cases d with
  | none => rfl
  | some d =>
    have hne : t ≠ d := fun e => h d rfl e.symm
    simp only [St.put]
    split
    · simp [upd, hne]
    · rfl
theorem oP {o : Oper} {x : Operand} {t : Nat} (hx : x ∈ o.op.operands) (ht : x = .tmp t) : t ∈ o.looksAt ops := by
  subst ht
  simp only [Oper.looksAt, List.mem_append, List.mem_filterMap]
  exact .inl ⟨.tmp t, by simpa using hx, rfl⟩
theorem yR {o : Oper} {s : St} {d : Option Nat} {u v : AV} (hd : ∀ t, d = some t → t ∉ o.looksAt ops) : AQ P G rl o (s.put d u) v ↔ AQ P G rl o s v := by
  have hev : ∀ x ∈ o.op.operands, A5 G (s.put d u) x = A5 G s x := fun x hx => lH fun t ht e => hd t ht (oP hx e)
  unfold AQ
  cases hq : L0 o with
  | some q =>
    obtain ⟨f, args⟩ := q
    obtain ⟨ats, ho⟩ := bL hq
    rw [ho] at hev
    have h1 : A5 G (s.put d u) f = A5 G s f := hev f (by simp [Op.operands, Call.operands])
    have h2 : K4 (A5 G (s.put d u)) args.toList = K4 (A5 G s) args.toList := Q6 fun x hx => hev x (by simp only [Op.operands, Call.operands, Array.mem_append]; exact .inr (by simpa using hx))
    dsimp only
    rw [h1, h2, St.put_heap]
  | none =>
    dsimp only
    rw [lG hev, St.put_heap]
theorem lI {o : Oper} {s : St} {d : Option Nat} {u : AV} (hd : ∀ t, d = some t → t ∉ o.looksAt ops) : V0 ops o (s.put d u) = V0 ops o s := by
  unfold V0
  cases hg : o.guard with
  | none => rfl
  | some q =>
    obtain ⟨j, want⟩ := q
    have : ax ops (s.put d u) j = ax ops s j := by
      unfold ax
      cases hq : (ops[j]?).bind (·.dst) with
      | none => rfl
      | some t =>
        simp only [Option.bind_some]
        refine yQ fun e he heq => hd e he ?_
        simp [Oper.looksAt, hg, hq, heq]
    simp only [this]
theorem F6 {o : Oper} {s : St} {d : Option Nat} {u v : AV} (hd : ∀ t, d = some t → t ∉ o.looksAt ops) : E3 P G rl ops o v (s.put d u) ↔ E3 P G rl ops o v s := by
  unfold E3
  rw [lI hd, yR hd]
theorem St.put_comm (s : St) {x y : Option Nat} (v u : AV) (h : ∀ d, x = some d → y ≠ some d) : (s.put x v).put y u = (s.put y u).put x v := by
  cases x with
  | none => rfl
  | some d =>
    cases y with
    | none => rfl
    | some e =>
      have hne : d ≠ e := fun he => h d rfl (he ▸ rfl)
      simp only [St.put]
      by_cases h1 : d < s.nt <;> by_cases h2 : e < s.nt <;> simp only [h1, h2, if_true, if_false]
      congr 1
      funext k
      simp only [upd]
      by_cases k1 : k = d <;> by_cases k2 : k = e <;> simp_all
def ld (P : Program) (G : Nat → Option (List PV)) (rl : List String) (ops : Array Oper) (i : Nat) (K : St → Prop) (s : St) : Prop :=
  match ops[i]? with
  | none => K s
  | some o => cL P G rl ops o K s
theorem tJ {i : Nat} {s : St} {K K' : St → Prop} (h : ∀ s, K s → K' s) (hh : ld P G rl ops i K s) : ld P G rl ops i K' s := by
  unfold ld at *
  split
  · exact h _ (by simpa [*] using hh)
  · rename_i o ho
    simp only [ho] at hh
    obtain ⟨v, h1, h2⟩ := s8.mp hh
    exact s8.mpr ⟨v, h1, h _ h2⟩
def lJ (P : Program) (G : Nat → Option (List PV)) (rl : List String) (md : Region.Mode) (ops : Array Oper) (Q : St → Prop) : Nat → Array Bool → St → Prop
  | 0, listed, s => Region.ready md ops listed = [] ∧ Q s
  | fuel + 1, listed, s =>
    (Region.ready md ops listed = [] → Q s) ∧
    ∀ i ∈ Region.ready md ops listed, ld P G rl ops i (lJ P G rl md ops Q fuel (listed.setIfInBounds i true)) s
theorem vu {j : Nat} {oi oj : Oper} {v : AV} (hj : ops[j]? = some oj) (hap : oi.apart ops oj = true) {K : St → Prop} {s : St}
    (hy : E3 P G rl ops oi v s) (h : ld P G rl ops j K (s.put oi.dst v)) :
    ld P G rl ops j (fun s' => E3 P G rl ops oi v s' ∧ K (s'.put oi.dst v)) s := by
  obtain ⟨h1, h2, h3⟩ := Oper.apart_spec hap
  unfold ld at *
  simp only [hj] at *
  obtain ⟨u, hu, hk⟩ := s8.mp h
  refine s8.mpr ⟨u, (F6 h1).mp hu, (F6 h3).mpr hy, ?_⟩
  rw [← St.put_comm s v u h2]
  exact hk
theorem oQ {Q : St → Prop} {i : Nat} {oi : Oper} {v : AV} (hi : ops[i]? = some oi) :
    ∀ (fuel : Nat) (listed : Array Bool) (s : St),
      (∀ j oj, ops[j]? = some oj → j ≠ i → listed.getD j true = false → (∀ e ∈ oj.after, Region.binds md e = true → e.on ≠ i) → oi.apart ops oj = true) →
      i ∈ Region.ready md ops listed → E3 P G rl ops oi v s →
      lJ P G rl md ops Q fuel (listed.setIfInBounds i true) (s.put oi.dst v) → lJ P G rl md ops Q (fuel + 1) listed s := by
  have step : ∀ {K : St → Prop} {s : St}, E3 P G rl ops oi v s → K (s.put oi.dst v) → ld P G rl ops i K s := by
    intro K s hy hk
    unfold ld
    simp only [hi]
    exact s8.mpr ⟨v, hy, hk⟩
  intro fuel
  induction fuel with
  | zero =>
    intro listed s _ hr hy H
    refine ⟨fun h => (by rw [h] at hr; cases hr), fun j hj => ?_⟩
    by_cases hji : j = i
    · subst hji; exact step hy H
    · have := ready_mono hj hji
      rw [H.1] at this
      cases this
  | succ fuel ih =>
    intro listed s hfree hr hy H
    refine ⟨fun h => (by rw [h] at hr; cases hr), fun j hj => ?_⟩
    by_cases hji : j = i
    · subst hji; exact step hy H
    · have h1 := H.2 j (ready_mono hj hji)
      obtain ⟨hjun, oj, hoj, hall⟩ := mem_ready.1 hj
      have hnot : ∀ e ∈ oj.after, Region.binds md e = true → e.on ≠ i := fun e he hb heq => by
        have h1 := hall e he hb
        have h0 := (mem_ready.1 hr).1
        rw [heq] at h1
        rcases Nat.lt_or_ge i listed.size with h' | h'
        · simp [h'] at h0 h1; rw [h0] at h1; cases h1
        · simp [Array.getElem?_eq_none h'] at h1
      have h2 := vu hoj (hfree j oj hoj hji hjun hnot) hy h1
      have hfree' : ∀ k ok, ops[k]? = some ok → k ≠ i → (listed.setIfInBounds j true).getD k true = false →
          (∀ e ∈ ok.after, Region.binds md e = true → e.on ≠ i) → oi.apart ops ok = true := fun k ok hk hki hun hno => by
        refine hfree k ok hk hki ?_ hno
        by_cases hjk : j = k
        · subst hjk; exact hjun
        · rw [getD_set_ne true hjk] at hun; exact hun
      refine tJ (fun s' h3 => ih (listed.setIfInBounds j true) s' hfree' (ready_mono hr (Ne.symm hji)) h3.1 ?_) h2
      rw [Array.setIfInBounds_comm _ _ hji]
      exact h3.2
theorem lK {Q : St → Prop} : ∀ (l : List Oper) (k : Nat) (listed : Array Bool) (s : St), (∀ j, l[j]? = ops[k + j]?) →
    Region.lexFrom md ops l.length k listed = true → k8 P G rl ops Q l s → lJ P G rl md ops Q l.length listed s
  | [], _, _, _, _, hB, h => ⟨by simpa [Region.lexFrom] using hB, h⟩
  | o :: l, k, listed, s, hl, hB, h => by
    have h0 : ops[k]? = some o := by simpa using (hl 0).symm
    simp only [List.length_cons, Region.lexFrom, Bool.and_eq_true] at hB
    obtain ⟨⟨hr, hf⟩, hB'⟩ := hB
    obtain ⟨v, hy, hK⟩ := s8.mp h
    exact oQ h0 l.length listed s (Region.free_spec h0 hf) (by simpa using hr) hy
      (lK l (k + 1) _ _ (fun j => by have := hl (j + 1); simpa [Nat.add_assoc, Nat.add_comm 1 j] using this) hB' hK)
def Z9 (o : Oper) : Bool := match o.op with | .alloc _ | .box _ _ | .store _ _ _ | .makeMap _ _ | .mapUpdate _ _ _ _ => true | .call ⟨.value _, _, _⟩ => o.type == 0 | .call ⟨.builtin .append, _, _⟩ => true | _ => false
def r6 (o : Oper) : Bool := (match o.op with | .alloc _ => true | _ => false) && o.guard.isNone
def St.ext (s : St) (L : Heap) : St := ⟨s.fr, s.nt, s.heap ++ L⟩
theorem sH (s : St) (d : Option Nat) (v : AV) (L : Heap) : (s.put d v).ext L = (s.ext L).put d v := by
  cases d with
  | none => rfl
  | some d => by_cases h : d < s.nt <;> simp [St.put, St.ext, h]
theorem xn (s : St) (L M : Heap) : (s.ext L).ext M = s.ext (L ++ M) := by simp only [St.ext, List.append_assoc]
theorem xo (s : St) : s.ext [] = s := by simp only [St.ext, List.append_nil]
def fN (P : Program) (G : Nat → Option (List PV)) (rl : List String) (ops : Array Oper) (o : Oper) (v : AV) (s : St) : Prop := ∀ L, E3 P G rl ops o v (s.ext L)
theorem fN.put {o : Oper} {s : St} {d : Option Nat} {u v : AV} (h : fN P G rl ops o v s) (hd : ∀ t, d = some t → t ∉ o.looksAt ops) : fN P G rl ops o v (s.put d u) := fun L => by
  rw [sH]; exact (F6 hd).mpr (h L)
theorem fN.ext {o : Oper} {s : St} {v : AV} (h : fN P G rl ops o v s) (M : Heap) : fN P G rl ops o v (s.ext M) := fun L => by
  rw [xn]; exact h _
theorem fN.now {o : Oper} {s : St} {v : AV} (h : fN P G rl ops o v s) : E3 P G rl ops o v s := by
  have := h []; rwa [xo] at this
def mZ (P : Program) (G : Nat → Option (List PV)) (rl : List String) (ops : Array Oper) (o : Oper) (K : St → Prop) (s : St) : Prop := if Z9 o = true then aop P G rl ops o K s else cL P G rl ops o K s
def jw (P : Program) (G : Nat → Option (List PV)) (rl : List String) (ops : Array Oper) (i : Nat) (K : St → Prop) (s : St) : Prop :=
  match ops[i]? with
  | none => K s
  | some o => mZ P G rl ops o K s
theorem gX {K K' : St → Prop} {o : Oper} {s : St} (hk : ∀ s, K s → K' s) (h : W9 P G rl o K s) : W9 P G rl o K' s := by
  unfold W9 at *
  cases hc : L0 o with
  | some q =>
    obtain ⟨f, args⟩ := q
    simp only [hc] at h ⊢
    split at h
    · exact ⟨h.1, fun ι w vs hS hv => (h.2 ι w vs hS hv).mono fun e w' ⟨v, r, h', ι', e1, e2, e3⟩ => ⟨v, r, h', ι', e1, hk _ e2, e3⟩⟩
    · exact h
  | none =>
    simp only [hc] at h ⊢
    split at h
    · exact hk _ h
    · exact h
theorem fO {o : Oper} {K K' : St → Prop} {s : St} (h : ∀ s, K s → K' s) (hh : aop P G rl ops o K s) : aop P G rl ops o K' s := by
  unfold aop at *
  split at hh
  · exact ⟨fun e => gX h (hh.1 e), fun e => h _ (hh.2 e)⟩
  · exact hh.elim
theorem fP {o : Oper} (he : Z9 o = true) {K K' : St → Prop} {s : St} (h : ∀ s, K s → K' s) (hh : aop P G rl ops o K s) : aop P G rl ops o K' s := by
  unfold aop at *
  split at hh
  · exact ⟨fun e => gX h (hh.1 e), fun e => h _ (hh.2 e)⟩
  · exact hh.elim
theorem tK {o : Oper} {K K' : St → Prop} {s : St} (h : ∀ s, K s → K' s) (hh : mZ P G rl ops o K s) : mZ P G rl ops o K' s := by
  unfold mZ at *
  split
  · rename_i he; rw [if_pos he] at hh; exact fP he h hh
  · rename_i he
    rw [if_neg he] at hh
    obtain ⟨v, h1, h2⟩ := s8.mp hh
    exact s8.mpr ⟨v, h1, h _ h2⟩
theorem tL {i : Nat} {s : St} {K K' : St → Prop} (h : ∀ s, K s → K' s) (hh : jw P G rl ops i K s) : jw P G rl ops i K' s := by
  unfold jw at *
  split
  · exact h _ (by simpa [*] using hh)
  · rename_i o ho
    simp only [ho] at hh
    exact tK h hh
def lL (P : Program) (G : Nat → Option (List PV)) (rl : List String) (md : Region.Mode) (ops : Array Oper) (Q : St → Prop) : Nat → Array Bool → St → Prop
  | 0, listed, s => Region.ready md ops listed = [] ∧ Q s
  | fuel + 1, listed, s =>
    (Region.ready md ops listed = [] → Q s) ∧
    ∀ i ∈ Region.ready md ops listed, jw P G rl ops i (lL P G rl md ops Q fuel (listed.setIfInBounds i true)) s
theorem lM {o : Oper} (ha : r6 o = true) {K : St → Prop} {s : St} : aop P G rl ops o K s ↔ ∃ z, (∀ ρ, opA P rl o ρ s.heap = some (.ptr s.heap.length 0 0, s.heap ++ [z])) ∧ K ((s.ext [z]).put o.dst (.ptr s.heap.length 0 0)) := by
  obtain ⟨dst, op, type, pos, after, guard⟩ := o
  simp only [r6, Bool.and_eq_true, Option.isNone_iff_eq_none] at ha
  obtain ⟨h1, rfl⟩ := ha
  cases op with
  | alloc t =>
    unfold aop V0
    dsimp only
    unfold W9 L0
    dsimp only
    simp only [opA]
    constructor
    · rintro ⟨h, _⟩
      have h := h trivial
      split at h
      · rename_i r h' e
        split at e
        · rename_i z et
          split at e
          · cases e
          · rename_i hz
            cases e
            exact ⟨_, fun _ => by rw [if_neg hz], h⟩
        · cases e
      · exact h.elim
    · rintro ⟨z, hz, hk⟩
      refine ⟨fun _ => ?_, fun e => by cases e⟩
      rw [hz (A5 G s)]
      exact hk
  | _ => simp at h1
theorem vv {j : Nat} {oi oj : Oper} {v : AV} (hj : ops[j]? = some oj) (hap : oi.apart ops oj = true) (hq : Z9 oj = true → r6 oj = true) {K : St → Prop} {s : St}
    (hy : fN P G rl ops oi v s) (h : jw P G rl ops j K (s.put oi.dst v)) :
    jw P G rl ops j (fun s' => fN P G rl ops oi v s' ∧ K (s'.put oi.dst v)) s := by
  obtain ⟨h1, h2, h3⟩ := Oper.apart_spec hap
  unfold jw at *
  simp only [hj] at *
  unfold mZ at *
  split
  · rename_i he
    rw [if_pos he] at h
    obtain ⟨z, hz, hk⟩ := (lM (hq he)).mp h
    rw [St.put_heap] at hz hk
    refine (lM (hq he)).mpr ⟨z, hz, (hy.ext [z]).put h3, ?_⟩
    rw [sH, ← St.put_comm _ _ _ h2] at *
    exact hk
  · rename_i he
    rw [if_neg he] at h
    obtain ⟨u, hu, hk⟩ := s8.mp h
    refine s8.mpr ⟨u, (F6 h1).mp hu, hy.put h3, ?_⟩
    rw [← St.put_comm s v u h2]
    exact hk
theorem oS {Q : St → Prop} {i : Nat} {oi : Oper} {v : AV} (hi : ops[i]? = some oi) (hq : Z9 oi = false) :
    ∀ (fuel : Nat) (listed : Array Bool) (s : St),
      (∀ j oj, ops[j]? = some oj → j ≠ i → listed.getD j true = false → (∀ e ∈ oj.after, Region.binds md e = true → e.on ≠ i) → oi.apart ops oj = true ∧ (Z9 oj = true → r6 oj = true)) →
      i ∈ Region.ready md ops listed → fN P G rl ops oi v s →
      lL P G rl md ops Q fuel (listed.setIfInBounds i true) (s.put oi.dst v) → lL P G rl md ops Q (fuel + 1) listed s := by
  have step : ∀ {K : St → Prop} {s : St}, fN P G rl ops oi v s → K (s.put oi.dst v) → jw P G rl ops i K s := by
    intro K s hy hk
    unfold jw
    simp only [hi]
    unfold mZ
    rw [if_neg (by rw [hq]; decide)]
    exact s8.mpr ⟨v, hy.now, hk⟩
  intro fuel
  induction fuel with
  | zero =>
    intro listed s _ hr hy H
    refine ⟨fun h => (by rw [h] at hr; cases hr), fun j hj => ?_⟩
    by_cases hji : j = i
    · subst hji; exact step hy H
    · have := ready_mono hj hji
      rw [H.1] at this
      cases this
  | succ fuel ih =>
    intro listed s hfree hr hy H
    refine ⟨fun h => (by rw [h] at hr; cases hr), fun j hj => ?_⟩
    by_cases hji : j = i
    · subst hji; exact step hy H
    · have h1 := H.2 j (ready_mono hj hji)
      obtain ⟨hjun, oj, hoj, hall⟩ := mem_ready.1 hj
      have hnot : ∀ e ∈ oj.after, Region.binds md e = true → e.on ≠ i := fun e he hb heq => by
        have h1 := hall e he hb
        have h0 := (mem_ready.1 hr).1
        rw [heq] at h1
        rcases Nat.lt_or_ge i listed.size with h' | h'
        · simp [h'] at h0 h1; rw [h0] at h1; cases h1
        · simp [Array.getElem?_eq_none h'] at h1
      obtain ⟨g1, g2⟩ := hfree j oj hoj hji hjun hnot
      have h2 := vv hoj g1 g2 hy h1
      have hfree' : ∀ k ok, ops[k]? = some ok → k ≠ i → (listed.setIfInBounds j true).getD k true = false →
          (∀ e ∈ ok.after, Region.binds md e = true → e.on ≠ i) → oi.apart ops ok = true ∧ (Z9 ok = true → r6 ok = true) := fun k ok hk hki hun hno => by
        refine hfree k ok hk hki ?_ hno
        by_cases hjk : j = k
        · subst hjk; exact hjun
        · rw [getD_set_ne true hjk] at hun; exact hun
      refine tL (fun s' h3 => ih (listed.setIfInBounds j true) s' hfree' (ready_mono hr (Ne.symm hji)) h3.1 ?_) h2
      rw [Array.setIfInBounds_comm _ _ hji]
      exact h3.2
def vw (md : Region.Mode) (ops : Array Oper) (listed : Array Bool) (i : Nat) : Bool :=
  (List.range ops.size).all fun j => j == i || listed.getD j true || match ops[j]? with
    | some oj => oj.after.any (fun e => Region.binds md e && e.on == i) || (!Z9 oj || r6 oj)
    | none => true
theorem qN {i : Nat} {listed : Array Bool} (h : vw md ops listed i = true) (j : Nat) (oj : Oper)
    (hj : ops[j]? = some oj) (hne : j ≠ i) (hun : listed.getD j true = false) (hno : ∀ e ∈ oj.after, Region.binds md e = true → e.on ≠ i) : Z9 oj = true → r6 oj = true := by
  simp only [vw, List.all_eq_true, List.mem_range] at h
  have h1 := h j (Array.getElem?_eq_some_iff.1 hj).1
  simp only [hj, Bool.or_eq_true, beq_iff_eq, hne, false_or, hun, Bool.false_eq_true] at h1
  rcases h1 with h1 | h1
  · obtain ⟨e, he, hb⟩ := Array.any_eq_true'.1 h1
    simp only [Bool.and_eq_true, beq_iff_eq] at hb
    exact absurd hb.2 (hno e he hb.1)
  · intro he
    rw [he] at h1
    simpa using h1
def l8 (P : Program) (G : Nat → Option (List PV)) (rl : List String) (ops : Array Oper) (Q : St → Prop) : List Oper → St → Prop
  | [], s => Q s
  | o :: rest, s => if Z9 o = true then aop P G rl ops o (l8 P G rl ops Q rest) s else ∃ v, fN P G rl ops o v s ∧ l8 P G rl ops Q rest (s.put o.dst v)
def qO (md : Region.Mode) (ops : Array Oper) : Nat → Nat → Array Bool → Bool
  | 0, _, listed => (Region.ready md ops listed).isEmpty
  | n + 1, k, listed =>
    (match ops[k]? with
      | none => false
      | some o => if Z9 o then Region.ready md ops listed == [k] else (Region.ready md ops listed).contains k && (Region.free md ops listed k && vw md ops listed k)) && qO md ops n (k + 1) (listed.setIfInBounds k true)
theorem fQ {Q : St → Prop} : ∀ (l : List Oper) (k : Nat) (listed : Array Bool) (s : St), (∀ j, l[j]? = ops[k + j]?) →
    qO md ops l.length k listed = true → l8 P G rl ops Q l s → lL P G rl md ops Q l.length listed s
  | [], _, _, _, _, hB, h => ⟨by simpa [qO] using hB, h⟩
  | o :: l, k, listed, s, hl, hB, h => by
    have h0 : ops[k]? = some o := by simpa using (hl 0).symm
    have hl' : ∀ j, l[j]? = ops[k + 1 + j]? := fun j => by have := hl (j + 1); simpa [Nat.add_assoc, Nat.add_comm 1 j] using this
    simp only [List.length_cons, qO, h0, Bool.and_eq_true] at hB
    obtain ⟨hr, hB'⟩ := hB
    unfold l8 at h
    split at h
    · rename_i he
      rw [if_pos he] at hr
      have hr := beq_iff_eq.mp hr
      refine ⟨fun e => (by rw [hr] at e; cases e), fun i hi => ?_⟩
      rw [hr] at hi
      have : i = k := by simpa using hi
      subst this
      unfold jw
      simp only [h0]
      unfold mZ
      rw [if_pos he]
      exact fP he (fun s' hs' => fQ l (i + 1) _ s' hl' hB' hs') h
    · rename_i he
      rw [if_neg he] at hr
      simp only [Bool.and_eq_true] at hr
      obtain ⟨hr, hf, hg⟩ := hr
      obtain ⟨v, hy, hK⟩ := h
      exact oS h0 (by simpa using he) l.length listed s (fun j oj a1 a2 a3 a4 => ⟨Region.free_spec h0 hf j oj a1 a2 a3 a4, qN hg j oj a1 a2 a3 a4⟩) (by simpa using hr) hy
        (fQ l (k + 1) _ _ hl' hB' hK)
def A6 (ops : Array Oper) (k : Nat) : Nat := ((ops.toList.take k).filter r6).length
def St.setB (s : St) (b : Nat) (z : List PV) : St := ⟨s.fr, s.nt, s.heap.set b (some ⟨1, z.map .p⟩)⟩
def O9 (P : Program) (o : Oper) : Option (List PV) :=
  match o.op with
  | .alloc t => (match k3 P t with
    | some ⟨_, _, _, some z⟩ => if z = [] then none else some z
    | _ => none)
  | _ => none
def qP (P : Program) (o : Oper) (b : Nat) (K : St → Prop) (s : St) : Prop :=
  ∃ z, O9 P o = some z ∧ s.heap[b]? = some (some ⟨0, []⟩) ∧ K ((s.setB b z).put o.dst (.ptr b 1 0))
def aa (es : List Nat) (i : Nat) (o : Oper) : Bool := Z9 o || es.contains i
def iQ (P : Program) (G : Nat → Option (List PV)) (rl : List String) (es : List Nat) (ops : Array Oper) (base i : Nat) (o : Oper) (K : St → Prop) (s : St) : Prop :=
  if r6 o = true then qP P o (base + A6 ops i) K s else if aa es i o = true then aop P G rl ops o K s else cL P G rl ops o K s
def Z0 (P : Program) (G : Nat → Option (List PV)) (rl : List String) (es : List Nat) (ops : Array Oper) (base i : Nat) (K : St → Prop) (s : St) : Prop :=
  match ops[i]? with
  | none => K s
  | some o => iQ P G rl es ops base i o K s
section
variable {base r : Nat} {es : List Nat}
theorem tM {i : Nat} {o : Oper} {K K' : St → Prop} {s : St} (h : ∀ s, K s → K' s) (hh : iQ P G rl es ops base i o K s) : iQ P G rl es ops base i o K' s := by
  unfold iQ at *
  split
  · rename_i ha; rw [if_pos ha] at hh; obtain ⟨z, h1, h2, h3⟩ := hh; exact ⟨z, h1, h2, h _ h3⟩
  · rename_i ha
    rw [if_neg ha] at hh
    split
    · rename_i he; rw [if_pos he] at hh; exact fO h hh
    · rename_i he
      rw [if_neg he] at hh
      obtain ⟨v, h1, h2⟩ := s8.mp hh
      exact s8.mpr ⟨v, h1, h _ h2⟩
theorem tN {i : Nat} {s : St} {K K' : St → Prop} (h : ∀ s, K s → K' s) (hh : Z0 P G rl es ops base i K s) : Z0 P G rl es ops base i K' s := by
  unfold Z0 at *
  split
  · exact h _ (by simpa [*] using hh)
  · rename_i o ho
    simp only [ho] at hh
    exact tM h hh
def ab (P : Program) (G : Nat → Option (List PV)) (rl : List String) (es : List Nat) (md : Region.Mode) (ops : Array Oper) (base : Nat) (Q : St → Prop) : Nat → Array Bool → St → Prop
  | 0, listed, s => Region.ready md ops listed = [] ∧ Q s
  | fuel + 1, listed, s =>
    (Region.ready md ops listed = [] → Q s) ∧
    ∀ i ∈ Region.ready md ops listed, Z0 P G rl es ops base i (ab P G rl es md ops base Q fuel (listed.setIfInBounds i true)) s
theorem bM {Q : St → Prop} {i : Nat} (En : St → Prop) (T : St → St) (C : Nat → Oper → Prop) (D : Nat → Bool) (hstep : ∀ (s : St) (K : St → Prop), En s → K (T s) → Z0 P G rl es ops base i K s)
    (hcomm : ∀ j oj, ops[j]? = some oj → C j oj → ∀ (s : St) (K : St → Prop), En s → Z0 P G rl es ops base j K (T s) → Z0 P G rl es ops base j (fun s' => En s' ∧ K (T s')) s)
    (hD : ∀ j oj, ops[j]? = some oj → D j = true → ∃ e ∈ oj.after, Region.binds md e = true ∧ (e.on = i ∨ D e.on = true)) :
    ∀ (fuel : Nat) (listed : Array Bool) (s : St),
      (∀ j oj, ops[j]? = some oj → j ≠ i → listed.getD j true = false → D j = false → C j oj) → (∀ d, D d = true → listed.getD d false = false) →
      i ∈ Region.ready md ops listed → En s →
      ab P G rl es md ops base Q fuel (listed.setIfInBounds i true) (T s) → ab P G rl es md ops base Q (fuel + 1) listed s := by
  intro fuel
  induction fuel with
  | zero =>
    intro listed s _ _ hr hy H
    refine ⟨fun h => (by rw [h] at hr; cases hr), fun j hj => ?_⟩
    by_cases hji : j = i
    · subst hji; exact hstep _ _ hy H
    · have := ready_mono hj hji
      rw [H.1] at this
      cases this
  | succ fuel ih =>
    intro listed s hfree hinv hr hy H
    refine ⟨fun h => (by rw [h] at hr; cases hr), fun j hj => ?_⟩
    by_cases hji : j = i
    · subst hji; exact hstep _ _ hy H
    · have h1 := H.2 j (ready_mono hj hji)
      obtain ⟨hjun, oj, hoj, hall⟩ := mem_ready.1 hj
      have hDj : D j = false := by
        cases hd : D j with
        | false => rfl
        | true =>
          exfalso
          obtain ⟨e, he, hb, hor⟩ := hD j oj hoj hd
          have h1 := hall e he hb
          rcases hor with heq | heq
          · have h0 := (mem_ready.1 hr).1
            rw [heq] at h1
            rcases Nat.lt_or_ge i listed.size with h' | h'
            · simp [h'] at h0 h1; rw [h0] at h1; cases h1
            · simp [Array.getElem?_eq_none h'] at h1
          · rw [hinv _ heq] at h1; cases h1
      have h2 := hcomm j oj hoj (hfree j oj hoj hji hjun hDj) s _ hy h1
      have hfree' : ∀ k ok, ops[k]? = some ok → k ≠ i → (listed.setIfInBounds j true).getD k true = false → D k = false → C k ok := fun k ok hk hki hun hno => by
        refine hfree k ok hk hki ?_ hno
        by_cases hjk : j = k
        · subst hjk; exact hjun
        · rw [getD_set_ne true hjk] at hun; exact hun
      have hinv' : ∀ d, D d = true → (listed.setIfInBounds j true).getD d false = false := fun d hd => by
        have hjd : j ≠ d := fun e => by subst e; rw [hDj] at hd; cases hd
        rw [getD_set_ne false hjd]; exact hinv d hd
      refine tN (fun s' h3 => ih (listed.setIfInBounds j true) s' hfree' hinv' (ready_mono hr (Ne.symm hji)) h3.1 ?_) h2
      rw [Array.setIfInBounds_comm _ _ hji]
      exact h3.2
theorem ee (s : St) (d : Option Nat) (v : AV) (b : Nat) (z : List PV) : (s.put d v).setB b z = (s.setB b z).put d v := by
  cases d with
  | none => rfl
  | some d => by_cases h : d < s.nt <;> simp [St.put, St.setB, h]
theorem tP (s : St) (b c : Nat) (z y : List PV) (h : b ≠ c) : (s.setB b z).setB c y = (s.setB c y).setB b z := by
  simp only [St.setB, List.set_comm _ _ h]
def zsB (P : Program) (ops : Array Oper) : List (List PV) := (ops.toList.filter r6).map fun o => (O9 P o).getD []
def vz (P : Program) (ops : Array Oper) (r : Nat) (R : Heap) : Prop :=
  R.length = r ∧ ∀ (j : Nat) (z : List PV), (zsB P ops)[j]? = some z → R[j]? = some (some ⟨0, []⟩) ∨ R[j]? = some (some ⟨1, z.map .p⟩)
def bC (P : Program) (ops : Array Oper) (base r : Nat) (s : St) : Prop := s.heap.length = base + r ∧ vz P ops r (s.heap.drop base)
def bN (P : Program) (G : Nat → Option (List PV)) (rl : List String) (ops : Array Oper) (base r : Nat) (o : Oper) (v : AV) (s : St) : Prop :=
  ∀ R : Heap, vz P ops r R → E3 P G rl ops o v ⟨s.fr, s.nt, s.heap.take base ++ R⟩
def ad (P : Program) (G : Nat → Option (List PV)) (rl : List String) (ops : Array Oper) (o : Oper) (v : AV) (s : St) : Prop := ∀ H : Heap, E3 P G rl ops o v ⟨s.fr, s.nt, H⟩
theorem na (s : St) (d : Option Nat) (u : AV) (X : Heap) : (⟨(s.put d u).fr, (s.put d u).nt, X⟩ : St) = (⟨s.fr, s.nt, X⟩ : St).put d u := by
  cases d with
  | none => rfl
  | some d => by_cases h : d < s.nt <;> simp [St.put, h]
theorem oT {α : Type} (q : α → Bool) : ∀ (l : List α) (k : Nat) (o : α), l[k]? = some o → q o = true → (l.filter q)[((l.take k).filter q).length]? = some o := by
  intro l k o hk hq
  have hlt : k < l.length := j6 hk
  have e : l = l.take k ++ (o :: l.drop (k + 1)) := by
    have := List.drop_eq_getElem_cons hlt
    have ho : l[k] = o := by rw [List.getElem?_eq_getElem hlt] at hk; simpa using hk
    rw [← ho, ← this, List.take_append_drop]
  conv => lhs; arg 1; rw [e, List.filter_append]
  rw [List.getElem?_append_right (Nat.le_refl _), Nat.sub_self, List.filter_cons_of_pos hq]
  rfl
theorem xp {k : Nat} {o : Oper} {z : List PV} (ho : ops[k]? = some o) (ha : r6 o = true) (hz : O9 P o = some z) : (zsB P ops)[A6 ops k]? = some z := by
  have ho' : ops.toList[k]? = some o := by rw [Array.getElem?_toList]; exact ho
  have := oT r6 ops.toList k o ho' ha
  unfold zsB A6
  rw [List.getElem?_map, this]
  simp [hz]
theorem vz.fill {R : Heap} (h : vz P ops r R) {k : Nat} {o : Oper} {z : List PV} (ho : ops[k]? = some o) (ha : r6 o = true) (hz : O9 P o = some z) (hlt : A6 ops k < R.length) : vz P ops r (R.set (A6 ops k) (some ⟨1, z.map .p⟩)) := by
  refine ⟨by rw [List.length_set]; exact h.1, fun j y hy => ?_⟩
  by_cases e : A6 ops k = j
  · subst e
    rw [xp ho ha hz] at hy
    cases hy
    exact .inr (by rw [List.getElem?_set_self hlt])
  · rw [List.getElem?_set_ne e]; exact h.2 j y hy
theorem bC.put {s : St} {d : Option Nat} {u : AV} (h : bC P ops base r s) : bC P ops base r (s.put d u) := by
  unfold bC; rw [St.put_heap]; exact h
theorem bC.fill {s : St} (h : bC P ops base r s) {k : Nat} {o : Oper} {z : List PV} (ho : ops[k]? = some o) (ha : r6 o = true) (hz : O9 P o = some z) (hb : s.heap[base + A6 ops k]? = some (some ⟨0, []⟩)) : bC P ops base r (s.setB (base + A6 ops k) z) := by
  have hlt : base + A6 ops k < s.heap.length := j6 hb
  refine ⟨by simp only [St.setB, List.length_set]; exact h.1, ?_⟩
  simp only [St.setB]
  rw [List.drop_set, if_neg (by omega), Nat.add_sub_cancel_left]
  exact h.2.fill ho ha hz (by rw [List.length_drop]; omega)
theorem bC.now {o : Oper} {s : St} {v : AV} (h : bC P ops base r s) (hs : bN P G rl ops base r o v s) : E3 P G rl ops o v s := by
  have := hs (s.heap.drop base) h.2
  rwa [List.take_append_drop] at this
theorem bC.start {fr : Nat → Option AV} {nt : Nat} {hp : Heap} (hr : (zsB P ops).length = r) : bC P ops hp.length r ⟨fr, nt, hp ++ List.replicate r (some ⟨0, []⟩)⟩ := by
  refine ⟨by simp, by simp, fun j z hz => .inl ?_⟩
  have : j < r := by rw [← hr]; exact j6 hz
  simp [this]
theorem bN.put {o : Oper} {s : St} {d : Option Nat} {u v : AV} (h : bN P G rl ops base r o v s) (hd : ∀ t, d = some t → t ∉ o.looksAt ops) : bN P G rl ops base r o v (s.put d u) :=
  fun R hR => by rw [na, St.put_heap]; exact (F6 hd).mpr (h R hR)
theorem bN.setB {o : Oper} {s : St} {v : AV} (h : bN P G rl ops base r o v s) {b : Nat} (hb : base ≤ b) (z : List PV) : bN P G rl ops base r o v (s.setB b z) := fun R hR => by
  have : (s.setB b z).heap.take base = s.heap.take base := by simp only [St.setB]; exact List.take_set_of_le hb
  rw [this]; exact h R hR
theorem ad.put {o : Oper} {s : St} {d : Option Nat} {u v : AV} (h : ad P G rl ops o v s) (hd : ∀ t, d = some t → t ∉ o.looksAt ops) : ad P G rl ops o v (s.put d u) :=
  fun H => by rw [na]; exact (F6 hd).mpr (h H)
def B2 (o : Oper) : Bool := match o.op with | .extract _ _ | .move _ | .assign _ | .pick _ _ _ | .nilCheck _ | .fieldAddr _ _ _ => true | _ => false
theorem vA {o : Oper} (hf : B2 o = true) {ρ : Operand → Option AV} {H H' : Heap} {v : AV} (h : opA P rl o ρ H = some (v, H)) : opA P rl o ρ H' = some (v, H') := by
  obtain ⟨dst, op, type, pos, after, guard⟩ := o
  cases op with
  | extract t i =>
    simp only [opA] at *
    split at h
    · rename_i vs ht
      obtain ⟨x, hx, he⟩ := Option.map_eq_some_iff.mp h
      cases he
      rw [hx]; rfl
    · cases h
  | move x =>
    simp only [opA] at *
    obtain ⟨y, hy, he⟩ := Option.map_eq_some_iff.mp h
    cases he
    rw [hy]; rfl
  | assign x =>
    simp only [opA] at *
    obtain ⟨y, hy, he⟩ := Option.map_eq_some_iff.mp h
    cases he
    rw [hy]; rfl
  | pick c a b =>
    simp only [opA] at *
    split at h
    · rename_i t x y _ _ _
      cases h; rfl
    · cases h
  | nilCheck x =>
    simp only [opA] at *
    split at h
    · cases h; rfl
    · cases h; rfl
    · cases h
  | fieldAddr t x f =>
    simp only [opA] at *
    obtain ⟨a, ha, he⟩ := Option.bind_eq_some_iff.mp h
    obtain ⟨y, hy, he⟩ := Option.map_eq_some_iff.mp he
    cases he
    rw [ha]
    have : P3 P H' t a f = P3 P H t a f := rfl
    simp only [Option.bind_some, this, hy, Option.map_some]
  | _ => cases hf
theorem nb {o : Oper} (hf : B2 o = true) {fr : Nat → Option AV} {nt : Nat} {H H' : Heap} {v : AV} (h : E3 P G rl ops o v ⟨fr, nt, H⟩) : E3 P G rl ops o v ⟨fr, nt, H'⟩ := by
  have hc : L0 o = none := by
    unfold B2 at hf; unfold L0
    split <;> simp_all
  rcases h with ⟨h1, h2⟩ | h
  · refine .inl ⟨h1, ?_⟩
    unfold AQ at *
    rw [hc] at *
    exact vA hf h2
  · exact .inr h
theorem tQ {j : Nat} {oi oj : Oper} {v : AV} (hj : ops[j]? = some oj) (hap : oi.apart ops oj = true) (s : St) (K : St → Prop)
    (hy : ad P G rl ops oi v s) (h : Z0 P G rl es ops base j K (s.put oi.dst v)) :
    Z0 P G rl es ops base j (fun s' => ad P G rl ops oi v s' ∧ K (s'.put oi.dst v)) s := by
  obtain ⟨h1, h2, h3⟩ := Oper.apart_spec hap
  have hev : ∀ x ∈ oj.op.operands, A5 G (s.put oi.dst v) x = A5 G s x := fun x hx => lH fun t ht e => h1 t ht (oP hx e)
  unfold Z0 at *
  simp only [hj] at *
  unfold iQ at *
  split
  · rename_i ha
    rw [if_pos ha] at h
    obtain ⟨z, hz, hb, hk⟩ := h
    rw [St.put_heap] at hb
    refine ⟨z, hz, hb, ad.put (s := s.setB _ z) hy h3, ?_⟩
    rw [ee, St.put_comm _ _ _ h2] at hk
    exact hk
  · rename_i ha
    rw [if_neg ha] at h
    split
    · rename_i he
      rw [if_pos he] at h
      unfold aop at *
      rw [lI h1] at h
      split at h
      · rename_i b hb
        refine ⟨fun e => ?_, fun e => ⟨hy.put h3, ?_⟩⟩
        · have h := h.1 e
          unfold W9 at h ⊢
          cases hcn : L0 oj with
          | some q =>
            obtain ⟨f, args⟩ := q
            obtain ⟨ats, ho⟩ := bL hcn
            rw [ho] at hev
            have e1 : A5 G (s.put oi.dst v) f = A5 G s f := hev f (by simp [Op.operands, Call.operands])
            have e2 : K4 (A5 G (s.put oi.dst v)) args.toList = K4 (A5 G s) args.toList := Q6 fun x hx => hev x (by simp only [Op.operands, Call.operands, Array.mem_append]; exact .inr (by simpa using hx))
            rw [hcn] at h
            dsimp only at h ⊢
            rw [e1, e2, St.put_heap] at h
            split at h
            · refine ⟨h.1, fun ι w vs hS hv => (h.2 ι w vs hS hv).mono fun e w' ⟨v', r, h', ι', q1, q2, q3⟩ => ⟨v', r, h', ι', q1, ⟨ad.put (s := ⟨s.fr, s.nt, h'⟩) hy h3, ?_⟩, q3⟩⟩
              dsimp only at q2
              rw [na, St.put_comm _ _ _ h2] at q2
              exact q2
            · exact h.elim
          | none =>
            rw [hcn] at h
            dsimp only at h ⊢
            rw [lG hev, St.put_heap] at h
            split at h
            · rename_i u h' hop
              refine ⟨ad.put (s := ⟨s.fr, s.nt, h'⟩) hy h3, ?_⟩
              rw [na, St.put_comm _ _ _ h2] at h
              exact h
            · exact h.elim
        · have h := h.2 e
          rw [St.put_comm _ _ _ h2] at h
          exact h
      · exact h.elim
    · rename_i he
      rw [if_neg he] at h
      obtain ⟨u, hu, hk⟩ := s8.mp h
      refine s8.mpr ⟨u, (F6 h1).mp hu, hy.put h3, ?_⟩
      rw [← St.put_comm s v u h2]
      exact hk
theorem qQ {j : Nat} {oi oj : Oper} {v : AV} (hj : ops[j]? = some oj) (hap : oi.apart ops oj = true) (hq : aa es j oj = true → r6 oj = true) (s : St) (K : St → Prop)
    (hy : bC P ops base r s ∧ bN P G rl ops base r oi v s) (h : Z0 P G rl es ops base j K (s.put oi.dst v)) :
    Z0 P G rl es ops base j (fun s' => (bC P ops base r s' ∧ bN P G rl ops base r oi v s') ∧ K (s'.put oi.dst v)) s := by
  obtain ⟨h1, h2, h3⟩ := Oper.apart_spec hap
  unfold Z0 at *
  simp only [hj] at h ⊢
  unfold iQ at *
  split
  · rename_i ha
    rw [if_pos ha] at h
    obtain ⟨z, hz, hb, hk⟩ := h
    rw [St.put_heap] at hb
    refine ⟨z, hz, hb, ⟨(hy.1.fill hj ha hz hb).put, (hy.2.setB (Nat.le_add_right _ _) z).put h3⟩, ?_⟩
    rw [ee, St.put_comm _ _ _ h2] at hk
    exact hk
  · rename_i ha
    rw [if_neg ha] at h
    split
    · rename_i he; exact absurd (hq he) ha
    · rename_i he
      rw [if_neg he] at h
      obtain ⟨u, hu, hk⟩ := s8.mp h
      refine s8.mpr ⟨u, (F6 h1).mp hu, ⟨hy.1.put, hy.2.put h3⟩, ?_⟩
      rw [← St.put_comm s v u h2]
      exact hk
theorem qR {i j : Nat} {oi oj : Oper} {z : List PV} (hj : ops[j]? = some oj) (hap : oi.apart ops oj = true) (ha : r6 oj = true) (hne : A6 ops j ≠ A6 ops i) (s : St) (K : St → Prop)
    (hy : s.heap[base + A6 ops i]? = some (some ⟨0, []⟩)) (h : Z0 P G rl es ops base j K ((s.setB (base + A6 ops i) z).put oi.dst (.ptr (base + A6 ops i) 1 0))) :
    Z0 P G rl es ops base j (fun s' => s'.heap[base + A6 ops i]? = some (some ⟨0, []⟩) ∧ K ((s'.setB (base + A6 ops i) z).put oi.dst (.ptr (base + A6 ops i) 1 0))) s := by
  obtain ⟨h1, h2, h3⟩ := Oper.apart_spec hap
  have hn : base + A6 ops i ≠ base + A6 ops j := by omega
  unfold Z0 at *
  simp only [hj] at *
  unfold iQ at *
  rw [if_pos ha] at *
  obtain ⟨y, hz, hb, hk⟩ := h
  rw [St.put_heap] at hb
  simp only [St.setB, List.getElem?_set_ne hn] at hb
  refine ⟨y, hz, hb, ?_, ?_⟩
  · rw [St.put_heap]
    simp only [St.setB, List.getElem?_set_ne hn.symm]
    exact hy
  · rw [ee, tP _ _ _ _ _ hn, St.put_comm _ _ _ h2, ← ee] at hk
    exact hk
def xq (md : Region.Mode) (ops : Array Oper) (i : Nat) (D : List Nat) : List Nat :=
  (List.range ops.size).filter fun j => match ops[j]? with
    | some oj => oj.after.any fun e => Region.binds md e && (e.on == i || D.contains e.on)
    | none => false
def qS (md : Region.Mode) (ops : Array Oper) (i : Nat) : Nat → List Nat
  | 0 => []
  | n + 1 => xq md ops i (qS md ops i n)
def aD (md : Region.Mode) (ops : Array Oper) (listed : Array Bool) (i : Nat) (D : List Nat) (ok : Nat → Oper → Bool) : Bool :=
  (D.all fun d => listed.getD d false == false && match ops[d]? with
    | some od => od.after.any fun e => Region.binds md e && (e.on == i || D.contains e.on)
    | none => true) &&
  (List.range ops.size).all fun j => j == i || listed.getD j true || D.contains j || match ops[j]? with
    | some oj => ok j oj
    | none => true
theorem dv {i : Nat} {listed : Array Bool} {D : List Nat} {ok : Nat → Oper → Bool} (h : aD md ops listed i D ok = true) (j : Nat) (oj : Oper) (hj : ops[j]? = some oj) (hd : D.contains j = true) :
    ∃ e ∈ oj.after, Region.binds md e = true ∧ (e.on = i ∨ D.contains e.on = true) := by
  simp only [aD, Bool.and_eq_true, List.all_eq_true] at h
  have h1 := (h.1 j (by simpa using hd)).2
  simp only [hj] at h1
  obtain ⟨e, he, hb⟩ := Array.any_eq_true'.1 h1
  simp only [Bool.and_eq_true, Bool.or_eq_true, beq_iff_eq] at hb
  exact ⟨e, he, hb.1, hb.2⟩
theorem dw {i : Nat} {listed : Array Bool} {D : List Nat} {ok : Nat → Oper → Bool} (h : aD md ops listed i D ok = true) (d : Nat) (hd : D.contains d = true) : listed.getD d false = false := by
  simp only [aD, Bool.and_eq_true, List.all_eq_true] at h
  exact beq_iff_eq.mp (h.1 d (by simpa using hd)).1
theorem fR {i : Nat} {listed : Array Bool} {D : List Nat} {ok : Nat → Oper → Bool} (h : aD md ops listed i D ok = true) (j : Nat) (oj : Oper) (hj : ops[j]? = some oj) (hne : j ≠ i) (hun : listed.getD j true = false) (hd : D.contains j = false) : ok j oj = true := by
  simp only [aD, Bool.and_eq_true, List.all_eq_true, List.mem_range] at h
  have h1 := h.2 j (Array.getElem?_eq_some_iff.1 hj).1
  simp only [hj, Bool.or_eq_true, beq_iff_eq, hne, false_or, hun, hd, Bool.false_eq_true] at h1
  exact h1
def okA (ops : Array Oper) (i : Nat) (oi : Oper) (j : Nat) (oj : Oper) : Bool := oi.apart ops oj && (r6 oj && A6 ops j != A6 ops i)
def okQ (es : List Nat) (ops : Array Oper) (oi : Oper) (j : Nat) (oj : Oper) : Bool := oi.apart ops oj && (!aa es j oj || r6 oj)
def okF (ops : Array Oper) (oi : Oper) (_ : Nat) (oj : Oper) : Bool := oi.apart ops oj
theorem vB {i j : Nat} {oi oj : Oper} (h : okA ops i oi j oj = true) : oi.apart ops oj = true ∧ r6 oj = true ∧ A6 ops j ≠ A6 ops i := by
  simpa [okA] using h
theorem vC {j : Nat} {oi oj : Oper} (h : okQ es ops oi j oj = true) : oi.apart ops oj = true ∧ (aa es j oj = true → r6 oj = true) := by
  simp only [okQ, Bool.and_eq_true, Bool.or_eq_true] at h
  refine ⟨h.1, fun he => ?_⟩
  rcases h.2 with h1 | h1
  · rw [he] at h1; cases h1
  · exact h1
theorem vD {j : Nat} {oi oj : Oper} (h : okF ops oi j oj = true) : oi.apart ops oj = true := h
def m9 (P : Program) (G : Nat → Option (List PV)) (rl : List String) (es : List Nat) (ops : Array Oper) (Q : St → Prop) : List Nat → St → Prop
  | [], s => Q s
  | k :: rest, s => match ops[k]? with
    | none => False
    | some o => if aa es k o = true then r6 o = false ∧ aop P G rl ops o (m9 P G rl es ops Q rest) s
      else B2 o = true ∧ ∃ v, ad P G rl ops o v s ∧ m9 P G rl es ops Q rest (s.put o.dst v)
def o5 (P : Program) (G : Nat → Option (List PV)) (rl : List String) (es : List Nat) (ops : Array Oper) (fs : List Nat) (base r : Nat) (Q : St → Prop) : List Nat → St → Prop
  | [], s => Q s
  | k :: rest, s => match ops[k]? with
    | none => False
    | some o => if r6 o = true then qP P o (base + A6 ops k) (o5 P G rl es ops fs base r Q rest) s
      else if aa es k o = true then m9 P G rl es ops Q (k :: rest) s
      else if (B2 o || fs.contains k) = true then ∃ v, ad P G rl ops o v s ∧ o5 P G rl es ops fs base r Q rest (s.put o.dst v)
      else ∃ v, bN P G rl ops base r o v s ∧ o5 P G rl es ops fs base r Q rest (s.put o.dst v)
def jx (es : List Nat) (md : Region.Mode) (ops : Array Oper) (fs : List Nat) : List Nat → Array Bool → Bool
  | [], listed => (Region.ready md ops listed).isEmpty
  | k :: rest, listed =>
    (match ops[k]? with
      | none => false
      | some o => if r6 o then (Region.ready md ops listed).contains k && aD md ops listed k (qS md ops k ops.size) (okA ops k o)
        else if aa es k o then Region.ready md ops listed == [k]
        else (Region.ready md ops listed).contains k && aD md ops listed k (qS md ops k ops.size) (if (B2 o || fs.contains k) = true then okF ops o else okQ es ops o)) && jx es md ops fs rest (listed.setIfInBounds k true)
theorem jy {Q : St → Prop} {k : Nat} {o : Oper} {v : AV} (h0 : ops[k]? = some o) (ha : ¬ r6 o = true) (he : ¬ aa es k o = true) {n : Nat} {listed : Array Bool} {s : St}
    (hr : (Region.ready md ops listed).contains k = true) (hf : aD md ops listed k (qS md ops k ops.size) (okF ops o) = true) (hy : ad P G rl ops o v s)
    (h : ab P G rl es md ops base Q n (listed.setIfInBounds k true) (s.put o.dst v)) : ab P G rl es md ops base Q (n + 1) listed s := by
  refine bM (i := k) (ad P G rl ops o v) (fun s => s.put o.dst v) (fun j oj => o.apart ops oj = true) (fun j => (qS md ops k ops.size).contains j) (fun s K hs hK => ?_)
    (fun j oj hj hc s K hs hK => tQ hj hc s K hs hK) (dv hf) n listed s (fun j oj a1 a2 a3 a4 => vD (fR hf j oj a1 a2 a3 a4)) (dw hf) (by simpa using hr) hy h
  unfold Z0
  simp only [h0]
  unfold iQ
  rw [if_neg ha, if_neg he]
  exact s8.mpr ⟨v, hs s.heap, hK⟩
theorem qT {Q : St → Prop} {k : Nat} {o : Oper} (h0 : ops[k]? = some o) (ha : ¬ r6 o = true) (he : aa es k o = true) {n : Nat} {listed : Array Bool} {s : St}
    (hr : (Region.ready md ops listed == [k]) = true) (h : aop P G rl ops o (ab P G rl es md ops base Q n (listed.setIfInBounds k true)) s) : ab P G rl es md ops base Q (n + 1) listed s := by
  have hr := beq_iff_eq.mp hr
  refine ⟨fun e => (by rw [hr] at e; cases e), fun i hi => ?_⟩
  rw [hr] at hi
  have : i = k := by simpa using hi
  subst this
  unfold Z0
  simp only [h0]
  unfold iQ
  rw [if_neg ha, if_pos he]
  exact h
theorem dx {Q : St → Prop} {fs : List Nat} : ∀ (l : List Nat) (listed : Array Bool) (s : St), jx es md ops fs l listed = true → m9 P G rl es ops Q l s → ab P G rl es md ops base Q l.length listed s
  | [], listed, s, hB, h => ⟨by simpa [jx] using hB, h⟩
  | k :: rest, listed, s, hB, h => by
    simp only [jx, Bool.and_eq_true] at hB
    obtain ⟨hr, hB'⟩ := hB
    unfold m9 at h
    split at h
    · exact h.elim
    · rename_i o h0
      simp only [h0] at hr
      split at h
      · rename_i he
        obtain ⟨ha, h⟩ := h
        rw [if_neg (by rw [ha]; decide), if_pos he] at hr
        exact qT h0 (by rw [ha]; decide) he hr (fO (fun s' hs' => dx rest _ s' hB' hs') h)
      · rename_i he
        obtain ⟨hh, v, hy, hK⟩ := h
        have ha : ¬ r6 o = true := by
          unfold B2 at hh; unfold r6
          split at hh <;> simp_all
        rw [if_neg ha, if_neg he] at hr
        simp only [Bool.and_eq_true, hh, Bool.true_or, if_true] at hr
        exact jy h0 ha he hr.1 hr.2 hy (dx rest _ _ hB' hK)
theorem ct {Q : St → Prop} {fs : List Nat} : ∀ (l : List Nat) (listed : Array Bool) (s : St), jx es md ops fs l listed = true → bC P ops base r s → o5 P G rl es ops fs base r Q l s → ab P G rl es md ops base Q l.length listed s
  | [], listed, s, hB, _, h => ⟨by simpa [jx] using hB, h⟩
  | k :: rest, listed, s, hB, hi, h => by
    have hB0 := hB
    simp only [jx, Bool.and_eq_true] at hB
    obtain ⟨hr, hB'⟩ := hB
    unfold o5 at h
    split at h
    · exact h.elim
    · rename_i o h0
      simp only [h0] at hr
      split at h
      · rename_i ha
        rw [if_pos ha] at hr
        simp only [Bool.and_eq_true] at hr
        obtain ⟨hr, hf⟩ := hr
        obtain ⟨z, hz, hb, hk⟩ := h
        refine bM (i := k) (fun s => s.heap[base + A6 ops k]? = some (some ⟨0, []⟩)) (fun s => (s.setB (base + A6 ops k) z).put o.dst (.ptr (base + A6 ops k) 1 0))
          (fun j oj => o.apart ops oj = true ∧ r6 oj = true ∧ A6 ops j ≠ A6 ops k) (fun j => (qS md ops k ops.size).contains j) (fun s K hs hK => ?_) (fun j oj hj hc s K hs hK => qR hj hc.1 hc.2.1 hc.2.2 s K hs hK) (dv hf) rest.length listed s
          (fun j oj a1 a2 a3 a4 => vB (fR hf j oj a1 a2 a3 a4)) (dw hf) (by simpa using hr) hb (ct rest _ _ hB' (hi.fill h0 ha hz hb).put hk)
        unfold Z0
        simp only [h0]
        unfold iQ
        rw [if_pos ha]
        exact ⟨z, hz, hs, hK⟩
      · rename_i ha
        split at h
        · exact dx (k :: rest) listed s hB0 h
        · rename_i he
          rw [if_neg ha, if_neg he] at hr
          simp only [Bool.and_eq_true] at hr
          obtain ⟨hr, hf⟩ := hr
          split at h
          · rename_i hh
            rw [if_pos hh] at hf
            obtain ⟨v, hy, hK⟩ := h
            exact jy h0 ha he hr hf hy (ct rest _ _ hB' hi.put hK)
          · rename_i hh
            rw [if_neg hh] at hf
            obtain ⟨v, hy, hK⟩ := h
            refine bM (i := k) (fun s => bC P ops base r s ∧ bN P G rl ops base r o v s) (fun s => s.put o.dst v) (fun j oj => o.apart ops oj = true ∧ (aa es j oj = true → r6 oj = true)) (fun j => (qS md ops k ops.size).contains j) (fun s K hs hK => ?_)
              (fun j oj hj hc s K hs hK => qQ hj hc.1 hc.2 s K hs hK) (dv hf) rest.length listed s (fun j oj a1 a2 a3 a4 => vC (fR hf j oj a1 a2 a3 a4)) (dw hf) (by simpa using hr) ⟨hi, hy⟩ (ct rest _ _ hB' hi.put hK)
            unfold Z0
            simp only [h0]
            unfold iQ
            rw [if_neg ha, if_neg he]
            exact s8.mpr ⟨v, hs.1.now hs.2, hK⟩
end
section
variable {ι ι0 : Nat → Nat × Nat} {h0 : Heap} {w w0 : World} {n0 : Nat} {s : St} {a : Act}
theorem oU {o : Oper} {K : St → Prop} (hx : fG P G rl o K s) : W9 P G rl o K s := by
  unfold fG at hx
  unfold W9
  cases hq : L0 o with
  | some q =>
    obtain ⟨f, args⟩ := q
    simp only [hq] at hx ⊢
    split at hx
    · rename_i g caps xs hf hxs
      obtain ⟨he, r, hc, hk⟩ := hx
      refine ⟨he, fun ι w vs hS hv => (hc ι w vs hS hv).mono ?_⟩
      rintro e w' ⟨v, r', h', ι', e1, ⟨rfl, rfl⟩, e2⟩
      exact ⟨v, _, _, ι', e1, hk, e2⟩
    · exact hx.elim
  | none =>
    simp only [hq] at hx ⊢
    split at hx
    · obtain ⟨rfl, hk⟩ := hx
      exact hk
    · exact hx.elim
theorem jz {o : Oper} {K : St → Prop} (hx : cL P G rl ops o K s) : aop P G rl ops o K s := by
  unfold cL at hx
  unfold aop
  split at hx
  · exact ⟨fun e => oU (hx.1 e), hx.2⟩
  · exact hx.elim
theorem bO {Q : St → Prop} {Q' : Exit → Act → World → Prop} (hK : ∀ s' ι' a' w', Q s' → Sim P G ι' s' a' w' → Evo n0 ι0 h0 w0 ι' s'.heap w' → Q' .normal a' w') :
    ∀ (fuel : Nat) (listed : Array Bool) (s : St) (ι : Nat → Nat × Nat) (a : Act) (w : World), Sim P G ι s a w → Evo n0 ι0 h0 w0 ι s.heap w →
      lJ P G rl md ops Q fuel listed s → wpAny P md ops Q' fuel listed a w
  | 0, _, s, ι, a, w, hs, he, h => ⟨h.1, hK s ι a w h.2 hs he⟩
  | fuel + 1, listed, s, ι, a, w, hs, he, h => by
    refine ⟨fun h0 => hK s ι a w (h.1 h0) hs he, fun i hi => ?_⟩
    have h1 := h.2 i hi
    unfold ld at h1
    unfold wpOp
    split
    · rename_i ho; simp only [ho] at h1; exact bO hK fuel _ s ι a w hs he h1
    · rename_i o ho
      simp only [ho] at h1
      exact Z8 (rl := rl) (K := lJ P G rl md ops Q fuel (listed.setIfInBounds i true)) hs he (fun s' ι' a' w' hk hs' he' => bO hK fuel _ s' ι' a' w' hs' he' hk) (jz h1)
theorem vE {o : Oper} {K : St → Prop} (hx : mZ P G rl ops o K s) : aop P G rl ops o K s := by
  unfold mZ at hx
  split at hx
  · exact hx
  · exact jz hx
theorem bP {Q : St → Prop} {Q' : Exit → Act → World → Prop} (hK : ∀ s' ι' a' w', Q s' → Sim P G ι' s' a' w' → Evo n0 ι0 h0 w0 ι' s'.heap w' → Q' .normal a' w') :
    ∀ (fuel : Nat) (listed : Array Bool) (s : St) (ι : Nat → Nat × Nat) (a : Act) (w : World), Sim P G ι s a w → Evo n0 ι0 h0 w0 ι s.heap w →
      lL P G rl md ops Q fuel listed s → wpAny P md ops Q' fuel listed a w
  | 0, _, s, ι, a, w, hs, he, h => ⟨h.1, hK s ι a w h.2 hs he⟩
  | fuel + 1, listed, s, ι, a, w, hs, he, h => by
    refine ⟨fun h0 => hK s ι a w (h.1 h0) hs he, fun i hi => ?_⟩
    have h1 := h.2 i hi
    unfold jw at h1
    unfold wpOp
    split
    · rename_i ho; simp only [ho] at h1; exact bP hK fuel _ s ι a w hs he h1
    · rename_i o ho
      simp only [ho] at h1
      exact Z8 (rl := rl) (K := lL P G rl md ops Q fuel (listed.setIfInBounds i true)) hs he (fun s' ι' a' w' hk hs' he' => bP hK fuel _ s' ι' a' w' hs' he' hk) (vE h1)
theorem Sim.drew (hs : Sim P G ι s a w) : Sim P G ι s a { w with drawn := w.drawn + 1 } ∧ Evo s.heap.length ι s.heap w ι s.heap { w with drawn := w.drawn + 1 } := by
  obtain ⟨h1, h2⟩ := hs.hS.drew
  exact ⟨⟨h1, fun k x hx => by obtain ⟨v, p1, p2⟩ := hs.fr k x hx; exact ⟨v, p1, p2.evo h2⟩, hs.nt, hs.df⟩, h2⟩
theorem qU {id : Nat} {Q : St → Prop} {Q' : Exit → Act → World → Prop} (hm : P.follows .mixedOrders = true) (hK : ∀ s' ι' a' w', Q s' → Sim P G ι' s' a' w' → Evo n0 ι0 h0 w0 ι' s'.heap w' → Q' .normal a' w')
    (hs : Sim P G ι s a w) (he : Evo n0 ι0 h0 w0 ι s.heap w) (hB : Region.lexB .any ops = true) (h : k8 P G rl ops Q ops.toList s) : (Code.region id ops true).wp P Q' a w := by
  simp only [Region.lexB, Bool.and_eq_true] at hB
  obtain ⟨d1, d2⟩ := hs.drew
  refine wp_region_any hm (bO (rl := rl) hK _ _ s ι a _ d1 (he.trans d2 he.len) ?_)
  have := lK (P := P) (G := G) (rl := rl) (md := .any) (Q := Q) ops.toList 0 (Array.replicate ops.size false) s (by simp) (by simpa using hB.2) h
  simpa using this
theorem oV {id : Nat} {Q : St → Prop} {Q' : Exit → Act → World → Prop} (hm : P.follows .mixedOrders = true) (hK : ∀ s' ι' a' w', Q s' → Sim P G ι' s' a' w' → Evo n0 ι0 h0 w0 ι' s'.heap w' → Q' .normal a' w')
    (hs : Sim P G ι s a w) (he : Evo n0 ι0 h0 w0 ι s.heap w) (hB : qO .any ops ops.size 0 (Array.replicate ops.size false) = true) (h : l8 P G rl ops Q ops.toList s) : (Code.region id ops true).wp P Q' a w := by
  obtain ⟨d1, d2⟩ := hs.drew
  refine wp_region_any hm (bP (rl := rl) hK _ _ s ι a _ d1 (he.trans d2 he.len) ?_)
  have := fQ (P := P) (G := G) (rl := rl) (md := .any) (Q := Q) ops.toList 0 (Array.replicate ops.size false) s (by simp) (by simpa using hB) h
  simpa using this
theorem vF {b : Nat} {z : List PV} {o : Oper} {ρ : Operand → Value} {ι : Nat → Nat × Nat} {h : Heap} {w : World} (hS : SimH P G ι h w) (hz : O9 P o = some z) (hb : h[b]? = some (some ⟨0, []⟩)) : gQ P G ι h w (execOp ρ o) (.ptr b 1 0) (h.set b (some ⟨1, z.map .p⟩)) := by
  obtain ⟨dst, op, type, pos, after, guard⟩ := o
  unfold O9 at hz
  cases op with
  | alloc t =>
    dsimp only at hz
    split at hz
    · rename_i kk s1 b1 z' ht
      split at hz
      · cases hz
      · rename_i hne
        cases hz
        obtain ⟨zv, hzr, hzl, hzv⟩ := bK ht rfl
        have hlt : b < h.length := j6 hb
        obtain ⟨q1, q2⟩ := hS.upd (h' := h.set b (some ⟨1, z.map .p⟩)) (ι' := fun i => if i = b then (w.heap.size, 0) else ι i) (w' := w.alloc (.cells zv.cells t)) b ⟨1, z.map .p⟩ w.heap.size 0 zv.cells t
          (.inr ⟨hlt, ⟨_, hb, Nat.zero_le _⟩, rfl⟩) (fun i => rfl) (.inl (Nat.le_refl _)) (by simpa using hne) (heap_alloc_new w _) (by simp [hzl]) (fun j x hx => by
            have hj : j < z.length := by have := j6 hx; simpa using this
            refine ⟨zv.cells[j]'(by omega), by rw [Nat.zero_add]; simp [show j < zv.cells.size by omega], ?_⟩
            simp only [List.getElem?_map, Option.map_eq_some_iff] at hx
            obtain ⟨y, hy, rfl⟩ := hx
            exact .p _ _ (hzv w _ j y _ hy (by simp [show j < zv.cells.size by omega])))
          (by simp) (fun k hk _ => by first | exact heap_alloc_old _ _ hk | exact heap_alloc_old _ _ _ hk) (fun bk hq hgg => by rw [hb] at hq; cases hq; cases hgg) rfl rfl rfl
        have hl : A8 (h.set b (some ⟨1, z.map .p⟩)) b 1 := ⟨⟨1, z.map .p⟩, by simp [hlt], rfl⟩
        have hp := mT (ι := fun i => if i = b then (w.heap.size, 0) else ι i) (w := w.alloc (.cells zv.cells t)) hl ⟨zv.cells, t, (0, 0), by rw [if_pos rfl]; exact heap_alloc_new w _⟩ 0
        refine J7 (w' := w.alloc (.cells zv.cells t)) ?_ q1 (by simpa using hp) q2
        simp [Instr.alloc, Sem.run_bind, hzr w, newVar, newRow]
    · cases hz
  | _ => cases hz
theorem nc {o : Oper} {b : Nat} {K : St → Prop} {K' : Act → World → Prop} {Q' : Exit → Act → World → Prop} (ha : r6 o = true) (hs : Sim P G ι s a w) (he : Evo n0 ι0 h0 w0 ι s.heap w)
    (hK : ∀ s' ι' a' w', K s' → Sim P G ι' s' a' w' → Evo n0 ι0 h0 w0 ι' s'.heap w' → K' a' w') (hx : qP P o b K s) :
    if Region.wanted o (yielded ops a.tmps) then o.wp P a w K' Q' ∨ (o.asks P a w ∧ LetsOut Q') else K' (a.put o.dst undef) w := by
  obtain ⟨z, hz, hb, hk⟩ := hx
  have hw : V0 ops o s = some true := by
    simp only [r6, Bool.and_eq_true, Option.isNone_iff_eq_none] at ha
    unfold V0; rw [ha.2]
  rw [lF hs hw]
  simp only [if_true]
  left
  obtain ⟨v, w', ι', hrun, hS', hr, he'⟩ := vF (ρ := fun x => a.eval x) hs.hS hz hb
  have := hK _ ι' _ w' hk (hs.put hS' he' o.dst hr) (by rw [St.put_heap]; exact he.trans he' he.len)
  unfold Oper.wp
  rcases hrun with hrun | ⟨hrun, rfl⟩
  · rw [hrun]; exact this
  · rw [hrun]; exact this
theorem Q7 {es : List Nat} {base : Nat} {Q : St → Prop} {Q' : Exit → Act → World → Prop} (hK : ∀ s' ι' a' w', Q s' → Sim P G ι' s' a' w' → Evo n0 ι0 h0 w0 ι' s'.heap w' → Q' .normal a' w') :
    ∀ (fuel : Nat) (listed : Array Bool) (s : St) (ι : Nat → Nat × Nat) (a : Act) (w : World), Sim P G ι s a w → Evo n0 ι0 h0 w0 ι s.heap w →
      ab P G rl es md ops base Q fuel listed s → wpAny P md ops Q' fuel listed a w
  | 0, _, s, ι, a, w, hs, he, h => ⟨h.1, hK s ι a w h.2 hs he⟩
  | fuel + 1, listed, s, ι, a, w, hs, he, h => by
    refine ⟨fun h0 => hK s ι a w (h.1 h0) hs he, fun i hi => ?_⟩
    have h1 := h.2 i hi
    unfold Z0 at h1
    unfold wpOp
    split
    · rename_i ho; simp only [ho] at h1; exact Q7 hK fuel _ s ι a w hs he h1
    · rename_i o ho
      simp only [ho] at h1
      unfold iQ at h1
      split at h1
      · rename_i ha
        exact nc (K := ab P G rl es md ops base Q fuel (listed.setIfInBounds i true)) ha hs he (fun s' ι' a' w' hk hs' he' => Q7 hK fuel _ s' ι' a' w' hs' he' hk) h1
      · split at h1
        · exact Z8 (rl := rl) (K := ab P G rl es md ops base Q fuel (listed.setIfInBounds i true)) hs he (fun s' ι' a' w' hk hs' he' => Q7 hK fuel _ s' ι' a' w' hs' he' hk) h1
        · exact Z8 (rl := rl) (K := ab P G rl es md ops base Q fuel (listed.setIfInBounds i true)) hs he (fun s' ι' a' w' hk hs' he' => Q7 hK fuel _ s' ι' a' w' hs' he' hk) (jz h1)
theorem oW {es : List Nat} {id base r : Nat} {ord fs : List Nat} {Q : St → Prop} {Q' : Exit → Act → World → Prop} (hm : P.follows .mixedOrders = true) (hK : ∀ s' ι' a' w', Q s' → Sim P G ι' s' a' w' → Evo n0 ι0 h0 w0 ι' s'.heap w' → Q' .normal a' w')
    (hs : Sim P G ι s a w) (he : Evo n0 ι0 h0 w0 ι s.heap w) (hl : ord.length = ops.size) (hB : jx es .any ops fs ord (Array.replicate ops.size false) = true) (hi : bC P ops base r s) (h : o5 P G rl es ops fs base r Q ord s) : (Code.region id ops true).wp P Q' a w := by
  obtain ⟨d1, d2⟩ := hs.drew
  have := ct (P := P) (G := G) (rl := rl) (md := .any) (Q := Q) (base := base) (r := r) ord (Array.replicate ops.size false) s hB hi h
  rw [hl] at this
  exact wp_region_any hm (Q7 (rl := rl) hK _ _ s ι a _ d1 (he.trans d2 he.len) this)
end
end
def o6 (P : Program) (G : Nat → Option (List PV)) (h0 : Heap) (s s' : St) : Prop :=
  ∀ ι a w ι0 w0, SimH P G ι0 h0 w0 → Sim P G ι s a w → Evo h0.length ι0 h0 w0 ι s.heap w → ∃ ι', Sim P G ι' s' a w ∧ Evo h0.length ι0 h0 w0 ι' s'.heap w
def N6 (K : St → Prop) (Q : Exit → St → Prop) : Exit → St → Prop
  | .normal, s => K s
  | e, s => Q e s
def aG (id : Nat) (Q : Exit → St → Prop) : Exit → St → Prop
  | .exit i, s => if i = id then Q .normal s else Q (.exit i) s
  | e, s => Q e s
section
variable (P : Program) (G : Nat → Option (List PV)) (rl : List String) (h0 : Heap)
def jA (v : Option AV) (X Y : Prop) : Prop :=
  match v with
  | some (.p (.bool t)) => (t = true → X) ∧ (t = false → Y)
  | _ => False
def awp : Code → (Exit → St → Prop) → St → Prop
  | .skip, Q, s => Q .normal s
  | .label _, Q, s => Q .normal s
  | .region _ ops draw, Q, s =>
    if draw then (Region.lexB .any ops = true ∧ k8 P G rl ops (Q .normal) ops.toList s) ∨ (qO .any ops ops.size 0 (Array.replicate ops.size false) = true ∧ l8 P G rl ops (Q .normal) ops.toList s) ∨
      (∃ s1 base r ord fs es, o6 P G h0 s s1 ∧ ord.length = ops.size ∧ jx es .any ops fs ord (Array.replicate ops.size false) = true ∧ bC P ops base r s1 ∧ o5 P G rl es ops fs base r (Q .normal) ord s1)
    else n9 P G rl ops (Q .normal) ops.toList s
  | .seq a b, Q, s => ∃ J : St → Prop, awp a (N6 (fun s' => ∃ s1, o6 P G h0 s' s1 ∧ J s1) Q) s ∧ ∀ s1, J s1 → awp b Q s1
  | .cond c x y, Q, s => jA (A5 G s c) (awp x Q s) (awp y Q s)
  | .block id c, Q, s => awp c (aG id Q) s
  | .loop c, Q, s => ∃ I : Nat → St → Prop, (∃ n s1, o6 P G h0 s s1 ∧ I n s1) ∧ ∀ n s, I n s → awp c (N6 (fun s' => ∃ m s1, m < n ∧ o6 P G h0 s' s1 ∧ I m s1) Q) s
  | .exit id, Q, s => Q (.exit id) s
  | .ret, Q, s => Q .ret s
  | _, _, _ => False
end
end
section
theorem tR {P : Program} {Q : Exit → Act → World → Prop} {c : Code} (I : Nat → Act → World → Prop)
    (round : ∀ n a w, I n a w → c.wp P (Exit.then (fun a' w' => ∃ m, m < n ∧ I m a' w') Q) a w) (n : Nat) (a : Act) (w : World) (h₀ : I n a w) : (Code.loop c).wp P Q a w := by
  intro b k cs
  have key : ∀ n a w, I n a w →
      ∃ e a' w', Q e a' w' ∧ Arrives P (lone (b.at a (.code c :: .inLoop c :: k)) cs w) b k cs e a' w' := by
    intro n
    induction n using Nat.strongRecOn with
    | _ n ih =>
      intro a w hI
      obtain ⟨e, a₁, w₁, hq, harr⟩ := round n a w hI b (.inLoop c :: k) cs
      cases e with
      | normal =>
        obtain ⟨m, hlt, hI₁⟩ := hq
        obtain ⟨e₂, a₂, w₂, hq₂, harr₂⟩ := ih m hlt a₁ w₁ hI₁
        exact ⟨e₂, a₂, w₂, hq₂, .of_steps (Steps.trans harr (.one step_inLoop)) harr₂⟩
      | exit id => exact ⟨_, a₁, w₁, hq, .pass (x := .inLoop c) rfl (fun _ _ => .inl (by simp)) harr⟩
      | goto l => exact ⟨_, a₁, w₁, hq, .pass (x := .inLoop c) rfl (fun _ _ => .inl (by simp)) harr⟩
      | ret => exact ⟨_, a₁, w₁, hq, .pass (x := .inLoop c) rfl (fun _ _ => .inl (by simp)) harr⟩
      | panic ch => exact ⟨_, a₁, w₁, hq, .pass (x := .inLoop c) rfl (fun _ _ => .inl (by simp)) harr⟩
      | outgrown => exact ⟨_, a₁, w₁, hq, .pass (x := .inLoop c) rfl (fun _ _ => .inl (by simp)) harr⟩
  obtain ⟨e, a', w', hq, harr⟩ := key n a w h₀
  exact ⟨e, a', w', hq, .of_steps (.one step_loop) harr⟩
section
variable {P : Program} {G : Nat → Option (List PV)} {rl : List String} {ι ι' ι0 : Nat → Nat × Nat} {h h' h0 : Heap} {w w' w0 : World} {n0 : Nat} {s : St} {a : Act}
def AH (P : Program) (G : Nat → Option (List PV)) (ι0 : Nat → Nat × Nat) (h0 : Heap) (w0 : World) (Q : Exit → St → Prop) : Exit → Act → World → Prop :=
  fun e a w => ∃ s ι, Q e s ∧ Sim P G ι s a w ∧ Evo h0.length ι0 h0 w0 ι s.heap w
theorem lN (hm : P.follows .mixedOrders = true) (hS0 : SimH P G ι0 h0 w0) : ∀ (c : Code) (Q : Exit → St → Prop) (s : St) (ι : Nat → Nat × Nat) (a : Act) (w : World), Sim P G ι s a w → Evo h0.length ι0 h0 w0 ι s.heap w →
    awp P G rl h0 c Q s → c.wp P (AH P G ι0 h0 w0 Q) a w := by
  intro c
  induction c with
  | skip => intro Q s ι a w hs he h; exact wp_skip ⟨s, ι, h, hs, he⟩
  | label l => intro Q s ι a w hs he h; exact wp_label ⟨s, ι, h, hs, he⟩
  | region id ops draw =>
    intro Q s ι a w hs he h
    unfold awp at h
    split at h
    · rename_i hd; subst hd
      rcases h with h | h | ⟨s1, base, r, ord, fs, es, hg, hl, hB, hi, hr⟩
      · exact qU hm (fun s' ι' a' w' hq hs' he' => ⟨s', ι', hq, hs', he'⟩) hs he h.1 h.2
      · exact oV hm (fun s' ι' a' w' hq hs' he' => ⟨s', ι', hq, hs', he'⟩) hs he h.1 h.2
      · obtain ⟨ι1, hs1, he1⟩ := hg ι a w ι0 w0 hS0 hs he
        exact oW hm (fun s' ι' a' w' hq hs' he' => ⟨s', ι', hq, hs', he'⟩) hs1 he1 hl hB hi hr
    · rename_i hd
      have : draw = false := by simpa using hd
      subst this
      exact wp_region_list (ju (fun s' ι' a' w' hq hs' he' => ⟨s', ι', hq, hs', he'⟩) ops.toList s ι a w hs he h)
  | seq x y ihx ihy =>
    intro Q s ι a w hs he ⟨J, h, hJ⟩
    refine wp_seq (wp_mono (ihx _ s ι a w hs he h) fun e a' w' ⟨s', ι', hq, hs', he'⟩ => ?_)
    cases e with
    | normal =>
      obtain ⟨s1, hg, hj⟩ := hq
      obtain ⟨ι1, hs1, he1⟩ := hg ι' a' w' ι0 w0 hS0 hs' he'
      exact ihy Q s1 ι1 a' w' hs1 he1 (hJ s1 hj)
    | _ => exact ⟨s', ι', hq, hs', he'⟩
  | cond c x y ihx ihy =>
    intro Q s ι a w hs he h
    unfold awp jA at h
    split at h
    · rename_i t ht
      have := (hs.eval ht).bool_inv
      refine wp_cond_split this (fun e => ihx Q s ι a w hs he (h.1 e)) (fun e => ihy Q s ι a w hs he (h.2 e))
    · exact h.elim
  | block id c ih =>
    intro Q s ι a w hs he h
    refine wp_block (wp_mono (ih _ s ι a w hs he h) fun e a' w' ⟨s', ι', hq, hs', he'⟩ => ?_)
    cases e with
    | exit i =>
      simp only [Exit.inBlock]
      simp only [aG] at hq
      split
      · rename_i hi; simp only [hi, if_true] at hq; exact ⟨s', ι', hq, hs', he'⟩
      · rename_i hi; simp only [hi, if_false] at hq; exact ⟨s', ι', hq, hs', he'⟩
    | _ => exact ⟨s', ι', hq, hs', he'⟩
  | loop c ih =>
    intro Q s ι a w hs he ⟨I, ⟨n, s1, hg, hn⟩, hr⟩
    obtain ⟨ι1, hs1, he1⟩ := hg ι a w ι0 w0 hS0 hs he
    refine tR (fun n a w => ∃ s ι, I n s ∧ Sim P G ι s a w ∧ Evo h0.length ι0 h0 w0 ι s.heap w) (fun n a w ⟨s, ι, hi, hs, he⟩ => ?_) n a w ⟨s1, ι1, hn, hs1, he1⟩
    refine wp_mono (ih _ s ι a w hs he (hr n s hi)) fun e a' w' ⟨s', ι', hq, hs', he'⟩ => ?_
    cases e with
    | normal =>
      obtain ⟨m, s2, hlt, hg2, hm⟩ := hq
      obtain ⟨ι2, hs2, he2⟩ := hg2 ι' a' w' ι0 w0 hS0 hs' he'
      exact ⟨m, hlt, s2, ι2, hm, hs2, he2⟩
    | _ => exact ⟨s', ι', hq, hs', he'⟩
  | exit id => intro Q s ι a w hs he h; exact wp_exit ⟨s, ι, h, hs, he⟩
  | ret => intro Q s ι a w hs he h; exact wp_ret ⟨s, ι, h, hs, he⟩
  | _ => intros; contradiction
def H8 (P : Program) (s : St) : ResultVar → Option AV
  | .tmp t => s.fr t
  | .cell a t => (s.fr a).bind fun x => ly P s.heap t x
def P5 (P : Program) (s : St) : List ResultVar → Option (List AV)
  | [] => some []
  | r :: rest => match H8 P s r, P5 P s rest with
    | some x, some xs => some (x :: xs)
    | _, _ => none
def P6 (P : Program) (s : St) (rs : List ResultVar) : Option AV :=
  match P5 P s rs with
  | some [x] => some x
  | some xs => some (.tup xs)
  | none => none
def jB (tmps : Array Value) : ResultVar → Sem Value
  | .tmp t => Pure.pure (tmps.getD t undef)
  | .cell a t => do loadVar t (← asAddr (tmps.getD a undef))
theorem qV (fn : Func) (tmps : Array Value) : results fn tmps = (do let vs ← fn.results.mapM (jB tmps); Pure.pure (if h : vs.size = 1 then vs[0] else .tuple vs)) := by
  unfold results
  congr 1
theorem oX (hs : Sim P G ι s a w) {r : ResultVar} {x : AV} (hx : H8 P s r = some x) :
    ∃ v, (jB a.tmps r).run P w = .ok v w ∧ VRel ι s.heap w x v := by
  cases r with
  | tmp t =>
    obtain ⟨v, h1, h2⟩ := hs.fr t x hx
    exact ⟨v, by simp [jB, h1], h2⟩
  | cell b t =>
    obtain ⟨y, hy, hl⟩ := Option.bind_eq_some_iff.mp hx
    obtain ⟨v, h1, h2⟩ := hs.fr b y hy
    obtain ⟨u, e1, e2⟩ := jn (P := P) hs.hS h2 hl
    refine ⟨u, ?_, e2⟩
    have hv : a.tmps.getD b undef = v := by simp [h1]
    simp only [jB, hv, Sem.run_bind]
    unfold ly at hl
    cases h2 with
    | ptr b g off A hb hg hlv =>
      split at hl
      · rename_i i b' g' off' ht hq
        cases hq
        obtain ⟨cells, hb', _⟩ := Option.bind_eq_some_iff.mp hl
        obtain ⟨this, _⟩ := hlv (y3 hb')
        subst this
        simpa [Instr.loadAt, Instr.sureAddr, asAddr] using e1
      · rename_i hq; cases hq
      · cases hl
    | pin cells blk off hv => simpa [Instr.loadAt, Instr.sureAddr, asAddr] using e1
    | p => simp at hl
    | agg => simp at hl
    | tup => simp at hl
    | fn => simp at hl
    | ref => simp at hl
    | mref => simp at hl
theorem jC (hs : Sim P G ι s a w) : ∀ (rs : List ResultVar) (xs : List AV), P5 P s rs = some xs →
    ∃ vs : List Value, (rs.mapM (jB a.tmps)).run P w = .ok vs w ∧ xs.length = vs.length ∧
      ∀ (i : Nat) x v, xs[i]? = some x → vs[i]? = some v → VRel ι s.heap w x v
  | [], xs, h => by cases h; exact ⟨[], rfl, rfl, fun i x v hx => by simp at hx⟩
  | r :: rest, xs, h => by
    simp only [P5] at h
    split at h
    · rename_i x xs' h1 h2
      cases h
      obtain ⟨v, e1, e2⟩ := oX hs h1
      obtain ⟨vs, p1, p2, p3⟩ := jC hs rest xs' h2
      refine ⟨v :: vs, ?_, by simp [p2], fun i y u hy hu => ?_⟩
      · simp only [List.mapM_cons, Sem.run_bind]
        rw [e1]
        simp only [Result.andThen_ok]
        rw [p1]
        rfl
      · cases i with
        | zero => simp at hy hu; rw [← hy, ← hu]; exact e2
        | succ i => simp at hy hu; exact p3 i y u hy hu
    · cases h
theorem jD (hs : Sim P G ι s a w) {fn : Func} {x : AV} (hx : P6 P s fn.results.toList = some x) : ∃ v, (results fn a.tmps).run P w = .ok v w ∧ VRel ι s.heap w x v := by
  unfold P6 at hx
  cases hl : P5 P s fn.results.toList with
  | none => simp [hl] at hx
  | some xs =>
    obtain ⟨vs, p1, p2, p3⟩ := jC hs _ xs hl
    have hrun : (results fn a.tmps).run P w = .ok (if h : vs.toArray.size = 1 then vs.toArray[0] else .tuple vs.toArray) w := by
      rw [qV, Array.mapM_eq_mapM_toList]
      simp only [Sem.run_bind, Sem.run_map]
      rw [p1]
      rfl
    refine ⟨_, hrun, ?_⟩
    simp only [hl] at hx
    split at hx
    · rename_i y hy
      cases hx
      cases hy
      have h1 : vs.length = 1 := by simpa using p2.symm
      simp only [List.size_toArray, h1, dite_true]
      exact p3 0 x _ rfl (by simp [h1])
    · rename_i xs' hne hy
      cases hy
      cases hx
      have h1 : ¬ vs.length = 1 := by
        intro e
        have : xs.length = 1 := by omega
        obtain ⟨y, hy⟩ := List.length_eq_one_iff.mp this
        exact hne y (by rw [hy])
      simp only [List.size_toArray, h1, dite_false]
      exact .tup _ _ (by simpa using p2) fun i x v hx hv => p3 i x v hx (by simpa using hv)
    · rename_i hq; cases hq
end
end
section
mutual
def pur (h : Heap) (n : Nat) : Nat → AV → Option PV
  | _, .p .nils => some (.sl [])
  | _, .p x => some x
  | fuel + 1, .ref b g off sz len =>
    if len = 0 then some (.sl []) else
    match r8 h b g with
    | some cells => if n ≤ b ∧ off + len * sz ≤ cells.length then (L6 h n fuel ((cells.drop off).take (len * sz))).map fun l => .sl (B9 sz len l) else none
    | none => none
  | _, _ => none
def L6 (h : Heap) (n : Nat) : Nat → List AV → Option (List PV)
  | _, [] => some []
  | fuel, x :: r => match pur h n fuel x, L6 h n fuel r with
    | some y, some ys => some (y :: ys)
    | _, _ => none
end
def E6 (h : Heap) (n : Nat) : AV → Option AV
  | .agg cells => (L6 h n 5 cells).map fun l => .agg (l.map .p)
  | .ptr b g off => if b < n then some (.ptr b g off) else none
  | x => (pur h n 5 x).map .p
def G2 (h : Heap) (n : Nat) : List AV → Option (List AV)
  | [] => some []
  | x :: r => match E6 h n x, G2 h n r with
    | some y, some ys => some (y :: ys)
    | _, _ => none
def F7 (h : Heap) (n : Nat) : AV → Option AV
  | .tup vs => (G2 h n vs).map .tup
  | x => E6 h n x
inductive AVlt (n : Nat) : AV → Prop where
  | p (x : PV) : AVlt n (.p x)
  | agg (cells : List AV) (h : ∀ x ∈ cells, AVlt n x) : AVlt n (.agg cells)
  | tup (cells : List AV) (h : ∀ x ∈ cells, AVlt n x) : AVlt n (.tup cells)
  | fn (f : FuncId) (cells : List AV) (h : ∀ x ∈ cells, AVlt n x) : AVlt n (.fn f cells)
  | ref (b g off sz len : Nat) (h : b < n) : AVlt n (.ref b g off sz len)
  | ptr (b g off : Nat) (h : b < n) : AVlt n (.ptr b g off)
  | pin (cells : List PV) : AVlt n (.pin cells)
  | mref (b g : Nat) (h : b < n) : AVlt n (.mref b g)
  | mp (es : List (List Int × Bool)) : AVlt n (.mp es)
section
variable {P : Program} {G : Nat → Option (List PV)} {rl : List String} {ι ι' ι0 : Nat → Nat × Nat} {h h' h0 h1 : Heap} {w w' w0 : World} {n n0 : Nat} {s : St} {a : Act}
theorem G7 {α : Type} {l : List α} {n b : Nat} {x : α} (hx : (l.take n)[b]? = some x) : b < n ∧ l[b]? = some x := by
  rw [List.getElem?_take] at hx
  split at hx
  · exact ⟨by assumption, hx⟩
  · cases hx
theorem V1 {k : Nat} (ho : own ι (h.take n) k) : own ι h k := by
  obtain ⟨b, bk, h1, h2, h3⟩ := ho
  exact ⟨b, bk, (G7 h1).2, h2, h3⟩
theorem VRel.lt {x : AV} {v : Value} (hx : VRel ι h w x v) : AVlt h.length x := by
  induction hx with
  | p x v hx => exact .p x
  | agg cells vs hl hv ih =>
    refine .agg _ fun x hx => ?_
    obtain ⟨i, hi, rfl⟩ := List.getElem_of_mem hx
    exact ih i cells[i] (vs[i]'(by omega)) (by simp) (by simp)
  | tup cells vs hl hv ih =>
    refine .tup _ fun x hx => ?_
    obtain ⟨i, hi, rfl⟩ := List.getElem_of_mem hx
    exact ih i cells[i] (vs[i]'(by omega)) (by simp) (by simp)
  | fn f cells vs hl hv ih =>
    refine .fn _ _ fun x hx => ?_
    obtain ⟨i, hi, rfl⟩ := List.getElem_of_mem hx
    exact ih i cells[i] (vs[i]'(by omega)) (by simp) (by simp)
  | ref b g off sz len A c hn hb hg hv => exact .ref _ _ _ _ _ hb
  | ptr b g off A hb hg hv => exact .ptr _ _ _ hb
  | pin cells blk off hv => exact .pin _
  | mref b g r hb hg hv => exact .mref _ _ hb
theorem VRel.take {x : AV} {v : Value} (hx : VRel ι h w x v) (hn : n ≤ h.length) (hl : AVlt n x) : VRel ι (h.take n) w x v := by
  have hlen : (h.take n).length = n := by simp; omega
  induction hx with
  | p x v hx => exact .p _ _ (hx.mono (Nat.le_refl _) fun k _ ho => ⟨rfl, fun e => ho (V1 e)⟩)
  | agg cells vs hl' hv ih => cases hl with | agg _ hc => exact .agg _ _ hl' fun i x v hx hv' => ih i x v hx hv' (hc x (List.mem_of_getElem? hx))
  | tup cells vs hl' hv ih => cases hl with | tup _ hc => exact .tup _ _ hl' fun i x v hx hv' => ih i x v hx hv' (hc x (List.mem_of_getElem? hx))
  | fn f cells vs hl' hv ih => cases hl with | fn _ _ hc => exact .fn _ _ _ hl' fun i x v hx hv' => ih i x v hx hv' (hc x (List.mem_of_getElem? hx))
  | ref b g off sz len A c hn' hb hg hv =>
    cases hl with
    | ref _ _ _ _ _ hb' =>
      refine .ref _ _ _ _ _ _ _ hn' (by omega) (fun bk hq => hg bk (G7 hq).2) fun ⟨bk, hq, e⟩ => ?_
      rcases hv ⟨bk, (G7 hq).2, e⟩ with hz | ⟨hA, hle, ⟨bk0, q0, hne⟩, hcs⟩
      · exact .inl hz
      · exact .inr ⟨hA, hle, ⟨bk0, by rw [List.getElem?_take, if_pos hb']; exact q0, hne⟩, hcs⟩
  | ptr b g off A hb hg hv =>
    cases hl with
    | ptr _ _ _ hb' => exact .ptr _ _ _ _ (by omega) (fun bk hq => hg bk (G7 hq).2) fun ⟨bk, hq, e⟩ => hv ⟨bk, (G7 hq).2, e⟩
  | pin cells blk off hv => exact .pin _ _ _ (hv.mono (Nat.le_refl _) fun k _ ho => ⟨rfl, fun e => ho (V1 e)⟩)
  | mref b g r hb hg hv =>
    cases hl with
    | mref _ _ hb' => exact .mref _ _ _ (by omega) (fun bk hq => hg bk (G7 hq).2) fun ⟨bk, hq, e⟩ => hv ⟨bk, (G7 hq).2, e⟩
theorem SimH.take (hS : SimH P G ι h w) (hn : n ≤ h.length) (hlt : ∀ (b : Nat) (bk : Blk), (h.take n)[b]? = some (some bk) → ∀ x ∈ bk.cells, AVlt n x) : SimH P G ι (h.take n) w := by
  refine ⟨⟨fun b bk hb hne => ?_, fun b b' bk bk' q1 q2 n1 n2 e => hS.hr.inj b b' bk bk' (G7 q1).2 (G7 q2).2 n1 n2 e⟩, fun g cells hg => (hS.gr g cells hg).mono (Nat.le_refl _) fun k _ ho => ⟨rfl, fun e => ho (V1 e)⟩⟩
  exact (hS.hr.blk b bk (G7 hb).2 hne).keep rfl rfl (fun x hx v hv => hv.take hn (hlt b bk hb x hx)) (Nat.le_refl _) fun k _ ho => ⟨rfl, fun e => ho (V1 e)⟩
theorem Evo.take (he : Evo n ι0 h0 w0 ι h w) (hn : n ≤ n0) : Evo n ι0 h0 w0 ι (h.take n0) w where
  size := he.size
  keep := fun k hk ho => ⟨(he.keep k hk ho).1, fun e => (he.keep k hk ho).2 (V1 e)⟩
  len := by have := he.len; simp; omega
  gens := fun b bk' hb hq => he.gens b bk' hb (G7 hq).2
  os := he.os
  output := he.output
  tape := he.tape
  drawn := he.drawn
theorem oY {fuel : Nat} {x : AV} {y : PV} (hx : pur h n fuel x = some y) : (∃ z, x = .p z ∧ (z = .nils ∧ y = .sl [] ∨ y = z)) ∨
    ∃ b g off sz len fuel', x = .ref b g off sz len ∧ fuel = fuel' + 1 ∧ ((len = 0 ∧ y = .sl []) ∨ ∃ cells l, len ≠ 0 ∧ r8 h b g = some cells ∧ n ≤ b ∧ off + len * sz ≤ cells.length ∧ L6 h n fuel' ((cells.drop off).take (len * sz)) = some l ∧ y = .sl (B9 sz len l)) := by
  cases x with
  | p z =>
    cases z <;> cases fuel <;> simp only [pur, Option.some.injEq] at hx <;> subst hx <;> exact .inl ⟨_, rfl, by simp⟩
  | ref b g off sz len =>
    cases fuel with
    | zero => simp [pur] at hx
    | succ fuel =>
      simp only [pur] at hx
      refine .inr ⟨b, g, off, sz, len, fuel, rfl, rfl, ?_⟩
      split at hx
      · rename_i hz; cases hx; exact .inl ⟨hz, rfl⟩
      · rename_i hz
        split at hx
        · rename_i cells hb
          split at hx
          · rename_i hc
            obtain ⟨l, hl, rfl⟩ := Option.map_eq_some_iff.mp hx
            exact .inr ⟨cells, l, hz, hb, hc.1, hc.2, hl, rfl⟩
          · cases hx
        · cases hx
  | agg => cases fuel <;> simp [pur] at hx
  | ptr => cases fuel <;> simp [pur] at hx
  | pin => cases fuel <;> simp [pur] at hx
  | mref => cases fuel <;> simp [pur] at hx
  | mp => cases fuel <;> simp [pur] at hx
  | fn => cases fuel <;> simp [pur] at hx
  | tup => cases fuel <;> simp [pur] at hx
theorem jE : ∀ {fuel : Nat} {l : List AV} {ys : List PV}, L6 h n fuel l = some ys → ys.length = l.length ∧ ∀ (i : Nat) x y, l[i]? = some x → ys[i]? = some y → pur h n fuel x = some y
  | fuel, [], ys, hq => by simp only [L6, Option.some.injEq] at hq; subst hq; simp
  | fuel, x :: r, ys, hq => by
    simp only [L6] at hq
    split at hq
    · rename_i y ys' h1 h2
      cases hq
      obtain ⟨l1, l2⟩ := jE h2
      refine ⟨by simp [l1], fun i u v hu hv => ?_⟩
      cases i with
      | zero => simp at hu hv; rw [← hu, ← hv]; exact h1
      | succ i => simp at hu hv; exact l2 i u v hu hv
    · cases hq
theorem lO (hS : SimH P G ι h w) : ∀ (fuel : Nat) (x : AV) (y : PV) (v : Value), pur h n fuel x = some y → VRel ι h w x v → PRel w (own ι (h.take n)) y v := by
  intro fuel
  induction fuel with
  | zero =>
    intro x y v hp hx
    rcases oY hp with ⟨z, rfl, ⟨rfl, rfl⟩ | rfl⟩ | ⟨b, g, off, sz, len, fuel', _, hf, _⟩
    · have := hx.nils_inv; subst this; exact .slz _ _
    · exact hx.pv.mono (Nat.le_refl _) fun k _ ho => ⟨rfl, fun e => ho (V1 e)⟩
    · omega
  | succ fuel ih =>
    intro x y v hp hx
    rcases oY hp with ⟨z, rfl, ⟨rfl, rfl⟩ | rfl⟩ | ⟨b, g, off, sz, len, fuel', rfl, hf, ⟨rfl, rfl⟩ | ⟨cells, l, hz, hb, hnb, hle, hl, rfl⟩⟩
    · have := hx.nils_inv; subst this; exact .slz _ _
    · exact hx.pv.mono (Nat.le_refl _) fun k _ ho => ⟨rfl, fun e => ho (V1 e)⟩
    · cases hx with
      | ref _ _ _ _ _ A c hn' hb hg hv => exact .slz _ _
    · have : fuel' = fuel := by omega
      subst this
      obtain ⟨A, c, rfl, hn', hcase⟩ := hx.ref_inv (y3 hb)
      rcases hcase with ⟨h0, _⟩ | ⟨rfl, hlc, ⟨bk, hbk, hne⟩, cs, ty, fr, hcs, hcap⟩
      · exact absurd h0 hz
      · obtain ⟨l1, l2⟩ := jE hl
        have hbk' := z8 hb
        rw [hbk'] at hbk; cases hbk
        refine jm l sz len c _ _ (by rw [l1, List.length_take, List.length_drop]; omega) hlc hn' ?_ (G1 hcs) fun j y hy => ?_
        · rintro ⟨b', bk', q1, q2, q3⟩
          obtain ⟨q4, q5⟩ := G7 q1
          have := hS.hr.inj b' b bk' _ q5 hbk' q2 hne q3
          omega
        · have hj := j6 hy
          have hj' : j < ((cells.drop off).take (len * sz)).length := by omega
          obtain ⟨u, hu1, hu2⟩ := ((T1 hS hb fun _ => ⟨cs, ty, fr, hcs⟩).drop off) j _ (by
            have h1 : ((cells.drop off).take (len * sz))[j]? = some (((cells.drop off).take (len * sz))[j]) := List.getElem?_eq_getElem hj'
            rw [List.getElem?_take] at h1
            split at h1
            · exact h1
            · cases h1)
          exact ⟨u, hu1, ih _ y u (l2 j _ y (List.getElem?_eq_getElem hj') hy) hu2⟩
theorem gY (hS : SimH P G ι h w) (hn : n ≤ h.length) {x y : AV} {v : Value} (hp : E6 h n x = some y) (hx : VRel ι h w x v) : VRel ι (h.take n) w y v := by
  unfold E6 at hp
  split at hp
  · rename_i cells
    obtain ⟨l, hl, rfl⟩ := Option.map_eq_some_iff.mp hp
    obtain ⟨l1, l2⟩ := jE hl
    obtain ⟨vs, rfl, e1, e2⟩ := hx.agg_inv
    refine .agg _ _ (by simp; omega) fun i x v hx hv => ?_
    simp only [List.getElem?_map, Option.map_eq_some_iff] at hx
    obtain ⟨z, hz, rfl⟩ := hx
    have hi : i < cells.length := by have := j6 hz; omega
    exact .p _ _ (lO hS 5 _ z v (l2 i cells[i] z (List.getElem?_eq_getElem hi) hz) (e2 i cells[i] v (List.getElem?_eq_getElem hi) hv))
  · rename_i b g off
    split at hp
    · rename_i hb
      cases hp
      exact hx.take hn (.ptr _ _ _ hb)
    · cases hp
  · obtain ⟨z, hz, rfl⟩ := Option.map_eq_some_iff.mp hp
    exact .p _ _ (lO hS 5 _ z v hz hx)
theorem jF : ∀ {l : List AV} {ys : List AV}, G2 h n l = some ys → ys.length = l.length ∧ ∀ (i : Nat) x y, l[i]? = some x → ys[i]? = some y → E6 h n x = some y
  | [], ys, hq => by cases hq; simp
  | x :: r, ys, hq => by
    simp only [G2] at hq
    split at hq
    · rename_i y ys' h1 h2
      cases hq
      obtain ⟨l1, l2⟩ := jF h2
      refine ⟨by simp [l1], fun i u v hu hv => ?_⟩
      cases i with
      | zero => simp at hu hv; rw [← hu, ← hv]; exact h1
      | succ i => simp at hu hv; exact l2 i u v hu hv
    · cases hq
theorem oZ (hS : SimH P G ι h w) (hn : n ≤ h.length) {x y : AV} {v : Value} (hp : F7 h n x = some y) (hx : VRel ι h w x v) : VRel ι (h.take n) w y v := by
  unfold F7 at hp
  split at hp
  · rename_i cells
    obtain ⟨l, hl, rfl⟩ := Option.map_eq_some_iff.mp hp
    obtain ⟨l1, l2⟩ := jF hl
    cases hx with
    | tup _ vs e1 e2 =>
      refine .tup _ _ (by omega) fun i x v hx hv => ?_
      have hi : i < cells.length := by have := j6 hx; omega
      exact gY hS hn (l2 i cells[i] x (List.getElem?_eq_getElem hi) hx) (e2 i cells[i] v (List.getElem?_eq_getElem hi) hv)
  · exact gY hS hn hp hx
def eh (args : List AV) (nt : Nat) (h : Heap) : St := ⟨fun k => args[k]?, nt, h⟩
def Fin (P : Program) (rs : List ResultVar) (n : Nat) (h : Heap) (K : AV → Heap → Prop) (s : St) : Prop :=
  h.length ≤ n ∧ n ≤ s.heap.length ∧ ∃ r r', P6 P s rs = some r ∧ F7 s.heap n r = some r' ∧
    (∀ (b : Nat) (bk : Blk), (s.heap.take n)[b]? = some (some bk) → h[b]? = some (some bk) ∨ ∀ x ∈ bk.cells, AVlt n x) ∧ K r' (s.heap.take n)
theorem AVlt.mono {x : AV} {m : Nat} (hx : AVlt n x) (hm : n ≤ m) : AVlt m x := by
  induction hx with
  | p x => exact .p x
  | agg cells h ih => exact .agg _ ih
  | tup cells h ih => exact .tup _ ih
  | fn f cells h ih => exact .fn _ _ ih
  | ref b g off sz len h => exact .ref _ _ _ _ _ (by omega)
  | ptr b g off h => exact .ptr _ _ _ (by omega)
  | pin cells => exact .pin _
  | mref b g h => exact .mref _ _ (by omega)
  | mp es => exact .mp _
theorem sI (hS : SimH P G ι h w) {b : Nat} {bk : Blk} (hb : h[b]? = some (some bk)) : ∀ x ∈ bk.cells, AVlt h.length x := by
  intro x hx
  have hne : bk.cells ≠ [] := List.ne_nil_of_mem hx
  rcases hS.hr.blk b bk hb hne with ⟨c, ty, _, _, hv⟩ | ⟨es, e1, _⟩
  · obtain ⟨i, hi, rfl⟩ := List.getElem_of_mem hx
    obtain ⟨v, _, p2⟩ := hv i _ (List.getElem?_eq_getElem hi)
    exact p2.lt
  · rw [e1, List.mem_singleton] at hx
    subst hx
    exact .mp _
theorem ei (hm : P.follows .mixedOrders = true) {f : FuncId} {fn : Func} {c : Code} (hf : P.funcs[f]? = some fn) (hb : fn.body = some c) {args : List AV} {K : AV → Heap → Prop}
    (hnt : args.length ≤ fn.ntmps) (n : Nat)
    (H : awp P G rl h c (fun e s => (e = .normal ∨ e = .ret) ∧ Fin P fn.results.toList n h K s) (eh args fn.ntmps h)) : d5 P G f args h K := by
  intro ι w vs hS hv
  refine calls_of_wp hf hb ?_
  have hs : Sim P G ι (eh args fn.ntmps h) { tmps := vs ++ Array.replicate (fn.ntmps - vs.size) undef, defers := [] } w := by
    refine ⟨hS, fun k x hx => ?_, ?_, rfl⟩
    · have hk : k < args.length := j6 hx
      have hk' : k < vs.size := by rw [← hv.1]; exact hk
      exact ⟨vs[k], by rw [Array.getElem?_append_left hk']; simp, hv.2 k x _ hx (by simp)⟩
    · have := hv.1
      simp [eh]; omega
  refine wp_mono (lN hm hS c _ _ ι _ w hs (.refl (Nat.le_refl h.length)) H) fun e a w' ⟨s', ι', ⟨he, hn1, hn2, r, r', hr, hl, hlt, hk⟩, hs', hev⟩ => ?_
  obtain ⟨v, hrun, hrv⟩ := jD hs' hr
  have hpost : a.defers = [] ∧ ∃ v, (results fn a.tmps).run P w' = .ok v w' ∧ ∃ v1 r h' ι', Ending.returned v = .returned v1 ∧ K r h' ∧ SimH P G ι' h' w' ∧ VRel ι' h' w' r v1 ∧ Evo h.length ι h w ι' h' w' := by
    refine ⟨hs'.df, v, hrun, v, r', s'.heap.take n, ι', rfl, hk, hs'.hS.take hn2 (fun b bk hb x hx => ?_), oZ hs'.hS hn2 hl hrv, hev.take hn1⟩
    rcases hlt b bk hb with hq | hq
    · exact (sI hS hq x hx).mono hn1
    · exact hq x hx
  rcases he with rfl | rfl <;> exact hpost
theorem d5.mono {f : FuncId} {args : List AV} {K K' : AV → Heap → Prop} (hc : d5 P G f args h K) (hk : ∀ r h', K r h' → K' r h') : d5 P G f args h K' :=
  fun ι w vs hS hv => (hc ι w vs hS hv).mono fun e w' ⟨v, r, h', ι', e1, e2, e3⟩ => ⟨v, r, h', ι', e1, hk _ _ e2, e3⟩
theorem o6.refl : o6 P G h0 s s := fun ι a w ι0 w0 _ hs he => ⟨ι, hs, he⟩
theorem o6.trans {s' s'' : St} (h1 : o6 P G h0 s s') (h2 : o6 P G h0 s' s'') : o6 P G h0 s s'' := fun ι a w ι0 w0 hS hs he =>
  let ⟨ι', hs', he'⟩ := h1 ι a w ι0 w0 hS hs he
  h2 ι' a w ι0 w0 hS hs' he'
theorem o6.le {s' : St} (hnt : s'.nt = s.nt) (m : Nat) (hm : h0.length ≤ m) (hm2 : m ≤ s.heap.length) (hh : s'.heap = s.heap.take m) (hf : ∀ k x, s'.fr k = some x → s.fr k = some x ∧ AVlt m x)
    (hb : ∀ (b : Nat) (bk : Blk), (s.heap.take m)[b]? = some (some bk) → h0[b]? = some (some bk) ∨ ∀ x ∈ bk.cells, AVlt m x) : o6 P G h0 s s' := by
  intro ι a w ι0 w0 hS hs he
  refine ⟨ι, ⟨?_, fun k x hx => ?_, by rw [hnt]; exact hs.nt, hs.df⟩, ?_⟩
  · rw [hh]
    refine hs.hS.take hm2 fun b bk hq x hx => ?_
    rcases hb b bk hq with h1 | h1
    · exact (sI hS h1 x hx).mono hm
    · exact h1 x hx
  · obtain ⟨h1, h2⟩ := hf k x hx
    obtain ⟨v, p1, p2⟩ := hs.fr k x h1
    exact ⟨v, p1, by rw [hh]; exact p2.take hm2 h2⟩
  · rw [hh]; exact he.take hm
theorem dy {b g : Nat} {bk : Option Blk} (hb : b < h.length) : A8 (h ++ [bk]) b g ↔ A8 h b g := by
  unfold A8; rw [List.getElem?_append_left hb]
theorem Q8 {k : Nat} {g : Nat} : own ι (h ++ [some ⟨g, []⟩]) k ↔ own ι h k := by
  constructor
  · rintro ⟨b, bk, h1, h2, h3⟩
    rcases Nat.lt_or_ge b h.length with hl | hl
    · rw [List.getElem?_append_left hl] at h1; exact ⟨b, bk, h1, h2, h3⟩
    · rw [List.getElem?_append_right hl] at h1
      cases hq : b - h.length with
      | zero => rw [hq] at h1; simp at h1; subst h1; exact absurd rfl h2
      | succ i => rw [hq] at h1; simp at h1
  · rintro ⟨b, bk, h1, h2, h3⟩
    exact ⟨b, bk, by rw [List.getElem?_append_left (j6 h1)]; exact h1, h2, h3⟩
theorem VRel.virt {x : AV} {v : Value} {g : Nat} (hx : VRel ι h w x v) : VRel ι (h ++ [some ⟨g, []⟩]) w x v := by
  induction hx with
  | p x v hx => exact .p _ _ (hx.mono (Nat.le_refl _) fun k _ ho => ⟨rfl, fun e => ho (Q8.mp e)⟩)
  | agg cells vs hl hv ih => exact .agg _ _ hl ih
  | tup cells vs hl hv ih => exact .tup _ _ hl ih
  | fn f cells vs hl hv ih => exact .fn _ _ _ hl ih
  | ref b g off sz len A c hn hb hg hv =>
    refine .ref _ _ _ _ _ _ _ hn (by simp; omega) (fun bk hq => hg bk (by rwa [List.getElem?_append_left hb] at hq)) fun hl => ?_
    rcases hv ((dy hb).mp hl) with hz | ⟨hA, hle, ⟨bk0, q0, hne⟩, hcs⟩
    · exact .inl hz
    · exact .inr ⟨hA, hle, ⟨bk0, by rw [List.getElem?_append_left hb]; exact q0, hne⟩, hcs⟩
  | ptr b g off A hb hg hv => exact .ptr _ _ _ _ (by simp; omega) (fun bk hq => hg bk (by rwa [List.getElem?_append_left hb] at hq)) fun hl => hv ((dy hb).mp hl)
  | pin cells blk off hv => exact .pin _ _ _ (hv.mono (Nat.le_refl _) fun k _ ho => ⟨rfl, fun e => ho (Q8.mp e)⟩)
  | mref b g r hb hg hv => exact .mref _ _ _ (by simp; omega) (fun bk hq => hg bk (by rwa [List.getElem?_append_left hb] at hq)) fun hl => hv ((dy hb).mp hl)
theorem o6.adopt (k sz : Nat) (hk : s.fr k = some (.p .nils)) : o6 P G h0 s { s with fr := upd s.fr k (.ref s.heap.length 0 0 sz 0), heap := s.heap ++ [some ⟨0, []⟩] } := by
  intro ι a w ι0 w0 hS hs he
  refine ⟨ι, ⟨⟨⟨fun b bk hb hne => ?_, fun b b' bk bk' q1 q2 n1 n2 e => ?_⟩, fun g cells hg => (hs.hS.gr g cells hg).mono (Nat.le_refl _) fun k _ ho => ⟨rfl, fun e => ho (Q8.mp e)⟩⟩, fun j x hx => ?_, hs.nt, hs.df⟩, ?_⟩
  · have hl : b < s.heap.length := by
      rcases Nat.lt_or_ge b s.heap.length with hl | hl
      · exact hl
      · rw [List.getElem?_append_right hl] at hb
        cases hq : b - s.heap.length with
        | zero => rw [hq] at hb; simp at hb; subst hb; exact absurd rfl hne
        | succ i => rw [hq] at hb; simp at hb
    rw [List.getElem?_append_left hl] at hb
    exact (hs.hS.hr.blk b bk hb hne).keep rfl rfl (fun x _ v hv => hv.virt) (Nat.le_refl _) fun k _ ho => ⟨rfl, fun e => ho (Q8.mp e)⟩
  · have hl : ∀ (b : Nat) (bk : Blk), (s.heap ++ [some ⟨0, []⟩])[b]? = some (some bk) → bk.cells ≠ [] → s.heap[b]? = some (some bk) := by
      intro b bk hb hne
      rcases Nat.lt_or_ge b s.heap.length with hl | hl
      · rwa [List.getElem?_append_left hl] at hb
      · rw [List.getElem?_append_right hl] at hb
        cases hq : b - s.heap.length with
        | zero => rw [hq] at hb; simp at hb; subst hb; exact absurd rfl hne
        | succ i => rw [hq] at hb; simp at hb
    exact hs.hS.hr.inj b b' bk bk' (hl b bk q1 n1) (hl b' bk' q2 n2) n1 n2 e
  · simp only [upd] at hx
    split at hx
    · rename_i hj; subst hj
      cases hx
      obtain ⟨v, p1, p2⟩ := hs.fr j _ hk
      have := p2.nils_inv; subst this
      exact ⟨_, p1, .ref _ _ _ _ _ _ _ (by omega) (by simp) (fun bk hq => Nat.zero_le _) fun _ => .inl ⟨rfl, rfl⟩⟩
    · obtain ⟨v, p1, p2⟩ := hs.fr j x hx
      exact ⟨v, p1, p2.virt⟩
  · refine ⟨he.size, fun j hj ho => ⟨(he.keep j hj ho).1, fun e => (he.keep j hj ho).2 (Q8.mp e)⟩, by have := he.len; simp; omega, fun b bk' hb hq => ?_, he.os, he.output, he.tape, he.drawn⟩
    have hl : b < s.heap.length := Nat.lt_of_lt_of_le hb he.len
    rw [List.getElem?_append_left hl] at hq
    exact he.gens b bk' hb hq
theorem o6.lay : o6 P G h0 s ⟨s.fr, s.nt, s.heap ++ [some ⟨0, []⟩]⟩ := by
  intro ι a w ι0 w0 hS hs he
  have hlo : ∀ (b : Nat) (bk : Blk), (s.heap ++ [some ⟨0, []⟩])[b]? = some (some bk) → bk.cells ≠ [] → s.heap[b]? = some (some bk) := by
    intro b bk hb hne
    rcases Nat.lt_or_ge b s.heap.length with hl | hl
    · rwa [List.getElem?_append_left hl] at hb
    · rw [List.getElem?_append_right hl] at hb
      cases hq : b - s.heap.length with
      | zero => rw [hq] at hb; simp at hb; subst hb; exact absurd rfl hne
      | succ i => rw [hq] at hb; simp at hb
  refine ⟨ι, ⟨⟨⟨fun b bk hb hne => ?_, fun b b' bk bk' q1 q2 n1 n2 e => hs.hS.hr.inj b b' bk bk' (hlo b bk q1 n1) (hlo b' bk' q2 n2) n1 n2 e⟩,
    fun g cells hg => (hs.hS.gr g cells hg).mono (Nat.le_refl _) fun k _ ho => ⟨rfl, fun e => ho (Q8.mp e)⟩⟩, fun j x hx => ?_, hs.nt, hs.df⟩, ?_⟩
  · exact (hs.hS.hr.blk b bk (hlo b bk hb hne) hne).keep rfl rfl (fun x _ v hv => hv.virt) (Nat.le_refl _) fun k _ ho => ⟨rfl, fun e => ho (Q8.mp e)⟩
  · obtain ⟨v, p1, p2⟩ := hs.fr j x hx
    exact ⟨v, p1, p2.virt⟩
  · refine ⟨he.size, fun j hj ho => ⟨(he.keep j hj ho).1, fun e => (he.keep j hj ho).2 (Q8.mp e)⟩, by have := he.len; simp; omega, fun b bk' hb hq => ?_, he.os, he.output, he.tape, he.drawn⟩
    have hl : b < s.heap.length := Nat.lt_of_lt_of_le hb he.len
    rw [List.getElem?_append_left hl] at hq
    exact he.gens b bk' hb hq
theorem o6.res : ∀ r : Nat, o6 P G h0 s ⟨s.fr, s.nt, s.heap ++ List.replicate r (some ⟨0, []⟩)⟩
  | 0 => by simp only [List.replicate_zero, List.append_nil]; exact .refl
  | r + 1 => by
    refine (o6.res r).trans ?_
    rw [List.replicate_succ', ← List.append_assoc]
    exact o6.lay
theorem dz {K K' : St → Prop} {Q Q' : Exit → St → Prop} (hk : ∀ s, K s → K' s) (hq : ∀ e s, Q e s → Q' e s) : ∀ e s, N6 K Q e s → N6 K' Q' e s := by
  intro e s h
  cases e <;> first | exact hk _ h | exact hq _ _ h
theorem pb {id : Nat} {Q Q' : Exit → St → Prop} (hq : ∀ e s, Q e s → Q' e s) : ∀ e s, aG id Q e s → aG id Q' e s := by
  intro e s h
  cases e with
  | exit i =>
    simp only [aG] at *
    split at h
    · rename_i hi; rw [if_pos hi]; exact hq _ _ h
    · rename_i hi; rw [if_neg hi]; exact hq _ _ h
  | _ => exact hq _ _ h
theorem qW {K K' : St → Prop} {o : Oper} (hk : ∀ s, K s → K' s) (h : W9 P G rl o K s) : W9 P G rl o K' s := by
  unfold W9 at *
  cases hc : L0 o with
  | some q =>
    obtain ⟨f, args⟩ := q
    simp only [hc] at h ⊢
    split at h
    · exact ⟨h.1, h.2.mono fun r h' hh => hk _ hh⟩
    · exact h
  | none =>
    simp only [hc] at h ⊢
    split at h
    · exact hk _ h
    · exact h
theorem fS {K K' : St → Prop} {ops : Array Oper} (hk : ∀ s, K s → K' s) : ∀ (l : List Oper) (s : St), n9 P G rl ops K l s → n9 P G rl ops K' l s
  | [], s, h => hk _ h
  | o :: r, s, h => by
    simp only [n9, aop] at *
    split at h
    · exact ⟨fun e => qW (fS hk r) (h.1 e), fun e => fS hk r _ (h.2 e)⟩
    · exact h
variable {es : List Nat}
theorem dA {K K' : St → Prop} {ops : Array Oper} (hk : ∀ s, K s → K' s) : ∀ (l : List Nat) (s : St), m9 P G rl es ops K l s → m9 P G rl es ops K' l s
  | [], s, h => hk s h
  | k :: rest, s, h => by
    unfold m9 at *
    split at h
    · exact h.elim
    · rename_i o ho
      (try simp only [ho])
      split at h
      · rename_i he; rw [if_pos he]; exact ⟨h.1, fO (dA hk rest) h.2⟩
      · rename_i he; rw [if_neg he]; obtain ⟨hh, v, h1, h2⟩ := h; exact ⟨hh, v, h1, dA hk rest _ h2⟩
theorem cu {K K' : St → Prop} {ops : Array Oper} {fs : List Nat} {base r : Nat} (hk : ∀ s, K s → K' s) : ∀ (l : List Nat) (s : St), o5 P G rl es ops fs base r K l s → o5 P G rl es ops fs base r K' l s
  | [], s, h => hk s h
  | k :: rest, s, h => by
    unfold o5 at *
    split at h
    · exact h.elim
    · rename_i o ho
      (try simp only [ho])
      split at h
      · rename_i ha; rw [if_pos ha]; obtain ⟨z, h1, h2, h3⟩ := h; exact ⟨z, h1, h2, cu hk rest _ h3⟩
      · rename_i ha
        rw [if_neg ha]
        split at h
        · rename_i he; rw [if_pos he]; exact dA hk _ _ h
        · rename_i he
          rw [if_neg he]
          split at h
          · rename_i hh; rw [if_pos hh]; obtain ⟨v, h1, h2⟩ := h; exact ⟨v, h1, cu hk rest _ h2⟩
          · rename_i hh; rw [if_neg hh]; obtain ⟨v, h1, h2⟩ := h; exact ⟨v, h1, cu hk rest _ h2⟩
theorem dB {K K' : St → Prop} {ops : Array Oper} (hk : ∀ s, K s → K' s) : ∀ (l : List Oper) (s : St), l8 P G rl ops K l s → l8 P G rl ops K' l s
  | [], s, h => hk s h
  | o :: r, s, h => by
    unfold l8 at *
    split at h
    · rename_i he; rw [if_pos he]; exact fP he (dB hk r) h
    · rename_i he; rw [if_neg he]; obtain ⟨v, h1, h2⟩ := h; exact ⟨v, h1, dB hk r _ h2⟩
theorem jG {K K' : St → Prop} {ops : Array Oper} (hk : ∀ s, K s → K' s) : ∀ (l : List Oper) (s : St), k8 P G rl ops K l s → k8 P G rl ops K' l s
  | [], s, h => hk _ h
  | o :: r, s, h => by
    obtain ⟨v, h1, h2⟩ := s8.mp h
    exact s8.mpr ⟨v, h1, jG hk r _ h2⟩
theorem jH : ∀ (c : Code) (Q Q' : Exit → St → Prop) (s : St), (∀ e s, Q e s → Q' e s) → awp P G rl h0 c Q s → awp P G rl h0 c Q' s := by
  intro c
  induction c with
  | skip => intro Q Q' s hq h; exact hq _ _ h
  | label l => intro Q Q' s hq h; exact hq _ _ h
  | region id ops draw =>
    intro Q Q' s hq h
    unfold awp at *
    cases draw with
    | true => exact h.imp (fun h => ⟨h.1, jG (fun s hh => hq _ _ hh) _ _ h.2⟩) (fun h => h.imp (fun h => ⟨h.1, dB (fun s hh => hq _ _ hh) _ _ h.2⟩) fun ⟨s1, base, r, ord, fs, es, h1, h2, h3, hi, h4⟩ => ⟨s1, base, r, ord, fs, es, h1, h2, h3, hi, cu (fun s hh => hq _ _ hh) _ _ h4⟩)
    | false => exact fS (fun s hh => hq _ _ hh) _ _ h
  | seq a b iha ihb =>
    intro Q Q' s hq ⟨J, h1, h2⟩
    exact ⟨J, iha _ _ s (dz (fun _ h => h) hq) h1, fun s1 hj => ihb _ _ s1 hq (h2 s1 hj)⟩
  | cond c x y ihx ihy =>
    intro Q Q' s hq h
    change jA (A5 G s c) (awp P G rl h0 x Q s) (awp P G rl h0 y Q s) at h
    change jA (A5 G s c) (awp P G rl h0 x Q' s) (awp P G rl h0 y Q' s)
    have h1 := ihx Q Q' s hq
    have h2 := ihy Q Q' s hq
    revert h
    generalize A5 G s c = v
    intro h
    unfold jA at *
    split at h
    · exact ⟨fun e => h1 (h.1 e), fun e => h2 (h.2 e)⟩
    · exact h.elim
  | block id c ih =>
    intro Q Q' s hq h
    exact ih _ _ s (pb hq) h
  | loop c ih =>
    intro Q Q' s hq ⟨I, h1, h2⟩
    exact ⟨I, h1, fun n s hi => ih _ _ s (dz (fun _ h => h) hq) (h2 n s hi)⟩
  | exit id => intro Q Q' s hq h; exact hq _ _ h
  | ret => intro Q Q' s hq h; exact hq _ _ h
  | _ => intro Q Q' s hq h; exact h
theorem xr {x y : Code} {Q : Exit → St → Prop} (h : awp P G rl h0 x (N6 (fun s' => awp P G rl h0 y Q s') Q) s) : awp P G rl h0 (.seq x y) Q s :=
  ⟨awp P G rl h0 y Q, jH _ _ _ _ (dz (fun s hh => ⟨s, .refl, hh⟩) fun _ _ hh => hh) h, fun _ h => h⟩
theorem b6 {x y : Code} {Q : Exit → St → Prop} (h : ∀ K : St → Prop, (∀ s, awp P G rl h0 y Q s → K s) → awp P G rl h0 x (N6 K Q) s) : awp P G rl h0 (.seq x y) Q s :=
  xr (h _ fun _ h => h)
theorem b5 {id : Nat} {ops : Array Oper} {Q : Exit → St → Prop} (h : n9 P G rl ops (Q .normal) ops.toList s) : awp P G rl h0 (.region id ops false) Q s := h
theorem vG {id : Nat} {ops : Array Oper} {Q : Exit → St → Prop} (hB : Region.lexB .any ops = true) (h : k8 P G rl ops (Q .normal) ops.toList s) : awp P G rl h0 (.region id ops true) Q s := .inl ⟨hB, h⟩
theorem eo (fr : Nat → Option AV) (d : Nat) (v : AV) : upd fr d v d = some v := by simp [upd]
theorem r4 {id : Nat} {ops : Array Oper} {Q : Exit → St → Prop} {fr : Nat → Option AV} {nt : Nat} {hp : Heap} (ord : List Nat) (r : Nat) (hl : ord.length = ops.size) (hr : (zsB P ops).length = r) {fs : List Nat} (hB : jx es .any ops fs ord (Array.replicate ops.size false) = true)
    (h : o5 P G rl es ops fs hp.length r (Q .normal) ord ⟨fr, nt, hp ++ List.replicate r (some ⟨0, []⟩)⟩) : awp P G rl h0 (.region id ops true) Q ⟨fr, nt, hp⟩ :=
  .inr (.inr ⟨_, hp.length, r, ord, fs, es, o6.res (s := ⟨fr, nt, hp⟩) r, hl, hB, bC.start hr, h⟩)
theorem E7 {ops : Array Oper} {fs : List Nat} {base r : Nat} {K : St → Prop} (h : K s) : o5 P G rl es ops fs base r K [] s := h
theorem s5 {ops : Array Oper} {K : St → Prop} (h : K s) : m9 P G rl es ops K [] s := h
theorem s6 {ops : Array Oper} {fs : List Nat} {base r k : Nat} {K0 : St → Prop} {o : Oper} {rest : List Nat} (ho : ops.toList[k]? = some o) (ha : r6 o = false) (he : aa es k o = true) (h : m9 P G rl es ops K0 (k :: rest) s) : o5 P G rl es ops fs base r K0 (k :: rest) s := by
  have ho : ops[k]? = some o := by rw [← Array.getElem?_toList]; exact ho
  unfold o5; simp only [ho]; rw [if_neg (by rw [ha]; decide), if_pos he]; exact h
theorem v6 {ops : Array Oper} {k : Nat} {K0 : St → Prop} {o : Oper} {rest : List Nat} (ho : ops.toList[k]? = some o) (ha : r6 o = false) (he : aa es k o = true) (h : ∀ K : St → Prop, (∀ s, m9 P G rl es ops K0 rest s → K s) → aop P G rl ops o K s) : m9 P G rl es ops K0 (k :: rest) s := by
  have ho : ops[k]? = some o := by rw [← Array.getElem?_toList]; exact ho
  unfold m9; simp only [ho]; rw [if_pos he]; exact ⟨ha, h _ fun _ h => h⟩
theorem qX {ops : Array Oper} {fs : List Nat} {r k d nt : Nat} {K0 : St → Prop} {o : Oper} {rest : List Nat} {fr : Nat → Option AV} {hp R : Heap} {z : List PV} (ho : ops.toList[k]? = some o) (ha : r6 o = true) (hz : O9 P o = some z) (hd : o.dst = some d) (hlt : d < nt)
    (hs : R[A6 ops k]? = some (some ⟨0, []⟩)) (h : o5 P G rl es ops fs hp.length r K0 rest ⟨upd fr d (.ptr (hp.length + A6 ops k) 1 0), nt, hp ++ R.set (A6 ops k) (some ⟨1, z.map .p⟩)⟩) : o5 P G rl es ops fs hp.length r K0 (k :: rest) ⟨fr, nt, hp ++ R⟩ := by
  have ho : ops[k]? = some o := by rw [← Array.getElem?_toList]; exact ho
  unfold o5
  simp only [ho]
  rw [if_pos ha]
  refine ⟨z, hz, by rw [List.getElem?_append_right (by omega)]; rw [show hp.length + A6 ops k - hp.length = A6 ops k by omega]; exact hs, ?_⟩
  rw [hd]
  simp only [St.put, St.setB, hlt, if_true]
  rw [List.set_append_right _ _ (by omega), show hp.length + A6 ops k - hp.length = A6 ops k by omega]
  exact h
theorem ep {o : Oper} (hf : B2 o = true) : ¬ r6 o = true ∧ ¬ Z9 o = true := by
  constructor
  · unfold B2 at hf; unfold r6
    split at hf <;> simp_all
  · unfold B2 at hf; unfold Z9
    split at hf <;> simp_all
theorem cT {o : Oper} {k : Nat} (hf : (B2 o && !es.contains k) = true) : ¬ aa es k o = true := by
  simp only [Bool.and_eq_true, Bool.not_eq_true'] at hf
  unfold aa
  rw [hf.2, Bool.or_false]
  exact (ep hf.1).2
theorem sJ {o : Oper} {k : Nat} (he : aa es k o = false) : Z9 o = false := by
  unfold aa at he
  rw [Bool.or_eq_false_iff] at he
  exact he.1
theorem lP {ops : Array Oper} {d nt : Nat} {o : Oper} {fr : Nat → Option AV} {H : Heap} {v : AV} (hf : B2 o = true) (hd : o.dst = some d) (hlt : d < nt)
    (hv : ∀ (K : St → Prop), (∀ (fr' : Nat → Option AV) (nt' : Nat) (hp' : Heap), K ⟨upd fr' d v, nt', hp'⟩) → cL P G rl ops o K ⟨fr, nt, H⟩) : ad P G rl ops o v ⟨fr, nt, H⟩ := fun H' => by
  obtain ⟨u, hy, hk⟩ := s8.mp (hv (fun s' => s'.fr d = some v) (fun fr' _ _ => eo fr' d v))
  rw [hd] at hk
  simp only [St.put, hlt, if_true, upd] at hk
  cases hk
  exact nb hf hy
theorem X1 {ops : Array Oper} {k d nt : Nat} {K0 : St → Prop} {o : Oper} {rest : List Nat} {fr : Nat → Option AV} {H : Heap} {v : AV} (ho : ops.toList[k]? = some o) (hf : (B2 o && !es.contains k) = true) (hd : o.dst = some d) (hlt : d < nt)
    (hv : ∀ (K : St → Prop), (∀ (fr' : Nat → Option AV) (nt' : Nat) (hp' : Heap), K ⟨upd fr' d v, nt', hp'⟩) → cL P G rl ops o K ⟨fr, nt, H⟩) (h : m9 P G rl es ops K0 rest ⟨upd fr d v, nt, H⟩) : m9 P G rl es ops K0 (k :: rest) ⟨fr, nt, H⟩ := by
  have ho : ops[k]? = some o := by rw [← Array.getElem?_toList]; exact ho
  have he : ¬ aa es k o = true := cT hf
  have hf : B2 o = true := by simp only [Bool.and_eq_true] at hf; exact hf.1
  unfold m9
  simp only [ho]
  rw [if_neg he]
  refine ⟨hf, v, lP hf hd hlt hv, ?_⟩
  rw [hd]; simp only [St.put, hlt, if_true]; exact h
theorem z7 {ops : Array Oper} {fs : List Nat} {base r k d nt : Nat} {K0 : St → Prop} {o : Oper} {rest : List Nat} {fr : Nat → Option AV} {H : Heap} {v : AV} (ho : ops.toList[k]? = some o) (hf : (B2 o && !es.contains k) = true) (hd : o.dst = some d) (hlt : d < nt)
    (hv : ∀ (K : St → Prop), (∀ (fr' : Nat → Option AV) (nt' : Nat) (hp' : Heap), K ⟨upd fr' d v, nt', hp'⟩) → cL P G rl ops o K ⟨fr, nt, H⟩) (h : o5 P G rl es ops fs base r K0 rest ⟨upd fr d v, nt, H⟩) : o5 P G rl es ops fs base r K0 (k :: rest) ⟨fr, nt, H⟩ := by
  have ho : ops[k]? = some o := by rw [← Array.getElem?_toList]; exact ho
  have he : ¬ aa es k o = true := cT hf
  have hf : B2 o = true := by simp only [Bool.and_eq_true] at hf; exact hf.1
  unfold o5
  simp only [ho]
  rw [if_neg (ep hf).1, if_neg he, if_pos (by rw [hf]; rfl)]
  refine ⟨v, lP hf hd hlt hv, ?_⟩
  rw [hd]; simp only [St.put, hlt, if_true]; exact h
theorem A1 {ops : Array Oper} {fs : List Nat} {r k d nt : Nat} {K0 : St → Prop} {o : Oper} {rest : List Nat} {fr : Nat → Option AV} {hp R : Heap} {z : List PV} (j : Nat) (hj : A6 ops k = j) (ho : ops.toList[k]? = some o) (ha : r6 o = true) (hd : o.dst = some d) (hlt : d < nt)
    (hs : R[j]? = some (some ⟨0, []⟩)) (hz : O9 P o = some z) (h : o5 P G rl es ops fs hp.length r K0 rest ⟨upd fr d (.ptr (hp.length + j) 1 0), nt, hp ++ R.set j (some ⟨1, z.map .p⟩)⟩) : o5 P G rl es ops fs hp.length r K0 (k :: rest) ⟨fr, nt, hp ++ R⟩ := by
  subst hj; exact qX ho ha hz hd hlt hs h
theorem v7 {ops : Array Oper} {fs : List Nat} {r k d nt : Nat} {K0 : St → Prop} {o : Oper} {rest : List Nat} {fr : Nat → Option AV} {hp R : Heap} {v : AV} (ho : ops.toList[k]? = some o) (he : aa es k o = false) (hh : (B2 o || fs.contains k) = false) (hd : o.dst = some d) (hlt : d < nt)
    (hv : ∀ (R' : Heap) (K : St → Prop), (∀ (fr' : Nat → Option AV) (nt' : Nat) (hp' : Heap), K ⟨upd fr' d v, nt', hp'⟩) → cL P G rl ops o K ⟨fr, nt, hp ++ R'⟩) (h : o5 P G rl es ops fs hp.length r K0 rest ⟨upd fr d v, nt, hp ++ R⟩) : o5 P G rl es ops fs hp.length r K0 (k :: rest) ⟨fr, nt, hp ++ R⟩ := by
  have ho : ops[k]? = some o := by rw [← Array.getElem?_toList]; exact ho
  unfold o5
  simp only [ho]
  have ha : ¬ r6 o = true := by
    intro e
    unfold r6 at e
    have he : Z9 o = false := sJ he
    unfold Z9 at he
    simp only [Bool.and_eq_true] at e
    cases hop : o.op <;> simp_all
  rw [if_neg ha, if_neg (by rw [he]; decide), if_neg (by rw [hh]; decide)]
  refine ⟨v, fun R' hR' => ?_, ?_⟩
  · obtain ⟨u, hy, hk⟩ := s8.mp (hv R' (fun s' => s'.fr d = some v) (fun fr' _ _ => eo fr' d v))
    rw [hd] at hk
    simp only [St.put, hlt, if_true, upd] at hk
    cases hk
    have : (hp ++ R).take hp.length = hp := by simp
    simp only [this]
    exact hy
  · rw [hd]
    simp only [St.put, hlt, if_true]
    exact h
theorem yS {ops : Array Oper} {fs : List Nat} {r k d nt : Nat} {K0 : St → Prop} {o : Oper} {rest : List Nat} {fr : Nat → Option AV} {hp R : Heap} {v : AV} (ho : ops.toList[k]? = some o) (he : aa es k o = false) (hf : fs.contains k = true) (hd : o.dst = some d) (hlt : d < nt)
    (hv : ∀ (H : Heap) (K : St → Prop), (∀ (fr' : Nat → Option AV) (nt' : Nat) (hp' : Heap), K ⟨upd fr' d v, nt', hp'⟩) → cL P G rl ops o K ⟨fr, nt, H⟩) (h : o5 P G rl es ops fs hp.length r K0 rest ⟨upd fr d v, nt, hp ++ R⟩) : o5 P G rl es ops fs hp.length r K0 (k :: rest) ⟨fr, nt, hp ++ R⟩ := by
  have ho : ops[k]? = some o := by rw [← Array.getElem?_toList]; exact ho
  unfold o5
  simp only [ho]
  have ha : ¬ r6 o = true := by
    intro e
    unfold r6 at e
    have he : Z9 o = false := sJ he
    unfold Z9 at he
    simp only [Bool.and_eq_true] at e
    cases hop : o.op <;> simp_all
  rw [if_neg ha, if_neg (by rw [he]; decide), if_pos (by rw [hf, Bool.or_true])]
  refine ⟨v, fun H => ?_, ?_⟩
  · obtain ⟨u, hy, hk⟩ := s8.mp (hv H (fun s' => s'.fr d = some v) (fun fr' _ _ => eo fr' d v))
    rw [hd] at hk
    simp only [St.put, hlt, if_true, upd] at hk
    cases hk
    exact hy
  · rw [hd]
    simp only [St.put, hlt, if_true]
    exact h
theorem E8 {id : Nat} {ops : Array Oper} {Q : Exit → St → Prop} (hB : qO .any ops ops.size 0 (Array.replicate ops.size false) = true) (h : l8 P G rl ops (Q .normal) ops.toList s) : awp P G rl h0 (.region id ops true) Q s := .inr (.inl ⟨hB, h⟩)
theorem F0 {ops : Array Oper} {K : St → Prop} (h : K s) : l8 P G rl ops K [] s := h
theorem J8 {ops : Array Oper} {K0 : St → Prop} {o : Oper} {rest : List Oper} (he : Z9 o = true) (h : ∀ K : St → Prop, (∀ s, l8 P G rl ops K0 rest s → K s) → aop P G rl ops o K s) : l8 P G rl ops K0 (o :: rest) s := by
  unfold l8; rw [if_pos he]; exact h _ fun _ h => h
theorem N7 {ops : Array Oper} {K0 : St → Prop} {o : Oper} {rest : List Oper} {d nt : Nat} {v : AV} {fr : Nat → Option AV} {hp : Heap} (he : Z9 o = false) (hd : o.dst = some d) (hlt : d < nt)
    (hv : ∀ (L : Heap) (K : St → Prop), (∀ (fr' : Nat → Option AV) (nt' : Nat) (hp' : Heap), K ⟨upd fr' d v, nt', hp'⟩) → cL P G rl ops o K ⟨fr, nt, hp ++ L⟩) (h : l8 P G rl ops K0 rest ⟨upd fr d v, nt, hp⟩) : l8 P G rl ops K0 (o :: rest) ⟨fr, nt, hp⟩ := by
  unfold l8
  rw [if_neg (by rw [he]; decide)]
  refine ⟨v, fun L => ?_, ?_⟩
  · obtain ⟨u, hy, hk⟩ := s8.mp (hv L (fun s' => s'.fr d = some v) (fun fr' _ _ => eo fr' d v))
    rw [hd] at hk
    simp only [St.put, hlt, if_true, upd] at hk
    cases hk
    exact hy
  · rw [hd]
    simp only [St.put, hlt, if_true]
    exact h
theorem b8 {ops : Array Oper} {K : St → Prop} (h : K s) : n9 P G rl ops K [] s := h
theorem i5 {ops : Array Oper} {K : St → Prop} (h : K s) : k8 P G rl ops K [] s := h
theorem b9 {ops : Array Oper} {K0 : St → Prop} {o : Oper} {rest : List Oper} (h : ∀ K : St → Prop, (∀ s, n9 P G rl ops K0 rest s → K s) → aop P G rl ops o K s) : n9 P G rl ops K0 (o :: rest) s :=
  h _ fun _ h => h
theorem j9 {ops : Array Oper} {K0 : St → Prop} {o : Oper} {rest : List Oper} (h : ∀ K : St → Prop, (∀ s, k8 P G rl ops K0 rest s → K s) → cL P G rl ops o K s) : k8 P G rl ops K0 (o :: rest) s :=
  h _ fun _ h => h
theorem c7 {id : Nat} {c : Code} {Q : Exit → St → Prop} (h : awp P G rl h0 c (aG id Q) s) : awp P G rl h0 (.block id c) Q s := h
theorem f9 {id : Nat} {Q : Exit → St → Prop} (h : Q (.exit id) s) : awp P G rl h0 (.exit id) Q s := h
theorem d3 {Q : Exit → St → Prop} (h : Q .ret s) : awp P G rl h0 .ret Q s := h
theorem c9 {Q : Exit → St → Prop} (h : Q .normal s) : awp P G rl h0 .skip Q s := h
@[simp] theorem eu {K : St → Prop} {Q : Exit → St → Prop} : N6 K Q .normal s = K s := rfl
@[simp] theorem jI {K : St → Prop} {Q : Exit → St → Prop} {i : Nat} : N6 K Q (.exit i) s = Q (.exit i) s := rfl
@[simp] theorem lQ {K : St → Prop} {Q : Exit → St → Prop} : N6 K Q .ret s = Q .ret s := rfl
@[simp] theorem cU {id : Nat} {Q : Exit → St → Prop} : aG id Q .normal s = Q .normal s := rfl
@[simp] theorem gZ {id i : Nat} {Q : Exit → St → Prop} : aG id Q (.exit i) s = if i = id then Q .normal s else Q (.exit i) s := rfl
@[simp] theorem jJ {id : Nat} {Q : Exit → St → Prop} : aG id Q .ret s = Q .ret s := rfl
theorem sK (b : Bool) : (b == true) = b := by cases b <;> rfl
theorem pc (b : Bool) : (b == false) = !b := by cases b <;> rfl
theorem D0 (fr : Nat → Option AV) (d : Nat) (v : AV) (k : Nat) : upd fr d v k = if k = d then some v else fr k := rfl
theorem n5 (L : Heap) (i : Nat) : (h ++ L)[h.length + i]? = L[i]? := by rw [List.getElem?_append_right (by omega)]; congr 1; omega
theorem ae (L : Heap) : (h ++ L)[h.length]? = L[0]? := by rw [List.getElem?_append_right (by omega)]; congr 1; omega
theorem T6 (L : Heap) (i : Nat) (x : Option Blk) : (h ++ L).set (h.length + i) x = h ++ L.set i x := by rw [List.set_append_right _ _ (by omega)]; congr 2; omega
theorem vH (L : Heap) (x : Option Blk) : (h ++ L).set h.length x = h ++ L.set 0 x := by rw [List.set_append_right _ _ (by omega)]; congr 2; omega
theorem vI (L : Heap) : (h ++ L).take h.length = h := by simp
theorem sL {x y : Code} {Q : Exit → St → Prop} (J : St → Prop) (h : awp P G rl h0 x (N6 (fun s' => ∃ s1, o6 P G h0 s' s1 ∧ J s1) Q) s) (hJ : ∀ s1, J s1 → awp P G rl h0 y Q s1) : awp P G rl h0 (.seq x y) Q s :=
  ⟨J, h, hJ⟩
theorem bQ {c : Code} {Q : Exit → St → Prop} (I : Nat → St → Prop) (n : Nat) (s1 : St) (hg : o6 P G h0 s s1) (hi : I n s1)
    (hr : ∀ n s, I n s → awp P G rl h0 c (N6 (fun s' => ∃ m s1, m < n ∧ o6 P G h0 s' s1 ∧ I m s1) Q) s) : awp P G rl h0 (.loop c) Q s :=
  ⟨I, ⟨n, s1, hg, hi⟩, hr⟩
def W6 (P : Program) (rs : List ResultVar) (h : Heap) (K : AV → Prop) (s : St) : Prop :=
  match P6 P s rs with
  | some r => match F7 s.heap h.length r with
    | some r' => s.heap.take h.length = h ∧ h.length ≤ s.heap.length ∧ K r'
    | none => False
  | none => False
theorem W6.fin {rs : List ResultVar} {K : AV → Prop} (hf : W6 P rs h K s) : Fin P rs h.length h (fun r h' => K r ∧ h' = h) s := by
  unfold W6 at hf
  split at hf
  · rename_i r hr
    split at hf
    · rename_i r' hr'
      obtain ⟨h1, h2, h3⟩ := hf
      exact ⟨Nat.le_refl _, h2, r, r', hr, hr', fun b bk hb => .inl (by rwa [h1] at hb), h3, h1⟩
    · exact hf.elim
  · exact hf.elim
def iR (P : Program) (rs : List ResultVar) (h : Heap) (K : AV → Prop) : Exit → St → Prop
  | .normal, s => W6 P rs h K s
  | .ret, s => W6 P rs h K s
  | _, _ => False
theorem c8 (hm : P.follows .mixedOrders = true) {f : FuncId} {fn : Func} {c : Code} (hf : P.funcs[f]? = some fn) (hb : fn.body = some c) {args : List AV} {K : AV → Prop} {rs : List ResultVar} {nt : Nat}
    (hrs : fn.results.toList = rs) (hn : fn.ntmps = nt) (hnt : args.length ≤ nt) (H : awp P G rl h c (iR P rs h K) (eh args nt h)) : d5 P G f args h (fun r h' => K r ∧ h' = h) := by
  subst hrs; subst hn
  refine ei (rl := rl) hm hf hb hnt h.length (jH _ _ _ _ (fun e s hh => ?_) H)
  cases e with
  | normal => exact ⟨.inl rfl, W6.fin hh⟩
  | ret => exact ⟨.inr rfl, W6.fin hh⟩
  | _ => exact hh.elim
def y5 (P : Program) (rs : List ResultVar) (h : Heap) (K : AV → Heap → Prop) (s : St) : Prop :=
  match P6 P s rs with
  | some r => match F7 s.heap h.length r with
    | some r' => h.length ≤ s.heap.length ∧ (∀ (b : Nat) (bk : Blk), (s.heap.take h.length)[b]? = some (some bk) → h[b]? = some (some bk) ∨ ∀ x ∈ bk.cells, AVlt h.length x) ∧ K r' (s.heap.take h.length)
    | none => False
  | none => False
def A0 (P : Program) (rs : List ResultVar) (h : Heap) (K : AV → Heap → Prop) : Exit → St → Prop
  | .normal, s => y5 P rs h K s
  | .ret, s => y5 P rs h K s
  | _, _ => False
theorem i3 (hm : P.follows .mixedOrders = true) {f : FuncId} {fn : Func} {c : Code} (hf : P.funcs[f]? = some fn) (hb : fn.body = some c) {args : List AV} {K : AV → Heap → Prop} {rs : List ResultVar} {nt : Nat}
    (hrs : fn.results.toList = rs) (hn : fn.ntmps = nt) (hnt : args.length ≤ nt) (H : awp P G rl h c (A0 P rs h K) (eh args nt h)) : d5 P G f args h K := by
  subst hrs; subst hn
  have key : ∀ s, y5 P fn.results.toList h K s → Fin P fn.results.toList h.length h K s := by
    intro s hf
    unfold y5 at hf
    split at hf
    · rename_i r hr
      split at hf
      · rename_i r' hr'
        obtain ⟨h1, h2, h3⟩ := hf
        exact ⟨Nat.le_refl _, h1, r, r', hr, hr', h2, h3⟩
      · exact hf.elim
    · exact hf.elim
  refine ei (rl := rl) hm hf hb hnt h.length (jH _ _ _ _ (fun e s hh => ?_) H)
  cases e with
  | normal => exact ⟨.inl rfl, key _ hh⟩
  | ret => exact ⟨.inr rfl, key _ hh⟩
  | _ => exact hh.elim
def yT (P : Program) (rs : List ResultVar) (h : Heap) (K : AV → Heap → Prop) (s : St) : Prop :=
  h.length ≤ s.heap.length ∧ match P6 P s rs with
  | some r => K r s.heap
  | none => False
theorem Sim.evoKeep (hm : P.follows .mixedOrders = true) {f : FuncId} {fn : Func} {c : Code} (hf : P.funcs[f]? = some fn) (hb : fn.body = some c) {args : List AV} {K : AV → Heap → Prop}
    (hnt : args.length ≤ fn.ntmps)
    (H : awp P G rl h c (fun e s => (e = .normal ∨ e = .ret) ∧ yT P fn.results.toList h K s) (eh args fn.ntmps h)) : d5 P G f args h K := by
  intro ι w vs hS hv
  refine calls_of_wp hf hb ?_
  have hs : Sim P G ι (eh args fn.ntmps h) { tmps := vs ++ Array.replicate (fn.ntmps - vs.size) undef, defers := [] } w := by
    refine ⟨hS, fun k x hx => ?_, ?_, rfl⟩
    · have hk : k < args.length := j6 hx
      have hk' : k < vs.size := by rw [← hv.1]; exact hk
      exact ⟨vs[k], by rw [Array.getElem?_append_left hk']; simp, hv.2 k x _ hx (by simp)⟩
    · have := hv.1
      simp [eh]; omega
  refine wp_mono (lN hm hS c _ _ ι _ w hs (.refl (Nat.le_refl h.length)) H) fun e a w' ⟨s', ι', ⟨he, hn1, hr⟩, hs', hev⟩ => ?_
  split at hr
  case h_2 => exact hr.elim
  rename_i r hr'
  obtain ⟨v, hrun, hrv⟩ := jD hs' hr'
  have hpost : a.defers = [] ∧ ∃ v, (results fn a.tmps).run P w' = .ok v w' ∧ ∃ v1 r h' ι', Ending.returned v = .returned v1 ∧ K r h' ∧ SimH P G ι' h' w' ∧ VRel ι' h' w' r v1 ∧ Evo h.length ι h w ι' h' w' :=
    ⟨hs'.df, v, hrun, v, r, s'.heap, ι', rfl, hr, hs'.hS, hrv, hev⟩
  rcases he with rfl | rfl <;> exact hpost
end
end
section
mutual
def s4 (m : Nat) : AV → Prop
  | .p _ => True
  | .agg l => o4 m l
  | .tup l => o4 m l
  | .fn _ l => o4 m l
  | .ref b _ _ _ _ => b < m
  | .ptr b _ _ => b < m
  | .pin _ => True
  | .mref b _ => b < m
  | .mp _ => True
def o4 (m : Nat) : List AV → Prop
  | [] => True
  | x :: r => s4 m x ∧ o4 m r
end
mutual
theorem sM {m : Nat} : ∀ (x : AV), s4 m x → AVlt m x
  | .p _, _ => .p _
  | .agg l, h => .agg l (L7 l (by simpa [s4] using h))
  | .tup l, h => .tup l (L7 l (by simpa [s4] using h))
  | .fn f l, h => .fn f l (L7 l (by simpa [s4] using h))
  | .ref b g o s l, h => .ref b g o s l (by simpa [s4] using h)
  | .ptr b g o, h => .ptr b g o (by simpa [s4] using h)
  | .pin c, _ => .pin c
  | .mref b g, h => .mref b g (by simpa [s4] using h)
  | .mp es, _ => .mp es
theorem L7 {m : Nat} : ∀ (l : List AV), o4 m l → ∀ x ∈ l, AVlt m x
  | [], _ => fun x hx => by simp at hx
  | y :: r, h => fun x hx => by
    simp only [o4] at h
    rcases List.mem_cons.mp hx with e | e
    · rw [e]; exact sM y h.1
    · exact L7 r h.2 x e
end
def frL : List (Nat × AV) → Nat → Option AV
  | [], _ => none
  | (d, v) :: r, k => if k = d then some v else frL r k
def G8 (s : St) (m : Nat) : List (Nat × AV) → Prop
  | [] => True
  | (k, x) :: r => s.fr k = some x ∧ s4 m x ∧ G8 s m r
def C1 (m : Nat) : List (Option Blk) → Prop
  | [] => True
  | none :: r => C1 m r
  | some bk :: r => o4 m bk.cells ∧ C1 m r
theorem fT {s : St} {m : Nat} : ∀ {l : List (Nat × AV)}, G8 s m l → ∀ k x, frL l k = some x → s.fr k = some x ∧ AVlt m x
  | [], _, k, x, h => by simp [frL] at h
  | (d, v) :: r, hk, k, x, h => by
    simp only [G8] at hk
    simp only [frL] at h
    split at h
    · rename_i e
      cases h
      rw [e]
      exact ⟨hk.1, sM _ hk.2.1⟩
    · exact fT hk.2.2 k x h
theorem aH {m : Nat} : ∀ {l : List (Option Blk)}, C1 m l → ∀ (i : Nat) bk, l[i]? = some (some bk) → ∀ x ∈ bk.cells, AVlt m x
  | [], _, i, bk, h => by simp at h
  | none :: r, hk, i, bk, h => by
    simp only [C1] at hk
    cases i with
    | zero => simp at h
    | succ i => exact aH hk i bk (by simpa using h)
  | some b :: r, hk, i, bk, h => by
    simp only [C1] at hk
    cases i with
    | zero => simp at h; subst h; exact L7 _ hk.1
    | succ i => exact aH hk.2 i bk (by simpa using h)
section
variable {P : Program} {G : Nat → Option (List PV)} {rl : List String} {h : Heap}
def Sub (h : Heap) (s : St) (l : List (Nat × AV)) (L : List (Option Blk)) (nt : Nat) : Prop :=
  s.nt = nt ∧ (∃ L', s.heap = h ++ (L ++ L')) ∧ G8 s (h.length + L.length) l ∧ C1 (h.length + L.length) L
theorem Sub.ghost {s : St} {l : List (Nat × AV)} {L : List (Option Blk)} {nt : Nat} (hs : Sub h s l L nt) : o6 P G h s ⟨frL l, nt, h ++ L⟩ := by
  obtain ⟨h1, ⟨L', h2⟩, h3, h4⟩ := hs
  have ht : s.heap.take (h.length + L.length) = h ++ L := by rw [h2, ← List.append_assoc, List.take_left' (by simp)]
  refine o6.le h1.symm (h.length + L.length) (by omega) (by rw [h2]; simp only [List.length_append]; omega) ht.symm (fun k x hx => fT h3 k x hx) fun b bk hb => ?_
  rw [ht] at hb
  by_cases hlt : b < h.length
  · left; rwa [List.getElem?_append_left hlt] at hb
  · right
    rw [List.getElem?_append_right (by omega)] at hb
    exact aH h4 _ bk hb
theorem o9 {c : Code} {Q : Exit → St → Prop} {s : St} (N nt : Nat) (l : Nat → List (Nat × AV)) (L : Nat → List (Option Blk)) (p : Nat → Prop) (hi : Sub h s (l 0) (L 0) nt) (hp : p 0)
    (hb : ∀ i, i ≤ N → p i → ∀ K : St → Prop, (∀ s', (i < N ∧ p (i + 1) ∧ Sub h s' (l (i + 1)) (L (i + 1)) nt) → K s') → awp P G rl h c (N6 K Q) ⟨frL (l i), nt, h ++ L i⟩) : awp P G rl h (.loop c) Q s := by
  refine bQ (fun n s => ∃ i, i ≤ N ∧ p i ∧ n = N - i ∧ s = ⟨frL (l i), nt, h ++ L i⟩) N _ hi.ghost ⟨0, Nat.zero_le _, hp, rfl, rfl⟩ fun n s hI => ?_
  obtain ⟨i, h1, h2, rfl, rfl⟩ := hI
  exact hb i h1 h2 _ fun s' hs => ⟨N - (i + 1), _, by omega, hs.2.2.ghost, i + 1, by omega, hs.2.1, rfl, rfl⟩
theorem Sub.ghostH {H : Heap} {s : St} {l : List (Nat × AV)} {L : List (Option Blk)} {nt : Nat} (hl : H.length = h.length)
    (hc : ∀ (b : Nat) (bk : Blk), H[b]? = some (some bk) → h[b]? = some (some bk) ∨ o4 h.length bk.cells) (hs : Sub H s l L nt) : o6 P G h s ⟨frL l, nt, H ++ L⟩ := by
  obtain ⟨h1, ⟨L', h2⟩, h3, h4⟩ := hs
  have ht : s.heap.take (H.length + L.length) = H ++ L := by rw [h2, ← List.append_assoc, List.take_left' (by simp)]
  refine o6.le h1.symm (H.length + L.length) (by omega) (by rw [h2]; simp only [List.length_append]; omega) ht.symm (fun k x hx => fT h3 k x hx) fun b bk hb => ?_
  rw [ht] at hb
  by_cases hlt : b < H.length
  · rw [List.getElem?_append_left hlt] at hb
    rcases hc b bk hb with hb | hb
    · exact .inl hb
    · exact .inr fun x hx => (L7 _ hb x hx).mono (by omega)
  · right
    rw [List.getElem?_append_right (by omega)] at hb
    exact aH h4 _ bk hb
theorem Q9 {c : Code} {Q : Exit → St → Prop} {s : St} (N nt : Nat) (H : Nat → Heap) (l : Nat → List (Nat × AV)) (L : Nat → List (Option Blk)) (p : Nat → Prop)
    (hH : ∀ i, (H i).length = h.length ∧ ∀ (b : Nat) (bk : Blk), (H i)[b]? = some (some bk) → h[b]? = some (some bk) ∨ o4 h.length bk.cells) (hi : Sub (H 0) s (l 0) (L 0) nt) (hp : p 0)
    (hb : ∀ i, i ≤ N → p i → ∀ K : St → Prop, (∀ s', (i < N ∧ p (i + 1) ∧ Sub (H (i + 1)) s' (l (i + 1)) (L (i + 1)) nt) → K s') → awp P G rl h c (N6 K Q) ⟨frL (l i), nt, H i ++ L i⟩) : awp P G rl h (.loop c) Q s := by
  refine bQ (fun n s => ∃ i, i ≤ N ∧ p i ∧ n = N - i ∧ s = ⟨frL (l i), nt, H i ++ L i⟩) N _ (hi.ghostH (hH 0).1 (hH 0).2) ⟨0, Nat.zero_le _, hp, rfl, rfl⟩ fun n s hI => ?_
  obtain ⟨i, h1, h2, rfl, rfl⟩ := hI
  exact hb i h1 h2 _ fun s' hs => ⟨N - (i + 1), _, by omega, hs.2.2.ghostH (hH (i + 1)).1 (hH (i + 1)).2, i + 1, by omega, hs.2.1, rfl, rfl⟩
theorem jK {x y : Code} {Q : Exit → St → Prop} {s : St} (nt : Nat) (l : List (Nat × AV)) (L : List (Option Blk)) (p : Prop) (h1 : ∀ K : St → Prop, (∀ s', (p ∧ Sub h s' l L nt) → K s') → awp P G rl h x (N6 K Q) s)
    (h2 : p → awp P G rl h y Q ⟨frL l, nt, h ++ L⟩) : awp P G rl h (.seq x y) Q s :=
  sL (fun s1 => p ∧ s1 = ⟨frL l, nt, h ++ L⟩) (h1 _ fun s' hs => ⟨_, hs.2.ghost, hs.1, rfl⟩) fun s1 e => by obtain ⟨hp, rfl⟩ := e; exact h2 hp
end
end
section
theorem xt (n : Int) : inR .i64 n = (decide (-9223372036854775808 ≤ n) && decide (n ≤ 9223372036854775807)) := rfl
theorem xu (n : Int) : inR .u64 n = (decide (0 ≤ n) && decide (n ≤ 18446744073709551615)) := rfl
theorem xv (n : Int) : inR .u32 n = (decide (0 ≤ n) && decide (n ≤ 4294967295)) := rfl
theorem xw (n : Int) : inR .i32 n = (decide (-2147483648 ≤ n) && decide (n ≤ 2147483647)) := rfl
theorem yU (n : Int) : inR .u8 n = (decide (0 ≤ n) && decide (n ≤ 255)) := rfl
def qY (w : Bool) (v : AV) : AV := if w = true then v else .undef
theorem tS (v : AV) : qY true v = v := rfl
theorem qZ (v : AV) : qY false v = .undef := rfl
theorem tT (x y : AV) : kX true x y = x := by unfold kX; split <;> rfl
theorem ra (x y : AV) : kX false x y = y := by unfold kX; split <;> rfl
theorem xx (t x : Bool) : kX t (.b true) (qY (!t) (.b x)) = .b (t || x) := by cases t <;> rfl
theorem vJ (t x : Bool) : kX (!t) (.b true) (qY t (.b x)) = .b (!t || x) := by cases t <;> rfl
theorem vK (t x : Bool) : kX t (qY t (.b x)) (.b false) = .b (t && x) := by cases t <;> rfl
def nd : Option AV → Bool → Option Bool
  | some (.p (.bool g)), want => some (g == want)
  | some (.tup []), _ => some false
  | _, _ => none
theorem vL (g want : Bool) : nd (some (.p (.bool g))) want = some (g == want) := rfl
theorem vM (want : Bool) : nd (some (.tup [])) want = some false := rfl
theorem vN (u x want : Bool) : nd (some (qY u (.p (.bool x)))) want = some (u && (x == want)) := by cases u <;> rfl
theorem vO (ops : Array Oper) (o : Oper) (s : St) : V0 ops o s = match o.guard with | none => some true | some (j, want) => nd (ax ops s j) want := by
  unfold V0
  cases o.guard with
  | none => rfl
  | some q =>
    obtain ⟨j, want⟩ := q
    dsimp only
    generalize ax ops s j = g
    cases g with
    | none => rfl
    | some v =>
      cases v with
      | p x => cases x <;> rfl
      | tup l => cases l <;> rfl
      | _ => rfl
theorem xy (t : Bool) (X Y : Prop) : jA (some (.p (.bool t))) X Y = ((t = true → X) ∧ (t = false → Y)) := rfl
theorem l9 {K : St → Prop} {X : Prop} {b : Bool} {fr : Nat → Option AV} {nt d : Nat} {hp : Heap} {v : AV} (hv : b = true → K ⟨upd fr d v, nt, hp⟩ → X) (hk : K ⟨upd fr d (qY b v), nt, hp⟩) : (b = true → X) ∧ (b = false → K ⟨upd fr d (.tup []), nt, hp⟩) := by
  cases b with
  | true => exact ⟨fun _ => hv rfl hk, fun h => (by cases h)⟩
  | false => exact ⟨fun h => (by cases h), fun _ => hk⟩
section
variable {P : Program} {G : Nat → Option (List PV)} {rl : List String} {ops : Array Oper} {o : Oper} {K : St → Prop} {s : St}
theorem b7 {h0 : Heap} {c : Operand} {x y : Code} {Q : Exit → St → Prop} (h : ∀ A B : Prop, (awp P G rl h0 x Q s → A) → (awp P G rl h0 y Q s → B) → jA (A5 G s c) A B) : awp P G rl h0 (.cond c x y) Q s :=
  h _ _ id id
end
end
section
def SS := And.intro (And.intro (And.intro (And.intro (And.intro (And.intro (And.intro (@aop.eq_1) (And.intro (@ax.eq_1) (@W9.eq_1))) (And.intro (@fG.eq_1) (And.intro (@cL.eq_1) (@L0.eq_1)))) (And.intro (And.intro (@opA.eq_1) (And.intro (@A5.eq_1) (@A5.eq_2))) (And.intro (And.intro (@A5.eq_3) (@A5.eq_4)) (And.intro (@K4.eq_1) (@K4.eq_2))))) (And.intro (And.intro (And.intro (@fE.eq_1) (And.intro (@fE.eq_2) (@fE.eq_3))) (And.intro (@L9.eq_1) (And.intro (@L9.eq_2) (@L9.eq_3)))) (And.intro (And.intro (@L9.eq_4) (And.intro (@L9.eq_5) (@L9.eq_6))) (And.intro (And.intro (@L9.eq_7) (@N5.eq_1)) (And.intro (@N5.eq_2) (@xt)))))) (And.intro (And.intro (And.intro (And.intro (@xu) (And.intro (@xv) (@xw))) (And.intro (@yU) (And.intro (@Option.map_some.{0, 0}) (@Option.map_none.{0, 0})))) (And.intro (And.intro (@Option.bind_some.{0, 0}) (And.intro (@Option.bind_none.{0, 0}) (@St.put.eq_1))) (And.intro (And.intro (@St.put.eq_2) (@D0)) (And.intro (@eu) (@jI))))) (And.intro (And.intro (And.intro (@lQ) (And.intro (@cU) (@gZ))) (And.intro (@jJ) (And.intro (@bG.eq_1) (@bG.eq_2)))) (And.intro (And.intro (@bG.eq_3) (And.intro (@AV.scalar.eq_1) (@AV.scalar.eq_2))) (And.intro (And.intro (@AV.scalar.eq_3) (@tA.eq_1)) (And.intro (@tA.eq_2) (@tA.eq_3))))))) (And.intro (And.intro (And.intro (And.intro (And.intro (@dV.eq_1) (And.intro (@dV.eq_2) (@dV.eq_3))) (And.intro (@dV.eq_4) (And.intro (@dV.eq_5) (@dV.eq_6)))) (And.intro (And.intro (@dV.eq_7) (And.intro (@au.eq_1) (@au.eq_2))) (And.intro (And.intro (@au.eq_3) (@au.eq_4)) (And.intro (@au.eq_5) (@au.eq_6))))) (And.intro (And.intro (And.intro (@au.eq_7) (And.intro (@eqA.eq_1) (@eqA.eq_2))) (And.intro (@eqA.eq_3) (And.intro (@eqA.eq_4) (@eqA.eq_5)))) (And.intro (And.intro (@eqA.eq_6) (And.intro (@unA.eq_1) (@unA.eq_2))) (And.intro (And.intro (@unA.eq_3) (@r8.eq_1)) (And.intro (@O8.eq_1) (@O8.eq_2)))))) (And.intro (And.intro (And.intro (And.intro (@TI.isAgg.eq_1) (And.intro (@P3.eq_1) (@s9.eq_1))) (And.intro (@fF.eq_1) (And.intro (@fF.eq_2) (@fF.eq_3)))) (And.intro (And.intro (@fF.eq_4) (And.intro (@fF.eq_5) (@L4.eq_1))) (And.intro (And.intro (@L4.eq_2) (@L4.eq_3)) (And.intro (@L4.eq_4) (@L4.eq_5))))) (And.intro (And.intro (And.intro (@L4.eq_6) (And.intro (@iY.eq_1) (@U9.eq_1))) (And.intro (And.intro (@U9.eq_2) (@U9.eq_3)) (And.intro (@U9.eq_4) (@mR.eq_1)))) (And.intro (And.intro (@K9.eq_1) (And.intro (@K9.eq_2) (@K9.eq_3))) (And.intro (And.intro (@tT) (@ra)) (And.intro (@xx) (@vJ)))))))) (And.intro (And.intro (And.intro (And.intro (And.intro (And.intro (@vK) (And.intro (@tS) (@qZ))) (And.intro (@decide_true) (And.intro (@decide_false) (@ne_eq.{1})))) (And.intro (And.intro (@bn.eq_1) (And.intro (@bn.eq_2) (@u5.eq_1))) (And.intro (And.intro (@u5.eq_2) (@pvs.eq_1)) (And.intro (@pvs.eq_2) (@pvs.eq_3))))) (And.intro (And.intro (And.intro (@B9.eq_1) (And.intro (@B9.eq_2) (@n5))) (And.intro (@ae) (And.intro (@T6) (@vH)))) (And.intro (And.intro (@if_true.{1}) (And.intro (@if_false.{1}) (@ite_true.{1}))) (And.intro (And.intro (@ite_false.{1}) (@true_implies)) (And.intro (@false_implies) (@forall_const.{1})))))) (And.intro (And.intro (And.intro (And.intro (@and_true) (And.intro (@true_and) (@and_self))) (And.intro (@and_false) (And.intro (@false_and) (@List.getElem?_cons_zero.{0})))) (And.intro (And.intro (@List.getElem?_cons_succ.{0}) (And.intro (@List.getElem?_nil.{0}) (@List.map_cons.{0, 0}))) (And.intro (And.intro (@List.map_nil.{0, 0}) (@List.drop_succ_cons.{0})) (And.intro (@List.drop_zero.{0}) (@List.take_succ_cons.{0}))))) (And.intro (And.intro (And.intro (@List.take_zero.{0}) (And.intro (@List.length_cons.{0}) (@List.length_nil.{0}))) (And.intro (@List.cons_append.{0}) (And.intro (@List.nil_append.{0}) (@List.append_nil.{0})))) (And.intro (And.intro (@List.append_assoc.{0}) (And.intro (@List.all_cons.{0}) (@List.all_nil.{0}))) (And.intro (And.intro (@List.isEmpty_cons.{0}) (@List.set_cons_zero.{0})) (And.intro (@List.set_cons_succ.{0}) (@Bool.and_true))))))) (And.intro (And.intro (And.intro (And.intro (And.intro (@Bool.true_and) (And.intro (@Bool.false_eq_true) (@Bool.and_self))) (And.intro (@Option.isSome_some.{0}) (And.intro (@Option.some.injEq.{0}) (@Option.bind_map.{0, 0, 0})))) (And.intro (And.intro (@beq_self_eq_true.{0}) (And.intro (@not_true_eq_false) (@not_false_eq_true))) (And.intro (And.intro (@Bool.not_true) (@Bool.not_false)) (And.intro (@Nat.zero_le) (@Nat.add_zero))))) (And.intro (And.intro (And.intro (@Nat.zero_add) (And.intro (@Nat.lt_irrefl) (@List.length_append.{0}))) (And.intro (@cond_true.{1}) (And.intro (@cond_false.{1}) (@List.flatMap_cons.{0, 0})))) (And.intro (And.intro (@List.flatMap_nil.{0, 0}) (And.intro (@List.replicate.eq_1.{0}) (@List.replicate.eq_2.{0}))) (And.intro (And.intro (@id_eq.{1}) (@eh.eq_1)) (And.intro (@List.getElem?_toArray.{0}) (@sK)))))) (And.intro (And.intro (And.intro (And.intro (@pc) (And.intro (@Option.isSome_none.{0}) (@Bool.not_eq_true))) (And.intro (@Bool.not_eq_false) (And.intro (@eq_self.{1}) (@Bool.or_true)))) (And.intro (And.intro (@Bool.true_or) (And.intro (@Bool.or_false) (@Bool.false_or))) (And.intro (And.intro (@Bool.and_false) (@Bool.false_and)) (And.intro (@Bool.not_not) (@frL.eq_1))))) (And.intro (And.intro (And.intro (@frL.eq_2) (And.intro (@Int.toNat_natCast) (@Int.natCast_nonneg))) (And.intro (And.intro (@List.getElem?_map.{0, 0}) (@mQ.eq_def)) (And.intro (@mP.eq_def) (@av.eq_def)))) (And.intro (And.intro (@ly.eq_def) (And.intro (@mO.eq_def) (@vO))) (And.intro (And.intro (@vL) (@vM)) (And.intro (@vN) (@xy))))))))
def S1 := And.intro SS (And.intro @AV.i.eq_1 (And.intro @AV.b.eq_1 (And.intro @AV.undef.eq_1 (And.intro @List.contains_nil.{0} @Bool.false_eq_true))))
theorem i6 {P : Program} {G : Nat → Option (List PV)} {rl : List String} {h0 : Heap} {s : St} {id : Nat} {ops : Array Oper} {Q : Exit → St → Prop} (h : k8 P G rl ops (Q .normal) ops.toList s) (hB : Region.lexB .any ops = true := by kernel_rfl) : awp P G rl h0 (.region id ops true) Q s := vG hB h
def cndB := And.intro @cond_true.{1} @cond_false.{1}
def ENB := And.intro @iR.eq_1 (And.intro @iR.eq_2 (And.intro @iR.eq_3 (And.intro @W6.eq_1 (And.intro @P6.eq_1 (And.intro @P5.eq_1 (And.intro @P5.eq_2 (And.intro @H8.eq_1 (And.intro @H8.eq_2 (And.intro @F7.eq_1 (And.intro @F7.eq_2 (And.intro @E6.eq_1 (And.intro @E6.eq_2 (And.intro @E6.eq_3 (And.intro @G2.eq_1 (And.intro @G2.eq_2 (And.intro @pur.eq_1 (And.intro @pur.eq_2 (And.intro @pur.eq_3 (And.intro @pur.eq_4 (And.intro @L6.eq_1 (And.intro @L6.eq_2 (And.intro @vI (And.intro @List.take_length.{0} (And.intro @Nat.le_add_right @Nat.le_refl))))))))))))))))))))))))
def KNB := And.intro @G8.eq_1 (And.intro @G8.eq_2 (And.intro @s4.eq_1 (And.intro @s4.eq_2 (And.intro @s4.eq_3 (And.intro @s4.eq_4 (And.intro @s4.eq_5 (And.intro @s4.eq_6 (And.intro @s4.eq_7 (And.intro @o4.eq_1 (And.intro @o4.eq_2 (And.intro @C1.eq_1 (And.intro @C1.eq_2 (And.intro @C1.eq_3 (And.intro @List.length_map.{0, 0} (And.intro @Int.natCast_zero (And.intro @AV.p.injEq (And.intro @PV.int.injEq (And.intro @PV.bool.injEq @PV.sl.injEq))))))))))))))))))
def NB := And.intro @eu (And.intro @jI (And.intro @lQ (And.intro @cU (And.intro @gZ @jJ))))
def BN := And.intro @Bool.not_not (And.intro @Bool.and_eq_true (And.intro @Bool.not_eq_eq_eq_not (And.intro @Bool.not_true (And.intro @Bool.not_false (And.intro @Bool.and_true (And.intro @Bool.true_and (And.intro @Bool.or_false (And.intro @Bool.false_or (And.intro @decide_true (And.intro @decide_false (And.intro @sK @pc)))))))))))
def BN2 := And.intro @Bool.not_eq_eq_eq_not (And.intro @Bool.not_true @Bool.not_false)
def BN3 := And.intro @decide_eq_true_eq (And.intro @decide_eq_false_iff_not (And.intro @beq_iff_eq.{0} (And.intro @bne_iff_ne.{0} (And.intro @beq_eq_false_iff_ne.{0} (And.intro @bne_eq_false_iff_eq.{0} (And.intro @ne_eq.{1} (And.intro @Bool.not_eq_eq_eq_not (And.intro @Bool.not_true (And.intro @Bool.not_false (And.intro @Bool.and_eq_true @Bool.or_eq_false_iff))))))))))
theorem d4 {P : Program} {G : Nat → Option (List PV)} {f : FuncId} {args : List AV} {h h0 : Heap} {r0 : AV} {K : AV → Heap → Prop} (hE : g8 P f) (hc : d5 P G f args h fun r h' => r = r0 ∧ h' = h0) (hk : K r0 h0) : g8 P f ∧ d5 P G f args h fun r h' => K r h' :=
  ⟨hE, hc.mono fun r h' e => by rw [e.1, e.2]; exact hk⟩
theorem j4 {P : Program} {G : Nat → Option (List PV)} {f : FuncId} {args : List AV} {h : Heap} {r0 : AV} {K : AV → Prop} (hE : g8 P f) (hc : d5 P G f args h fun r h' => r = r0 ∧ h' = h) (hk : K r0) : g8 P f ∧ ∃ r, d5 P G f args h (fun r' h' => r' = r ∧ h' = h) ∧ K r :=
  ⟨hE, r0, hc, hk⟩
end
section
set_option maxRecDepth 10000
theorem d7 : Tryz.prog.follows .mixedOrders = true := by kernel_rfl
theorem T2 : k3 Tryz.prog 2 = some ⟨.int .i64, 1, 8, some [.int .i64 0]⟩ := by kernel_rfl
theorem T3 : k3 Tryz.prog 3 = some ⟨.int .i64, 1, 8, some [.int .i64 0]⟩ := by kernel_rfl
theorem T4 : k3 Tryz.prog 4 = some ⟨.bool, 1, 1, some [.bool false]⟩ := by kernel_rfl
theorem T9 : k3 Tryz.prog 9 = some ⟨.str, 1, 16, some [.str ⟨#[]⟩]⟩ := by kernel_rfl
theorem T22 : k3 Tryz.prog 22 = some ⟨.slice 77, 1, 24, some [.nils]⟩ := by kernel_rfl
theorem T23 : k3 Tryz.prog 23 = some ⟨.slice 80, 1, 24, some [.nils]⟩ := by kernel_rfl
theorem T25 : k3 Tryz.prog 25 = some ⟨.struct [(0, 1, 22), (1, 1, 23)], 2, 48, some [.nils, .nils]⟩ := by kernel_rfl
theorem T26 : k3 Tryz.prog 26 = some ⟨.slice 82, 1, 24, some [.nils]⟩ := by kernel_rfl
theorem T28 : k3 Tryz.prog 28 = some ⟨.struct [(0, 1, 3), (1, 1, 3), (2, 1, 3)], 3, 24, some [.int .i64 0, .int .i64 0, .int .i64 0]⟩ := by kernel_rfl
theorem T31 : k3 Tryz.prog 31 = some ⟨.int .i64, 1, 8, some [.int .i64 0]⟩ := by kernel_rfl
theorem T34 : k3 Tryz.prog 34 = some ⟨.slice 60, 1, 24, some [.nils]⟩ := by kernel_rfl
theorem T36 : k3 Tryz.prog 36 = some ⟨.struct [(0, 1, 34), (1, 1, 3)], 2, 32, some [.nils, .int .i64 0]⟩ := by kernel_rfl
theorem T41 : k3 Tryz.prog 41 = some ⟨.slice 3, 1, 24, some [.nils]⟩ := by kernel_rfl
theorem T44 : k3 Tryz.prog 44 = some ⟨.slice 28, 1, 24, some [.nils]⟩ := by kernel_rfl
theorem T55 : k3 Tryz.prog 55 = some ⟨.struct [(0, 1, 3), (1, 1, 3)], 2, 16, some [.int .i64 0, .int .i64 0]⟩ := by kernel_rfl
theorem T57 : k3 Tryz.prog 57 = some ⟨.array 40 3, 40, 320, some [.int .i64 0, .int .i64 0, .int .i64 0, .int .i64 0, .int .i64 0, .int .i64 0, .int .i64 0, .int .i64 0, .int .i64 0, .int .i64 0, .int .i64 0, .int .i64 0, .int .i64 0, .int .i64 0, .int .i64 0, .int .i64 0, .int .i64 0, .int .i64 0, .int .i64 0, .int .i64 0, .int .i64 0, .int .i64 0, .int .i64 0, .int .i64 0, .int .i64 0, .int .i64 0, .int .i64 0, .int .i64 0, .int .i64 0, .int .i64 0, .int .i64 0, .int .i64 0, .int .i64 0, .int .i64 0, .int .i64 0, .int .i64 0, .int .i64 0, .int .i64 0, .int .i64 0, .int .i64 0]⟩ := by kernel_rfl
theorem T58 : k3 Tryz.prog 58 = some ⟨.array 4 3, 4, 32, some [.int .i64 0, .int .i64 0, .int .i64 0, .int .i64 0]⟩ := by kernel_rfl
theorem T60 : k3 Tryz.prog 60 = some ⟨.struct [(0, 40, 57), (40, 4, 58), (44, 4, 58), (48, 1, 3)], 49, 392, some [.int .i64 0, .int .i64 0, .int .i64 0, .int .i64 0, .int .i64 0, .int .i64 0, .int .i64 0, .int .i64 0, .int .i64 0, .int .i64 0, .int .i64 0, .int .i64 0, .int .i64 0, .int .i64 0, .int .i64 0, .int .i64 0, .int .i64 0, .int .i64 0, .int .i64 0, .int .i64 0, .int .i64 0, .int .i64 0, .int .i64 0, .int .i64 0, .int .i64 0, .int .i64 0, .int .i64 0, .int .i64 0, .int .i64 0, .int .i64 0, .int .i64 0, .int .i64 0, .int .i64 0, .int .i64 0, .int .i64 0, .int .i64 0, .int .i64 0, .int .i64 0, .int .i64 0, .int .i64 0, .int .i64 0, .int .i64 0, .int .i64 0, .int .i64 0, .int .i64 0, .int .i64 0, .int .i64 0, .int .i64 0, .int .i64 0]⟩ := by kernel_rfl
theorem T62 : k3 Tryz.prog 62 = some ⟨.slice 65, 1, 24, some [.nils]⟩ := by kernel_rfl
theorem T65 : k3 Tryz.prog 65 = some ⟨.struct [(0, 1, 3), (1, 1, 3), (2, 3, 28), (5, 49, 60)], 54, 432, some [.int .i64 0, .int .i64 0, .int .i64 0, .int .i64 0, .int .i64 0, .int .i64 0, .int .i64 0, .int .i64 0, .int .i64 0, .int .i64 0, .int .i64 0, .int .i64 0, .int .i64 0, .int .i64 0, .int .i64 0, .int .i64 0, .int .i64 0, .int .i64 0, .int .i64 0, .int .i64 0, .int .i64 0, .int .i64 0, .int .i64 0, .int .i64 0, .int .i64 0, .int .i64 0, .int .i64 0, .int .i64 0, .int .i64 0, .int .i64 0, .int .i64 0, .int .i64 0, .int .i64 0, .int .i64 0, .int .i64 0, .int .i64 0, .int .i64 0, .int .i64 0, .int .i64 0, .int .i64 0, .int .i64 0, .int .i64 0, .int .i64 0, .int .i64 0, .int .i64 0, .int .i64 0, .int .i64 0, .int .i64 0, .int .i64 0, .int .i64 0, .int .i64 0, .int .i64 0, .int .i64 0, .int .i64 0]⟩ := by kernel_rfl
theorem T70 : k3 Tryz.prog 70 = some ⟨.ptr, 1, 8, some [.nilp]⟩ := by kernel_rfl
theorem T72 : k3 Tryz.prog 72 = some ⟨.struct [(0, 1, 3)], 1, 8, some [.int .i64 0]⟩ := by kernel_rfl
theorem T73 : k3 Tryz.prog 73 = some ⟨.slice 75, 1, 24, some [.nils]⟩ := by kernel_rfl
theorem T75 : k3 Tryz.prog 75 = some ⟨.struct [(0, 1, 3), (1, 1, 3), (2, 1, 73)], 3, 40, some [.int .i64 0, .int .i64 0, .nils]⟩ := by kernel_rfl
theorem T77 : k3 Tryz.prog 77 = some ⟨.struct [(0, 1, 3), (1, 1, 3), (2, 3, 75)], 5, 56, some [.int .i64 0, .int .i64 0, .int .i64 0, .int .i64 0, .nils]⟩ := by kernel_rfl
theorem T80 : k3 Tryz.prog 80 = some ⟨.struct [(0, 1, 3), (1, 1, 3), (2, 1, 4), (3, 3, 75)], 6, 64, some [.int .i64 0, .int .i64 0, .bool false, .int .i64 0, .int .i64 0, .nils]⟩ := by kernel_rfl
theorem T82 : k3 Tryz.prog 82 = some ⟨.struct [(0, 40, 57), (40, 4, 58), (44, 4, 58), (48, 1, 3)], 49, 392, some [.int .i64 0, .int .i64 0, .int .i64 0, .int .i64 0, .int .i64 0, .int .i64 0, .int .i64 0, .int .i64 0, .int .i64 0, .int .i64 0, .int .i64 0, .int .i64 0, .int .i64 0, .int .i64 0, .int .i64 0, .int .i64 0, .int .i64 0, .int .i64 0, .int .i64 0, .int .i64 0, .int .i64 0, .int .i64 0, .int .i64 0, .int .i64 0, .int .i64 0, .int .i64 0, .int .i64 0, .int .i64 0, .int .i64 0, .int .i64 0, .int .i64 0, .int .i64 0, .int .i64 0, .int .i64 0, .int .i64 0, .int .i64 0, .int .i64 0, .int .i64 0, .int .i64 0, .int .i64 0, .int .i64 0, .int .i64 0, .int .i64 0, .int .i64 0, .int .i64 0, .int .i64 0, .int .i64 0, .int .i64 0, .int .i64 0]⟩ := by kernel_rfl
theorem T89 : k3 Tryz.prog 89 = some ⟨.slice 92, 1, 24, some [.nils]⟩ := by kernel_rfl
theorem T92 : k3 Tryz.prog 92 = some ⟨.struct [(0, 1, 3), (1, 1, 3), (2, 3, 28)], 5, 40, some [.int .i64 0, .int .i64 0, .int .i64 0, .int .i64 0, .int .i64 0]⟩ := by kernel_rfl
theorem T96 : k3 Tryz.prog 96 = some ⟨.func, 1, 8, some [.nilf]⟩ := by kernel_rfl
theorem pd : k3 Tryz.prog 100 = some ⟨.slice 4, 1, 24, some [.nils]⟩ := by kernel_rfl
theorem rb : k3 Tryz.prog 104 = some ⟨.ptr, 1, 8, some [.nilp]⟩ := by kernel_rfl
theorem rd : k3 Tryz.prog 106 = some ⟨.struct [(0, 2, 25), (2, 49, 60), (51, 1, 62)], 52, 464, some [.nils, .nils, .int .i64 0, .int .i64 0, .int .i64 0, .int .i64 0, .int .i64 0, .int .i64 0, .int .i64 0, .int .i64 0, .int .i64 0, .int .i64 0, .int .i64 0, .int .i64 0, .int .i64 0, .int .i64 0, .int .i64 0, .int .i64 0, .int .i64 0, .int .i64 0, .int .i64 0, .int .i64 0, .int .i64 0, .int .i64 0, .int .i64 0, .int .i64 0, .int .i64 0, .int .i64 0, .int .i64 0, .int .i64 0, .int .i64 0, .int .i64 0, .int .i64 0, .int .i64 0, .int .i64 0, .int .i64 0, .int .i64 0, .int .i64 0, .int .i64 0, .int .i64 0, .int .i64 0, .int .i64 0, .int .i64 0, .int .i64 0, .int .i64 0, .int .i64 0, .int .i64 0, .int .i64 0, .int .i64 0, .int .i64 0, .int .i64 0, .nils]⟩ := by kernel_rfl
theorem fU : k3 Tryz.prog 118 = some ⟨.slice 121, 1, 24, some [.nils]⟩ := by kernel_rfl
theorem nf : k3 Tryz.prog 121 = some ⟨.struct [(0, 5, 92), (5, 49, 82)], 54, 432, some [.int .i64 0, .int .i64 0, .int .i64 0, .int .i64 0, .int .i64 0, .int .i64 0, .int .i64 0, .int .i64 0, .int .i64 0, .int .i64 0, .int .i64 0, .int .i64 0, .int .i64 0, .int .i64 0, .int .i64 0, .int .i64 0, .int .i64 0, .int .i64 0, .int .i64 0, .int .i64 0, .int .i64 0, .int .i64 0, .int .i64 0, .int .i64 0, .int .i64 0, .int .i64 0, .int .i64 0, .int .i64 0, .int .i64 0, .int .i64 0, .int .i64 0, .int .i64 0, .int .i64 0, .int .i64 0, .int .i64 0, .int .i64 0, .int .i64 0, .int .i64 0, .int .i64 0, .int .i64 0, .int .i64 0, .int .i64 0, .int .i64 0, .int .i64 0, .int .i64 0, .int .i64 0, .int .i64 0, .int .i64 0, .int .i64 0, .int .i64 0, .int .i64 0, .int .i64 0, .int .i64 0, .int .i64 0]⟩ := by kernel_rfl
theorem xz : k3 Tryz.prog 128 = some ⟨.func, 1, 8, some [.nilf]⟩ := by kernel_rfl
theorem yV : k3 Tryz.prog 134 = some ⟨.other, 1, 8, some [.nilm]⟩ := by kernel_rfl
theorem vP : k3 Tryz.prog 136 = some ⟨.slice 138, 1, 24, some [.nils]⟩ := by kernel_rfl
theorem vQ : k3 Tryz.prog 138 = some ⟨.struct [(0, 1, 3), (1, 1, 3)], 2, 16, some [.int .i64 0, .int .i64 0]⟩ := by kernel_rfl
theorem AI : k3 Tryz.prog 140 = some ⟨.func, 1, 8, some [.nilf]⟩ := by kernel_rfl
theorem iU : k3 Tryz.prog 142 = some ⟨.ptr, 1, 8, some [.nilp]⟩ := by kernel_rfl
theorem iV : k3 Tryz.prog 144 = some ⟨.struct [(0, 2, 25), (2, 49, 82), (51, 1, 118)], 52, 464, some [.nils, .nils, .int .i64 0, .int .i64 0, .int .i64 0, .int .i64 0, .int .i64 0, .int .i64 0, .int .i64 0, .int .i64 0, .int .i64 0, .int .i64 0, .int .i64 0, .int .i64 0, .int .i64 0, .int .i64 0, .int .i64 0, .int .i64 0, .int .i64 0, .int .i64 0, .int .i64 0, .int .i64 0, .int .i64 0, .int .i64 0, .int .i64 0, .int .i64 0, .int .i64 0, .int .i64 0, .int .i64 0, .int .i64 0, .int .i64 0, .int .i64 0, .int .i64 0, .int .i64 0, .int .i64 0, .int .i64 0, .int .i64 0, .int .i64 0, .int .i64 0, .int .i64 0, .int .i64 0, .int .i64 0, .int .i64 0, .int .i64 0, .int .i64 0, .int .i64 0, .int .i64 0, .int .i64 0, .int .i64 0, .int .i64 0, .int .i64 0, .nils]⟩ := by kernel_rfl
theorem ng : k3 Tryz.prog 146 = some ⟨.ptr, 1, 8, some [.nilp]⟩ := by kernel_rfl
theorem jL : k3 Tryz.prog 147 = some ⟨.func, 1, 8, some [.nilf]⟩ := by kernel_rfl
theorem tU : k3 Tryz.prog 160 = some ⟨.func, 1, 8, some [.nilf]⟩ := by kernel_rfl
theorem zZ : k3 Tryz.prog 165 = some ⟨.struct [(0, 1, 3), (1, 1, 3)], 2, 16, some [.int .i64 0, .int .i64 0]⟩ := by kernel_rfl
theorem re : k3 Tryz.prog 184 = some ⟨.struct [(0, 1, 3), (1, 1, 4), (2, 1, 3)], 3, 24, some [.int .i64 0, .bool false, .int .i64 0]⟩ := by kernel_rfl
theorem nh : k3 Tryz.prog 185 = some ⟨.struct [(0, 1, 3), (1, 1, 4), (2, 1, 3)], 3, 24, some [.int .i64 0, .bool false, .int .i64 0]⟩ := by kernel_rfl
theorem yW : k3 Tryz.prog 201 = some ⟨.struct [(0, 1, 9), (1, 1, 3), (2, 1, 3), (3, 1, 3)], 4, 40, some [.str ⟨#[]⟩, .int .i64 0, .int .i64 0, .int .i64 0]⟩ := by kernel_rfl
theorem yX : k3 Tryz.prog 202 = some ⟨.array 15 201, 60, 600, some [.str ⟨#[]⟩, .int .i64 0, .int .i64 0, .int .i64 0, .str ⟨#[]⟩, .int .i64 0, .int .i64 0, .int .i64 0, .str ⟨#[]⟩, .int .i64 0, .int .i64 0, .int .i64 0, .str ⟨#[]⟩, .int .i64 0, .int .i64 0, .int .i64 0, .str ⟨#[]⟩, .int .i64 0, .int .i64 0, .int .i64 0, .str ⟨#[]⟩, .int .i64 0, .int .i64 0, .int .i64 0, .str ⟨#[]⟩, .int .i64 0, .int .i64 0, .int .i64 0, .str ⟨#[]⟩, .int .i64 0, .int .i64 0, .int .i64 0, .str ⟨#[]⟩, .int .i64 0, .int .i64 0, .int .i64 0, .str ⟨#[]⟩, .int .i64 0, .int .i64 0, .int .i64 0, .str ⟨#[]⟩, .int .i64 0, .int .i64 0, .int .i64 0, .str ⟨#[]⟩, .int .i64 0, .int .i64 0, .int .i64 0, .str ⟨#[]⟩, .int .i64 0, .int .i64 0, .int .i64 0, .str ⟨#[]⟩, .int .i64 0, .int .i64 0, .int .i64 0, .str ⟨#[]⟩, .int .i64 0, .int .i64 0, .int .i64 0]⟩ := by kernel_rfl
theorem Q57 : Tryz.prog.eqGuardType Tryz.prog.depth 57 = false := by kernel_rfl
theorem W28 : ou Tryz.prog 28 3 = true := by kernel_rfl
theorem W60 : ou Tryz.prog 60 49 = true := by kernel_rfl
theorem Aa : ve Tryz.prog 134 = some (82, 4) := by kernel_rfl
theorem Ab : vg Tryz.prog 82 49 = true := by kernel_rfl
theorem Ad : vh Tryz.prog 4 = true := by kernel_rfl
theorem E9 : g8 Tryz.prog 9 := ⟨_, _, Tryz.func9, rfl, by kernel_rfl⟩
theorem E10 : g8 Tryz.prog 10 := ⟨_, _, Tryz.func10, rfl, by kernel_rfl⟩
theorem E11 : g8 Tryz.prog 11 := ⟨_, _, Tryz.func11, rfl, by kernel_rfl⟩
theorem E12 : g8 Tryz.prog 12 := ⟨_, _, Tryz.func12, rfl, by kernel_rfl⟩
theorem E13 : g8 Tryz.prog 13 := ⟨_, _, Tryz.func13, rfl, by kernel_rfl⟩
theorem E14 : g8 Tryz.prog 14 := ⟨_, _, Tryz.func14, rfl, by kernel_rfl⟩
theorem E15 : g8 Tryz.prog 15 := ⟨_, _, Tryz.func15, rfl, by kernel_rfl⟩
theorem E17 : g8 Tryz.prog 17 := ⟨_, _, Tryz.func17, rfl, by kernel_rfl⟩
theorem E18 : g8 Tryz.prog 18 := ⟨_, _, Tryz.func18, rfl, by kernel_rfl⟩
theorem E19 : g8 Tryz.prog 19 := ⟨_, _, Tryz.func19, rfl, by kernel_rfl⟩
theorem E20 : g8 Tryz.prog 20 := ⟨_, _, Tryz.func20, rfl, by kernel_rfl⟩
theorem E22 : g8 Tryz.prog 22 := ⟨_, _, Tryz.func22, rfl, by kernel_rfl⟩
theorem E24 : g8 Tryz.prog 24 := ⟨_, _, Tryz.func24, rfl, by kernel_rfl⟩
theorem E26 : g8 Tryz.prog 26 := ⟨_, _, Tryz.func26, rfl, by kernel_rfl⟩
theorem E27 : g8 Tryz.prog 27 := ⟨_, _, Tryz.func27, rfl, by kernel_rfl⟩
theorem E28 : g8 Tryz.prog 28 := ⟨_, _, Tryz.func28, rfl, by kernel_rfl⟩
theorem E29 : g8 Tryz.prog 29 := ⟨_, _, Tryz.func29, rfl, by kernel_rfl⟩
theorem E30 : g8 Tryz.prog 30 := ⟨_, _, Tryz.func30, rfl, by kernel_rfl⟩
theorem E31 : g8 Tryz.prog 31 := ⟨_, _, Tryz.func31, rfl, by kernel_rfl⟩
theorem E32 : g8 Tryz.prog 32 := ⟨_, _, Tryz.func32, rfl, by kernel_rfl⟩
theorem E33 : g8 Tryz.prog 33 := ⟨_, _, Tryz.func33, rfl, by kernel_rfl⟩
theorem E34 : g8 Tryz.prog 34 := ⟨_, _, Tryz.func34, rfl, by kernel_rfl⟩
theorem E35 : g8 Tryz.prog 35 := ⟨_, _, Tryz.func35, rfl, by kernel_rfl⟩
theorem E36 : g8 Tryz.prog 36 := ⟨_, _, Tryz.func36, rfl, by kernel_rfl⟩
theorem E37 : g8 Tryz.prog 37 := ⟨_, _, Tryz.func37, rfl, by kernel_rfl⟩
theorem E38 : g8 Tryz.prog 38 := ⟨_, _, Tryz.func38, rfl, by kernel_rfl⟩
theorem E39 : g8 Tryz.prog 39 := ⟨_, _, Tryz.func39, rfl, by kernel_rfl⟩
theorem E41 : g8 Tryz.prog 41 := ⟨_, _, Tryz.func41, rfl, by kernel_rfl⟩
theorem E42 : g8 Tryz.prog 42 := ⟨_, _, Tryz.func42, rfl, by kernel_rfl⟩
theorem E43 : g8 Tryz.prog 43 := ⟨_, _, Tryz.func43, rfl, by kernel_rfl⟩
theorem E44 : g8 Tryz.prog 44 := ⟨_, _, Tryz.func44, rfl, by kernel_rfl⟩
theorem E45 : g8 Tryz.prog 45 := ⟨_, _, Tryz.func45, rfl, by kernel_rfl⟩
theorem E46 : g8 Tryz.prog 46 := ⟨_, _, Tryz.func46, rfl, by kernel_rfl⟩
theorem E47 : g8 Tryz.prog 47 := ⟨_, _, Tryz.func47, rfl, by kernel_rfl⟩
theorem E48 : g8 Tryz.prog 48 := ⟨_, _, Tryz.func48, rfl, by kernel_rfl⟩
theorem E49 : g8 Tryz.prog 49 := ⟨_, _, Tryz.func49, rfl, by kernel_rfl⟩
theorem E50 : g8 Tryz.prog 50 := ⟨_, _, Tryz.func50, rfl, by kernel_rfl⟩
theorem E51 : g8 Tryz.prog 51 := ⟨_, _, Tryz.func51, rfl, by kernel_rfl⟩
theorem E52 : g8 Tryz.prog 52 := ⟨_, _, Tryz.func52, rfl, by kernel_rfl⟩
theorem E53 : g8 Tryz.prog 53 := ⟨_, _, Tryz.func53, rfl, by kernel_rfl⟩
theorem E54 : g8 Tryz.prog 54 := ⟨_, _, Tryz.func54, rfl, by kernel_rfl⟩
theorem E55 : g8 Tryz.prog 55 := ⟨_, _, Tryz.func55, rfl, by kernel_rfl⟩
theorem E56 : g8 Tryz.prog 56 := ⟨_, _, Tryz.func56, rfl, by kernel_rfl⟩
theorem E57 : g8 Tryz.prog 57 := ⟨_, _, Tryz.func57, rfl, by kernel_rfl⟩
theorem E58 : g8 Tryz.prog 58 := ⟨_, _, Tryz.func58, rfl, by kernel_rfl⟩
theorem E59 : g8 Tryz.prog 59 := ⟨_, _, Tryz.func59, rfl, by kernel_rfl⟩
theorem E62 : g8 Tryz.prog 62 := ⟨_, _, Tryz.func62, rfl, by kernel_rfl⟩
theorem E63 : g8 Tryz.prog 63 := ⟨_, _, Tryz.func63, rfl, by kernel_rfl⟩
theorem E64 : g8 Tryz.prog 64 := ⟨_, _, Tryz.func64, rfl, by kernel_rfl⟩
theorem E65 : g8 Tryz.prog 65 := ⟨_, _, Tryz.func65, rfl, by kernel_rfl⟩
theorem E66 : g8 Tryz.prog 66 := ⟨_, _, Tryz.func66, rfl, by kernel_rfl⟩
theorem E67 : g8 Tryz.prog 67 := ⟨_, _, Tryz.func67, rfl, by kernel_rfl⟩
theorem E68 : g8 Tryz.prog 68 := ⟨_, _, Tryz.func68, rfl, by kernel_rfl⟩
theorem E69 : g8 Tryz.prog 69 := ⟨_, _, Tryz.func69, rfl, by kernel_rfl⟩
theorem E70 : g8 Tryz.prog 70 := ⟨_, _, Tryz.func70, rfl, by kernel_rfl⟩
theorem E71 : g8 Tryz.prog 71 := ⟨_, _, Tryz.func71, rfl, by kernel_rfl⟩
theorem E72 : g8 Tryz.prog 72 := ⟨_, _, Tryz.func72, rfl, by kernel_rfl⟩
theorem E73 : g8 Tryz.prog 73 := ⟨_, _, Tryz.func73, rfl, by kernel_rfl⟩
theorem E74 : g8 Tryz.prog 74 := ⟨_, _, Tryz.func74, rfl, by kernel_rfl⟩
theorem E75 : g8 Tryz.prog 75 := ⟨_, _, Tryz.func75, rfl, by kernel_rfl⟩
theorem E76 : g8 Tryz.prog 76 := ⟨_, _, Tryz.func76, rfl, by kernel_rfl⟩
theorem E77 : g8 Tryz.prog 77 := ⟨_, _, Tryz.func77, rfl, by kernel_rfl⟩
theorem E78 : g8 Tryz.prog 78 := ⟨_, _, Tryz.func78, rfl, by kernel_rfl⟩
theorem E79 : g8 Tryz.prog 79 := ⟨_, _, Tryz.func79, rfl, by kernel_rfl⟩
theorem E80 : g8 Tryz.prog 80 := ⟨_, _, Tryz.func80, rfl, by kernel_rfl⟩
theorem E81 : g8 Tryz.prog 81 := ⟨_, _, Tryz.func81, rfl, by kernel_rfl⟩
theorem E82 : g8 Tryz.prog 82 := ⟨_, _, Tryz.func82, rfl, by kernel_rfl⟩
theorem E83 : g8 Tryz.prog 83 := ⟨_, _, Tryz.func83, rfl, by kernel_rfl⟩
theorem E94 : g8 Tryz.prog 94 := ⟨_, _, Tryz.func94, rfl, by kernel_rfl⟩
theorem E95 : g8 Tryz.prog 95 := ⟨_, _, Tryz.func95, rfl, by kernel_rfl⟩
theorem E96 : g8 Tryz.prog 96 := ⟨_, _, Tryz.func96, rfl, by kernel_rfl⟩
theorem E97 : g8 Tryz.prog 97 := ⟨_, _, Tryz.func97, rfl, by kernel_rfl⟩
theorem E98 : g8 Tryz.prog 98 := ⟨_, _, Tryz.func98, rfl, by kernel_rfl⟩
theorem E99 : g8 Tryz.prog 99 := ⟨_, _, Tryz.func99, rfl, by kernel_rfl⟩
theorem lf : g8 Tryz.prog 100 := ⟨_, _, Tryz.func100, rfl, by kernel_rfl⟩
theorem AJ : g8 Tryz.prog 101 := ⟨_, _, Tryz.func101, rfl, by kernel_rfl⟩
theorem AK : g8 Tryz.prog 102 := ⟨_, _, Tryz.func102, rfl, by kernel_rfl⟩
theorem AL : g8 Tryz.prog 103 := ⟨_, _, Tryz.func103, rfl, by kernel_rfl⟩
theorem AN : g8 Tryz.prog 104 := ⟨_, _, Tryz.func104, rfl, by kernel_rfl⟩
theorem Ae : g8 Tryz.prog 105 := ⟨_, _, Tryz.func105, rfl, by kernel_rfl⟩
theorem Af : g8 Tryz.prog 106 := ⟨_, _, Tryz.func106, rfl, by kernel_rfl⟩
theorem yY : g8 Tryz.prog 107 := ⟨_, _, Tryz.func107, rfl, by kernel_rfl⟩
theorem AO : g8 Tryz.prog 108 := ⟨_, _, Tryz.func108, rfl, by kernel_rfl⟩
theorem eA : g8 Tryz.prog 109 := ⟨_, _, Tryz.func109, rfl, by kernel_rfl⟩
theorem AP : g8 Tryz.prog 110 := ⟨_, _, Tryz.func110, rfl, by kernel_rfl⟩
theorem Ag : g8 Tryz.prog 111 := ⟨_, _, Tryz.func111, rfl, by kernel_rfl⟩
theorem Ah : g8 Tryz.prog 112 := ⟨_, _, Tryz.func112, rfl, by kernel_rfl⟩
theorem AR : g8 Tryz.prog 113 := ⟨_, _, Tryz.func113, rfl, by kernel_rfl⟩
theorem Ai : g8 Tryz.prog 114 := ⟨_, _, Tryz.func114, rfl, by kernel_rfl⟩
theorem Aj : g8 Tryz.prog 115 := ⟨_, _, Tryz.func115, rfl, by kernel_rfl⟩
theorem Ak : g8 Tryz.prog 116 := ⟨_, _, Tryz.func116, rfl, by kernel_rfl⟩
theorem AT : g8 Tryz.prog 117 := ⟨_, _, Tryz.func117, rfl, by kernel_rfl⟩
theorem AU : g8 Tryz.prog 118 := ⟨_, _, Tryz.func118, rfl, by kernel_rfl⟩
theorem AW : g8 Tryz.prog 119 := ⟨_, _, Tryz.func119, rfl, by kernel_rfl⟩
theorem xA : g8 Tryz.prog 120 := ⟨_, _, Tryz.func120, rfl, by kernel_rfl⟩
theorem AX : g8 Tryz.prog 126 := ⟨_, _, Tryz.func126, rfl, by kernel_rfl⟩
theorem Al : g8 Tryz.prog 127 := ⟨_, _, Tryz.func127, rfl, by kernel_rfl⟩
theorem Am : g8 Tryz.prog 128 := ⟨_, _, Tryz.func128, rfl, by kernel_rfl⟩
theorem xC : g8 Tryz.prog 129 := ⟨_, _, Tryz.func129, rfl, by kernel_rfl⟩
theorem eC : g8 Tryz.prog 130 := ⟨_, _, Tryz.func130, rfl, by kernel_rfl⟩
theorem yZ : g8 Tryz.prog 131 := ⟨_, _, Tryz.func131, rfl, by kernel_rfl⟩
theorem za : g8 Tryz.prog 132 := ⟨_, _, Tryz.func132, rfl, by kernel_rfl⟩
theorem rf : g8 Tryz.prog 133 := ⟨_, _, Tryz.func133, rfl, by kernel_rfl⟩
theorem tV : g8 Tryz.prog 134 := ⟨_, _, Tryz.func134, rfl, by kernel_rfl⟩
theorem AY : g8 Tryz.prog 135 := ⟨_, _, Tryz.func135, rfl, by kernel_rfl⟩
theorem AZ : g8 Tryz.prog 136 := ⟨_, _, Tryz.func136, rfl, by kernel_rfl⟩
theorem Ba : g8 Tryz.prog 137 := ⟨_, _, Tryz.func137, rfl, by kernel_rfl⟩
theorem Bb : g8 Tryz.prog 138 := ⟨_, _, Tryz.func138, rfl, by kernel_rfl⟩
theorem xD : g8 Tryz.prog 139 := ⟨_, _, Tryz.func139, rfl, by kernel_rfl⟩
theorem iW : g8 Tryz.prog 140 := ⟨_, _, Tryz.func140, rfl, by kernel_rfl⟩
theorem zb : g8 Tryz.prog 141 := ⟨_, _, Tryz.func141, rfl, by kernel_rfl⟩
theorem Bc : g8 Tryz.prog 142 := ⟨_, _, Tryz.func142, rfl, by kernel_rfl⟩
theorem An : g8 Tryz.prog 144 := ⟨_, _, Tryz.func144, rfl, by kernel_rfl⟩
theorem Ao : g8 Tryz.prog 145 := ⟨_, _, Tryz.func145, rfl, by kernel_rfl⟩
theorem Bd : g8 Tryz.prog 146 := ⟨_, _, Tryz.func146, rfl, by kernel_rfl⟩
theorem Ap : g8 Tryz.prog 147 := ⟨_, _, Tryz.func147, rfl, by kernel_rfl⟩
theorem Bf : g8 Tryz.prog 148 := ⟨_, _, Tryz.func148, rfl, by kernel_rfl⟩
theorem pe : g8 Tryz.prog 149 := ⟨_, _, Tryz.func149, rfl, by kernel_rfl⟩
theorem Bg : g8 Tryz.prog 150 := ⟨_, _, Tryz.func150, rfl, by kernel_rfl⟩
theorem zc : g8 Tryz.prog 151 := ⟨_, _, Tryz.func151, rfl, by kernel_rfl⟩
theorem Aq : g8 Tryz.prog 152 := ⟨_, _, Tryz.func152, rfl, by kernel_rfl⟩
theorem Ar : g8 Tryz.prog 153 := ⟨_, _, Tryz.func153, rfl, by kernel_rfl⟩
theorem Bh : g8 Tryz.prog 154 := ⟨_, _, Tryz.func154, rfl, by kernel_rfl⟩
theorem At : g8 Tryz.prog 155 := ⟨_, _, Tryz.func155, rfl, by kernel_rfl⟩
theorem Au : g8 Tryz.prog 156 := ⟨_, _, Tryz.func156, rfl, by kernel_rfl⟩
theorem zd : g8 Tryz.prog 157 := ⟨_, _, Tryz.func157, rfl, by kernel_rfl⟩
theorem Bi : g8 Tryz.prog 158 := ⟨_, _, Tryz.func158, rfl, by kernel_rfl⟩
theorem Bj : g8 Tryz.prog 159 := ⟨_, _, Tryz.func159, rfl, by kernel_rfl⟩
theorem Bk : g8 Tryz.prog 160 := ⟨_, _, Tryz.func160, rfl, by kernel_rfl⟩
theorem Bl : g8 Tryz.prog 161 := ⟨_, _, Tryz.func161, rfl, by kernel_rfl⟩
theorem Bm : g8 Tryz.prog 162 := ⟨_, _, Tryz.func162, rfl, by kernel_rfl⟩
end
section
inductive Tm where
  | mk (op n : Int) (kids : List Tm)
namespace Tm
def op : Tm → Int | .mk o _ _ => o
def n : Tm → Int | .mk _ n _ => n
def kids : Tm → List Tm | .mk _ _ k => k
end Tm
def eT : Tm → List PV
  | .mk o n ks => [.int .i64 o, .int .i64 n, .sl (ks.map eT)]
theorem q6 (t : Tm) : eT t = [.int .i64 t.op, .int .i64 t.n, .sl (t.kids.map eT)] := by
  cases t; simp [eT, Tm.op, Tm.n, Tm.kids]
theorem Tm.kid_lt {t k : Tm} (h : k ∈ t.kids) : SizeOf.sizeOf k < SizeOf.sizeOf t := by
  cases t with
  | mk o n ks =>
    have := List.sizeOf_lt_of_mem h
    simp only [Tm.kids, Tm.mk.sizeOf_spec] at *
    omega
theorem Tm.ind {p : Tm → Prop} (h : ∀ t, (∀ k ∈ t.kids, p k) → p t) (t : Tm) : p t :=
  h t fun k hk => Tm.ind h k
termination_by SizeOf.sizeOf t
decreasing_by exact Tm.kid_lt hk
abbrev aT (t : Tm) : AV := .agg [.i t.op, .i t.n, .p (.sl (t.kids.map eT))]
inductive Tm.Ok : Nat → Tm → Prop where
  | mk (d : Nat) (t : Tm) (hk : t.kids.length ≤ 100) (h : ∀ k ∈ t.kids, Tm.Ok d k) : Tm.Ok (d + 1) t
theorem Tm.Ok.ind {p : Nat → Tm → Prop} (h : ∀ d t, t.kids.length ≤ 100 → (∀ k ∈ t.kids, Tm.Ok d k ∧ p d k) → p (d + 1) t) {d : Nat} {t : Tm} (ht : Tm.Ok d t) : p d t := by
  induction ht with
  | mk d t hk hh ih => exact h d t hk fun k hm => ⟨hh k hm, ih k hm⟩
def Tm.depth : Tm → Nat
  | .mk _ _ ks => (ks.map Tm.depth).foldl max 0 + 1
theorem Tm.depth_eq (t : Tm) : t.depth = (t.kids.map Tm.depth).foldl max 0 + 1 := by
  cases t; simp [Tm.depth, Tm.kids]
theorem eD {l : List Nat} {d : Nat} (h : ∀ x ∈ l, x ≤ d) : ∀ a, a ≤ d → l.foldl max a ≤ d := by
  induction l with
  | nil => intro a ha; exact ha
  | cons x r ih => intro a ha; exact ih (fun y hy => h y (by simp [hy])) _ (by have := h x (by simp); omega)
theorem Tm.Ok.depth_le {d : Nat} {t : Tm} (h : Tm.Ok d t) : t.depth ≤ d := by
  refine Tm.Ok.ind (p := fun d t => t.depth ≤ d) (fun d t hk hh => ?_) h
  rw [Tm.depth_eq]
  have := eD (l := t.kids.map Tm.depth) (d := d) (fun x hx => by
    obtain ⟨k, hm, rfl⟩ := List.mem_map.mp hx
    exact (hh k hm).2) 0 (Nat.zero_le _)
  omega
theorem dC {l : List Tm} {i : Nat} {k : Tm} (h : l[i]? = some k) : (l.map eT)[i]? = some (eT k) := by simp [h]
def bo := And.intro T2 (And.intro T3 (And.intro T4 (And.intro T31 (And.intro T58 (And.intro T75 (And.intro re (And.intro nh (And.intro yW yX))))))))
attribute [local irreducible] awp n9 k8
variable {G : Nat → Option (List PV)}
def inM (n : Int) : Bool := decide (-1099511627776 ≤ n) && decide (n ≤ 1099511627776)
theorem dD (n : Int) (h : Heap) : d5 Tryz.prog G 99 [.i n] h (fun r h' => r = .b (inM n) ∧ h' = h) := by
  refine c8 (rl := []) d7 Tryz.func99 rfl (rs := [.tmp 2]) rfl Tryz.ntmps99 (by simp) ?_
  repeat' (first | ((repeat ((fail_if_success (refine hK _ ?_)); clear hK K)); refine hK _ ?_; clear hK K) | (refine b9 fun K1 q8 => ?_; simp only [S1, simprocAttr, bo]; first | refine q8 _ ?_; clear q8 K1 | (refine l9 (v := ?_) (fun hg q9 => ?_) ?_; rotate_left; (focus (try ((try simp only [BN] at hg); simp only [S1, simprocAttr, bo, hg] at q9 ⊢)); exact q9); refine q8 _ ?_; clear q8 K1)) | refine b6 fun K hK => ?_ | ((first | apply b8 | apply b5 | apply d3); try simp only [NB, simprocAttr]))
  all_goals simp only [S1, simprocAttr, ENB, bo]
  all_goals simp [inM]
theorem tW (n : Int) (h : Heap) : d5 Tryz.prog G 159 [.i n] h (fun r h' => r = .i (if n < IntKind.i64.wrap (0 - n) then IntKind.i64.wrap (0 - n) else n) ∧ h' = h) := by
  refine c8 (rl := []) d7 Tryz.func159 rfl (rs := [.tmp 2]) rfl Tryz.ntmps159 (by simp) ?_
  repeat' (first | ((repeat ((fail_if_success (refine hK _ ?_)); clear hK K)); refine hK _ ?_; clear hK K) | (refine b9 fun K1 q8 => ?_; simp only [S1, simprocAttr, bo]; refine q8 _ ?_; clear q8 K1) | refine b6 fun K hK => ?_ | ((first | apply b8 | apply b5 | apply d3); try simp only [NB, simprocAttr]))
  all_goals simp only [S1, simprocAttr, ENB, bo]
theorem rg (n : Int) (h : Heap) : d5 Tryz.prog G 151 [.i n] h (fun r h' => r = .i (if n < 0 then IntKind.i64.wrap (0 - n) else n) ∧ h' = h) := by
  refine c8 (rl := []) d7 Tryz.func151 rfl (rs := [.tmp 2]) rfl Tryz.ntmps151 (by simp) ?_
  repeat' (first | ((repeat ((fail_if_success (refine hK _ ?_)); clear hK K)); refine hK _ ?_; clear hK K) | ((first | refine b9 fun K1 q8 => ?_ | refine b7 fun A B hA hB => ?_); simp only [S1, simprocAttr, bo]; first | refine q8 _ ?_; clear q8 K1 | ((((refine ⟨fun hg => hA ?_, fun hg => hB ?_⟩ <;> clear hA hB A B)) <;> (try simp only [BN2] at hg) <;> (try simp only [hg, cndB])) <;> (try (refine q8 _ ?_; clear q8 K1)) <;> (try simp only [BN3] at hg))) | refine b6 fun K hK => ?_ | ((first | apply b8 | apply b5 | apply c9 | apply d3); try simp only [NB, simprocAttr]))
  all_goals simp only [S1, simprocAttr, ENB, bo]
  all_goals simp [hg]
def bR (o : Int) : Int := if o < 3 then 0 else if o < 5 then 1 else 2
theorem rh (n : Int) (h : Heap) : d5 Tryz.prog G 150 [.i n] h (fun r h' => r = .i (bR n) ∧ h' = h) := by
  refine c8 (rl := []) d7 Tryz.func150 rfl (rs := [.tmp 2]) rfl Tryz.ntmps150 (by simp) ?_
  repeat' (first | ((repeat ((fail_if_success (refine hK _ ?_)); clear hK K)); refine hK _ ?_; clear hK K) | ((first | refine b9 fun K1 q8 => ?_ | refine b7 fun A B hA hB => ?_); simp only [S1, simprocAttr, bo]; first | refine q8 _ ?_; clear q8 K1 | ((((refine ⟨fun hg => hA ?_, fun hg => hB ?_⟩ <;> clear hA hB A B)) <;> (try simp only [BN2] at hg) <;> (try simp only [hg, cndB])) <;> (try (refine q8 _ ?_; clear q8 K1)) <;> (try simp only [BN3] at hg))) | refine b6 fun K hK => ?_ | ((first | apply b8 | apply b5 | apply c9 | apply d3); try simp only [NB, simprocAttr]))
  all_goals simp only [S1, simprocAttr, ENB, bo]
  all_goals simp [bR, *]
theorem eE (n : Int) (h : Heap) : d5 Tryz.prog G 128 [.i n] h (fun r h' => r = .b (n == 4 || decide (10 ≤ n)) ∧ h' = h) := by
  refine c8 (rl := []) d7 Tryz.func128 rfl (rs := [.tmp 2]) rfl Tryz.ntmps128 (by simp) ?_
  repeat' (first | ((repeat ((fail_if_success (refine hK _ ?_)); clear hK K)); refine hK _ ?_; clear hK K) | (refine b9 fun K1 q8 => ?_; simp only [S1, simprocAttr, bo]; first | refine q8 _ ?_; clear q8 K1 | (refine l9 (v := ?_) (fun hg q9 => ?_) ?_; rotate_left; (focus (try ((try simp only [BN] at hg); simp only [S1, simprocAttr, bo, hg] at q9 ⊢)); exact q9); refine q8 _ ?_; clear q8 K1)) | refine b6 fun K hK => ?_ | ((first | apply b8 | apply b5 | apply d3); try simp only [NB, simprocAttr]))
  all_goals simp only [S1, simprocAttr, ENB, bo]
  all_goals simp [*]
end
section
def sN := And.intro T2 (And.intro T3 (And.intro T4 (And.intro T31 (And.intro T58 (And.intro T73 T75)))))
attribute [local irreducible] awp n9 k8
variable {G : Nat → Option (List PV)}
def hM (ks : List Tm) (i : Nat) : Nat := ((ks.take i).map Tm.depth).foldl max 0
theorem vR {d : Nat} {ks : List Tm} (h : ∀ k ∈ ks, k.depth ≤ d) (i : Nat) : hM ks i ≤ d := by
  unfold hM
  exact eD (fun x hx => by
    obtain ⟨k, hm, rfl⟩ := List.mem_map.mp hx
    exact h k (List.mem_of_mem_take hm)) 0 (Nat.zero_le _)
theorem ri {ks : List Tm} {i : Nat} {k : Tm} (h : ks[i]? = some k) : hM ks (i + 1) = max (hM ks i) k.depth := by
  unfold hM
  rw [List.take_add_one, h]; simp
theorem pf {d : Nat} {t : Tm} (ht : Tm.Ok d t) (hd : d ≤ 200) (h : Heap) : d5 Tryz.prog G 144 [aT t] h (fun r h' => r = .i t.depth ∧ h' = h) := by
  revert hd h
  refine Tm.Ok.ind (p := fun d t => d ≤ 200 → ∀ h : Heap, d5 Tryz.prog G 144 [aT t] h (fun r h' => r = .i t.depth ∧ h' = h)) (fun d t hk ih hd h => ?_) ht
  have hdk : ∀ k ∈ t.kids, k.depth ≤ d := fun k hm => (ih k hm).1.depth_le
  refine c8 (rl := []) d7 Tryz.func144 rfl (rs := [.tmp 2]) rfl Tryz.ntmps144 (by simp) ?_
  repeat' (first | ((repeat ((fail_if_success (refine hK _ ?_)); clear hK K)); refine hK _ ?_; clear hK K) | (refine b9 fun K1 q8 => ?_; simp only [S1, simprocAttr, sN]; refine q8 _ ?_; clear q8 K1) | refine b6 fun K hK => ?_ | ((first | apply b8 | apply b5 | apply c7); try simp only [NB, simprocAttr]))
  refine o9 t.kids.length 23 (fun i => [(10, .i i), (9, .i t.kids.length), (8, .p (.sl (t.kids.map eT))), (3, .i (hM t.kids i))]) (fun i => []) (fun _ => True) ?_ trivial fun i hi _ K hK => ?_
  · (refine ⟨rfl, (by first | exact ⟨_, rfl⟩ | exact ⟨[], by simp⟩), ?_, ?_⟩ <;> simp only [S1, simprocAttr, KNB] <;> (try and_intros) <;> (try assumption) <;> (try trivial) <;> (try omega))
  · rcases Nat.lt_or_ge i t.kids.length with hlt | hge
    · obtain ⟨k, hk⟩ : ∃ k, t.kids[i]? = some k := ⟨_, List.getElem?_eq_getElem hlt⟩
      have hm := List.mem_of_getElem? hk
      have hrow := dC hk
      have hc : (decide ((i : Int) < (t.kids.length : Int))) = true := by simp; omega
      have hw : IntKind.i64.wrap ((i : Int) + 1) = ((i + 1 : Nat) : Int) := by rw [IntWalk.i64_in _ (by omega)]; omega
      have hs := ri hk
      repeat' (first | ((repeat ((fail_if_success (refine hK _ ?_)); clear hK K)); refine hK _ ?_; clear hK K) | ((first | refine b9 fun K1 q8 => ?_ | refine b7 fun A B hA hB => ?_); simp only [S1, simprocAttr, sN, hrow, hc, hw, q6]; first | refine q8 _ ?_; clear q8 K1 | (refine hA ?_; clear hA hB A B) | (apply d4 An; exact ((ih k hm).2 (by omega) _); refine q8 _ ?_; clear q8 K1) | ((((refine ⟨fun hg => hA ?_, fun hg => hB ?_⟩ <;> clear hA hB A B)) <;> (try simp only [BN2] at hg) <;> (try simp only [hg, cndB])) <;> (try (refine q8 _ ?_; clear q8 K1)) <;> (try simp only [BN3] at hg))) | refine b6 fun K hK => ?_ | ((first | apply b8 | apply b5 | apply c7 | apply c9); try simp only [NB, simprocAttr]))
      all_goals refine ⟨hlt, trivial, ?_⟩
      all_goals (refine ⟨rfl, (by first | exact ⟨_, rfl⟩ | exact ⟨[], by simp⟩), ?_, ?_⟩ <;> simp only [S1, simprocAttr, KNB] <;> (try and_intros) <;> (try assumption) <;> (try trivial) <;> (try omega))
    · have hc : (decide ((i : Int) < (t.kids.length : Int))) = false := by simp; omega
      have hd := vR hdk t.kids.length
      have hw : IntKind.i64.wrap ((hM t.kids t.kids.length : Int) + 1) = (t.depth : Int) := by
        rw [IntWalk.i64_in _ (by omega), Tm.depth_eq, hM, List.take_length]; omega
      obtain rfl : i = t.kids.length := by omega
      repeat' (first | ((repeat ((fail_if_success (refine hK _ ?_)); clear hK K)); refine hK _ ?_; clear hK K) | ((first | refine b9 fun K1 q8 => ?_ | refine b7 fun A B hA hB => ?_); simp only [S1, simprocAttr, sN, hc, hw]; first | refine q8 _ ?_; clear q8 K1 | (refine hB ?_; clear hA hB A B)) | refine b6 fun K hK => ?_ | ((first | apply b8 | apply b5 | apply f9 | apply d3); try simp only [NB, simprocAttr]))
      simp only [S1, simprocAttr, ENB, sN]
theorem pg {f : Tm → Bool} {l : List Tm} {i : Nat} {k : Tm} (hk : l[i]? = some k) (h : (l.take i).all f = true) (hf : f k = true) : (l.take (i + 1)).all f = true := by
  rw [List.take_add_one, hk]; simp only [List.all_append, h, Option.toList_some, List.all_cons, hf, List.all_nil, Bool.and_self]
theorem vT {f : Tm → Bool} {l : List Tm} {k : Tm} (hk : k ∈ l) (hf : f k = false) : l.all f = false := by
  cases h : l.all f with
  | false => rfl
  | true => rw [List.all_eq_true.mp h k hk] at hf; cases hf
def y9 (o : Int) : Bool := o == 4 || decide (10 ≤ o)
def G3 (o : Int) : Bool := o == 4 || decide (13 ≤ o)
def Tm.typed : Tm → Bool
  | .mk o _ ks => (ks.map Tm.typed).all id && ks.all fun k => y9 k.op == G3 o
def I9 (o : Int) (k : Tm) : Bool := (y9 k.op == G3 o) && k.typed
theorem Tm.typed_eq (t : Tm) : t.typed = t.kids.all (I9 t.op) := by
  cases t with
  | mk o n ks =>
    simp only [Tm.typed, Tm.op, Tm.kids, List.all_map, Function.id_comp]
    induction ks with
    | nil => rfl
    | cons k r ih =>
      rw [List.all_cons, List.all_cons, List.all_cons, ← ih]
      show _ = (((y9 k.op == G3 o) && k.typed) && _)
      ac_rfl
def A2 (o n : Int) (k : Nat) : Bool := decide (1 ≤ o) && decide (o ≤ 14) && decide ((k : Int) = bR o) && decide (0 ≤ n) && decide (o = 1 → n ≤ 1099511627776) && decide (o = 2 → n ≤ 3) && decide (2 < o → n = 0)
def Tm.form : Tm → Bool
  | .mk o n ks => A2 o n ks.length && (ks.map Tm.form).all id
theorem Tm.form_eq (t : Tm) : t.form = (A2 t.op t.n t.kids.length && t.kids.all Tm.form) := by cases t; simp only [Tm.form, Tm.op, Tm.n, Tm.kids, List.all_map, Function.id_comp]
theorem cv {ks : List Tm} {i : Nat} (h : i < ks.length) : decide ((i : Int) < (ks.length : Int)) = true := by simp; omega
theorem iZ {ks : List Tm} : decide ((ks.length : Int) < (ks.length : Int)) = false := by simp
theorem af {ks : List Tm} {i : Nat} (hk : ks.length ≤ 100) (h : i < ks.length) : IntKind.i64.wrap ((i : Int) + 1) = ((i + 1 : Nat) : Int) := by rw [IntWalk.i64_in _ (by omega)]; omega
end
section
def eG := And.intro T2 (And.intro T3 (And.intro T4 (And.intro T31 (And.intro T58 (And.intro T73 T75)))))
attribute [local irreducible] awp n9 k8
variable {G : Nat → Option (List PV)}
theorem ph {o : Int} {k : Tm} (hg : (!((k.op == 4 || decide (10 ≤ k.op)) == G3 o) || !k.typed) = true) : I9 o k = false := by
  revert hg; unfold I9 y9; generalize ((k.op == 4 || decide (10 ≤ k.op)) == G3 o) = a; generalize k.typed = b; cases a <;> cases b <;> simp
theorem ni {o : Int} {k : Tm} (hg : (k.op == 4 || decide (10 ≤ k.op)) = G3 o ∧ k.typed = true) : I9 o k = true := by
  unfold I9 y9; rw [hg.1, hg.2]; simp
theorem nj {d : Nat} {t : Tm} (ht : Tm.Ok d t) (h : Heap) : d5 Tryz.prog G 127 [aT t] h (fun r h' => r = .b t.typed ∧ h' = h) := by
  revert h
  refine Tm.Ok.ind (p := fun d t => ∀ h : Heap, d5 Tryz.prog G 127 [aT t] h (fun r h' => r = .b t.typed ∧ h' = h)) (fun d t hk ih h => ?_) ht
  rw [Tm.typed_eq]
  refine c8 (rl := []) d7 Tryz.func127 rfl (rs := [.tmp 2]) rfl Tryz.ntmps127 (by simp) ?_
  refine b6 fun K hK => ?_
  repeat' (first | (apply b8; (try simp only [NB]); ((repeat ((fail_if_success (refine hK _ ?_)); clear hK K)); refine hK _ ?_; clear hK K)) | (refine b9 fun K1 q8 => ?_; simp only [S1, simprocAttr, eG]; refine q8 _ ?_; clear q8 K1) | (apply b5; try simp only [NB, simprocAttr]; (try ((repeat ((fail_if_success (refine hK _ ?_)); clear hK K)); refine hK _ ?_; clear hK K))))
  refine jK 32 [(1, .ptr h.length 0 0), (3, .b (G3 t.op))] [some ⟨0, [.i t.op, .i t.n, .p (.sl (t.kids.map eT))]⟩] True (fun K hK => ?_) fun ha => ?_
  · repeat' (first | (apply b8; (try simp only [NB]); ((repeat ((fail_if_success (refine hK _ ?_)); clear hK K)); refine hK _ ?_; clear hK K)) | (refine b9 fun K1 q8 => ?_; simp only [S1, simprocAttr, eG]; first | refine q8 _ ?_; clear q8 K1 | (refine l9 (v := ?_) (fun hg q9 => ?_) ?_; rotate_left; (focus (try ((try simp only [BN] at hg); simp only [S1, simprocAttr, eG, hg] at q9 ⊢)); exact q9); refine q8 _ ?_; clear q8 K1)) | (apply b5; try simp only [NB, simprocAttr]; (try ((repeat ((fail_if_success (refine hK _ ?_)); clear hK K)); refine hK _ ?_; clear hK K))))
    all_goals exact ⟨trivial, by (refine ⟨rfl, (by first | exact ⟨_, rfl⟩ | exact ⟨[], by simp⟩), ?_, ?_⟩ <;> simp only [S1, simprocAttr, KNB] <;> (try and_intros) <;> (try assumption) <;> (try trivial) <;> (try omega)) <;> simp [G3, *]⟩
  refine b6 fun K hK => ?_
  repeat' (first | ((repeat ((fail_if_success (refine hK _ ?_)); clear hK K)); refine hK _ ?_; clear hK K) | (refine b9 fun K1 q8 => ?_; simp only [S1, simprocAttr, eG]; refine q8 _ ?_; clear q8 K1) | refine b6 fun K hK => ?_ | ((first | apply b8 | apply b5 | apply c7); try simp only [NB, simprocAttr]))
  refine o9 t.kids.length 32 (fun i => [(17, .i i), (16, .i t.kids.length), (15, .p (.sl (t.kids.map eT))), (3, .b (G3 t.op))]) (fun i => []) (fun i => (t.kids.take i).all (I9 t.op) = true) ?_ rfl fun i hi hp K hK => ?_
  · (refine ⟨rfl, (by first | exact ⟨_, rfl⟩ | exact ⟨[], by simp⟩), ?_, ?_⟩ <;> simp only [S1, simprocAttr, KNB] <;> (try and_intros) <;> (try assumption) <;> (try trivial) <;> (try omega))
  rcases Nat.lt_or_ge i t.kids.length with hlt | hge
  · obtain ⟨k, hx⟩ : ∃ k, t.kids[i]? = some k := ⟨_, List.getElem?_eq_getElem hlt⟩
    have hm := List.mem_of_getElem? hx
    repeat' (first | ((repeat ((fail_if_success (refine hK _ ?_)); clear hK K)); refine hK _ ?_; clear hK K) | ((first | refine b9 fun K1 q8 => ?_ | refine b7 fun A B hA hB => ?_); simp only [S1, simprocAttr, eG, dC hx, cv hlt, af hk hlt, q6]; first | refine q8 _ ?_; clear q8 K1 | (refine hA ?_; clear hA hB A B) | (apply d4 Am; exact (eE _ _); refine q8 _ ?_; clear q8 K1) | (refine l9 (v := ?_) (fun hg q9 => ?_) ?_; rotate_left; (focus (try ((try simp only [BN] at hg); simp only [S1, simprocAttr, eG, dC hx, cv hlt, af hk hlt, q6, hg] at q9 ⊢)); first | exact q9 | (apply d4 Al; exact ((ih k hm).2 _); exact q9)); refine q8 _ ?_; clear q8 K1) | ((((refine ⟨fun hg => hA ?_, fun hg => hB ?_⟩ <;> clear hA hB A B)) <;> (try simp only [BN2] at hg) <;> (try simp only [hg, cndB])) <;> (try (refine q8 _ ?_; clear q8 K1)) <;> (try simp only [BN3] at hg))) | refine b6 fun K hK => ?_ | ((first | apply b8 | apply b5 | apply c7 | apply c9 | apply d3); try simp only [NB, simprocAttr]))
    all_goals first
      | (refine ⟨hlt, pg hx hp ?_, ?_⟩
         · exact ni hg
         · (refine ⟨rfl, (by first | exact ⟨_, rfl⟩ | exact ⟨[], by simp⟩), ?_, ?_⟩ <;> simp only [S1, simprocAttr, KNB] <;> (try and_intros) <;> (try assumption) <;> (try trivial) <;> (try omega)))
      | (simp only [S1, simprocAttr, ENB, eG]
         rw [vT (f := (I9 t.op)) hm (ph hg)]
         try simp)
  · obtain rfl : i = t.kids.length := by omega
    repeat' (first | ((repeat ((fail_if_success (refine hK _ ?_)); clear hK K)); refine hK _ ?_; clear hK K) | ((first | refine b9 fun K1 q8 => ?_ | refine b7 fun A B hA hB => ?_); simp only [S1, simprocAttr, eG, iZ]; first | refine q8 _ ?_; clear q8 K1 | (refine hB ?_; clear hA hB A B)) | refine b6 fun K hK => ?_ | ((first | apply b8 | apply b5 | apply f9 | apply d3); try simp only [NB, simprocAttr]))
    simp only [S1, simprocAttr, ENB, eG]
    rw [List.take_length] at hp
    simp [hp]
end
section
def jM := And.intro T2 (And.intro T3 (And.intro T4 (And.intro T31 (And.intro T58 (And.intro T73 (And.intro T75 xz))))))
attribute [local irreducible] awp n9 k8
variable {G : Nat → Option (List PV)}
def eH (p : Tm → Bool) : List Tm → Nat → Int
  | [], _ => -1
  | k :: r, i => if p k then (i : Int) else eH p r (i + 1)
theorem lR (p : Tm → Bool) : ∀ (l : List Tm) (i : Nat), decide (0 ≤ eH p l i) = l.any p
  | [], i => rfl
  | k :: r, i => by
    unfold eH
    cases h : p k with
    | true => simp [h]
    | false => simp [h, lR p r (i + 1)]
theorem rj {p : Tm → Bool} {l : List Tm} {i : Nat} {k : Tm} (hk : l[i]? = some k) : eH p (l.drop i) i = if p k then (i : Int) else eH p (l.drop (i + 1)) (i + 1) := by
  obtain ⟨h, e⟩ := List.getElem?_eq_some_iff.mp hk
  rw [List.drop_eq_getElem_cons h, e]; rfl
theorem pj {f : FuncId} (hE : g8 Tryz.prog f) {caps : List AV} {p : Tm → Bool} (ks : List Tm) (hl : ks.length ≤ 100) (h : Heap) (hcap : o4 h.length caps)
    (hc0 : ∀ k ∈ ks, d5 Tryz.prog G f (aT k :: caps) h (fun r h' => r = .b (p k) ∧ h' = h)) :
    d5 Tryz.prog G 162 [.p (.sl (ks.map eT)), .fn f caps] h (fun r h' => r = .i (eH p ks 0) ∧ h' = h) := by
  refine c8 (rl := []) d7 Tryz.func162 rfl (rs := [.tmp 4]) rfl Tryz.ntmps162 (by simp) ?_
  repeat' (first | ((repeat ((fail_if_success (refine hK _ ?_)); clear hK K)); refine hK _ ?_; clear hK K) | (refine b9 fun K1 q8 => ?_; simp only [S1, simprocAttr, jM]; refine q8 _ ?_; clear q8 K1) | refine b6 fun K hK => ?_ | ((first | apply b8 | apply b5 | apply c7); try simp only [NB, simprocAttr]))
  refine o9 ks.length 19 (fun i => [(8, .i i), (7, .i ks.length), (0, .p (.sl (ks.map eT))), (1, .fn f caps)]) (fun i => []) (fun i => eH p ks 0 = eH p (ks.drop i) i) ?_ rfl fun i hi hp K hK => ?_
  · (refine ⟨rfl, (by first | exact ⟨_, rfl⟩ | exact ⟨[], by simp⟩), ?_, ?_⟩ <;> simp only [S1, simprocAttr, KNB] <;> (try and_intros) <;> (try assumption) <;> (try trivial) <;> (try omega))
  rcases Nat.lt_or_ge i ks.length with hlt | hge
  · obtain ⟨k, hx⟩ : ∃ k, ks[i]? = some k := ⟨_, List.getElem?_eq_getElem hlt⟩
    have hm := List.mem_of_getElem? hx
    rw [rj hx] at hp
    repeat' (first | ((repeat ((fail_if_success (refine hK _ ?_)); clear hK K)); refine hK _ ?_; clear hK K) | ((first | refine b9 fun K1 q8 => ?_ | refine b7 fun A B hA hB => ?_); simp only [S1, simprocAttr, jM, dC hx, cv hlt, af hl hlt, q6]; first | refine q8 _ ?_; clear q8 K1 | (refine hA ?_; clear hA hB A B) | (apply d4 hE; exact (hc0 k hm); refine q8 _ ?_; clear q8 K1) | ((((refine ⟨fun hg => hA ?_, fun hg => hB ?_⟩ <;> clear hA hB A B)) <;> (try simp only [BN2] at hg) <;> (try simp only [hg, cndB])) <;> (try (refine q8 _ ?_; clear q8 K1)) <;> (try simp only [BN3] at hg))) | refine b6 fun K hK => ?_ | ((first | apply b8 | apply b5 | apply c7 | apply c9 | apply d3); try simp only [NB, simprocAttr]))
    · simp only [S1, simprocAttr, ENB, jM]
      simp [hp, hg]
    · exact ⟨hlt, by simpa [hg] using hp, by (refine ⟨rfl, (by first | exact ⟨_, rfl⟩ | exact ⟨[], by simp⟩), ?_, ?_⟩ <;> simp only [S1, simprocAttr, KNB] <;> (try and_intros) <;> (try assumption) <;> (try trivial) <;> (try omega))⟩
  · obtain rfl : i = ks.length := by omega
    repeat' (first | ((repeat ((fail_if_success (refine hK _ ?_)); clear hK K)); refine hK _ ?_; clear hK K) | ((first | refine b9 fun K1 q8 => ?_ | refine b7 fun A B hA hB => ?_); simp only [S1, simprocAttr, jM, iZ]; first | refine q8 _ ?_; clear q8 K1 | (refine hB ?_; clear hA hB A B)) | refine b6 fun K hK => ?_ | ((first | apply b8 | apply b5 | apply f9 | apply d3); try simp only [NB, simprocAttr]))
    simp only [S1, simprocAttr, ENB, jM]
    rw [List.drop_length] at hp
    simp [hp, eH]
theorem V2 {f : FuncId} (hE : g8 Tryz.prog f) {caps : List AV} {p : Tm → Bool} (ks : List Tm) (hl : ks.length ≤ 100) (h : Heap) (hcap : o4 h.length caps)
    (hc : ∀ k ∈ ks, d5 Tryz.prog G f (aT k :: caps) h (fun r h' => r = .b (p k) ∧ h' = h)) :
    d5 Tryz.prog G 157 [.p (.sl (ks.map eT)), .fn f caps] h (fun r h' => r = .b (ks.any p) ∧ h' = h) := by
  rw [← lR p ks 0]
  refine c8 (rl := []) d7 Tryz.func157 rfl (rs := [.tmp 4]) rfl Tryz.ntmps157 (by simp) ?_
  repeat' (first | ((repeat ((fail_if_success (refine hK _ ?_)); clear hK K)); refine hK _ ?_; clear hK K) | (refine b9 fun K1 q8 => ?_; simp only [S1, simprocAttr, jM]; first | refine q8 _ ?_; clear q8 K1 | (apply d4 Bm; exact (pj hE ks hl _ hcap hc); refine q8 _ ?_; clear q8 K1)) | refine b6 fun K hK => ?_ | ((first | apply b8 | apply b5 | apply d3); try simp only [NB, simprocAttr]))
  simp only [S1, simprocAttr, ENB, jM]
end
section
def jN := And.intro T2 (And.intro T3 (And.intro T4 (And.intro T31 (And.intro T58 (And.intro T73 (And.intro T75 xz))))))
attribute [local irreducible] awp n9 k8
variable {G : Nat → Option (List PV)}
def Tm.dp : Tm → Int → Bool
  | .mk _ _ ks, d => decide (24 < d) || (ks.map Tm.dp).any (fun f => f (d + 1))
theorem Tm.dp_eq (t : Tm) (d : Int) : t.dp d = (decide (24 < d) || t.kids.any (fun k => k.dp (d + 1))) := by
  cases t; simp only [Tm.dp, Tm.kids, List.any_map]; rfl
theorem rk {l : List Nat} : ∀ (a d : Nat), l.foldl max a ≤ d ↔ a ≤ d ∧ ∀ x ∈ l, x ≤ d := by
  induction l with
  | nil => intro a d; simp
  | cons x r ih => intro a d; rw [List.foldl_cons, ih, Nat.max_le]; simp only [List.mem_cons, forall_eq_or_imp, and_assoc]
theorem Tm.dp_depth (t : Tm) : ∀ d : Int, t.dp d = decide (25 < d + t.depth) := by
  refine Tm.ind (p := fun t => ∀ d : Int, t.dp d = decide (25 < d + t.depth)) (fun t ih d => ?_) t
  rw [Tm.dp_eq, Bool.eq_iff_iff]
  simp only [Bool.or_eq_true, decide_eq_true_eq, List.any_eq_true]
  have hm := fun n : Nat => rk (l := t.kids.map Tm.depth) 0 n
  rw [Tm.depth_eq]
  constructor
  · rintro (h | ⟨k, hk, h⟩)
    · omega
    · rw [ih k hk] at h
      simp only [decide_eq_true_eq] at h
      have := ((hm _).mp (Nat.le_refl _)).2 k.depth (List.mem_map_of_mem hk)
      omega
  · intro h
    by_cases h1 : 24 < d
    · exact .inl h1
    · right
      cases Classical.em (∃ x, x ∈ t.kids ∧ x.dp (d + 1) = true) with
      | inl e => exact e
      | inr e =>
        exfalso
        have : (t.kids.map Tm.depth).foldl max 0 ≤ (24 - d).toNat := by
          rw [hm]
          refine ⟨Nat.zero_le _, fun x hx => ?_⟩
          obtain ⟨k, hk, rfl⟩ := List.mem_map.mp hx
          have h2 : ¬ k.dp (d + 1) = true := fun h3 => e ⟨k, hk, h3⟩
          rw [ih k hk] at h2
          simp only [decide_eq_true_eq] at h2
          omega
        omega
theorem pk (k : Tm) (d : Int) (h1 : -1000 ≤ d) (h2 : d ≤ 1000) (h : Heap) {b : Nat} (hb : h[b]? = some (some ⟨0, [.i d]⟩))
    (ih : ∀ h : Heap, d5 Tryz.prog G 155 [aT k, .i (d + 1)] h (fun r h' => r = .b (k.dp (d + 1)) ∧ h' = h)) :
    d5 Tryz.prog G 160 [aT k, .ptr b 0 0] h (fun r h' => r = .b (k.dp (d + 1)) ∧ h' = h) := by
  have hlt : b < h.length := (List.getElem?_eq_some_iff.mp hb).1
  have hbL : ∀ L : Heap, (h ++ L)[b]? = some (some ⟨0, [.i d]⟩) := fun L => by rw [List.getElem?_append_left hlt]; exact hb
  have hw := IntWalk.i64_in (d + 1) (by omega)
  refine c8 (rl := []) d7 Tryz.func160 rfl (rs := [.tmp 3]) rfl Tryz.ntmps160 (by simp) ?_
  repeat' (first | ((repeat ((fail_if_success (refine hK _ ?_)); clear hK K)); refine hK _ ?_; clear hK K) | (refine b9 fun K1 q8 => ?_; simp only [S1, simprocAttr, jN, hbL, hw]; first | refine q8 _ ?_; clear q8 K1 | (apply d4 At; exact (ih _); refine q8 _ ?_; clear q8 K1)) | refine b6 fun K hK => ?_ | ((first | apply b8 | apply b5 | apply d3); try simp only [NB, simprocAttr]))
  simp only [S1, simprocAttr, ENB, jN]
theorem rm {n : Nat} {t : Tm} (ht : Tm.Ok n t) : ∀ (d : Int) (h : Heap), -1000 ≤ d → d ≤ 1000 → d5 Tryz.prog G 155 [aT t, .i d] h (fun r h' => r = .b (t.dp d) ∧ h' = h) := by
  refine Tm.Ok.ind (p := fun n t => ∀ (d : Int) (h : Heap), -1000 ≤ d → d ≤ 1000 → d5 Tryz.prog G 155 [aT t, .i d] h (fun r h' => r = .b (t.dp d) ∧ h' = h)) (fun n t hk ih d h h1 h2 => ?_) ht
  rw [Tm.dp_eq]
  by_cases hd : 24 < d
  · refine c8 (rl := []) d7 Tryz.func155 rfl (rs := [.tmp 4]) rfl Tryz.ntmps155 (by simp) ?_
    have hf : decide (24 < d) = true := by simpa using hd
    repeat' (first | ((repeat ((fail_if_success (refine hK _ ?_)); clear hK K)); refine hK _ ?_; clear hK K) | (refine b9 fun K1 q8 => ?_; simp only [S1, simprocAttr, jN, hf]; refine q8 _ ?_; clear q8 K1) | refine b6 fun K hK => ?_ | ((first | apply b8 | apply b5 | apply d3); try simp only [NB, simprocAttr]))
    simp only [S1, simprocAttr, ENB, jN]
    try simp [hf]
  · have hf : decide (24 < d) = false := by simpa using hd
    have hc := fun (L : Heap) (b : Nat) (hb : (h ++ L)[b]? = some (some ⟨0, [.i d]⟩)) => V2 (G := G) Bk (caps := [.ptr b 0 0]) (p := fun k => k.dp (d + 1)) t.kids hk (h ++ L) (by simp only [o4, s4, and_true]; exact (List.getElem?_eq_some_iff.mp hb).1) fun k hm => pk k d h1 h2 _ hb fun h => (ih k hm).2 _ h (by omega) (by omega)
    refine c8 (rl := []) d7 Tryz.func155 rfl (rs := [.tmp 4]) rfl Tryz.ntmps155 (by simp) ?_
    repeat' (first | ((repeat ((fail_if_success (refine hK _ ?_)); clear hK K)); refine hK _ ?_; clear hK K) | (refine b9 fun K1 q8 => ?_; simp only [S1, simprocAttr, jN, hf]; first | refine q8 _ ?_; clear q8 K1 | (apply d4 zd; exact (hc _ _ (by simp only [S1, simprocAttr, jN])); refine q8 _ ?_; clear q8 K1)) | refine b6 fun K hK => ?_ | ((first | apply b8 | apply b5 | apply d3); try simp only [NB, simprocAttr]))
    simp only [S1, simprocAttr, ENB, jN]
    try simp [hf]
end
section
def bp := And.intro T2 (And.intro T3 (And.intro T4 (And.intro T31 (And.intro T58 (And.intro T73 T75)))))
attribute [local irreducible] awp n9 k8
variable {G : Nat → Option (List PV)}
theorem pm {d : Nat} {t : Tm} (ht : Tm.Ok d t) (h : Heap) : d5 Tryz.prog G 145 [aT t] h (fun r h' => r = .b t.form ∧ h' = h) := by
  revert h
  refine Tm.Ok.ind (p := fun d t => ∀ h : Heap, d5 Tryz.prog G 145 [aT t] h (fun r h' => r = .b t.form ∧ h' = h)) (fun d t hk ih h => ?_) ht
  rw [Tm.form_eq]
  refine c8 (rl := []) d7 Tryz.func145 rfl (rs := [.tmp 2]) rfl Tryz.ntmps145 (by simp) ?_
  refine b6 fun K hK => ?_
  repeat' (first | (apply b8; (try simp only [NB]); ((repeat ((fail_if_success (refine hK _ ?_)); clear hK K)); refine hK _ ?_; clear hK K)) | (refine b9 fun K1 q8 => ?_; simp only [S1, simprocAttr, bp]; refine q8 _ ?_; clear q8 K1) | (apply b5; try simp only [NB, simprocAttr]; (try ((repeat ((fail_if_success (refine hK _ ?_)); clear hK K)); refine hK _ ?_; clear hK K))))
  refine jK 66 [(1, .ptr h.length 0 0)] [some ⟨0, [.i t.op, .i t.n, .p (.sl (t.kids.map eT))]⟩] (1 ≤ t.op ∧ t.op ≤ 14 ∧ (t.kids.length : Int) = bR t.op ∧ 0 ≤ t.n) (fun K hK => ?_) fun ha => ?_
  · repeat' (first | ((repeat ((fail_if_success (refine hK _ ?_)); clear hK K)); refine hK _ ?_; clear hK K) | ((first | refine b9 fun K1 q8 => ?_ | refine j9 fun K1 q8 => ?_ | refine b7 fun A B hA hB => ?_); simp only [S1, simprocAttr, bp]; first | refine q8 _ ?_; clear q8 K1 | (refine l9 (v := ?_) (fun hg q9 => ?_) ?_; rotate_left; (focus (try ((try simp only [BN] at hg); simp only [S1, simprocAttr, bp, hg] at q9 ⊢)); first | exact q9 | (apply j4 Bg; exact (rh _ _); exact q9)); refine q8 _ ?_; clear q8 K1) | ((((refine ⟨fun hg => hA ?_, fun hg => hB ?_⟩ <;> clear hA hB A B)) <;> (try simp only [BN2] at hg) <;> (try simp only [hg, cndB])) <;> (try (refine q8 _ ?_; clear q8 K1)) <;> (try simp only [BN3] at hg))) | refine b6 fun K hK => ?_ | ((first | apply b8 | apply i5 | apply b5 | refine i6 ?_ | apply c9 | apply d3); try simp only [NB, simprocAttr]))
    · simp only [S1, simprocAttr, ENB, bp]
      have : A2 t.op t.n t.kids.length = false := by
        cases hh : A2 t.op t.n t.kids.length with
        | false => rfl
        | true => simp [A2] at hh hg; omega
      simp [this]
    · exact ⟨by simp at hg; omega, by (refine ⟨rfl, (by first | exact ⟨_, rfl⟩ | exact ⟨[], by simp⟩), ?_, ?_⟩ <;> simp only [S1, simprocAttr, KNB] <;> (try and_intros) <;> (try assumption) <;> (try trivial) <;> (try omega))⟩
  refine jK 66 [(1, .ptr h.length 0 0)] [some ⟨0, [.i t.op, .i t.n, .p (.sl (t.kids.map eT))]⟩] (A2 t.op t.n t.kids.length = true) (fun K hK => ?_) fun hb => ?_
  · repeat' (first | ((repeat ((fail_if_success (refine hK _ ?_)); clear hK K)); refine hK _ ?_; clear hK K) | ((first | refine b9 fun K1 q8 => ?_ | refine b7 fun A B hA hB => ?_); simp only [S1, simprocAttr, bp]; first | refine q8 _ ?_; clear q8 K1 | (refine l9 (v := ?_) (fun hg q9 => ?_) ?_; rotate_left; (focus (try ((try simp only [BN] at hg); simp only [S1, simprocAttr, bp, hg] at q9 ⊢)); exact q9); refine q8 _ ?_; clear q8 K1) | ((((refine ⟨fun hg => hA ?_, fun hg => hB ?_⟩ <;> clear hA hB A B)) <;> (try simp only [BN2] at hg) <;> (try simp only [hg, cndB])) <;> (try (refine q8 _ ?_; clear q8 K1)) <;> (try simp only [BN3] at hg))) | refine b6 fun K hK => ?_ | ((first | apply b8 | apply b5 | apply c9 | apply d3); try simp only [NB, simprocAttr]))
    · simp only [S1, simprocAttr, ENB, bp]
      have : A2 t.op t.n t.kids.length = false := by
        cases hh : A2 t.op t.n t.kids.length with
        | false => rfl
        | true => simp [A2] at hh hg; omega
      simp [this]
    · exact ⟨by simp [A2] at hg ⊢; omega, by (refine ⟨rfl, (by first | exact ⟨_, rfl⟩ | exact ⟨[], by simp⟩), ?_, ?_⟩ <;> simp only [S1, simprocAttr, KNB] <;> (try and_intros) <;> (try assumption) <;> (try trivial) <;> (try omega))⟩
  refine b6 fun K hK => ?_
  repeat' (first | ((repeat ((fail_if_success (refine hK _ ?_)); clear hK K)); refine hK _ ?_; clear hK K) | (refine b9 fun K1 q8 => ?_; simp only [S1, simprocAttr, bp]; refine q8 _ ?_; clear q8 K1) | refine b6 fun K hK => ?_ | ((first | apply b8 | apply b5 | apply c7); try simp only [NB, simprocAttr]))
  refine o9 t.kids.length 66 (fun i => [(58, .i i), (57, .i t.kids.length), (56, .p (.sl (t.kids.map eT)))]) (fun i => []) (fun i => (t.kids.take i).all Tm.form = true) ?_ rfl fun i hi hp K hK => ?_
  · (refine ⟨rfl, (by first | exact ⟨_, rfl⟩ | exact ⟨[], by simp⟩), ?_, ?_⟩ <;> simp only [S1, simprocAttr, KNB] <;> (try and_intros) <;> (try assumption) <;> (try trivial) <;> (try omega))
  rcases Nat.lt_or_ge i t.kids.length with hlt | hge
  · obtain ⟨k, hx⟩ : ∃ k, t.kids[i]? = some k := ⟨_, List.getElem?_eq_getElem hlt⟩
    have hm := List.mem_of_getElem? hx
    repeat' (first | ((repeat ((fail_if_success (refine hK _ ?_)); clear hK K)); refine hK _ ?_; clear hK K) | ((first | refine b9 fun K1 q8 => ?_ | refine b7 fun A B hA hB => ?_); simp only [S1, simprocAttr, bp, dC hx, cv hlt, af hk hlt, q6]; first | refine q8 _ ?_; clear q8 K1 | (refine hA ?_; clear hA hB A B) | (apply d4 Ao; exact ((ih k hm).2 _); refine q8 _ ?_; clear q8 K1) | ((((refine ⟨fun hg => hA ?_, fun hg => hB ?_⟩ <;> clear hA hB A B)) <;> (try simp only [BN2] at hg) <;> (try simp only [hg, cndB])) <;> (try (refine q8 _ ?_; clear q8 K1)) <;> (try simp only [BN3] at hg))) | refine b6 fun K hK => ?_ | ((first | apply b8 | apply b5 | apply c7 | apply c9 | apply d3); try simp only [NB, simprocAttr]))
    all_goals first
      | (refine ⟨hlt, pg hx hp ?_, ?_⟩
         · simpa using hg
         · (refine ⟨rfl, (by first | exact ⟨_, rfl⟩ | exact ⟨[], by simp⟩), ?_, ?_⟩ <;> simp only [S1, simprocAttr, KNB] <;> (try and_intros) <;> (try assumption) <;> (try trivial) <;> (try omega)))
      | (simp only [S1, simprocAttr, ENB, bp]
         rw [vT (f := Tm.form) hm (by simpa using hg)]
         try simp)
  · obtain rfl : i = t.kids.length := by omega
    repeat' (first | ((repeat ((fail_if_success (refine hK _ ?_)); clear hK K)); refine hK _ ?_; clear hK K) | ((first | refine b9 fun K1 q8 => ?_ | refine b7 fun A B hA hB => ?_); simp only [S1, simprocAttr, bp, iZ]; first | refine q8 _ ?_; clear q8 K1 | (refine hB ?_; clear hA hB A B)) | refine b6 fun K hK => ?_ | ((first | apply b8 | apply b5 | apply f9 | apply d3); try simp only [NB, simprocAttr]))
    simp only [S1, simprocAttr, ENB, bp]
    rw [List.take_length] at hp
    simp [hp, hb]
end
section
def S4 := And.intro T2 (And.intro T3 (And.intro T4 (And.intro T31 (And.intro T58 (And.intro T73 (And.intro T75 (And.intro xz (And.intro yW yX))))))))
attribute [local irreducible] awp n9 k8
def jO : List PV :=
  let w (s : List UInt8) (a b c : Int) : List PV := [.str ⟨s.toArray⟩, .int .i64 a, .int .i64 b, .int .i64 c]
  w [] 0 0 0 ++ w [] 0 0 0 ++ w [] 0 0 0 ++ w [110, 101, 103] 1 1 1 ++ w [110, 111, 116] 1 2 2 ++ w [97, 100, 100] 2 1 1 ++ w [115, 117, 98] 2 1 1 ++ w [109, 117, 108] 2 1 1 ++ w [100, 105, 118] 2 1 1 ++ w [109, 111, 100] 2 1 1 ++ w [101, 113] 2 1 2 ++ w [108, 116] 2 1 2 ++ w [108, 101] 2 1 2 ++ w [97, 110, 100] 2 2 2 ++ w [111, 114] 2 2 2
def gW : Nat → Option (List PV) := fun g => if g = 0 then some jO else none
theorem ze : gW 0 = some jO := rfl
def ofN (o : Int) : Int := if G3 o then 2 else 1
def lg (o : Int) : Int := if y9 o then 2 else 1
theorem pn {o : Int} (h1 : 3 ≤ o) (h2 : o ≤ 14) : ∃ s rest, jO.drop (o.toNat * 4) = .str s :: .int .i64 (bR o) :: .int .i64 (ofN o) :: .int .i64 (lg o) :: rest := by
  have h : o = 3 ∨ o = 4 ∨ o = 5 ∨ o = 6 ∨ o = 7 ∨ o = 8 ∨ o = 9 ∨ o = 10 ∨ o = 11 ∨ o = 12 ∨ o = 13 ∨ o = 14 := by omega
  rcases h with rfl | rfl | rfl | rfl | rfl | rfl | rfl | rfl | rfl | rfl | rfl | rfl <;> exact ⟨_, _, rfl⟩
theorem sP {f : Tm → Bool} {l : List Tm} : (!l.any fun k => !f k) = l.all f := by
  induction l with
  | nil => rfl
  | cons k r ih => simp only [List.any_cons, List.all_cons, ← ih]; cases f k <;> simp
theorem lS {t : Tm} (h : t.op = 1 ∨ t.op = 2) : t.form = A2 t.op t.n t.kids.length := by
  rw [Tm.form_eq]
  cases hh : A2 t.op t.n t.kids.length with
  | false => rfl
  | true =>
    have : t.kids.length = 0 := by
      simp only [A2, Bool.and_eq_true, decide_eq_true_eq] at hh
      have h3 := hh.1.1.1.1.2
      unfold bR at h3
      rcases h with e | e <;> rw [e] at h3 <;> simp at h3 <;> simp [h3]
    rw [List.length_eq_zero_iff.mp this]; rfl
theorem lh (k : Tm) (h : Heap) (ih : ∀ h : Heap, d5 Tryz.prog gW 156 [aT k] h (fun r h' => r = .b k.form ∧ h' = h)) :
    d5 Tryz.prog gW 161 [aT k] h (fun r h' => r = .b (!k.form) ∧ h' = h) := by
  refine c8 (rl := []) d7 Tryz.func161 rfl (rs := [.tmp 2]) rfl Tryz.ntmps161 (by simp) ?_
  repeat' (first | ((repeat ((fail_if_success (refine hK _ ?_)); clear hK K)); refine hK _ ?_; clear hK K) | (refine b9 fun K1 q8 => ?_; simp only [S1, simprocAttr, S4]; first | refine q8 _ ?_; clear q8 K1 | (apply d4 Au; exact (ih _); refine q8 _ ?_; clear q8 K1)) | refine b6 fun K hK => ?_ | ((first | apply b8 | apply b5 | apply d3); try simp only [NB, simprocAttr]))
  simp only [S1, simprocAttr, ENB, S4]
theorem vU {t : Tm} (hk : t.kids.length ≤ 100) (ih : ∀ k ∈ t.kids, ∀ h : Heap, d5 Tryz.prog gW 156 [aT k] h (fun r h' => r = .b k.form ∧ h' = h)) (h : Heap) (hop : t.op = 1) : d5 Tryz.prog gW 156 [aT t] h (fun r h' => r = .b t.form ∧ h' = h) := by
  rw [lS (.inl hop)]
  refine c8 (rl := []) d7 Tryz.func156 rfl (rs := [.tmp 2]) rfl Tryz.ntmps156 (by simp) ?_
  repeat' (first | ((repeat ((fail_if_success (refine hK _ ?_)); clear hK K)); refine hK _ ?_; clear hK K) | ((first | refine b9 fun K1 q8 => ?_ | refine b7 fun A B hA hB => ?_); simp only [S1, simprocAttr, S4, hop]; first | refine q8 _ ?_; clear q8 K1 | (refine hA ?_; clear hA hB A B) | (refine l9 (v := ?_) (fun hg q9 => ?_) ?_; rotate_left; (focus (try ((try simp only [BN] at hg); simp only [S1, simprocAttr, S4, hop, hg] at q9 ⊢)); exact q9); refine q8 _ ?_; clear q8 K1)) | refine b6 fun K hK => ?_ | ((first | apply b8 | apply b5 | apply c7 | apply d3); try simp only [NB, simprocAttr]))
  simp only [S1, simprocAttr, ENB, S4]
  refine congrArg (fun b => AV.p (PV.bool b)) (Bool.eq_iff_iff.mpr ?_)
  simp [A2, bR, hop]
  try omega
theorem vV {t : Tm} (hk : t.kids.length ≤ 100) (ih : ∀ k ∈ t.kids, ∀ h : Heap, d5 Tryz.prog gW 156 [aT k] h (fun r h' => r = .b k.form ∧ h' = h)) (h : Heap) (hop : t.op = 2) : d5 Tryz.prog gW 156 [aT t] h (fun r h' => r = .b t.form ∧ h' = h) := by
  rw [lS (.inr hop)]
  refine c8 (rl := []) d7 Tryz.func156 rfl (rs := [.tmp 2]) rfl Tryz.ntmps156 (by simp) ?_
  repeat' (first | ((repeat ((fail_if_success (refine hK _ ?_)); clear hK K)); refine hK _ ?_; clear hK K) | ((first | refine b9 fun K1 q8 => ?_ | refine b7 fun A B hA hB => ?_); simp only [S1, simprocAttr, S4, hop]; first | refine q8 _ ?_; clear q8 K1 | ((first | refine hA ?_ | refine hB ?_); clear hA hB A B) | (refine l9 (v := ?_) (fun hg q9 => ?_) ?_; rotate_left; (focus (try ((try simp only [BN] at hg); simp only [S1, simprocAttr, S4, hop, hg] at q9 ⊢)); exact q9); refine q8 _ ?_; clear q8 K1)) | refine b6 fun K hK => ?_ | ((first | apply b8 | apply b5 | apply c7 | apply d3); try simp only [NB, simprocAttr]))
  simp only [S1, simprocAttr, ENB, S4]
  refine congrArg (fun b => AV.p (PV.bool b)) (Bool.eq_iff_iff.mpr ?_)
  simp [A2, bR, hop]
  try omega
theorem vW {t : Tm} (hk : t.kids.length ≤ 100) (ih : ∀ k ∈ t.kids, ∀ h : Heap, d5 Tryz.prog gW 156 [aT k] h (fun r h' => r = .b k.form ∧ h' = h)) (h : Heap) (hop : t.op < 1) : d5 Tryz.prog gW 156 [aT t] h (fun r h' => r = .b t.form ∧ h' = h) := by
  have f1 : (t.op == 1) = false := by simp; omega
  have f2 : (t.op == 2) = false := by simp; omega
  have f3 : decide (t.op < 3) = true := by simp; omega
  rw [Tm.form_eq]
  refine c8 (rl := []) d7 Tryz.func156 rfl (rs := [.tmp 2]) rfl Tryz.ntmps156 (by simp) ?_
  repeat' (first | ((repeat ((fail_if_success (refine hK _ ?_)); clear hK K)); refine hK _ ?_; clear hK K) | ((first | refine b9 fun K1 q8 => ?_ | refine j9 fun K1 q8 => ?_ | refine b7 fun A B hA hB => ?_); simp only [S1, simprocAttr, S4, f1, f2, f3]; first | refine q8 _ ?_; clear q8 K1 | ((first | refine hA ?_ | refine hB ?_); clear hA hB A B)) | refine b6 fun K hK => ?_ | ((first | apply b8 | apply i5 | apply b5 | refine i6 ?_ | apply c7 | apply d3); try simp only [NB, simprocAttr]))
  simp only [S1, simprocAttr, ENB, S4]
  have : A2 t.op t.n t.kids.length = false := by
    cases hh : A2 t.op t.n t.kids.length with
    | false => rfl
    | true => simp [A2] at hh; omega
  simp [this]
theorem vX {t : Tm} (hk : t.kids.length ≤ 100) (ih : ∀ k ∈ t.kids, ∀ h : Heap, d5 Tryz.prog gW 156 [aT k] h (fun r h' => r = .b k.form ∧ h' = h)) (h : Heap) (hop : 14 < t.op) : d5 Tryz.prog gW 156 [aT t] h (fun r h' => r = .b t.form ∧ h' = h) := by
  have f1 : (t.op == 1) = false := by simp; omega
  have f2 : (t.op == 2) = false := by simp; omega
  have f3 : decide (t.op < 3) = false := by simp; omega
  have f4 : decide (14 < t.op) = true := by simp; omega
  rw [Tm.form_eq]
  refine c8 (rl := []) d7 Tryz.func156 rfl (rs := [.tmp 2]) rfl Tryz.ntmps156 (by simp) ?_
  repeat' (first | ((repeat ((fail_if_success (refine hK _ ?_)); clear hK K)); refine hK _ ?_; clear hK K) | ((first | refine b9 fun K1 q8 => ?_ | refine j9 fun K1 q8 => ?_ | refine b7 fun A B hA hB => ?_); simp only [S1, simprocAttr, S4, f1, f2, f3, f4]; first | refine q8 _ ?_; clear q8 K1 | ((first | refine hA ?_ | refine hB ?_); clear hA hB A B)) | refine b6 fun K hK => ?_ | ((first | apply b8 | apply i5 | apply b5 | refine i6 ?_ | apply c7 | apply d3); try simp only [NB, simprocAttr]))
  simp only [S1, simprocAttr, ENB, S4]
  have : A2 t.op t.n t.kids.length = false := by
    cases hh : A2 t.op t.n t.kids.length with
    | false => rfl
    | true => simp [A2] at hh; omega
  simp [this]
theorem vY {t : Tm} (hk : t.kids.length ≤ 100) (ih : ∀ k ∈ t.kids, ∀ h : Heap, d5 Tryz.prog gW 156 [aT k] h (fun r h' => r = .b k.form ∧ h' = h)) (h : Heap) (ho1 : 3 ≤ t.op) (ho2 : t.op ≤ 14) : d5 Tryz.prog gW 156 [aT t] h (fun r h' => r = .b t.form ∧ h' = h) := by
  have hc := fun (L : Heap) => V2 (G := gW) Bl (caps := []) (p := fun k => !k.form) t.kids hk L trivial fun k hm => lh k L fun h => ih k hm h
  have f1 : (t.op == 1) = false := by simp; omega
  have f2 : (t.op == 2) = false := by simp; omega
  have f3 : decide (t.op < 3) = false := by simp; omega
  have f4 : decide (14 < t.op) = false := by simp; omega
  have f5 : 0 ≤ t.op := by omega
  have f6 : t.op < ((15 : Nat) : Int) := by omega
  have f7 : t.op < 15 := by omega
  obtain ⟨s, rest, f8⟩ := pn ho1 ho2
  rw [Tm.form_eq]
  refine c8 (rl := []) d7 Tryz.func156 rfl (rs := [.tmp 2]) rfl Tryz.ntmps156 (by simp) ?_
  repeat' (first | ((repeat ((fail_if_success (refine hK _ ?_)); clear hK K)); refine hK _ ?_; clear hK K) | ((first | refine b9 fun K1 q8 => ?_ | refine j9 fun K1 q8 => ?_ | refine b7 fun A B hA hB => ?_); simp only [S1, simprocAttr, S4, f1, f2, f3, f4, f5, f6, f7, f8, ze]; first | refine q8 _ ?_; clear q8 K1 | (refine hB ?_; clear hA hB A B) | (apply d4 zd; exact (hc _); refine q8 _ ?_; clear q8 K1) | (refine l9 (v := ?_) (fun hg q9 => ?_) ?_; rotate_left; (focus (try ((try simp only [BN] at hg); simp only [S1, simprocAttr, S4, f1, f2, f3, f4, f5, f6, f7, f8, ze, hg] at q9 ⊢)); exact q9); refine q8 _ ?_; clear q8 K1) | ((((refine ⟨fun hg => hA ?_, fun hg => hB ?_⟩ <;> clear hA hB A B)) <;> (try simp only [BN2] at hg) <;> (try simp only [hg, cndB])) <;> (try (refine q8 _ ?_; clear q8 K1)) <;> (try simp only [BN3] at hg))) | refine b6 fun K hK => ?_ | ((first | apply b8 | apply i5 | apply b5 | refine i6 ?_ | apply c7 | apply c9 | apply d3); try simp only [NB, simprocAttr]))
  · simp only [S1, simprocAttr, ENB, S4]
    have : A2 t.op t.n t.kids.length = false := by
      cases hh : A2 t.op t.n t.kids.length with
      | false => rfl
      | true => simp [A2] at hh hg; omega
    simp [this]
  · simp only [S1, simprocAttr, ENB, S4]
    have : A2 t.op t.n t.kids.length = true := by
      simp [A2] at hg ⊢; omega
    rw [this, sP, Bool.true_and]
theorem nl {n : Nat} {t : Tm} (ht : Tm.Ok n t) (h : Heap) : d5 Tryz.prog gW 156 [aT t] h (fun r h' => r = .b t.form ∧ h' = h) := by
  revert h
  refine Tm.Ok.ind (p := fun n t => ∀ (h : Heap), d5 Tryz.prog gW 156 [aT t] h (fun r h' => r = .b t.form ∧ h' = h)) (fun n t hk ih h => ?_) ht
  have ih' := fun k hm => (ih k hm).2
  rcases (by omega : t.op = 1 ∨ t.op = 2 ∨ t.op < 1 ∨ 14 < t.op ∨ (3 ≤ t.op ∧ t.op ≤ 14)) with hop | hop | hop | hop | ⟨ho1, ho2⟩
  · exact vU hk ih' h hop
  · exact vV hk ih' h hop
  · exact vW hk ih' h hop
  · exact vX hk ih' h hop
  · exact vY hk ih' h ho1 ho2
end
section
def M7 := And.intro T2 (And.intro T3 (And.intro T4 (And.intro T9 (And.intro T31 (And.intro T58 (And.intro T73 (And.intro T75 (And.intro xz (And.intro yW yX)))))))))
attribute [local irreducible] awp n9 k8
variable {G : Nat → Option (List PV)}
def tyN (t : Tm) : Int := if t.typed then lg t.op else 0
theorem zf {o : Int} {k : Tm} : (tyN k != ofN o) = !I9 o k := by
  unfold tyN ofN lg I9
  cases k.typed <;> cases y9 k.op <;> cases G3 o <;> rfl
theorem vZ {t : Tm} : (t.kids.any fun k => tyN k != ofN t.op) = !t.typed := by
  have : (fun k => tyN k != ofN t.op) = fun k => !I9 t.op k := funext fun k => zf
  rw [this, Tm.typed_eq, ← sP, Bool.not_not]
theorem xE {t : Tm} (h : t.form = true) : 1 ≤ t.op ∧ t.op ≤ 14 ∧ (t.op = 1 ∨ t.op = 2 → t.kids = []) ∧ ∀ k ∈ t.kids, k.form = true := by
  rw [Tm.form_eq, Bool.and_eq_true, List.all_eq_true] at h
  obtain ⟨h1, h2⟩ := h
  simp only [A2, Bool.and_eq_true, decide_eq_true_eq] at h1
  refine ⟨h1.1.1.1.1.1.1, h1.1.1.1.1.1.2, fun e => ?_, h2⟩
  have h3 := h1.1.1.1.1.2
  unfold bR at h3
  rcases e with e | e <;> rw [e] at h3 <;> simp at h3 <;> simp [h3]
theorem np (k : Tm) (h : Heap) {b : Nat} {s : ByteArray} {x o y : Int} (hb : h[b]? = some (some ⟨0, [.p (.str s), .i x, .i o, .i y]⟩))
    (ih : ∀ h : Heap, d5 Tryz.prog gW 153 [aT k] h (fun r h' => r = .i (tyN k) ∧ h' = h)) :
    d5 Tryz.prog gW 158 [aT k, .ptr b 0 0] h (fun r h' => r = .b (tyN k != o) ∧ h' = h) := by
  have hlt : b < h.length := (List.getElem?_eq_some_iff.mp hb).1
  have hbL : ∀ L : Heap, (h ++ L)[b]? = some (some ⟨0, [.p (.str s), .i x, .i o, .i y]⟩) := fun L => by rw [List.getElem?_append_left hlt]; exact hb
  refine c8 (rl := []) d7 Tryz.func158 rfl (rs := [.tmp 3]) rfl Tryz.ntmps158 (by simp) ?_
  repeat' (first | ((repeat ((fail_if_success (refine hK _ ?_)); clear hK K)); refine hK _ ?_; clear hK K) | ((first | refine b9 fun K1 q8 => ?_ | refine j9 fun K1 q8 => ?_); simp only [S1, simprocAttr, M7, hbL]; first | refine q8 _ ?_; clear q8 K1 | (apply j4 Ar; exact (ih _); refine q8 _ ?_; clear q8 K1)) | refine b6 fun K hK => ?_ | ((first | apply b8 | apply i5 | apply b5 | refine i6 ?_ | apply d3); try simp only [NB, simprocAttr]))
  simp only [S1, simprocAttr, ENB, M7]
theorem po {n : Nat} {t : Tm} (ht : Tm.Ok n t) (hf : t.form = true) (h : Heap) : d5 Tryz.prog gW 153 [aT t] h (fun r h' => r = .i (tyN t) ∧ h' = h) := by
  revert hf h
  refine Tm.Ok.ind (p := fun n t => t.form = true → ∀ (h : Heap), d5 Tryz.prog gW 153 [aT t] h (fun r h' => r = .i (tyN t) ∧ h' = h)) (fun n t hk ih hf h => ?_) ht
  obtain ⟨g1, g2, g3, g4⟩ := xE hf
  by_cases hop : t.op = 1 ∨ t.op = 2
  · have e : tyN t = 1 := by
      unfold tyN
      rw [Tm.typed_eq, g3 hop]
      rcases hop with hop | hop <;> rw [hop] <;> rfl
    rw [e]
    have f1 : (t.op == 1 || t.op == 2) = true := by rcases hop with hop | hop <;> simp [hop]
    refine c8 (rl := []) d7 Tryz.func153 rfl (rs := [.tmp 2]) rfl Tryz.ntmps153 (by simp) ?_
    rcases hop with hop | hop
    · repeat' (first | ((repeat ((fail_if_success (refine hK _ ?_)); clear hK K)); refine hK _ ?_; clear hK K) | ((first | refine b9 fun K1 q8 => ?_ | refine b7 fun A B hA hB => ?_); simp only [S1, simprocAttr, M7, hop]; first | refine q8 _ ?_; clear q8 K1 | (refine hA ?_; clear hA hB A B)) | refine b6 fun K hK => ?_ | ((first | apply b8 | apply b5 | apply d3); try simp only [NB, simprocAttr]))
      simp only [S1, simprocAttr, ENB, M7]
    · repeat' (first | ((repeat ((fail_if_success (refine hK _ ?_)); clear hK K)); refine hK _ ?_; clear hK K) | ((first | refine b9 fun K1 q8 => ?_ | refine b7 fun A B hA hB => ?_); simp only [S1, simprocAttr, M7, hop]; first | refine q8 _ ?_; clear q8 K1 | (refine hA ?_; clear hA hB A B)) | refine b6 fun K hK => ?_ | ((first | apply b8 | apply b5 | apply d3); try simp only [NB, simprocAttr]))
      simp only [S1, simprocAttr, ENB, M7]
  · have f1 : (t.op == 1) = false := by simp; omega
    have f2 : (t.op == 2) = false := by simp; omega
    have f5 : 0 ≤ t.op := by omega
    have f6 : t.op < ((15 : Nat) : Int) := by omega
    have f7 : t.op < 15 := by omega
    obtain ⟨s, rest, f8⟩ := pn (o := t.op) (by omega) g2
    have hc := fun (L : Heap) (b : Nat) (hb : (h ++ L)[b]? = some (some ⟨0, [.p (.str s), .i (bR t.op), .i (ofN t.op), .i (lg t.op)]⟩)) => V2 (G := gW) Bi (caps := [.ptr b 0 0]) (p := fun k => tyN k != ofN t.op) t.kids hk (h ++ L) (by simp only [o4, s4, and_true]; exact (List.getElem?_eq_some_iff.mp hb).1) fun k hm => np k _ hb fun h => (ih k hm).2 (g4 k hm) h
    refine c8 (rl := []) d7 Tryz.func153 rfl (rs := [.tmp 2]) rfl Tryz.ntmps153 (by simp) ?_
    repeat' (first | ((repeat ((fail_if_success (refine hK _ ?_)); clear hK K)); refine hK _ ?_; clear hK K) | ((first | refine b9 fun K1 q8 => ?_ | refine b7 fun A B hA hB => ?_); simp only [S1, simprocAttr, M7, f1, f2, f5, f6, f7, f8, ze]; first | refine q8 _ ?_; clear q8 K1 | (refine hB ?_; clear hA hB A B) | (apply d4 zd; exact (hc _ _ (by simp only [S1, simprocAttr, M7])); refine q8 _ ?_; clear q8 K1) | ((((refine ⟨fun hg => hA ?_, fun hg => hB ?_⟩ <;> clear hA hB A B)) <;> (try simp only [BN2] at hg) <;> (try simp only [hg, cndB])) <;> (try (refine q8 _ ?_; clear q8 K1)) <;> (try simp only [BN3] at hg))) | refine b6 fun K hK => ?_ | ((first | apply b8 | apply b5 | apply c9 | apply d3); try simp only [NB, simprocAttr]))
    · rw [vZ] at hg
      simp only [S1, simprocAttr, ENB, M7]
      have : t.typed = false := by simpa using hg
      simp [tyN, this]
    · rw [vZ] at hg
      simp only [S1, simprocAttr, ENB, M7]
      have : t.typed = true := by simpa using hg
      simp [tyN, this]
def R8 (t : Tm) : Int := if 24 < t.depth then 2 else if t.form then 0 else 4
def D2 (t : Tm) : Int × Int := if R8 t ≠ 0 then (0, R8 t) else if t.typed then (lg t.op, 0) else (0, 30)
theorem hN {n : Nat} {t : Tm} (ht : Tm.Ok n t) (h : Heap) : d5 Tryz.prog gW 152 [aT t] h (fun r h' => r = .i (R8 t) ∧ h' = h) := by
  have hd : t.dp 1 = decide (24 < t.depth) := by rw [Tm.dp_depth]; congr 1; rw [eq_iff_iff]; omega
  refine c8 (rl := []) d7 Tryz.func152 rfl (rs := [.tmp 2]) rfl Tryz.ntmps152 (by simp) ?_
  repeat' (first | ((repeat ((fail_if_success (refine hK _ ?_)); clear hK K)); refine hK _ ?_; clear hK K) | ((first | refine b9 fun K1 q8 => ?_ | refine b7 fun A B hA hB => ?_); simp only [S1, simprocAttr, M7]; first | refine q8 _ ?_; clear q8 K1 | (apply d4 At; exact (rm ht 1 _ (by omega) (by omega)); refine q8 _ ?_; clear q8 K1) | (apply d4 Au; exact (nl ht _); refine q8 _ ?_; clear q8 K1) | ((((refine ⟨fun hg => hA ?_, fun hg => hB ?_⟩ <;> clear hA hB A B)) <;> (try simp only [BN2] at hg) <;> (try simp only [hg, cndB])) <;> (try (refine q8 _ ?_; clear q8 K1)) <;> (try simp only [BN3] at hg))) | refine b6 fun K hK => ?_ | ((first | apply b8 | apply b5 | apply c7 | apply c9 | apply d3); try simp only [NB, simprocAttr]))
  all_goals simp only [S1, simprocAttr, ENB, M7]
  all_goals simp_all [R8]
theorem hP {n : Nat} {t : Tm} (ht : Tm.Ok n t) (h : Heap) : d5 Tryz.prog gW 147 [aT t] h (fun r h' => r = .tup [.i (D2 t).1, .i (D2 t).2] ∧ h' = h) := by
  by_cases hw : R8 t = 0
  · have hf : t.form = true := by
      unfold R8 at hw
      split at hw
      · cases hw
      · split at hw
        · assumption
        · cases hw
    refine c8 (rl := []) d7 Tryz.func147 rfl (rs := [.tmp 2, .tmp 3]) rfl Tryz.ntmps147 (by simp) ?_
    repeat' (first | ((repeat ((fail_if_success (refine hK _ ?_)); clear hK K)); refine hK _ ?_; clear hK K) | ((first | refine b9 fun K1 q8 => ?_ | refine b7 fun A B hA hB => ?_); simp only [S1, simprocAttr, M7, hw]; first | refine q8 _ ?_; clear q8 K1 | (refine hB ?_; clear hA hB A B) | (apply d4 Aq; exact (hN ht _); refine q8 _ ?_; clear q8 K1) | (apply d4 Ar; exact (po ht hf _); refine q8 _ ?_; clear q8 K1) | ((((refine ⟨fun hg => hA ?_, fun hg => hB ?_⟩ <;> clear hA hB A B)) <;> (try simp only [BN2] at hg) <;> (try simp only [hg, cndB])) <;> (try (refine q8 _ ?_; clear q8 K1)) <;> (try simp only [BN3] at hg))) | refine b6 fun K hK => ?_ | ((first | apply b8 | apply b5 | apply c9 | apply d3); try simp only [NB, simprocAttr]))
    all_goals simp only [S1, simprocAttr, ENB, M7]
    all_goals (cases hty : t.typed <;> cases hto : y9 t.op <;> simp_all [D2, tyN, lg])
  · have e : (R8 t != 0) = true := by simpa using hw
    refine c8 (rl := []) d7 Tryz.func147 rfl (rs := [.tmp 2, .tmp 3]) rfl Tryz.ntmps147 (by simp) ?_
    repeat' (first | ((repeat ((fail_if_success (refine hK _ ?_)); clear hK K)); refine hK _ ?_; clear hK K) | ((first | refine b9 fun K1 q8 => ?_ | refine b7 fun A B hA hB => ?_); simp only [S1, simprocAttr, M7, e]; first | refine q8 _ ?_; clear q8 K1 | (refine hA ?_; clear hA hB A B) | (apply d4 Aq; exact (hN ht _); refine q8 _ ?_; clear q8 K1)) | refine b6 fun K hK => ?_ | ((first | apply b8 | apply b5 | apply d3); try simp only [NB, simprocAttr]))
    all_goals simp only [S1, simprocAttr, ENB, M7]
    all_goals simp_all [D2]
theorem nq {n : Nat} {t : Tm} (ht : Tm.Ok n t) (hn : n ≤ 200) (h : Heap) : d5 Tryz.prog G 126 [aT t] h (fun r h' => r = .i (R8 t) ∧ h' = h) := by
  refine c8 (rl := []) d7 Tryz.func126 rfl (rs := [.tmp 2]) rfl Tryz.ntmps126 (by simp) ?_
  repeat' (first | ((repeat ((fail_if_success (refine hK _ ?_)); clear hK K)); refine hK _ ?_; clear hK K) | ((first | refine b9 fun K1 q8 => ?_ | refine b7 fun A B hA hB => ?_); simp only [S1, simprocAttr, M7]; first | refine q8 _ ?_; clear q8 K1 | (apply d4 An; exact (pf ht hn _); refine q8 _ ?_; clear q8 K1) | (apply d4 Ao; exact (pm ht _); refine q8 _ ?_; clear q8 K1) | ((((refine ⟨fun hg => hA ?_, fun hg => hB ?_⟩ <;> clear hA hB A B)) <;> (try simp only [BN2] at hg) <;> (try simp only [hg, cndB])) <;> (try (refine q8 _ ?_; clear q8 K1)) <;> (try simp only [BN3] at hg))) | refine b6 fun K hK => ?_ | ((first | apply b8 | apply b5 | apply c9 | apply d3); try simp only [NB, simprocAttr]))
  all_goals simp only [S1, simprocAttr, ENB, M7]
  all_goals simp_all [R8]
  all_goals try omega
theorem T7 {n : Nat} {t : Tm} (ht : Tm.Ok n t) (hn : n ≤ 200) (h : Heap) : d5 Tryz.prog G 95 [aT t] h (fun r h' => r = .tup [.i (D2 t).1, .i (D2 t).2] ∧ h' = h) := by
  refine c8 (rl := []) d7 Tryz.func95 rfl (rs := [.tmp 2, .tmp 3]) rfl Tryz.ntmps95 (by simp) ?_
  repeat' (first | ((repeat ((fail_if_success (refine hK _ ?_)); clear hK K)); refine hK _ ?_; clear hK K) | ((first | refine b9 fun K1 q8 => ?_ | refine b7 fun A B hA hB => ?_); simp only [S1, simprocAttr, M7]; first | refine q8 _ ?_; clear q8 K1 | (apply d4 AX; exact (nq ht hn _); refine q8 _ ?_; clear q8 K1) | (apply d4 Al; exact (nj ht _); refine q8 _ ?_; clear q8 K1) | (apply d4 Am; exact (eE _ _); refine q8 _ ?_; clear q8 K1) | ((((refine ⟨fun hg => hA ?_, fun hg => hB ?_⟩ <;> clear hA hB A B)) <;> (try simp only [BN2] at hg) <;> (try simp only [hg, cndB])) <;> (try (refine q8 _ ?_; clear q8 K1)) <;> (try simp only [BN3] at hg))) | refine b6 fun K hK => ?_ | ((first | apply b8 | apply b5 | apply c9 | apply d3); try simp only [NB, simprocAttr]))
  all_goals simp only [S1, simprocAttr, ENB, M7]
  all_goals try clear hK
  all_goals (cases hty : t.typed <;> cases hto : y9 t.op <;> simp_all [D2, lg, y9])
  all_goals omega
end
section
def br := And.intro T2 (And.intro T3 (And.intro T4 (And.intro T31 (And.intro T73 T75))))
attribute [local irreducible] awp n9 k8 l8 o5
variable {G : Nat → Option (List PV)}
def bu (t : Tm) : Bool := (t.op == 0 && t.n == 0) && ((t.kids.length : Int) == 0)
def ofB (t : Tm) (k : Int) : Bool := (D2 t).2 == 0 && (D2 t).1 == k
theorem M3 (t : Tm) (h : Heap) : d5 Tryz.prog G 133 [aT t] h (fun r h' => r = .b (bu t) ∧ h' = h) := by
  refine c8 (rl := []) d7 Tryz.func133 rfl (rs := [.tmp 2]) rfl Tryz.ntmps133 (by simp) ?_
  repeat' (first | ((repeat ((fail_if_success (refine hK _ ?_)); clear hK K)); refine hK _ ?_; clear hK K) | (refine b9 fun K1 q8 => ?_; simp only [S1, simprocAttr, br, List.length_map]; first | refine q8 _ ?_; clear q8 K1 | (refine l9 (v := ?_) (fun hg q9 => ?_) ?_; rotate_left; (focus (try ((try simp only [BN] at hg); simp only [S1, simprocAttr, br, List.length_map, hg] at q9 ⊢)); exact q9); refine q8 _ ?_; clear q8 K1)) | refine b6 fun K hK => ?_ | ((first | apply b8 | apply b5 | apply d3); try simp only [NB, simprocAttr]))
  all_goals simp only [S1, simprocAttr, ENB, br]
  all_goals (try simp only [bu, List.length_map])
theorem M8 (t : Tm) (h : Heap) : d5 Tryz.prog G 65 [aT t] h (fun r h' => r = .b (bu t) ∧ h' = h) := by
  refine c8 (rl := []) d7 Tryz.func65 rfl (rs := [.tmp 2]) rfl Tryz.ntmps65 (by simp) ?_
  repeat' (first | ((repeat ((fail_if_success (refine hK _ ?_)); clear hK K)); refine hK _ ?_; clear hK K) | (refine b9 fun K1 q8 => ?_; simp only [S1, simprocAttr, br, List.length_map]; first | refine q8 _ ?_; clear q8 K1 | (refine l9 (v := ?_) (fun hg q9 => ?_) ?_; rotate_left; (focus (try ((try simp only [BN] at hg); simp only [S1, simprocAttr, br, List.length_map, hg] at q9 ⊢)); exact q9); refine q8 _ ?_; clear q8 K1)) | refine b6 fun K hK => ?_ | ((first | apply b8 | apply b5 | apply d3); try simp only [NB, simprocAttr]))
  all_goals simp only [S1, simprocAttr, ENB, br]
  all_goals (try simp only [bu, List.length_map])
theorem nr {n : Nat} {t : Tm} (ht : Tm.Ok n t) (k : Int) (h : Heap) : d5 Tryz.prog gW 132 [aT t, .i k] h (fun r h' => r = .b (ofB t k) ∧ h' = h) := by
  refine c8 (rl := []) d7 Tryz.func132 rfl (rs := [.tmp 4]) rfl Tryz.ntmps132 (by simp) ?_
  repeat' (first | ((repeat ((fail_if_success (refine hK _ ?_)); clear hK K)); refine hK _ ?_; clear hK K) | (refine b9 fun K1 q8 => ?_; simp only [S1, simprocAttr, br]; first | refine q8 _ ?_; clear q8 K1 | (apply d4 Ap; exact (hP ht _); refine q8 _ ?_; clear q8 K1) | (refine l9 (v := ?_) (fun hg q9 => ?_) ?_; rotate_left; (focus (try ((try simp only [BN] at hg); simp only [S1, simprocAttr, br, hg] at q9 ⊢)); exact q9); refine q8 _ ?_; clear q8 K1)) | refine b6 fun K hK => ?_ | ((first | apply b8 | apply b5 | apply d3); try simp only [NB, simprocAttr]))
  all_goals simp only [S1, simprocAttr, ENB, br]
  all_goals (try simp only [ofB])
theorem pp {n : Nat} {t : Tm} (ht : Tm.Ok n t) (hn : n ≤ 200) (k : Int) (h : Heap) : d5 Tryz.prog G 64 [aT t, .i k] h (fun r h' => r = .b (ofB t k) ∧ h' = h) := by
  refine c8 (rl := []) d7 Tryz.func64 rfl (rs := [.tmp 4]) rfl Tryz.ntmps64 (by simp) ?_
  repeat' (first | ((repeat ((fail_if_success (refine hK _ ?_)); clear hK K)); refine hK _ ?_; clear hK K) | (refine b9 fun K1 q8 => ?_; simp only [S1, simprocAttr, br]; first | refine q8 _ ?_; clear q8 K1 | (apply d4 E95; exact (T7 ht hn _); refine q8 _ ?_; clear q8 K1) | (refine l9 (v := ?_) (fun hg q9 => ?_) ?_; rotate_left; (focus (try ((try simp only [BN] at hg); simp only [S1, simprocAttr, br, hg] at q9 ⊢)); exact q9); refine q8 _ ?_; clear q8 K1)) | refine b6 fun K hK => ?_ | ((first | apply b8 | apply b5 | apply d3); try simp only [NB, simprocAttr]))
  all_goals simp only [S1, simprocAttr, ENB, br]
  all_goals (try simp only [ofB])
end
section
mutual
def nrm : PV → PV
  | .nils => .sl []
  | .sl rows => .sl (H9 rows)
  | .int k n => .int k n
  | .bool b => .bool b
  | .str s => .str s
  | .nilp => .nilp
  | .nilf => .nilf
  | .nilm => .nilm
def V3 : List PV → List PV
  | [] => []
  | x :: r => nrm x :: V3 r
def H9 : List (List PV) → List (List PV)
  | [] => []
  | x :: r => V3 x :: H9 r
end
theorem dE : ∀ l : List PV, V3 l = l.map nrm
  | [] => rfl
  | x :: r => by simp only [V3, List.map_cons, dE r]
theorem R0 : ∀ l : List (List PV), H9 l = l.map V3
  | [] => rfl
  | x :: r => by simp only [H9, List.map_cons, R0 r]
theorem pq (rows : List (List PV)) (i j : Nat) : P2 (H9 rows) i j = (P2 rows i j).map nrm := by
  unfold P2
  rw [R0, List.getElem?_map]
  cases rows[i]? with
  | none => rfl
  | some r => simp [dE]
theorem PRel.nrm {w : World} {o : Nat → Prop} {x : PV} {v : Value} (h : PRel w o x v) : PRel w o (AM.nrm x) v := by
  induction h with
  | int k n h => exact .int k n h
  | bool b => exact .bool b
  | str s h => exact .str s h
  | nils => exact .slz none 0
  | nilp => exact .nilp
  | nilf => exact .nilf
  | nilm => exact .nilm
  | slz A c => exact .slz A c
  | sl rows blk off c sz f hc hn ho hb hsz hcell hrec ih =>
    have hl : (H9 rows).length = rows.length := by rw [R0, List.length_map]
    have := PRel.sl (w := w) (own := o) (H9 rows) blk off c sz f (by omega) (by omega) ho hb (fun row hr => by
      rw [R0] at hr
      obtain ⟨r, hr2, rfl⟩ := List.mem_map.mp hr
      rw [dE, List.length_map]
      exact hsz r hr2) (fun i j x hx => by
        rw [pq] at hx
        obtain ⟨y, hy, rfl⟩ := Option.map_eq_some_iff.mp hx
        exact hcell i j y hy) (fun i j x hx => by
        rw [pq] at hx
        obtain ⟨y, hy, rfl⟩ := Option.map_eq_some_iff.mp hx
        exact ih i j y hy)
    rw [hl] at this
    exact this
mutual
def bS : AV → AV
  | .p x => .p (nrm x)
  | .agg l => .agg (R2 l)
  | .tup l => .tup (R2 l)
  | .ref b g o s l => .ref b g o s l
  | .ptr b g o => .ptr b g o
  | .pin c => .pin c
  | .mref b g => .mref b g
  | .mp es => .mp es
  | .fn f l => .fn f l
def R2 : List AV → List AV
  | [] => []
  | x :: r => bS x :: R2 r
end
theorem U6 : ∀ l : List AV, R2 l = l.map bS
  | [] => rfl
  | x :: r => by simp only [R2, List.map_cons, U6 r]
section
variable {P : Program} {G : Nat → Option (List PV)} {ι : Nat → Nat × Nat} {h : Heap} {w : World}
theorem VRel.nrm {x : AV} {v : Value} (hx : VRel ι h w x v) : VRel ι h w (bS x) v := by
  induction hx with
  | p x v hx => exact .p _ _ hx.nrm
  | agg cells vs hl hv ih =>
    simp only [bS, U6]
    refine .agg _ _ (by simpa using hl) fun i x v hx hv' => ?_
    rw [List.getElem?_map] at hx
    obtain ⟨y, hy, rfl⟩ := Option.map_eq_some_iff.mp hx
    exact ih i y v hy hv'
  | tup cells vs hl hv ih =>
    simp only [bS, U6]
    refine .tup _ _ (by simpa using hl) fun i x v hx hv' => ?_
    rw [List.getElem?_map] at hx
    obtain ⟨y, hy, rfl⟩ := Option.map_eq_some_iff.mp hx
    exact ih i y v hy hv'
  | fn f cells vs hl hv ih => exact .fn f cells vs hl hv
  | ref b g off sz len A c hn hb hg hv => exact .ref b g off sz len A c hn hb hg hv
  | ptr b g off A hb hg hv => exact .ptr b g off A hb hg hv
  | pin cells blk off hv => exact .pin cells blk off hv
  | mref b g r hb hg hv => exact .mref b g r hb hg hv
theorem d5.nrm {f : FuncId} {args : List AV} {K : AV → Heap → Prop} (hc : d5 P G f (R2 args) h K) : d5 P G f args h K :=
  fun ι w vs hS hv => hc ι w vs hS ⟨by rw [U6, List.length_map]; exact hv.1, fun i x v hx hv' => by
    rw [U6, List.getElem?_map] at hx
    obtain ⟨y, hy, rfl⟩ := Option.map_eq_some_iff.mp hx
    exact (hv.2 i y v hy hv').nrm⟩
end
end
section
def X2 := And.intro T2 (And.intro T3 (And.intro T4 (And.intro T31 (And.intro T73 (And.intro T75 T77)))))
attribute [local irreducible] awp n9 k8 l8 o5
variable {G : Nat → Option (List PV)}
abbrev yH (kind a : Int) (t : Tm) : AV := .agg [.i kind, .i a, .i t.op, .i t.n, .p (.sl (t.kids.map eT))]
def cV (kind : Int) : Int := if kind = 3 then 3 else if kind = 8 then 4 else 0
def bD (kind a : Int) (t : Tm) : Bool :=
  if kind = 4 then (decide (0 ≤ a) && decide (a ≤ 3)) && ofB t 1
  else ((decide (1 ≤ kind) && decide (kind ≤ 8)) && (decide (0 ≤ a) && decide (a ≤ cV kind))) && bu t
theorem tX (h : Heap) : d5 Tryz.prog G 133 [.agg [.i 0, .i 0, .p .nils]] h (fun r h' => r = .b true ∧ h' = h) := by
  have hz := M3 (G := G) (.mk 0 0 []) h
  refine d5.nrm ?_
  simpa [R2, bS, nrm, V3, H9, aT, Tm.op, Tm.n, Tm.kids, bu] using hz
theorem pr {n : Nat} {t : Tm} (ht : Tm.Ok n t) (kind a : Int) (h : Heap) : d5 Tryz.prog gW 102 [yH kind a t] h (fun r h' => r = .b (bD kind a t) ∧ h' = h) := by
  by_cases h4 : kind = 4
  · subst h4
    cases ho : ofB t 1 with
    | false =>
      have hof := fun h => nr ht 1 h
      rw [ho] at hof
      refine c8 (rl := []) d7 Tryz.func102 rfl (rs := [.tmp 2]) rfl Tryz.ntmps102 (by simp) ?_
      repeat' (first | ((repeat ((fail_if_success (refine hK _ ?_)); clear hK K)); refine hK _ ?_; clear hK K) | ((first | refine b9 fun K1 q8 => ?_ | refine b7 fun A B hA hB => ?_); simp only [S1, simprocAttr, X2, q6]; first | refine q8 _ ?_; clear q8 K1 | (refine hA ?_; clear hA hB A B) | (apply d4 za; exact (hof _); refine q8 _ ?_; clear q8 K1)) | refine b6 fun K hK => ?_ | ((first | apply b8 | apply b5 | apply c7 | apply f9 | apply d3); try simp only [NB, simprocAttr]))
      all_goals simp only [S1, simprocAttr, ENB, X2]
      all_goals simp [bD, ho]
    | true =>
      have hof := fun h => nr ht 1 h
      rw [ho] at hof
      refine c8 (rl := []) d7 Tryz.func102 rfl (rs := [.tmp 2]) rfl Tryz.ntmps102 (by simp) ?_
      repeat' (first | ((repeat ((fail_if_success (refine hK _ ?_)); clear hK K)); refine hK _ ?_; clear hK K) | ((first | refine b9 fun K1 q8 => ?_ | refine b7 fun A B hA hB => ?_); simp only [S1, simprocAttr, X2, q6]; first | refine q8 _ ?_; clear q8 K1 | ((first | refine hA ?_ | refine hB ?_); clear hA hB A B) | (apply d4 za; exact (hof _); refine q8 _ ?_; clear q8 K1) | (refine l9 (v := ?_) (fun hg q9 => ?_) ?_; rotate_left; (focus (try ((try simp only [BN] at hg); simp only [S1, simprocAttr, X2, q6, hg] at q9 ⊢)); first | exact q9 | (apply d4 rf; exact (tX _); exact q9)); refine q8 _ ?_; clear q8 K1)) | refine b6 fun K hK => ?_ | ((first | apply b8 | apply b5 | apply c7 | apply f9 | apply c9 | apply d3); try simp only [NB, simprocAttr]))
      all_goals simp only [S1, simprocAttr, ENB, X2]
      all_goals simp [bD, ho]
  · have f4 : (kind == 4) = false := by simp [h4]
    by_cases h3 : kind = 3
    · subst h3
      refine c8 (rl := []) d7 Tryz.func102 rfl (rs := [.tmp 2]) rfl Tryz.ntmps102 (by simp) ?_
      repeat' (first | ((repeat ((fail_if_success (refine hK _ ?_)); clear hK K)); refine hK _ ?_; clear hK K) | ((first | refine b9 fun K1 q8 => ?_ | refine b7 fun A B hA hB => ?_); simp only [S1, simprocAttr, X2, q6]; first | refine q8 _ ?_; clear q8 K1 | ((first | refine hA ?_ | refine hB ?_); clear hA hB A B) | (refine l9 (v := ?_) (fun hg q9 => ?_) ?_; rotate_left; (focus (try ((try simp only [BN] at hg); simp only [S1, simprocAttr, X2, q6, hg] at q9 ⊢)); first | exact q9 | (apply d4 rf; exact (M3 t _); exact q9)); refine q8 _ ?_; clear q8 K1)) | refine b6 fun K hK => ?_ | ((first | apply b8 | apply b5 | apply c7 | apply f9 | apply c9 | apply d3); try simp only [NB, simprocAttr]))
      all_goals simp only [S1, simprocAttr, ENB, X2]
      all_goals simp [bD, cV, Bool.and_assoc]
    · have f3 : (kind == 3) = false := by simp [h3]
      by_cases h8 : kind = 8
      · subst h8
        refine c8 (rl := []) d7 Tryz.func102 rfl (rs := [.tmp 2]) rfl Tryz.ntmps102 (by simp) ?_
        repeat' (first | ((repeat ((fail_if_success (refine hK _ ?_)); clear hK K)); refine hK _ ?_; clear hK K) | ((first | refine b9 fun K1 q8 => ?_ | refine b7 fun A B hA hB => ?_); simp only [S1, simprocAttr, X2, q6]; first | refine q8 _ ?_; clear q8 K1 | ((first | refine hA ?_ | refine hB ?_); clear hA hB A B) | (refine l9 (v := ?_) (fun hg q9 => ?_) ?_; rotate_left; (focus (try ((try simp only [BN] at hg); simp only [S1, simprocAttr, X2, q6, hg] at q9 ⊢)); first | exact q9 | (apply d4 rf; exact (M3 t _); exact q9)); refine q8 _ ?_; clear q8 K1)) | refine b6 fun K hK => ?_ | ((first | apply b8 | apply b5 | apply c7 | apply f9 | apply c9 | apply d3); try simp only [NB, simprocAttr]))
        all_goals simp only [S1, simprocAttr, ENB, X2]
        all_goals simp [bD, cV, Bool.and_assoc]
      · have f8 : (kind == 8) = false := by simp [h8]
        refine c8 (rl := []) d7 Tryz.func102 rfl (rs := [.tmp 2]) rfl Tryz.ntmps102 (by simp) ?_
        repeat' (first | ((repeat ((fail_if_success (refine hK _ ?_)); clear hK K)); refine hK _ ?_; clear hK K) | ((first | refine b9 fun K1 q8 => ?_ | refine b7 fun A B hA hB => ?_); simp only [S1, simprocAttr, X2, q6, f3, f4, f8]; first | refine q8 _ ?_; clear q8 K1 | (refine hB ?_; clear hA hB A B) | (refine l9 (v := ?_) (fun hg q9 => ?_) ?_; rotate_left; (focus (try ((try simp only [BN] at hg); simp only [S1, simprocAttr, X2, q6, f3, f4, f8, hg] at q9 ⊢)); first | exact q9 | (apply d4 rf; exact (M3 t _); exact q9)); refine q8 _ ?_; clear q8 K1)) | refine b6 fun K hK => ?_ | ((first | apply b8 | apply b5 | apply c7 | apply f9 | apply c9 | apply d3); try simp only [NB, simprocAttr]))
        all_goals simp only [S1, simprocAttr, ENB, X2]
        all_goals simp [bD, cV, h3, h4, h8, Bool.and_assoc]
end
section
def V4 := And.intro T2 (And.intro T3 (And.intro T4 (And.intro T31 (And.intro T73 (And.intro T75 T77)))))
attribute [local irreducible] awp n9 k8 l8 o5
variable {G : Nat → Option (List PV)}
theorem tY {n : Nat} {t : Tm} (ht : Tm.Ok n t) (hn : n ≤ 200) (kind a : Int) (h : Heap) : d5 Tryz.prog G 42 [yH kind a t] h (fun r h' => r = .b (bD kind a t) ∧ h' = h) := by
  by_cases hr : 1 ≤ kind ∧ kind ≤ 8 ∧ 0 ≤ a
  · have f1 : decide (kind < 1) = false := by simp; omega
    have f2 : decide (8 < kind) = false := by simp; omega
    have f5 : decide (a < 0) = false := by simp; omega
    by_cases h4 : kind = 4
    · subst h4
      refine c8 (rl := []) d7 Tryz.func42 rfl (rs := [.tmp 2]) rfl Tryz.ntmps42 (by simp) ?_
      repeat' (first | ((repeat ((fail_if_success (refine hK _ ?_)); clear hK K)); refine hK _ ?_; clear hK K) | ((first | refine b9 fun K1 q8 => ?_ | refine b7 fun A B hA hB => ?_); simp only [S1, simprocAttr, V4, q6, f5]; first | refine q8 _ ?_; clear q8 K1 | ((first | refine hA ?_ | refine hB ?_); clear hA hB A B) | (refine l9 (v := ?_) (fun hg q9 => ?_) ?_; rotate_left; (focus (try ((try simp only [BN] at hg); simp only [S1, simprocAttr, V4, q6, f5, hg] at q9 ⊢)); first | exact q9 | (apply d4 E64; exact (pp ht hn 1 _); exact q9)); refine q8 _ ?_; clear q8 K1)) | refine b6 fun K hK => ?_ | ((first | apply b8 | apply b5 | apply c9 | apply d3); try simp only [NB, simprocAttr]))
      all_goals simp only [S1, simprocAttr, ENB, V4]
      all_goals (have e : decide (a < 4) = decide (a ≤ 3) := by rw [decide_eq_decide]; omega)
      all_goals simp [bD, e, hr.2.2]
    · have f4 : (kind == 4) = false := by simp [h4]
      by_cases h3 : kind = 3
      · subst h3
        refine c8 (rl := []) d7 Tryz.func42 rfl (rs := [.tmp 2]) rfl Tryz.ntmps42 (by simp) ?_
        repeat' (first | ((repeat ((fail_if_success (refine hK _ ?_)); clear hK K)); refine hK _ ?_; clear hK K) | ((first | refine b9 fun K1 q8 => ?_ | refine b7 fun A B hA hB => ?_); simp only [S1, simprocAttr, V4, q6, f5]; first | refine q8 _ ?_; clear q8 K1 | ((first | refine hA ?_ | refine hB ?_); clear hA hB A B) | (refine l9 (v := ?_) (fun hg q9 => ?_) ?_; rotate_left; (focus (try ((try simp only [BN] at hg); simp only [S1, simprocAttr, V4, q6, f5, hg] at q9 ⊢)); first | exact q9 | (apply d4 E65; exact (M8 t _); exact q9)); refine q8 _ ?_; clear q8 K1)) | refine b6 fun K hK => ?_ | ((first | apply b8 | apply b5 | apply c9 | apply d3); try simp only [NB, simprocAttr]))
        all_goals simp only [S1, simprocAttr, ENB, V4]
        all_goals simp [bD, cV, hr.2.2]
      · have f3 : (kind == 3) = false := by simp [h3]
        by_cases h8 : kind = 8
        · subst h8
          refine c8 (rl := []) d7 Tryz.func42 rfl (rs := [.tmp 2]) rfl Tryz.ntmps42 (by simp) ?_
          repeat' (first | ((repeat ((fail_if_success (refine hK _ ?_)); clear hK K)); refine hK _ ?_; clear hK K) | ((first | refine b9 fun K1 q8 => ?_ | refine b7 fun A B hA hB => ?_); simp only [S1, simprocAttr, V4, q6, f5]; first | refine q8 _ ?_; clear q8 K1 | ((first | refine hA ?_ | refine hB ?_); clear hA hB A B) | (refine l9 (v := ?_) (fun hg q9 => ?_) ?_; rotate_left; (focus (try ((try simp only [BN] at hg); simp only [S1, simprocAttr, V4, q6, f5, hg] at q9 ⊢)); first | exact q9 | (apply d4 E65; exact (M8 t _); exact q9)); refine q8 _ ?_; clear q8 K1)) | refine b6 fun K hK => ?_ | ((first | apply b8 | apply b5 | apply c9 | apply d3); try simp only [NB, simprocAttr]))
          all_goals simp only [S1, simprocAttr, ENB, V4]
          all_goals simp [bD, cV, hr.2.2]
        · have f8 : (kind == 8) = false := by simp [h8]
          refine c8 (rl := []) d7 Tryz.func42 rfl (rs := [.tmp 2]) rfl Tryz.ntmps42 (by simp) ?_
          repeat' (first | ((repeat ((fail_if_success (refine hK _ ?_)); clear hK K)); refine hK _ ?_; clear hK K) | ((first | refine b9 fun K1 q8 => ?_ | refine b7 fun A B hA hB => ?_); simp only [S1, simprocAttr, V4, q6, f1, f2, f3, f4, f5, f8]; first | refine q8 _ ?_; clear q8 K1 | (refine hB ?_; clear hA hB A B) | (refine l9 (v := ?_) (fun hg q9 => ?_) ?_; rotate_left; (focus (try ((try simp only [BN] at hg); simp only [S1, simprocAttr, V4, q6, f1, f2, f3, f4, f5, f8, hg] at q9 ⊢)); first | exact q9 | (apply d4 E65; exact (M8 t _); exact q9)); refine q8 _ ?_; clear q8 K1)) | refine b6 fun K hK => ?_ | ((first | apply b8 | apply b5 | apply c9 | apply d3); try simp only [NB, simprocAttr]))
          all_goals simp only [S1, simprocAttr, ENB, V4]
          all_goals simp [bD, cV, h3, h4, h8, hr.1, hr.2.1, hr.2.2]
  · have f1 : ((decide (kind < 1) || decide (8 < kind)) || decide (a < 0)) = true := by simp; omega
    have e : bD kind a t = false := by
      unfold bD
      split
      · rename_i h4
        have : decide (0 ≤ a) = false := by simp; omega
        simp [this]
      · by_cases h1 : 1 ≤ kind
        · by_cases h2 : kind ≤ 8
          · have : decide (0 ≤ a) = false := by simp; omega
            simp [this]
          · simp [h2]
        · simp [h1]
    rw [e]
    refine c8 (rl := []) d7 Tryz.func42 rfl (rs := [.tmp 2]) rfl Tryz.ntmps42 (by simp) ?_
    repeat' (first | ((repeat ((fail_if_success (refine hK _ ?_)); clear hK K)); refine hK _ ?_; clear hK K) | ((first | refine b9 fun K1 q8 => ?_ | refine b7 fun A B hA hB => ?_); simp only [S1, simprocAttr, V4, q6, f1]; first | refine q8 _ ?_; clear q8 K1 | (refine hA ?_; clear hA hB A B) | (refine l9 (v := ?_) (fun hg q9 => ?_) ?_; rotate_left; (focus (try ((try simp only [BN] at hg); simp only [S1, simprocAttr, V4, q6, f1, hg] at q9 ⊢)); exact q9); refine q8 _ ?_; clear q8 K1)) | refine b6 fun K hK => ?_ | ((first | apply b8 | apply b5 | apply d3); try simp only [NB, simprocAttr]))
    all_goals simp only [S1, simprocAttr, ENB, V4]
    all_goals trace_state
end
section
def Av (tok : Int → Int) (f x : Int) : Int → Int := fun i => if i = f then x else tok i
end
section
attribute [local irreducible] awp n9 k8 l8
variable {G : Nat → Option (List PV)}
def eI (n : Int) : List PV := [.int .i64 n]
abbrev aI (l : List Int) : AV := .p (.sl (l.map eI))
theorem I5 {l : List Int} {i : Nat} {k : Int} (h : l[i]? = some k) : (l.map eI)[i]? = some [.int .i64 k] := by simp [h, eI]
theorem R9 {l : List Int} {i : Nat} (h : i < l.length) : decide ((i : Int) < (l.length : Int)) = true := by simp; omega
theorem I6 {l : List Int} : decide ((l.length : Int) < (l.length : Int)) = false := by simp
theorem I0 {l : List Int} {i : Nat} (hk : l.length ≤ 200) (h : i < l.length) : IntKind.i64.wrap ((i : Int) + 1) = ((i + 1 : Nat) : Int) := by rw [IntWalk.i64_in _ (by omega)]; omega
end
section
attribute [local irreducible] awp n9 k8 l8 o5
variable {G : Nat → Option (List PV)}
structure Fl where
  src : Int
  dst : Int
  els : Bool
  cond : Tm
def eF (f : Fl) : List PV := [.int .i64 f.src, .int .i64 f.dst, .bool f.els, .int .i64 f.cond.op, .int .i64 f.cond.n, .sl (f.cond.kids.map eT)]
theorem T8 {l : List Fl} {i : Nat} {k : Fl} (h : l[i]? = some k) : (l.map eF)[i]? = some (eF k) := by simp [h]
theorem cM {l : List Fl} {i : Nat} (h : i < l.length) : decide ((i : Int) < (l.length : Int)) = true := by simp; omega
theorem rn {l : List Fl} : decide ((l.length : Int) < (l.length : Int)) = false := by simp
theorem S5 {l : List Fl} {i : Nat} (hk : l.length ≤ 100) (h : i < l.length) : IntKind.i64.wrap ((i : Int) + 1) = ((i + 1 : Nat) : Int) := by rw [IntWalk.i64_in _ (by omega)]; omega
def r7 (q : Fl → Bool) (l : List Fl) : Nat → List Int
  | 0 => []
  | j + 1 => match l[j]? with
    | some f => if q f then r7 q l j ++ [(j : Int)] else r7 q l j
    | none => r7 q l j
def o7 (l : List Fl) (i : Int) : List Int := r7 (fun f => f.dst == i) l l.length
def j3 (l : List Fl) (i : Int) : List Int := r7 (fun f => f.src == i) l l.length
theorem R3 (q : Fl → Bool) (l : List Fl) : ∀ j, (r7 q l j).length ≤ j
  | 0 => Nat.le_refl _
  | j + 1 => by
    unfold r7
    have := R3 q l j
    split
    · split
      · rw [List.length_append]; simp; omega
      · omega
    · omega
section
variable {P : Program} {rl : List String} {h : Heap}
theorem C0 {c : Code} {Q : Exit → St → Prop} {s : St} (N nt : Nat) (l : Nat → List (Nat × AV)) (L : Nat → List (Option Blk)) (p : Nat → Prop) (hi : o6 P G h s ⟨frL (l 0), nt, h ++ L 0⟩) (hp : p 0)
    (hb : ∀ i, i ≤ N → p i → ∀ K : St → Prop, (∀ s', (i < N ∧ p (i + 1) ∧ Sub h s' (l (i + 1)) (L (i + 1)) nt) → K s') → awp P G rl h c (N6 K Q) ⟨frL (l i), nt, h ++ L i⟩) : awp P G rl h (.loop c) Q s := by
  refine bQ (fun n s => ∃ i, i ≤ N ∧ p i ∧ n = N - i ∧ s = ⟨frL (l i), nt, h ++ L i⟩) N _ hi ⟨0, Nat.zero_le _, hp, rfl, rfl⟩ fun n s hI => ?_
  obtain ⟨i, h1, h2, rfl, rfl⟩ := hI
  exact hb i h1 h2 _ fun s' hs => ⟨N - (i + 1), _, by omega, hs.2.2.ghost, i + 1, by omega, hs.2.1, rfl, rfl⟩
end
end
section
attribute [local irreducible] awp n9 k8 l8
variable {G : Nat → Option (List PV)}
theorem nu {α : Type} : ∀ (cs c : List α) (k : Nat), k + cs.length = c.length → u5 c k cs = c.take k ++ cs
  | [], c, k, h => by simp only [u5, List.append_nil]; rw [List.take_of_length_le (by simp at h; omega)]
  | v :: r, c, k, h => by
    simp only [u5]
    rw [nu r (c.set k v) (k + 1) (by simp at h ⊢; omega)]
    simp only [List.length_cons] at h
    rw [List.take_add_one, List.getElem?_set_self (by omega), List.take_set_of_le (Nat.le_refl k)]
    simp
theorem lU {m : Nat} : ∀ l : List AV, (∀ x ∈ l, ∃ n, x = .i n) → o4 m l
  | [], _ => trivial
  | x :: r, h => by
    obtain ⟨n, rfl⟩ := h x (by simp)
    exact ⟨trivial, lU r fun y hy => h y (by simp [hy])⟩
theorem fV (h : Heap) (n fuel : Nat) : ∀ l : List Int, L6 h n fuel (l.map AV.i) = some (l.map (PV.int .i64))
  | [] => by unfold L6; rfl
  | x :: r => by
    simp only [List.map_cons]
    unfold L6 pur
    rw [fV h n fuel r]
end
end Go.Proofs.YtbbmfemplmelhaaGreatDoor.AM
