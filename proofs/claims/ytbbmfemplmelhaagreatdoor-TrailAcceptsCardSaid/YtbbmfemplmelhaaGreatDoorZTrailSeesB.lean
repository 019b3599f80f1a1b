/- Proved here, in parts, for one law: contracts of the functions that the laws call, and the plain facts behind them. Conditions: none. -/
import Derived.Test.YtbbmfemplmelhaaGreatDoorZTrailSeesA
import Derived.Test.YtbbmfemplmelhaaGreatDoorProg
import Derived.KernelRfl
import Derived.IntWalk
set_option linter.unusedVariables false
set_option linter.unusedSimpArgs false
set_option linter.defProp false
set_option maxRecDepth 4000
set_option maxHeartbeats 4000000
namespace Go.Proofs.YtbbmfemplmelhaaGreatDoor.AM
open Go Go.Proofs
section
section
variable {P : Program} {G : Nat → Option (List PV)} {rl : List String} {ops : Array Oper} {md : Region.Mode}
theorem R2 {ρ ρ' : Operand → Option AV} : ∀ {l : List Operand}, (∀ x ∈ l, ρ x = ρ' x) → K3 ρ l = K3 ρ' l
  | [], _ => rfl
  | x :: r, h => by simp only [K3]; rw [h x (by simp), R2 (l := r) (fun y hy => h y (by simp [hy]))]
theorem lF {o : Oper} {ρ ρ' : Operand → Option AV} {h : Heap} (hc : ∀ x ∈ o.op.operands, ρ x = ρ' x) : opA P rl o ρ h = opA P rl o ρ' h := by
  obtain ⟨dst, op, type, pos, after, guard⟩ := o
  simp only at hc
  cases op with
  | move x => simp only [opA]; rw [hc x (by simp [Op.operands])]
  | assign x => simp only [opA]; rw [hc x (by simp [Op.operands])]
  | pick c x y => simp only [opA]; rw [hc c (by simp [Op.operands]), hc x (by simp [Op.operands]), hc y (by simp [Op.operands])]
  | alloc t => rfl
  | box t x => simp only [opA]; rw [hc x (by simp [Op.operands])]
  | build t ps =>
    have : (ps.toList.map fun q => (q.1, ρ q.2)) = (ps.toList.map fun q => (q.1, ρ' q.2)) := List.map_congr_left fun q hq => by
      rw [hc q.2 (by simp only [Op.operands, List.mem_toArray, List.mem_map]; exact ⟨q, hq, rfl⟩)]
    simp only [opA, this]
  | buildSlice t n ps =>
    have : (ps.toList.map fun q => (q.1, ρ q.2)) = (ps.toList.map fun q => (q.1, ρ' q.2)) := List.map_congr_left fun q hq => by
      rw [hc q.2 (by simp only [Op.operands, List.mem_toArray, List.mem_map]; exact ⟨q, hq, rfl⟩)]
    simp only [opA, this]
  | makeSlice t l c => simp only [opA]; rw [hc l (by simp [Op.operands]), hc c (by simp [Op.operands])]
  | load t x => simp only [opA]; rw [hc x (by simp [Op.operands])]
  | store t x y => simp only [opA]; rw [hc x (by simp [Op.operands]), hc y (by simp [Op.operands])]
  | nilCheck x => simp only [opA]; rw [hc x (by simp [Op.operands])]
  | binOp b t x y yt => simp only [opA]; rw [hc x (by simp [Op.operands]), hc y (by simp [Op.operands])]
  | unOp u t x => simp only [opA]; rw [hc x (by simp [Op.operands])]
  | convert a b x => simp only [opA]; rw [hc x (by simp [Op.operands])]
  | makeFunc fn first captured =>
    have : K3 ρ captured.toList = K3 ρ' captured.toList := R2 fun x hx => hc x (by simp only [Op.operands, Array.mem_append]; exact .inr (by simpa using hx))
    cases fn <;> simp only [opA, this]
  | slice t x lo hi mx =>
    have h1 : ρ x = ρ' x := hc x (by simp [Op.operands])
    have h2 : lo.map ρ = lo.map ρ' := by cases lo with
      | none => rfl
      | some l => simp [hc l (by simp [Op.operands])]
    have h3 : hi.map ρ = hi.map ρ' := by cases hi with
      | none => rfl
      | some l => simp [hc l (by simp [Op.operands])]
    simp only [opA, h1, h2, h3]
  | fieldAddr t x f => simp only [opA]; rw [hc x (by simp [Op.operands])]
  | field t x f => simp only [opA]; rw [hc x (by simp [Op.operands])]
  | indexAddr t x y => simp only [opA]; rw [hc x (by simp [Op.operands]), hc y (by simp [Op.operands])]
  | index t x y => simp only [opA]; rw [hc x (by simp [Op.operands]), hc y (by simp [Op.operands])]
  | extract x i => simp only [opA]; rw [hc x (by simp [Op.operands])]
  | call c =>
    have : K3 ρ c.args.toList = K3 ρ' c.args.toList := R2 fun x hx => hc x (by simp only [Op.operands, Call.operands, Array.mem_append]; exact .inr (by simpa using hx))
    simp only [opA, this]
  | makeMap t r => cases r <;> rfl
  | lookup t x ix b => cases b with
    | true => rfl
    | false => simp only [opA]; rw [hc x (by simp [Op.operands]), hc ix (by simp [Op.operands])]
  | mapUpdate t x ix y => simp only [opA]; rw [hc x (by simp [Op.operands]), hc ix (by simp [Op.operands]), hc y (by simp [Op.operands])]
  | _ => rfl
def AQ (P : Program) (G : Nat → Option (List PV)) (rl : List String) (o : Oper) (s : St) (v : AV) : Prop :=
  match K8 o with
  | some (f, args) => ∃ g caps xs, A5 G s f = some (.fn g caps) ∧ K3 (A5 G s) args.toList = some xs ∧ g8 P g ∧ d5 P G g (xs ++ caps) s.heap fun r' h' => r' = v ∧ h' = s.heap
  | none => opA P rl o (A5 G s) s.heap = some (v, s.heap)
def E3 (P : Program) (G : Nat → Option (List PV)) (rl : List String) (ops : Array Oper) (o : Oper) (v : AV) (s : St) : Prop :=
  (V3 ops o s = some true ∧ AQ P G rl o s v) ∨ (V3 ops o s = some false ∧ v = .undef)
theorem jq {o : Oper} {K : St → Prop} {s : St} : fE P G rl o K s ↔ ∃ v, AQ P G rl o s v ∧ K (s.put o.dst v) := by
  unfold fE AQ
  cases hq : K8 o with
  | some q =>
    obtain ⟨f, args⟩ := q
    dsimp only
    split
    · rename_i g caps xs hf hx
      constructor
      · rintro ⟨he, r, hc, hk⟩
        exact ⟨r, ⟨g, caps, xs, hf, hx, he, hc⟩, hk⟩
      · rintro ⟨r, ⟨g', caps', xs', hf', hx', he, hc⟩, hk⟩
        rw [hf] at hf'; cases hf'
        rw [hx] at hx'; cases hx'
        exact ⟨he, r, hc, hk⟩
    · rename_i hn
      constructor
      · exact fun h => h.elim
      · rintro ⟨r, ⟨g', caps', xs', hf', hx', he, hc⟩, hk⟩
        exact (hn _ _ _ hf' hx').elim
  | none =>
    dsimp only
    cases hop : opA P rl o (A5 G s) s.heap with
    | none =>
      constructor
      · exact fun h => h.elim
      · rintro ⟨v, hv, hk⟩; cases hv
    | some q =>
      obtain ⟨r, h'⟩ := q
      constructor
      · rintro ⟨rfl, hk⟩; exact ⟨r, rfl, hk⟩
      · rintro ⟨v, hv, hk⟩
        simp only [Option.some.injEq, Prod.mk.injEq] at hv
        obtain ⟨rfl, rfl⟩ := hv
        exact ⟨rfl, hk⟩
theorem s9 {o : Oper} {K : St → Prop} {s : St} : cM P G rl ops o K s ↔ ∃ v, E3 P G rl ops o v s ∧ K (s.put o.dst v) := by
  unfold cM E3
  cases hw : V3 ops o s with
  | none =>
    constructor
    · exact fun h => h.elim
    · rintro ⟨v, ⟨h1, h2⟩ | ⟨h1, rfl⟩, h3⟩ <;> cases h1
  | some b =>
    dsimp only
    cases b with
    | true =>
      constructor
      · rintro ⟨h1, _⟩
        obtain ⟨v, h3, h4⟩ := jq.mp (h1 rfl)
        exact ⟨v, .inl ⟨rfl, h3⟩, h4⟩
      · rintro ⟨v, ⟨_, h2⟩ | ⟨h1, _⟩, h3⟩
        · exact ⟨fun _ => jq.mpr ⟨v, h2, h3⟩, fun e => (by cases e)⟩
        · cases h1
    | false =>
      constructor
      · rintro ⟨_, h2⟩
        exact ⟨.undef, .inr ⟨rfl, rfl⟩, h2 rfl⟩
      · rintro ⟨v, ⟨h1, _⟩ | ⟨_, rfl⟩, h3⟩
        · cases h1
        · exact ⟨fun e => (by cases e), fun _ => h3⟩
theorem lG {s : St} {d : Option Nat} {v : AV} {x : Operand} (h : ∀ t, d = some t → x ≠ .tmp t) : A5 G (s.put d v) x = A5 G s x := by
  cases x with
  | tmp t =>
    cases d with
    | none => rfl
    | some d =>
      have hne : t ≠ d := fun e => h d rfl (by rw [e])
      simp only [A5, St.put]
      split
      · simp [upd, hne]
      · rfl
  | _ => rfl
theorem zl {s : St} {d : Option Nat} {v : AV} {t : Nat} (h : ∀ e, d = some e → e ≠ t) : (s.put d v).fr t = s.fr t := by
  cases d with
  | none => rfl
  | some d =>
    have hne : t ≠ d := fun e => h d rfl e.symm
    simp only [St.put]
    split
    · simp [upd, hne]
    · rfl
theorem oZ {o : Oper} {x : Operand} {t : Nat} (hx : x ∈ o.op.operands) (ht : x = .tmp t) : t ∈ o.looksAt ops := by
  subst ht
  simp only [Oper.looksAt, List.mem_append, List.mem_filterMap]
  exact .inl ⟨.tmp t, by simpa using hx, rfl⟩
theorem zm {o : Oper} {s : St} {d : Option Nat} {u v : AV} (hd : ∀ t, d = some t → t ∉ o.looksAt ops) : AQ P G rl o (s.put d u) v ↔ AQ P G rl o s v := by
  have hev : ∀ x ∈ o.op.operands, A5 G (s.put d u) x = A5 G s x := fun x hx => lG fun t ht e => hd t ht (oZ hx e)
  unfold AQ
  cases hq : K8 o with
  | some q =>
    obtain ⟨f, args⟩ := q
    obtain ⟨ats, ho⟩ := bH hq
    rw [ho] at hev
    have h1 : A5 G (s.put d u) f = A5 G s f := hev f (by simp [Op.operands, Call.operands])
    have h2 : K3 (A5 G (s.put d u)) args.toList = K3 (A5 G s) args.toList := R2 fun x hx => hev x (by simp only [Op.operands, Call.operands, Array.mem_append]; exact .inr (by simpa using hx))
    dsimp only
    rw [h1, h2, St.put_heap]
  | none =>
    dsimp only
    rw [lF hev, St.put_heap]
theorem lH {o : Oper} {s : St} {d : Option Nat} {u : AV} (hd : ∀ t, d = some t → t ∉ o.looksAt ops) : V3 ops o (s.put d u) = V3 ops o s := by
  unfold V3
  cases hg : o.guard with
  | none => rfl
  | some q =>
    obtain ⟨j, want⟩ := q
    have : aq ops (s.put d u) j = aq ops s j := by
      unfold aq
      cases hq : (ops[j]?).bind (·.dst) with
      | none => rfl
      | some t =>
        simp only [Option.bind_some]
        refine zl fun e he heq => hd e he ?_
        simp [Oper.looksAt, hg, hq, heq]
    simp only [this]
theorem F7 {o : Oper} {s : St} {d : Option Nat} {u v : AV} (hd : ∀ t, d = some t → t ∉ o.looksAt ops) : E3 P G rl ops o v (s.put d u) ↔ E3 P G rl ops o v s := by
  unfold E3
  rw [lH hd, zm hd]
theorem St.put_comm (s : St) {x y : Option Nat} (v u : AV) (h : ∀ d, x = some d → y ≠ some d) : (s.put x v).put y u = (s.put y u).put x v := by
  cases x with
  | none => rfl
  | some d =>
    cases y with
    | none => rfl
    | some e =>
      have hne : d ≠ e := fun he => h d rfl (he ▸ rfl)
      simp only [St.put]
      by_cases h1 : d < s.nt <;> by_cases h2 : e < s.nt <;> simp only [h1, h2, if_true, if_false]
      congr 1
      funext k
      simp only [upd]
      by_cases k1 : k = d <;> by_cases k2 : k = e <;> simp_all
def ld (P : Program) (G : Nat → Option (List PV)) (rl : List String) (ops : Array Oper) (i : Nat) (K : St → Prop) (s : St) : Prop :=
  match ops[i]? with
  | none => K s
  | some o => cM P G rl ops o K s
theorem tS {i : Nat} {s : St} {K K' : St → Prop} (h : ∀ s, K s → K' s) (hh : ld P G rl ops i K s) : ld P G rl ops i K' s := by
  unfold ld at *
  split
  · exact h _ (by simpa [*] using hh)
  · rename_i o ho
    simp only [ho] at hh
    obtain ⟨v, h1, h2⟩ := s9.mp hh
    exact s9.mpr ⟨v, h1, h _ h2⟩
def lI (P : Program) (G : Nat → Option (List PV)) (rl : List String) (md : Region.Mode) (ops : Array Oper) (Q : St → Prop) : Nat → Array Bool → St → Prop
  | 0, listed, s => Region.ready md ops listed = [] ∧ Q s
  | fuel + 1, listed, s =>
    (Region.ready md ops listed = [] → Q s) ∧
    ∀ i ∈ Region.ready md ops listed, ld P G rl ops i (lI P G rl md ops Q fuel (listed.setIfInBounds i true)) s
theorem vA {j : Nat} {oi oj : Oper} {v : AV} (hj : ops[j]? = some oj) (hap : oi.apart ops oj = true) {K : St → Prop} {s : St}
    (hy : E3 P G rl ops oi v s) (h : ld P G rl ops j K (s.put oi.dst v)) :
    ld P G rl ops j (fun s' => E3 P G rl ops oi v s' ∧ K (s'.put oi.dst v)) s := by
  obtain ⟨h1, h2, h3⟩ := Oper.apart_spec hap
  unfold ld at *
  simp only [hj] at *
  obtain ⟨u, hu, hk⟩ := s9.mp h
  refine s9.mpr ⟨u, (F7 h1).mp hu, (F7 h3).mpr hy, ?_⟩
  rw [← St.put_comm s v u h2]
  exact hk
theorem pb {Q : St → Prop} {i : Nat} {oi : Oper} {v : AV} (hi : ops[i]? = some oi) :
    ∀ (fuel : Nat) (listed : Array Bool) (s : St),
      (∀ j oj, ops[j]? = some oj → j ≠ i → listed.getD j true = false → (∀ e ∈ oj.after, Region.binds md e = true → e.on ≠ i) → oi.apart ops oj = true) →
      i ∈ Region.ready md ops listed → E3 P G rl ops oi v s →
      lI P G rl md ops Q fuel (listed.setIfInBounds i true) (s.put oi.dst v) → lI P G rl md ops Q (fuel + 1) listed s := by
  have step : ∀ {K : St → Prop} {s : St}, E3 P G rl ops oi v s → K (s.put oi.dst v) → ld P G rl ops i K s := by
    intro K s hy hk
    unfold ld
    simp only [hi]
    exact s9.mpr ⟨v, hy, hk⟩
  intro fuel
  induction fuel with
  | zero =>
    intro listed s _ hr hy H
    refine ⟨fun h => (by rw [h] at hr; cases hr), fun j hj => ?_⟩
    by_cases hji : j = i
    · subst hji; exact step hy H
    · have := ready_mono hj hji
      rw [H.1] at this
      cases this
  | succ fuel ih =>
    intro listed s hfree hr hy H
    refine ⟨fun h => (by rw [h] at hr; cases hr), fun j hj => ?_⟩
    by_cases hji : j = i
    · subst hji; exact step hy H
    · have h1 := H.2 j (ready_mono hj hji)
      obtain ⟨hjun, oj, hoj, hall⟩ := mem_ready.1 hj
      have hnot : ∀ e ∈ oj.after, Region.binds md e = true → e.on ≠ i := fun e he hb heq => by
        have h1 := hall e he hb
        have h0 := (mem_ready.1 hr).1
        rw [heq] at h1
        rcases Nat.lt_or_ge i listed.size with h' | h'
        · simp [h'] at h0 h1; rw [h0] at h1; cases h1
        · simp [Array.getElem?_eq_none h'] at h1
      have h2 := vA hoj (hfree j oj hoj hji hjun hnot) hy h1
      have hfree' : ∀ k ok, ops[k]? = some ok → k ≠ i → (listed.setIfInBounds j true).getD k true = false →
          (∀ e ∈ ok.after, Region.binds md e = true → e.on ≠ i) → oi.apart ops ok = true := fun k ok hk hki hun hno => by
        refine hfree k ok hk hki ?_ hno
        by_cases hjk : j = k
        · subst hjk; exact hjun
        · rw [getD_set_ne true hjk] at hun; exact hun
      refine tS (fun s' h3 => ih (listed.setIfInBounds j true) s' hfree' (ready_mono hr (Ne.symm hji)) h3.1 ?_) h2
      rw [Array.setIfInBounds_comm _ _ hji]
      exact h3.2
theorem lJ {Q : St → Prop} : ∀ (l : List Oper) (k : Nat) (listed : Array Bool) (s : St), (∀ j, l[j]? = ops[k + j]?) →
    Region.lexFrom md ops l.length k listed = true → k3 P G rl ops Q l s → lI P G rl md ops Q l.length listed s
  | [], _, _, _, _, hB, h => ⟨by simpa [Region.lexFrom] using hB, h⟩
  | o :: l, k, listed, s, hl, hB, h => by
    have h0 : ops[k]? = some o := by simpa using (hl 0).symm
    simp only [List.length_cons, Region.lexFrom, Bool.and_eq_true] at hB
    obtain ⟨⟨hr, hf⟩, hB'⟩ := hB
    obtain ⟨v, hy, hK⟩ := s9.mp h
    exact pb h0 l.length listed s (Region.free_spec h0 hf) (by simpa using hr) hy
      (lJ l (k + 1) _ _ (fun j => by have := hl (j + 1); simpa [Nat.add_assoc, Nat.add_comm 1 j] using this) hB' hK)
def ab (o : Oper) : Bool := match o.op with | .alloc _ | .box _ _ | .store _ _ _ | .makeMap _ _ | .mapUpdate _ _ _ _ => true | .call ⟨.value _, _, _⟩ => o.type == 0 | .call ⟨.builtin .append, _, _⟩ => true | _ => false
def r6 (o : Oper) : Bool := (match o.op with | .alloc _ => true | _ => false) && o.guard.isNone
def St.ext (s : St) (L : Heap) : St := ⟨s.fr, s.nt, s.heap ++ L⟩
theorem sR (s : St) (d : Option Nat) (v : AV) (L : Heap) : (s.put d v).ext L = (s.ext L).put d v := by
  cases d with
  | none => rfl
  | some d => by_cases h : d < s.nt <;> simp [St.put, St.ext, h]
theorem xI (s : St) (L M : Heap) : (s.ext L).ext M = s.ext (L ++ M) := by simp only [St.ext, List.append_assoc]
theorem xJ (s : St) : s.ext [] = s := by simp only [St.ext, List.append_nil]
def fL (P : Program) (G : Nat → Option (List PV)) (rl : List String) (ops : Array Oper) (o : Oper) (v : AV) (s : St) : Prop := ∀ L, E3 P G rl ops o v (s.ext L)
theorem fL.put {o : Oper} {s : St} {d : Option Nat} {u v : AV} (h : fL P G rl ops o v s) (hd : ∀ t, d = some t → t ∉ o.looksAt ops) : fL P G rl ops o v (s.put d u) := fun L => by
  rw [sR]; exact (F7 hd).mpr (h L)
theorem fL.ext {o : Oper} {s : St} {v : AV} (h : fL P G rl ops o v s) (M : Heap) : fL P G rl ops o v (s.ext M) := fun L => by
  rw [xI]; exact h _
theorem fL.now {o : Oper} {s : St} {v : AV} (h : fL P G rl ops o v s) : E3 P G rl ops o v s := by
  have := h []; rwa [xJ] at this
def nf (P : Program) (G : Nat → Option (List PV)) (rl : List String) (ops : Array Oper) (o : Oper) (K : St → Prop) (s : St) : Prop := if ab o = true then aop P G rl ops o K s else cM P G rl ops o K s
def jr (P : Program) (G : Nat → Option (List PV)) (rl : List String) (ops : Array Oper) (i : Nat) (K : St → Prop) (s : St) : Prop :=
  match ops[i]? with
  | none => K s
  | some o => nf P G rl ops o K s
theorem gQ {K K' : St → Prop} {o : Oper} {s : St} (hk : ∀ s, K s → K' s) (h : X2 P G rl o K s) : X2 P G rl o K' s := by
  unfold X2 at *
  cases hc : K8 o with
  | some q =>
    obtain ⟨f, args⟩ := q
    simp only [hc] at h ⊢
    split at h
    · exact ⟨h.1, fun ι w vs hS hv => (h.2 ι w vs hS hv).mono fun e w' ⟨v, r, h', ι', e1, e2, e3⟩ => ⟨v, r, h', ι', e1, hk _ e2, e3⟩⟩
    · exact h
  | none =>
    simp only [hc] at h ⊢
    split at h
    · exact hk _ h
    · exact h
theorem fM {o : Oper} {K K' : St → Prop} {s : St} (h : ∀ s, K s → K' s) (hh : aop P G rl ops o K s) : aop P G rl ops o K' s := by
  unfold aop at *
  split at hh
  · exact ⟨fun e => gQ h (hh.1 e), fun e => h _ (hh.2 e)⟩
  · exact hh.elim
theorem fN {o : Oper} (he : ab o = true) {K K' : St → Prop} {s : St} (h : ∀ s, K s → K' s) (hh : aop P G rl ops o K s) : aop P G rl ops o K' s := by
  unfold aop at *
  split at hh
  · exact ⟨fun e => gQ h (hh.1 e), fun e => h _ (hh.2 e)⟩
  · exact hh.elim
theorem tT {o : Oper} {K K' : St → Prop} {s : St} (h : ∀ s, K s → K' s) (hh : nf P G rl ops o K s) : nf P G rl ops o K' s := by
  unfold nf at *
  split
  · rename_i he; rw [if_pos he] at hh; exact fN he h hh
  · rename_i he
    rw [if_neg he] at hh
    obtain ⟨v, h1, h2⟩ := s9.mp hh
    exact s9.mpr ⟨v, h1, h _ h2⟩
theorem tU {i : Nat} {s : St} {K K' : St → Prop} (h : ∀ s, K s → K' s) (hh : jr P G rl ops i K s) : jr P G rl ops i K' s := by
  unfold jr at *
  split
  · exact h _ (by simpa [*] using hh)
  · rename_i o ho
    simp only [ho] at hh
    exact tT h hh
def lK (P : Program) (G : Nat → Option (List PV)) (rl : List String) (md : Region.Mode) (ops : Array Oper) (Q : St → Prop) : Nat → Array Bool → St → Prop
  | 0, listed, s => Region.ready md ops listed = [] ∧ Q s
  | fuel + 1, listed, s =>
    (Region.ready md ops listed = [] → Q s) ∧
    ∀ i ∈ Region.ready md ops listed, jr P G rl ops i (lK P G rl md ops Q fuel (listed.setIfInBounds i true)) s
theorem lL {o : Oper} (ha : r6 o = true) {K : St → Prop} {s : St} : aop P G rl ops o K s ↔ ∃ z, (∀ ρ, opA P rl o ρ s.heap = some (.ptr s.heap.length 0 0, s.heap ++ [z])) ∧ K ((s.ext [z]).put o.dst (.ptr s.heap.length 0 0)) := by
  obtain ⟨dst, op, type, pos, after, guard⟩ := o
  simp only [r6, Bool.and_eq_true, Option.isNone_iff_eq_none] at ha
  obtain ⟨h1, rfl⟩ := ha
  cases op with
  | alloc t =>
    unfold aop V3
    dsimp only
    unfold X2 K8
    dsimp only
    simp only [opA]
    constructor
    · rintro ⟨h, _⟩
      have h := h trivial
      split at h
      · rename_i r h' e
        split at e
        · rename_i z et
          split at e
          · cases e
          · rename_i hz
            cases e
            exact ⟨_, fun _ => by rw [if_neg hz], h⟩
        · cases e
      · exact h.elim
    · rintro ⟨z, hz, hk⟩
      refine ⟨fun _ => ?_, fun e => by cases e⟩
      rw [hz (A5 G s)]
      exact hk
  | _ => simp at h1
theorem vB {j : Nat} {oi oj : Oper} {v : AV} (hj : ops[j]? = some oj) (hap : oi.apart ops oj = true) (hq : ab oj = true → r6 oj = true) {K : St → Prop} {s : St}
    (hy : fL P G rl ops oi v s) (h : jr P G rl ops j K (s.put oi.dst v)) :
    jr P G rl ops j (fun s' => fL P G rl ops oi v s' ∧ K (s'.put oi.dst v)) s := by
  obtain ⟨h1, h2, h3⟩ := Oper.apart_spec hap
  unfold jr at *
  simp only [hj] at *
  unfold nf at *
  split
  · rename_i he
    rw [if_pos he] at h
    obtain ⟨z, hz, hk⟩ := (lL (hq he)).mp h
    rw [St.put_heap] at hz hk
    refine (lL (hq he)).mpr ⟨z, hz, (hy.ext [z]).put h3, ?_⟩
    rw [sR, ← St.put_comm _ _ _ h2] at *
    exact hk
  · rename_i he
    rw [if_neg he] at h
    obtain ⟨u, hu, hk⟩ := s9.mp h
    refine s9.mpr ⟨u, (F7 h1).mp hu, hy.put h3, ?_⟩
    rw [← St.put_comm s v u h2]
    exact hk
theorem pc {Q : St → Prop} {i : Nat} {oi : Oper} {v : AV} (hi : ops[i]? = some oi) (hq : ab oi = false) :
    ∀ (fuel : Nat) (listed : Array Bool) (s : St),
      (∀ j oj, ops[j]? = some oj → j ≠ i → listed.getD j true = false → (∀ e ∈ oj.after, Region.binds md e = true → e.on ≠ i) → oi.apart ops oj = true ∧ (ab oj = true → r6 oj = true)) →
      i ∈ Region.ready md ops listed → fL P G rl ops oi v s →
      lK P G rl md ops Q fuel (listed.setIfInBounds i true) (s.put oi.dst v) → lK P G rl md ops Q (fuel + 1) listed s := by
  have step : ∀ {K : St → Prop} {s : St}, fL P G rl ops oi v s → K (s.put oi.dst v) → jr P G rl ops i K s := by
    intro K s hy hk
    unfold jr
    simp only [hi]
    unfold nf
    rw [if_neg (by rw [hq]; decide)]
    exact s9.mpr ⟨v, hy.now, hk⟩
  intro fuel
  induction fuel with
  | zero =>
    intro listed s _ hr hy H
    refine ⟨fun h => (by rw [h] at hr; cases hr), fun j hj => ?_⟩
    by_cases hji : j = i
    · subst hji; exact step hy H
    · have := ready_mono hj hji
      rw [H.1] at this
      cases this
  | succ fuel ih =>
    intro listed s hfree hr hy H
    refine ⟨fun h => (by rw [h] at hr; cases hr), fun j hj => ?_⟩
    by_cases hji : j = i
    · subst hji; exact step hy H
    · have h1 := H.2 j (ready_mono hj hji)
      obtain ⟨hjun, oj, hoj, hall⟩ := mem_ready.1 hj
      have hnot : ∀ e ∈ oj.after, Region.binds md e = true → e.on ≠ i := fun e he hb heq => by
        have h1 := hall e he hb
        have h0 := (mem_ready.1 hr).1
        rw [heq] at h1
        rcases Nat.lt_or_ge i listed.size with h' | h'
        · simp [h'] at h0 h1; rw [h0] at h1; cases h1
        · simp [Array.getElem?_eq_none h'] at h1
      obtain ⟨g1, g2⟩ := hfree j oj hoj hji hjun hnot
      have h2 := vB hoj g1 g2 hy h1
      have hfree' : ∀ k ok, ops[k]? = some ok → k ≠ i → (listed.setIfInBounds j true).getD k true = false →
          (∀ e ∈ ok.after, Region.binds md e = true → e.on ≠ i) → oi.apart ops ok = true ∧ (ab ok = true → r6 ok = true) := fun k ok hk hki hun hno => by
        refine hfree k ok hk hki ?_ hno
        by_cases hjk : j = k
        · subst hjk; exact hjun
        · rw [getD_set_ne true hjk] at hun; exact hun
      refine tU (fun s' h3 => ih (listed.setIfInBounds j true) s' hfree' (ready_mono hr (Ne.symm hji)) h3.1 ?_) h2
      rw [Array.setIfInBounds_comm _ _ hji]
      exact h3.2
def vC (md : Region.Mode) (ops : Array Oper) (listed : Array Bool) (i : Nat) : Bool :=
  (List.range ops.size).all fun j => j == i || listed.getD j true || match ops[j]? with
    | some oj => oj.after.any (fun e => Region.binds md e && e.on == i) || (!ab oj || r6 oj)
    | none => true
theorem qW {i : Nat} {listed : Array Bool} (h : vC md ops listed i = true) (j : Nat) (oj : Oper)
    (hj : ops[j]? = some oj) (hne : j ≠ i) (hun : listed.getD j true = false) (hno : ∀ e ∈ oj.after, Region.binds md e = true → e.on ≠ i) : ab oj = true → r6 oj = true := by
  simp only [vC, List.all_eq_true, List.mem_range] at h
  have h1 := h j (Array.getElem?_eq_some_iff.1 hj).1
  simp only [hj, Bool.or_eq_true, beq_iff_eq, hne, false_or, hun, Bool.false_eq_true] at h1
  rcases h1 with h1 | h1
  · obtain ⟨e, he, hb⟩ := Array.any_eq_true'.1 h1
    simp only [Bool.and_eq_true, beq_iff_eq] at hb
    exact absurd hb.2 (hno e he hb.1)
  · intro he
    rw [he] at h1
    simpa using h1
def l8 (P : Program) (G : Nat → Option (List PV)) (rl : List String) (ops : Array Oper) (Q : St → Prop) : List Oper → St → Prop
  | [], s => Q s
  | o :: rest, s => if ab o = true then aop P G rl ops o (l8 P G rl ops Q rest) s else ∃ v, fL P G rl ops o v s ∧ l8 P G rl ops Q rest (s.put o.dst v)
def qX (md : Region.Mode) (ops : Array Oper) : Nat → Nat → Array Bool → Bool
  | 0, _, listed => (Region.ready md ops listed).isEmpty
  | n + 1, k, listed =>
    (match ops[k]? with
      | none => false
      | some o => if ab o then Region.ready md ops listed == [k] else (Region.ready md ops listed).contains k && (Region.free md ops listed k && vC md ops listed k)) && qX md ops n (k + 1) (listed.setIfInBounds k true)
theorem fO {Q : St → Prop} : ∀ (l : List Oper) (k : Nat) (listed : Array Bool) (s : St), (∀ j, l[j]? = ops[k + j]?) →
    qX md ops l.length k listed = true → l8 P G rl ops Q l s → lK P G rl md ops Q l.length listed s
  | [], _, _, _, _, hB, h => ⟨by simpa [qX] using hB, h⟩
  | o :: l, k, listed, s, hl, hB, h => by
    have h0 : ops[k]? = some o := by simpa using (hl 0).symm
    have hl' : ∀ j, l[j]? = ops[k + 1 + j]? := fun j => by have := hl (j + 1); simpa [Nat.add_assoc, Nat.add_comm 1 j] using this
    simp only [List.length_cons, qX, h0, Bool.and_eq_true] at hB
    obtain ⟨hr, hB'⟩ := hB
    unfold l8 at h
    split at h
    · rename_i he
      rw [if_pos he] at hr
      have hr := beq_iff_eq.mp hr
      refine ⟨fun e => (by rw [hr] at e; cases e), fun i hi => ?_⟩
      rw [hr] at hi
      have : i = k := by simpa using hi
      subst this
      unfold jr
      simp only [h0]
      unfold nf
      rw [if_pos he]
      exact fN he (fun s' hs' => fO l (i + 1) _ s' hl' hB' hs') h
    · rename_i he
      rw [if_neg he] at hr
      simp only [Bool.and_eq_true] at hr
      obtain ⟨hr, hf, hg⟩ := hr
      obtain ⟨v, hy, hK⟩ := h
      exact pc h0 (by simpa using he) l.length listed s (fun j oj a1 a2 a3 a4 => ⟨Region.free_spec h0 hf j oj a1 a2 a3 a4, qW hg j oj a1 a2 a3 a4⟩) (by simpa using hr) hy
        (fO l (k + 1) _ _ hl' hB' hK)
def A6 (ops : Array Oper) (k : Nat) : Nat := ((ops.toList.take k).filter r6).length
def St.setB (s : St) (b : Nat) (z : List PV) : St := ⟨s.fr, s.nt, s.heap.set b (some ⟨1, z.map .p⟩)⟩
def T0 (P : Program) (o : Oper) : Option (List PV) :=
  match o.op with
  | .alloc t => (match j9 P t with
    | some ⟨_, _, _, some z⟩ => if z = [] then none else some z
    | _ => none)
  | _ => none
def qY (P : Program) (o : Oper) (b : Nat) (K : St → Prop) (s : St) : Prop :=
  ∃ z, T0 P o = some z ∧ s.heap[b]? = some (some ⟨0, []⟩) ∧ K ((s.setB b z).put o.dst (.ptr b 1 0))
def ad (es : List Nat) (i : Nat) (o : Oper) : Bool := ab o || es.contains i
def iK (P : Program) (G : Nat → Option (List PV)) (rl : List String) (es : List Nat) (ops : Array Oper) (base i : Nat) (o : Oper) (K : St → Prop) (s : St) : Prop :=
  if r6 o = true then qY P o (base + A6 ops i) K s else if ad es i o = true then aop P G rl ops o K s else cM P G rl ops o K s
def Z2 (P : Program) (G : Nat → Option (List PV)) (rl : List String) (es : List Nat) (ops : Array Oper) (base i : Nat) (K : St → Prop) (s : St) : Prop :=
  match ops[i]? with
  | none => K s
  | some o => iK P G rl es ops base i o K s
section
variable {base r : Nat} {es : List Nat}
theorem tV {i : Nat} {o : Oper} {K K' : St → Prop} {s : St} (h : ∀ s, K s → K' s) (hh : iK P G rl es ops base i o K s) : iK P G rl es ops base i o K' s := by
  unfold iK at *
  split
  · rename_i ha; rw [if_pos ha] at hh; obtain ⟨z, h1, h2, h3⟩ := hh; exact ⟨z, h1, h2, h _ h3⟩
  · rename_i ha
    rw [if_neg ha] at hh
    split
    · rename_i he; rw [if_pos he] at hh; exact fM h hh
    · rename_i he
      rw [if_neg he] at hh
      obtain ⟨v, h1, h2⟩ := s9.mp hh
      exact s9.mpr ⟨v, h1, h _ h2⟩
theorem tW {i : Nat} {s : St} {K K' : St → Prop} (h : ∀ s, K s → K' s) (hh : Z2 P G rl es ops base i K s) : Z2 P G rl es ops base i K' s := by
  unfold Z2 at *
  split
  · exact h _ (by simpa [*] using hh)
  · rename_i o ho
    simp only [ho] at hh
    exact tV h hh
def ae (P : Program) (G : Nat → Option (List PV)) (rl : List String) (es : List Nat) (md : Region.Mode) (ops : Array Oper) (base : Nat) (Q : St → Prop) : Nat → Array Bool → St → Prop
  | 0, listed, s => Region.ready md ops listed = [] ∧ Q s
  | fuel + 1, listed, s =>
    (Region.ready md ops listed = [] → Q s) ∧
    ∀ i ∈ Region.ready md ops listed, Z2 P G rl es ops base i (ae P G rl es md ops base Q fuel (listed.setIfInBounds i true)) s
theorem bI {Q : St → Prop} {i : Nat} (En : St → Prop) (T : St → St) (C : Nat → Oper → Prop) (D : Nat → Bool) (hstep : ∀ (s : St) (K : St → Prop), En s → K (T s) → Z2 P G rl es ops base i K s)
    (hcomm : ∀ j oj, ops[j]? = some oj → C j oj → ∀ (s : St) (K : St → Prop), En s → Z2 P G rl es ops base j K (T s) → Z2 P G rl es ops base j (fun s' => En s' ∧ K (T s')) s)
    (hD : ∀ j oj, ops[j]? = some oj → D j = true → ∃ e ∈ oj.after, Region.binds md e = true ∧ (e.on = i ∨ D e.on = true)) :
    ∀ (fuel : Nat) (listed : Array Bool) (s : St),
      (∀ j oj, ops[j]? = some oj → j ≠ i → listed.getD j true = false → D j = false → C j oj) → (∀ d, D d = true → listed.getD d false = false) →
      i ∈ Region.ready md ops listed → En s →
      ae P G rl es md ops base Q fuel (listed.setIfInBounds i true) (T s) → ae P G rl es md ops base Q (fuel + 1) listed s := by
  intro fuel
  induction fuel with
  | zero =>
    intro listed s _ _ hr hy H
    refine ⟨fun h => (by rw [h] at hr; cases hr), fun j hj => ?_⟩
    by_cases hji : j = i
    · subst hji; exact hstep _ _ hy H
    · have := ready_mono hj hji
      rw [H.1] at this
      cases this
  | succ fuel ih =>
    intro listed s hfree hinv hr hy H
    refine ⟨fun h => (by rw [h] at hr; cases hr), fun j hj => ?_⟩
    by_cases hji : j = i
    · subst hji; exact hstep _ _ hy H
    · have h1 := H.2 j (ready_mono hj hji)
      obtain ⟨hjun, oj, hoj, hall⟩ := mem_ready.1 hj
      have hDj : D j = false := by
        cases hd : D j with
        | false => rfl
        | true =>
          exfalso
          obtain ⟨e, he, hb, hor⟩ := hD j oj hoj hd
          have h1 := hall e he hb
          rcases hor with heq | heq
          · have h0 := (mem_ready.1 hr).1
            rw [heq] at h1
            rcases Nat.lt_or_ge i listed.size with h' | h'
            · simp [h'] at h0 h1; rw [h0] at h1; cases h1
            · simp [Array.getElem?_eq_none h'] at h1
          · rw [hinv _ heq] at h1; cases h1
      have h2 := hcomm j oj hoj (hfree j oj hoj hji hjun hDj) s _ hy h1
      have hfree' : ∀ k ok, ops[k]? = some ok → k ≠ i → (listed.setIfInBounds j true).getD k true = false → D k = false → C k ok := fun k ok hk hki hun hno => by
        refine hfree k ok hk hki ?_ hno
        by_cases hjk : j = k
        · subst hjk; exact hjun
        · rw [getD_set_ne true hjk] at hun; exact hun
      have hinv' : ∀ d, D d = true → (listed.setIfInBounds j true).getD d false = false := fun d hd => by
        have hjd : j ≠ d := fun e => by subst e; rw [hDj] at hd; cases hd
        rw [getD_set_ne false hjd]; exact hinv d hd
      refine tW (fun s' h3 => ih (listed.setIfInBounds j true) s' hfree' hinv' (ready_mono hr (Ne.symm hji)) h3.1 ?_) h2
      rw [Array.setIfInBounds_comm _ _ hji]
      exact h3.2
theorem ed (s : St) (d : Option Nat) (v : AV) (b : Nat) (z : List PV) : (s.put d v).setB b z = (s.setB b z).put d v := by
  cases d with
  | none => rfl
  | some d => by_cases h : d < s.nt <;> simp [St.put, St.setB, h]
theorem tX (s : St) (b c : Nat) (z y : List PV) (h : b ≠ c) : (s.setB b z).setB c y = (s.setB c y).setB b z := by
  simp only [St.setB, List.set_comm _ _ h]
def zsB (P : Program) (ops : Array Oper) : List (List PV) := (ops.toList.filter r6).map fun o => (T0 P o).getD []
def vD (P : Program) (ops : Array Oper) (r : Nat) (R : Heap) : Prop :=
  R.length = r ∧ ∀ (j : Nat) (z : List PV), (zsB P ops)[j]? = some z → R[j]? = some (some ⟨0, []⟩) ∨ R[j]? = some (some ⟨1, z.map .p⟩)
def bu (P : Program) (ops : Array Oper) (base r : Nat) (s : St) : Prop := s.heap.length = base + r ∧ vD P ops r (s.heap.drop base)
def bJ (P : Program) (G : Nat → Option (List PV)) (rl : List String) (ops : Array Oper) (base r : Nat) (o : Oper) (v : AV) (s : St) : Prop :=
  ∀ R : Heap, vD P ops r R → E3 P G rl ops o v ⟨s.fr, s.nt, s.heap.take base ++ R⟩
def af (P : Program) (G : Nat → Option (List PV)) (rl : List String) (ops : Array Oper) (o : Oper) (v : AV) (s : St) : Prop := ∀ H : Heap, E3 P G rl ops o v ⟨s.fr, s.nt, H⟩
theorem ng (s : St) (d : Option Nat) (u : AV) (X : Heap) : (⟨(s.put d u).fr, (s.put d u).nt, X⟩ : St) = (⟨s.fr, s.nt, X⟩ : St).put d u := by
  cases d with
  | none => rfl
  | some d => by_cases h : d < s.nt <;> simp [St.put, h]
theorem pd {α : Type} (q : α → Bool) : ∀ (l : List α) (k : Nat) (o : α), l[k]? = some o → q o = true → (l.filter q)[((l.take k).filter q).length]? = some o := by
  intro l k o hk hq
  have hlt : k < l.length := j4 hk
  have e : l = l.take k ++ (o :: l.drop (k + 1)) := by
    have := List.drop_eq_getElem_cons hlt
    have ho : l[k] = o := by rw [List.getElem?_eq_getElem hlt] at hk; simpa using hk
    rw [← ho, ← this, List.take_append_drop]
  conv => lhs; arg 1; rw [e, List.filter_append]
  rw [List.getElem?_append_right (Nat.le_refl _), Nat.sub_self, List.filter_cons_of_pos hq]
  rfl
theorem xK {k : Nat} {o : Oper} {z : List PV} (ho : ops[k]? = some o) (ha : r6 o = true) (hz : T0 P o = some z) : (zsB P ops)[A6 ops k]? = some z := by
  have ho' : ops.toList[k]? = some o := by rw [Array.getElem?_toList]; exact ho
  have := pd r6 ops.toList k o ho' ha
  unfold zsB A6
  rw [List.getElem?_map, this]
  simp [hz]
theorem vD.fill {R : Heap} (h : vD P ops r R) {k : Nat} {o : Oper} {z : List PV} (ho : ops[k]? = some o) (ha : r6 o = true) (hz : T0 P o = some z) (hlt : A6 ops k < R.length) : vD P ops r (R.set (A6 ops k) (some ⟨1, z.map .p⟩)) := by
  refine ⟨by rw [List.length_set]; exact h.1, fun j y hy => ?_⟩
  by_cases e : A6 ops k = j
  · subst e
    rw [xK ho ha hz] at hy
    cases hy
    exact .inr (by rw [List.getElem?_set_self hlt])
  · rw [List.getElem?_set_ne e]; exact h.2 j y hy
theorem bu.put {s : St} {d : Option Nat} {u : AV} (h : bu P ops base r s) : bu P ops base r (s.put d u) := by
  unfold bu; rw [St.put_heap]; exact h
theorem bu.fill {s : St} (h : bu P ops base r s) {k : Nat} {o : Oper} {z : List PV} (ho : ops[k]? = some o) (ha : r6 o = true) (hz : T0 P o = some z) (hb : s.heap[base + A6 ops k]? = some (some ⟨0, []⟩)) : bu P ops base r (s.setB (base + A6 ops k) z) := by
  have hlt : base + A6 ops k < s.heap.length := j4 hb
  refine ⟨by simp only [St.setB, List.length_set]; exact h.1, ?_⟩
  simp only [St.setB]
  rw [List.drop_set, if_neg (by omega), Nat.add_sub_cancel_left]
  exact h.2.fill ho ha hz (by rw [List.length_drop]; omega)
theorem bu.now {o : Oper} {s : St} {v : AV} (h : bu P ops base r s) (hs : bJ P G rl ops base r o v s) : E3 P G rl ops o v s := by
  have := hs (s.heap.drop base) h.2
  rwa [List.take_append_drop] at this
theorem bu.start {fr : Nat → Option AV} {nt : Nat} {hp : Heap} (hr : (zsB P ops).length = r) : bu P ops hp.length r ⟨fr, nt, hp ++ List.replicate r (some ⟨0, []⟩)⟩ := by
  refine ⟨by simp, by simp, fun j z hz => .inl ?_⟩
  have : j < r := by rw [← hr]; exact j4 hz
  simp [this]
theorem bJ.put {o : Oper} {s : St} {d : Option Nat} {u v : AV} (h : bJ P G rl ops base r o v s) (hd : ∀ t, d = some t → t ∉ o.looksAt ops) : bJ P G rl ops base r o v (s.put d u) :=
  fun R hR => by rw [ng, St.put_heap]; exact (F7 hd).mpr (h R hR)
theorem bJ.setB {o : Oper} {s : St} {v : AV} (h : bJ P G rl ops base r o v s) {b : Nat} (hb : base ≤ b) (z : List PV) : bJ P G rl ops base r o v (s.setB b z) := fun R hR => by
  have : (s.setB b z).heap.take base = s.heap.take base := by simp only [St.setB]; exact List.take_set_of_le hb
  rw [this]; exact h R hR
theorem af.put {o : Oper} {s : St} {d : Option Nat} {u v : AV} (h : af P G rl ops o v s) (hd : ∀ t, d = some t → t ∉ o.looksAt ops) : af P G rl ops o v (s.put d u) :=
  fun H => by rw [ng]; exact (F7 hd).mpr (h H)
def B0 (o : Oper) : Bool := match o.op with | .extract _ _ | .move _ | .assign _ | .pick _ _ _ | .nilCheck _ | .fieldAddr _ _ _ => true | _ => false
theorem vE {o : Oper} (hf : B0 o = true) {ρ : Operand → Option AV} {H H' : Heap} {v : AV} (h : opA P rl o ρ H = some (v, H)) : opA P rl o ρ H' = some (v, H') := by
  obtain ⟨dst, op, type, pos, after, guard⟩ := o
  cases op with
  | extract t i =>
    simp only [opA] at *
    split at h
    · rename_i vs ht
      obtain ⟨x, hx, he⟩ := Option.map_eq_some_iff.mp h
      cases he
      rw [hx]; rfl
    · cases h
  | move x =>
    simp only [opA] at *
    obtain ⟨y, hy, he⟩ := Option.map_eq_some_iff.mp h
    cases he
    rw [hy]; rfl
  | assign x =>
    simp only [opA] at *
    obtain ⟨y, hy, he⟩ := Option.map_eq_some_iff.mp h
    cases he
    rw [hy]; rfl
  | pick c a b =>
    simp only [opA] at *
    split at h
    · rename_i t x y _ _ _
      cases h; rfl
    · cases h
  | nilCheck x =>
    simp only [opA] at *
    split at h
    · cases h; rfl
    · cases h; rfl
    · cases h
  | fieldAddr t x f =>
    simp only [opA] at *
    obtain ⟨a, ha, he⟩ := Option.bind_eq_some_iff.mp h
    obtain ⟨y, hy, he⟩ := Option.map_eq_some_iff.mp he
    cases he
    rw [ha]
    have : P9 P H' t a f = P9 P H t a f := rfl
    simp only [Option.bind_some, this, hy, Option.map_some]
  | _ => cases hf
theorem nh {o : Oper} (hf : B0 o = true) {fr : Nat → Option AV} {nt : Nat} {H H' : Heap} {v : AV} (h : E3 P G rl ops o v ⟨fr, nt, H⟩) : E3 P G rl ops o v ⟨fr, nt, H'⟩ := by
  have hc : K8 o = none := by
    unfold B0 at hf; unfold K8
    split <;> simp_all
  rcases h with ⟨h1, h2⟩ | h
  · refine .inl ⟨h1, ?_⟩
    unfold AQ at *
    rw [hc] at *
    exact vE hf h2
  · exact .inr h
theorem tY {j : Nat} {oi oj : Oper} {v : AV} (hj : ops[j]? = some oj) (hap : oi.apart ops oj = true) (s : St) (K : St → Prop)
    (hy : af P G rl ops oi v s) (h : Z2 P G rl es ops base j K (s.put oi.dst v)) :
    Z2 P G rl es ops base j (fun s' => af P G rl ops oi v s' ∧ K (s'.put oi.dst v)) s := by
  obtain ⟨h1, h2, h3⟩ := Oper.apart_spec hap
  have hev : ∀ x ∈ oj.op.operands, A5 G (s.put oi.dst v) x = A5 G s x := fun x hx => lG fun t ht e => h1 t ht (oZ hx e)
  unfold Z2 at *
  simp only [hj] at *
  unfold iK at *
  split
  · rename_i ha
    rw [if_pos ha] at h
    obtain ⟨z, hz, hb, hk⟩ := h
    rw [St.put_heap] at hb
    refine ⟨z, hz, hb, af.put (s := s.setB _ z) hy h3, ?_⟩
    rw [ed, St.put_comm _ _ _ h2] at hk
    exact hk
  · rename_i ha
    rw [if_neg ha] at h
    split
    · rename_i he
      rw [if_pos he] at h
      unfold aop at *
      rw [lH h1] at h
      split at h
      · rename_i b hb
        refine ⟨fun e => ?_, fun e => ⟨hy.put h3, ?_⟩⟩
        · have h := h.1 e
          unfold X2 at h ⊢
          cases hcn : K8 oj with
          | some q =>
            obtain ⟨f, args⟩ := q
            obtain ⟨ats, ho⟩ := bH hcn
            rw [ho] at hev
            have e1 : A5 G (s.put oi.dst v) f = A5 G s f := hev f (by simp [Op.operands, Call.operands])
            have e2 : K3 (A5 G (s.put oi.dst v)) args.toList = K3 (A5 G s) args.toList := R2 fun x hx => hev x (by simp only [Op.operands, Call.operands, Array.mem_append]; exact .inr (by simpa using hx))
            rw [hcn] at h
            dsimp only at h ⊢
            rw [e1, e2, St.put_heap] at h
            split at h
            · refine ⟨h.1, fun ι w vs hS hv => (h.2 ι w vs hS hv).mono fun e w' ⟨v', r, h', ι', q1, q2, q3⟩ => ⟨v', r, h', ι', q1, ⟨af.put (s := ⟨s.fr, s.nt, h'⟩) hy h3, ?_⟩, q3⟩⟩
              dsimp only at q2
              rw [ng, St.put_comm _ _ _ h2] at q2
              exact q2
            · exact h.elim
          | none =>
            rw [hcn] at h
            dsimp only at h ⊢
            rw [lF hev, St.put_heap] at h
            split at h
            · rename_i u h' hop
              refine ⟨af.put (s := ⟨s.fr, s.nt, h'⟩) hy h3, ?_⟩
              rw [ng, St.put_comm _ _ _ h2] at h
              exact h
            · exact h.elim
        · have h := h.2 e
          rw [St.put_comm _ _ _ h2] at h
          exact h
      · exact h.elim
    · rename_i he
      rw [if_neg he] at h
      obtain ⟨u, hu, hk⟩ := s9.mp h
      refine s9.mpr ⟨u, (F7 h1).mp hu, hy.put h3, ?_⟩
      rw [← St.put_comm s v u h2]
      exact hk
theorem qZ {j : Nat} {oi oj : Oper} {v : AV} (hj : ops[j]? = some oj) (hap : oi.apart ops oj = true) (hq : ad es j oj = true → r6 oj = true) (s : St) (K : St → Prop)
    (hy : bu P ops base r s ∧ bJ P G rl ops base r oi v s) (h : Z2 P G rl es ops base j K (s.put oi.dst v)) :
    Z2 P G rl es ops base j (fun s' => (bu P ops base r s' ∧ bJ P G rl ops base r oi v s') ∧ K (s'.put oi.dst v)) s := by
  obtain ⟨h1, h2, h3⟩ := Oper.apart_spec hap
  unfold Z2 at *
  simp only [hj] at h ⊢
  unfold iK at *
  split
  · rename_i ha
    rw [if_pos ha] at h
    obtain ⟨z, hz, hb, hk⟩ := h
    rw [St.put_heap] at hb
    refine ⟨z, hz, hb, ⟨(hy.1.fill hj ha hz hb).put, (hy.2.setB (Nat.le_add_right _ _) z).put h3⟩, ?_⟩
    rw [ed, St.put_comm _ _ _ h2] at hk
    exact hk
  · rename_i ha
    rw [if_neg ha] at h
    split
    · rename_i he; exact absurd (hq he) ha
    · rename_i he
      rw [if_neg he] at h
      obtain ⟨u, hu, hk⟩ := s9.mp h
      refine s9.mpr ⟨u, (F7 h1).mp hu, ⟨hy.1.put, hy.2.put h3⟩, ?_⟩
      rw [← St.put_comm s v u h2]
      exact hk
theorem ra {i j : Nat} {oi oj : Oper} {z : List PV} (hj : ops[j]? = some oj) (hap : oi.apart ops oj = true) (ha : r6 oj = true) (hne : A6 ops j ≠ A6 ops i) (s : St) (K : St → Prop)
    (hy : s.heap[base + A6 ops i]? = some (some ⟨0, []⟩)) (h : Z2 P G rl es ops base j K ((s.setB (base + A6 ops i) z).put oi.dst (.ptr (base + A6 ops i) 1 0))) :
    Z2 P G rl es ops base j (fun s' => s'.heap[base + A6 ops i]? = some (some ⟨0, []⟩) ∧ K ((s'.setB (base + A6 ops i) z).put oi.dst (.ptr (base + A6 ops i) 1 0))) s := by
  obtain ⟨h1, h2, h3⟩ := Oper.apart_spec hap
  have hn : base + A6 ops i ≠ base + A6 ops j := by omega
  unfold Z2 at *
  simp only [hj] at *
  unfold iK at *
  rw [if_pos ha] at *
  obtain ⟨y, hz, hb, hk⟩ := h
  rw [St.put_heap] at hb
  simp only [St.setB, List.getElem?_set_ne hn] at hb
  refine ⟨y, hz, hb, ?_, ?_⟩
  · rw [St.put_heap]
    simp only [St.setB, List.getElem?_set_ne hn.symm]
    exact hy
  · rw [ed, tX _ _ _ _ _ hn, St.put_comm _ _ _ h2, ← ed] at hk
    exact hk
def xL (md : Region.Mode) (ops : Array Oper) (i : Nat) (D : List Nat) : List Nat :=
  (List.range ops.size).filter fun j => match ops[j]? with
    | some oj => oj.after.any fun e => Region.binds md e && (e.on == i || D.contains e.on)
    | none => false
def rb (md : Region.Mode) (ops : Array Oper) (i : Nat) : Nat → List Nat
  | 0 => []
  | n + 1 => xL md ops i (rb md ops i n)
def ax (md : Region.Mode) (ops : Array Oper) (listed : Array Bool) (i : Nat) (D : List Nat) (ok : Nat → Oper → Bool) : Bool :=
  (D.all fun d => listed.getD d false == false && match ops[d]? with
    | some od => od.after.any fun e => Region.binds md e && (e.on == i || D.contains e.on)
    | none => true) &&
  (List.range ops.size).all fun j => j == i || listed.getD j true || D.contains j || match ops[j]? with
    | some oj => ok j oj
    | none => true
theorem dw {i : Nat} {listed : Array Bool} {D : List Nat} {ok : Nat → Oper → Bool} (h : ax md ops listed i D ok = true) (j : Nat) (oj : Oper) (hj : ops[j]? = some oj) (hd : D.contains j = true) :
    ∃ e ∈ oj.after, Region.binds md e = true ∧ (e.on = i ∨ D.contains e.on = true) := by
  simp only [ax, Bool.and_eq_true, List.all_eq_true] at h
  have h1 := (h.1 j (by simpa using hd)).2
  simp only [hj] at h1
  obtain ⟨e, he, hb⟩ := Array.any_eq_true'.1 h1
  simp only [Bool.and_eq_true, Bool.or_eq_true, beq_iff_eq] at hb
  exact ⟨e, he, hb.1, hb.2⟩
theorem dx {i : Nat} {listed : Array Bool} {D : List Nat} {ok : Nat → Oper → Bool} (h : ax md ops listed i D ok = true) (d : Nat) (hd : D.contains d = true) : listed.getD d false = false := by
  simp only [ax, Bool.and_eq_true, List.all_eq_true] at h
  exact beq_iff_eq.mp (h.1 d (by simpa using hd)).1
theorem fP {i : Nat} {listed : Array Bool} {D : List Nat} {ok : Nat → Oper → Bool} (h : ax md ops listed i D ok = true) (j : Nat) (oj : Oper) (hj : ops[j]? = some oj) (hne : j ≠ i) (hun : listed.getD j true = false) (hd : D.contains j = false) : ok j oj = true := by
  simp only [ax, Bool.and_eq_true, List.all_eq_true, List.mem_range] at h
  have h1 := h.2 j (Array.getElem?_eq_some_iff.1 hj).1
  simp only [hj, Bool.or_eq_true, beq_iff_eq, hne, false_or, hun, hd, Bool.false_eq_true] at h1
  exact h1
def okA (ops : Array Oper) (i : Nat) (oi : Oper) (j : Nat) (oj : Oper) : Bool := oi.apart ops oj && (r6 oj && A6 ops j != A6 ops i)
def okQ (es : List Nat) (ops : Array Oper) (oi : Oper) (j : Nat) (oj : Oper) : Bool := oi.apart ops oj && (!ad es j oj || r6 oj)
def okF (ops : Array Oper) (oi : Oper) (_ : Nat) (oj : Oper) : Bool := oi.apart ops oj
theorem vF {i j : Nat} {oi oj : Oper} (h : okA ops i oi j oj = true) : oi.apart ops oj = true ∧ r6 oj = true ∧ A6 ops j ≠ A6 ops i := by
  simpa [okA] using h
theorem vG {j : Nat} {oi oj : Oper} (h : okQ es ops oi j oj = true) : oi.apart ops oj = true ∧ (ad es j oj = true → r6 oj = true) := by
  simp only [okQ, Bool.and_eq_true, Bool.or_eq_true] at h
  refine ⟨h.1, fun he => ?_⟩
  rcases h.2 with h1 | h1
  · rw [he] at h1; cases h1
  · exact h1
theorem vH {j : Nat} {oi oj : Oper} (h : okF ops oi j oj = true) : oi.apart ops oj = true := h
def n5 (P : Program) (G : Nat → Option (List PV)) (rl : List String) (es : List Nat) (ops : Array Oper) (Q : St → Prop) : List Nat → St → Prop
  | [], s => Q s
  | k :: rest, s => match ops[k]? with
    | none => False
    | some o => if ad es k o = true then r6 o = false ∧ aop P G rl ops o (n5 P G rl es ops Q rest) s
      else B0 o = true ∧ ∃ v, af P G rl ops o v s ∧ n5 P G rl es ops Q rest (s.put o.dst v)
def o6 (P : Program) (G : Nat → Option (List PV)) (rl : List String) (es : List Nat) (ops : Array Oper) (fs : List Nat) (base r : Nat) (Q : St → Prop) : List Nat → St → Prop
  | [], s => Q s
  | k :: rest, s => match ops[k]? with
    | none => False
    | some o => if r6 o = true then qY P o (base + A6 ops k) (o6 P G rl es ops fs base r Q rest) s
      else if ad es k o = true then n5 P G rl es ops Q (k :: rest) s
      else if (B0 o || fs.contains k) = true then ∃ v, af P G rl ops o v s ∧ o6 P G rl es ops fs base r Q rest (s.put o.dst v)
      else ∃ v, bJ P G rl ops base r o v s ∧ o6 P G rl es ops fs base r Q rest (s.put o.dst v)
def js (es : List Nat) (md : Region.Mode) (ops : Array Oper) (fs : List Nat) : List Nat → Array Bool → Bool
  | [], listed => (Region.ready md ops listed).isEmpty
  | k :: rest, listed =>
    (match ops[k]? with
      | none => false
      | some o => if r6 o then (Region.ready md ops listed).contains k && ax md ops listed k (rb md ops k ops.size) (okA ops k o)
        else if ad es k o then Region.ready md ops listed == [k]
        else (Region.ready md ops listed).contains k && ax md ops listed k (rb md ops k ops.size) (if (B0 o || fs.contains k) = true then okF ops o else okQ es ops o)) && js es md ops fs rest (listed.setIfInBounds k true)
theorem jt {Q : St → Prop} {k : Nat} {o : Oper} {v : AV} (h0 : ops[k]? = some o) (ha : ¬ r6 o = true) (he : ¬ ad es k o = true) {n : Nat} {listed : Array Bool} {s : St}
    (hr : (Region.ready md ops listed).contains k = true) (hf : ax md ops listed k (rb md ops k ops.size) (okF ops o) = true) (hy : af P G rl ops o v s)
    (h : ae P G rl es md ops base Q n (listed.setIfInBounds k true) (s.put o.dst v)) : ae P G rl es md ops base Q (n + 1) listed s := by
  refine bI (i := k) (af P G rl ops o v) (fun s => s.put o.dst v) (fun j oj => o.apart ops oj = true) (fun j => (rb md ops k ops.size).contains j) (fun s K hs hK => ?_)
    (fun j oj hj hc s K hs hK => tY hj hc s K hs hK) (dw hf) n listed s (fun j oj a1 a2 a3 a4 => vH (fP hf j oj a1 a2 a3 a4)) (dx hf) (by simpa using hr) hy h
  unfold Z2
  simp only [h0]
  unfold iK
  rw [if_neg ha, if_neg he]
  exact s9.mpr ⟨v, hs s.heap, hK⟩
theorem rd {Q : St → Prop} {k : Nat} {o : Oper} (h0 : ops[k]? = some o) (ha : ¬ r6 o = true) (he : ad es k o = true) {n : Nat} {listed : Array Bool} {s : St}
    (hr : (Region.ready md ops listed == [k]) = true) (h : aop P G rl ops o (ae P G rl es md ops base Q n (listed.setIfInBounds k true)) s) : ae P G rl es md ops base Q (n + 1) listed s := by
  have hr := beq_iff_eq.mp hr
  refine ⟨fun e => (by rw [hr] at e; cases e), fun i hi => ?_⟩
  rw [hr] at hi
  have : i = k := by simpa using hi
  subst this
  unfold Z2
  simp only [h0]
  unfold iK
  rw [if_neg ha, if_pos he]
  exact h
theorem dy {Q : St → Prop} {fs : List Nat} : ∀ (l : List Nat) (listed : Array Bool) (s : St), js es md ops fs l listed = true → n5 P G rl es ops Q l s → ae P G rl es md ops base Q l.length listed s
  | [], listed, s, hB, h => ⟨by simpa [js] using hB, h⟩
  | k :: rest, listed, s, hB, h => by
    simp only [js, Bool.and_eq_true] at hB
    obtain ⟨hr, hB'⟩ := hB
    unfold n5 at h
    split at h
    · exact h.elim
    · rename_i o h0
      simp only [h0] at hr
      split at h
      · rename_i he
        obtain ⟨ha, h⟩ := h
        rw [if_neg (by rw [ha]; decide), if_pos he] at hr
        exact rd h0 (by rw [ha]; decide) he hr (fM (fun s' hs' => dy rest _ s' hB' hs') h)
      · rename_i he
        obtain ⟨hh, v, hy, hK⟩ := h
        have ha : ¬ r6 o = true := by
          unfold B0 at hh; unfold r6
          split at hh <;> simp_all
        rw [if_neg ha, if_neg he] at hr
        simp only [Bool.and_eq_true, hh, Bool.true_or, if_true] at hr
        exact jt h0 ha he hr.1 hr.2 hy (dy rest _ _ hB' hK)
theorem cr {Q : St → Prop} {fs : List Nat} : ∀ (l : List Nat) (listed : Array Bool) (s : St), js es md ops fs l listed = true → bu P ops base r s → o6 P G rl es ops fs base r Q l s → ae P G rl es md ops base Q l.length listed s
  | [], listed, s, hB, _, h => ⟨by simpa [js] using hB, h⟩
  | k :: rest, listed, s, hB, hi, h => by
    have hB0 := hB
    simp only [js, Bool.and_eq_true] at hB
    obtain ⟨hr, hB'⟩ := hB
    unfold o6 at h
    split at h
    · exact h.elim
    · rename_i o h0
      simp only [h0] at hr
      split at h
      · rename_i ha
        rw [if_pos ha] at hr
        simp only [Bool.and_eq_true] at hr
        obtain ⟨hr, hf⟩ := hr
        obtain ⟨z, hz, hb, hk⟩ := h
        refine bI (i := k) (fun s => s.heap[base + A6 ops k]? = some (some ⟨0, []⟩)) (fun s => (s.setB (base + A6 ops k) z).put o.dst (.ptr (base + A6 ops k) 1 0))
          (fun j oj => o.apart ops oj = true ∧ r6 oj = true ∧ A6 ops j ≠ A6 ops k) (fun j => (rb md ops k ops.size).contains j) (fun s K hs hK => ?_) (fun j oj hj hc s K hs hK => ra hj hc.1 hc.2.1 hc.2.2 s K hs hK) (dw hf) rest.length listed s
          (fun j oj a1 a2 a3 a4 => vF (fP hf j oj a1 a2 a3 a4)) (dx hf) (by simpa using hr) hb (cr rest _ _ hB' (hi.fill h0 ha hz hb).put hk)
        unfold Z2
        simp only [h0]
        unfold iK
        rw [if_pos ha]
        exact ⟨z, hz, hs, hK⟩
      · rename_i ha
        split at h
        · exact dy (k :: rest) listed s hB0 h
        · rename_i he
          rw [if_neg ha, if_neg he] at hr
          simp only [Bool.and_eq_true] at hr
          obtain ⟨hr, hf⟩ := hr
          split at h
          · rename_i hh
            rw [if_pos hh] at hf
            obtain ⟨v, hy, hK⟩ := h
            exact jt h0 ha he hr hf hy (cr rest _ _ hB' hi.put hK)
          · rename_i hh
            rw [if_neg hh] at hf
            obtain ⟨v, hy, hK⟩ := h
            refine bI (i := k) (fun s => bu P ops base r s ∧ bJ P G rl ops base r o v s) (fun s => s.put o.dst v) (fun j oj => o.apart ops oj = true ∧ (ad es j oj = true → r6 oj = true)) (fun j => (rb md ops k ops.size).contains j) (fun s K hs hK => ?_)
              (fun j oj hj hc s K hs hK => qZ hj hc.1 hc.2 s K hs hK) (dw hf) rest.length listed s (fun j oj a1 a2 a3 a4 => vG (fP hf j oj a1 a2 a3 a4)) (dx hf) (by simpa using hr) ⟨hi, hy⟩ (cr rest _ _ hB' hi.put hK)
            unfold Z2
            simp only [h0]
            unfold iK
            rw [if_neg ha, if_neg he]
            exact s9.mpr ⟨v, hs.1.now hs.2, hK⟩
end
section
variable {ι ι0 : Nat → Nat × Nat} {h0 : Heap} {w w0 : World} {n0 : Nat} {s : St} {a : Act}
theorem pe {o : Oper} {K : St → Prop} (hx : fE P G rl o K s) : X2 P G rl o K s := by
  unfold fE at hx
  unfold X2
  cases hq : K8 o with
  | some q =>
    obtain ⟨f, args⟩ := q
    simp only [hq] at hx ⊢
    split at hx
    · rename_i g caps xs hf hxs
      obtain ⟨he, r, hc, hk⟩ := hx
      refine ⟨he, fun ι w vs hS hv => (hc ι w vs hS hv).mono ?_⟩
      rintro e w' ⟨v, r', h', ι', e1, ⟨rfl, rfl⟩, e2⟩
      exact ⟨v, _, _, ι', e1, hk, e2⟩
    · exact hx.elim
  | none =>
    simp only [hq] at hx ⊢
    split at hx
    · obtain ⟨rfl, hk⟩ := hx
      exact hk
    · exact hx.elim
theorem ju {o : Oper} {K : St → Prop} (hx : cM P G rl ops o K s) : aop P G rl ops o K s := by
  unfold cM at hx
  unfold aop
  split at hx
  · exact ⟨fun e => pe (hx.1 e), hx.2⟩
  · exact hx.elim
theorem bK {Q : St → Prop} {Q' : Exit → Act → World → Prop} (hK : ∀ s' ι' a' w', Q s' → Sim P G ι' s' a' w' → Evo n0 ι0 h0 w0 ι' s'.heap w' → Q' .normal a' w') :
    ∀ (fuel : Nat) (listed : Array Bool) (s : St) (ι : Nat → Nat × Nat) (a : Act) (w : World), Sim P G ι s a w → Evo n0 ι0 h0 w0 ι s.heap w →
      lI P G rl md ops Q fuel listed s → wpAny P md ops Q' fuel listed a w
  | 0, _, s, ι, a, w, hs, he, h => ⟨h.1, hK s ι a w h.2 hs he⟩
  | fuel + 1, listed, s, ι, a, w, hs, he, h => by
    refine ⟨fun h0 => hK s ι a w (h.1 h0) hs he, fun i hi => ?_⟩
    have h1 := h.2 i hi
    unfold ld at h1
    unfold wpOp
    split
    · rename_i ho; simp only [ho] at h1; exact bK hK fuel _ s ι a w hs he h1
    · rename_i o ho
      simp only [ho] at h1
      exact aa (rl := rl) (K := lI P G rl md ops Q fuel (listed.setIfInBounds i true)) hs he (fun s' ι' a' w' hk hs' he' => bK hK fuel _ s' ι' a' w' hs' he' hk) (ju h1)
theorem vI {o : Oper} {K : St → Prop} (hx : nf P G rl ops o K s) : aop P G rl ops o K s := by
  unfold nf at hx
  split at hx
  · exact hx
  · exact ju hx
theorem bL {Q : St → Prop} {Q' : Exit → Act → World → Prop} (hK : ∀ s' ι' a' w', Q s' → Sim P G ι' s' a' w' → Evo n0 ι0 h0 w0 ι' s'.heap w' → Q' .normal a' w') :
    ∀ (fuel : Nat) (listed : Array Bool) (s : St) (ι : Nat → Nat × Nat) (a : Act) (w : World), Sim P G ι s a w → Evo n0 ι0 h0 w0 ι s.heap w →
      lK P G rl md ops Q fuel listed s → wpAny P md ops Q' fuel listed a w
  | 0, _, s, ι, a, w, hs, he, h => ⟨h.1, hK s ι a w h.2 hs he⟩
  | fuel + 1, listed, s, ι, a, w, hs, he, h => by
    refine ⟨fun h0 => hK s ι a w (h.1 h0) hs he, fun i hi => ?_⟩
    have h1 := h.2 i hi
    unfold jr at h1
    unfold wpOp
    split
    · rename_i ho; simp only [ho] at h1; exact bL hK fuel _ s ι a w hs he h1
    · rename_i o ho
      simp only [ho] at h1
      exact aa (rl := rl) (K := lK P G rl md ops Q fuel (listed.setIfInBounds i true)) hs he (fun s' ι' a' w' hk hs' he' => bL hK fuel _ s' ι' a' w' hs' he' hk) (vI h1)
theorem Sim.drew (hs : Sim P G ι s a w) : Sim P G ι s a { w with drawn := w.drawn + 1 } ∧ Evo s.heap.length ι s.heap w ι s.heap { w with drawn := w.drawn + 1 } := by
  obtain ⟨h1, h2⟩ := hs.hS.drew
  exact ⟨⟨h1, fun k x hx => by obtain ⟨v, p1, p2⟩ := hs.fr k x hx; exact ⟨v, p1, p2.evo h2⟩, hs.nt, hs.df⟩, h2⟩
theorem re {id : Nat} {Q : St → Prop} {Q' : Exit → Act → World → Prop} (hm : P.follows .mixedOrders = true) (hK : ∀ s' ι' a' w', Q s' → Sim P G ι' s' a' w' → Evo n0 ι0 h0 w0 ι' s'.heap w' → Q' .normal a' w')
    (hs : Sim P G ι s a w) (he : Evo n0 ι0 h0 w0 ι s.heap w) (hB : Region.lexB .any ops = true) (h : k3 P G rl ops Q ops.toList s) : (Code.region id ops true).wp P Q' a w := by
  simp only [Region.lexB, Bool.and_eq_true] at hB
  obtain ⟨d1, d2⟩ := hs.drew
  refine wp_region_any hm (bK (rl := rl) hK _ _ s ι a _ d1 (he.trans d2 he.len) ?_)
  have := lJ (P := P) (G := G) (rl := rl) (md := .any) (Q := Q) ops.toList 0 (Array.replicate ops.size false) s (by simp) (by simpa using hB.2) h
  simpa using this
theorem pf {id : Nat} {Q : St → Prop} {Q' : Exit → Act → World → Prop} (hm : P.follows .mixedOrders = true) (hK : ∀ s' ι' a' w', Q s' → Sim P G ι' s' a' w' → Evo n0 ι0 h0 w0 ι' s'.heap w' → Q' .normal a' w')
    (hs : Sim P G ι s a w) (he : Evo n0 ι0 h0 w0 ι s.heap w) (hB : qX .any ops ops.size 0 (Array.replicate ops.size false) = true) (h : l8 P G rl ops Q ops.toList s) : (Code.region id ops true).wp P Q' a w := by
  obtain ⟨d1, d2⟩ := hs.drew
  refine wp_region_any hm (bL (rl := rl) hK _ _ s ι a _ d1 (he.trans d2 he.len) ?_)
  have := fO (P := P) (G := G) (rl := rl) (md := .any) (Q := Q) ops.toList 0 (Array.replicate ops.size false) s (by simp) (by simpa using hB) h
  simpa using this
theorem vJ {b : Nat} {z : List PV} {o : Oper} {ρ : Operand → Value} {ι : Nat → Nat × Nat} {h : Heap} {w : World} (hS : SimH P G ι h w) (hz : T0 P o = some z) (hb : h[b]? = some (some ⟨0, []⟩)) : gK P G ι h w (execOp ρ o) (.ptr b 1 0) (h.set b (some ⟨1, z.map .p⟩)) := by
  obtain ⟨dst, op, type, pos, after, guard⟩ := o
  unfold T0 at hz
  cases op with
  | alloc t =>
    dsimp only at hz
    split at hz
    · rename_i kk s1 b1 z' ht
      split at hz
      · cases hz
      · rename_i hne
        cases hz
        obtain ⟨zv, hzr, hzl, hzv⟩ := bG ht rfl
        have hlt : b < h.length := j4 hb
        obtain ⟨q1, q2⟩ := hS.upd (h' := h.set b (some ⟨1, z.map .p⟩)) (ι' := fun i => if i = b then (w.heap.size, 0) else ι i) (w' := w.alloc (.cells zv.cells t)) b ⟨1, z.map .p⟩ w.heap.size 0 zv.cells t
          (.inr ⟨hlt, ⟨_, hb, Nat.zero_le _⟩, rfl⟩) (fun i => rfl) (.inl (Nat.le_refl _)) (by simpa using hne) (heap_alloc_new w _) (by simp [hzl]) (fun j x hx => by
            have hj : j < z.length := by have := j4 hx; simpa using this
            refine ⟨zv.cells[j]'(by omega), by rw [Nat.zero_add]; simp [show j < zv.cells.size by omega], ?_⟩
            simp only [List.getElem?_map, Option.map_eq_some_iff] at hx
            obtain ⟨y, hy, rfl⟩ := hx
            exact .p _ _ (hzv w _ j y _ hy (by simp [show j < zv.cells.size by omega])))
          (by simp) (fun k hk _ => by first | exact heap_alloc_old _ _ hk | exact heap_alloc_old _ _ _ hk) (fun bk hq hgg => by rw [hb] at hq; cases hq; cases hgg) rfl rfl rfl
        have hl : A7 (h.set b (some ⟨1, z.map .p⟩)) b 1 := ⟨⟨1, z.map .p⟩, by simp [hlt], rfl⟩
        have hp := mZ (ι := fun i => if i = b then (w.heap.size, 0) else ι i) (w := w.alloc (.cells zv.cells t)) hl ⟨zv.cells, t, (0, 0), by rw [if_pos rfl]; exact heap_alloc_new w _⟩ 0
        refine J6 (w' := w.alloc (.cells zv.cells t)) ?_ q1 (by simpa using hp) q2
        simp [Instr.alloc, Sem.run_bind, hzr w, newVar, newRow]
    · cases hz
  | _ => cases hz
theorem ni {o : Oper} {b : Nat} {K : St → Prop} {K' : Act → World → Prop} {Q' : Exit → Act → World → Prop} (ha : r6 o = true) (hs : Sim P G ι s a w) (he : Evo n0 ι0 h0 w0 ι s.heap w)
    (hK : ∀ s' ι' a' w', K s' → Sim P G ι' s' a' w' → Evo n0 ι0 h0 w0 ι' s'.heap w' → K' a' w') (hx : qY P o b K s) :
    if Region.wanted o (yielded ops a.tmps) then o.wp P a w K' Q' ∨ (o.asks P a w ∧ LetsOut Q') else K' (a.put o.dst undef) w := by
  obtain ⟨z, hz, hb, hk⟩ := hx
  have hw : V3 ops o s = some true := by
    simp only [r6, Bool.and_eq_true, Option.isNone_iff_eq_none] at ha
    unfold V3; rw [ha.2]
  rw [lD hs hw]
  simp only [if_true]
  left
  obtain ⟨v, w', ι', hrun, hS', hr, he'⟩ := vJ (ρ := fun x => a.eval x) hs.hS hz hb
  have := hK _ ι' _ w' hk (hs.put hS' he' o.dst hr) (by rw [St.put_heap]; exact he.trans he' he.len)
  unfold Oper.wp
  rcases hrun with hrun | ⟨hrun, rfl⟩
  · rw [hrun]; exact this
  · rw [hrun]; exact this
theorem R3 {es : List Nat} {base : Nat} {Q : St → Prop} {Q' : Exit → Act → World → Prop} (hK : ∀ s' ι' a' w', Q s' → Sim P G ι' s' a' w' → Evo n0 ι0 h0 w0 ι' s'.heap w' → Q' .normal a' w') :
    ∀ (fuel : Nat) (listed : Array Bool) (s : St) (ι : Nat → Nat × Nat) (a : Act) (w : World), Sim P G ι s a w → Evo n0 ι0 h0 w0 ι s.heap w →
      ae P G rl es md ops base Q fuel listed s → wpAny P md ops Q' fuel listed a w
  | 0, _, s, ι, a, w, hs, he, h => ⟨h.1, hK s ι a w h.2 hs he⟩
  | fuel + 1, listed, s, ι, a, w, hs, he, h => by
    refine ⟨fun h0 => hK s ι a w (h.1 h0) hs he, fun i hi => ?_⟩
    have h1 := h.2 i hi
    unfold Z2 at h1
    unfold wpOp
    split
    · rename_i ho; simp only [ho] at h1; exact R3 hK fuel _ s ι a w hs he h1
    · rename_i o ho
      simp only [ho] at h1
      unfold iK at h1
      split at h1
      · rename_i ha
        exact ni (K := ae P G rl es md ops base Q fuel (listed.setIfInBounds i true)) ha hs he (fun s' ι' a' w' hk hs' he' => R3 hK fuel _ s' ι' a' w' hs' he' hk) h1
      · split at h1
        · exact aa (rl := rl) (K := ae P G rl es md ops base Q fuel (listed.setIfInBounds i true)) hs he (fun s' ι' a' w' hk hs' he' => R3 hK fuel _ s' ι' a' w' hs' he' hk) h1
        · exact aa (rl := rl) (K := ae P G rl es md ops base Q fuel (listed.setIfInBounds i true)) hs he (fun s' ι' a' w' hk hs' he' => R3 hK fuel _ s' ι' a' w' hs' he' hk) (ju h1)
theorem pg {es : List Nat} {id base r : Nat} {ord fs : List Nat} {Q : St → Prop} {Q' : Exit → Act → World → Prop} (hm : P.follows .mixedOrders = true) (hK : ∀ s' ι' a' w', Q s' → Sim P G ι' s' a' w' → Evo n0 ι0 h0 w0 ι' s'.heap w' → Q' .normal a' w')
    (hs : Sim P G ι s a w) (he : Evo n0 ι0 h0 w0 ι s.heap w) (hl : ord.length = ops.size) (hB : js es .any ops fs ord (Array.replicate ops.size false) = true) (hi : bu P ops base r s) (h : o6 P G rl es ops fs base r Q ord s) : (Code.region id ops true).wp P Q' a w := by
  obtain ⟨d1, d2⟩ := hs.drew
  have := cr (P := P) (G := G) (rl := rl) (md := .any) (Q := Q) (base := base) (r := r) ord (Array.replicate ops.size false) s hB hi h
  rw [hl] at this
  exact wp_region_any hm (R3 (rl := rl) hK _ _ s ι a _ d1 (he.trans d2 he.len) this)
end
end
def o8 (P : Program) (G : Nat → Option (List PV)) (h0 : Heap) (s s' : St) : Prop :=
  ∀ ι a w ι0 w0, SimH P G ι0 h0 w0 → Sim P G ι s a w → Evo h0.length ι0 h0 w0 ι s.heap w → ∃ ι', Sim P G ι' s' a w ∧ Evo h0.length ι0 h0 w0 ι' s'.heap w
def M7 (K : St → Prop) (Q : Exit → St → Prop) : Exit → St → Prop
  | .normal, s => K s
  | e, s => Q e s
def ay (id : Nat) (Q : Exit → St → Prop) : Exit → St → Prop
  | .exit i, s => if i = id then Q .normal s else Q (.exit i) s
  | e, s => Q e s
section
variable (P : Program) (G : Nat → Option (List PV)) (rl : List String) (h0 : Heap)
def jv (v : Option AV) (X Y : Prop) : Prop :=
  match v with
  | some (.p (.bool t)) => (t = true → X) ∧ (t = false → Y)
  | _ => False
def awp : Code → (Exit → St → Prop) → St → Prop
  | .skip, Q, s => Q .normal s
  | .label _, Q, s => Q .normal s
  | .region _ ops draw, Q, s =>
    if draw then (Region.lexB .any ops = true ∧ k3 P G rl ops (Q .normal) ops.toList s) ∨ (qX .any ops ops.size 0 (Array.replicate ops.size false) = true ∧ l8 P G rl ops (Q .normal) ops.toList s) ∨
      (∃ s1 base r ord fs es, o8 P G h0 s s1 ∧ ord.length = ops.size ∧ js es .any ops fs ord (Array.replicate ops.size false) = true ∧ bu P ops base r s1 ∧ o6 P G rl es ops fs base r (Q .normal) ord s1)
    else n9 P G rl ops (Q .normal) ops.toList s
  | .seq a b, Q, s => ∃ J : St → Prop, awp a (M7 (fun s' => ∃ s1, o8 P G h0 s' s1 ∧ J s1) Q) s ∧ ∀ s1, J s1 → awp b Q s1
  | .cond c x y, Q, s => jv (A5 G s c) (awp x Q s) (awp y Q s)
  | .block id c, Q, s => awp c (ay id Q) s
  | .loop c, Q, s => ∃ I : Nat → St → Prop, (∃ n s1, o8 P G h0 s s1 ∧ I n s1) ∧ ∀ n s, I n s → awp c (M7 (fun s' => ∃ m s1, m < n ∧ o8 P G h0 s' s1 ∧ I m s1) Q) s
  | .exit id, Q, s => Q (.exit id) s
  | .ret, Q, s => Q .ret s
  | _, _, _ => False
end
end
section
theorem tZ {P : Program} {Q : Exit → Act → World → Prop} {c : Code} (I : Nat → Act → World → Prop)
    (round : ∀ n a w, I n a w → c.wp P (Exit.then (fun a' w' => ∃ m, m < n ∧ I m a' w') Q) a w) (n : Nat) (a : Act) (w : World) (h₀ : I n a w) : (Code.loop c).wp P Q a w := by
  intro b k cs
  have key : ∀ n a w, I n a w →
      ∃ e a' w', Q e a' w' ∧ Arrives P (lone (b.at a (.code c :: .inLoop c :: k)) cs w) b k cs e a' w' := by
    intro n
    induction n using Nat.strongRecOn with
    | _ n ih =>
      intro a w hI
      obtain ⟨e, a₁, w₁, hq, harr⟩ := round n a w hI b (.inLoop c :: k) cs
      cases e with
      | normal =>
        obtain ⟨m, hlt, hI₁⟩ := hq
        obtain ⟨e₂, a₂, w₂, hq₂, harr₂⟩ := ih m hlt a₁ w₁ hI₁
        exact ⟨e₂, a₂, w₂, hq₂, .of_steps (Steps.trans harr (.one step_inLoop)) harr₂⟩
      | exit id => exact ⟨_, a₁, w₁, hq, .pass (x := .inLoop c) rfl (fun _ _ => .inl (by simp)) harr⟩
      | goto l => exact ⟨_, a₁, w₁, hq, .pass (x := .inLoop c) rfl (fun _ _ => .inl (by simp)) harr⟩
      | ret => exact ⟨_, a₁, w₁, hq, .pass (x := .inLoop c) rfl (fun _ _ => .inl (by simp)) harr⟩
      | panic ch => exact ⟨_, a₁, w₁, hq, .pass (x := .inLoop c) rfl (fun _ _ => .inl (by simp)) harr⟩
      | outgrown => exact ⟨_, a₁, w₁, hq, .pass (x := .inLoop c) rfl (fun _ _ => .inl (by simp)) harr⟩
  obtain ⟨e, a', w', hq, harr⟩ := key n a w h₀
  exact ⟨e, a', w', hq, .of_steps (.one step_loop) harr⟩
section
variable {P : Program} {G : Nat → Option (List PV)} {rl : List String} {ι ι' ι0 : Nat → Nat × Nat} {h h' h0 : Heap} {w w' w0 : World} {n0 : Nat} {s : St} {a : Act}
def Bb (P : Program) (G : Nat → Option (List PV)) (ι0 : Nat → Nat × Nat) (h0 : Heap) (w0 : World) (Q : Exit → St → Prop) : Exit → Act → World → Prop :=
  fun e a w => ∃ s ι, Q e s ∧ Sim P G ι s a w ∧ Evo h0.length ι0 h0 w0 ι s.heap w
theorem lM (hm : P.follows .mixedOrders = true) (hS0 : SimH P G ι0 h0 w0) : ∀ (c : Code) (Q : Exit → St → Prop) (s : St) (ι : Nat → Nat × Nat) (a : Act) (w : World), Sim P G ι s a w → Evo h0.length ι0 h0 w0 ι s.heap w →
    awp P G rl h0 c Q s → c.wp P (Bb P G ι0 h0 w0 Q) a w := by
  intro c
  induction c with
  | skip => intro Q s ι a w hs he h; exact wp_skip ⟨s, ι, h, hs, he⟩
  | label l => intro Q s ι a w hs he h; exact wp_label ⟨s, ι, h, hs, he⟩
  | region id ops draw =>
    intro Q s ι a w hs he h
    unfold awp at h
    split at h
    · rename_i hd; subst hd
      rcases h with h | h | ⟨s1, base, r, ord, fs, es, hg, hl, hB, hi, hr⟩
      · exact re hm (fun s' ι' a' w' hq hs' he' => ⟨s', ι', hq, hs', he'⟩) hs he h.1 h.2
      · exact pf hm (fun s' ι' a' w' hq hs' he' => ⟨s', ι', hq, hs', he'⟩) hs he h.1 h.2
      · obtain ⟨ι1, hs1, he1⟩ := hg ι a w ι0 w0 hS0 hs he
        exact pg hm (fun s' ι' a' w' hq hs' he' => ⟨s', ι', hq, hs', he'⟩) hs1 he1 hl hB hi hr
    · rename_i hd
      have : draw = false := by simpa using hd
      subst this
      exact wp_region_list (jp (fun s' ι' a' w' hq hs' he' => ⟨s', ι', hq, hs', he'⟩) ops.toList s ι a w hs he h)
  | seq x y ihx ihy =>
    intro Q s ι a w hs he ⟨J, h, hJ⟩
    refine wp_seq (wp_mono (ihx _ s ι a w hs he h) fun e a' w' ⟨s', ι', hq, hs', he'⟩ => ?_)
    cases e with
    | normal =>
      obtain ⟨s1, hg, hj⟩ := hq
      obtain ⟨ι1, hs1, he1⟩ := hg ι' a' w' ι0 w0 hS0 hs' he'
      exact ihy Q s1 ι1 a' w' hs1 he1 (hJ s1 hj)
    | _ => exact ⟨s', ι', hq, hs', he'⟩
  | cond c x y ihx ihy =>
    intro Q s ι a w hs he h
    unfold awp jv at h
    split at h
    · rename_i t ht
      have := (hs.eval ht).bool_inv
      refine wp_cond_split this (fun e => ihx Q s ι a w hs he (h.1 e)) (fun e => ihy Q s ι a w hs he (h.2 e))
    · exact h.elim
  | block id c ih =>
    intro Q s ι a w hs he h
    refine wp_block (wp_mono (ih _ s ι a w hs he h) fun e a' w' ⟨s', ι', hq, hs', he'⟩ => ?_)
    cases e with
    | exit i =>
      simp only [Exit.inBlock]
      simp only [ay] at hq
      split
      · rename_i hi; simp only [hi, if_true] at hq; exact ⟨s', ι', hq, hs', he'⟩
      · rename_i hi; simp only [hi, if_false] at hq; exact ⟨s', ι', hq, hs', he'⟩
    | _ => exact ⟨s', ι', hq, hs', he'⟩
  | loop c ih =>
    intro Q s ι a w hs he ⟨I, ⟨n, s1, hg, hn⟩, hr⟩
    obtain ⟨ι1, hs1, he1⟩ := hg ι a w ι0 w0 hS0 hs he
    refine tZ (fun n a w => ∃ s ι, I n s ∧ Sim P G ι s a w ∧ Evo h0.length ι0 h0 w0 ι s.heap w) (fun n a w ⟨s, ι, hi, hs, he⟩ => ?_) n a w ⟨s1, ι1, hn, hs1, he1⟩
    refine wp_mono (ih _ s ι a w hs he (hr n s hi)) fun e a' w' ⟨s', ι', hq, hs', he'⟩ => ?_
    cases e with
    | normal =>
      obtain ⟨m, s2, hlt, hg2, hm⟩ := hq
      obtain ⟨ι2, hs2, he2⟩ := hg2 ι' a' w' ι0 w0 hS0 hs' he'
      exact ⟨m, hlt, s2, ι2, hm, hs2, he2⟩
    | _ => exact ⟨s', ι', hq, hs', he'⟩
  | exit id => intro Q s ι a w hs he h; exact wp_exit ⟨s, ι, h, hs, he⟩
  | ret => intro Q s ι a w hs he h; exact wp_ret ⟨s, ι, h, hs, he⟩
  | _ => intros; contradiction
def I4 (P : Program) (s : St) : ResultVar → Option AV
  | .tmp t => s.fr t
  | .cell a t => (s.fr a).bind fun x => lx P s.heap t x
def Q2 (P : Program) (s : St) : List ResultVar → Option (List AV)
  | [] => some []
  | r :: rest => match I4 P s r, Q2 P s rest with
    | some x, some xs => some (x :: xs)
    | _, _ => none
def Q3 (P : Program) (s : St) (rs : List ResultVar) : Option AV :=
  match Q2 P s rs with
  | some [x] => some x
  | some xs => some (.tup xs)
  | none => none
def jw (tmps : Array Value) : ResultVar → Sem Value
  | .tmp t => Pure.pure (tmps.getD t undef)
  | .cell a t => do loadVar t (← asAddr (tmps.getD a undef))
theorem rf (fn : Func) (tmps : Array Value) : results fn tmps = (do let vs ← fn.results.mapM (jw tmps); Pure.pure (if h : vs.size = 1 then vs[0] else .tuple vs)) := by
  unfold results
  congr 1
theorem ph (hs : Sim P G ι s a w) {r : ResultVar} {x : AV} (hx : I4 P s r = some x) :
    ∃ v, (jw a.tmps r).run P w = .ok v w ∧ VRel ι s.heap w x v := by
  cases r with
  | tmp t =>
    obtain ⟨v, h1, h2⟩ := hs.fr t x hx
    exact ⟨v, by simp [jw, h1], h2⟩
  | cell b t =>
    obtain ⟨y, hy, hl⟩ := Option.bind_eq_some_iff.mp hx
    obtain ⟨v, h1, h2⟩ := hs.fr b y hy
    obtain ⟨u, e1, e2⟩ := jh (P := P) hs.hS h2 hl
    refine ⟨u, ?_, e2⟩
    have hv : a.tmps.getD b undef = v := by simp [h1]
    simp only [jw, hv, Sem.run_bind]
    unfold lx at hl
    cases h2 with
    | ptr b g off A hb hg hlv =>
      split at hl
      · rename_i i b' g' off' ht hq
        cases hq
        obtain ⟨cells, hb', _⟩ := Option.bind_eq_some_iff.mp hl
        obtain ⟨this, _⟩ := hlv (y4 hb')
        subst this
        simpa [Instr.loadAt, Instr.sureAddr, asAddr] using e1
      · rename_i hq; cases hq
      · cases hl
    | pin cells blk off hv => simpa [Instr.loadAt, Instr.sureAddr, asAddr] using e1
    | p => simp at hl
    | agg => simp at hl
    | tup => simp at hl
    | fn => simp at hl
    | ref => simp at hl
    | mref => simp at hl
theorem jx (hs : Sim P G ι s a w) : ∀ (rs : List ResultVar) (xs : List AV), Q2 P s rs = some xs →
    ∃ vs : List Value, (rs.mapM (jw a.tmps)).run P w = .ok vs w ∧ xs.length = vs.length ∧
      ∀ (i : Nat) x v, xs[i]? = some x → vs[i]? = some v → VRel ι s.heap w x v
  | [], xs, h => by cases h; exact ⟨[], rfl, rfl, fun i x v hx => by simp at hx⟩
  | r :: rest, xs, h => by
    simp only [Q2] at h
    split at h
    · rename_i x xs' h1 h2
      cases h
      obtain ⟨v, e1, e2⟩ := ph hs h1
      obtain ⟨vs, p1, p2, p3⟩ := jx hs rest xs' h2
      refine ⟨v :: vs, ?_, by simp [p2], fun i y u hy hu => ?_⟩
      · simp only [List.mapM_cons, Sem.run_bind]
        rw [e1]
        simp only [Result.andThen_ok]
        rw [p1]
        rfl
      · cases i with
        | zero => simp at hy hu; rw [← hy, ← hu]; exact e2
        | succ i => simp at hy hu; exact p3 i y u hy hu
    · cases h
theorem jy (hs : Sim P G ι s a w) {fn : Func} {x : AV} (hx : Q3 P s fn.results.toList = some x) : ∃ v, (results fn a.tmps).run P w = .ok v w ∧ VRel ι s.heap w x v := by
  unfold Q3 at hx
  cases hl : Q2 P s fn.results.toList with
  | none => simp [hl] at hx
  | some xs =>
    obtain ⟨vs, p1, p2, p3⟩ := jx hs _ xs hl
    have hrun : (results fn a.tmps).run P w = .ok (if h : vs.toArray.size = 1 then vs.toArray[0] else .tuple vs.toArray) w := by
      rw [rf, Array.mapM_eq_mapM_toList]
      simp only [Sem.run_bind, Sem.run_map]
      rw [p1]
      rfl
    refine ⟨_, hrun, ?_⟩
    simp only [hl] at hx
    split at hx
    · rename_i y hy
      cases hx
      cases hy
      have h1 : vs.length = 1 := by simpa using p2.symm
      simp only [List.size_toArray, h1, dite_true]
      exact p3 0 x _ rfl (by simp [h1])
    · rename_i xs' hne hy
      cases hy
      cases hx
      have h1 : ¬ vs.length = 1 := by
        intro e
        have : xs.length = 1 := by omega
        obtain ⟨y, hy⟩ := List.length_eq_one_iff.mp this
        exact hne y (by rw [hy])
      simp only [List.size_toArray, h1, dite_false]
      exact .tup _ _ (by simpa using p2) fun i x v hx hv => p3 i x v hx (by simpa using hv)
    · rename_i hq; cases hq
end
end
section
mutual
def pur (h : Heap) (n : Nat) : Nat → AV → Option PV
  | _, .p .nils => some (.sl [])
  | _, .p x => some x
  | fuel + 1, .ref b g off sz len =>
    if len = 0 then some (.sl []) else
    match s8 h b g with
    | some cells => if n ≤ b ∧ off + len * sz ≤ cells.length then (L4 h n fuel ((cells.drop off).take (len * sz))).map fun l => .sl (B7 sz len l) else none
    | none => none
  | _, _ => none
def L4 (h : Heap) (n : Nat) : Nat → List AV → Option (List PV)
  | _, [] => some []
  | fuel, x :: r => match pur h n fuel x, L4 h n fuel r with
    | some y, some ys => some (y :: ys)
    | _, _ => none
end
def E6 (h : Heap) (n : Nat) : AV → Option AV
  | .agg cells => (L4 h n 5 cells).map fun l => .agg (l.map .p)
  | .ptr b g off => if b < n then some (.ptr b g off) else none
  | x => (pur h n 5 x).map .p
def G4 (h : Heap) (n : Nat) : List AV → Option (List AV)
  | [] => some []
  | x :: r => match E6 h n x, G4 h n r with
    | some y, some ys => some (y :: ys)
    | _, _ => none
def F8 (h : Heap) (n : Nat) : AV → Option AV
  | .tup vs => (G4 h n vs).map .tup
  | x => E6 h n x
inductive AVlt (n : Nat) : AV → Prop where
  | p (x : PV) : AVlt n (.p x)
  | agg (cells : List AV) (h : ∀ x ∈ cells, AVlt n x) : AVlt n (.agg cells)
  | tup (cells : List AV) (h : ∀ x ∈ cells, AVlt n x) : AVlt n (.tup cells)
  | fn (f : FuncId) (cells : List AV) (h : ∀ x ∈ cells, AVlt n x) : AVlt n (.fn f cells)
  | ref (b g off sz len : Nat) (h : b < n) : AVlt n (.ref b g off sz len)
  | ptr (b g off : Nat) (h : b < n) : AVlt n (.ptr b g off)
  | pin (cells : List PV) : AVlt n (.pin cells)
  | mref (b g : Nat) (h : b < n) : AVlt n (.mref b g)
  | mp (es : List (List Int × Bool)) : AVlt n (.mp es)
section
variable {P : Program} {G : Nat → Option (List PV)} {rl : List String} {ι ι' ι0 : Nat → Nat × Nat} {h h' h0 h1 : Heap} {w w' w0 : World} {n n0 : Nat} {s : St} {a : Act}
theorem H2 {α : Type} {l : List α} {n b : Nat} {x : α} (hx : (l.take n)[b]? = some x) : b < n ∧ l[b]? = some x := by
  rw [List.getElem?_take] at hx
  split at hx
  · exact ⟨by assumption, hx⟩
  · cases hx
theorem V4 {k : Nat} (ho : own ι (h.take n) k) : own ι h k := by
  obtain ⟨b, bk, h1, h2, h3⟩ := ho
  exact ⟨b, bk, (H2 h1).2, h2, h3⟩
theorem VRel.lt {x : AV} {v : Value} (hx : VRel ι h w x v) : AVlt h.length x := by
  induction hx with
  | p x v hx => exact .p x
  | agg cells vs hl hv ih =>
    refine .agg _ fun x hx => ?_
    obtain ⟨i, hi, rfl⟩ := List.getElem_of_mem hx
    exact ih i cells[i] (vs[i]'(by omega)) (by simp) (by simp)
  | tup cells vs hl hv ih =>
    refine .tup _ fun x hx => ?_
    obtain ⟨i, hi, rfl⟩ := List.getElem_of_mem hx
    exact ih i cells[i] (vs[i]'(by omega)) (by simp) (by simp)
  | fn f cells vs hl hv ih =>
    refine .fn _ _ fun x hx => ?_
    obtain ⟨i, hi, rfl⟩ := List.getElem_of_mem hx
    exact ih i cells[i] (vs[i]'(by omega)) (by simp) (by simp)
  | ref b g off sz len A c hn hb hg hv => exact .ref _ _ _ _ _ hb
  | ptr b g off A hb hg hv => exact .ptr _ _ _ hb
  | pin cells blk off hv => exact .pin _
  | mref b g r hb hg hv => exact .mref _ _ hb
theorem VRel.take {x : AV} {v : Value} (hx : VRel ι h w x v) (hn : n ≤ h.length) (hl : AVlt n x) : VRel ι (h.take n) w x v := by
  have hlen : (h.take n).length = n := by simp; omega
  induction hx with
  | p x v hx => exact .p _ _ (hx.mono (Nat.le_refl _) fun k _ ho => ⟨rfl, fun e => ho (V4 e)⟩)
  | agg cells vs hl' hv ih => cases hl with | agg _ hc => exact .agg _ _ hl' fun i x v hx hv' => ih i x v hx hv' (hc x (List.mem_of_getElem? hx))
  | tup cells vs hl' hv ih => cases hl with | tup _ hc => exact .tup _ _ hl' fun i x v hx hv' => ih i x v hx hv' (hc x (List.mem_of_getElem? hx))
  | fn f cells vs hl' hv ih => cases hl with | fn _ _ hc => exact .fn _ _ _ hl' fun i x v hx hv' => ih i x v hx hv' (hc x (List.mem_of_getElem? hx))
  | ref b g off sz len A c hn' hb hg hv =>
    cases hl with
    | ref _ _ _ _ _ hb' =>
      refine .ref _ _ _ _ _ _ _ hn' (by omega) (fun bk hq => hg bk (H2 hq).2) fun ⟨bk, hq, e⟩ => ?_
      rcases hv ⟨bk, (H2 hq).2, e⟩ with hz | ⟨hA, hle, ⟨bk0, q0, hne⟩, hcs⟩
      · exact .inl hz
      · exact .inr ⟨hA, hle, ⟨bk0, by rw [List.getElem?_take, if_pos hb']; exact q0, hne⟩, hcs⟩
  | ptr b g off A hb hg hv =>
    cases hl with
    | ptr _ _ _ hb' => exact .ptr _ _ _ _ (by omega) (fun bk hq => hg bk (H2 hq).2) fun ⟨bk, hq, e⟩ => hv ⟨bk, (H2 hq).2, e⟩
  | pin cells blk off hv => exact .pin _ _ _ (hv.mono (Nat.le_refl _) fun k _ ho => ⟨rfl, fun e => ho (V4 e)⟩)
  | mref b g r hb hg hv =>
    cases hl with
    | mref _ _ hb' => exact .mref _ _ _ (by omega) (fun bk hq => hg bk (H2 hq).2) fun ⟨bk, hq, e⟩ => hv ⟨bk, (H2 hq).2, e⟩
theorem SimH.take (hS : SimH P G ι h w) (hn : n ≤ h.length) (hlt : ∀ (b : Nat) (bk : Blk), (h.take n)[b]? = some (some bk) → ∀ x ∈ bk.cells, AVlt n x) : SimH P G ι (h.take n) w := by
  refine ⟨⟨fun b bk hb hne => ?_, fun b b' bk bk' q1 q2 n1 n2 e => hS.hr.inj b b' bk bk' (H2 q1).2 (H2 q2).2 n1 n2 e⟩, fun g cells hg => (hS.gr g cells hg).mono (Nat.le_refl _) fun k _ ho => ⟨rfl, fun e => ho (V4 e)⟩⟩
  exact (hS.hr.blk b bk (H2 hb).2 hne).keep rfl rfl (fun x hx v hv => hv.take hn (hlt b bk hb x hx)) (Nat.le_refl _) fun k _ ho => ⟨rfl, fun e => ho (V4 e)⟩
theorem Evo.take (he : Evo n ι0 h0 w0 ι h w) (hn : n ≤ n0) : Evo n ι0 h0 w0 ι (h.take n0) w where
  size := he.size
  keep := fun k hk ho => ⟨(he.keep k hk ho).1, fun e => (he.keep k hk ho).2 (V4 e)⟩
  len := by have := he.len; simp; omega
  gens := fun b bk' hb hq => he.gens b bk' hb (H2 hq).2
  os := he.os
  output := he.output
  tape := he.tape
  drawn := he.drawn
theorem pj {fuel : Nat} {x : AV} {y : PV} (hx : pur h n fuel x = some y) : (∃ z, x = .p z ∧ (z = .nils ∧ y = .sl [] ∨ y = z)) ∨
    ∃ b g off sz len fuel', x = .ref b g off sz len ∧ fuel = fuel' + 1 ∧ ((len = 0 ∧ y = .sl []) ∨ ∃ cells l, len ≠ 0 ∧ s8 h b g = some cells ∧ n ≤ b ∧ off + len * sz ≤ cells.length ∧ L4 h n fuel' ((cells.drop off).take (len * sz)) = some l ∧ y = .sl (B7 sz len l)) := by
  cases x with
  | p z =>
    cases z <;> cases fuel <;> simp only [pur, Option.some.injEq] at hx <;> subst hx <;> exact .inl ⟨_, rfl, by simp⟩
  | ref b g off sz len =>
    cases fuel with
    | zero => simp [pur] at hx
    | succ fuel =>
      simp only [pur] at hx
      refine .inr ⟨b, g, off, sz, len, fuel, rfl, rfl, ?_⟩
      split at hx
      · rename_i hz; cases hx; exact .inl ⟨hz, rfl⟩
      · rename_i hz
        split at hx
        · rename_i cells hb
          split at hx
          · rename_i hc
            obtain ⟨l, hl, rfl⟩ := Option.map_eq_some_iff.mp hx
            exact .inr ⟨cells, l, hz, hb, hc.1, hc.2, hl, rfl⟩
          · cases hx
        · cases hx
  | agg => cases fuel <;> simp [pur] at hx
  | ptr => cases fuel <;> simp [pur] at hx
  | pin => cases fuel <;> simp [pur] at hx
  | mref => cases fuel <;> simp [pur] at hx
  | mp => cases fuel <;> simp [pur] at hx
  | fn => cases fuel <;> simp [pur] at hx
  | tup => cases fuel <;> simp [pur] at hx
theorem jz : ∀ {fuel : Nat} {l : List AV} {ys : List PV}, L4 h n fuel l = some ys → ys.length = l.length ∧ ∀ (i : Nat) x y, l[i]? = some x → ys[i]? = some y → pur h n fuel x = some y
  | fuel, [], ys, hq => by simp only [L4, Option.some.injEq] at hq; subst hq; simp
  | fuel, x :: r, ys, hq => by
    simp only [L4] at hq
    split at hq
    · rename_i y ys' h1 h2
      cases hq
      obtain ⟨l1, l2⟩ := jz h2
      refine ⟨by simp [l1], fun i u v hu hv => ?_⟩
      cases i with
      | zero => simp at hu hv; rw [← hu, ← hv]; exact h1
      | succ i => simp at hu hv; exact l2 i u v hu hv
    · cases hq
theorem lN (hS : SimH P G ι h w) : ∀ (fuel : Nat) (x : AV) (y : PV) (v : Value), pur h n fuel x = some y → VRel ι h w x v → PRel w (own ι (h.take n)) y v := by
  intro fuel
  induction fuel with
  | zero =>
    intro x y v hp hx
    rcases pj hp with ⟨z, rfl, ⟨rfl, rfl⟩ | rfl⟩ | ⟨b, g, off, sz, len, fuel', _, hf, _⟩
    · have := hx.nils_inv; subst this; exact .slz _ _
    · exact hx.pv.mono (Nat.le_refl _) fun k _ ho => ⟨rfl, fun e => ho (V4 e)⟩
    · omega
  | succ fuel ih =>
    intro x y v hp hx
    rcases pj hp with ⟨z, rfl, ⟨rfl, rfl⟩ | rfl⟩ | ⟨b, g, off, sz, len, fuel', rfl, hf, ⟨rfl, rfl⟩ | ⟨cells, l, hz, hb, hnb, hle, hl, rfl⟩⟩
    · have := hx.nils_inv; subst this; exact .slz _ _
    · exact hx.pv.mono (Nat.le_refl _) fun k _ ho => ⟨rfl, fun e => ho (V4 e)⟩
    · cases hx with
      | ref _ _ _ _ _ A c hn' hb hg hv => exact .slz _ _
    · have : fuel' = fuel := by omega
      subst this
      obtain ⟨A, c, rfl, hn', hcase⟩ := hx.ref_inv (y4 hb)
      rcases hcase with ⟨h0, _⟩ | ⟨rfl, hlc, ⟨bk, hbk, hne⟩, cs, ty, fr, hcs, hcap⟩
      · exact absurd h0 hz
      · obtain ⟨l1, l2⟩ := jz hl
        have hbk' := z8 hb
        rw [hbk'] at hbk; cases hbk
        refine jg l sz len c _ _ (by rw [l1, List.length_take, List.length_drop]; omega) hlc hn' ?_ (G3 hcs) fun j y hy => ?_
        · rintro ⟨b', bk', q1, q2, q3⟩
          obtain ⟨q4, q5⟩ := H2 q1
          have := hS.hr.inj b' b bk' _ q5 hbk' q2 hne q3
          omega
        · have hj := j4 hy
          have hj' : j < ((cells.drop off).take (len * sz)).length := by omega
          obtain ⟨u, hu1, hu2⟩ := ((U3 hS hb fun _ => ⟨cs, ty, fr, hcs⟩).drop off) j _ (by
            have h1 : ((cells.drop off).take (len * sz))[j]? = some (((cells.drop off).take (len * sz))[j]) := List.getElem?_eq_getElem hj'
            rw [List.getElem?_take] at h1
            split at h1
            · exact h1
            · cases h1)
          exact ⟨u, hu1, ih _ y u (l2 j _ y (List.getElem?_eq_getElem hj') hy) hu2⟩
theorem gR (hS : SimH P G ι h w) (hn : n ≤ h.length) {x y : AV} {v : Value} (hp : E6 h n x = some y) (hx : VRel ι h w x v) : VRel ι (h.take n) w y v := by
  unfold E6 at hp
  split at hp
  · rename_i cells
    obtain ⟨l, hl, rfl⟩ := Option.map_eq_some_iff.mp hp
    obtain ⟨l1, l2⟩ := jz hl
    obtain ⟨vs, rfl, e1, e2⟩ := hx.agg_inv
    refine .agg _ _ (by simp; omega) fun i x v hx hv => ?_
    simp only [List.getElem?_map, Option.map_eq_some_iff] at hx
    obtain ⟨z, hz, rfl⟩ := hx
    have hi : i < cells.length := by have := j4 hz; omega
    exact .p _ _ (lN hS 5 _ z v (l2 i cells[i] z (List.getElem?_eq_getElem hi) hz) (e2 i cells[i] v (List.getElem?_eq_getElem hi) hv))
  · rename_i b g off
    split at hp
    · rename_i hb
      cases hp
      exact hx.take hn (.ptr _ _ _ hb)
    · cases hp
  · obtain ⟨z, hz, rfl⟩ := Option.map_eq_some_iff.mp hp
    exact .p _ _ (lN hS 5 _ z v hz hx)
theorem jA : ∀ {l : List AV} {ys : List AV}, G4 h n l = some ys → ys.length = l.length ∧ ∀ (i : Nat) x y, l[i]? = some x → ys[i]? = some y → E6 h n x = some y
  | [], ys, hq => by cases hq; simp
  | x :: r, ys, hq => by
    simp only [G4] at hq
    split at hq
    · rename_i y ys' h1 h2
      cases hq
      obtain ⟨l1, l2⟩ := jA h2
      refine ⟨by simp [l1], fun i u v hu hv => ?_⟩
      cases i with
      | zero => simp at hu hv; rw [← hu, ← hv]; exact h1
      | succ i => simp at hu hv; exact l2 i u v hu hv
    · cases hq
theorem pk (hS : SimH P G ι h w) (hn : n ≤ h.length) {x y : AV} {v : Value} (hp : F8 h n x = some y) (hx : VRel ι h w x v) : VRel ι (h.take n) w y v := by
  unfold F8 at hp
  split at hp
  · rename_i cells
    obtain ⟨l, hl, rfl⟩ := Option.map_eq_some_iff.mp hp
    obtain ⟨l1, l2⟩ := jA hl
    cases hx with
    | tup _ vs e1 e2 =>
      refine .tup _ _ (by omega) fun i x v hx hv => ?_
      have hi : i < cells.length := by have := j4 hx; omega
      exact gR hS hn (l2 i cells[i] x (List.getElem?_eq_getElem hi) hx) (e2 i cells[i] v (List.getElem?_eq_getElem hi) hv)
  · exact gR hS hn hp hx
def ee (args : List AV) (nt : Nat) (h : Heap) : St := ⟨fun k => args[k]?, nt, h⟩
def Fin (P : Program) (rs : List ResultVar) (n : Nat) (h : Heap) (K : AV → Heap → Prop) (s : St) : Prop :=
  h.length ≤ n ∧ n ≤ s.heap.length ∧ ∃ r r', Q3 P s rs = some r ∧ F8 s.heap n r = some r' ∧
    (∀ (b : Nat) (bk : Blk), (s.heap.take n)[b]? = some (some bk) → h[b]? = some (some bk) ∨ ∀ x ∈ bk.cells, AVlt n x) ∧ K r' (s.heap.take n)
theorem AVlt.mono {x : AV} {m : Nat} (hx : AVlt n x) (hm : n ≤ m) : AVlt m x := by
  induction hx with
  | p x => exact .p x
  | agg cells h ih => exact .agg _ ih
  | tup cells h ih => exact .tup _ ih
  | fn f cells h ih => exact .fn _ _ ih
  | ref b g off sz len h => exact .ref _ _ _ _ _ (by omega)
  | ptr b g off h => exact .ptr _ _ _ (by omega)
  | pin cells => exact .pin _
  | mref b g h => exact .mref _ _ (by omega)
  | mp es => exact .mp _
theorem sS (hS : SimH P G ι h w) {b : Nat} {bk : Blk} (hb : h[b]? = some (some bk)) : ∀ x ∈ bk.cells, AVlt h.length x := by
  intro x hx
  have hne : bk.cells ≠ [] := List.ne_nil_of_mem hx
  rcases hS.hr.blk b bk hb hne with ⟨c, ty, _, _, hv⟩ | ⟨es, e1, _⟩
  · obtain ⟨i, hi, rfl⟩ := List.getElem_of_mem hx
    obtain ⟨v, _, p2⟩ := hv i _ (List.getElem?_eq_getElem hi)
    exact p2.lt
  · rw [e1, List.mem_singleton] at hx
    subst hx
    exact .mp _
theorem eh (hm : P.follows .mixedOrders = true) {f : FuncId} {fn : Func} {c : Code} (hf : P.funcs[f]? = some fn) (hb : fn.body = some c) {args : List AV} {K : AV → Heap → Prop}
    (hnt : args.length ≤ fn.ntmps) (n : Nat)
    (H : awp P G rl h c (fun e s => (e = .normal ∨ e = .ret) ∧ Fin P fn.results.toList n h K s) (ee args fn.ntmps h)) : d5 P G f args h K := by
  intro ι w vs hS hv
  refine calls_of_wp hf hb ?_
  have hs : Sim P G ι (ee args fn.ntmps h) { tmps := vs ++ Array.replicate (fn.ntmps - vs.size) undef, defers := [] } w := by
    refine ⟨hS, fun k x hx => ?_, ?_, rfl⟩
    · have hk : k < args.length := j4 hx
      have hk' : k < vs.size := by rw [← hv.1]; exact hk
      exact ⟨vs[k], by rw [Array.getElem?_append_left hk']; simp, hv.2 k x _ hx (by simp)⟩
    · have := hv.1
      simp [ee]; omega
  refine wp_mono (lM hm hS c _ _ ι _ w hs (.refl (Nat.le_refl h.length)) H) fun e a w' ⟨s', ι', ⟨he, hn1, hn2, r, r', hr, hl, hlt, hk⟩, hs', hev⟩ => ?_
  obtain ⟨v, hrun, hrv⟩ := jy hs' hr
  have hpost : a.defers = [] ∧ ∃ v, (results fn a.tmps).run P w' = .ok v w' ∧ ∃ v1 r h' ι', Ending.returned v = .returned v1 ∧ K r h' ∧ SimH P G ι' h' w' ∧ VRel ι' h' w' r v1 ∧ Evo h.length ι h w ι' h' w' := by
    refine ⟨hs'.df, v, hrun, v, r', s'.heap.take n, ι', rfl, hk, hs'.hS.take hn2 (fun b bk hb x hx => ?_), pk hs'.hS hn2 hl hrv, hev.take hn1⟩
    rcases hlt b bk hb with hq | hq
    · exact (sS hS hq x hx).mono hn1
    · exact hq x hx
  rcases he with rfl | rfl <;> exact hpost
theorem d5.mono {f : FuncId} {args : List AV} {K K' : AV → Heap → Prop} (hc : d5 P G f args h K) (hk : ∀ r h', K r h' → K' r h') : d5 P G f args h K' :=
  fun ι w vs hS hv => (hc ι w vs hS hv).mono fun e w' ⟨v, r, h', ι', e1, e2, e3⟩ => ⟨v, r, h', ι', e1, hk _ _ e2, e3⟩
theorem o8.refl : o8 P G h0 s s := fun ι a w ι0 w0 _ hs he => ⟨ι, hs, he⟩
theorem o8.trans {s' s'' : St} (h1 : o8 P G h0 s s') (h2 : o8 P G h0 s' s'') : o8 P G h0 s s'' := fun ι a w ι0 w0 hS hs he =>
  let ⟨ι', hs', he'⟩ := h1 ι a w ι0 w0 hS hs he
  h2 ι' a w ι0 w0 hS hs' he'
theorem o8.le {s' : St} (hnt : s'.nt = s.nt) (m : Nat) (hm : h0.length ≤ m) (hm2 : m ≤ s.heap.length) (hh : s'.heap = s.heap.take m) (hf : ∀ k x, s'.fr k = some x → s.fr k = some x ∧ AVlt m x)
    (hb : ∀ (b : Nat) (bk : Blk), (s.heap.take m)[b]? = some (some bk) → h0[b]? = some (some bk) ∨ ∀ x ∈ bk.cells, AVlt m x) : o8 P G h0 s s' := by
  intro ι a w ι0 w0 hS hs he
  refine ⟨ι, ⟨?_, fun k x hx => ?_, by rw [hnt]; exact hs.nt, hs.df⟩, ?_⟩
  · rw [hh]
    refine hs.hS.take hm2 fun b bk hq x hx => ?_
    rcases hb b bk hq with h1 | h1
    · exact (sS hS h1 x hx).mono hm
    · exact h1 x hx
  · obtain ⟨h1, h2⟩ := hf k x hx
    obtain ⟨v, p1, p2⟩ := hs.fr k x h1
    exact ⟨v, p1, by rw [hh]; exact p2.take hm2 h2⟩
  · rw [hh]; exact he.take hm
theorem dz {b g : Nat} {bk : Option Blk} (hb : b < h.length) : A7 (h ++ [bk]) b g ↔ A7 h b g := by
  unfold A7; rw [List.getElem?_append_left hb]
theorem R4 {k : Nat} {g : Nat} : own ι (h ++ [some ⟨g, []⟩]) k ↔ own ι h k := by
  constructor
  · rintro ⟨b, bk, h1, h2, h3⟩
    rcases Nat.lt_or_ge b h.length with hl | hl
    · rw [List.getElem?_append_left hl] at h1; exact ⟨b, bk, h1, h2, h3⟩
    · rw [List.getElem?_append_right hl] at h1
      cases hq : b - h.length with
      | zero => rw [hq] at h1; simp at h1; subst h1; exact absurd rfl h2
      | succ i => rw [hq] at h1; simp at h1
  · rintro ⟨b, bk, h1, h2, h3⟩
    exact ⟨b, bk, by rw [List.getElem?_append_left (j4 h1)]; exact h1, h2, h3⟩
theorem VRel.virt {x : AV} {v : Value} {g : Nat} (hx : VRel ι h w x v) : VRel ι (h ++ [some ⟨g, []⟩]) w x v := by
  induction hx with
  | p x v hx => exact .p _ _ (hx.mono (Nat.le_refl _) fun k _ ho => ⟨rfl, fun e => ho (R4.mp e)⟩)
  | agg cells vs hl hv ih => exact .agg _ _ hl ih
  | tup cells vs hl hv ih => exact .tup _ _ hl ih
  | fn f cells vs hl hv ih => exact .fn _ _ _ hl ih
  | ref b g off sz len A c hn hb hg hv =>
    refine .ref _ _ _ _ _ _ _ hn (by simp; omega) (fun bk hq => hg bk (by rwa [List.getElem?_append_left hb] at hq)) fun hl => ?_
    rcases hv ((dz hb).mp hl) with hz | ⟨hA, hle, ⟨bk0, q0, hne⟩, hcs⟩
    · exact .inl hz
    · exact .inr ⟨hA, hle, ⟨bk0, by rw [List.getElem?_append_left hb]; exact q0, hne⟩, hcs⟩
  | ptr b g off A hb hg hv => exact .ptr _ _ _ _ (by simp; omega) (fun bk hq => hg bk (by rwa [List.getElem?_append_left hb] at hq)) fun hl => hv ((dz hb).mp hl)
  | pin cells blk off hv => exact .pin _ _ _ (hv.mono (Nat.le_refl _) fun k _ ho => ⟨rfl, fun e => ho (R4.mp e)⟩)
  | mref b g r hb hg hv => exact .mref _ _ _ (by simp; omega) (fun bk hq => hg bk (by rwa [List.getElem?_append_left hb] at hq)) fun hl => hv ((dz hb).mp hl)
theorem o8.adopt (k sz : Nat) (hk : s.fr k = some (.p .nils)) : o8 P G h0 s { s with fr := upd s.fr k (.ref s.heap.length 0 0 sz 0), heap := s.heap ++ [some ⟨0, []⟩] } := by
  intro ι a w ι0 w0 hS hs he
  refine ⟨ι, ⟨⟨⟨fun b bk hb hne => ?_, fun b b' bk bk' q1 q2 n1 n2 e => ?_⟩, fun g cells hg => (hs.hS.gr g cells hg).mono (Nat.le_refl _) fun k _ ho => ⟨rfl, fun e => ho (R4.mp e)⟩⟩, fun j x hx => ?_, hs.nt, hs.df⟩, ?_⟩
  · have hl : b < s.heap.length := by
      rcases Nat.lt_or_ge b s.heap.length with hl | hl
      · exact hl
      · rw [List.getElem?_append_right hl] at hb
        cases hq : b - s.heap.length with
        | zero => rw [hq] at hb; simp at hb; subst hb; exact absurd rfl hne
        | succ i => rw [hq] at hb; simp at hb
    rw [List.getElem?_append_left hl] at hb
    exact (hs.hS.hr.blk b bk hb hne).keep rfl rfl (fun x _ v hv => hv.virt) (Nat.le_refl _) fun k _ ho => ⟨rfl, fun e => ho (R4.mp e)⟩
  · have hl : ∀ (b : Nat) (bk : Blk), (s.heap ++ [some ⟨0, []⟩])[b]? = some (some bk) → bk.cells ≠ [] → s.heap[b]? = some (some bk) := by
      intro b bk hb hne
      rcases Nat.lt_or_ge b s.heap.length with hl | hl
      · rwa [List.getElem?_append_left hl] at hb
      · rw [List.getElem?_append_right hl] at hb
        cases hq : b - s.heap.length with
        | zero => rw [hq] at hb; simp at hb; subst hb; exact absurd rfl hne
        | succ i => rw [hq] at hb; simp at hb
    exact hs.hS.hr.inj b b' bk bk' (hl b bk q1 n1) (hl b' bk' q2 n2) n1 n2 e
  · simp only [upd] at hx
    split at hx
    · rename_i hj; subst hj
      cases hx
      obtain ⟨v, p1, p2⟩ := hs.fr j _ hk
      have := p2.nils_inv; subst this
      exact ⟨_, p1, .ref _ _ _ _ _ _ _ (by omega) (by simp) (fun bk hq => Nat.zero_le _) fun _ => .inl ⟨rfl, rfl⟩⟩
    · obtain ⟨v, p1, p2⟩ := hs.fr j x hx
      exact ⟨v, p1, p2.virt⟩
  · refine ⟨he.size, fun j hj ho => ⟨(he.keep j hj ho).1, fun e => (he.keep j hj ho).2 (R4.mp e)⟩, by have := he.len; simp; omega, fun b bk' hb hq => ?_, he.os, he.output, he.tape, he.drawn⟩
    have hl : b < s.heap.length := Nat.lt_of_lt_of_le hb he.len
    rw [List.getElem?_append_left hl] at hq
    exact he.gens b bk' hb hq
theorem o8.lay : o8 P G h0 s ⟨s.fr, s.nt, s.heap ++ [some ⟨0, []⟩]⟩ := by
  intro ι a w ι0 w0 hS hs he
  have hlo : ∀ (b : Nat) (bk : Blk), (s.heap ++ [some ⟨0, []⟩])[b]? = some (some bk) → bk.cells ≠ [] → s.heap[b]? = some (some bk) := by
    intro b bk hb hne
    rcases Nat.lt_or_ge b s.heap.length with hl | hl
    · rwa [List.getElem?_append_left hl] at hb
    · rw [List.getElem?_append_right hl] at hb
      cases hq : b - s.heap.length with
      | zero => rw [hq] at hb; simp at hb; subst hb; exact absurd rfl hne
      | succ i => rw [hq] at hb; simp at hb
  refine ⟨ι, ⟨⟨⟨fun b bk hb hne => ?_, fun b b' bk bk' q1 q2 n1 n2 e => hs.hS.hr.inj b b' bk bk' (hlo b bk q1 n1) (hlo b' bk' q2 n2) n1 n2 e⟩,
    fun g cells hg => (hs.hS.gr g cells hg).mono (Nat.le_refl _) fun k _ ho => ⟨rfl, fun e => ho (R4.mp e)⟩⟩, fun j x hx => ?_, hs.nt, hs.df⟩, ?_⟩
  · exact (hs.hS.hr.blk b bk (hlo b bk hb hne) hne).keep rfl rfl (fun x _ v hv => hv.virt) (Nat.le_refl _) fun k _ ho => ⟨rfl, fun e => ho (R4.mp e)⟩
  · obtain ⟨v, p1, p2⟩ := hs.fr j x hx
    exact ⟨v, p1, p2.virt⟩
  · refine ⟨he.size, fun j hj ho => ⟨(he.keep j hj ho).1, fun e => (he.keep j hj ho).2 (R4.mp e)⟩, by have := he.len; simp; omega, fun b bk' hb hq => ?_, he.os, he.output, he.tape, he.drawn⟩
    have hl : b < s.heap.length := Nat.lt_of_lt_of_le hb he.len
    rw [List.getElem?_append_left hl] at hq
    exact he.gens b bk' hb hq
theorem o8.res : ∀ r : Nat, o8 P G h0 s ⟨s.fr, s.nt, s.heap ++ List.replicate r (some ⟨0, []⟩)⟩
  | 0 => by simp only [List.replicate_zero, List.append_nil]; exact .refl
  | r + 1 => by
    refine (o8.res r).trans ?_
    rw [List.replicate_succ', ← List.append_assoc]
    exact o8.lay
theorem dA {K K' : St → Prop} {Q Q' : Exit → St → Prop} (hk : ∀ s, K s → K' s) (hq : ∀ e s, Q e s → Q' e s) : ∀ e s, M7 K Q e s → M7 K' Q' e s := by
  intro e s h
  cases e <;> first | exact hk _ h | exact hq _ _ h
theorem pm {id : Nat} {Q Q' : Exit → St → Prop} (hq : ∀ e s, Q e s → Q' e s) : ∀ e s, ay id Q e s → ay id Q' e s := by
  intro e s h
  cases e with
  | exit i =>
    simp only [ay] at *
    split at h
    · rename_i hi; rw [if_pos hi]; exact hq _ _ h
    · rename_i hi; rw [if_neg hi]; exact hq _ _ h
  | _ => exact hq _ _ h
theorem rg {K K' : St → Prop} {o : Oper} (hk : ∀ s, K s → K' s) (h : X2 P G rl o K s) : X2 P G rl o K' s := by
  unfold X2 at *
  cases hc : K8 o with
  | some q =>
    obtain ⟨f, args⟩ := q
    simp only [hc] at h ⊢
    split at h
    · exact ⟨h.1, h.2.mono fun r h' hh => hk _ hh⟩
    · exact h
  | none =>
    simp only [hc] at h ⊢
    split at h
    · exact hk _ h
    · exact h
theorem fQ {K K' : St → Prop} {ops : Array Oper} (hk : ∀ s, K s → K' s) : ∀ (l : List Oper) (s : St), n9 P G rl ops K l s → n9 P G rl ops K' l s
  | [], s, h => hk _ h
  | o :: r, s, h => by
    simp only [n9, aop] at *
    split at h
    · exact ⟨fun e => rg (fQ hk r) (h.1 e), fun e => fQ hk r _ (h.2 e)⟩
    · exact h
variable {es : List Nat}
theorem dB {K K' : St → Prop} {ops : Array Oper} (hk : ∀ s, K s → K' s) : ∀ (l : List Nat) (s : St), n5 P G rl es ops K l s → n5 P G rl es ops K' l s
  | [], s, h => hk s h
  | k :: rest, s, h => by
    unfold n5 at *
    split at h
    · exact h.elim
    · rename_i o ho
      (try simp only [ho])
      split at h
      · rename_i he; rw [if_pos he]; exact ⟨h.1, fM (dB hk rest) h.2⟩
      · rename_i he; rw [if_neg he]; obtain ⟨hh, v, h1, h2⟩ := h; exact ⟨hh, v, h1, dB hk rest _ h2⟩
theorem ct {K K' : St → Prop} {ops : Array Oper} {fs : List Nat} {base r : Nat} (hk : ∀ s, K s → K' s) : ∀ (l : List Nat) (s : St), o6 P G rl es ops fs base r K l s → o6 P G rl es ops fs base r K' l s
  | [], s, h => hk s h
  | k :: rest, s, h => by
    unfold o6 at *
    split at h
    · exact h.elim
    · rename_i o ho
      (try simp only [ho])
      split at h
      · rename_i ha; rw [if_pos ha]; obtain ⟨z, h1, h2, h3⟩ := h; exact ⟨z, h1, h2, ct hk rest _ h3⟩
      · rename_i ha
        rw [if_neg ha]
        split at h
        · rename_i he; rw [if_pos he]; exact dB hk _ _ h
        · rename_i he
          rw [if_neg he]
          split at h
          · rename_i hh; rw [if_pos hh]; obtain ⟨v, h1, h2⟩ := h; exact ⟨v, h1, ct hk rest _ h2⟩
          · rename_i hh; rw [if_neg hh]; obtain ⟨v, h1, h2⟩ := h; exact ⟨v, h1, ct hk rest _ h2⟩
theorem dC {K K' : St → Prop} {ops : Array Oper} (hk : ∀ s, K s → K' s) : ∀ (l : List Oper) (s : St), l8 P G rl ops K l s → l8 P G rl ops K' l s
  | [], s, h => hk s h
  | o :: r, s, h => by
    unfold l8 at *
    split at h
    · rename_i he; rw [if_pos he]; exact fN he (dC hk r) h
    · rename_i he; rw [if_neg he]; obtain ⟨v, h1, h2⟩ := h; exact ⟨v, h1, dC hk r _ h2⟩
theorem jB {K K' : St → Prop} {ops : Array Oper} (hk : ∀ s, K s → K' s) : ∀ (l : List Oper) (s : St), k3 P G rl ops K l s → k3 P G rl ops K' l s
  | [], s, h => hk _ h
  | o :: r, s, h => by
    obtain ⟨v, h1, h2⟩ := s9.mp h
    exact s9.mpr ⟨v, h1, jB hk r _ h2⟩
theorem jC : ∀ (c : Code) (Q Q' : Exit → St → Prop) (s : St), (∀ e s, Q e s → Q' e s) → awp P G rl h0 c Q s → awp P G rl h0 c Q' s := by
  intro c
  induction c with
  | skip => intro Q Q' s hq h; exact hq _ _ h
  | label l => intro Q Q' s hq h; exact hq _ _ h
  | region id ops draw =>
    intro Q Q' s hq h
    unfold awp at *
    cases draw with
    | true => exact h.imp (fun h => ⟨h.1, jB (fun s hh => hq _ _ hh) _ _ h.2⟩) (fun h => h.imp (fun h => ⟨h.1, dC (fun s hh => hq _ _ hh) _ _ h.2⟩) fun ⟨s1, base, r, ord, fs, es, h1, h2, h3, hi, h4⟩ => ⟨s1, base, r, ord, fs, es, h1, h2, h3, hi, ct (fun s hh => hq _ _ hh) _ _ h4⟩)
    | false => exact fQ (fun s hh => hq _ _ hh) _ _ h
  | seq a b iha ihb =>
    intro Q Q' s hq ⟨J, h1, h2⟩
    exact ⟨J, iha _ _ s (dA (fun _ h => h) hq) h1, fun s1 hj => ihb _ _ s1 hq (h2 s1 hj)⟩
  | cond c x y ihx ihy =>
    intro Q Q' s hq h
    change jv (A5 G s c) (awp P G rl h0 x Q s) (awp P G rl h0 y Q s) at h
    change jv (A5 G s c) (awp P G rl h0 x Q' s) (awp P G rl h0 y Q' s)
    have h1 := ihx Q Q' s hq
    have h2 := ihy Q Q' s hq
    revert h
    generalize A5 G s c = v
    intro h
    unfold jv at *
    split at h
    · exact ⟨fun e => h1 (h.1 e), fun e => h2 (h.2 e)⟩
    · exact h.elim
  | block id c ih =>
    intro Q Q' s hq h
    exact ih _ _ s (pm hq) h
  | loop c ih =>
    intro Q Q' s hq ⟨I, h1, h2⟩
    exact ⟨I, h1, fun n s hi => ih _ _ s (dA (fun _ h => h) hq) (h2 n s hi)⟩
  | exit id => intro Q Q' s hq h; exact hq _ _ h
  | ret => intro Q Q' s hq h; exact hq _ _ h
  | _ => intro Q Q' s hq h; exact h
theorem xM {x y : Code} {Q : Exit → St → Prop} (h : awp P G rl h0 x (M7 (fun s' => awp P G rl h0 y Q s') Q) s) : awp P G rl h0 (.seq x y) Q s :=
  ⟨awp P G rl h0 y Q, jC _ _ _ _ (dA (fun s hh => ⟨s, .refl, hh⟩) fun _ _ hh => hh) h, fun _ h => h⟩
theorem b6 {x y : Code} {Q : Exit → St → Prop} (h : ∀ K : St → Prop, (∀ s, awp P G rl h0 y Q s → K s) → awp P G rl h0 x (M7 K Q) s) : awp P G rl h0 (.seq x y) Q s :=
  xM (h _ fun _ h => h)
theorem b5 {id : Nat} {ops : Array Oper} {Q : Exit → St → Prop} (h : n9 P G rl ops (Q .normal) ops.toList s) : awp P G rl h0 (.region id ops false) Q s := h
theorem vK {id : Nat} {ops : Array Oper} {Q : Exit → St → Prop} (hB : Region.lexB .any ops = true) (h : k3 P G rl ops (Q .normal) ops.toList s) : awp P G rl h0 (.region id ops true) Q s := .inl ⟨hB, h⟩
theorem ei (fr : Nat → Option AV) (d : Nat) (v : AV) : upd fr d v d = some v := by simp [upd]
theorem o9 {id : Nat} {ops : Array Oper} {Q : Exit → St → Prop} {fr : Nat → Option AV} {nt : Nat} {hp : Heap} (ord : List Nat) (r : Nat) (hl : ord.length = ops.size) (hr : (zsB P ops).length = r) {fs : List Nat} (hB : js es .any ops fs ord (Array.replicate ops.size false) = true)
    (h : o6 P G rl es ops fs hp.length r (Q .normal) ord ⟨fr, nt, hp ++ List.replicate r (some ⟨0, []⟩)⟩) : awp P G rl h0 (.region id ops true) Q ⟨fr, nt, hp⟩ :=
  .inr (.inr ⟨_, hp.length, r, ord, fs, es, o8.res (s := ⟨fr, nt, hp⟩) r, hl, hB, bu.start hr, h⟩)
theorem C4 {ops : Array Oper} {fs : List Nat} {base r : Nat} {K : St → Prop} (h : K s) : o6 P G rl es ops fs base r K [] s := h
theorem s4 {ops : Array Oper} {K : St → Prop} (h : K s) : n5 P G rl es ops K [] s := h
theorem s5 {ops : Array Oper} {fs : List Nat} {base r k : Nat} {K0 : St → Prop} {o : Oper} {rest : List Nat} (ho : ops.toList[k]? = some o) (ha : r6 o = false) (he : ad es k o = true) (h : n5 P G rl es ops K0 (k :: rest) s) : o6 P G rl es ops fs base r K0 (k :: rest) s := by
  have ho : ops[k]? = some o := by rw [← Array.getElem?_toList]; exact ho
  unfold o6; simp only [ho]; rw [if_neg (by rw [ha]; decide), if_pos he]; exact h
theorem v8 {ops : Array Oper} {k : Nat} {K0 : St → Prop} {o : Oper} {rest : List Nat} (ho : ops.toList[k]? = some o) (ha : r6 o = false) (he : ad es k o = true) (h : ∀ K : St → Prop, (∀ s, n5 P G rl es ops K0 rest s → K s) → aop P G rl ops o K s) : n5 P G rl es ops K0 (k :: rest) s := by
  have ho : ops[k]? = some o := by rw [← Array.getElem?_toList]; exact ho
  unfold n5; simp only [ho]; rw [if_pos he]; exact ⟨ha, h _ fun _ h => h⟩
theorem rh {ops : Array Oper} {fs : List Nat} {r k d nt : Nat} {K0 : St → Prop} {o : Oper} {rest : List Nat} {fr : Nat → Option AV} {hp R : Heap} {z : List PV} (ho : ops.toList[k]? = some o) (ha : r6 o = true) (hz : T0 P o = some z) (hd : o.dst = some d) (hlt : d < nt)
    (hs : R[A6 ops k]? = some (some ⟨0, []⟩)) (h : o6 P G rl es ops fs hp.length r K0 rest ⟨upd fr d (.ptr (hp.length + A6 ops k) 1 0), nt, hp ++ R.set (A6 ops k) (some ⟨1, z.map .p⟩)⟩) : o6 P G rl es ops fs hp.length r K0 (k :: rest) ⟨fr, nt, hp ++ R⟩ := by
  have ho : ops[k]? = some o := by rw [← Array.getElem?_toList]; exact ho
  unfold o6
  simp only [ho]
  rw [if_pos ha]
  refine ⟨z, hz, by rw [List.getElem?_append_right (by omega)]; rw [show hp.length + A6 ops k - hp.length = A6 ops k by omega]; exact hs, ?_⟩
  rw [hd]
  simp only [St.put, St.setB, hlt, if_true]
  rw [List.set_append_right _ _ (by omega), show hp.length + A6 ops k - hp.length = A6 ops k by omega]
  exact h
theorem eo {o : Oper} (hf : B0 o = true) : ¬ r6 o = true ∧ ¬ ab o = true := by
  constructor
  · unfold B0 at hf; unfold r6
    split at hf <;> simp_all
  · unfold B0 at hf; unfold ab
    split at hf <;> simp_all
theorem cT {o : Oper} {k : Nat} (hf : (B0 o && !es.contains k) = true) : ¬ ad es k o = true := by
  simp only [Bool.and_eq_true, Bool.not_eq_true'] at hf
  unfold ad
  rw [hf.2, Bool.or_false]
  exact (eo hf.1).2
theorem sT {o : Oper} {k : Nat} (he : ad es k o = false) : ab o = false := by
  unfold ad at he
  rw [Bool.or_eq_false_iff] at he
  exact he.1
theorem lO {ops : Array Oper} {d nt : Nat} {o : Oper} {fr : Nat → Option AV} {H : Heap} {v : AV} (hf : B0 o = true) (hd : o.dst = some d) (hlt : d < nt)
    (hv : ∀ (K : St → Prop), (∀ (fr' : Nat → Option AV) (nt' : Nat) (hp' : Heap), K ⟨upd fr' d v, nt', hp'⟩) → cM P G rl ops o K ⟨fr, nt, H⟩) : af P G rl ops o v ⟨fr, nt, H⟩ := fun H' => by
  obtain ⟨u, hy, hk⟩ := s9.mp (hv (fun s' => s'.fr d = some v) (fun fr' _ _ => ei fr' d v))
  rw [hd] at hk
  simp only [St.put, hlt, if_true, upd] at hk
  cases hk
  exact nh hf hy
theorem X4 {ops : Array Oper} {k d nt : Nat} {K0 : St → Prop} {o : Oper} {rest : List Nat} {fr : Nat → Option AV} {H : Heap} {v : AV} (ho : ops.toList[k]? = some o) (hf : (B0 o && !es.contains k) = true) (hd : o.dst = some d) (hlt : d < nt)
    (hv : ∀ (K : St → Prop), (∀ (fr' : Nat → Option AV) (nt' : Nat) (hp' : Heap), K ⟨upd fr' d v, nt', hp'⟩) → cM P G rl ops o K ⟨fr, nt, H⟩) (h : n5 P G rl es ops K0 rest ⟨upd fr d v, nt, H⟩) : n5 P G rl es ops K0 (k :: rest) ⟨fr, nt, H⟩ := by
  have ho : ops[k]? = some o := by rw [← Array.getElem?_toList]; exact ho
  have he : ¬ ad es k o = true := cT hf
  have hf : B0 o = true := by simp only [Bool.and_eq_true] at hf; exact hf.1
  unfold n5
  simp only [ho]
  rw [if_neg he]
  refine ⟨hf, v, lO hf hd hlt hv, ?_⟩
  rw [hd]; simp only [St.put, hlt, if_true]; exact h
theorem y5 {ops : Array Oper} {fs : List Nat} {base r k d nt : Nat} {K0 : St → Prop} {o : Oper} {rest : List Nat} {fr : Nat → Option AV} {H : Heap} {v : AV} (ho : ops.toList[k]? = some o) (hf : (B0 o && !es.contains k) = true) (hd : o.dst = some d) (hlt : d < nt)
    (hv : ∀ (K : St → Prop), (∀ (fr' : Nat → Option AV) (nt' : Nat) (hp' : Heap), K ⟨upd fr' d v, nt', hp'⟩) → cM P G rl ops o K ⟨fr, nt, H⟩) (h : o6 P G rl es ops fs base r K0 rest ⟨upd fr d v, nt, H⟩) : o6 P G rl es ops fs base r K0 (k :: rest) ⟨fr, nt, H⟩ := by
  have ho : ops[k]? = some o := by rw [← Array.getElem?_toList]; exact ho
  have he : ¬ ad es k o = true := cT hf
  have hf : B0 o = true := by simp only [Bool.and_eq_true] at hf; exact hf.1
  unfold o6
  simp only [ho]
  rw [if_neg (eo hf).1, if_neg he, if_pos (by rw [hf]; rfl)]
  refine ⟨v, lO hf hd hlt hv, ?_⟩
  rw [hd]; simp only [St.put, hlt, if_true]; exact h
theorem C2 {ops : Array Oper} {fs : List Nat} {r k d nt : Nat} {K0 : St → Prop} {o : Oper} {rest : List Nat} {fr : Nat → Option AV} {hp R : Heap} {z : List PV} (j : Nat) (hj : A6 ops k = j) (ho : ops.toList[k]? = some o) (ha : r6 o = true) (hd : o.dst = some d) (hlt : d < nt)
    (hs : R[j]? = some (some ⟨0, []⟩)) (hz : T0 P o = some z) (h : o6 P G rl es ops fs hp.length r K0 rest ⟨upd fr d (.ptr (hp.length + j) 1 0), nt, hp ++ R.set j (some ⟨1, z.map .p⟩)⟩) : o6 P G rl es ops fs hp.length r K0 (k :: rest) ⟨fr, nt, hp ++ R⟩ := by
  subst hj; exact rh ho ha hz hd hlt hs h
theorem u6 {ops : Array Oper} {fs : List Nat} {r k d nt : Nat} {K0 : St → Prop} {o : Oper} {rest : List Nat} {fr : Nat → Option AV} {hp R : Heap} {v : AV} (ho : ops.toList[k]? = some o) (he : ad es k o = false) (hh : (B0 o || fs.contains k) = false) (hd : o.dst = some d) (hlt : d < nt)
    (hv : ∀ (R' : Heap) (K : St → Prop), (∀ (fr' : Nat → Option AV) (nt' : Nat) (hp' : Heap), K ⟨upd fr' d v, nt', hp'⟩) → cM P G rl ops o K ⟨fr, nt, hp ++ R'⟩) (h : o6 P G rl es ops fs hp.length r K0 rest ⟨upd fr d v, nt, hp ++ R⟩) : o6 P G rl es ops fs hp.length r K0 (k :: rest) ⟨fr, nt, hp ++ R⟩ := by
  have ho : ops[k]? = some o := by rw [← Array.getElem?_toList]; exact ho
  unfold o6
  simp only [ho]
  have ha : ¬ r6 o = true := by
    intro e
    unfold r6 at e
    have he : ab o = false := sT he
    unfold ab at he
    simp only [Bool.and_eq_true] at e
    cases hop : o.op <;> simp_all
  rw [if_neg ha, if_neg (by rw [he]; decide), if_neg (by rw [hh]; decide)]
  refine ⟨v, fun R' hR' => ?_, ?_⟩
  · obtain ⟨u, hy, hk⟩ := s9.mp (hv R' (fun s' => s'.fr d = some v) (fun fr' _ _ => ei fr' d v))
    rw [hd] at hk
    simp only [St.put, hlt, if_true, upd] at hk
    cases hk
    have : (hp ++ R).take hp.length = hp := by simp
    simp only [this]
    exact hy
  · rw [hd]
    simp only [St.put, hlt, if_true]
    exact h
theorem vL {ops : Array Oper} {fs : List Nat} {r k d nt : Nat} {K0 : St → Prop} {o : Oper} {rest : List Nat} {fr : Nat → Option AV} {hp R : Heap} {v : AV} (ho : ops.toList[k]? = some o) (he : ad es k o = false) (hf : fs.contains k = true) (hd : o.dst = some d) (hlt : d < nt)
    (hv : ∀ (H : Heap) (K : St → Prop), (∀ (fr' : Nat → Option AV) (nt' : Nat) (hp' : Heap), K ⟨upd fr' d v, nt', hp'⟩) → cM P G rl ops o K ⟨fr, nt, H⟩) (h : o6 P G rl es ops fs hp.length r K0 rest ⟨upd fr d v, nt, hp ++ R⟩) : o6 P G rl es ops fs hp.length r K0 (k :: rest) ⟨fr, nt, hp ++ R⟩ := by
  have ho : ops[k]? = some o := by rw [← Array.getElem?_toList]; exact ho
  unfold o6
  simp only [ho]
  have ha : ¬ r6 o = true := by
    intro e
    unfold r6 at e
    have he : ab o = false := sT he
    unfold ab at he
    simp only [Bool.and_eq_true] at e
    cases hop : o.op <;> simp_all
  rw [if_neg ha, if_neg (by rw [he]; decide), if_pos (by rw [hf, Bool.or_true])]
  refine ⟨v, fun H => ?_, ?_⟩
  · obtain ⟨u, hy, hk⟩ := s9.mp (hv H (fun s' => s'.fr d = some v) (fun fr' _ _ => ei fr' d v))
    rw [hd] at hk
    simp only [St.put, hlt, if_true, upd] at hk
    cases hk
    exact hy
  · rw [hd]
    simp only [St.put, hlt, if_true]
    exact h
theorem E7 {id : Nat} {ops : Array Oper} {Q : Exit → St → Prop} (hB : qX .any ops ops.size 0 (Array.replicate ops.size false) = true) (h : l8 P G rl ops (Q .normal) ops.toList s) : awp P G rl h0 (.region id ops true) Q s := .inr (.inl ⟨hB, h⟩)
theorem E8 {ops : Array Oper} {K : St → Prop} (h : K s) : l8 P G rl ops K [] s := h
theorem J7 {ops : Array Oper} {K0 : St → Prop} {o : Oper} {rest : List Oper} (he : ab o = true) (h : ∀ K : St → Prop, (∀ s, l8 P G rl ops K0 rest s → K s) → aop P G rl ops o K s) : l8 P G rl ops K0 (o :: rest) s := by
  unfold l8; rw [if_pos he]; exact h _ fun _ h => h
theorem O0 {ops : Array Oper} {K0 : St → Prop} {o : Oper} {rest : List Oper} {d nt : Nat} {v : AV} {fr : Nat → Option AV} {hp : Heap} (he : ab o = false) (hd : o.dst = some d) (hlt : d < nt)
    (hv : ∀ (L : Heap) (K : St → Prop), (∀ (fr' : Nat → Option AV) (nt' : Nat) (hp' : Heap), K ⟨upd fr' d v, nt', hp'⟩) → cM P G rl ops o K ⟨fr, nt, hp ++ L⟩) (h : l8 P G rl ops K0 rest ⟨upd fr d v, nt, hp⟩) : l8 P G rl ops K0 (o :: rest) ⟨fr, nt, hp⟩ := by
  unfold l8
  rw [if_neg (by rw [he]; decide)]
  refine ⟨v, fun L => ?_, ?_⟩
  · obtain ⟨u, hy, hk⟩ := s9.mp (hv L (fun s' => s'.fr d = some v) (fun fr' _ _ => ei fr' d v))
    rw [hd] at hk
    simp only [St.put, hlt, if_true, upd] at hk
    cases hk
    exact hy
  · rw [hd]
    simp only [St.put, hlt, if_true]
    exact h
theorem b8 {ops : Array Oper} {K : St → Prop} (h : K s) : n9 P G rl ops K [] s := h
theorem i8 {ops : Array Oper} {K : St → Prop} (h : K s) : k3 P G rl ops K [] s := h
theorem b9 {ops : Array Oper} {K0 : St → Prop} {o : Oper} {rest : List Oper} (h : ∀ K : St → Prop, (∀ s, n9 P G rl ops K0 rest s → K s) → aop P G rl ops o K s) : n9 P G rl ops K0 (o :: rest) s :=
  h _ fun _ h => h
theorem k4 {ops : Array Oper} {K0 : St → Prop} {o : Oper} {rest : List Oper} (h : ∀ K : St → Prop, (∀ s, k3 P G rl ops K0 rest s → K s) → cM P G rl ops o K s) : k3 P G rl ops K0 (o :: rest) s :=
  h _ fun _ h => h
theorem c7 {id : Nat} {c : Code} {Q : Exit → St → Prop} (h : awp P G rl h0 c (ay id Q) s) : awp P G rl h0 (.block id c) Q s := h
theorem f9 {id : Nat} {Q : Exit → St → Prop} (h : Q (.exit id) s) : awp P G rl h0 (.exit id) Q s := h
theorem d3 {Q : Exit → St → Prop} (h : Q .ret s) : awp P G rl h0 .ret Q s := h
theorem c9 {Q : Exit → St → Prop} (h : Q .normal s) : awp P G rl h0 .skip Q s := h
@[simp] theorem ep {K : St → Prop} {Q : Exit → St → Prop} : M7 K Q .normal s = K s := rfl
@[simp] theorem jD {K : St → Prop} {Q : Exit → St → Prop} {i : Nat} : M7 K Q (.exit i) s = Q (.exit i) s := rfl
@[simp] theorem lP {K : St → Prop} {Q : Exit → St → Prop} : M7 K Q .ret s = Q .ret s := rfl
@[simp] theorem cU {id : Nat} {Q : Exit → St → Prop} : ay id Q .normal s = Q .normal s := rfl
@[simp] theorem gS {id i : Nat} {Q : Exit → St → Prop} : ay id Q (.exit i) s = if i = id then Q .normal s else Q (.exit i) s := rfl
@[simp] theorem jE {id : Nat} {Q : Exit → St → Prop} : ay id Q .ret s = Q .ret s := rfl
theorem sU (b : Bool) : (b == true) = b := by cases b <;> rfl
theorem pn (b : Bool) : (b == false) = !b := by cases b <;> rfl
theorem G5 (fr : Nat → Option AV) (d : Nat) (v : AV) (k : Nat) : upd fr d v k = if k = d then some v else fr k := rfl
theorem n8 (L : Heap) (i : Nat) : (h ++ L)[h.length + i]? = L[i]? := by rw [List.getElem?_append_right (by omega)]; congr 1; omega
theorem bM (L : Heap) : (h ++ L)[h.length]? = L[0]? := by rw [List.getElem?_append_right (by omega)]; congr 1; omega
theorem Q9 (L : Heap) (i : Nat) (x : Option Blk) : (h ++ L).set (h.length + i) x = h ++ L.set i x := by rw [List.set_append_right _ _ (by omega)]; congr 2; omega
theorem vM (L : Heap) (x : Option Blk) : (h ++ L).set h.length x = h ++ L.set 0 x := by rw [List.set_append_right _ _ (by omega)]; congr 2; omega
theorem vN (L : Heap) : (h ++ L).take h.length = h := by simp
theorem nj {x y : Code} {Q : Exit → St → Prop} (J : St → Prop) (h : awp P G rl h0 x (M7 (fun s' => ∃ s1, o8 P G h0 s' s1 ∧ J s1) Q) s) (hJ : ∀ s1, J s1 → awp P G rl h0 y Q s1) : awp P G rl h0 (.seq x y) Q s :=
  ⟨J, h, hJ⟩
theorem bN {c : Code} {Q : Exit → St → Prop} (I : Nat → St → Prop) (n : Nat) (s1 : St) (hg : o8 P G h0 s s1) (hi : I n s1)
    (hr : ∀ n s, I n s → awp P G rl h0 c (M7 (fun s' => ∃ m s1, m < n ∧ o8 P G h0 s' s1 ∧ I m s1) Q) s) : awp P G rl h0 (.loop c) Q s :=
  ⟨I, ⟨n, s1, hg, hi⟩, hr⟩
def W8 (P : Program) (rs : List ResultVar) (h : Heap) (K : AV → Prop) (s : St) : Prop :=
  match Q3 P s rs with
  | some r => match F8 s.heap h.length r with
    | some r' => s.heap.take h.length = h ∧ h.length ≤ s.heap.length ∧ K r'
    | none => False
  | none => False
theorem W8.fin {rs : List ResultVar} {K : AV → Prop} (hf : W8 P rs h K s) : Fin P rs h.length h (fun r h' => K r ∧ h' = h) s := by
  unfold W8 at hf
  split at hf
  · rename_i r hr
    split at hf
    · rename_i r' hr'
      obtain ⟨h1, h2, h3⟩ := hf
      exact ⟨Nat.le_refl _, h2, r, r', hr, hr', fun b bk hb => .inl (by rwa [h1] at hb), h3, h1⟩
    · exact hf.elim
  · exact hf.elim
def iL (P : Program) (rs : List ResultVar) (h : Heap) (K : AV → Prop) : Exit → St → Prop
  | .normal, s => W8 P rs h K s
  | .ret, s => W8 P rs h K s
  | _, _ => False
theorem c8 (hm : P.follows .mixedOrders = true) {f : FuncId} {fn : Func} {c : Code} (hf : P.funcs[f]? = some fn) (hb : fn.body = some c) {args : List AV} {K : AV → Prop} {rs : List ResultVar} {nt : Nat}
    (hrs : fn.results.toList = rs) (hn : fn.ntmps = nt) (hnt : args.length ≤ nt) (H : awp P G rl h c (iL P rs h K) (ee args nt h)) : d5 P G f args h (fun r h' => K r ∧ h' = h) := by
  subst hrs; subst hn
  refine eh (rl := rl) hm hf hb hnt h.length (jC _ _ _ _ (fun e s hh => ?_) H)
  cases e with
  | normal => exact ⟨.inl rfl, W8.fin hh⟩
  | ret => exact ⟨.inr rfl, W8.fin hh⟩
  | _ => exact hh.elim
def y7 (P : Program) (rs : List ResultVar) (h : Heap) (K : AV → Heap → Prop) (s : St) : Prop :=
  match Q3 P s rs with
  | some r => match F8 s.heap h.length r with
    | some r' => h.length ≤ s.heap.length ∧ (∀ (b : Nat) (bk : Blk), (s.heap.take h.length)[b]? = some (some bk) → h[b]? = some (some bk) ∨ ∀ x ∈ bk.cells, AVlt h.length x) ∧ K r' (s.heap.take h.length)
    | none => False
  | none => False
def A0 (P : Program) (rs : List ResultVar) (h : Heap) (K : AV → Heap → Prop) : Exit → St → Prop
  | .normal, s => y7 P rs h K s
  | .ret, s => y7 P rs h K s
  | _, _ => False
theorem i3 (hm : P.follows .mixedOrders = true) {f : FuncId} {fn : Func} {c : Code} (hf : P.funcs[f]? = some fn) (hb : fn.body = some c) {args : List AV} {K : AV → Heap → Prop} {rs : List ResultVar} {nt : Nat}
    (hrs : fn.results.toList = rs) (hn : fn.ntmps = nt) (hnt : args.length ≤ nt) (H : awp P G rl h c (A0 P rs h K) (ee args nt h)) : d5 P G f args h K := by
  subst hrs; subst hn
  have key : ∀ s, y7 P fn.results.toList h K s → Fin P fn.results.toList h.length h K s := by
    intro s hf
    unfold y7 at hf
    split at hf
    · rename_i r hr
      split at hf
      · rename_i r' hr'
        obtain ⟨h1, h2, h3⟩ := hf
        exact ⟨Nat.le_refl _, h1, r, r', hr, hr', h2, h3⟩
      · exact hf.elim
    · exact hf.elim
  refine eh (rl := rl) hm hf hb hnt h.length (jC _ _ _ _ (fun e s hh => ?_) H)
  cases e with
  | normal => exact ⟨.inl rfl, key _ hh⟩
  | ret => exact ⟨.inr rfl, key _ hh⟩
  | _ => exact hh.elim
def zn (P : Program) (rs : List ResultVar) (h : Heap) (K : AV → Heap → Prop) (s : St) : Prop :=
  h.length ≤ s.heap.length ∧ match Q3 P s rs with
  | some r => K r s.heap
  | none => False
theorem Sim.evoKeep (hm : P.follows .mixedOrders = true) {f : FuncId} {fn : Func} {c : Code} (hf : P.funcs[f]? = some fn) (hb : fn.body = some c) {args : List AV} {K : AV → Heap → Prop}
    (hnt : args.length ≤ fn.ntmps)
    (H : awp P G rl h c (fun e s => (e = .normal ∨ e = .ret) ∧ zn P fn.results.toList h K s) (ee args fn.ntmps h)) : d5 P G f args h K := by
  intro ι w vs hS hv
  refine calls_of_wp hf hb ?_
  have hs : Sim P G ι (ee args fn.ntmps h) { tmps := vs ++ Array.replicate (fn.ntmps - vs.size) undef, defers := [] } w := by
    refine ⟨hS, fun k x hx => ?_, ?_, rfl⟩
    · have hk : k < args.length := j4 hx
      have hk' : k < vs.size := by rw [← hv.1]; exact hk
      exact ⟨vs[k], by rw [Array.getElem?_append_left hk']; simp, hv.2 k x _ hx (by simp)⟩
    · have := hv.1
      simp [ee]; omega
  refine wp_mono (lM hm hS c _ _ ι _ w hs (.refl (Nat.le_refl h.length)) H) fun e a w' ⟨s', ι', ⟨he, hn1, hr⟩, hs', hev⟩ => ?_
  split at hr
  case h_2 => exact hr.elim
  rename_i r hr'
  obtain ⟨v, hrun, hrv⟩ := jy hs' hr'
  have hpost : a.defers = [] ∧ ∃ v, (results fn a.tmps).run P w' = .ok v w' ∧ ∃ v1 r h' ι', Ending.returned v = .returned v1 ∧ K r h' ∧ SimH P G ι' h' w' ∧ VRel ι' h' w' r v1 ∧ Evo h.length ι h w ι' h' w' :=
    ⟨hs'.df, v, hrun, v, r, s'.heap, ι', rfl, hr, hs'.hS, hrv, hev⟩
  rcases he with rfl | rfl <;> exact hpost
end
end
section
mutual
def s7 (m : Nat) : AV → Prop
  | .p _ => True
  | .agg l => o4 m l
  | .tup l => o4 m l
  | .fn _ l => o4 m l
  | .ref b _ _ _ _ => b < m
  | .ptr b _ _ => b < m
  | .pin _ => True
  | .mref b _ => b < m
  | .mp _ => True
def o4 (m : Nat) : List AV → Prop
  | [] => True
  | x :: r => s7 m x ∧ o4 m r
end
mutual
theorem sV {m : Nat} : ∀ (x : AV), s7 m x → AVlt m x
  | .p _, _ => .p _
  | .agg l, h => .agg l (L5 l (by simpa [s7] using h))
  | .tup l, h => .tup l (L5 l (by simpa [s7] using h))
  | .fn f l, h => .fn f l (L5 l (by simpa [s7] using h))
  | .ref b g o s l, h => .ref b g o s l (by simpa [s7] using h)
  | .ptr b g o, h => .ptr b g o (by simpa [s7] using h)
  | .pin c, _ => .pin c
  | .mref b g, h => .mref b g (by simpa [s7] using h)
  | .mp es, _ => .mp es
theorem L5 {m : Nat} : ∀ (l : List AV), o4 m l → ∀ x ∈ l, AVlt m x
  | [], _ => fun x hx => by simp at hx
  | y :: r, h => fun x hx => by
    simp only [o4] at h
    rcases List.mem_cons.mp hx with e | e
    · rw [e]; exact sV y h.1
    · exact L5 r h.2 x e
end
def frL : List (Nat × AV) → Nat → Option AV
  | [], _ => none
  | (d, v) :: r, k => if k = d then some v else frL r k
def K4 (s : St) (m : Nat) : List (Nat × AV) → Prop
  | [] => True
  | (k, x) :: r => s.fr k = some x ∧ s7 m x ∧ K4 s m r
def B9 (m : Nat) : List (Option Blk) → Prop
  | [] => True
  | none :: r => B9 m r
  | some bk :: r => o4 m bk.cells ∧ B9 m r
theorem fR {s : St} {m : Nat} : ∀ {l : List (Nat × AV)}, K4 s m l → ∀ k x, frL l k = some x → s.fr k = some x ∧ AVlt m x
  | [], _, k, x, h => by simp [frL] at h
  | (d, v) :: r, hk, k, x, h => by
    simp only [K4] at hk
    simp only [frL] at h
    split at h
    · rename_i e
      cases h
      rw [e]
      exact ⟨hk.1, sV _ hk.2.1⟩
    · exact fR hk.2.2 k x h
theorem az {m : Nat} : ∀ {l : List (Option Blk)}, B9 m l → ∀ (i : Nat) bk, l[i]? = some (some bk) → ∀ x ∈ bk.cells, AVlt m x
  | [], _, i, bk, h => by simp at h
  | none :: r, hk, i, bk, h => by
    simp only [B9] at hk
    cases i with
    | zero => simp at h
    | succ i => exact az hk i bk (by simpa using h)
  | some b :: r, hk, i, bk, h => by
    simp only [B9] at hk
    cases i with
    | zero => simp at h; subst h; exact L5 _ hk.1
    | succ i => exact az hk.2 i bk (by simpa using h)
section
variable {P : Program} {G : Nat → Option (List PV)} {rl : List String} {h : Heap}
def Sub (h : Heap) (s : St) (l : List (Nat × AV)) (L : List (Option Blk)) (nt : Nat) : Prop :=
  s.nt = nt ∧ (∃ L', s.heap = h ++ (L ++ L')) ∧ K4 s (h.length + L.length) l ∧ B9 (h.length + L.length) L
theorem Sub.ghost {s : St} {l : List (Nat × AV)} {L : List (Option Blk)} {nt : Nat} (hs : Sub h s l L nt) : o8 P G h s ⟨frL l, nt, h ++ L⟩ := by
  obtain ⟨h1, ⟨L', h2⟩, h3, h4⟩ := hs
  have ht : s.heap.take (h.length + L.length) = h ++ L := by rw [h2, ← List.append_assoc, List.take_left' (by simp)]
  refine o8.le h1.symm (h.length + L.length) (by omega) (by rw [h2]; simp only [List.length_append]; omega) ht.symm (fun k x hx => fR h3 k x hx) fun b bk hb => ?_
  rw [ht] at hb
  by_cases hlt : b < h.length
  · left; rwa [List.getElem?_append_left hlt] at hb
  · right
    rw [List.getElem?_append_right (by omega)] at hb
    exact az h4 _ bk hb
theorem p8 {c : Code} {Q : Exit → St → Prop} {s : St} (N nt : Nat) (l : Nat → List (Nat × AV)) (L : Nat → List (Option Blk)) (p : Nat → Prop) (hi : Sub h s (l 0) (L 0) nt) (hp : p 0)
    (hb : ∀ i, i ≤ N → p i → ∀ K : St → Prop, (∀ s', (i < N ∧ p (i + 1) ∧ Sub h s' (l (i + 1)) (L (i + 1)) nt) → K s') → awp P G rl h c (M7 K Q) ⟨frL (l i), nt, h ++ L i⟩) : awp P G rl h (.loop c) Q s := by
  refine bN (fun n s => ∃ i, i ≤ N ∧ p i ∧ n = N - i ∧ s = ⟨frL (l i), nt, h ++ L i⟩) N _ hi.ghost ⟨0, Nat.zero_le _, hp, rfl, rfl⟩ fun n s hI => ?_
  obtain ⟨i, h1, h2, rfl, rfl⟩ := hI
  exact hb i h1 h2 _ fun s' hs => ⟨N - (i + 1), _, by omega, hs.2.2.ghost, i + 1, by omega, hs.2.1, rfl, rfl⟩
theorem Sub.ghostH {H : Heap} {s : St} {l : List (Nat × AV)} {L : List (Option Blk)} {nt : Nat} (hl : H.length = h.length)
    (hc : ∀ (b : Nat) (bk : Blk), H[b]? = some (some bk) → h[b]? = some (some bk) ∨ o4 h.length bk.cells) (hs : Sub H s l L nt) : o8 P G h s ⟨frL l, nt, H ++ L⟩ := by
  obtain ⟨h1, ⟨L', h2⟩, h3, h4⟩ := hs
  have ht : s.heap.take (H.length + L.length) = H ++ L := by rw [h2, ← List.append_assoc, List.take_left' (by simp)]
  refine o8.le h1.symm (H.length + L.length) (by omega) (by rw [h2]; simp only [List.length_append]; omega) ht.symm (fun k x hx => fR h3 k x hx) fun b bk hb => ?_
  rw [ht] at hb
  by_cases hlt : b < H.length
  · rw [List.getElem?_append_left hlt] at hb
    rcases hc b bk hb with hb | hb
    · exact .inl hb
    · exact .inr fun x hx => (L5 _ hb x hx).mono (by omega)
  · right
    rw [List.getElem?_append_right (by omega)] at hb
    exact az h4 _ bk hb
theorem R5 {c : Code} {Q : Exit → St → Prop} {s : St} (N nt : Nat) (H : Nat → Heap) (l : Nat → List (Nat × AV)) (L : Nat → List (Option Blk)) (p : Nat → Prop)
    (hH : ∀ i, (H i).length = h.length ∧ ∀ (b : Nat) (bk : Blk), (H i)[b]? = some (some bk) → h[b]? = some (some bk) ∨ o4 h.length bk.cells) (hi : Sub (H 0) s (l 0) (L 0) nt) (hp : p 0)
    (hb : ∀ i, i ≤ N → p i → ∀ K : St → Prop, (∀ s', (i < N ∧ p (i + 1) ∧ Sub (H (i + 1)) s' (l (i + 1)) (L (i + 1)) nt) → K s') → awp P G rl h c (M7 K Q) ⟨frL (l i), nt, H i ++ L i⟩) : awp P G rl h (.loop c) Q s := by
  refine bN (fun n s => ∃ i, i ≤ N ∧ p i ∧ n = N - i ∧ s = ⟨frL (l i), nt, H i ++ L i⟩) N _ (hi.ghostH (hH 0).1 (hH 0).2) ⟨0, Nat.zero_le _, hp, rfl, rfl⟩ fun n s hI => ?_
  obtain ⟨i, h1, h2, rfl, rfl⟩ := hI
  exact hb i h1 h2 _ fun s' hs => ⟨N - (i + 1), _, by omega, hs.2.2.ghostH (hH (i + 1)).1 (hH (i + 1)).2, i + 1, by omega, hs.2.1, rfl, rfl⟩
theorem jF {x y : Code} {Q : Exit → St → Prop} {s : St} (nt : Nat) (l : List (Nat × AV)) (L : List (Option Blk)) (p : Prop) (h1 : ∀ K : St → Prop, (∀ s', (p ∧ Sub h s' l L nt) → K s') → awp P G rl h x (M7 K Q) s)
    (h2 : p → awp P G rl h y Q ⟨frL l, nt, h ++ L⟩) : awp P G rl h (.seq x y) Q s :=
  nj (fun s1 => p ∧ s1 = ⟨frL l, nt, h ++ L⟩) (h1 _ fun s' hs => ⟨_, hs.2.ghost, hs.1, rfl⟩) fun s1 e => by obtain ⟨hp, rfl⟩ := e; exact h2 hp
end
end
section
theorem xN (n : Int) : inR .i64 n = (decide (-9223372036854775808 ≤ n) && decide (n ≤ 9223372036854775807)) := rfl
theorem xO (n : Int) : inR .u64 n = (decide (0 ≤ n) && decide (n ≤ 18446744073709551615)) := rfl
theorem xP (n : Int) : inR .u32 n = (decide (0 ≤ n) && decide (n ≤ 4294967295)) := rfl
theorem xQ (n : Int) : inR .i32 n = (decide (-2147483648 ≤ n) && decide (n ≤ 2147483647)) := rfl
theorem zo (n : Int) : inR .u8 n = (decide (0 ≤ n) && decide (n ≤ 255)) := rfl
def ri (w : Bool) (v : AV) : AV := if w = true then v else .undef
theorem ua (v : AV) : ri true v = v := rfl
theorem rj (v : AV) : ri false v = .undef := rfl
theorem ub (x y : AV) : kX true x y = x := by unfold kX; split <;> rfl
theorem rk (x y : AV) : kX false x y = y := by unfold kX; split <;> rfl
theorem xR (t x : Bool) : kX t (.b true) (ri (!t) (.b x)) = .b (t || x) := by cases t <;> rfl
theorem vO (t x : Bool) : kX (!t) (.b true) (ri t (.b x)) = .b (!t || x) := by cases t <;> rfl
theorem vP (t x : Bool) : kX t (ri t (.b x)) (.b false) = .b (t && x) := by cases t <;> rfl
def nl : Option AV → Bool → Option Bool
  | some (.p (.bool g)), want => some (g == want)
  | some (.tup []), _ => some false
  | _, _ => none
theorem vQ (g want : Bool) : nl (some (.p (.bool g))) want = some (g == want) := rfl
theorem vR (want : Bool) : nl (some (.tup [])) want = some false := rfl
theorem vT (u x want : Bool) : nl (some (ri u (.p (.bool x)))) want = some (u && (x == want)) := by cases u <;> rfl
theorem vU (ops : Array Oper) (o : Oper) (s : St) : V3 ops o s = match o.guard with | none => some true | some (j, want) => nl (aq ops s j) want := by
  unfold V3
  cases o.guard with
  | none => rfl
  | some q =>
    obtain ⟨j, want⟩ := q
    dsimp only
    generalize aq ops s j = g
    cases g with
    | none => rfl
    | some v =>
      cases v with
      | p x => cases x <;> rfl
      | tup l => cases l <;> rfl
      | _ => rfl
theorem xS (t : Bool) (X Y : Prop) : jv (some (.p (.bool t))) X Y = ((t = true → X) ∧ (t = false → Y)) := rfl
theorem l6 {K : St → Prop} {X : Prop} {b : Bool} {fr : Nat → Option AV} {nt d : Nat} {hp : Heap} {v : AV} (hv : b = true → K ⟨upd fr d v, nt, hp⟩ → X) (hk : K ⟨upd fr d (ri b v), nt, hp⟩) : (b = true → X) ∧ (b = false → K ⟨upd fr d (.tup []), nt, hp⟩) := by
  cases b with
  | true => exact ⟨fun _ => hv rfl hk, fun h => (by cases h)⟩
  | false => exact ⟨fun h => (by cases h), fun _ => hk⟩
section
variable {P : Program} {G : Nat → Option (List PV)} {rl : List String} {ops : Array Oper} {o : Oper} {K : St → Prop} {s : St}
theorem b7 {h0 : Heap} {c : Operand} {x y : Code} {Q : Exit → St → Prop} (h : ∀ A B : Prop, (awp P G rl h0 x Q s → A) → (awp P G rl h0 y Q s → B) → jv (A5 G s c) A B) : awp P G rl h0 (.cond c x y) Q s :=
  h _ _ id id
end
end
section
def SS := And.intro (And.intro (And.intro (And.intro (And.intro (And.intro (And.intro (@aop.eq_1) (And.intro (@aq.eq_1) (@X2.eq_1))) (And.intro (@fE.eq_1) (And.intro (@cM.eq_1) (@K8.eq_1)))) (And.intro (And.intro (@opA.eq_1) (And.intro (@A5.eq_1) (@A5.eq_2))) (And.intro (And.intro (@A5.eq_3) (@A5.eq_4)) (And.intro (@K3.eq_1) (@K3.eq_2))))) (And.intro (And.intro (And.intro (@fC.eq_1) (And.intro (@fC.eq_2) (@fC.eq_3))) (And.intro (@L7.eq_1) (And.intro (@L7.eq_2) (@L7.eq_3)))) (And.intro (And.intro (@L7.eq_4) (And.intro (@L7.eq_5) (@L7.eq_6))) (And.intro (And.intro (@L7.eq_7) (@N9.eq_1)) (And.intro (@N9.eq_2) (@xN)))))) (And.intro (And.intro (And.intro (And.intro (@xO) (And.intro (@xP) (@xQ))) (And.intro (@zo) (And.intro (@Option.map_some.{0, 0}) (@Option.map_none.{0, 0})))) (And.intro (And.intro (@Option.bind_some.{0, 0}) (And.intro (@Option.bind_none.{0, 0}) (@St.put.eq_1))) (And.intro (And.intro (@St.put.eq_2) (@G5)) (And.intro (@ep) (@jD))))) (And.intro (And.intro (And.intro (@lP) (And.intro (@cU) (@gS))) (And.intro (@jE) (And.intro (@bB.eq_1) (@bB.eq_2)))) (And.intro (And.intro (@bB.eq_3) (And.intro (@AV.scalar.eq_1) (@AV.scalar.eq_2))) (And.intro (And.intro (@AV.scalar.eq_3) (@tI.eq_1)) (And.intro (@tI.eq_2) (@tI.eq_3))))))) (And.intro (And.intro (And.intro (And.intro (And.intro (@dU.eq_1) (And.intro (@dU.eq_2) (@dU.eq_3))) (And.intro (@dU.eq_4) (And.intro (@dU.eq_5) (@dU.eq_6)))) (And.intro (And.intro (@dU.eq_7) (And.intro (@an.eq_1) (@an.eq_2))) (And.intro (And.intro (@an.eq_3) (@an.eq_4)) (And.intro (@an.eq_5) (@an.eq_6))))) (And.intro (And.intro (And.intro (@an.eq_7) (And.intro (@eqA.eq_1) (@eqA.eq_2))) (And.intro (@eqA.eq_3) (And.intro (@eqA.eq_4) (@eqA.eq_5)))) (And.intro (And.intro (@eqA.eq_6) (And.intro (@unA.eq_1) (@unA.eq_2))) (And.intro (And.intro (@unA.eq_3) (@s8.eq_1)) (And.intro (@P3.eq_1) (@P3.eq_2)))))) (And.intro (And.intro (And.intro (And.intro (@TI.isAgg.eq_1) (And.intro (@P9.eq_1) (@t6.eq_1))) (And.intro (@fD.eq_1) (And.intro (@fD.eq_2) (@fD.eq_3)))) (And.intro (And.intro (@fD.eq_4) (And.intro (@fD.eq_5) (@L2.eq_1))) (And.intro (And.intro (@L2.eq_2) (@L2.eq_3)) (And.intro (@L2.eq_4) (@L2.eq_5))))) (And.intro (And.intro (And.intro (@L2.eq_6) (And.intro (@iR.eq_1) (@V2.eq_1))) (And.intro (And.intro (@V2.eq_2) (@V2.eq_3)) (And.intro (@V2.eq_4) (@mW.eq_1)))) (And.intro (And.intro (@K7.eq_1) (And.intro (@K7.eq_2) (@K7.eq_3))) (And.intro (And.intro (@ub) (@rk)) (And.intro (@xR) (@vO)))))))) (And.intro (And.intro (And.intro (And.intro (And.intro (And.intro (@vP) (And.intro (@ua) (@rj))) (And.intro (@decide_true) (And.intro (@decide_false) (@ne_eq.{1})))) (And.intro (And.intro (@bf.eq_1) (And.intro (@bf.eq_2) (@w9.eq_1))) (And.intro (And.intro (@w9.eq_2) (@pvs.eq_1)) (And.intro (@pvs.eq_2) (@pvs.eq_3))))) (And.intro (And.intro (And.intro (@B7.eq_1) (And.intro (@B7.eq_2) (@n8))) (And.intro (@bM) (And.intro (@Q9) (@vM)))) (And.intro (And.intro (@if_true.{1}) (And.intro (@if_false.{1}) (@ite_true.{1}))) (And.intro (And.intro (@ite_false.{1}) (@true_implies)) (And.intro (@false_implies) (@forall_const.{1})))))) (And.intro (And.intro (And.intro (And.intro (@and_true) (And.intro (@true_and) (@and_self))) (And.intro (@and_false) (And.intro (@false_and) (@List.getElem?_cons_zero.{0})))) (And.intro (And.intro (@List.getElem?_cons_succ.{0}) (And.intro (@List.getElem?_nil.{0}) (@List.map_cons.{0, 0}))) (And.intro (And.intro (@List.map_nil.{0, 0}) (@List.drop_succ_cons.{0})) (And.intro (@List.drop_zero.{0}) (@List.take_succ_cons.{0}))))) (And.intro (And.intro (And.intro (@List.take_zero.{0}) (And.intro (@List.length_cons.{0}) (@List.length_nil.{0}))) (And.intro (@List.cons_append.{0}) (And.intro (@List.nil_append.{0}) (@List.append_nil.{0})))) (And.intro (And.intro (@List.append_assoc.{0}) (And.intro (@List.all_cons.{0}) (@List.all_nil.{0}))) (And.intro (And.intro (@List.isEmpty_cons.{0}) (@List.set_cons_zero.{0})) (And.intro (@List.set_cons_succ.{0}) (@Bool.and_true))))))) (And.intro (And.intro (And.intro (And.intro (And.intro (@Bool.true_and) (And.intro (@Bool.false_eq_true) (@Bool.and_self))) (And.intro (@Option.isSome_some.{0}) (And.intro (@Option.some.injEq.{0}) (@Option.bind_map.{0, 0, 0})))) (And.intro (And.intro (@beq_self_eq_true.{0}) (And.intro (@not_true_eq_false) (@not_false_eq_true))) (And.intro (And.intro (@Bool.not_true) (@Bool.not_false)) (And.intro (@Nat.zero_le) (@Nat.add_zero))))) (And.intro (And.intro (And.intro (@Nat.zero_add) (And.intro (@Nat.lt_irrefl) (@List.length_append.{0}))) (And.intro (@cond_true.{1}) (And.intro (@cond_false.{1}) (@List.flatMap_cons.{0, 0})))) (And.intro (And.intro (@List.flatMap_nil.{0, 0}) (And.intro (@List.replicate.eq_1.{0}) (@List.replicate.eq_2.{0}))) (And.intro (And.intro (@id_eq.{1}) (@ee.eq_1)) (And.intro (@List.getElem?_toArray.{0}) (@sU)))))) (And.intro (And.intro (And.intro (And.intro (@pn) (And.intro (@Option.isSome_none.{0}) (@Bool.not_eq_true))) (And.intro (@Bool.not_eq_false) (And.intro (@eq_self.{1}) (@Bool.or_true)))) (And.intro (And.intro (@Bool.true_or) (And.intro (@Bool.or_false) (@Bool.false_or))) (And.intro (And.intro (@Bool.and_false) (@Bool.false_and)) (And.intro (@Bool.not_not) (@frL.eq_1))))) (And.intro (And.intro (And.intro (@frL.eq_2) (And.intro (@Int.toNat_natCast) (@Int.natCast_nonneg))) (And.intro (And.intro (@List.getElem?_map.{0, 0}) (@mV.eq_def)) (And.intro (@mU.eq_def) (@ao.eq_def)))) (And.intro (And.intro (@lx.eq_def) (And.intro (@mT.eq_def) (@vU))) (And.intro (And.intro (@vQ) (@vR)) (And.intro (@vT) (@xS))))))))
def S1 := And.intro SS (And.intro @AV.i.eq_1 (And.intro @AV.b.eq_1 (And.intro @AV.undef.eq_1 (And.intro @List.contains_nil.{0} @Bool.false_eq_true))))
theorem i9 {P : Program} {G : Nat → Option (List PV)} {rl : List String} {h0 : Heap} {s : St} {id : Nat} {ops : Array Oper} {Q : Exit → St → Prop} (h : k3 P G rl ops (Q .normal) ops.toList s) (hB : Region.lexB .any ops = true := by kernel_rfl) : awp P G rl h0 (.region id ops true) Q s := vK hB h
def cndB := And.intro @cond_true.{1} @cond_false.{1}
def ENB := And.intro @iL.eq_1 (And.intro @iL.eq_2 (And.intro @iL.eq_3 (And.intro @W8.eq_1 (And.intro @Q3.eq_1 (And.intro @Q2.eq_1 (And.intro @Q2.eq_2 (And.intro @I4.eq_1 (And.intro @I4.eq_2 (And.intro @F8.eq_1 (And.intro @F8.eq_2 (And.intro @E6.eq_1 (And.intro @E6.eq_2 (And.intro @E6.eq_3 (And.intro @G4.eq_1 (And.intro @G4.eq_2 (And.intro @pur.eq_1 (And.intro @pur.eq_2 (And.intro @pur.eq_3 (And.intro @pur.eq_4 (And.intro @L4.eq_1 (And.intro @L4.eq_2 (And.intro @vN (And.intro @List.take_length.{0} (And.intro @Nat.le_add_right @Nat.le_refl))))))))))))))))))))))))
def KNB := And.intro @K4.eq_1 (And.intro @K4.eq_2 (And.intro @s7.eq_1 (And.intro @s7.eq_2 (And.intro @s7.eq_3 (And.intro @s7.eq_4 (And.intro @s7.eq_5 (And.intro @s7.eq_6 (And.intro @s7.eq_7 (And.intro @o4.eq_1 (And.intro @o4.eq_2 (And.intro @B9.eq_1 (And.intro @B9.eq_2 (And.intro @B9.eq_3 (And.intro @List.length_map.{0, 0} (And.intro @Int.natCast_zero (And.intro @AV.p.injEq (And.intro @PV.int.injEq (And.intro @PV.bool.injEq @PV.sl.injEq))))))))))))))))))
def NB := And.intro @ep (And.intro @jD (And.intro @lP (And.intro @cU (And.intro @gS @jE))))
def BN := And.intro @Bool.not_not (And.intro @Bool.and_eq_true (And.intro @Bool.not_eq_eq_eq_not (And.intro @Bool.not_true (And.intro @Bool.not_false (And.intro @Bool.and_true (And.intro @Bool.true_and (And.intro @Bool.or_false (And.intro @Bool.false_or (And.intro @decide_true (And.intro @decide_false (And.intro @sU @pn)))))))))))
def BN2 := And.intro @Bool.not_eq_eq_eq_not (And.intro @Bool.not_true @Bool.not_false)
def BN3 := And.intro @decide_eq_true_eq (And.intro @decide_eq_false_iff_not (And.intro @beq_iff_eq.{0} (And.intro @bne_iff_ne.{0} (And.intro @beq_eq_false_iff_ne.{0} (And.intro @bne_eq_false_iff_eq.{0} (And.intro @ne_eq.{1} (And.intro @Bool.not_eq_eq_eq_not (And.intro @Bool.not_true (And.intro @Bool.not_false (And.intro @Bool.and_eq_true @Bool.or_eq_false_iff))))))))))
theorem d4 {P : Program} {G : Nat → Option (List PV)} {f : FuncId} {args : List AV} {h h0 : Heap} {r0 : AV} {K : AV → Heap → Prop} (hE : g8 P f) (hc : d5 P G f args h fun r h' => r = r0 ∧ h' = h0) (hk : K r0 h0) : g8 P f ∧ d5 P G f args h fun r h' => K r h' :=
  ⟨hE, hc.mono fun r h' e => by rw [e.1, e.2]; exact hk⟩
theorem j5 {P : Program} {G : Nat → Option (List PV)} {f : FuncId} {args : List AV} {h : Heap} {r0 : AV} {K : AV → Prop} (hE : g8 P f) (hc : d5 P G f args h fun r h' => r = r0 ∧ h' = h) (hk : K r0) : g8 P f ∧ ∃ r, d5 P G f args h (fun r' h' => r' = r ∧ h' = h) ∧ K r :=
  ⟨hE, r0, hc, hk⟩
end
section
set_option maxRecDepth 10000
theorem e9 : Tryz.prog.follows .mixedOrders = true := by kernel_rfl
theorem T2 : j9 Tryz.prog 2 = some ⟨.int .i64, 1, 8, some [.int .i64 0]⟩ := by kernel_rfl
theorem T3 : j9 Tryz.prog 3 = some ⟨.int .i64, 1, 8, some [.int .i64 0]⟩ := by kernel_rfl
theorem T4 : j9 Tryz.prog 4 = some ⟨.bool, 1, 1, some [.bool false]⟩ := by kernel_rfl
theorem T9 : j9 Tryz.prog 9 = some ⟨.str, 1, 16, some [.str ⟨#[]⟩]⟩ := by kernel_rfl
theorem T22 : j9 Tryz.prog 22 = some ⟨.slice 77, 1, 24, some [.nils]⟩ := by kernel_rfl
theorem T23 : j9 Tryz.prog 23 = some ⟨.slice 80, 1, 24, some [.nils]⟩ := by kernel_rfl
theorem T25 : j9 Tryz.prog 25 = some ⟨.struct [(0, 1, 22), (1, 1, 23)], 2, 48, some [.nils, .nils]⟩ := by kernel_rfl
theorem T26 : j9 Tryz.prog 26 = some ⟨.slice 82, 1, 24, some [.nils]⟩ := by kernel_rfl
theorem T28 : j9 Tryz.prog 28 = some ⟨.struct [(0, 1, 3), (1, 1, 3), (2, 1, 3)], 3, 24, some [.int .i64 0, .int .i64 0, .int .i64 0]⟩ := by kernel_rfl
theorem T31 : j9 Tryz.prog 31 = some ⟨.int .i64, 1, 8, some [.int .i64 0]⟩ := by kernel_rfl
theorem T34 : j9 Tryz.prog 34 = some ⟨.slice 60, 1, 24, some [.nils]⟩ := by kernel_rfl
theorem T36 : j9 Tryz.prog 36 = some ⟨.struct [(0, 1, 34), (1, 1, 3)], 2, 32, some [.nils, .int .i64 0]⟩ := by kernel_rfl
theorem T41 : j9 Tryz.prog 41 = some ⟨.slice 3, 1, 24, some [.nils]⟩ := by kernel_rfl
theorem T44 : j9 Tryz.prog 44 = some ⟨.slice 28, 1, 24, some [.nils]⟩ := by kernel_rfl
theorem T55 : j9 Tryz.prog 55 = some ⟨.struct [(0, 1, 3), (1, 1, 3)], 2, 16, some [.int .i64 0, .int .i64 0]⟩ := by kernel_rfl
theorem T57 : j9 Tryz.prog 57 = some ⟨.array 40 3, 40, 320, some [.int .i64 0, .int .i64 0, .int .i64 0, .int .i64 0, .int .i64 0, .int .i64 0, .int .i64 0, .int .i64 0, .int .i64 0, .int .i64 0, .int .i64 0, .int .i64 0, .int .i64 0, .int .i64 0, .int .i64 0, .int .i64 0, .int .i64 0, .int .i64 0, .int .i64 0, .int .i64 0, .int .i64 0, .int .i64 0, .int .i64 0, .int .i64 0, .int .i64 0, .int .i64 0, .int .i64 0, .int .i64 0, .int .i64 0, .int .i64 0, .int .i64 0, .int .i64 0, .int .i64 0, .int .i64 0, .int .i64 0, .int .i64 0, .int .i64 0, .int .i64 0, .int .i64 0, .int .i64 0]⟩ := by kernel_rfl
theorem T58 : j9 Tryz.prog 58 = some ⟨.array 4 3, 4, 32, some [.int .i64 0, .int .i64 0, .int .i64 0, .int .i64 0]⟩ := by kernel_rfl
theorem T60 : j9 Tryz.prog 60 = some ⟨.struct [(0, 40, 57), (40, 4, 58), (44, 4, 58), (48, 1, 3)], 49, 392, some [.int .i64 0, .int .i64 0, .int .i64 0, .int .i64 0, .int .i64 0, .int .i64 0, .int .i64 0, .int .i64 0, .int .i64 0, .int .i64 0, .int .i64 0, .int .i64 0, .int .i64 0, .int .i64 0, .int .i64 0, .int .i64 0, .int .i64 0, .int .i64 0, .int .i64 0, .int .i64 0, .int .i64 0, .int .i64 0, .int .i64 0, .int .i64 0, .int .i64 0, .int .i64 0, .int .i64 0, .int .i64 0, .int .i64 0, .int .i64 0, .int .i64 0, .int .i64 0, .int .i64 0, .int .i64 0, .int .i64 0, .int .i64 0, .int .i64 0, .int .i64 0, .int .i64 0, .int .i64 0, .int .i64 0, .int .i64 0, .int .i64 0, .int .i64 0, .int .i64 0, .int .i64 0, .int .i64 0, .int .i64 0, .int .i64 0]⟩ := by kernel_rfl
theorem T62 : j9 Tryz.prog 62 = some ⟨.slice 65, 1, 24, some [.nils]⟩ := by kernel_rfl
theorem T65 : j9 Tryz.prog 65 = some ⟨.struct [(0, 1, 3), (1, 1, 3), (2, 3, 28), (5, 49, 60)], 54, 432, some [.int .i64 0, .int .i64 0, .int .i64 0, .int .i64 0, .int .i64 0, .int .i64 0, .int .i64 0, .int .i64 0, .int .i64 0, .int .i64 0, .int .i64 0, .int .i64 0, .int .i64 0, .int .i64 0, .int .i64 0, .int .i64 0, .int .i64 0, .int .i64 0, .int .i64 0, .int .i64 0, .int .i64 0, .int .i64 0, .int .i64 0, .int .i64 0, .int .i64 0, .int .i64 0, .int .i64 0, .int .i64 0, .int .i64 0, .int .i64 0, .int .i64 0, .int .i64 0, .int .i64 0, .int .i64 0, .int .i64 0, .int .i64 0, .int .i64 0, .int .i64 0, .int .i64 0, .int .i64 0, .int .i64 0, .int .i64 0, .int .i64 0, .int .i64 0, .int .i64 0, .int .i64 0, .int .i64 0, .int .i64 0, .int .i64 0, .int .i64 0, .int .i64 0, .int .i64 0, .int .i64 0, .int .i64 0]⟩ := by kernel_rfl
theorem T70 : j9 Tryz.prog 70 = some ⟨.ptr, 1, 8, some [.nilp]⟩ := by kernel_rfl
theorem T72 : j9 Tryz.prog 72 = some ⟨.struct [(0, 1, 3)], 1, 8, some [.int .i64 0]⟩ := by kernel_rfl
theorem T73 : j9 Tryz.prog 73 = some ⟨.slice 75, 1, 24, some [.nils]⟩ := by kernel_rfl
theorem T75 : j9 Tryz.prog 75 = some ⟨.struct [(0, 1, 3), (1, 1, 3), (2, 1, 73)], 3, 40, some [.int .i64 0, .int .i64 0, .nils]⟩ := by kernel_rfl
theorem T77 : j9 Tryz.prog 77 = some ⟨.struct [(0, 1, 3), (1, 1, 3), (2, 3, 75)], 5, 56, some [.int .i64 0, .int .i64 0, .int .i64 0, .int .i64 0, .nils]⟩ := by kernel_rfl
theorem T80 : j9 Tryz.prog 80 = some ⟨.struct [(0, 1, 3), (1, 1, 3), (2, 1, 4), (3, 3, 75)], 6, 64, some [.int .i64 0, .int .i64 0, .bool false, .int .i64 0, .int .i64 0, .nils]⟩ := by kernel_rfl
theorem T82 : j9 Tryz.prog 82 = some ⟨.struct [(0, 40, 57), (40, 4, 58), (44, 4, 58), (48, 1, 3)], 49, 392, some [.int .i64 0, .int .i64 0, .int .i64 0, .int .i64 0, .int .i64 0, .int .i64 0, .int .i64 0, .int .i64 0, .int .i64 0, .int .i64 0, .int .i64 0, .int .i64 0, .int .i64 0, .int .i64 0, .int .i64 0, .int .i64 0, .int .i64 0, .int .i64 0, .int .i64 0, .int .i64 0, .int .i64 0, .int .i64 0, .int .i64 0, .int .i64 0, .int .i64 0, .int .i64 0, .int .i64 0, .int .i64 0, .int .i64 0, .int .i64 0, .int .i64 0, .int .i64 0, .int .i64 0, .int .i64 0, .int .i64 0, .int .i64 0, .int .i64 0, .int .i64 0, .int .i64 0, .int .i64 0, .int .i64 0, .int .i64 0, .int .i64 0, .int .i64 0, .int .i64 0, .int .i64 0, .int .i64 0, .int .i64 0, .int .i64 0]⟩ := by kernel_rfl
theorem T89 : j9 Tryz.prog 89 = some ⟨.slice 92, 1, 24, some [.nils]⟩ := by kernel_rfl
theorem T92 : j9 Tryz.prog 92 = some ⟨.struct [(0, 1, 3), (1, 1, 3), (2, 3, 28)], 5, 40, some [.int .i64 0, .int .i64 0, .int .i64 0, .int .i64 0, .int .i64 0]⟩ := by kernel_rfl
theorem T96 : j9 Tryz.prog 96 = some ⟨.func, 1, 8, some [.nilf]⟩ := by kernel_rfl
theorem po : j9 Tryz.prog 100 = some ⟨.slice 4, 1, 24, some [.nils]⟩ := by kernel_rfl
theorem rm : j9 Tryz.prog 104 = some ⟨.ptr, 1, 8, some [.nilp]⟩ := by kernel_rfl
theorem rn : j9 Tryz.prog 106 = some ⟨.struct [(0, 2, 25), (2, 49, 60), (51, 1, 62)], 52, 464, some [.nils, .nils, .int .i64 0, .int .i64 0, .int .i64 0, .int .i64 0, .int .i64 0, .int .i64 0, .int .i64 0, .int .i64 0, .int .i64 0, .int .i64 0, .int .i64 0, .int .i64 0, .int .i64 0, .int .i64 0, .int .i64 0, .int .i64 0, .int .i64 0, .int .i64 0, .int .i64 0, .int .i64 0, .int .i64 0, .int .i64 0, .int .i64 0, .int .i64 0, .int .i64 0, .int .i64 0, .int .i64 0, .int .i64 0, .int .i64 0, .int .i64 0, .int .i64 0, .int .i64 0, .int .i64 0, .int .i64 0, .int .i64 0, .int .i64 0, .int .i64 0, .int .i64 0, .int .i64 0, .int .i64 0, .int .i64 0, .int .i64 0, .int .i64 0, .int .i64 0, .int .i64 0, .int .i64 0, .int .i64 0, .int .i64 0, .int .i64 0, .nils]⟩ := by kernel_rfl
theorem fS : j9 Tryz.prog 118 = some ⟨.slice 121, 1, 24, some [.nils]⟩ := by kernel_rfl
theorem np : j9 Tryz.prog 121 = some ⟨.struct [(0, 5, 92), (5, 49, 82)], 54, 432, some [.int .i64 0, .int .i64 0, .int .i64 0, .int .i64 0, .int .i64 0, .int .i64 0, .int .i64 0, .int .i64 0, .int .i64 0, .int .i64 0, .int .i64 0, .int .i64 0, .int .i64 0, .int .i64 0, .int .i64 0, .int .i64 0, .int .i64 0, .int .i64 0, .int .i64 0, .int .i64 0, .int .i64 0, .int .i64 0, .int .i64 0, .int .i64 0, .int .i64 0, .int .i64 0, .int .i64 0, .int .i64 0, .int .i64 0, .int .i64 0, .int .i64 0, .int .i64 0, .int .i64 0, .int .i64 0, .int .i64 0, .int .i64 0, .int .i64 0, .int .i64 0, .int .i64 0, .int .i64 0, .int .i64 0, .int .i64 0, .int .i64 0, .int .i64 0, .int .i64 0, .int .i64 0, .int .i64 0, .int .i64 0, .int .i64 0, .int .i64 0, .int .i64 0, .int .i64 0, .int .i64 0, .int .i64 0]⟩ := by kernel_rfl
theorem xT : j9 Tryz.prog 128 = some ⟨.func, 1, 8, some [.nilf]⟩ := by kernel_rfl
theorem zp : j9 Tryz.prog 134 = some ⟨.other, 1, 8, some [.nilm]⟩ := by kernel_rfl
theorem vV : j9 Tryz.prog 136 = some ⟨.slice 138, 1, 24, some [.nils]⟩ := by kernel_rfl
theorem vW : j9 Tryz.prog 138 = some ⟨.struct [(0, 1, 3), (1, 1, 3)], 2, 16, some [.int .i64 0, .int .i64 0]⟩ := by kernel_rfl
theorem Bc : j9 Tryz.prog 140 = some ⟨.func, 1, 8, some [.nilf]⟩ := by kernel_rfl
theorem iM : j9 Tryz.prog 142 = some ⟨.ptr, 1, 8, some [.nilp]⟩ := by kernel_rfl
theorem iN : j9 Tryz.prog 144 = some ⟨.struct [(0, 2, 25), (2, 49, 82), (51, 1, 118)], 52, 464, some [.nils, .nils, .int .i64 0, .int .i64 0, .int .i64 0, .int .i64 0, .int .i64 0, .int .i64 0, .int .i64 0, .int .i64 0, .int .i64 0, .int .i64 0, .int .i64 0, .int .i64 0, .int .i64 0, .int .i64 0, .int .i64 0, .int .i64 0, .int .i64 0, .int .i64 0, .int .i64 0, .int .i64 0, .int .i64 0, .int .i64 0, .int .i64 0, .int .i64 0, .int .i64 0, .int .i64 0, .int .i64 0, .int .i64 0, .int .i64 0, .int .i64 0, .int .i64 0, .int .i64 0, .int .i64 0, .int .i64 0, .int .i64 0, .int .i64 0, .int .i64 0, .int .i64 0, .int .i64 0, .int .i64 0, .int .i64 0, .int .i64 0, .int .i64 0, .int .i64 0, .int .i64 0, .int .i64 0, .int .i64 0, .int .i64 0, .int .i64 0, .nils]⟩ := by kernel_rfl
theorem nq : j9 Tryz.prog 146 = some ⟨.ptr, 1, 8, some [.nilp]⟩ := by kernel_rfl
theorem jG : j9 Tryz.prog 147 = some ⟨.func, 1, 8, some [.nilf]⟩ := by kernel_rfl
theorem uc : j9 Tryz.prog 160 = some ⟨.func, 1, 8, some [.nilf]⟩ := by kernel_rfl
theorem Aq : j9 Tryz.prog 165 = some ⟨.struct [(0, 1, 3), (1, 1, 3)], 2, 16, some [.int .i64 0, .int .i64 0]⟩ := by kernel_rfl
theorem ro : j9 Tryz.prog 184 = some ⟨.struct [(0, 1, 3), (1, 1, 4), (2, 1, 3)], 3, 24, some [.int .i64 0, .bool false, .int .i64 0]⟩ := by kernel_rfl
theorem nr : j9 Tryz.prog 185 = some ⟨.struct [(0, 1, 3), (1, 1, 4), (2, 1, 3)], 3, 24, some [.int .i64 0, .bool false, .int .i64 0]⟩ := by kernel_rfl
theorem zq : j9 Tryz.prog 201 = some ⟨.struct [(0, 1, 9), (1, 1, 3), (2, 1, 3), (3, 1, 3)], 4, 40, some [.str ⟨#[]⟩, .int .i64 0, .int .i64 0, .int .i64 0]⟩ := by kernel_rfl
theorem zs : j9 Tryz.prog 202 = some ⟨.array 15 201, 60, 600, some [.str ⟨#[]⟩, .int .i64 0, .int .i64 0, .int .i64 0, .str ⟨#[]⟩, .int .i64 0, .int .i64 0, .int .i64 0, .str ⟨#[]⟩, .int .i64 0, .int .i64 0, .int .i64 0, .str ⟨#[]⟩, .int .i64 0, .int .i64 0, .int .i64 0, .str ⟨#[]⟩, .int .i64 0, .int .i64 0, .int .i64 0, .str ⟨#[]⟩, .int .i64 0, .int .i64 0, .int .i64 0, .str ⟨#[]⟩, .int .i64 0, .int .i64 0, .int .i64 0, .str ⟨#[]⟩, .int .i64 0, .int .i64 0, .int .i64 0, .str ⟨#[]⟩, .int .i64 0, .int .i64 0, .int .i64 0, .str ⟨#[]⟩, .int .i64 0, .int .i64 0, .int .i64 0, .str ⟨#[]⟩, .int .i64 0, .int .i64 0, .int .i64 0, .str ⟨#[]⟩, .int .i64 0, .int .i64 0, .int .i64 0, .str ⟨#[]⟩, .int .i64 0, .int .i64 0, .int .i64 0, .str ⟨#[]⟩, .int .i64 0, .int .i64 0, .int .i64 0, .str ⟨#[]⟩, .int .i64 0, .int .i64 0, .int .i64 0]⟩ := by kernel_rfl
theorem Q57 : Tryz.prog.eqGuardType Tryz.prog.depth 57 = false := by kernel_rfl
theorem W28 : oE Tryz.prog 28 3 = true := by kernel_rfl
theorem W60 : oE Tryz.prog 60 49 = true := by kernel_rfl
theorem Ar : vj Tryz.prog 134 = some (82, 4) := by kernel_rfl
theorem At : vl Tryz.prog 82 49 = true := by kernel_rfl
theorem Au : vn Tryz.prog 4 = true := by kernel_rfl
theorem E9 : g8 Tryz.prog 9 := ⟨_, _, Tryz.func9, rfl, by kernel_rfl⟩
theorem E10 : g8 Tryz.prog 10 := ⟨_, _, Tryz.func10, rfl, by kernel_rfl⟩
theorem E11 : g8 Tryz.prog 11 := ⟨_, _, Tryz.func11, rfl, by kernel_rfl⟩
theorem E12 : g8 Tryz.prog 12 := ⟨_, _, Tryz.func12, rfl, by kernel_rfl⟩
theorem E15 : g8 Tryz.prog 15 := ⟨_, _, Tryz.func15, rfl, by kernel_rfl⟩
theorem E16 : g8 Tryz.prog 16 := ⟨_, _, Tryz.func16, rfl, by kernel_rfl⟩
theorem E19 : g8 Tryz.prog 19 := ⟨_, _, Tryz.func19, rfl, by kernel_rfl⟩
theorem E20 : g8 Tryz.prog 20 := ⟨_, _, Tryz.func20, rfl, by kernel_rfl⟩
theorem E21 : g8 Tryz.prog 21 := ⟨_, _, Tryz.func21, rfl, by kernel_rfl⟩
theorem E22 : g8 Tryz.prog 22 := ⟨_, _, Tryz.func22, rfl, by kernel_rfl⟩
theorem E23 : g8 Tryz.prog 23 := ⟨_, _, Tryz.func23, rfl, by kernel_rfl⟩
theorem E24 : g8 Tryz.prog 24 := ⟨_, _, Tryz.func24, rfl, by kernel_rfl⟩
theorem E29 : g8 Tryz.prog 29 := ⟨_, _, Tryz.func29, rfl, by kernel_rfl⟩
theorem E30 : g8 Tryz.prog 30 := ⟨_, _, Tryz.func30, rfl, by kernel_rfl⟩
theorem E31 : g8 Tryz.prog 31 := ⟨_, _, Tryz.func31, rfl, by kernel_rfl⟩
theorem E32 : g8 Tryz.prog 32 := ⟨_, _, Tryz.func32, rfl, by kernel_rfl⟩
theorem E33 : g8 Tryz.prog 33 := ⟨_, _, Tryz.func33, rfl, by kernel_rfl⟩
theorem E34 : g8 Tryz.prog 34 := ⟨_, _, Tryz.func34, rfl, by kernel_rfl⟩
theorem E35 : g8 Tryz.prog 35 := ⟨_, _, Tryz.func35, rfl, by kernel_rfl⟩
theorem E36 : g8 Tryz.prog 36 := ⟨_, _, Tryz.func36, rfl, by kernel_rfl⟩
theorem E38 : g8 Tryz.prog 38 := ⟨_, _, Tryz.func38, rfl, by kernel_rfl⟩
theorem E39 : g8 Tryz.prog 39 := ⟨_, _, Tryz.func39, rfl, by kernel_rfl⟩
theorem E41 : g8 Tryz.prog 41 := ⟨_, _, Tryz.func41, rfl, by kernel_rfl⟩
theorem E42 : g8 Tryz.prog 42 := ⟨_, _, Tryz.func42, rfl, by kernel_rfl⟩
theorem E43 : g8 Tryz.prog 43 := ⟨_, _, Tryz.func43, rfl, by kernel_rfl⟩
theorem E44 : g8 Tryz.prog 44 := ⟨_, _, Tryz.func44, rfl, by kernel_rfl⟩
theorem E45 : g8 Tryz.prog 45 := ⟨_, _, Tryz.func45, rfl, by kernel_rfl⟩
theorem E46 : g8 Tryz.prog 46 := ⟨_, _, Tryz.func46, rfl, by kernel_rfl⟩
theorem E47 : g8 Tryz.prog 47 := ⟨_, _, Tryz.func47, rfl, by kernel_rfl⟩
theorem E48 : g8 Tryz.prog 48 := ⟨_, _, Tryz.func48, rfl, by kernel_rfl⟩
theorem E49 : g8 Tryz.prog 49 := ⟨_, _, Tryz.func49, rfl, by kernel_rfl⟩
theorem E50 : g8 Tryz.prog 50 := ⟨_, _, Tryz.func50, rfl, by kernel_rfl⟩
theorem E51 : g8 Tryz.prog 51 := ⟨_, _, Tryz.func51, rfl, by kernel_rfl⟩
theorem E52 : g8 Tryz.prog 52 := ⟨_, _, Tryz.func52, rfl, by kernel_rfl⟩
theorem E53 : g8 Tryz.prog 53 := ⟨_, _, Tryz.func53, rfl, by kernel_rfl⟩
theorem E54 : g8 Tryz.prog 54 := ⟨_, _, Tryz.func54, rfl, by kernel_rfl⟩
theorem E55 : g8 Tryz.prog 55 := ⟨_, _, Tryz.func55, rfl, by kernel_rfl⟩
theorem E56 : g8 Tryz.prog 56 := ⟨_, _, Tryz.func56, rfl, by kernel_rfl⟩
theorem E57 : g8 Tryz.prog 57 := ⟨_, _, Tryz.func57, rfl, by kernel_rfl⟩
theorem E58 : g8 Tryz.prog 58 := ⟨_, _, Tryz.func58, rfl, by kernel_rfl⟩
theorem E59 : g8 Tryz.prog 59 := ⟨_, _, Tryz.func59, rfl, by kernel_rfl⟩
theorem E62 : g8 Tryz.prog 62 := ⟨_, _, Tryz.func62, rfl, by kernel_rfl⟩
theorem E63 : g8 Tryz.prog 63 := ⟨_, _, Tryz.func63, rfl, by kernel_rfl⟩
theorem E64 : g8 Tryz.prog 64 := ⟨_, _, Tryz.func64, rfl, by kernel_rfl⟩
theorem E65 : g8 Tryz.prog 65 := ⟨_, _, Tryz.func65, rfl, by kernel_rfl⟩
theorem E66 : g8 Tryz.prog 66 := ⟨_, _, Tryz.func66, rfl, by kernel_rfl⟩
theorem E67 : g8 Tryz.prog 67 := ⟨_, _, Tryz.func67, rfl, by kernel_rfl⟩
theorem E68 : g8 Tryz.prog 68 := ⟨_, _, Tryz.func68, rfl, by kernel_rfl⟩
theorem E69 : g8 Tryz.prog 69 := ⟨_, _, Tryz.func69, rfl, by kernel_rfl⟩
theorem E70 : g8 Tryz.prog 70 := ⟨_, _, Tryz.func70, rfl, by kernel_rfl⟩
theorem E71 : g8 Tryz.prog 71 := ⟨_, _, Tryz.func71, rfl, by kernel_rfl⟩
theorem E72 : g8 Tryz.prog 72 := ⟨_, _, Tryz.func72, rfl, by kernel_rfl⟩
theorem E73 : g8 Tryz.prog 73 := ⟨_, _, Tryz.func73, rfl, by kernel_rfl⟩
theorem E74 : g8 Tryz.prog 74 := ⟨_, _, Tryz.func74, rfl, by kernel_rfl⟩
theorem E75 : g8 Tryz.prog 75 := ⟨_, _, Tryz.func75, rfl, by kernel_rfl⟩
theorem E76 : g8 Tryz.prog 76 := ⟨_, _, Tryz.func76, rfl, by kernel_rfl⟩
theorem E77 : g8 Tryz.prog 77 := ⟨_, _, Tryz.func77, rfl, by kernel_rfl⟩
theorem E78 : g8 Tryz.prog 78 := ⟨_, _, Tryz.func78, rfl, by kernel_rfl⟩
theorem E79 : g8 Tryz.prog 79 := ⟨_, _, Tryz.func79, rfl, by kernel_rfl⟩
theorem E80 : g8 Tryz.prog 80 := ⟨_, _, Tryz.func80, rfl, by kernel_rfl⟩
theorem E81 : g8 Tryz.prog 81 := ⟨_, _, Tryz.func81, rfl, by kernel_rfl⟩
theorem E82 : g8 Tryz.prog 82 := ⟨_, _, Tryz.func82, rfl, by kernel_rfl⟩
theorem E83 : g8 Tryz.prog 83 := ⟨_, _, Tryz.func83, rfl, by kernel_rfl⟩
theorem E94 : g8 Tryz.prog 94 := ⟨_, _, Tryz.func94, rfl, by kernel_rfl⟩
theorem E95 : g8 Tryz.prog 95 := ⟨_, _, Tryz.func95, rfl, by kernel_rfl⟩
theorem E96 : g8 Tryz.prog 96 := ⟨_, _, Tryz.func96, rfl, by kernel_rfl⟩
theorem E97 : g8 Tryz.prog 97 := ⟨_, _, Tryz.func97, rfl, by kernel_rfl⟩
theorem E98 : g8 Tryz.prog 98 := ⟨_, _, Tryz.func98, rfl, by kernel_rfl⟩
theorem E99 : g8 Tryz.prog 99 := ⟨_, _, Tryz.func99, rfl, by kernel_rfl⟩
theorem lf : g8 Tryz.prog 100 := ⟨_, _, Tryz.func100, rfl, by kernel_rfl⟩
theorem Bd : g8 Tryz.prog 101 := ⟨_, _, Tryz.func101, rfl, by kernel_rfl⟩
theorem Bf : g8 Tryz.prog 102 := ⟨_, _, Tryz.func102, rfl, by kernel_rfl⟩
theorem Bg : g8 Tryz.prog 103 := ⟨_, _, Tryz.func103, rfl, by kernel_rfl⟩
theorem Bh : g8 Tryz.prog 104 := ⟨_, _, Tryz.func104, rfl, by kernel_rfl⟩
theorem Av : g8 Tryz.prog 105 := ⟨_, _, Tryz.func105, rfl, by kernel_rfl⟩
theorem Aw : g8 Tryz.prog 106 := ⟨_, _, Tryz.func106, rfl, by kernel_rfl⟩
theorem zu : g8 Tryz.prog 107 := ⟨_, _, Tryz.func107, rfl, by kernel_rfl⟩
theorem Bi : g8 Tryz.prog 108 := ⟨_, _, Tryz.func108, rfl, by kernel_rfl⟩
theorem eu : g8 Tryz.prog 109 := ⟨_, _, Tryz.func109, rfl, by kernel_rfl⟩
theorem Bj : g8 Tryz.prog 110 := ⟨_, _, Tryz.func110, rfl, by kernel_rfl⟩
theorem Ax : g8 Tryz.prog 111 := ⟨_, _, Tryz.func111, rfl, by kernel_rfl⟩
theorem Ay : g8 Tryz.prog 112 := ⟨_, _, Tryz.func112, rfl, by kernel_rfl⟩
theorem Bk : g8 Tryz.prog 113 := ⟨_, _, Tryz.func113, rfl, by kernel_rfl⟩
theorem Az : g8 Tryz.prog 114 := ⟨_, _, Tryz.func114, rfl, by kernel_rfl⟩
theorem AA : g8 Tryz.prog 115 := ⟨_, _, Tryz.func115, rfl, by kernel_rfl⟩
theorem AB : g8 Tryz.prog 116 := ⟨_, _, Tryz.func116, rfl, by kernel_rfl⟩
theorem Bl : g8 Tryz.prog 117 := ⟨_, _, Tryz.func117, rfl, by kernel_rfl⟩
theorem Bm : g8 Tryz.prog 118 := ⟨_, _, Tryz.func118, rfl, by kernel_rfl⟩
theorem Bn : g8 Tryz.prog 119 := ⟨_, _, Tryz.func119, rfl, by kernel_rfl⟩
theorem xU : g8 Tryz.prog 120 := ⟨_, _, Tryz.func120, rfl, by kernel_rfl⟩
theorem Bo : g8 Tryz.prog 126 := ⟨_, _, Tryz.func126, rfl, by kernel_rfl⟩
theorem AD : g8 Tryz.prog 127 := ⟨_, _, Tryz.func127, rfl, by kernel_rfl⟩
theorem AE : g8 Tryz.prog 128 := ⟨_, _, Tryz.func128, rfl, by kernel_rfl⟩
theorem xV : g8 Tryz.prog 129 := ⟨_, _, Tryz.func129, rfl, by kernel_rfl⟩
theorem eA : g8 Tryz.prog 130 := ⟨_, _, Tryz.func130, rfl, by kernel_rfl⟩
theorem zw : g8 Tryz.prog 131 := ⟨_, _, Tryz.func131, rfl, by kernel_rfl⟩
theorem zx : g8 Tryz.prog 132 := ⟨_, _, Tryz.func132, rfl, by kernel_rfl⟩
theorem rp : g8 Tryz.prog 133 := ⟨_, _, Tryz.func133, rfl, by kernel_rfl⟩
theorem ud : g8 Tryz.prog 134 := ⟨_, _, Tryz.func134, rfl, by kernel_rfl⟩
theorem Bp : g8 Tryz.prog 135 := ⟨_, _, Tryz.func135, rfl, by kernel_rfl⟩
theorem Bq : g8 Tryz.prog 136 := ⟨_, _, Tryz.func136, rfl, by kernel_rfl⟩
theorem Br : g8 Tryz.prog 137 := ⟨_, _, Tryz.func137, rfl, by kernel_rfl⟩
theorem Bs : g8 Tryz.prog 138 := ⟨_, _, Tryz.func138, rfl, by kernel_rfl⟩
theorem xW : g8 Tryz.prog 139 := ⟨_, _, Tryz.func139, rfl, by kernel_rfl⟩
theorem iP : g8 Tryz.prog 140 := ⟨_, _, Tryz.func140, rfl, by kernel_rfl⟩
theorem zy : g8 Tryz.prog 141 := ⟨_, _, Tryz.func141, rfl, by kernel_rfl⟩
theorem Bt : g8 Tryz.prog 142 := ⟨_, _, Tryz.func142, rfl, by kernel_rfl⟩
theorem AF : g8 Tryz.prog 144 := ⟨_, _, Tryz.func144, rfl, by kernel_rfl⟩
theorem AG : g8 Tryz.prog 145 := ⟨_, _, Tryz.func145, rfl, by kernel_rfl⟩
theorem Bu : g8 Tryz.prog 146 := ⟨_, _, Tryz.func146, rfl, by kernel_rfl⟩
theorem AH : g8 Tryz.prog 147 := ⟨_, _, Tryz.func147, rfl, by kernel_rfl⟩
theorem Bw : g8 Tryz.prog 148 := ⟨_, _, Tryz.func148, rfl, by kernel_rfl⟩
theorem pp : g8 Tryz.prog 149 := ⟨_, _, Tryz.func149, rfl, by kernel_rfl⟩
theorem Bx : g8 Tryz.prog 150 := ⟨_, _, Tryz.func150, rfl, by kernel_rfl⟩
theorem zA : g8 Tryz.prog 151 := ⟨_, _, Tryz.func151, rfl, by kernel_rfl⟩
theorem AI : g8 Tryz.prog 152 := ⟨_, _, Tryz.func152, rfl, by kernel_rfl⟩
theorem AJ : g8 Tryz.prog 153 := ⟨_, _, Tryz.func153, rfl, by kernel_rfl⟩
theorem By : g8 Tryz.prog 154 := ⟨_, _, Tryz.func154, rfl, by kernel_rfl⟩
theorem AK : g8 Tryz.prog 155 := ⟨_, _, Tryz.func155, rfl, by kernel_rfl⟩
theorem AL : g8 Tryz.prog 156 := ⟨_, _, Tryz.func156, rfl, by kernel_rfl⟩
theorem zB : g8 Tryz.prog 157 := ⟨_, _, Tryz.func157, rfl, by kernel_rfl⟩
theorem Bz : g8 Tryz.prog 158 := ⟨_, _, Tryz.func158, rfl, by kernel_rfl⟩
theorem BA : g8 Tryz.prog 159 := ⟨_, _, Tryz.func159, rfl, by kernel_rfl⟩
theorem BB : g8 Tryz.prog 160 := ⟨_, _, Tryz.func160, rfl, by kernel_rfl⟩
theorem BC : g8 Tryz.prog 161 := ⟨_, _, Tryz.func161, rfl, by kernel_rfl⟩
theorem BD : g8 Tryz.prog 162 := ⟨_, _, Tryz.func162, rfl, by kernel_rfl⟩
end
section
inductive Tm where
  | mk (op n : Int) (kids : List Tm)
namespace Tm
def op : Tm → Int | .mk o _ _ => o
def n : Tm → Int | .mk _ n _ => n
def kids : Tm → List Tm | .mk _ _ k => k
end Tm
def eT : Tm → List PV
  | .mk o n ks => [.int .i64 o, .int .i64 n, .sl (ks.map eT)]
theorem p9 (t : Tm) : eT t = [.int .i64 t.op, .int .i64 t.n, .sl (t.kids.map eT)] := by
  cases t; simp [eT, Tm.op, Tm.n, Tm.kids]
theorem Tm.kid_lt {t k : Tm} (h : k ∈ t.kids) : SizeOf.sizeOf k < SizeOf.sizeOf t := by
  cases t with
  | mk o n ks =>
    have := List.sizeOf_lt_of_mem h
    simp only [Tm.kids, Tm.mk.sizeOf_spec] at *
    omega
theorem Tm.ind {p : Tm → Prop} (h : ∀ t, (∀ k ∈ t.kids, p k) → p t) (t : Tm) : p t :=
  h t fun k hk => Tm.ind h k
termination_by SizeOf.sizeOf t
decreasing_by exact Tm.kid_lt hk
abbrev aT (t : Tm) : AV := .agg [.i t.op, .i t.n, .p (.sl (t.kids.map eT))]
inductive Tm.Ok : Nat → Tm → Prop where
  | mk (d : Nat) (t : Tm) (hk : t.kids.length ≤ 100) (h : ∀ k ∈ t.kids, Tm.Ok d k) : Tm.Ok (d + 1) t
theorem Tm.Ok.ind {p : Nat → Tm → Prop} (h : ∀ d t, t.kids.length ≤ 100 → (∀ k ∈ t.kids, Tm.Ok d k ∧ p d k) → p (d + 1) t) {d : Nat} {t : Tm} (ht : Tm.Ok d t) : p d t := by
  induction ht with
  | mk d t hk hh ih => exact h d t hk fun k hm => ⟨hh k hm, ih k hm⟩
def Tm.depth : Tm → Nat
  | .mk _ _ ks => (ks.map Tm.depth).foldl max 0 + 1
theorem Tm.depth_eq (t : Tm) : t.depth = (t.kids.map Tm.depth).foldl max 0 + 1 := by
  cases t; simp [Tm.depth, Tm.kids]
theorem eC {l : List Nat} {d : Nat} (h : ∀ x ∈ l, x ≤ d) : ∀ a, a ≤ d → l.foldl max a ≤ d := by
  induction l with
  | nil => intro a ha; exact ha
  | cons x r ih => intro a ha; exact ih (fun y hy => h y (by simp [hy])) _ (by have := h x (by simp); omega)
theorem Tm.Ok.depth_le {d : Nat} {t : Tm} (h : Tm.Ok d t) : t.depth ≤ d := by
  refine Tm.Ok.ind (p := fun d t => t.depth ≤ d) (fun d t hk hh => ?_) h
  rw [Tm.depth_eq]
  have := eC (l := t.kids.map Tm.depth) (d := d) (fun x hx => by
    obtain ⟨k, hm, rfl⟩ := List.mem_map.mp hx
    exact (hh k hm).2) 0 (Nat.zero_le _)
  omega
theorem dD {l : List Tm} {i : Nat} {k : Tm} (h : l[i]? = some k) : (l.map eT)[i]? = some (eT k) := by simp [h]
def bg := And.intro T2 (And.intro T3 (And.intro T4 (And.intro T31 (And.intro T58 (And.intro T75 (And.intro ro (And.intro nr (And.intro zq zs))))))))
attribute [local irreducible] awp n9 k3
variable {G : Nat → Option (List PV)}
def inM (n : Int) : Bool := decide (-1099511627776 ≤ n) && decide (n ≤ 1099511627776)
theorem dE (n : Int) (h : Heap) : d5 Tryz.prog G 99 [.i n] h (fun r h' => r = .b (inM n) ∧ h' = h) := by
  refine c8 (rl := []) e9 Tryz.func99 rfl (rs := [.tmp 2]) rfl Tryz.ntmps99 (by simp) ?_
  repeat' (first | ((repeat ((fail_if_success (refine hK _ ?_)); clear hK K)); refine hK _ ?_; clear hK K) | (refine b9 fun K1 q6 => ?_; simp only [S1, simprocAttr, bg]; first | refine q6 _ ?_; clear q6 K1 | (refine l6 (v := ?_) (fun hg q8 => ?_) ?_; rotate_left; (focus (try ((try simp only [BN] at hg); simp only [S1, simprocAttr, bg, hg] at q8 ⊢)); exact q8); refine q6 _ ?_; clear q6 K1)) | refine b6 fun K hK => ?_ | ((first | apply b8 | apply b5 | apply d3); try simp only [NB, simprocAttr]))
  all_goals simp only [S1, simprocAttr, ENB, bg]
  all_goals simp [inM]
theorem ue (n : Int) (h : Heap) : d5 Tryz.prog G 159 [.i n] h (fun r h' => r = .i (if n < IntKind.i64.wrap (0 - n) then IntKind.i64.wrap (0 - n) else n) ∧ h' = h) := by
  refine c8 (rl := []) e9 Tryz.func159 rfl (rs := [.tmp 2]) rfl Tryz.ntmps159 (by simp) ?_
  repeat' (first | ((repeat ((fail_if_success (refine hK _ ?_)); clear hK K)); refine hK _ ?_; clear hK K) | (refine b9 fun K1 q6 => ?_; simp only [S1, simprocAttr, bg]; refine q6 _ ?_; clear q6 K1) | refine b6 fun K hK => ?_ | ((first | apply b8 | apply b5 | apply d3); try simp only [NB, simprocAttr]))
  all_goals simp only [S1, simprocAttr, ENB, bg]
theorem rq (n : Int) (h : Heap) : d5 Tryz.prog G 151 [.i n] h (fun r h' => r = .i (if n < 0 then IntKind.i64.wrap (0 - n) else n) ∧ h' = h) := by
  refine c8 (rl := []) e9 Tryz.func151 rfl (rs := [.tmp 2]) rfl Tryz.ntmps151 (by simp) ?_
  repeat' (first | ((repeat ((fail_if_success (refine hK _ ?_)); clear hK K)); refine hK _ ?_; clear hK K) | ((first | refine b9 fun K1 q6 => ?_ | refine b7 fun A B hA hB => ?_); simp only [S1, simprocAttr, bg]; first | refine q6 _ ?_; clear q6 K1 | ((((refine ⟨fun hg => hA ?_, fun hg => hB ?_⟩ <;> clear hA hB A B)) <;> (try simp only [BN2] at hg) <;> (try simp only [hg, cndB])) <;> (try (refine q6 _ ?_; clear q6 K1)) <;> (try simp only [BN3] at hg))) | refine b6 fun K hK => ?_ | ((first | apply b8 | apply b5 | apply c9 | apply d3); try simp only [NB, simprocAttr]))
  all_goals simp only [S1, simprocAttr, ENB, bg]
  all_goals simp [hg]
def bO (o : Int) : Int := if o < 3 then 0 else if o < 5 then 1 else 2
theorem rr (n : Int) (h : Heap) : d5 Tryz.prog G 150 [.i n] h (fun r h' => r = .i (bO n) ∧ h' = h) := by
  refine c8 (rl := []) e9 Tryz.func150 rfl (rs := [.tmp 2]) rfl Tryz.ntmps150 (by simp) ?_
  repeat' (first | ((repeat ((fail_if_success (refine hK _ ?_)); clear hK K)); refine hK _ ?_; clear hK K) | ((first | refine b9 fun K1 q6 => ?_ | refine b7 fun A B hA hB => ?_); simp only [S1, simprocAttr, bg]; first | refine q6 _ ?_; clear q6 K1 | ((((refine ⟨fun hg => hA ?_, fun hg => hB ?_⟩ <;> clear hA hB A B)) <;> (try simp only [BN2] at hg) <;> (try simp only [hg, cndB])) <;> (try (refine q6 _ ?_; clear q6 K1)) <;> (try simp only [BN3] at hg))) | refine b6 fun K hK => ?_ | ((first | apply b8 | apply b5 | apply c9 | apply d3); try simp only [NB, simprocAttr]))
  all_goals simp only [S1, simprocAttr, ENB, bg]
  all_goals simp [bO, *]
theorem eD (n : Int) (h : Heap) : d5 Tryz.prog G 128 [.i n] h (fun r h' => r = .b (n == 4 || decide (10 ≤ n)) ∧ h' = h) := by
  refine c8 (rl := []) e9 Tryz.func128 rfl (rs := [.tmp 2]) rfl Tryz.ntmps128 (by simp) ?_
  repeat' (first | ((repeat ((fail_if_success (refine hK _ ?_)); clear hK K)); refine hK _ ?_; clear hK K) | (refine b9 fun K1 q6 => ?_; simp only [S1, simprocAttr, bg]; first | refine q6 _ ?_; clear q6 K1 | (refine l6 (v := ?_) (fun hg q8 => ?_) ?_; rotate_left; (focus (try ((try simp only [BN] at hg); simp only [S1, simprocAttr, bg, hg] at q8 ⊢)); exact q8); refine q6 _ ?_; clear q6 K1)) | refine b6 fun K hK => ?_ | ((first | apply b8 | apply b5 | apply d3); try simp only [NB, simprocAttr]))
  all_goals simp only [S1, simprocAttr, ENB, bg]
  all_goals simp [*]
end
section
def sW := And.intro T2 (And.intro T3 (And.intro T4 (And.intro T31 (And.intro T58 (And.intro T73 T75)))))
attribute [local irreducible] awp n9 k3
variable {G : Nat → Option (List PV)}
def gU (ks : List Tm) (i : Nat) : Nat := ((ks.take i).map Tm.depth).foldl max 0
theorem vX {d : Nat} {ks : List Tm} (h : ∀ k ∈ ks, k.depth ≤ d) (i : Nat) : gU ks i ≤ d := by
  unfold gU
  exact eC (fun x hx => by
    obtain ⟨k, hm, rfl⟩ := List.mem_map.mp hx
    exact h k (List.mem_of_mem_take hm)) 0 (Nat.zero_le _)
theorem ru {ks : List Tm} {i : Nat} {k : Tm} (h : ks[i]? = some k) : gU ks (i + 1) = max (gU ks i) k.depth := by
  unfold gU
  rw [List.take_add_one, h]; simp
theorem pq {d : Nat} {t : Tm} (ht : Tm.Ok d t) (hd : d ≤ 200) (h : Heap) : d5 Tryz.prog G 144 [aT t] h (fun r h' => r = .i t.depth ∧ h' = h) := by
  revert hd h
  refine Tm.Ok.ind (p := fun d t => d ≤ 200 → ∀ h : Heap, d5 Tryz.prog G 144 [aT t] h (fun r h' => r = .i t.depth ∧ h' = h)) (fun d t hk ih hd h => ?_) ht
  have hdk : ∀ k ∈ t.kids, k.depth ≤ d := fun k hm => (ih k hm).1.depth_le
  refine c8 (rl := []) e9 Tryz.func144 rfl (rs := [.tmp 2]) rfl Tryz.ntmps144 (by simp) ?_
  repeat' (first | ((repeat ((fail_if_success (refine hK _ ?_)); clear hK K)); refine hK _ ?_; clear hK K) | (refine b9 fun K1 q6 => ?_; simp only [S1, simprocAttr, sW]; refine q6 _ ?_; clear q6 K1) | refine b6 fun K hK => ?_ | ((first | apply b8 | apply b5 | apply c7); try simp only [NB, simprocAttr]))
  refine p8 t.kids.length 23 (fun i => [(10, .i i), (9, .i t.kids.length), (8, .p (.sl (t.kids.map eT))), (3, .i (gU t.kids i))]) (fun i => []) (fun _ => True) ?_ trivial fun i hi _ K hK => ?_
  · (refine ⟨rfl, (by first | exact ⟨_, rfl⟩ | exact ⟨[], by simp⟩), ?_, ?_⟩ <;> simp only [S1, simprocAttr, KNB] <;> (try and_intros) <;> (try assumption) <;> (try trivial) <;> (try omega))
  · rcases Nat.lt_or_ge i t.kids.length with hlt | hge
    · obtain ⟨k, hk⟩ : ∃ k, t.kids[i]? = some k := ⟨_, List.getElem?_eq_getElem hlt⟩
      have hm := List.mem_of_getElem? hk
      have hrow := dD hk
      have hc : (decide ((i : Int) < (t.kids.length : Int))) = true := by simp; omega
      have hw : IntKind.i64.wrap ((i : Int) + 1) = ((i + 1 : Nat) : Int) := by rw [IntWalk.i64_in _ (by omega)]; omega
      have hs := ru hk
      repeat' (first | ((repeat ((fail_if_success (refine hK _ ?_)); clear hK K)); refine hK _ ?_; clear hK K) | ((first | refine b9 fun K1 q6 => ?_ | refine b7 fun A B hA hB => ?_); simp only [S1, simprocAttr, sW, hrow, hc, hw, p9]; first | refine q6 _ ?_; clear q6 K1 | (refine hA ?_; clear hA hB A B) | (apply d4 AF; exact ((ih k hm).2 (by omega) _); refine q6 _ ?_; clear q6 K1) | ((((refine ⟨fun hg => hA ?_, fun hg => hB ?_⟩ <;> clear hA hB A B)) <;> (try simp only [BN2] at hg) <;> (try simp only [hg, cndB])) <;> (try (refine q6 _ ?_; clear q6 K1)) <;> (try simp only [BN3] at hg))) | refine b6 fun K hK => ?_ | ((first | apply b8 | apply b5 | apply c7 | apply c9); try simp only [NB, simprocAttr]))
      all_goals refine ⟨hlt, trivial, ?_⟩
      all_goals (refine ⟨rfl, (by first | exact ⟨_, rfl⟩ | exact ⟨[], by simp⟩), ?_, ?_⟩ <;> simp only [S1, simprocAttr, KNB] <;> (try and_intros) <;> (try assumption) <;> (try trivial) <;> (try omega))
    · have hc : (decide ((i : Int) < (t.kids.length : Int))) = false := by simp; omega
      have hd := vX hdk t.kids.length
      have hw : IntKind.i64.wrap ((gU t.kids t.kids.length : Int) + 1) = (t.depth : Int) := by
        rw [IntWalk.i64_in _ (by omega), Tm.depth_eq, gU, List.take_length]; omega
      obtain rfl : i = t.kids.length := by omega
      repeat' (first | ((repeat ((fail_if_success (refine hK _ ?_)); clear hK K)); refine hK _ ?_; clear hK K) | ((first | refine b9 fun K1 q6 => ?_ | refine b7 fun A B hA hB => ?_); simp only [S1, simprocAttr, sW, hc, hw]; first | refine q6 _ ?_; clear q6 K1 | (refine hB ?_; clear hA hB A B)) | refine b6 fun K hK => ?_ | ((first | apply b8 | apply b5 | apply f9 | apply d3); try simp only [NB, simprocAttr]))
      simp only [S1, simprocAttr, ENB, sW]
theorem pr {f : Tm → Bool} {l : List Tm} {i : Nat} {k : Tm} (hk : l[i]? = some k) (h : (l.take i).all f = true) (hf : f k = true) : (l.take (i + 1)).all f = true := by
  rw [List.take_add_one, hk]; simp only [List.all_append, h, Option.toList_some, List.all_cons, hf, List.all_nil, Bool.and_self]
theorem vY {f : Tm → Bool} {l : List Tm} {k : Tm} (hk : k ∈ l) (hf : f k = false) : l.all f = false := by
  cases h : l.all f with
  | false => rfl
  | true => rw [List.all_eq_true.mp h k hk] at hf; cases hf
def w7 (o : Int) : Bool := o == 4 || decide (10 ≤ o)
def G6 (o : Int) : Bool := o == 4 || decide (13 ≤ o)
def Tm.typed : Tm → Bool
  | .mk o _ ks => (ks.map Tm.typed).all id && ks.all fun k => w7 k.op == G6 o
def I8 (o : Int) (k : Tm) : Bool := (w7 k.op == G6 o) && k.typed
theorem Tm.typed_eq (t : Tm) : t.typed = t.kids.all (I8 t.op) := by
  cases t with
  | mk o n ks =>
    simp only [Tm.typed, Tm.op, Tm.kids, List.all_map, Function.id_comp]
    induction ks with
    | nil => rfl
    | cons k r ih =>
      rw [List.all_cons, List.all_cons, List.all_cons, ← ih]
      show _ = (((w7 k.op == G6 o) && k.typed) && _)
      ac_rfl
def A1 (o n : Int) (k : Nat) : Bool := decide (1 ≤ o) && decide (o ≤ 14) && decide ((k : Int) = bO o) && decide (0 ≤ n) && decide (o = 1 → n ≤ 1099511627776) && decide (o = 2 → n ≤ 3) && decide (2 < o → n = 0)
def Tm.form : Tm → Bool
  | .mk o n ks => A1 o n ks.length && (ks.map Tm.form).all id
theorem Tm.form_eq (t : Tm) : t.form = (A1 t.op t.n t.kids.length && t.kids.all Tm.form) := by cases t; simp only [Tm.form, Tm.op, Tm.n, Tm.kids, List.all_map, Function.id_comp]
theorem cu {ks : List Tm} {i : Nat} (h : i < ks.length) : decide ((i : Int) < (ks.length : Int)) = true := by simp; omega
theorem iU {ks : List Tm} : decide ((ks.length : Int) < (ks.length : Int)) = false := by simp
theorem ag {ks : List Tm} {i : Nat} (hk : ks.length ≤ 100) (h : i < ks.length) : IntKind.i64.wrap ((i : Int) + 1) = ((i + 1 : Nat) : Int) := by rw [IntWalk.i64_in _ (by omega)]; omega
end
section
def eE := And.intro T2 (And.intro T3 (And.intro T4 (And.intro T31 (And.intro T58 (And.intro T73 T75)))))
attribute [local irreducible] awp n9 k3
variable {G : Nat → Option (List PV)}
theorem pt {o : Int} {k : Tm} (hg : (!((k.op == 4 || decide (10 ≤ k.op)) == G6 o) || !k.typed) = true) : I8 o k = false := by
  revert hg; unfold I8 w7; generalize ((k.op == 4 || decide (10 ≤ k.op)) == G6 o) = a; generalize k.typed = b; cases a <;> cases b <;> simp
theorem nu {o : Int} {k : Tm} (hg : (k.op == 4 || decide (10 ≤ k.op)) = G6 o ∧ k.typed = true) : I8 o k = true := by
  unfold I8 w7; rw [hg.1, hg.2]; simp
theorem nv {d : Nat} {t : Tm} (ht : Tm.Ok d t) (h : Heap) : d5 Tryz.prog G 127 [aT t] h (fun r h' => r = .b t.typed ∧ h' = h) := by
  revert h
  refine Tm.Ok.ind (p := fun d t => ∀ h : Heap, d5 Tryz.prog G 127 [aT t] h (fun r h' => r = .b t.typed ∧ h' = h)) (fun d t hk ih h => ?_) ht
  rw [Tm.typed_eq]
  refine c8 (rl := []) e9 Tryz.func127 rfl (rs := [.tmp 2]) rfl Tryz.ntmps127 (by simp) ?_
  refine b6 fun K hK => ?_
  repeat' (first | (apply b8; (try simp only [NB]); ((repeat ((fail_if_success (refine hK _ ?_)); clear hK K)); refine hK _ ?_; clear hK K)) | (refine b9 fun K1 q6 => ?_; simp only [S1, simprocAttr, eE]; refine q6 _ ?_; clear q6 K1) | (apply b5; try simp only [NB, simprocAttr]; (try ((repeat ((fail_if_success (refine hK _ ?_)); clear hK K)); refine hK _ ?_; clear hK K))))
  refine jF 32 [(1, .ptr h.length 0 0), (3, .b (G6 t.op))] [some ⟨0, [.i t.op, .i t.n, .p (.sl (t.kids.map eT))]⟩] True (fun K hK => ?_) fun ha => ?_
  · repeat' (first | (apply b8; (try simp only [NB]); ((repeat ((fail_if_success (refine hK _ ?_)); clear hK K)); refine hK _ ?_; clear hK K)) | (refine b9 fun K1 q6 => ?_; simp only [S1, simprocAttr, eE]; first | refine q6 _ ?_; clear q6 K1 | (refine l6 (v := ?_) (fun hg q8 => ?_) ?_; rotate_left; (focus (try ((try simp only [BN] at hg); simp only [S1, simprocAttr, eE, hg] at q8 ⊢)); exact q8); refine q6 _ ?_; clear q6 K1)) | (apply b5; try simp only [NB, simprocAttr]; (try ((repeat ((fail_if_success (refine hK _ ?_)); clear hK K)); refine hK _ ?_; clear hK K))))
    all_goals exact ⟨trivial, by (refine ⟨rfl, (by first | exact ⟨_, rfl⟩ | exact ⟨[], by simp⟩), ?_, ?_⟩ <;> simp only [S1, simprocAttr, KNB] <;> (try and_intros) <;> (try assumption) <;> (try trivial) <;> (try omega)) <;> simp [G6, *]⟩
  refine b6 fun K hK => ?_
  repeat' (first | ((repeat ((fail_if_success (refine hK _ ?_)); clear hK K)); refine hK _ ?_; clear hK K) | (refine b9 fun K1 q6 => ?_; simp only [S1, simprocAttr, eE]; refine q6 _ ?_; clear q6 K1) | refine b6 fun K hK => ?_ | ((first | apply b8 | apply b5 | apply c7); try simp only [NB, simprocAttr]))
  refine p8 t.kids.length 32 (fun i => [(17, .i i), (16, .i t.kids.length), (15, .p (.sl (t.kids.map eT))), (3, .b (G6 t.op))]) (fun i => []) (fun i => (t.kids.take i).all (I8 t.op) = true) ?_ rfl fun i hi hp K hK => ?_
  · (refine ⟨rfl, (by first | exact ⟨_, rfl⟩ | exact ⟨[], by simp⟩), ?_, ?_⟩ <;> simp only [S1, simprocAttr, KNB] <;> (try and_intros) <;> (try assumption) <;> (try trivial) <;> (try omega))
  rcases Nat.lt_or_ge i t.kids.length with hlt | hge
  · obtain ⟨k, hx⟩ : ∃ k, t.kids[i]? = some k := ⟨_, List.getElem?_eq_getElem hlt⟩
    have hm := List.mem_of_getElem? hx
    repeat' (first | ((repeat ((fail_if_success (refine hK _ ?_)); clear hK K)); refine hK _ ?_; clear hK K) | ((first | refine b9 fun K1 q6 => ?_ | refine b7 fun A B hA hB => ?_); simp only [S1, simprocAttr, eE, dD hx, cu hlt, ag hk hlt, p9]; first | refine q6 _ ?_; clear q6 K1 | (refine hA ?_; clear hA hB A B) | (apply d4 AE; exact (eD _ _); refine q6 _ ?_; clear q6 K1) | (refine l6 (v := ?_) (fun hg q8 => ?_) ?_; rotate_left; (focus (try ((try simp only [BN] at hg); simp only [S1, simprocAttr, eE, dD hx, cu hlt, ag hk hlt, p9, hg] at q8 ⊢)); first | exact q8 | (apply d4 AD; exact ((ih k hm).2 _); exact q8)); refine q6 _ ?_; clear q6 K1) | ((((refine ⟨fun hg => hA ?_, fun hg => hB ?_⟩ <;> clear hA hB A B)) <;> (try simp only [BN2] at hg) <;> (try simp only [hg, cndB])) <;> (try (refine q6 _ ?_; clear q6 K1)) <;> (try simp only [BN3] at hg))) | refine b6 fun K hK => ?_ | ((first | apply b8 | apply b5 | apply c7 | apply c9 | apply d3); try simp only [NB, simprocAttr]))
    all_goals first
      | (refine ⟨hlt, pr hx hp ?_, ?_⟩
         · exact nu hg
         · (refine ⟨rfl, (by first | exact ⟨_, rfl⟩ | exact ⟨[], by simp⟩), ?_, ?_⟩ <;> simp only [S1, simprocAttr, KNB] <;> (try and_intros) <;> (try assumption) <;> (try trivial) <;> (try omega)))
      | (simp only [S1, simprocAttr, ENB, eE]
         rw [vY (f := (I8 t.op)) hm (pt hg)]
         try simp)
  · obtain rfl : i = t.kids.length := by omega
    repeat' (first | ((repeat ((fail_if_success (refine hK _ ?_)); clear hK K)); refine hK _ ?_; clear hK K) | ((first | refine b9 fun K1 q6 => ?_ | refine b7 fun A B hA hB => ?_); simp only [S1, simprocAttr, eE, iU]; first | refine q6 _ ?_; clear q6 K1 | (refine hB ?_; clear hA hB A B)) | refine b6 fun K hK => ?_ | ((first | apply b8 | apply b5 | apply f9 | apply d3); try simp only [NB, simprocAttr]))
    simp only [S1, simprocAttr, ENB, eE]
    rw [List.take_length] at hp
    simp [hp]
end
section
def jH := And.intro T2 (And.intro T3 (And.intro T4 (And.intro T31 (And.intro T58 (And.intro T73 (And.intro T75 xT))))))
attribute [local irreducible] awp n9 k3
variable {G : Nat → Option (List PV)}
def eG (p : Tm → Bool) : List Tm → Nat → Int
  | [], _ => -1
  | k :: r, i => if p k then (i : Int) else eG p r (i + 1)
theorem lQ (p : Tm → Bool) : ∀ (l : List Tm) (i : Nat), decide (0 ≤ eG p l i) = l.any p
  | [], i => rfl
  | k :: r, i => by
    unfold eG
    cases h : p k with
    | true => simp [h]
    | false => simp [h, lQ p r (i + 1)]
theorem rv {p : Tm → Bool} {l : List Tm} {i : Nat} {k : Tm} (hk : l[i]? = some k) : eG p (l.drop i) i = if p k then (i : Int) else eG p (l.drop (i + 1)) (i + 1) := by
  obtain ⟨h, e⟩ := List.getElem?_eq_some_iff.mp hk
  rw [List.drop_eq_getElem_cons h, e]; rfl
theorem pu {f : FuncId} (hE : g8 Tryz.prog f) {caps : List AV} {p : Tm → Bool} (ks : List Tm) (hl : ks.length ≤ 100) (h : Heap) (hcap : o4 h.length caps)
    (hc0 : ∀ k ∈ ks, d5 Tryz.prog G f (aT k :: caps) h (fun r h' => r = .b (p k) ∧ h' = h)) :
    d5 Tryz.prog G 162 [.p (.sl (ks.map eT)), .fn f caps] h (fun r h' => r = .i (eG p ks 0) ∧ h' = h) := by
  refine c8 (rl := []) e9 Tryz.func162 rfl (rs := [.tmp 4]) rfl Tryz.ntmps162 (by simp) ?_
  repeat' (first | ((repeat ((fail_if_success (refine hK _ ?_)); clear hK K)); refine hK _ ?_; clear hK K) | (refine b9 fun K1 q6 => ?_; simp only [S1, simprocAttr, jH]; refine q6 _ ?_; clear q6 K1) | refine b6 fun K hK => ?_ | ((first | apply b8 | apply b5 | apply c7); try simp only [NB, simprocAttr]))
  refine p8 ks.length 19 (fun i => [(8, .i i), (7, .i ks.length), (0, .p (.sl (ks.map eT))), (1, .fn f caps)]) (fun i => []) (fun i => eG p ks 0 = eG p (ks.drop i) i) ?_ rfl fun i hi hp K hK => ?_
  · (refine ⟨rfl, (by first | exact ⟨_, rfl⟩ | exact ⟨[], by simp⟩), ?_, ?_⟩ <;> simp only [S1, simprocAttr, KNB] <;> (try and_intros) <;> (try assumption) <;> (try trivial) <;> (try omega))
  rcases Nat.lt_or_ge i ks.length with hlt | hge
  · obtain ⟨k, hx⟩ : ∃ k, ks[i]? = some k := ⟨_, List.getElem?_eq_getElem hlt⟩
    have hm := List.mem_of_getElem? hx
    rw [rv hx] at hp
    repeat' (first | ((repeat ((fail_if_success (refine hK _ ?_)); clear hK K)); refine hK _ ?_; clear hK K) | ((first | refine b9 fun K1 q6 => ?_ | refine b7 fun A B hA hB => ?_); simp only [S1, simprocAttr, jH, dD hx, cu hlt, ag hl hlt, p9]; first | refine q6 _ ?_; clear q6 K1 | (refine hA ?_; clear hA hB A B) | (apply d4 hE; exact (hc0 k hm); refine q6 _ ?_; clear q6 K1) | ((((refine ⟨fun hg => hA ?_, fun hg => hB ?_⟩ <;> clear hA hB A B)) <;> (try simp only [BN2] at hg) <;> (try simp only [hg, cndB])) <;> (try (refine q6 _ ?_; clear q6 K1)) <;> (try simp only [BN3] at hg))) | refine b6 fun K hK => ?_ | ((first | apply b8 | apply b5 | apply c7 | apply c9 | apply d3); try simp only [NB, simprocAttr]))
    · simp only [S1, simprocAttr, ENB, jH]
      simp [hp, hg]
    · exact ⟨hlt, by simpa [hg] using hp, by (refine ⟨rfl, (by first | exact ⟨_, rfl⟩ | exact ⟨[], by simp⟩), ?_, ?_⟩ <;> simp only [S1, simprocAttr, KNB] <;> (try and_intros) <;> (try assumption) <;> (try trivial) <;> (try omega))⟩
  · obtain rfl : i = ks.length := by omega
    repeat' (first | ((repeat ((fail_if_success (refine hK _ ?_)); clear hK K)); refine hK _ ?_; clear hK K) | ((first | refine b9 fun K1 q6 => ?_ | refine b7 fun A B hA hB => ?_); simp only [S1, simprocAttr, jH, iU]; first | refine q6 _ ?_; clear q6 K1 | (refine hB ?_; clear hA hB A B)) | refine b6 fun K hK => ?_ | ((first | apply b8 | apply b5 | apply f9 | apply d3); try simp only [NB, simprocAttr]))
    simp only [S1, simprocAttr, ENB, jH]
    rw [List.drop_length] at hp
    simp [hp, eG]
theorem V5 {f : FuncId} (hE : g8 Tryz.prog f) {caps : List AV} {p : Tm → Bool} (ks : List Tm) (hl : ks.length ≤ 100) (h : Heap) (hcap : o4 h.length caps)
    (hc : ∀ k ∈ ks, d5 Tryz.prog G f (aT k :: caps) h (fun r h' => r = .b (p k) ∧ h' = h)) :
    d5 Tryz.prog G 157 [.p (.sl (ks.map eT)), .fn f caps] h (fun r h' => r = .b (ks.any p) ∧ h' = h) := by
  rw [← lQ p ks 0]
  refine c8 (rl := []) e9 Tryz.func157 rfl (rs := [.tmp 4]) rfl Tryz.ntmps157 (by simp) ?_
  repeat' (first | ((repeat ((fail_if_success (refine hK _ ?_)); clear hK K)); refine hK _ ?_; clear hK K) | (refine b9 fun K1 q6 => ?_; simp only [S1, simprocAttr, jH]; first | refine q6 _ ?_; clear q6 K1 | (apply d4 BD; exact (pu hE ks hl _ hcap hc); refine q6 _ ?_; clear q6 K1)) | refine b6 fun K hK => ?_ | ((first | apply b8 | apply b5 | apply d3); try simp only [NB, simprocAttr]))
  simp only [S1, simprocAttr, ENB, jH]
end
section
def jI := And.intro T2 (And.intro T3 (And.intro T4 (And.intro T31 (And.intro T58 (And.intro T73 (And.intro T75 xT))))))
attribute [local irreducible] awp n9 k3
variable {G : Nat → Option (List PV)}
def Tm.dp : Tm → Int → Bool
  | .mk _ _ ks, d => decide (24 < d) || (ks.map Tm.dp).any (fun f => f (d + 1))
theorem Tm.dp_eq (t : Tm) (d : Int) : t.dp d = (decide (24 < d) || t.kids.any (fun k => k.dp (d + 1))) := by
  cases t; simp only [Tm.dp, Tm.kids, List.any_map]; rfl
theorem rx {l : List Nat} : ∀ (a d : Nat), l.foldl max a ≤ d ↔ a ≤ d ∧ ∀ x ∈ l, x ≤ d := by
  induction l with
  | nil => intro a d; simp
  | cons x r ih => intro a d; rw [List.foldl_cons, ih, Nat.max_le]; simp only [List.mem_cons, forall_eq_or_imp, and_assoc]
theorem Tm.dp_depth (t : Tm) : ∀ d : Int, t.dp d = decide (25 < d + t.depth) := by
  refine Tm.ind (p := fun t => ∀ d : Int, t.dp d = decide (25 < d + t.depth)) (fun t ih d => ?_) t
  rw [Tm.dp_eq, Bool.eq_iff_iff]
  simp only [Bool.or_eq_true, decide_eq_true_eq, List.any_eq_true]
  have hm := fun n : Nat => rx (l := t.kids.map Tm.depth) 0 n
  rw [Tm.depth_eq]
  constructor
  · rintro (h | ⟨k, hk, h⟩)
    · omega
    · rw [ih k hk] at h
      simp only [decide_eq_true_eq] at h
      have := ((hm _).mp (Nat.le_refl _)).2 k.depth (List.mem_map_of_mem hk)
      omega
  · intro h
    by_cases h1 : 24 < d
    · exact .inl h1
    · right
      cases Classical.em (∃ x, x ∈ t.kids ∧ x.dp (d + 1) = true) with
      | inl e => exact e
      | inr e =>
        exfalso
        have : (t.kids.map Tm.depth).foldl max 0 ≤ (24 - d).toNat := by
          rw [hm]
          refine ⟨Nat.zero_le _, fun x hx => ?_⟩
          obtain ⟨k, hk, rfl⟩ := List.mem_map.mp hx
          have h2 : ¬ k.dp (d + 1) = true := fun h3 => e ⟨k, hk, h3⟩
          rw [ih k hk] at h2
          simp only [decide_eq_true_eq] at h2
          omega
        omega
theorem pw (k : Tm) (d : Int) (h1 : -1000 ≤ d) (h2 : d ≤ 1000) (h : Heap) {b : Nat} (hb : h[b]? = some (some ⟨0, [.i d]⟩))
    (ih : ∀ h : Heap, d5 Tryz.prog G 155 [aT k, .i (d + 1)] h (fun r h' => r = .b (k.dp (d + 1)) ∧ h' = h)) :
    d5 Tryz.prog G 160 [aT k, .ptr b 0 0] h (fun r h' => r = .b (k.dp (d + 1)) ∧ h' = h) := by
  have hlt : b < h.length := (List.getElem?_eq_some_iff.mp hb).1
  have hbL : ∀ L : Heap, (h ++ L)[b]? = some (some ⟨0, [.i d]⟩) := fun L => by rw [List.getElem?_append_left hlt]; exact hb
  have hw := IntWalk.i64_in (d + 1) (by omega)
  refine c8 (rl := []) e9 Tryz.func160 rfl (rs := [.tmp 3]) rfl Tryz.ntmps160 (by simp) ?_
  repeat' (first | ((repeat ((fail_if_success (refine hK _ ?_)); clear hK K)); refine hK _ ?_; clear hK K) | (refine b9 fun K1 q6 => ?_; simp only [S1, simprocAttr, jI, hbL, hw]; first | refine q6 _ ?_; clear q6 K1 | (apply d4 AK; exact (ih _); refine q6 _ ?_; clear q6 K1)) | refine b6 fun K hK => ?_ | ((first | apply b8 | apply b5 | apply d3); try simp only [NB, simprocAttr]))
  simp only [S1, simprocAttr, ENB, jI]
theorem ry {n : Nat} {t : Tm} (ht : Tm.Ok n t) : ∀ (d : Int) (h : Heap), -1000 ≤ d → d ≤ 1000 → d5 Tryz.prog G 155 [aT t, .i d] h (fun r h' => r = .b (t.dp d) ∧ h' = h) := by
  refine Tm.Ok.ind (p := fun n t => ∀ (d : Int) (h : Heap), -1000 ≤ d → d ≤ 1000 → d5 Tryz.prog G 155 [aT t, .i d] h (fun r h' => r = .b (t.dp d) ∧ h' = h)) (fun n t hk ih d h h1 h2 => ?_) ht
  rw [Tm.dp_eq]
  by_cases hd : 24 < d
  · refine c8 (rl := []) e9 Tryz.func155 rfl (rs := [.tmp 4]) rfl Tryz.ntmps155 (by simp) ?_
    have hf : decide (24 < d) = true := by simpa using hd
    repeat' (first | ((repeat ((fail_if_success (refine hK _ ?_)); clear hK K)); refine hK _ ?_; clear hK K) | (refine b9 fun K1 q6 => ?_; simp only [S1, simprocAttr, jI, hf]; refine q6 _ ?_; clear q6 K1) | refine b6 fun K hK => ?_ | ((first | apply b8 | apply b5 | apply d3); try simp only [NB, simprocAttr]))
    simp only [S1, simprocAttr, ENB, jI]
    try simp [hf]
  · have hf : decide (24 < d) = false := by simpa using hd
    have hc := fun (L : Heap) (b : Nat) (hb : (h ++ L)[b]? = some (some ⟨0, [.i d]⟩)) => V5 (G := G) BB (caps := [.ptr b 0 0]) (p := fun k => k.dp (d + 1)) t.kids hk (h ++ L) (by simp only [o4, s7, and_true]; exact (List.getElem?_eq_some_iff.mp hb).1) fun k hm => pw k d h1 h2 _ hb fun h => (ih k hm).2 _ h (by omega) (by omega)
    refine c8 (rl := []) e9 Tryz.func155 rfl (rs := [.tmp 4]) rfl Tryz.ntmps155 (by simp) ?_
    repeat' (first | ((repeat ((fail_if_success (refine hK _ ?_)); clear hK K)); refine hK _ ?_; clear hK K) | (refine b9 fun K1 q6 => ?_; simp only [S1, simprocAttr, jI, hf]; first | refine q6 _ ?_; clear q6 K1 | (apply d4 zB; exact (hc _ _ (by simp only [S1, simprocAttr, jI])); refine q6 _ ?_; clear q6 K1)) | refine b6 fun K hK => ?_ | ((first | apply b8 | apply b5 | apply d3); try simp only [NB, simprocAttr]))
    simp only [S1, simprocAttr, ENB, jI]
    try simp [hf]
end
section
def bh := And.intro T2 (And.intro T3 (And.intro T4 (And.intro T31 (And.intro T58 (And.intro T73 T75)))))
attribute [local irreducible] awp n9 k3
variable {G : Nat → Option (List PV)}
theorem px {d : Nat} {t : Tm} (ht : Tm.Ok d t) (h : Heap) : d5 Tryz.prog G 145 [aT t] h (fun r h' => r = .b t.form ∧ h' = h) := by
  revert h
  refine Tm.Ok.ind (p := fun d t => ∀ h : Heap, d5 Tryz.prog G 145 [aT t] h (fun r h' => r = .b t.form ∧ h' = h)) (fun d t hk ih h => ?_) ht
  rw [Tm.form_eq]
  refine c8 (rl := []) e9 Tryz.func145 rfl (rs := [.tmp 2]) rfl Tryz.ntmps145 (by simp) ?_
  refine b6 fun K hK => ?_
  repeat' (first | (apply b8; (try simp only [NB]); ((repeat ((fail_if_success (refine hK _ ?_)); clear hK K)); refine hK _ ?_; clear hK K)) | (refine b9 fun K1 q6 => ?_; simp only [S1, simprocAttr, bh]; refine q6 _ ?_; clear q6 K1) | (apply b5; try simp only [NB, simprocAttr]; (try ((repeat ((fail_if_success (refine hK _ ?_)); clear hK K)); refine hK _ ?_; clear hK K))))
  refine jF 66 [(1, .ptr h.length 0 0)] [some ⟨0, [.i t.op, .i t.n, .p (.sl (t.kids.map eT))]⟩] (1 ≤ t.op ∧ t.op ≤ 14 ∧ (t.kids.length : Int) = bO t.op ∧ 0 ≤ t.n) (fun K hK => ?_) fun ha => ?_
  · repeat' (first | ((repeat ((fail_if_success (refine hK _ ?_)); clear hK K)); refine hK _ ?_; clear hK K) | ((first | refine b9 fun K1 q6 => ?_ | refine k4 fun K1 q6 => ?_ | refine b7 fun A B hA hB => ?_); simp only [S1, simprocAttr, bh]; first | refine q6 _ ?_; clear q6 K1 | (refine l6 (v := ?_) (fun hg q8 => ?_) ?_; rotate_left; (focus (try ((try simp only [BN] at hg); simp only [S1, simprocAttr, bh, hg] at q8 ⊢)); first | exact q8 | (apply j5 Bx; exact (rr _ _); exact q8)); refine q6 _ ?_; clear q6 K1) | ((((refine ⟨fun hg => hA ?_, fun hg => hB ?_⟩ <;> clear hA hB A B)) <;> (try simp only [BN2] at hg) <;> (try simp only [hg, cndB])) <;> (try (refine q6 _ ?_; clear q6 K1)) <;> (try simp only [BN3] at hg))) | refine b6 fun K hK => ?_ | ((first | apply b8 | apply i8 | apply b5 | refine i9 ?_ | apply c9 | apply d3); try simp only [NB, simprocAttr]))
    · simp only [S1, simprocAttr, ENB, bh]
      have : A1 t.op t.n t.kids.length = false := by
        cases hh : A1 t.op t.n t.kids.length with
        | false => rfl
        | true => simp [A1] at hh hg; omega
      simp [this]
    · exact ⟨by simp at hg; omega, by (refine ⟨rfl, (by first | exact ⟨_, rfl⟩ | exact ⟨[], by simp⟩), ?_, ?_⟩ <;> simp only [S1, simprocAttr, KNB] <;> (try and_intros) <;> (try assumption) <;> (try trivial) <;> (try omega))⟩
  refine jF 66 [(1, .ptr h.length 0 0)] [some ⟨0, [.i t.op, .i t.n, .p (.sl (t.kids.map eT))]⟩] (A1 t.op t.n t.kids.length = true) (fun K hK => ?_) fun hb => ?_
  · repeat' (first | ((repeat ((fail_if_success (refine hK _ ?_)); clear hK K)); refine hK _ ?_; clear hK K) | ((first | refine b9 fun K1 q6 => ?_ | refine b7 fun A B hA hB => ?_); simp only [S1, simprocAttr, bh]; first | refine q6 _ ?_; clear q6 K1 | (refine l6 (v := ?_) (fun hg q8 => ?_) ?_; rotate_left; (focus (try ((try simp only [BN] at hg); simp only [S1, simprocAttr, bh, hg] at q8 ⊢)); exact q8); refine q6 _ ?_; clear q6 K1) | ((((refine ⟨fun hg => hA ?_, fun hg => hB ?_⟩ <;> clear hA hB A B)) <;> (try simp only [BN2] at hg) <;> (try simp only [hg, cndB])) <;> (try (refine q6 _ ?_; clear q6 K1)) <;> (try simp only [BN3] at hg))) | refine b6 fun K hK => ?_ | ((first | apply b8 | apply b5 | apply c9 | apply d3); try simp only [NB, simprocAttr]))
    · simp only [S1, simprocAttr, ENB, bh]
      have : A1 t.op t.n t.kids.length = false := by
        cases hh : A1 t.op t.n t.kids.length with
        | false => rfl
        | true => simp [A1] at hh hg; omega
      simp [this]
    · exact ⟨by simp [A1] at hg ⊢; omega, by (refine ⟨rfl, (by first | exact ⟨_, rfl⟩ | exact ⟨[], by simp⟩), ?_, ?_⟩ <;> simp only [S1, simprocAttr, KNB] <;> (try and_intros) <;> (try assumption) <;> (try trivial) <;> (try omega))⟩
  refine b6 fun K hK => ?_
  repeat' (first | ((repeat ((fail_if_success (refine hK _ ?_)); clear hK K)); refine hK _ ?_; clear hK K) | (refine b9 fun K1 q6 => ?_; simp only [S1, simprocAttr, bh]; refine q6 _ ?_; clear q6 K1) | refine b6 fun K hK => ?_ | ((first | apply b8 | apply b5 | apply c7); try simp only [NB, simprocAttr]))
  refine p8 t.kids.length 66 (fun i => [(58, .i i), (57, .i t.kids.length), (56, .p (.sl (t.kids.map eT)))]) (fun i => []) (fun i => (t.kids.take i).all Tm.form = true) ?_ rfl fun i hi hp K hK => ?_
  · (refine ⟨rfl, (by first | exact ⟨_, rfl⟩ | exact ⟨[], by simp⟩), ?_, ?_⟩ <;> simp only [S1, simprocAttr, KNB] <;> (try and_intros) <;> (try assumption) <;> (try trivial) <;> (try omega))
  rcases Nat.lt_or_ge i t.kids.length with hlt | hge
  · obtain ⟨k, hx⟩ : ∃ k, t.kids[i]? = some k := ⟨_, List.getElem?_eq_getElem hlt⟩
    have hm := List.mem_of_getElem? hx
    repeat' (first | ((repeat ((fail_if_success (refine hK _ ?_)); clear hK K)); refine hK _ ?_; clear hK K) | ((first | refine b9 fun K1 q6 => ?_ | refine b7 fun A B hA hB => ?_); simp only [S1, simprocAttr, bh, dD hx, cu hlt, ag hk hlt, p9]; first | refine q6 _ ?_; clear q6 K1 | (refine hA ?_; clear hA hB A B) | (apply d4 AG; exact ((ih k hm).2 _); refine q6 _ ?_; clear q6 K1) | ((((refine ⟨fun hg => hA ?_, fun hg => hB ?_⟩ <;> clear hA hB A B)) <;> (try simp only [BN2] at hg) <;> (try simp only [hg, cndB])) <;> (try (refine q6 _ ?_; clear q6 K1)) <;> (try simp only [BN3] at hg))) | refine b6 fun K hK => ?_ | ((first | apply b8 | apply b5 | apply c7 | apply c9 | apply d3); try simp only [NB, simprocAttr]))
    all_goals first
      | (refine ⟨hlt, pr hx hp ?_, ?_⟩
         · simpa using hg
         · (refine ⟨rfl, (by first | exact ⟨_, rfl⟩ | exact ⟨[], by simp⟩), ?_, ?_⟩ <;> simp only [S1, simprocAttr, KNB] <;> (try and_intros) <;> (try assumption) <;> (try trivial) <;> (try omega)))
      | (simp only [S1, simprocAttr, ENB, bh]
         rw [vY (f := Tm.form) hm (by simpa using hg)]
         try simp)
  · obtain rfl : i = t.kids.length := by omega
    repeat' (first | ((repeat ((fail_if_success (refine hK _ ?_)); clear hK K)); refine hK _ ?_; clear hK K) | ((first | refine b9 fun K1 q6 => ?_ | refine b7 fun A B hA hB => ?_); simp only [S1, simprocAttr, bh, iU]; first | refine q6 _ ?_; clear q6 K1 | (refine hB ?_; clear hA hB A B)) | refine b6 fun K hK => ?_ | ((first | apply b8 | apply b5 | apply f9 | apply d3); try simp only [NB, simprocAttr]))
    simp only [S1, simprocAttr, ENB, bh]
    rw [List.take_length] at hp
    simp [hp, hb]
end
section
def T1 := And.intro T2 (And.intro T3 (And.intro T4 (And.intro T31 (And.intro T58 (And.intro T73 (And.intro T75 (And.intro xT (And.intro zq zs))))))))
attribute [local irreducible] awp n9 k3
def jJ : List PV :=
  let w (s : List UInt8) (a b c : Int) : List PV := [.str ⟨s.toArray⟩, .int .i64 a, .int .i64 b, .int .i64 c]
  w [] 0 0 0 ++ w [] 0 0 0 ++ w [] 0 0 0 ++ w [110, 101, 103] 1 1 1 ++ w [110, 111, 116] 1 2 2 ++ w [97, 100, 100] 2 1 1 ++ w [115, 117, 98] 2 1 1 ++ w [109, 117, 108] 2 1 1 ++ w [100, 105, 118] 2 1 1 ++ w [109, 111, 100] 2 1 1 ++ w [101, 113] 2 1 2 ++ w [108, 116] 2 1 2 ++ w [108, 101] 2 1 2 ++ w [97, 110, 100] 2 2 2 ++ w [111, 114] 2 2 2
def gW : Nat → Option (List PV) := fun g => if g = 0 then some jJ else none
theorem zC : gW 0 = some jJ := rfl
def ofN (o : Int) : Int := if G6 o then 2 else 1
def jK (o : Int) : Int := if w7 o then 2 else 1
theorem py {o : Int} (h1 : 3 ≤ o) (h2 : o ≤ 14) : ∃ s rest, jJ.drop (o.toNat * 4) = .str s :: .int .i64 (bO o) :: .int .i64 (ofN o) :: .int .i64 (jK o) :: rest := by
  have h : o = 3 ∨ o = 4 ∨ o = 5 ∨ o = 6 ∨ o = 7 ∨ o = 8 ∨ o = 9 ∨ o = 10 ∨ o = 11 ∨ o = 12 ∨ o = 13 ∨ o = 14 := by omega
  rcases h with rfl | rfl | rfl | rfl | rfl | rfl | rfl | rfl | rfl | rfl | rfl | rfl <;> exact ⟨_, _, rfl⟩
theorem sX {f : Tm → Bool} {l : List Tm} : (!l.any fun k => !f k) = l.all f := by
  induction l with
  | nil => rfl
  | cons k r ih => simp only [List.any_cons, List.all_cons, ← ih]; cases f k <;> simp
theorem lR {t : Tm} (h : t.op = 1 ∨ t.op = 2) : t.form = A1 t.op t.n t.kids.length := by
  rw [Tm.form_eq]
  cases hh : A1 t.op t.n t.kids.length with
  | false => rfl
  | true =>
    have : t.kids.length = 0 := by
      simp only [A1, Bool.and_eq_true, decide_eq_true_eq] at hh
      have h3 := hh.1.1.1.1.2
      unfold bO at h3
      rcases h with e | e <;> rw [e] at h3 <;> simp at h3 <;> simp [h3]
    rw [List.length_eq_zero_iff.mp this]; rfl
theorem lg (k : Tm) (h : Heap) (ih : ∀ h : Heap, d5 Tryz.prog gW 156 [aT k] h (fun r h' => r = .b k.form ∧ h' = h)) :
    d5 Tryz.prog gW 161 [aT k] h (fun r h' => r = .b (!k.form) ∧ h' = h) := by
  refine c8 (rl := []) e9 Tryz.func161 rfl (rs := [.tmp 2]) rfl Tryz.ntmps161 (by simp) ?_
  repeat' (first | ((repeat ((fail_if_success (refine hK _ ?_)); clear hK K)); refine hK _ ?_; clear hK K) | (refine b9 fun K1 q6 => ?_; simp only [S1, simprocAttr, T1]; first | refine q6 _ ?_; clear q6 K1 | (apply d4 AL; exact (ih _); refine q6 _ ?_; clear q6 K1)) | refine b6 fun K hK => ?_ | ((first | apply b8 | apply b5 | apply d3); try simp only [NB, simprocAttr]))
  simp only [S1, simprocAttr, ENB, T1]
theorem vZ {t : Tm} (hk : t.kids.length ≤ 100) (ih : ∀ k ∈ t.kids, ∀ h : Heap, d5 Tryz.prog gW 156 [aT k] h (fun r h' => r = .b k.form ∧ h' = h)) (h : Heap) (hop : t.op = 1) : d5 Tryz.prog gW 156 [aT t] h (fun r h' => r = .b t.form ∧ h' = h) := by
  rw [lR (.inl hop)]
  refine c8 (rl := []) e9 Tryz.func156 rfl (rs := [.tmp 2]) rfl Tryz.ntmps156 (by simp) ?_
  repeat' (first | ((repeat ((fail_if_success (refine hK _ ?_)); clear hK K)); refine hK _ ?_; clear hK K) | ((first | refine b9 fun K1 q6 => ?_ | refine b7 fun A B hA hB => ?_); simp only [S1, simprocAttr, T1, hop]; first | refine q6 _ ?_; clear q6 K1 | (refine hA ?_; clear hA hB A B) | (refine l6 (v := ?_) (fun hg q8 => ?_) ?_; rotate_left; (focus (try ((try simp only [BN] at hg); simp only [S1, simprocAttr, T1, hop, hg] at q8 ⊢)); exact q8); refine q6 _ ?_; clear q6 K1)) | refine b6 fun K hK => ?_ | ((first | apply b8 | apply b5 | apply c7 | apply d3); try simp only [NB, simprocAttr]))
  simp only [S1, simprocAttr, ENB, T1]
  refine congrArg (fun b => AV.p (PV.bool b)) (Bool.eq_iff_iff.mpr ?_)
  simp [A1, bO, hop]
  try omega
theorem wa {t : Tm} (hk : t.kids.length ≤ 100) (ih : ∀ k ∈ t.kids, ∀ h : Heap, d5 Tryz.prog gW 156 [aT k] h (fun r h' => r = .b k.form ∧ h' = h)) (h : Heap) (hop : t.op = 2) : d5 Tryz.prog gW 156 [aT t] h (fun r h' => r = .b t.form ∧ h' = h) := by
  rw [lR (.inr hop)]
  refine c8 (rl := []) e9 Tryz.func156 rfl (rs := [.tmp 2]) rfl Tryz.ntmps156 (by simp) ?_
  repeat' (first | ((repeat ((fail_if_success (refine hK _ ?_)); clear hK K)); refine hK _ ?_; clear hK K) | ((first | refine b9 fun K1 q6 => ?_ | refine b7 fun A B hA hB => ?_); simp only [S1, simprocAttr, T1, hop]; first | refine q6 _ ?_; clear q6 K1 | ((first | refine hA ?_ | refine hB ?_); clear hA hB A B) | (refine l6 (v := ?_) (fun hg q8 => ?_) ?_; rotate_left; (focus (try ((try simp only [BN] at hg); simp only [S1, simprocAttr, T1, hop, hg] at q8 ⊢)); exact q8); refine q6 _ ?_; clear q6 K1)) | refine b6 fun K hK => ?_ | ((first | apply b8 | apply b5 | apply c7 | apply d3); try simp only [NB, simprocAttr]))
  simp only [S1, simprocAttr, ENB, T1]
  refine congrArg (fun b => AV.p (PV.bool b)) (Bool.eq_iff_iff.mpr ?_)
  simp [A1, bO, hop]
  try omega
theorem wb {t : Tm} (hk : t.kids.length ≤ 100) (ih : ∀ k ∈ t.kids, ∀ h : Heap, d5 Tryz.prog gW 156 [aT k] h (fun r h' => r = .b k.form ∧ h' = h)) (h : Heap) (hop : t.op < 1) : d5 Tryz.prog gW 156 [aT t] h (fun r h' => r = .b t.form ∧ h' = h) := by
  have f1 : (t.op == 1) = false := by simp; omega
  have f2 : (t.op == 2) = false := by simp; omega
  have f3 : decide (t.op < 3) = true := by simp; omega
  rw [Tm.form_eq]
  refine c8 (rl := []) e9 Tryz.func156 rfl (rs := [.tmp 2]) rfl Tryz.ntmps156 (by simp) ?_
  repeat' (first | ((repeat ((fail_if_success (refine hK _ ?_)); clear hK K)); refine hK _ ?_; clear hK K) | ((first | refine b9 fun K1 q6 => ?_ | refine k4 fun K1 q6 => ?_ | refine b7 fun A B hA hB => ?_); simp only [S1, simprocAttr, T1, f1, f2, f3]; first | refine q6 _ ?_; clear q6 K1 | ((first | refine hA ?_ | refine hB ?_); clear hA hB A B)) | refine b6 fun K hK => ?_ | ((first | apply b8 | apply i8 | apply b5 | refine i9 ?_ | apply c7 | apply d3); try simp only [NB, simprocAttr]))
  simp only [S1, simprocAttr, ENB, T1]
  have : A1 t.op t.n t.kids.length = false := by
    cases hh : A1 t.op t.n t.kids.length with
    | false => rfl
    | true => simp [A1] at hh; omega
  simp [this]
theorem wc {t : Tm} (hk : t.kids.length ≤ 100) (ih : ∀ k ∈ t.kids, ∀ h : Heap, d5 Tryz.prog gW 156 [aT k] h (fun r h' => r = .b k.form ∧ h' = h)) (h : Heap) (hop : 14 < t.op) : d5 Tryz.prog gW 156 [aT t] h (fun r h' => r = .b t.form ∧ h' = h) := by
  have f1 : (t.op == 1) = false := by simp; omega
  have f2 : (t.op == 2) = false := by simp; omega
  have f3 : decide (t.op < 3) = false := by simp; omega
  have f4 : decide (14 < t.op) = true := by simp; omega
  rw [Tm.form_eq]
  refine c8 (rl := []) e9 Tryz.func156 rfl (rs := [.tmp 2]) rfl Tryz.ntmps156 (by simp) ?_
  repeat' (first | ((repeat ((fail_if_success (refine hK _ ?_)); clear hK K)); refine hK _ ?_; clear hK K) | ((first | refine b9 fun K1 q6 => ?_ | refine k4 fun K1 q6 => ?_ | refine b7 fun A B hA hB => ?_); simp only [S1, simprocAttr, T1, f1, f2, f3, f4]; first | refine q6 _ ?_; clear q6 K1 | ((first | refine hA ?_ | refine hB ?_); clear hA hB A B)) | refine b6 fun K hK => ?_ | ((first | apply b8 | apply i8 | apply b5 | refine i9 ?_ | apply c7 | apply d3); try simp only [NB, simprocAttr]))
  simp only [S1, simprocAttr, ENB, T1]
  have : A1 t.op t.n t.kids.length = false := by
    cases hh : A1 t.op t.n t.kids.length with
    | false => rfl
    | true => simp [A1] at hh; omega
  simp [this]
theorem wd {t : Tm} (hk : t.kids.length ≤ 100) (ih : ∀ k ∈ t.kids, ∀ h : Heap, d5 Tryz.prog gW 156 [aT k] h (fun r h' => r = .b k.form ∧ h' = h)) (h : Heap) (ho1 : 3 ≤ t.op) (ho2 : t.op ≤ 14) : d5 Tryz.prog gW 156 [aT t] h (fun r h' => r = .b t.form ∧ h' = h) := by
  have hc := fun (L : Heap) => V5 (G := gW) BC (caps := []) (p := fun k => !k.form) t.kids hk L trivial fun k hm => lg k L fun h => ih k hm h
  have f1 : (t.op == 1) = false := by simp; omega
  have f2 : (t.op == 2) = false := by simp; omega
  have f3 : decide (t.op < 3) = false := by simp; omega
  have f4 : decide (14 < t.op) = false := by simp; omega
  have f5 : 0 ≤ t.op := by omega
  have f6 : t.op < ((15 : Nat) : Int) := by omega
  have f7 : t.op < 15 := by omega
  obtain ⟨s, rest, f8⟩ := py ho1 ho2
  rw [Tm.form_eq]
  refine c8 (rl := []) e9 Tryz.func156 rfl (rs := [.tmp 2]) rfl Tryz.ntmps156 (by simp) ?_
  repeat' (first | ((repeat ((fail_if_success (refine hK _ ?_)); clear hK K)); refine hK _ ?_; clear hK K) | ((first | refine b9 fun K1 q6 => ?_ | refine k4 fun K1 q6 => ?_ | refine b7 fun A B hA hB => ?_); simp only [S1, simprocAttr, T1, f1, f2, f3, f4, f5, f6, f7, f8, zC]; first | refine q6 _ ?_; clear q6 K1 | (refine hB ?_; clear hA hB A B) | (apply d4 zB; exact (hc _); refine q6 _ ?_; clear q6 K1) | (refine l6 (v := ?_) (fun hg q8 => ?_) ?_; rotate_left; (focus (try ((try simp only [BN] at hg); simp only [S1, simprocAttr, T1, f1, f2, f3, f4, f5, f6, f7, f8, zC, hg] at q8 ⊢)); exact q8); refine q6 _ ?_; clear q6 K1) | ((((refine ⟨fun hg => hA ?_, fun hg => hB ?_⟩ <;> clear hA hB A B)) <;> (try simp only [BN2] at hg) <;> (try simp only [hg, cndB])) <;> (try (refine q6 _ ?_; clear q6 K1)) <;> (try simp only [BN3] at hg))) | refine b6 fun K hK => ?_ | ((first | apply b8 | apply i8 | apply b5 | refine i9 ?_ | apply c7 | apply c9 | apply d3); try simp only [NB, simprocAttr]))
  · simp only [S1, simprocAttr, ENB, T1]
    have : A1 t.op t.n t.kids.length = false := by
      cases hh : A1 t.op t.n t.kids.length with
      | false => rfl
      | true => simp [A1] at hh hg; omega
    simp [this]
  · simp only [S1, simprocAttr, ENB, T1]
    have : A1 t.op t.n t.kids.length = true := by
      simp [A1] at hg ⊢; omega
    rw [this, sX, Bool.true_and]
theorem nw {n : Nat} {t : Tm} (ht : Tm.Ok n t) (h : Heap) : d5 Tryz.prog gW 156 [aT t] h (fun r h' => r = .b t.form ∧ h' = h) := by
  revert h
  refine Tm.Ok.ind (p := fun n t => ∀ (h : Heap), d5 Tryz.prog gW 156 [aT t] h (fun r h' => r = .b t.form ∧ h' = h)) (fun n t hk ih h => ?_) ht
  have ih' := fun k hm => (ih k hm).2
  rcases (by omega : t.op = 1 ∨ t.op = 2 ∨ t.op < 1 ∨ 14 < t.op ∨ (3 ≤ t.op ∧ t.op ≤ 14)) with hop | hop | hop | hop | ⟨ho1, ho2⟩
  · exact vZ hk ih' h hop
  · exact wa hk ih' h hop
  · exact wb hk ih' h hop
  · exact wc hk ih' h hop
  · exact wd hk ih' h ho1 ho2
end
section
def M8 := And.intro T2 (And.intro T3 (And.intro T4 (And.intro T9 (And.intro T31 (And.intro T58 (And.intro T73 (And.intro T75 (And.intro xT (And.intro zq zs)))))))))
attribute [local irreducible] awp n9 k3
variable {G : Nat → Option (List PV)}
def tyN (t : Tm) : Int := if t.typed then jK t.op else 0
theorem zD {o : Int} {k : Tm} : (tyN k != ofN o) = !I8 o k := by
  unfold tyN ofN jK I8
  cases k.typed <;> cases w7 k.op <;> cases G6 o <;> rfl
theorem wg {t : Tm} : (t.kids.any fun k => tyN k != ofN t.op) = !t.typed := by
  have : (fun k => tyN k != ofN t.op) = fun k => !I8 t.op k := funext fun k => zD
  rw [this, Tm.typed_eq, ← sX, Bool.not_not]
theorem xX {t : Tm} (h : t.form = true) : 1 ≤ t.op ∧ t.op ≤ 14 ∧ (t.op = 1 ∨ t.op = 2 → t.kids = []) ∧ ∀ k ∈ t.kids, k.form = true := by
  rw [Tm.form_eq, Bool.and_eq_true, List.all_eq_true] at h
  obtain ⟨h1, h2⟩ := h
  simp only [A1, Bool.and_eq_true, decide_eq_true_eq] at h1
  refine ⟨h1.1.1.1.1.1.1, h1.1.1.1.1.1.2, fun e => ?_, h2⟩
  have h3 := h1.1.1.1.1.2
  unfold bO at h3
  rcases e with e | e <;> rw [e] at h3 <;> simp at h3 <;> simp [h3]
theorem nz (k : Tm) (h : Heap) {b : Nat} {s : ByteArray} {x o y : Int} (hb : h[b]? = some (some ⟨0, [.p (.str s), .i x, .i o, .i y]⟩))
    (ih : ∀ h : Heap, d5 Tryz.prog gW 153 [aT k] h (fun r h' => r = .i (tyN k) ∧ h' = h)) :
    d5 Tryz.prog gW 158 [aT k, .ptr b 0 0] h (fun r h' => r = .b (tyN k != o) ∧ h' = h) := by
  have hlt : b < h.length := (List.getElem?_eq_some_iff.mp hb).1
  have hbL : ∀ L : Heap, (h ++ L)[b]? = some (some ⟨0, [.p (.str s), .i x, .i o, .i y]⟩) := fun L => by rw [List.getElem?_append_left hlt]; exact hb
  refine c8 (rl := []) e9 Tryz.func158 rfl (rs := [.tmp 3]) rfl Tryz.ntmps158 (by simp) ?_
  repeat' (first | ((repeat ((fail_if_success (refine hK _ ?_)); clear hK K)); refine hK _ ?_; clear hK K) | ((first | refine b9 fun K1 q6 => ?_ | refine k4 fun K1 q6 => ?_); simp only [S1, simprocAttr, M8, hbL]; first | refine q6 _ ?_; clear q6 K1 | (apply j5 AJ; exact (ih _); refine q6 _ ?_; clear q6 K1)) | refine b6 fun K hK => ?_ | ((first | apply b8 | apply i8 | apply b5 | refine i9 ?_ | apply d3); try simp only [NB, simprocAttr]))
  simp only [S1, simprocAttr, ENB, M8]
theorem pz {n : Nat} {t : Tm} (ht : Tm.Ok n t) (hf : t.form = true) (h : Heap) : d5 Tryz.prog gW 153 [aT t] h (fun r h' => r = .i (tyN t) ∧ h' = h) := by
  revert hf h
  refine Tm.Ok.ind (p := fun n t => t.form = true → ∀ (h : Heap), d5 Tryz.prog gW 153 [aT t] h (fun r h' => r = .i (tyN t) ∧ h' = h)) (fun n t hk ih hf h => ?_) ht
  obtain ⟨g1, g2, g3, g4⟩ := xX hf
  by_cases hop : t.op = 1 ∨ t.op = 2
  · have e : tyN t = 1 := by
      unfold tyN
      rw [Tm.typed_eq, g3 hop]
      rcases hop with hop | hop <;> rw [hop] <;> rfl
    rw [e]
    have f1 : (t.op == 1 || t.op == 2) = true := by rcases hop with hop | hop <;> simp [hop]
    refine c8 (rl := []) e9 Tryz.func153 rfl (rs := [.tmp 2]) rfl Tryz.ntmps153 (by simp) ?_
    rcases hop with hop | hop
    · repeat' (first | ((repeat ((fail_if_success (refine hK _ ?_)); clear hK K)); refine hK _ ?_; clear hK K) | ((first | refine b9 fun K1 q6 => ?_ | refine b7 fun A B hA hB => ?_); simp only [S1, simprocAttr, M8, hop]; first | refine q6 _ ?_; clear q6 K1 | (refine hA ?_; clear hA hB A B)) | refine b6 fun K hK => ?_ | ((first | apply b8 | apply b5 | apply d3); try simp only [NB, simprocAttr]))
      simp only [S1, simprocAttr, ENB, M8]
    · repeat' (first | ((repeat ((fail_if_success (refine hK _ ?_)); clear hK K)); refine hK _ ?_; clear hK K) | ((first | refine b9 fun K1 q6 => ?_ | refine b7 fun A B hA hB => ?_); simp only [S1, simprocAttr, M8, hop]; first | refine q6 _ ?_; clear q6 K1 | (refine hA ?_; clear hA hB A B)) | refine b6 fun K hK => ?_ | ((first | apply b8 | apply b5 | apply d3); try simp only [NB, simprocAttr]))
      simp only [S1, simprocAttr, ENB, M8]
  · have f1 : (t.op == 1) = false := by simp; omega
    have f2 : (t.op == 2) = false := by simp; omega
    have f5 : 0 ≤ t.op := by omega
    have f6 : t.op < ((15 : Nat) : Int) := by omega
    have f7 : t.op < 15 := by omega
    obtain ⟨s, rest, f8⟩ := py (o := t.op) (by omega) g2
    have hc := fun (L : Heap) (b : Nat) (hb : (h ++ L)[b]? = some (some ⟨0, [.p (.str s), .i (bO t.op), .i (ofN t.op), .i (jK t.op)]⟩)) => V5 (G := gW) Bz (caps := [.ptr b 0 0]) (p := fun k => tyN k != ofN t.op) t.kids hk (h ++ L) (by simp only [o4, s7, and_true]; exact (List.getElem?_eq_some_iff.mp hb).1) fun k hm => nz k _ hb fun h => (ih k hm).2 (g4 k hm) h
    refine c8 (rl := []) e9 Tryz.func153 rfl (rs := [.tmp 2]) rfl Tryz.ntmps153 (by simp) ?_
    repeat' (first | ((repeat ((fail_if_success (refine hK _ ?_)); clear hK K)); refine hK _ ?_; clear hK K) | ((first | refine b9 fun K1 q6 => ?_ | refine b7 fun A B hA hB => ?_); simp only [S1, simprocAttr, M8, f1, f2, f5, f6, f7, f8, zC]; first | refine q6 _ ?_; clear q6 K1 | (refine hB ?_; clear hA hB A B) | (apply d4 zB; exact (hc _ _ (by simp only [S1, simprocAttr, M8])); refine q6 _ ?_; clear q6 K1) | ((((refine ⟨fun hg => hA ?_, fun hg => hB ?_⟩ <;> clear hA hB A B)) <;> (try simp only [BN2] at hg) <;> (try simp only [hg, cndB])) <;> (try (refine q6 _ ?_; clear q6 K1)) <;> (try simp only [BN3] at hg))) | refine b6 fun K hK => ?_ | ((first | apply b8 | apply b5 | apply c9 | apply d3); try simp only [NB, simprocAttr]))
    · rw [wg] at hg
      simp only [S1, simprocAttr, ENB, M8]
      have : t.typed = false := by simpa using hg
      simp [tyN, this]
    · rw [wg] at hg
      simp only [S1, simprocAttr, ENB, M8]
      have : t.typed = true := by simpa using hg
      simp [tyN, this]
def S6 (t : Tm) : Int := if 24 < t.depth then 2 else if t.form then 0 else 4
def C9 (t : Tm) : Int × Int := if S6 t ≠ 0 then (0, S6 t) else if t.typed then (jK t.op, 0) else (0, 30)
theorem gV {n : Nat} {t : Tm} (ht : Tm.Ok n t) (h : Heap) : d5 Tryz.prog gW 152 [aT t] h (fun r h' => r = .i (S6 t) ∧ h' = h) := by
  have hd : t.dp 1 = decide (24 < t.depth) := by rw [Tm.dp_depth]; congr 1; rw [eq_iff_iff]; omega
  refine c8 (rl := []) e9 Tryz.func152 rfl (rs := [.tmp 2]) rfl Tryz.ntmps152 (by simp) ?_
  repeat' (first | ((repeat ((fail_if_success (refine hK _ ?_)); clear hK K)); refine hK _ ?_; clear hK K) | ((first | refine b9 fun K1 q6 => ?_ | refine b7 fun A B hA hB => ?_); simp only [S1, simprocAttr, M8]; first | refine q6 _ ?_; clear q6 K1 | (apply d4 AK; exact (ry ht 1 _ (by omega) (by omega)); refine q6 _ ?_; clear q6 K1) | (apply d4 AL; exact (nw ht _); refine q6 _ ?_; clear q6 K1) | ((((refine ⟨fun hg => hA ?_, fun hg => hB ?_⟩ <;> clear hA hB A B)) <;> (try simp only [BN2] at hg) <;> (try simp only [hg, cndB])) <;> (try (refine q6 _ ?_; clear q6 K1)) <;> (try simp only [BN3] at hg))) | refine b6 fun K hK => ?_ | ((first | apply b8 | apply b5 | apply c7 | apply c9 | apply d3); try simp only [NB, simprocAttr]))
  all_goals simp only [S1, simprocAttr, ENB, M8]
  all_goals simp_all [S6]
theorem gX {n : Nat} {t : Tm} (ht : Tm.Ok n t) (h : Heap) : d5 Tryz.prog gW 147 [aT t] h (fun r h' => r = .tup [.i (C9 t).1, .i (C9 t).2] ∧ h' = h) := by
  by_cases hw : S6 t = 0
  · have hf : t.form = true := by
      unfold S6 at hw
      split at hw
      · cases hw
      · split at hw
        · assumption
        · cases hw
    refine c8 (rl := []) e9 Tryz.func147 rfl (rs := [.tmp 2, .tmp 3]) rfl Tryz.ntmps147 (by simp) ?_
    repeat' (first | ((repeat ((fail_if_success (refine hK _ ?_)); clear hK K)); refine hK _ ?_; clear hK K) | ((first | refine b9 fun K1 q6 => ?_ | refine b7 fun A B hA hB => ?_); simp only [S1, simprocAttr, M8, hw]; first | refine q6 _ ?_; clear q6 K1 | (refine hB ?_; clear hA hB A B) | (apply d4 AI; exact (gV ht _); refine q6 _ ?_; clear q6 K1) | (apply d4 AJ; exact (pz ht hf _); refine q6 _ ?_; clear q6 K1) | ((((refine ⟨fun hg => hA ?_, fun hg => hB ?_⟩ <;> clear hA hB A B)) <;> (try simp only [BN2] at hg) <;> (try simp only [hg, cndB])) <;> (try (refine q6 _ ?_; clear q6 K1)) <;> (try simp only [BN3] at hg))) | refine b6 fun K hK => ?_ | ((first | apply b8 | apply b5 | apply c9 | apply d3); try simp only [NB, simprocAttr]))
    all_goals simp only [S1, simprocAttr, ENB, M8]
    all_goals (cases hty : t.typed <;> cases hto : w7 t.op <;> simp_all [C9, tyN, jK])
  · have e : (S6 t != 0) = true := by simpa using hw
    refine c8 (rl := []) e9 Tryz.func147 rfl (rs := [.tmp 2, .tmp 3]) rfl Tryz.ntmps147 (by simp) ?_
    repeat' (first | ((repeat ((fail_if_success (refine hK _ ?_)); clear hK K)); refine hK _ ?_; clear hK K) | ((first | refine b9 fun K1 q6 => ?_ | refine b7 fun A B hA hB => ?_); simp only [S1, simprocAttr, M8, e]; first | refine q6 _ ?_; clear q6 K1 | (refine hA ?_; clear hA hB A B) | (apply d4 AI; exact (gV ht _); refine q6 _ ?_; clear q6 K1)) | refine b6 fun K hK => ?_ | ((first | apply b8 | apply b5 | apply d3); try simp only [NB, simprocAttr]))
    all_goals simp only [S1, simprocAttr, ENB, M8]
    all_goals simp_all [C9]
theorem nA {n : Nat} {t : Tm} (ht : Tm.Ok n t) (hn : n ≤ 200) (h : Heap) : d5 Tryz.prog G 126 [aT t] h (fun r h' => r = .i (S6 t) ∧ h' = h) := by
  refine c8 (rl := []) e9 Tryz.func126 rfl (rs := [.tmp 2]) rfl Tryz.ntmps126 (by simp) ?_
  repeat' (first | ((repeat ((fail_if_success (refine hK _ ?_)); clear hK K)); refine hK _ ?_; clear hK K) | ((first | refine b9 fun K1 q6 => ?_ | refine b7 fun A B hA hB => ?_); simp only [S1, simprocAttr, M8]; first | refine q6 _ ?_; clear q6 K1 | (apply d4 AF; exact (pq ht hn _); refine q6 _ ?_; clear q6 K1) | (apply d4 AG; exact (px ht _); refine q6 _ ?_; clear q6 K1) | ((((refine ⟨fun hg => hA ?_, fun hg => hB ?_⟩ <;> clear hA hB A B)) <;> (try simp only [BN2] at hg) <;> (try simp only [hg, cndB])) <;> (try (refine q6 _ ?_; clear q6 K1)) <;> (try simp only [BN3] at hg))) | refine b6 fun K hK => ?_ | ((first | apply b8 | apply b5 | apply c9 | apply d3); try simp only [NB, simprocAttr]))
  all_goals simp only [S1, simprocAttr, ENB, M8]
  all_goals simp_all [S6]
  all_goals try omega
theorem U5 {n : Nat} {t : Tm} (ht : Tm.Ok n t) (hn : n ≤ 200) (h : Heap) : d5 Tryz.prog G 95 [aT t] h (fun r h' => r = .tup [.i (C9 t).1, .i (C9 t).2] ∧ h' = h) := by
  refine c8 (rl := []) e9 Tryz.func95 rfl (rs := [.tmp 2, .tmp 3]) rfl Tryz.ntmps95 (by simp) ?_
  repeat' (first | ((repeat ((fail_if_success (refine hK _ ?_)); clear hK K)); refine hK _ ?_; clear hK K) | ((first | refine b9 fun K1 q6 => ?_ | refine b7 fun A B hA hB => ?_); simp only [S1, simprocAttr, M8]; first | refine q6 _ ?_; clear q6 K1 | (apply d4 Bo; exact (nA ht hn _); refine q6 _ ?_; clear q6 K1) | (apply d4 AD; exact (nv ht _); refine q6 _ ?_; clear q6 K1) | (apply d4 AE; exact (eD _ _); refine q6 _ ?_; clear q6 K1) | ((((refine ⟨fun hg => hA ?_, fun hg => hB ?_⟩ <;> clear hA hB A B)) <;> (try simp only [BN2] at hg) <;> (try simp only [hg, cndB])) <;> (try (refine q6 _ ?_; clear q6 K1)) <;> (try simp only [BN3] at hg))) | refine b6 fun K hK => ?_ | ((first | apply b8 | apply b5 | apply c9 | apply d3); try simp only [NB, simprocAttr]))
  all_goals simp only [S1, simprocAttr, ENB, M8]
  all_goals try clear hK
  all_goals (cases hty : t.typed <;> cases hto : w7 t.op <;> simp_all [C9, jK, w7])
  all_goals omega
end
section
def bi := And.intro T2 (And.intro T3 (And.intro T4 (And.intro T31 (And.intro T73 T75))))
attribute [local irreducible] awp n9 k3 l8 o6
variable {G : Nat → Option (List PV)}
def bj (t : Tm) : Bool := (t.op == 0 && t.n == 0) && ((t.kids.length : Int) == 0)
def ofB (t : Tm) (k : Int) : Bool := (C9 t).2 == 0 && (C9 t).1 == k
theorem M2 (t : Tm) (h : Heap) : d5 Tryz.prog G 133 [aT t] h (fun r h' => r = .b (bj t) ∧ h' = h) := by
  refine c8 (rl := []) e9 Tryz.func133 rfl (rs := [.tmp 2]) rfl Tryz.ntmps133 (by simp) ?_
  repeat' (first | ((repeat ((fail_if_success (refine hK _ ?_)); clear hK K)); refine hK _ ?_; clear hK K) | (refine b9 fun K1 q6 => ?_; simp only [S1, simprocAttr, bi, List.length_map]; first | refine q6 _ ?_; clear q6 K1 | (refine l6 (v := ?_) (fun hg q8 => ?_) ?_; rotate_left; (focus (try ((try simp only [BN] at hg); simp only [S1, simprocAttr, bi, List.length_map, hg] at q8 ⊢)); exact q8); refine q6 _ ?_; clear q6 K1)) | refine b6 fun K hK => ?_ | ((first | apply b8 | apply b5 | apply d3); try simp only [NB, simprocAttr]))
  all_goals simp only [S1, simprocAttr, ENB, bi]
  all_goals (try simp only [bj, List.length_map])
theorem M9 (t : Tm) (h : Heap) : d5 Tryz.prog G 65 [aT t] h (fun r h' => r = .b (bj t) ∧ h' = h) := by
  refine c8 (rl := []) e9 Tryz.func65 rfl (rs := [.tmp 2]) rfl Tryz.ntmps65 (by simp) ?_
  repeat' (first | ((repeat ((fail_if_success (refine hK _ ?_)); clear hK K)); refine hK _ ?_; clear hK K) | (refine b9 fun K1 q6 => ?_; simp only [S1, simprocAttr, bi, List.length_map]; first | refine q6 _ ?_; clear q6 K1 | (refine l6 (v := ?_) (fun hg q8 => ?_) ?_; rotate_left; (focus (try ((try simp only [BN] at hg); simp only [S1, simprocAttr, bi, List.length_map, hg] at q8 ⊢)); exact q8); refine q6 _ ?_; clear q6 K1)) | refine b6 fun K hK => ?_ | ((first | apply b8 | apply b5 | apply d3); try simp only [NB, simprocAttr]))
  all_goals simp only [S1, simprocAttr, ENB, bi]
  all_goals (try simp only [bj, List.length_map])
theorem nB {n : Nat} {t : Tm} (ht : Tm.Ok n t) (k : Int) (h : Heap) : d5 Tryz.prog gW 132 [aT t, .i k] h (fun r h' => r = .b (ofB t k) ∧ h' = h) := by
  refine c8 (rl := []) e9 Tryz.func132 rfl (rs := [.tmp 4]) rfl Tryz.ntmps132 (by simp) ?_
  repeat' (first | ((repeat ((fail_if_success (refine hK _ ?_)); clear hK K)); refine hK _ ?_; clear hK K) | (refine b9 fun K1 q6 => ?_; simp only [S1, simprocAttr, bi]; first | refine q6 _ ?_; clear q6 K1 | (apply d4 AH; exact (gX ht _); refine q6 _ ?_; clear q6 K1) | (refine l6 (v := ?_) (fun hg q8 => ?_) ?_; rotate_left; (focus (try ((try simp only [BN] at hg); simp only [S1, simprocAttr, bi, hg] at q8 ⊢)); exact q8); refine q6 _ ?_; clear q6 K1)) | refine b6 fun K hK => ?_ | ((first | apply b8 | apply b5 | apply d3); try simp only [NB, simprocAttr]))
  all_goals simp only [S1, simprocAttr, ENB, bi]
  all_goals (try simp only [ofB])
theorem pA {n : Nat} {t : Tm} (ht : Tm.Ok n t) (hn : n ≤ 200) (k : Int) (h : Heap) : d5 Tryz.prog G 64 [aT t, .i k] h (fun r h' => r = .b (ofB t k) ∧ h' = h) := by
  refine c8 (rl := []) e9 Tryz.func64 rfl (rs := [.tmp 4]) rfl Tryz.ntmps64 (by simp) ?_
  repeat' (first | ((repeat ((fail_if_success (refine hK _ ?_)); clear hK K)); refine hK _ ?_; clear hK K) | (refine b9 fun K1 q6 => ?_; simp only [S1, simprocAttr, bi]; first | refine q6 _ ?_; clear q6 K1 | (apply d4 E95; exact (U5 ht hn _); refine q6 _ ?_; clear q6 K1) | (refine l6 (v := ?_) (fun hg q8 => ?_) ?_; rotate_left; (focus (try ((try simp only [BN] at hg); simp only [S1, simprocAttr, bi, hg] at q8 ⊢)); exact q8); refine q6 _ ?_; clear q6 K1)) | refine b6 fun K hK => ?_ | ((first | apply b8 | apply b5 | apply d3); try simp only [NB, simprocAttr]))
  all_goals simp only [S1, simprocAttr, ENB, bi]
  all_goals (try simp only [ofB])
end
section
mutual
def nrm : PV → PV
  | .nils => .sl []
  | .sl rows => .sl (I5 rows)
  | .int k n => .int k n
  | .bool b => .bool b
  | .str s => .str s
  | .nilp => .nilp
  | .nilf => .nilf
  | .nilm => .nilm
def V6 : List PV → List PV
  | [] => []
  | x :: r => nrm x :: V6 r
def I5 : List (List PV) → List (List PV)
  | [] => []
  | x :: r => V6 x :: I5 r
end
theorem dF : ∀ l : List PV, V6 l = l.map nrm
  | [] => rfl
  | x :: r => by simp only [V6, List.map_cons, dF r]
theorem R6 : ∀ l : List (List PV), I5 l = l.map V6
  | [] => rfl
  | x :: r => by simp only [I5, List.map_cons, R6 r]
theorem pB (rows : List (List PV)) (i j : Nat) : P8 (I5 rows) i j = (P8 rows i j).map nrm := by
  unfold P8
  rw [R6, List.getElem?_map]
  cases rows[i]? with
  | none => rfl
  | some r => simp [dF]
theorem PRel.nrm {w : World} {o : Nat → Prop} {x : PV} {v : Value} (h : PRel w o x v) : PRel w o (AM.nrm x) v := by
  induction h with
  | int k n h => exact .int k n h
  | bool b => exact .bool b
  | str s h => exact .str s h
  | nils => exact .slz none 0
  | nilp => exact .nilp
  | nilf => exact .nilf
  | nilm => exact .nilm
  | slz A c => exact .slz A c
  | sl rows blk off c sz f hc hn ho hb hsz hcell hrec ih =>
    have hl : (I5 rows).length = rows.length := by rw [R6, List.length_map]
    have := PRel.sl (w := w) (own := o) (I5 rows) blk off c sz f (by omega) (by omega) ho hb (fun row hr => by
      rw [R6] at hr
      obtain ⟨r, hr2, rfl⟩ := List.mem_map.mp hr
      rw [dF, List.length_map]
      exact hsz r hr2) (fun i j x hx => by
        rw [pB] at hx
        obtain ⟨y, hy, rfl⟩ := Option.map_eq_some_iff.mp hx
        exact hcell i j y hy) (fun i j x hx => by
        rw [pB] at hx
        obtain ⟨y, hy, rfl⟩ := Option.map_eq_some_iff.mp hx
        exact ih i j y hy)
    rw [hl] at this
    exact this
mutual
def bP : AV → AV
  | .p x => .p (nrm x)
  | .agg l => .agg (R7 l)
  | .tup l => .tup (R7 l)
  | .ref b g o s l => .ref b g o s l
  | .ptr b g o => .ptr b g o
  | .pin c => .pin c
  | .mref b g => .mref b g
  | .mp es => .mp es
  | .fn f l => .fn f l
def R7 : List AV → List AV
  | [] => []
  | x :: r => bP x :: R7 r
end
theorem V0 : ∀ l : List AV, R7 l = l.map bP
  | [] => rfl
  | x :: r => by simp only [R7, List.map_cons, V0 r]
section
variable {P : Program} {G : Nat → Option (List PV)} {ι : Nat → Nat × Nat} {h : Heap} {w : World}
theorem VRel.nrm {x : AV} {v : Value} (hx : VRel ι h w x v) : VRel ι h w (bP x) v := by
  induction hx with
  | p x v hx => exact .p _ _ hx.nrm
  | agg cells vs hl hv ih =>
    simp only [bP, V0]
    refine .agg _ _ (by simpa using hl) fun i x v hx hv' => ?_
    rw [List.getElem?_map] at hx
    obtain ⟨y, hy, rfl⟩ := Option.map_eq_some_iff.mp hx
    exact ih i y v hy hv'
  | tup cells vs hl hv ih =>
    simp only [bP, V0]
    refine .tup _ _ (by simpa using hl) fun i x v hx hv' => ?_
    rw [List.getElem?_map] at hx
    obtain ⟨y, hy, rfl⟩ := Option.map_eq_some_iff.mp hx
    exact ih i y v hy hv'
  | fn f cells vs hl hv ih => exact .fn f cells vs hl hv
  | ref b g off sz len A c hn hb hg hv => exact .ref b g off sz len A c hn hb hg hv
  | ptr b g off A hb hg hv => exact .ptr b g off A hb hg hv
  | pin cells blk off hv => exact .pin cells blk off hv
  | mref b g r hb hg hv => exact .mref b g r hb hg hv
theorem d5.nrm {f : FuncId} {args : List AV} {K : AV → Heap → Prop} (hc : d5 P G f (R7 args) h K) : d5 P G f args h K :=
  fun ι w vs hS hv => hc ι w vs hS ⟨by rw [V0, List.length_map]; exact hv.1, fun i x v hx hv' => by
    rw [V0, List.getElem?_map] at hx
    obtain ⟨y, hy, rfl⟩ := Option.map_eq_some_iff.mp hx
    exact (hv.2 i y v hy hv').nrm⟩
end
end
section
def X5 := And.intro T2 (And.intro T3 (And.intro T4 (And.intro T31 (And.intro T73 (And.intro T75 T77)))))
attribute [local irreducible] awp n9 k3 l8 o6
variable {G : Nat → Option (List PV)}
abbrev zc (kind a : Int) (t : Tm) : AV := .agg [.i kind, .i a, .i t.op, .i t.n, .p (.sl (t.kids.map eT))]
def cV (kind : Int) : Int := if kind = 3 then 3 else if kind = 8 then 4 else 0
def bw (kind a : Int) (t : Tm) : Bool :=
  if kind = 4 then (decide (0 ≤ a) && decide (a ≤ 3)) && ofB t 1
  else ((decide (1 ≤ kind) && decide (kind ≤ 8)) && (decide (0 ≤ a) && decide (a ≤ cV kind))) && bj t
theorem uf (h : Heap) : d5 Tryz.prog G 133 [.agg [.i 0, .i 0, .p .nils]] h (fun r h' => r = .b true ∧ h' = h) := by
  have hz := M2 (G := G) (.mk 0 0 []) h
  refine d5.nrm ?_
  simpa [R7, bP, nrm, V6, I5, aT, Tm.op, Tm.n, Tm.kids, bj] using hz
theorem pC {n : Nat} {t : Tm} (ht : Tm.Ok n t) (kind a : Int) (h : Heap) : d5 Tryz.prog gW 102 [zc kind a t] h (fun r h' => r = .b (bw kind a t) ∧ h' = h) := by
  by_cases h4 : kind = 4
  · subst h4
    cases ho : ofB t 1 with
    | false =>
      have hof := fun h => nB ht 1 h
      rw [ho] at hof
      refine c8 (rl := []) e9 Tryz.func102 rfl (rs := [.tmp 2]) rfl Tryz.ntmps102 (by simp) ?_
      repeat' (first | ((repeat ((fail_if_success (refine hK _ ?_)); clear hK K)); refine hK _ ?_; clear hK K) | ((first | refine b9 fun K1 q6 => ?_ | refine b7 fun A B hA hB => ?_); simp only [S1, simprocAttr, X5, p9]; first | refine q6 _ ?_; clear q6 K1 | (refine hA ?_; clear hA hB A B) | (apply d4 zx; exact (hof _); refine q6 _ ?_; clear q6 K1)) | refine b6 fun K hK => ?_ | ((first | apply b8 | apply b5 | apply c7 | apply f9 | apply d3); try simp only [NB, simprocAttr]))
      all_goals simp only [S1, simprocAttr, ENB, X5]
      all_goals simp [bw, ho]
    | true =>
      have hof := fun h => nB ht 1 h
      rw [ho] at hof
      refine c8 (rl := []) e9 Tryz.func102 rfl (rs := [.tmp 2]) rfl Tryz.ntmps102 (by simp) ?_
      repeat' (first | ((repeat ((fail_if_success (refine hK _ ?_)); clear hK K)); refine hK _ ?_; clear hK K) | ((first | refine b9 fun K1 q6 => ?_ | refine b7 fun A B hA hB => ?_); simp only [S1, simprocAttr, X5, p9]; first | refine q6 _ ?_; clear q6 K1 | ((first | refine hA ?_ | refine hB ?_); clear hA hB A B) | (apply d4 zx; exact (hof _); refine q6 _ ?_; clear q6 K1) | (refine l6 (v := ?_) (fun hg q8 => ?_) ?_; rotate_left; (focus (try ((try simp only [BN] at hg); simp only [S1, simprocAttr, X5, p9, hg] at q8 ⊢)); first | exact q8 | (apply d4 rp; exact (uf _); exact q8)); refine q6 _ ?_; clear q6 K1)) | refine b6 fun K hK => ?_ | ((first | apply b8 | apply b5 | apply c7 | apply f9 | apply c9 | apply d3); try simp only [NB, simprocAttr]))
      all_goals simp only [S1, simprocAttr, ENB, X5]
      all_goals simp [bw, ho]
  · have f4 : (kind == 4) = false := by simp [h4]
    by_cases h3 : kind = 3
    · subst h3
      refine c8 (rl := []) e9 Tryz.func102 rfl (rs := [.tmp 2]) rfl Tryz.ntmps102 (by simp) ?_
      repeat' (first | ((repeat ((fail_if_success (refine hK _ ?_)); clear hK K)); refine hK _ ?_; clear hK K) | ((first | refine b9 fun K1 q6 => ?_ | refine b7 fun A B hA hB => ?_); simp only [S1, simprocAttr, X5, p9]; first | refine q6 _ ?_; clear q6 K1 | ((first | refine hA ?_ | refine hB ?_); clear hA hB A B) | (refine l6 (v := ?_) (fun hg q8 => ?_) ?_; rotate_left; (focus (try ((try simp only [BN] at hg); simp only [S1, simprocAttr, X5, p9, hg] at q8 ⊢)); first | exact q8 | (apply d4 rp; exact (M2 t _); exact q8)); refine q6 _ ?_; clear q6 K1)) | refine b6 fun K hK => ?_ | ((first | apply b8 | apply b5 | apply c7 | apply f9 | apply c9 | apply d3); try simp only [NB, simprocAttr]))
      all_goals simp only [S1, simprocAttr, ENB, X5]
      all_goals simp [bw, cV, Bool.and_assoc]
    · have f3 : (kind == 3) = false := by simp [h3]
      by_cases h8 : kind = 8
      · subst h8
        refine c8 (rl := []) e9 Tryz.func102 rfl (rs := [.tmp 2]) rfl Tryz.ntmps102 (by simp) ?_
        repeat' (first | ((repeat ((fail_if_success (refine hK _ ?_)); clear hK K)); refine hK _ ?_; clear hK K) | ((first | refine b9 fun K1 q6 => ?_ | refine b7 fun A B hA hB => ?_); simp only [S1, simprocAttr, X5, p9]; first | refine q6 _ ?_; clear q6 K1 | ((first | refine hA ?_ | refine hB ?_); clear hA hB A B) | (refine l6 (v := ?_) (fun hg q8 => ?_) ?_; rotate_left; (focus (try ((try simp only [BN] at hg); simp only [S1, simprocAttr, X5, p9, hg] at q8 ⊢)); first | exact q8 | (apply d4 rp; exact (M2 t _); exact q8)); refine q6 _ ?_; clear q6 K1)) | refine b6 fun K hK => ?_ | ((first | apply b8 | apply b5 | apply c7 | apply f9 | apply c9 | apply d3); try simp only [NB, simprocAttr]))
        all_goals simp only [S1, simprocAttr, ENB, X5]
        all_goals simp [bw, cV, Bool.and_assoc]
      · have f8 : (kind == 8) = false := by simp [h8]
        refine c8 (rl := []) e9 Tryz.func102 rfl (rs := [.tmp 2]) rfl Tryz.ntmps102 (by simp) ?_
        repeat' (first | ((repeat ((fail_if_success (refine hK _ ?_)); clear hK K)); refine hK _ ?_; clear hK K) | ((first | refine b9 fun K1 q6 => ?_ | refine b7 fun A B hA hB => ?_); simp only [S1, simprocAttr, X5, p9, f3, f4, f8]; first | refine q6 _ ?_; clear q6 K1 | (refine hB ?_; clear hA hB A B) | (refine l6 (v := ?_) (fun hg q8 => ?_) ?_; rotate_left; (focus (try ((try simp only [BN] at hg); simp only [S1, simprocAttr, X5, p9, f3, f4, f8, hg] at q8 ⊢)); first | exact q8 | (apply d4 rp; exact (M2 t _); exact q8)); refine q6 _ ?_; clear q6 K1)) | refine b6 fun K hK => ?_ | ((first | apply b8 | apply b5 | apply c7 | apply f9 | apply c9 | apply d3); try simp only [NB, simprocAttr]))
        all_goals simp only [S1, simprocAttr, ENB, X5]
        all_goals simp [bw, cV, h3, h4, h8, Bool.and_assoc]
end
section
def V7 := And.intro T2 (And.intro T3 (And.intro T4 (And.intro T31 (And.intro T73 (And.intro T75 T77)))))
attribute [local irreducible] awp n9 k3 l8 o6
variable {G : Nat → Option (List PV)}
theorem ug {n : Nat} {t : Tm} (ht : Tm.Ok n t) (hn : n ≤ 200) (kind a : Int) (h : Heap) : d5 Tryz.prog G 42 [zc kind a t] h (fun r h' => r = .b (bw kind a t) ∧ h' = h) := by
  by_cases hr : 1 ≤ kind ∧ kind ≤ 8 ∧ 0 ≤ a
  · have f1 : decide (kind < 1) = false := by simp; omega
    have f2 : decide (8 < kind) = false := by simp; omega
    have f5 : decide (a < 0) = false := by simp; omega
    by_cases h4 : kind = 4
    · subst h4
      refine c8 (rl := []) e9 Tryz.func42 rfl (rs := [.tmp 2]) rfl Tryz.ntmps42 (by simp) ?_
      repeat' (first | ((repeat ((fail_if_success (refine hK _ ?_)); clear hK K)); refine hK _ ?_; clear hK K) | ((first | refine b9 fun K1 q6 => ?_ | refine b7 fun A B hA hB => ?_); simp only [S1, simprocAttr, V7, p9, f5]; first | refine q6 _ ?_; clear q6 K1 | ((first | refine hA ?_ | refine hB ?_); clear hA hB A B) | (refine l6 (v := ?_) (fun hg q8 => ?_) ?_; rotate_left; (focus (try ((try simp only [BN] at hg); simp only [S1, simprocAttr, V7, p9, f5, hg] at q8 ⊢)); first | exact q8 | (apply d4 E64; exact (pA ht hn 1 _); exact q8)); refine q6 _ ?_; clear q6 K1)) | refine b6 fun K hK => ?_ | ((first | apply b8 | apply b5 | apply c9 | apply d3); try simp only [NB, simprocAttr]))
      all_goals simp only [S1, simprocAttr, ENB, V7]
      all_goals (have e : decide (a < 4) = decide (a ≤ 3) := by rw [decide_eq_decide]; omega)
      all_goals simp [bw, e, hr.2.2]
    · have f4 : (kind == 4) = false := by simp [h4]
      by_cases h3 : kind = 3
      · subst h3
        refine c8 (rl := []) e9 Tryz.func42 rfl (rs := [.tmp 2]) rfl Tryz.ntmps42 (by simp) ?_
        repeat' (first | ((repeat ((fail_if_success (refine hK _ ?_)); clear hK K)); refine hK _ ?_; clear hK K) | ((first | refine b9 fun K1 q6 => ?_ | refine b7 fun A B hA hB => ?_); simp only [S1, simprocAttr, V7, p9, f5]; first | refine q6 _ ?_; clear q6 K1 | ((first | refine hA ?_ | refine hB ?_); clear hA hB A B) | (refine l6 (v := ?_) (fun hg q8 => ?_) ?_; rotate_left; (focus (try ((try simp only [BN] at hg); simp only [S1, simprocAttr, V7, p9, f5, hg] at q8 ⊢)); first | exact q8 | (apply d4 E65; exact (M9 t _); exact q8)); refine q6 _ ?_; clear q6 K1)) | refine b6 fun K hK => ?_ | ((first | apply b8 | apply b5 | apply c9 | apply d3); try simp only [NB, simprocAttr]))
        all_goals simp only [S1, simprocAttr, ENB, V7]
        all_goals simp [bw, cV, hr.2.2]
      · have f3 : (kind == 3) = false := by simp [h3]
        by_cases h8 : kind = 8
        · subst h8
          refine c8 (rl := []) e9 Tryz.func42 rfl (rs := [.tmp 2]) rfl Tryz.ntmps42 (by simp) ?_
          repeat' (first | ((repeat ((fail_if_success (refine hK _ ?_)); clear hK K)); refine hK _ ?_; clear hK K) | ((first | refine b9 fun K1 q6 => ?_ | refine b7 fun A B hA hB => ?_); simp only [S1, simprocAttr, V7, p9, f5]; first | refine q6 _ ?_; clear q6 K1 | ((first | refine hA ?_ | refine hB ?_); clear hA hB A B) | (refine l6 (v := ?_) (fun hg q8 => ?_) ?_; rotate_left; (focus (try ((try simp only [BN] at hg); simp only [S1, simprocAttr, V7, p9, f5, hg] at q8 ⊢)); first | exact q8 | (apply d4 E65; exact (M9 t _); exact q8)); refine q6 _ ?_; clear q6 K1)) | refine b6 fun K hK => ?_ | ((first | apply b8 | apply b5 | apply c9 | apply d3); try simp only [NB, simprocAttr]))
          all_goals simp only [S1, simprocAttr, ENB, V7]
          all_goals simp [bw, cV, hr.2.2]
        · have f8 : (kind == 8) = false := by simp [h8]
          refine c8 (rl := []) e9 Tryz.func42 rfl (rs := [.tmp 2]) rfl Tryz.ntmps42 (by simp) ?_
          repeat' (first | ((repeat ((fail_if_success (refine hK _ ?_)); clear hK K)); refine hK _ ?_; clear hK K) | ((first | refine b9 fun K1 q6 => ?_ | refine b7 fun A B hA hB => ?_); simp only [S1, simprocAttr, V7, p9, f1, f2, f3, f4, f5, f8]; first | refine q6 _ ?_; clear q6 K1 | (refine hB ?_; clear hA hB A B) | (refine l6 (v := ?_) (fun hg q8 => ?_) ?_; rotate_left; (focus (try ((try simp only [BN] at hg); simp only [S1, simprocAttr, V7, p9, f1, f2, f3, f4, f5, f8, hg] at q8 ⊢)); first | exact q8 | (apply d4 E65; exact (M9 t _); exact q8)); refine q6 _ ?_; clear q6 K1)) | refine b6 fun K hK => ?_ | ((first | apply b8 | apply b5 | apply c9 | apply d3); try simp only [NB, simprocAttr]))
          all_goals simp only [S1, simprocAttr, ENB, V7]
          all_goals simp [bw, cV, h3, h4, h8, hr.1, hr.2.1, hr.2.2]
  · have f1 : ((decide (kind < 1) || decide (8 < kind)) || decide (a < 0)) = true := by simp; omega
    have e : bw kind a t = false := by
      unfold bw
      split
      · rename_i h4
        have : decide (0 ≤ a) = false := by simp; omega
        simp [this]
      · by_cases h1 : 1 ≤ kind
        · by_cases h2 : kind ≤ 8
          · have : decide (0 ≤ a) = false := by simp; omega
            simp [this]
          · simp [h2]
        · simp [h1]
    rw [e]
    refine c8 (rl := []) e9 Tryz.func42 rfl (rs := [.tmp 2]) rfl Tryz.ntmps42 (by simp) ?_
    repeat' (first | ((repeat ((fail_if_success (refine hK _ ?_)); clear hK K)); refine hK _ ?_; clear hK K) | ((first | refine b9 fun K1 q6 => ?_ | refine b7 fun A B hA hB => ?_); simp only [S1, simprocAttr, V7, p9, f1]; first | refine q6 _ ?_; clear q6 K1 | (refine hA ?_; clear hA hB A B) | (refine l6 (v := ?_) (fun hg q8 => ?_) ?_; rotate_left; (focus (try ((try simp only [BN] at hg); simp only [S1, simprocAttr, V7, p9, f1, hg] at q8 ⊢)); exact q8); refine q6 _ ?_; clear q6 K1)) | refine b6 fun K hK => ?_ | ((first | apply b8 | apply b5 | apply d3); try simp only [NB, simprocAttr]))
    all_goals simp only [S1, simprocAttr, ENB, V7]
    all_goals trace_state
end
section
def AN (tok : Int → Int) (f x : Int) : Int → Int := fun i => if i = f then x else tok i
end
section
attribute [local irreducible] awp n9 k3 l8
variable {G : Nat → Option (List PV)}
def eI (n : Int) : List PV := [.int .i64 n]
abbrev aI (l : List Int) : AV := .p (.sl (l.map eI))
theorem F5 {l : List Int} {i : Nat} {k : Int} (h : l[i]? = some k) : (l.map eI)[i]? = some [.int .i64 k] := by simp [h, eI]
theorem O1 {l : List Int} {i : Nat} (h : i < l.length) : decide ((i : Int) < (l.length : Int)) = true := by simp; omega
theorem I1 {l : List Int} : decide ((l.length : Int) < (l.length : Int)) = false := by simp
theorem H3 {l : List Int} {i : Nat} (hk : l.length ≤ 200) (h : i < l.length) : IntKind.i64.wrap ((i : Int) + 1) = ((i + 1 : Nat) : Int) := by rw [IntWalk.i64_in _ (by omega)]; omega
end
section
attribute [local irreducible] awp n9 k3 l8 o6
variable {G : Nat → Option (List PV)}
structure Fl where
  src : Int
  dst : Int
  els : Bool
  cond : Tm
def eF (f : Fl) : List PV := [.int .i64 f.src, .int .i64 f.dst, .bool f.els, .int .i64 f.cond.op, .int .i64 f.cond.n, .sl (f.cond.kids.map eT)]
theorem U6 {l : List Fl} {i : Nat} {k : Fl} (h : l[i]? = some k) : (l.map eF)[i]? = some (eF k) := by simp [h]
theorem cN {l : List Fl} {i : Nat} (h : i < l.length) : decide ((i : Int) < (l.length : Int)) = true := by simp; omega
theorem rz {l : List Fl} : decide ((l.length : Int) < (l.length : Int)) = false := by simp
theorem T5 {l : List Fl} {i : Nat} (hk : l.length ≤ 100) (h : i < l.length) : IntKind.i64.wrap ((i : Int) + 1) = ((i + 1 : Nat) : Int) := by rw [IntWalk.i64_in _ (by omega)]; omega
def r7 (q : Fl → Bool) (l : List Fl) : Nat → List Int
  | 0 => []
  | j + 1 => match l[j]? with
    | some f => if q f then r7 q l j ++ [(j : Int)] else r7 q l j
    | none => r7 q l j
def o5 (l : List Fl) (i : Int) : List Int := r7 (fun f => f.dst == i) l l.length
def i7 (l : List Fl) (i : Int) : List Int := r7 (fun f => f.src == i) l l.length
theorem R8 (q : Fl → Bool) (l : List Fl) : ∀ j, (r7 q l j).length ≤ j
  | 0 => Nat.le_refl _
  | j + 1 => by
    unfold r7
    have := R8 q l j
    split
    · split
      · rw [List.length_append]; simp; omega
      · omega
    · omega
section
variable {P : Program} {rl : List String} {h : Heap}
theorem F0 {c : Code} {Q : Exit → St → Prop} {s : St} (N nt : Nat) (l : Nat → List (Nat × AV)) (L : Nat → List (Option Blk)) (p : Nat → Prop) (hi : o8 P G h s ⟨frL (l 0), nt, h ++ L 0⟩) (hp : p 0)
    (hb : ∀ i, i ≤ N → p i → ∀ K : St → Prop, (∀ s', (i < N ∧ p (i + 1) ∧ Sub h s' (l (i + 1)) (L (i + 1)) nt) → K s') → awp P G rl h c (M7 K Q) ⟨frL (l i), nt, h ++ L i⟩) : awp P G rl h (.loop c) Q s := by
  refine bN (fun n s => ∃ i, i ≤ N ∧ p i ∧ n = N - i ∧ s = ⟨frL (l i), nt, h ++ L i⟩) N _ hi ⟨0, Nat.zero_le _, hp, rfl, rfl⟩ fun n s hI => ?_
  obtain ⟨i, h1, h2, rfl, rfl⟩ := hI
  exact hb i h1 h2 _ fun s' hs => ⟨N - (i + 1), _, by omega, hs.2.2.ghost, i + 1, by omega, hs.2.1, rfl, rfl⟩
end
end
section
attribute [local irreducible] awp n9 k3 l8
variable {G : Nat → Option (List PV)}
theorem nC {α : Type} : ∀ (cs c : List α) (k : Nat), k + cs.length = c.length → w9 c k cs = c.take k ++ cs
  | [], c, k, h => by simp only [w9, List.append_nil]; rw [List.take_of_length_le (by simp at h; omega)]
  | v :: r, c, k, h => by
    simp only [w9]
    rw [nC r (c.set k v) (k + 1) (by simp at h ⊢; omega)]
    simp only [List.length_cons] at h
    rw [List.take_add_one, List.getElem?_set_self (by omega), List.take_set_of_le (Nat.le_refl k)]
    simp
theorem lS {m : Nat} : ∀ l : List AV, (∀ x ∈ l, ∃ n, x = .i n) → o4 m l
  | [], _ => trivial
  | x :: r, h => by
    obtain ⟨n, rfl⟩ := h x (by simp)
    exact ⟨trivial, lS r fun y hy => h y (by simp [hy])⟩
theorem fT (h : Heap) (n fuel : Nat) : ∀ l : List Int, L4 h n fuel (l.map AV.i) = some (l.map (PV.int .i64))
  | [] => by unfold L4; rfl
  | x :: r => by
    simp only [List.map_cons]
    unfold L4 pur
    rw [fT h n fuel r]
end
end Go.Proofs.YtbbmfemplmelhaaGreatDoor.AM
