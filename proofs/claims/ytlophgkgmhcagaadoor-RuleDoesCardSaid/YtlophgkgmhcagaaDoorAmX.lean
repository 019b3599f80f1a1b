/- The abstract machine, part X: ground runs: an evaluator of abstract states, and that what it says is so. -/
import Derived.Test.YtlophgkgmhcagaaDoorAmQ
import Derived.Test.YtlophgkgmhcagaaDoorAmO
set_option linter.unusedVariables false
set_option linter.unusedSimpArgs false
namespace Go.Proofs.YtlophgkgmhcagaaDoor.AM
open Go

/-! ### Equality, told by a program -/
mutual
def pvEq : PV → PV → Bool
  | .int k n, .int k' n' => decide (k = k') && decide (n = n')
  | .bool a, .bool b => a == b
  | .str s, .str t => decide (s = t)
  | .nils, .nils => true
  | .nilp, .nilp => true
  | .nilf, .nilf => true
  | .sl r, .sl r' => pvEqR r r'
  | _, _ => false
def pvEqL : List PV → List PV → Bool
  | [], [] => true
  | x :: r, y :: r' => pvEq x y && pvEqL r r'
  | _, _ => false
def pvEqR : List (List PV) → List (List PV) → Bool
  | [], [] => true
  | x :: r, y :: r' => pvEqL x y && pvEqR r r'
  | _, _ => false
end

mutual
theorem pvEq_eq : ∀ (x y : PV), pvEq x y = true → x = y
  | .int k n, y, h => by cases y <;> simp [pvEq] at h; rw [h.1, h.2]
  | .bool a, y, h => by cases y <;> simp [pvEq] at h; rw [h]
  | .str s, y, h => by cases y <;> simp [pvEq] at h; rw [h]
  | .nils, y, h => by cases y <;> simp [pvEq] at h; rfl
  | .nilp, y, h => by cases y <;> simp [pvEq] at h; rfl
  | .nilf, y, h => by cases y <;> simp [pvEq] at h; rfl
  | .sl r, y, h => by
    cases y with
    | sl r' => simp only [pvEq] at h; rw [pvEqR_eq r r' h]
    | _ => simp [pvEq] at h
theorem pvEqL_eq : ∀ (x y : List PV), pvEqL x y = true → x = y
  | [], y, h => by cases y <;> simp [pvEqL] at h; rfl
  | a :: r, y, h => by
    cases y with
    | nil => simp [pvEqL] at h
    | cons b r' => simp only [pvEqL, Bool.and_eq_true] at h; rw [pvEq_eq a b h.1, pvEqL_eq r r' h.2]
theorem pvEqR_eq : ∀ (x y : List (List PV)), pvEqR x y = true → x = y
  | [], y, h => by cases y <;> simp [pvEqR] at h; rfl
  | a :: r, y, h => by
    cases y with
    | nil => simp [pvEqR] at h
    | cons b r' => simp only [pvEqR, Bool.and_eq_true] at h; rw [pvEqL_eq a b h.1, pvEqR_eq r r' h.2]
end

mutual
def avEq : AV → AV → Bool
  | .p x, .p y => pvEq x y
  | .agg l, .agg l' => avEqL l l'
  | .tup l, .tup l' => avEqL l l'
  | .fn f l, .fn f' l' => decide (f = f') && avEqL l l'
  | .ref b g o s n, .ref b' g' o' s' n' => decide (b = b') && (decide (g = g') && (decide (o = o') && (decide (s = s') && decide (n = n'))))
  | .ptr b g o, .ptr b' g' o' => decide (b = b') && (decide (g = g') && decide (o = o'))
  | .pin c, .pin c' => pvEqL c c'
  | _, _ => false
def avEqL : List AV → List AV → Bool
  | [], [] => true
  | x :: r, y :: r' => avEq x y && avEqL r r'
  | _, _ => false
end

mutual
theorem avEq_eq : ∀ (x y : AV), avEq x y = true → x = y
  | .p x, y, h => by cases y <;> simp [avEq] at h; rw [pvEq_eq _ _ h]
  | .agg l, y, h => by cases y <;> simp [avEq] at h; rw [avEqL_eq _ _ h]
  | .tup l, y, h => by cases y <;> simp [avEq] at h; rw [avEqL_eq _ _ h]
  | .fn f l, y, h => by cases y <;> simp [avEq] at h; rw [h.1, avEqL_eq _ _ h.2]
  | .ref b g o s n, y, h => by cases y <;> simp [avEq] at h; obtain ⟨rfl, rfl, rfl, rfl, rfl⟩ := h; rfl
  | .ptr b g o, y, h => by cases y <;> simp [avEq] at h; obtain ⟨rfl, rfl, rfl⟩ := h; rfl
  | .pin c, y, h => by cases y <;> simp [avEq] at h; rw [pvEqL_eq _ _ h]
theorem avEqL_eq : ∀ (x y : List AV), avEqL x y = true → x = y
  | [], y, h => by cases y <;> simp [avEqL] at h; rfl
  | a :: r, y, h => by
    cases y with
    | nil => simp [avEqL] at h
    | cons b r' => simp only [avEqL, Bool.and_eq_true] at h; rw [avEq_eq a b h.1, avEqL_eq r r' h.2]
end

def heapEq : Heap → Heap → Bool
  | [], [] => true
  | none :: r, none :: r' => heapEq r r'
  | some ⟨g, c⟩ :: r, some ⟨g', c'⟩ :: r' => decide (g = g') && (avEqL c c' && heapEq r r')
  | _, _ => false

theorem heapEq_eq : ∀ (x y : Heap), heapEq x y = true → x = y
  | [], y, h => by cases y <;> simp [heapEq] at h; rfl
  | none :: r, y, h => by
    match y, h with
    | none :: r', h => simp only [heapEq] at h; rw [heapEq_eq r r' h]
    | some _ :: r', h => simp [heapEq] at h
    | [], h => simp [heapEq] at h
  | some ⟨g, c⟩ :: r, y, h => by
    match y, h with
    | some ⟨g', c'⟩ :: r', h =>
      simp only [heapEq, Bool.and_eq_true, decide_eq_true_eq] at h
      rw [h.1, avEqL_eq c c' h.2.1, heapEq_eq r r' h.2.2]
    | none :: r', h => simp [heapEq] at h
    | [], h => simp [heapEq] at h

mutual
def avltB (m : Nat) : AV → Bool
  | .p _ => true
  | .agg l => avltsB m l
  | .tup l => avltsB m l
  | .fn _ l => avltsB m l
  | .ref b _ _ _ _ => decide (b < m)
  | .ptr b _ _ => decide (b < m)
  | .pin _ => true
def avltsB (m : Nat) : List AV → Bool
  | [] => true
  | x :: r => avltB m x && avltsB m r
end

mutual
theorem avltB_lt {m : Nat} : ∀ x : AV, avltB m x = true → AVlt m x
  | .p x, _ => .p x
  | .agg l, h => .agg l (avltsB_lt l (by simpa [avltB] using h))
  | .tup l, h => .tup l (avltsB_lt l (by simpa [avltB] using h))
  | .fn f l, h => .fn f l (avltsB_lt l (by simpa [avltB] using h))
  | .ref b g o s n, h => .ref b g o s n (by simpa [avltB] using h)
  | .ptr b g o, h => .ptr b g o (by simpa [avltB] using h)
  | .pin c, _ => .pin c
theorem avltsB_lt {m : Nat} : ∀ l : List AV, avltsB m l = true → ∀ x ∈ l, AVlt m x
  | [], _ => fun x hx => by simp at hx
  | y :: r, h => fun x hx => by
    simp only [avltsB, Bool.and_eq_true] at h
    rcases List.mem_cons.mp hx with e | e
    · rw [e]; exact avltB_lt y h.1
    · exact avltsB_lt r h.2 x e
end

/-! ### What lasts, once more, as a program that the kernel can run -/
def mapO {α β : Type} (f : α → Option β) : List α → Option (List β)
  | [] => some []
  | x :: r => match f x, mapO f r with
    | some y, some ys => some (y :: ys)
    | _, _ => none

def purX (h : Heap) (n : Nat) : Nat → AV → Option PV
  | 0, x => match x with
    | .p .nils => some (.sl [])
    | .p x => some x
    | _ => none
  | fuel + 1, x => match x with
    | .p .nils => some (.sl [])
    | .p x => some x
    | .ref b g off sz len =>
      if len = 0 then some (.sl []) else
      match blkAt h b g with
      | some cells => if n ≤ b ∧ off + len * sz ≤ cells.length then (mapO (purX h n fuel) ((cells.drop off).take (len * sz))).map fun l => .sl (chunk sz len l) else none
      | none => none
    | _ => none

theorem pursX_of {h : Heap} {n fuel : Nat} (hp : ∀ x, pur h n fuel x = purX h n fuel x) : ∀ l, purs h n fuel l = mapO (purX h n fuel) l
  | [] => by unfold purs mapO; rfl
  | x :: r => by unfold purs mapO; rw [hp x, pursX_of hp r]; cases purX h n fuel x <;> cases mapO (purX h n fuel) r <;> rfl

theorem purX_eq (h : Heap) (n : Nat) : ∀ fuel x, pur h n fuel x = purX h n fuel x := by
  intro fuel
  induction fuel with
  | zero =>
    intro x
    cases x with
    | p y => cases y <;> (unfold pur purX; rfl)
    | _ => unfold pur purX; rfl
  | succ fuel ih =>
    intro x
    cases x with
    | p y => cases y <;> (unfold pur purX; rfl)
    | ref b g off sz len =>
      unfold pur purX
      dsimp only
      by_cases h0 : len = 0
      · rw [if_pos h0, if_pos h0]
      · rw [if_neg h0, if_neg h0]
        cases hb : blkAt h b g with
        | none => rfl
        | some cells =>
          dsimp only
          rw [pursX_of ih]
    | _ => unfold pur purX; rfl

def lastAX (h : Heap) (n : Nat) : AV → Option AV
  | .agg cells => (mapO (purX h n 5) cells).map fun l => .agg (l.map .p)
  | .ptr b g off => if b < n then some (.ptr b g off) else none
  | x => (purX h n 5 x).map .p

theorem lastAX_eq (h : Heap) (n : Nat) (x : AV) : lastA h n x = lastAX h n x := by
  cases x with
  | agg cells => unfold lastA lastAX; dsimp only; rw [pursX_of (purX_eq h n 5)]
  | ptr b g off => rfl
  | _ => unfold lastA lastAX; dsimp only; rw [purX_eq]

def lastVX (h : Heap) (n : Nat) : AV → Option AV
  | .tup vs => (mapO (lastAX h n) vs).map .tup
  | x => lastAX h n x

theorem lastAsX (h : Heap) (n : Nat) : ∀ l, lastAs h n l = mapO (lastAX h n) l
  | [] => by unfold lastAs mapO; rfl
  | x :: r => by unfold lastAs mapO; rw [lastAX_eq, lastAsX h n r]; cases lastAX h n x <;> cases mapO (lastAX h n) r <;> rfl

theorem lastVX_eq (h : Heap) (n : Nat) (x : AV) : lastV h n x = lastVX h n x := by
  cases x with
  | tup vs => unfold lastV lastVX; dsimp only; rw [lastAsX]
  | _ => unfold lastV lastVX; exact lastAX_eq h n _

/-! ### The evaluator -/
section
variable (P : Program) (G : Nat → Option (List PV)) (rl : List String)

abbrev Callee := FuncId → List AV → Heap → Option (AV × Heap)

def rExec (call : Callee) (o : Oper) (s : St) : Option (AV × Heap) :=
  match callOf o with
  | some (f, args) =>
    match evalA G s f, evals (evalA G s) args.toList with
    | some (.fn g caps), some xs => call g (xs ++ caps) s.heap
    | _, _ => none
  | none => opA P rl o (evalA G s) s.heap

def rOp (call : Callee) (ops : Array Oper) (o : Oper) (s : St) : Option St :=
  match wantA ops o s with
  | some true => match rExec P G rl call o s with
    | some (r, h') => some (({ s with heap := h' } : St).put o.dst r)
    | none => none
  | some false => some (s.put o.dst .undef)
  | none => none

def rOps (call : Callee) (ops : Array Oper) : List Oper → St → Option St
  | [], s => some s
  | o :: rest, s => match rOp P G rl call ops o s with
    | some s1 => rOps call ops rest s1
    | none => none

def rqOp (call : Callee) (ops : Array Oper) (o : Oper) (s : St) : Option St :=
  match wantA ops o s with
  | some true => match rExec P G rl call o s with
    | some (r, h') => if heapEq h' s.heap then some (s.put o.dst r) else none
    | none => none
  | some false => some (s.put o.dst .undef)
  | none => none

def rqOps (call : Callee) (ops : Array Oper) : List Oper → St → Option St
  | [], s => some s
  | o :: rest, s => match rqOp P G rl call ops o s with
    | some s1 => rqOps call ops rest s1
    | none => none

/-- All that the blocks that are laid by can hold. -/
def cands : List (List PV) → List Heap
  | [] => [[]]
  | z :: rest => (cands rest).flatMap fun R => [some ⟨0, []⟩ :: R, some ⟨1, z.map .p⟩ :: R]

/-- What a quiet operation yields, whatever the blocks that are laid by can hold. -/
def rStab (call : Callee) (o : Oper) (fr : Nat → Option AV) (nt : Nat) (hp : Heap) (cs : List Heap) : Option AV :=
  match o.op with
  | .load t a => (evalA G ⟨fr, nt, hp⟩ a).bind fun x => loadA P hp t x
  | .call ⟨.value f, args, _⟩ => match evalA G ⟨fr, nt, hp⟩ f, evals (evalA G ⟨fr, nt, hp⟩) args.toList, cs with
    | some (.fn g caps), some xs, R0 :: _ => match call g (xs ++ caps) (hp ++ R0) with
      | some (v, _) => if cs.all (fun R => match call g (xs ++ caps) (hp ++ R) with | some (v', h') => avEq v' v && heapEq h' (hp ++ R) | none => false) then some v else none
      | none => none
    | _, _, _ => none
  | _ => none

def rFree (o : Oper) (fr : Nat → Option AV) (nt : Nat) : Option AV :=
  (opA P rl o (evalA G ⟨fr, nt, []⟩) []).bind fun q => if q.2.isEmpty then some q.1 else none

def rTail (call : Callee) (ops : Array Oper) : List Nat → St → Option St
  | [], s => some s
  | k :: rest, s => match ops.toList[k]? with
    | none => none
    | some o =>
      if allocB o then none
      else if effB o then (match rOp P G rl call ops o s with
        | some s1 => rTail call ops rest s1
        | none => none)
      else if heapFree o && (wantA ops o s == some true) then
        (match rFree P G rl o s.fr s.nt with
        | some v => rTail call ops rest (s.put o.dst v)
        | none => none)
      else none

def rDraw (call : Callee) (ops : Array Oper) (nt : Nat) (hp : Heap) (cs : List Heap) : List Nat → (Nat → Option AV) → Heap → Option St
  | [], fr, R => some ⟨fr, nt, hp ++ R⟩
  | k :: rest, fr, R => match ops.toList[k]? with
    | none => none
    | some o =>
      if allocB o then
        (match zeroB P o, R[slotB ops k]?, o.dst with
        | some z, some (some ⟨0, []⟩), some d => if d < nt then rDraw call ops nt hp cs rest (upd fr d (.ptr (hp.length + slotB ops k) 1 0)) (R.set (slotB ops k) (some ⟨1, z.map .p⟩)) else none
        | _, _, _ => none)
      else if effB o then rTail P G rl call ops (k :: rest) ⟨fr, nt, hp ++ R⟩
      else if wantA ops o ⟨fr, nt, hp⟩ == some true then
        (match (if heapFree o then rFree P G rl o fr nt else rStab P G call o fr nt hp cs), o.dst with
        | some v, some d => if d < nt then rDraw call ops nt hp cs rest (upd fr d v) R else none
        | _, _ => none)
      else none

def allocs (ops : Array Oper) : Nat := (ops.toList.filter allocB).length

def rLoop (step : St → Option (Exit × St)) : Nat → St → Option (Exit × St)
  | 0, _ => none
  | n + 1, s => match step s with
    | some (.normal, s1) => rLoop step n s1
    | r => r

def rCode (call : Callee) (F : Nat) : Code → St → Option (Exit × St)
  | .skip, s => some (.normal, s)
  | .label _, s => some (.normal, s)
  | .region _ ops draw, s =>
    if draw then (if Region.lexB .any ops && (ops.toList.all fun o => !effB o) then (rqOps P G rl call ops ops.toList s).map fun s1 => (.normal, s1)
      else if lexR .any ops (List.range ops.size) (Array.replicate ops.size false) then (rDraw P G rl call ops s.nt s.heap (cands (zsB P ops)) (List.range ops.size) s.fr (List.replicate (zsB P ops).length (some ⟨0, []⟩))).map fun s1 => (.normal, s1) else none)
    else (rOps P G rl call ops ops.toList s).map fun s1 => (.normal, s1)
  | .seq a b, s => match rCode call F a s with
    | some (.normal, s1) => rCode call F b s1
    | r => r
  | .cond c x y, s => match evalA G s c with
    | some (.p (.bool true)) => rCode call F x s
    | some (.p (.bool false)) => rCode call F y s
    | _ => none
  | .block id c, s => match rCode call F c s with
    | some (.exit i, s1) => if i = id then some (.normal, s1) else some (.exit i, s1)
    | r => r
  | .loop c, s => rLoop (rCode call F c) F s
  | .exit id, s => some (.exit id, s)
  | .ret, s => some (.ret, s)
  | _, _ => none

def keptB (h0 : Heap) (n : Nat) : Heap → Nat → Bool
  | [], _ => true
  | none :: r, i => keptB h0 n r (i + 1)
  | some bk :: r, i => ((match h0[i]? with | some (some bk') => heapEq [some bk'] [some bk] | _ => false) || avltsB n bk.cells) && keptB h0 n r (i + 1)

def rEnd (rs : List ResultVar) (h : Heap) (s : St) : Option (AV × Heap) :=
  match resA P s rs with
  | some r =>
    if h.length ≤ s.heap.length then
      match lastVX s.heap h.length r with
      | some r' => if keptB h h.length (s.heap.take h.length) 0 then some (r', s.heap.take h.length) else some (r, s.heap)
      | none => some (r, s.heap)
    else none
  | none => none

def rCall (F : Nat) : Nat → Callee
  | 0 => fun _ _ _ => none
  | n + 1 => fun f args h =>
    match P.funcs[f]? with
    | some fn =>
      match fn.body with
      | some c =>
        if fn.name == "runtime.NumGoroutine" then none
        else if args.length ≤ fn.ntmps then
          match rCode P G rl (rCall F n) F c (entry args fn.ntmps h) with
          | some (.normal, s) => rEnd P fn.results.toList h s
          | some (.ret, s) => rEnd P fn.results.toList h s
          | _ => none
        else none
      | none => none
    | none => none
end

section
variable {P : Program} {G : Nat → Option (List PV)} {rl : List String} {h0 : Heap}

def GoodC (P : Program) (G : Nat → Option (List PV)) (call : Callee) : Prop :=
  ∀ f args h r h', call f args h = some (r, h') → Enters P f ∧ ACalls P G f args h fun r0 h1 => r0 = r ∧ h1 = h'

variable {call : Callee}

theorem rExec_sound (hc : GoodC P G call) {o : Oper} {s : St} {r : AV} {h' : Heap} (h : rExec P G rl call o s = some (r, h')) {K : St → Prop} (hk : K (({ s with heap := h' } : St).put o.dst r)) : aexec P G rl o K s := by
  unfold rExec at h
  unfold aexec
  split at h
  · rename_i f args e
    rw [e]
    dsimp only
    split at h
    · rename_i g caps xs e1 e2
      rw [e1, e2]
      obtain ⟨h1, h2⟩ := hc _ _ _ _ _ h
      exact ⟨h1, h2.mono fun r0 h1 ⟨a, b⟩ => by subst a; subst b; exact hk⟩
    · cases h
  · rename_i e
    rw [e]
    dsimp only
    rw [h]
    exact hk

theorem rOps_sound (hc : GoodC P G call) {ops : Array Oper} : ∀ (l : List Oper) (s s' : St), rOps P G rl call ops l s = some s' → ∀ K : St → Prop, K s' → aops P G rl ops K l s
  | [], s, s', h, K, hk => by simp [rOps] at h; subst h; exact hk
  | o :: rest, s, s', h, K, hk => by
    unfold rOps at h
    split at h
    · rename_i s1 e
      have ih := rOps_sound hc rest s1 s' h K hk
      unfold rOp at e
      show aop P G rl ops o (aops P G rl ops K rest) s
      unfold aop
      split at e
      · rename_i hw
        rw [hw]
        split at e
        · rename_i r h' hx
          cases e
          exact ⟨fun _ => rExec_sound hc hx ih, fun e => (by cases e)⟩
        · cases e
      · rename_i hw
        rw [hw]
        cases e
        exact ⟨fun e => (by cases e), fun _ => ih⟩
      · cases e
    · cases h

theorem rqOps_sound (hc : GoodC P G call) {ops : Array Oper} : ∀ (l : List Oper) (s s' : St), rqOps P G rl call ops l s = some s' → ∀ K : St → Prop, K s' → aqops P G rl ops K l s
  | [], s, s', h, K, hk => by simp [rqOps] at h; subst h; exact hk
  | o :: rest, s, s', h, K, hk => by
    unfold rqOps at h
    split at h
    · rename_i s1 e
      have ih := rqOps_sound hc rest s1 s' h K hk
      unfold rqOp at e
      show aqop P G rl ops o (aqops P G rl ops K rest) s
      unfold aqop
      split at e
      · rename_i hw
        rw [hw]
        split at e
        · rename_i r h' hx
          split at e
          · rename_i hq
            cases e
            have := heapEq_eq _ _ hq
            subst this
            refine ⟨fun _ => ?_, fun e => (by cases e)⟩
            unfold rExec at hx
            unfold aquiet
            split at hx
            · rename_i f args e
              rw [e]
              dsimp only
              split at hx
              · rename_i g caps xs e1 e2
                rw [e1, e2]
                obtain ⟨h1, h2⟩ := hc _ _ _ _ _ hx
                exact ⟨h1, r, h2, ih⟩
              · cases hx
            · rename_i e
              rw [e]
              dsimp only
              rw [hx]
              exact ⟨rfl, ih⟩
          · cases e
        · cases e
      · rename_i hw
        rw [hw]
        cases e
        exact ⟨fun e => (by cases e), fun _ => ih⟩
      · cases e
    · cases h

theorem loadA_ext {hp R : Heap} {t : Nat} {x v : AV} (h : loadA P hp t x = some v) : loadA P (hp ++ R) t x = some v := by
  unfold loadA at *
  split at h
  · rename_i i b g off ht
    obtain ⟨cells, hc, hv⟩ := Option.bind_eq_some_iff.mp h
    have : blkAt (hp ++ R) b g = some cells := by
      unfold blkAt at *
      have hlt : b < hp.length := by
        rcases Nat.lt_or_ge b hp.length with hl | hl
        · exact hl
        · rw [List.getElem?_eq_none hl] at hc; cases hc
      rw [List.getElem?_append_left hlt]; exact hc
    simp only [this, Option.bind_some, hv]
  · exact h
  · cases h

theorem wantA_heap {ops : Array Oper} {o : Oper} {fr : Nat → Option AV} {nt : Nat} {H H' : Heap} : wantA ops o ⟨fr, nt, H⟩ = wantA ops o ⟨fr, nt, H'⟩ := rfl

theorem evalA_heap {fr : Nat → Option AV} {nt : Nat} {H H' : Heap} (x : Operand) : evalA G ⟨fr, nt, H⟩ x = evalA G ⟨fr, nt, H'⟩ x := by cases x <;> rfl

theorem cands_mem : ∀ (zs : List (List PV)) (R : Heap), R.length = zs.length → (∀ (j : Nat) (z : List PV), zs[j]? = some z → R[j]? = some (some ⟨0, []⟩) ∨ R[j]? = some (some ⟨1, z.map .p⟩)) → R ∈ cands zs
  | [], R, hl, _ => by simp [cands]; exact List.eq_nil_of_length_eq_zero (by simpa using hl)
  | z :: rest, R, hl, h => by
    match R, hl, h with
    | b :: R', hl, h =>
      have ih := cands_mem rest R' (by simpa using hl) fun j y hy => by simpa using h (j + 1) y (by simpa using hy)
      simp only [cands, List.mem_flatMap]
      refine ⟨R', ih, ?_⟩
      rcases h 0 z rfl with h0 | h0
      · simp at h0; subst h0; simp
      · simp at h0; subst h0; simp

theorem rFree_sound {ops : Array Oper} {o : Oper} {fr : Nat → Option AV} {nt : Nat} {H0 : Heap} {v : AV} (hf : heapFree o = true) (hw : wantA ops o ⟨fr, nt, H0⟩ = some true) (h : rFree P G rl o fr nt = some v) : StabF P G rl ops o v ⟨fr, nt, H0⟩ := fun H => by
  have hev : evalA G ⟨fr, nt, []⟩ = evalA G ⟨fr, nt, H⟩ := funext fun x => evalA_heap x
  refine .inl ⟨hw, ?_⟩
  unfold rFree at h
  obtain ⟨q, hq, h⟩ := Option.bind_eq_some_iff.mp h
  split at h
  · rename_i hem
    cases h
    obtain ⟨q1, q2⟩ := q
    have : q2 = [] := by simpa using hem
    subst this
    have hcall : callOf o = none := by
      unfold heapFree at hf; unfold callOf
      split <;> simp_all
    unfold AQ
    rw [hcall]
    dsimp only
    rw [← hev]
    exact opA_free (H' := H) hf hq
  · cases h

theorem rStab_sound (hc : GoodC P G call) {ops : Array Oper} {o : Oper} {fr : Nat → Option AV} {nt : Nat} {hp : Heap} {v : AV} {cs : List Heap} (hw : wantA ops o ⟨fr, nt, hp⟩ = some true) (h : rStab P G call o fr nt hp cs = some v) (R : Heap) (hR : R ∈ cs) :
    YieldsA P G rl ops o v ⟨fr, nt, hp ++ R⟩ := by
  have hev : evalA G ⟨fr, nt, hp⟩ = evalA G ⟨fr, nt, hp ++ R⟩ := funext fun x => evalA_heap x
  refine .inl ⟨hw, ?_⟩
  unfold rStab at h
  split at h
  · rename_i t a ho
    obtain ⟨x, hx, hl⟩ := Option.bind_eq_some_iff.mp h
    unfold AQ callOf
    rw [ho]
    dsimp only
    unfold opA
    rw [ho]
    dsimp only
    rw [← evalA_heap (H := hp), hx]
    simp only [Option.bind_some, loadA_ext hl, Option.map_some]
  · rename_i f args ats ho
    split at h
    · rename_i g caps xs R0 rest hf hxs
      split at h
      · rename_i v0 h0 hq
        split at h
        · rename_i hall
          cases h
          have hr := List.all_eq_true.mp hall R hR
          split at hr
          · rename_i v' h' hq'
            simp only [Bool.and_eq_true] at hr
            have e1 := avEq_eq _ _ hr.1
            have e2 := heapEq_eq _ _ hr.2
            subst e1; subst e2
            obtain ⟨c1, c2⟩ := hc _ _ _ _ _ hq'
            unfold AQ callOf
            rw [ho]
            dsimp only
            exact ⟨g, caps, xs, by rw [← evalA_heap (H := hp)]; exact hf, by rw [← hev]; exact hxs, c1, c2⟩
          · cases hr
        · cases h
      · cases h
    · cases h
  · cases h

theorem rTail_sound (hc : GoodC P G call) {ops : Array Oper} : ∀ (l : List Nat) (s s' : St), rTail P G rl call ops l s = some s' → ∀ K : St → Prop, K s' → arunT P G rl ops K l s
  | [], s, s', h, K, hk => by simp [rTail] at h; subst h; exact hk
  | k :: rest, s, s', h, K, hk => by
    unfold rTail at h
    split at h
    · cases h
    · rename_i o ho
      have ho' : ops[k]? = some o := by rw [← Array.getElem?_toList]; exact ho
      unfold arunT
      simp only [ho']
      split at h
      · cases h
      · rename_i ha
        split at h
        · rename_i he
          rw [if_pos he]
          split at h
          · rename_i s1 h1
            have ih := rTail_sound hc rest s1 s' h K hk
            exact ⟨by simpa using ha, rOps_sound hc [o] s s1 (by unfold rOps; rw [h1]; rfl) (arunT P G rl ops K rest) ih⟩
          · cases h
        · rename_i he
          rw [if_neg he]
          split at h
          · rename_i hcond
            simp only [Bool.and_eq_true, beq_iff_eq] at hcond
            split at h
            · rename_i v hv
              exact ⟨hcond.1, v, rFree_sound (H0 := s.heap) hcond.1 hcond.2 hv, rTail_sound hc rest _ s' h K hk⟩
            · cases h
          · cases h

theorem rDraw_sound (hc : GoodC P G call) {ops : Array Oper} {nt : Nat} {hp : Heap} : ∀ (l : List Nat) (fr : Nat → Option AV) (R : Heap) (s' : St), rDraw P G rl call ops nt hp (cands (zsB P ops)) l fr R = some s' → ∀ K : St → Prop, K s' → arun P G rl ops hp.length (zsB P ops).length K l ⟨fr, nt, hp ++ R⟩
  | [], fr, R, s', h, K, hk => by simp [rDraw] at h; subst h; exact hk
  | k :: rest, fr, R, s', h, K, hk => by
    unfold rDraw at h
    split at h
    · cases h
    · rename_i o ho
      have ho' : ops[k]? = some o := by rw [← Array.getElem?_toList]; exact ho
      split at h
      · rename_i ha
        split at h
        · rename_i z d hz hs hd
          split at h
          · rename_i hlt
            exact arun_alloc ho ha hz hd hlt hs (rDraw_sound hc rest _ _ s' h K hk)
          · cases h
        · cases h
      · rename_i ha
        split at h
        · rename_i he
          unfold arun
          simp only [ho']
          rw [if_neg ha, if_pos he]
          exact rTail_sound hc _ _ _ h K hk
        · rename_i he
          split at h
          · rename_i hw
            have hw := beq_iff_eq.mp hw
            split at h
            · rename_i v d hv hd
              split at h
              · rename_i hlt
                have ih := rDraw_sound hc rest _ _ s' h K hk
                unfold arun
                simp only [ho']
                rw [if_neg ha, if_neg he]
                split at hv
                · rename_i hh
                  rw [if_pos hh]
                  refine ⟨v, rFree_sound hh hw hv, ?_⟩
                  rw [hd]; simp only [St.put, hlt, if_true]; exact ih
                · rename_i hh
                  rw [if_neg hh]
                  refine ⟨v, fun R' hR' => ?_, ?_⟩
                  · have : (hp ++ R).take hp.length = hp := by simp
                    simp only [this]
                    exact rStab_sound hc hw hv R' (cands_mem _ R' hR'.1 hR'.2)
                  · rw [hd]; simp only [St.put, hlt, if_true]; exact ih
              · cases h
            · cases h
          · cases h

theorem rCode_sound (hc : GoodC P G call) (F : Nat) : ∀ (c : Code) (s : St) (e : Exit) (s' : St), rCode P G rl call F c s = some (e, s') → ∀ Q : Exit → St → Prop, Q e s' → awp P G rl h0 c Q s := by
  intro c
  induction c with
  | skip => intro s e s' h Q hq; simp only [rCode, Option.some.injEq, Prod.mk.injEq] at h; obtain ⟨rfl, rfl⟩ := h; exact hq
  | label l => intro s e s' h Q hq; simp only [rCode, Option.some.injEq, Prod.mk.injEq] at h; obtain ⟨rfl, rfl⟩ := h; exact hq
  | region id ops draw =>
    intro s e s' h Q hq
    simp only [rCode] at h
    split at h
    · rename_i hd
      subst hd
      split at h
      · rename_i hl
        obtain ⟨s1, h1, h2⟩ := Option.map_eq_some_iff.mp h
        cases h2
        simp only [Bool.and_eq_true] at hl
        exact awp_draw hl.1 (rqOps_sound hc _ _ _ h1 _ hq)
      · split at h
        · rename_i hl
          obtain ⟨s1, h1, h2⟩ := Option.map_eq_some_iff.mp h
          cases h2
          exact awp_drawR (List.range ops.size) (zsB P ops).length (by simp) rfl hl (rDraw_sound hc _ _ _ _ h1 _ hq)
        · cases h
    · rename_i hd
      obtain ⟨s1, h1, h2⟩ := Option.map_eq_some_iff.mp h
      cases h2
      have : draw = false := by simpa using hd
      subst this
      exact awp_region (rOps_sound hc _ _ _ h1 _ hq)
  | seq a b iha ihb =>
    intro s e s' h Q hq
    simp only [rCode] at h
    split at h
    · rename_i s1 h1
      exact awp_cut (fun s2 => s2 = s1) (iha s .normal s1 h1 _ ⟨s1, .refl, rfl⟩) fun s2 e2 => by subst e2; exact ihb _ _ _ h _ hq
    · rename_i hn
      refine awp_cut (fun _ => False) (iha s e s' h _ ?_) fun _ hf => hf.elim
      cases e with
      | normal => exact (hn s' h).elim
      | _ => exact hq
  | cond c x y ihx ihy =>
    intro s e s' h Q hq
    simp only [rCode] at h
    split at h
    · rename_i hv; exact awp_cond (t := true) hv (fun _ => ihx _ _ _ h _ hq) (fun e => (by cases e))
    · rename_i hv; exact awp_cond (t := false) hv (fun e => (by cases e)) (fun _ => ihy _ _ _ h _ hq)
    · cases h
  | block id c ih =>
    intro s e s' h Q hq
    simp only [rCode] at h
    refine awp_block ?_
    split at h
    · rename_i i s1 h1
      refine ih _ _ _ h1 _ ?_
      simp only [blockA]
      split at h
      · rename_i hi; rw [if_pos hi]; cases h; exact hq
      · rename_i hi; rw [if_neg hi]; cases h; exact hq
    · rename_i hn
      refine ih _ _ _ h _ ?_
      cases e with
      | exit i => exact (hn i s' h).elim
      | _ => exact hq
  | loop c ih =>
    intro s e s' h Q hq
    simp only [rCode] at h
    refine awp_loop (fun n s1 => rLoop (rCode P G rl call F c) n s1 = some (e, s')) F s .refl h fun n s1 hn => ?_
    cases n with
    | zero => simp [rLoop] at hn
    | succ n =>
      unfold rLoop at hn
      split at hn
      · rename_i s2 h2
        exact ih _ _ _ h2 _ ⟨n, s2, Nat.lt_succ_self n, .refl, hn⟩
      · rename_i hno
        refine ih _ _ _ hn _ ?_
        cases e with
        | normal => exact (hno s' hn).elim
        | _ => exact hq
  | exit id => intro s e s' h Q hq; simp only [rCode, Option.some.injEq, Prod.mk.injEq] at h; obtain ⟨rfl, rfl⟩ := h; exact hq
  | ret => intro s e s' h Q hq; simp only [rCode, Option.some.injEq, Prod.mk.injEq] at h; obtain ⟨rfl, rfl⟩ := h; exact hq
  | _ => intro s e s' h; simp [rCode] at h

theorem keptB_spec {n : Nat} : ∀ (l : Heap) (i : Nat), keptB h0 n l i = true → ∀ (b : Nat) (bk : Blk), l[b]? = some (some bk) → h0[i + b]? = some (some bk) ∨ ∀ x ∈ bk.cells, AVlt n x
  | [], i, _, b, bk, h => by simp at h
  | none :: r, i, hk, b, bk, h => by
    simp only [keptB] at hk
    cases b with
    | zero => simp at h
    | succ b =>
      have := keptB_spec r (i + 1) hk b bk (by simpa using h)
      rwa [show i + 1 + b = i + (b + 1) by omega] at this
  | some bk0 :: r, i, hk, b, bk, h => by
    simp only [keptB, Bool.and_eq_true, Bool.or_eq_true] at hk
    cases b with
    | zero =>
      simp at h
      subst h
      rcases hk.1 with h1 | h1
      · left
        rw [Nat.add_zero]
        split at h1
        · rename_i bk' e
          have := heapEq_eq _ _ h1
          simp only [List.cons.injEq, Option.some.injEq, and_true] at this
          rw [e, this]
        · cases h1
      · exact .inr (avltsB_lt _ h1)
    | succ b =>
      have := keptB_spec r (i + 1) hk.2 b bk (by simpa using h)
      rwa [show i + 1 + b = i + (b + 1) by omega] at this

theorem rCall_good (hm : P.follows .mixedOrders = true) (F : Nat) : ∀ n, GoodC P G (rCall P G rl F n)
  | 0 => fun f args h r h' e => by simp [rCall] at e
  | n + 1 => fun f args h r h' e => by
    unfold rCall at e
    split at e
    case h_2 => cases e
    rename_i fn hf
    split at e
    case h_2 => cases e
    rename_i c hb
    split at e
    · cases e
    · rename_i hname
      split at e
      case isFalse => cases e
      rename_i hnt
      refine ⟨⟨fn, c, hf, hb, by simpa using hname⟩, ?_⟩
      have fin : ∀ (ex : Exit) (s : St), (ex = .normal ∨ ex = .ret) → rCode P G rl (rCall P G rl F n) F c (entry args fn.ntmps h) = some (ex, s) → rEnd P fn.results.toList h s = some (r, h') → ACalls P G f args h fun r0 h1 => r0 = r ∧ h1 = h' := by
        intro ex s hex hrun hend
        unfold rEnd at hend
        split at hend
        case h_2 => cases hend
        rename_i r1 hr1
        split at hend
        case isFalse => cases hend
        rename_i hlen
        have keepK : r1 = r → s.heap = h' → ACalls P G f args h fun r0 h1 => r0 = r ∧ h1 = h' := fun e1 e2 => by
          refine Sim.evoKeep (rl := rl) hm hf hb hnt (rCode_sound (rCall_good hm F n) F c _ _ _ hrun _ ⟨hex, hlen, ?_⟩)
          rw [hr1]; exact ⟨e1, e2⟩
        split at hend
        · rename_i r2 hr2
          split at hend
          · rename_i hkept
            cases hend
            have hk := keptB_spec _ _ hkept
            refine acalls_intro (rl := rl) hm hf hb hnt h.length (rCode_sound (rCall_good hm F n) F c _ _ _ hrun _ ⟨hex, Nat.le_refl _, hlen, r1, r, hr1, (lastVX_eq _ _ _).trans hr2, fun b bk hbk => ?_, rfl, rfl⟩)
            have := hk b bk hbk
            rwa [Nat.zero_add] at this
          · cases hend; exact keepK rfl rfl
        · cases hend; exact keepK rfl rfl
      split at e
      · rename_i s hrun; exact fin _ s (.inl rfl) hrun e
      · rename_i s hrun; exact fin _ s (.inr rfl) hrun e
      · cases e

/-- A ground run that comes to a truth, at whatever heap. -/
theorem ACalls.bool_lift {f : FuncId} {b : Bool} (h : ACalls P G f [] [] fun r h' => r = .b b ∧ h' = []) (H : Heap) : ACalls P G f [] H fun r h' => r = .b b ∧ h' = H := by
  intro ι w vs hS hv
  have hS0 : SimH P G ι [] w := ⟨⟨fun b bk hb => by simp at hb, fun b b' bk bk' hb => by simp at hb⟩, fun g cells hg => (hS.gr g cells hg).mono (Nat.le_refl _) fun k _ _ => ⟨rfl, own_nil⟩⟩
  refine (h ι w vs hS0 ⟨hv.1, fun i x v hx => by simp at hx⟩).mono ?_
  rintro e w' ⟨v, r, h', ι', he, ⟨rfl, rfl⟩, hS', hvr, hev⟩
  have hvb := hvr.bool_inv
  subst hvb
  have hk : ∀ k, k < w.heap.size → w'.heap[k]? = w.heap[k]? := fun k hk => (hev.keep k hk own_nil).1
  have hE : Evo H.length ι H w ι H w' := by
    refine ⟨hev.size, fun k hk' ho => ⟨hk k hk', ho⟩, Nat.le_refl _, fun b bk' hb hq => ⟨bk', hq, Nat.le_refl _, fun _ => ⟨rfl, id, fun cs ty fr hc => ?_⟩⟩, hev.os, hev.output, hev.tape⟩
    exact ⟨cs, ty, fr, by rw [hk _ (by have := Array.getElem?_eq_some_iff.mp hc; exact this.1)]; exact hc, rfl⟩
  have hH : HRel ι H w' := by
    refine ⟨fun b bk hb hne => ?_, hS.hr.inj⟩
    obtain ⟨c, ty, hc, hsz, hv⟩ := hS.hr.blk b bk hb hne
    exact ⟨c, ty, by rw [hk _ (Array.getElem?_eq_some_iff.mp hc).1]; exact hc, hsz, fun j x hx => by obtain ⟨v, p1, p2⟩ := hv j x hx; exact ⟨v, p1, p2.evo hE⟩⟩
  exact ⟨_, _, H, ι, he, ⟨rfl, rfl⟩, ⟨hH, fun g cells hg => (hS.gr g cells hg).mono hev.size fun k hk' ho => ⟨hk k hk', ho⟩⟩, .p _ _ (.bool b), hE⟩
end
end Go.Proofs.YtlophgkgmhcagaaDoor.AM
