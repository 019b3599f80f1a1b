/- Proved here, in parts, for one law: The abstract machine, part X: ground runs: an evaluator of abstract states, and that what it says is so. The law of all rules of a process. Plain: how many rules a node has, and what they need. Contracts: the step of a catch that goes. Contracts: what operators make of numbers. Contracts: what operators make of numbers, in the document's answer. Right terms, and what they are. Contracts: the number that a right term is. Contract: the document's answer for what a right term is. Contracts: whether values are numbers. Contracts: what is asked of a term; Number, Truth. Contracts: the document's answer for numbers and truths. Contracts: which flow a splitting Xor takes, as the document tells it. Contracts: the steps of an Xor, as the document tells them. Contracts: the steps of a node of data, as the document tells them. Contracts: the steps of a node, as the document tells them. Conditions: none. -/
import Derived.Test.YtjpphhcimpclpaaDoorZRuleFreeD
import Derived.IntWalk

section
set_option linter.unusedVariables false
set_option linter.unusedSimpArgs false
namespace Go.Proofs.YtjpphhcimpclpaaDoor.AM
open Go

/-! ### Equality, told by a program -/
mutual
def pvEq : PV → PV → Bool
  | .int k n, .int k' n' => decide (k = k') && decide (n = n')
  | .bool a, .bool b => a == b
  | .str s, .str t => decide (s = t)
  | .nils, .nils => true
  | .nilp, .nilp => true
  | .nilf, .nilf => true
  | .sl r, .sl r' => pvEqR r r'
  | _, _ => false
def pvEqL : List PV → List PV → Bool
  | [], [] => true
  | x :: r, y :: r' => pvEq x y && pvEqL r r'
  | _, _ => false
def pvEqR : List (List PV) → List (List PV) → Bool
  | [], [] => true
  | x :: r, y :: r' => pvEqL x y && pvEqR r r'
  | _, _ => false
end

mutual
theorem pvEq_eq : ∀ (x y : PV), pvEq x y = true → x = y
  | .int k n, y, h => by cases y <;> simp [pvEq] at h; rw [h.1, h.2]
  | .bool a, y, h => by cases y <;> simp [pvEq] at h; rw [h]
  | .str s, y, h => by cases y <;> simp [pvEq] at h; rw [h]
  | .nils, y, h => by cases y <;> simp [pvEq] at h; rfl
  | .nilp, y, h => by cases y <;> simp [pvEq] at h; rfl
  | .nilf, y, h => by cases y <;> simp [pvEq] at h; rfl
  | .sl r, y, h => by
    cases y with
    | sl r' => simp only [pvEq] at h; rw [pvEqR_eq r r' h]
    | _ => simp [pvEq] at h
theorem pvEqL_eq : ∀ (x y : List PV), pvEqL x y = true → x = y
  | [], y, h => by cases y <;> simp [pvEqL] at h; rfl
  | a :: r, y, h => by
    cases y with
    | nil => simp [pvEqL] at h
    | cons b r' => simp only [pvEqL, Bool.and_eq_true] at h; rw [pvEq_eq a b h.1, pvEqL_eq r r' h.2]
theorem pvEqR_eq : ∀ (x y : List (List PV)), pvEqR x y = true → x = y
  | [], y, h => by cases y <;> simp [pvEqR] at h; rfl
  | a :: r, y, h => by
    cases y with
    | nil => simp [pvEqR] at h
    | cons b r' => simp only [pvEqR, Bool.and_eq_true] at h; rw [pvEqL_eq a b h.1, pvEqR_eq r r' h.2]
end

mutual
def avEq : AV → AV → Bool
  | .p x, .p y => pvEq x y
  | .agg l, .agg l' => avEqL l l'
  | .tup l, .tup l' => avEqL l l'
  | .fn f l, .fn f' l' => decide (f = f') && avEqL l l'
  | .ref b g o s n, .ref b' g' o' s' n' => decide (b = b') && (decide (g = g') && (decide (o = o') && (decide (s = s') && decide (n = n'))))
  | .ptr b g o, .ptr b' g' o' => decide (b = b') && (decide (g = g') && decide (o = o'))
  | .pin c, .pin c' => pvEqL c c'
  | _, _ => false
def avEqL : List AV → List AV → Bool
  | [], [] => true
  | x :: r, y :: r' => avEq x y && avEqL r r'
  | _, _ => false
end

mutual
theorem avEq_eq : ∀ (x y : AV), avEq x y = true → x = y
  | .p x, y, h => by cases y <;> simp [avEq] at h; rw [pvEq_eq _ _ h]
  | .agg l, y, h => by cases y <;> simp [avEq] at h; rw [avEqL_eq _ _ h]
  | .tup l, y, h => by cases y <;> simp [avEq] at h; rw [avEqL_eq _ _ h]
  | .fn f l, y, h => by cases y <;> simp [avEq] at h; rw [h.1, avEqL_eq _ _ h.2]
  | .ref b g o s n, y, h => by cases y <;> simp [avEq] at h; obtain ⟨rfl, rfl, rfl, rfl, rfl⟩ := h; rfl
  | .ptr b g o, y, h => by cases y <;> simp [avEq] at h; obtain ⟨rfl, rfl, rfl⟩ := h; rfl
  | .pin c, y, h => by cases y <;> simp [avEq] at h; rw [pvEqL_eq _ _ h]
theorem avEqL_eq : ∀ (x y : List AV), avEqL x y = true → x = y
  | [], y, h => by cases y <;> simp [avEqL] at h; rfl
  | a :: r, y, h => by
    cases y with
    | nil => simp [avEqL] at h
    | cons b r' => simp only [avEqL, Bool.and_eq_true] at h; rw [avEq_eq a b h.1, avEqL_eq r r' h.2]
end

def heapEq : Heap → Heap → Bool
  | [], [] => true
  | none :: r, none :: r' => heapEq r r'
  | some ⟨g, c⟩ :: r, some ⟨g', c'⟩ :: r' => decide (g = g') && (avEqL c c' && heapEq r r')
  | _, _ => false

theorem heapEq_eq : ∀ (x y : Heap), heapEq x y = true → x = y
  | [], y, h => by cases y <;> simp [heapEq] at h; rfl
  | none :: r, y, h => by
    match y, h with
    | none :: r', h => simp only [heapEq] at h; rw [heapEq_eq r r' h]
    | some _ :: r', h => simp [heapEq] at h
    | [], h => simp [heapEq] at h
  | some ⟨g, c⟩ :: r, y, h => by
    match y, h with
    | some ⟨g', c'⟩ :: r', h =>
      simp only [heapEq, Bool.and_eq_true, decide_eq_true_eq] at h
      rw [h.1, avEqL_eq c c' h.2.1, heapEq_eq r r' h.2.2]
    | none :: r', h => simp [heapEq] at h
    | [], h => simp [heapEq] at h

mutual
def avltB (m : Nat) : AV → Bool
  | .p _ => true
  | .agg l => avltsB m l
  | .tup l => avltsB m l
  | .fn _ l => avltsB m l
  | .ref b _ _ _ _ => decide (b < m)
  | .ptr b _ _ => decide (b < m)
  | .pin _ => true
def avltsB (m : Nat) : List AV → Bool
  | [] => true
  | x :: r => avltB m x && avltsB m r
end

mutual
theorem avltB_lt {m : Nat} : ∀ x : AV, avltB m x = true → AVlt m x
  | .p x, _ => .p x
  | .agg l, h => .agg l (avltsB_lt l (by simpa [avltB] using h))
  | .tup l, h => .tup l (avltsB_lt l (by simpa [avltB] using h))
  | .fn f l, h => .fn f l (avltsB_lt l (by simpa [avltB] using h))
  | .ref b g o s n, h => .ref b g o s n (by simpa [avltB] using h)
  | .ptr b g o, h => .ptr b g o (by simpa [avltB] using h)
  | .pin c, _ => .pin c
theorem avltsB_lt {m : Nat} : ∀ l : List AV, avltsB m l = true → ∀ x ∈ l, AVlt m x
  | [], _ => fun x hx => by simp at hx
  | y :: r, h => fun x hx => by
    simp only [avltsB, Bool.and_eq_true] at h
    rcases List.mem_cons.mp hx with e | e
    · rw [e]; exact avltB_lt y h.1
    · exact avltsB_lt r h.2 x e
end

/-! ### What lasts, once more, as a program that the kernel can run -/
def mapO {α β : Type} (f : α → Option β) : List α → Option (List β)
  | [] => some []
  | x :: r => match f x, mapO f r with
    | some y, some ys => some (y :: ys)
    | _, _ => none

def purX (h : Heap) (n : Nat) : Nat → AV → Option PV
  | 0, x => match x with
    | .p .nils => some (.sl [])
    | .p x => some x
    | _ => none
  | fuel + 1, x => match x with
    | .p .nils => some (.sl [])
    | .p x => some x
    | .ref b g off sz len =>
      if len = 0 then some (.sl []) else
      match blkAt h b g with
      | some cells => if n ≤ b ∧ off + len * sz ≤ cells.length then (mapO (purX h n fuel) ((cells.drop off).take (len * sz))).map fun l => .sl (chunk sz len l) else none
      | none => none
    | _ => none

theorem pursX_of {h : Heap} {n fuel : Nat} (hp : ∀ x, pur h n fuel x = purX h n fuel x) : ∀ l, purs h n fuel l = mapO (purX h n fuel) l
  | [] => by unfold purs mapO; rfl
  | x :: r => by unfold purs mapO; rw [hp x, pursX_of hp r]; cases purX h n fuel x <;> cases mapO (purX h n fuel) r <;> rfl

theorem purX_eq (h : Heap) (n : Nat) : ∀ fuel x, pur h n fuel x = purX h n fuel x := by
  intro fuel
  induction fuel with
  | zero =>
    intro x
    cases x with
    | p y => cases y <;> (unfold pur purX; rfl)
    | _ => unfold pur purX; rfl
  | succ fuel ih =>
    intro x
    cases x with
    | p y => cases y <;> (unfold pur purX; rfl)
    | ref b g off sz len =>
      unfold pur purX
      dsimp only
      by_cases h0 : len = 0
      · rw [if_pos h0, if_pos h0]
      · rw [if_neg h0, if_neg h0]
        cases hb : blkAt h b g with
        | none => rfl
        | some cells =>
          dsimp only
          rw [pursX_of ih]
    | _ => unfold pur purX; rfl

def lastAX (h : Heap) (n : Nat) : AV → Option AV
  | .agg cells => (mapO (purX h n 5) cells).map fun l => .agg (l.map .p)
  | .ptr b g off => if b < n then some (.ptr b g off) else none
  | x => (purX h n 5 x).map .p

theorem lastAX_eq (h : Heap) (n : Nat) (x : AV) : lastA h n x = lastAX h n x := by
  cases x with
  | agg cells => unfold lastA lastAX; dsimp only; rw [pursX_of (purX_eq h n 5)]
  | ptr b g off => rfl
  | _ => unfold lastA lastAX; dsimp only; rw [purX_eq]

def lastVX (h : Heap) (n : Nat) : AV → Option AV
  | .tup vs => (mapO (lastAX h n) vs).map .tup
  | x => lastAX h n x

theorem lastAsX (h : Heap) (n : Nat) : ∀ l, lastAs h n l = mapO (lastAX h n) l
  | [] => by unfold lastAs mapO; rfl
  | x :: r => by unfold lastAs mapO; rw [lastAX_eq, lastAsX h n r]; cases lastAX h n x <;> cases mapO (lastAX h n) r <;> rfl

theorem lastVX_eq (h : Heap) (n : Nat) (x : AV) : lastV h n x = lastVX h n x := by
  cases x with
  | tup vs => unfold lastV lastVX; dsimp only; rw [lastAsX]
  | _ => unfold lastV lastVX; exact lastAX_eq h n _

/-! ### The evaluator -/
section
variable (P : Program) (G : Nat → Option (List PV)) (rl : List String)

abbrev Callee := FuncId → List AV → Heap → Option (AV × Heap)

def rExec (call : Callee) (o : Oper) (s : St) : Option (AV × Heap) :=
  match callOf o with
  | some (f, args) =>
    match evalA G s f, evals (evalA G s) args.toList with
    | some (.fn g caps), some xs => call g (xs ++ caps) s.heap
    | _, _ => none
  | none => opA P rl o (evalA G s) s.heap

def rOp (call : Callee) (ops : Array Oper) (o : Oper) (s : St) : Option St :=
  match wantA ops o s with
  | some true => match rExec P G rl call o s with
    | some (r, h') => some (({ s with heap := h' } : St).put o.dst r)
    | none => none
  | some false => some (s.put o.dst .undef)
  | none => none

def rOps (call : Callee) (ops : Array Oper) : List Oper → St → Option St
  | [], s => some s
  | o :: rest, s => match rOp P G rl call ops o s with
    | some s1 => rOps call ops rest s1
    | none => none

def rqOp (call : Callee) (ops : Array Oper) (o : Oper) (s : St) : Option St :=
  match wantA ops o s with
  | some true => match rExec P G rl call o s with
    | some (r, h') => if heapEq h' s.heap then some (s.put o.dst r) else none
    | none => none
  | some false => some (s.put o.dst .undef)
  | none => none

def rqOps (call : Callee) (ops : Array Oper) : List Oper → St → Option St
  | [], s => some s
  | o :: rest, s => match rqOp P G rl call ops o s with
    | some s1 => rqOps call ops rest s1
    | none => none

/-- All that the blocks that are laid by can hold. -/
def cands : List (List PV) → List Heap
  | [] => [[]]
  | z :: rest => (cands rest).flatMap fun R => [some ⟨0, []⟩ :: R, some ⟨1, z.map .p⟩ :: R]

/-- What a quiet operation yields, whatever the blocks that are laid by can hold. -/
def rStab (call : Callee) (o : Oper) (fr : Nat → Option AV) (nt : Nat) (hp : Heap) (cs : List Heap) : Option AV :=
  match o.op with
  | .load t a => (evalA G ⟨fr, nt, hp⟩ a).bind fun x => loadA P hp t x
  | .call ⟨.value f, args, _⟩ => match evalA G ⟨fr, nt, hp⟩ f, evals (evalA G ⟨fr, nt, hp⟩) args.toList, cs with
    | some (.fn g caps), some xs, R0 :: _ => match call g (xs ++ caps) (hp ++ R0) with
      | some (v, _) => if cs.all (fun R => match call g (xs ++ caps) (hp ++ R) with | some (v', h') => avEq v' v && heapEq h' (hp ++ R) | none => false) then some v else none
      | none => none
    | _, _, _ => none
  | _ => none

def rFree (o : Oper) (fr : Nat → Option AV) (nt : Nat) : Option AV :=
  (opA P rl o (evalA G ⟨fr, nt, []⟩) []).bind fun q => if q.2.isEmpty then some q.1 else none

def rTail (call : Callee) (ops : Array Oper) : List Nat → St → Option St
  | [], s => some s
  | k :: rest, s => match ops.toList[k]? with
    | none => none
    | some o =>
      if allocB o then none
      else if effB o then (match rOp P G rl call ops o s with
        | some s1 => rTail call ops rest s1
        | none => none)
      else if heapFree o && (wantA ops o s == some true) then
        (match rFree P G rl o s.fr s.nt with
        | some v => rTail call ops rest (s.put o.dst v)
        | none => none)
      else none

def rDraw (call : Callee) (ops : Array Oper) (nt : Nat) (hp : Heap) (cs : List Heap) : List Nat → (Nat → Option AV) → Heap → Option St
  | [], fr, R => some ⟨fr, nt, hp ++ R⟩
  | k :: rest, fr, R => match ops.toList[k]? with
    | none => none
    | some o =>
      if allocB o then
        (match zeroB P o, R[slotB ops k]?, o.dst with
        | some z, some (some ⟨0, []⟩), some d => if d < nt then rDraw call ops nt hp cs rest (upd fr d (.ptr (hp.length + slotB ops k) 1 0)) (R.set (slotB ops k) (some ⟨1, z.map .p⟩)) else none
        | _, _, _ => none)
      else if effB o then rTail P G rl call ops (k :: rest) ⟨fr, nt, hp ++ R⟩
      else if wantA ops o ⟨fr, nt, hp⟩ == some true then
        (match (if heapFree o then rFree P G rl o fr nt else rStab P G call o fr nt hp cs), o.dst with
        | some v, some d => if d < nt then rDraw call ops nt hp cs rest (upd fr d v) R else none
        | _, _ => none)
      else none

def rLoop (step : St → Option (Exit × St)) : Nat → St → Option (Exit × St)
  | 0, _ => none
  | n + 1, s => match step s with
    | some (.normal, s1) => rLoop step n s1
    | r => r

def rCode (call : Callee) (F : Nat) : Code → St → Option (Exit × St)
  | .skip, s => some (.normal, s)
  | .label _, s => some (.normal, s)
  | .region _ ops draw, s =>
    if draw then (if Region.lexB .any ops && (ops.toList.all fun o => !effB o) then (rqOps P G rl call ops ops.toList s).map fun s1 => (.normal, s1)
      else if lexR .any ops (List.range ops.size) (Array.replicate ops.size false) then (rDraw P G rl call ops s.nt s.heap (cands (zsB P ops)) (List.range ops.size) s.fr (List.replicate (zsB P ops).length (some ⟨0, []⟩))).map fun s1 => (.normal, s1) else none)
    else (rOps P G rl call ops ops.toList s).map fun s1 => (.normal, s1)
  | .seq a b, s => match rCode call F a s with
    | some (.normal, s1) => rCode call F b s1
    | r => r
  | .cond c x y, s => match evalA G s c with
    | some (.p (.bool true)) => rCode call F x s
    | some (.p (.bool false)) => rCode call F y s
    | _ => none
  | .block id c, s => match rCode call F c s with
    | some (.exit i, s1) => if i = id then some (.normal, s1) else some (.exit i, s1)
    | r => r
  | .loop c, s => rLoop (rCode call F c) F s
  | .exit id, s => some (.exit id, s)
  | .ret, s => some (.ret, s)
  | _, _ => none

def keptB (h0 : Heap) (n : Nat) : Heap → Nat → Bool
  | [], _ => true
  | none :: r, i => keptB h0 n r (i + 1)
  | some bk :: r, i => ((match h0[i]? with | some (some bk') => heapEq [some bk'] [some bk] | _ => false) || avltsB n bk.cells) && keptB h0 n r (i + 1)

def rEnd (rs : List ResultVar) (h : Heap) (s : St) : Option (AV × Heap) :=
  match resA P s rs with
  | some r =>
    if h.length ≤ s.heap.length then
      match lastVX s.heap h.length r with
      | some r' => if keptB h h.length (s.heap.take h.length) 0 then some (r', s.heap.take h.length) else some (r, s.heap)
      | none => some (r, s.heap)
    else none
  | none => none

def rCall (F : Nat) : Nat → Callee
  | 0 => fun _ _ _ => none
  | n + 1 => fun f args h =>
    match P.funcs[f]? with
    | some fn =>
      match fn.body with
      | some c =>
        if fn.name == "runtime.NumGoroutine" then none
        else if args.length ≤ fn.ntmps then
          match rCode P G rl (rCall F n) F c (entry args fn.ntmps h) with
          | some (.normal, s) => rEnd P fn.results.toList h s
          | some (.ret, s) => rEnd P fn.results.toList h s
          | _ => none
        else none
      | none => none
    | none => none
end

section
variable {P : Program} {G : Nat → Option (List PV)} {rl : List String} {h0 : Heap}

def GoodC (P : Program) (G : Nat → Option (List PV)) (call : Callee) : Prop :=
  ∀ f args h r h', call f args h = some (r, h') → Enters P f ∧ ACalls P G f args h fun r0 h1 => r0 = r ∧ h1 = h'

variable {call : Callee}

theorem rExec_sound (hc : GoodC P G call) {o : Oper} {s : St} {r : AV} {h' : Heap} (h : rExec P G rl call o s = some (r, h')) {K : St → Prop} (hk : K (({ s with heap := h' } : St).put o.dst r)) : aexec P G rl o K s := by
  unfold rExec at h
  unfold aexec
  split at h
  · rename_i f args e
    rw [e]
    dsimp only
    split at h
    · rename_i g caps xs e1 e2
      rw [e1, e2]
      obtain ⟨h1, h2⟩ := hc _ _ _ _ _ h
      exact ⟨h1, h2.mono fun r0 h1 ⟨a, b⟩ => by subst a; subst b; exact hk⟩
    · cases h
  · rename_i e
    rw [e]
    dsimp only
    rw [h]
    exact hk

theorem rOps_sound (hc : GoodC P G call) {ops : Array Oper} : ∀ (l : List Oper) (s s' : St), rOps P G rl call ops l s = some s' → ∀ K : St → Prop, K s' → aops P G rl ops K l s
  | [], s, s', h, K, hk => by simp [rOps] at h; subst h; exact hk
  | o :: rest, s, s', h, K, hk => by
    unfold rOps at h
    split at h
    · rename_i s1 e
      have ih := rOps_sound hc rest s1 s' h K hk
      unfold rOp at e
      show aop P G rl ops o (aops P G rl ops K rest) s
      unfold aop
      split at e
      · rename_i hw
        rw [hw]
        split at e
        · rename_i r h' hx
          cases e
          exact ⟨fun _ => rExec_sound hc hx ih, fun e => (by cases e)⟩
        · cases e
      · rename_i hw
        rw [hw]
        cases e
        exact ⟨fun e => (by cases e), fun _ => ih⟩
      · cases e
    · cases h

theorem rqOps_sound (hc : GoodC P G call) {ops : Array Oper} : ∀ (l : List Oper) (s s' : St), rqOps P G rl call ops l s = some s' → ∀ K : St → Prop, K s' → aqops P G rl ops K l s
  | [], s, s', h, K, hk => by simp [rqOps] at h; subst h; exact hk
  | o :: rest, s, s', h, K, hk => by
    unfold rqOps at h
    split at h
    · rename_i s1 e
      have ih := rqOps_sound hc rest s1 s' h K hk
      unfold rqOp at e
      show aqop P G rl ops o (aqops P G rl ops K rest) s
      unfold aqop
      split at e
      · rename_i hw
        rw [hw]
        split at e
        · rename_i r h' hx
          split at e
          · rename_i hq
            cases e
            have := heapEq_eq _ _ hq
            subst this
            refine ⟨fun _ => ?_, fun e => (by cases e)⟩
            unfold rExec at hx
            unfold aquiet
            split at hx
            · rename_i f args e
              rw [e]
              dsimp only
              split at hx
              · rename_i g caps xs e1 e2
                rw [e1, e2]
                obtain ⟨h1, h2⟩ := hc _ _ _ _ _ hx
                exact ⟨h1, r, h2, ih⟩
              · cases hx
            · rename_i e
              rw [e]
              dsimp only
              rw [hx]
              exact ⟨rfl, ih⟩
          · cases e
        · cases e
      · rename_i hw
        rw [hw]
        cases e
        exact ⟨fun e => (by cases e), fun _ => ih⟩
      · cases e
    · cases h

theorem loadA_ext {hp R : Heap} {t : Nat} {x v : AV} (h : loadA P hp t x = some v) : loadA P (hp ++ R) t x = some v := by
  unfold loadA at *
  split at h
  · rename_i i b g off ht
    obtain ⟨cells, hc, hv⟩ := Option.bind_eq_some_iff.mp h
    have : blkAt (hp ++ R) b g = some cells := by
      unfold blkAt at *
      have hlt : b < hp.length := by
        rcases Nat.lt_or_ge b hp.length with hl | hl
        · exact hl
        · rw [List.getElem?_eq_none hl] at hc; cases hc
      rw [List.getElem?_append_left hlt]; exact hc
    simp only [this, Option.bind_some, hv]
  · exact h
  · cases h

theorem evalA_heap {fr : Nat → Option AV} {nt : Nat} {H H' : Heap} (x : Operand) : evalA G ⟨fr, nt, H⟩ x = evalA G ⟨fr, nt, H'⟩ x := by cases x <;> rfl

theorem cands_mem : ∀ (zs : List (List PV)) (R : Heap), R.length = zs.length → (∀ (j : Nat) (z : List PV), zs[j]? = some z → R[j]? = some (some ⟨0, []⟩) ∨ R[j]? = some (some ⟨1, z.map .p⟩)) → R ∈ cands zs
  | [], R, hl, _ => by simp [cands]; exact List.eq_nil_of_length_eq_zero (by simpa using hl)
  | z :: rest, R, hl, h => by
    match R, hl, h with
    | b :: R', hl, h =>
      have ih := cands_mem rest R' (by simpa using hl) fun j y hy => by simpa using h (j + 1) y (by simpa using hy)
      simp only [cands, List.mem_flatMap]
      refine ⟨R', ih, ?_⟩
      rcases h 0 z rfl with h0 | h0
      · simp at h0; subst h0; simp
      · simp at h0; subst h0; simp

theorem rFree_sound {ops : Array Oper} {o : Oper} {fr : Nat → Option AV} {nt : Nat} {H0 : Heap} {v : AV} (hf : heapFree o = true) (hw : wantA ops o ⟨fr, nt, H0⟩ = some true) (h : rFree P G rl o fr nt = some v) : StabF P G rl ops o v ⟨fr, nt, H0⟩ := fun H => by
  have hev : evalA G ⟨fr, nt, []⟩ = evalA G ⟨fr, nt, H⟩ := funext fun x => evalA_heap x
  refine .inl ⟨hw, ?_⟩
  unfold rFree at h
  obtain ⟨q, hq, h⟩ := Option.bind_eq_some_iff.mp h
  split at h
  · rename_i hem
    cases h
    obtain ⟨q1, q2⟩ := q
    have : q2 = [] := by simpa using hem
    subst this
    have hcall : callOf o = none := by
      unfold heapFree at hf; unfold callOf
      split <;> simp_all
    unfold AQ
    rw [hcall]
    dsimp only
    rw [← hev]
    exact opA_free (H' := H) hf hq
  · cases h

theorem rStab_sound (hc : GoodC P G call) {ops : Array Oper} {o : Oper} {fr : Nat → Option AV} {nt : Nat} {hp : Heap} {v : AV} {cs : List Heap} (hw : wantA ops o ⟨fr, nt, hp⟩ = some true) (h : rStab P G call o fr nt hp cs = some v) (R : Heap) (hR : R ∈ cs) :
    YieldsA P G rl ops o v ⟨fr, nt, hp ++ R⟩ := by
  have hev : evalA G ⟨fr, nt, hp⟩ = evalA G ⟨fr, nt, hp ++ R⟩ := funext fun x => evalA_heap x
  refine .inl ⟨hw, ?_⟩
  unfold rStab at h
  split at h
  · rename_i t a ho
    obtain ⟨x, hx, hl⟩ := Option.bind_eq_some_iff.mp h
    unfold AQ callOf
    rw [ho]
    dsimp only
    unfold opA
    rw [ho]
    dsimp only
    rw [← evalA_heap (H := hp), hx]
    simp only [Option.bind_some, loadA_ext hl, Option.map_some]
  · rename_i f args ats ho
    split at h
    · rename_i g caps xs R0 rest hf hxs
      split at h
      · rename_i v0 h0 hq
        split at h
        · rename_i hall
          cases h
          have hr := List.all_eq_true.mp hall R hR
          split at hr
          · rename_i v' h' hq'
            simp only [Bool.and_eq_true] at hr
            have e1 := avEq_eq _ _ hr.1
            have e2 := heapEq_eq _ _ hr.2
            subst e1; subst e2
            obtain ⟨c1, c2⟩ := hc _ _ _ _ _ hq'
            unfold AQ callOf
            rw [ho]
            dsimp only
            exact ⟨g, caps, xs, by rw [← evalA_heap (H := hp)]; exact hf, by rw [← hev]; exact hxs, c1, c2⟩
          · cases hr
        · cases h
      · cases h
    · cases h
  · cases h

theorem rTail_sound (hc : GoodC P G call) {ops : Array Oper} : ∀ (l : List Nat) (s s' : St), rTail P G rl call ops l s = some s' → ∀ K : St → Prop, K s' → arunT P G rl ops K l s
  | [], s, s', h, K, hk => by simp [rTail] at h; subst h; exact hk
  | k :: rest, s, s', h, K, hk => by
    unfold rTail at h
    split at h
    · cases h
    · rename_i o ho
      have ho' : ops[k]? = some o := by rw [← Array.getElem?_toList]; exact ho
      unfold arunT
      simp only [ho']
      split at h
      · cases h
      · rename_i ha
        split at h
        · rename_i he
          rw [if_pos he]
          split at h
          · rename_i s1 h1
            have ih := rTail_sound hc rest s1 s' h K hk
            exact ⟨by simpa using ha, rOps_sound hc [o] s s1 (by unfold rOps; rw [h1]; rfl) (arunT P G rl ops K rest) ih⟩
          · cases h
        · rename_i he
          rw [if_neg he]
          split at h
          · rename_i hcond
            simp only [Bool.and_eq_true, beq_iff_eq] at hcond
            split at h
            · rename_i v hv
              exact ⟨hcond.1, v, rFree_sound (H0 := s.heap) hcond.1 hcond.2 hv, rTail_sound hc rest _ s' h K hk⟩
            · cases h
          · cases h

theorem rDraw_sound (hc : GoodC P G call) {ops : Array Oper} {nt : Nat} {hp : Heap} : ∀ (l : List Nat) (fr : Nat → Option AV) (R : Heap) (s' : St), rDraw P G rl call ops nt hp (cands (zsB P ops)) l fr R = some s' → ∀ K : St → Prop, K s' → arun P G rl ops hp.length (zsB P ops).length K l ⟨fr, nt, hp ++ R⟩
  | [], fr, R, s', h, K, hk => by simp [rDraw] at h; subst h; exact hk
  | k :: rest, fr, R, s', h, K, hk => by
    unfold rDraw at h
    split at h
    · cases h
    · rename_i o ho
      have ho' : ops[k]? = some o := by rw [← Array.getElem?_toList]; exact ho
      split at h
      · rename_i ha
        split at h
        · rename_i z d hz hs hd
          split at h
          · rename_i hlt
            exact arun_alloc ho ha hz hd hlt hs (rDraw_sound hc rest _ _ s' h K hk)
          · cases h
        · cases h
      · rename_i ha
        split at h
        · rename_i he
          unfold arun
          simp only [ho']
          rw [if_neg ha, if_pos he]
          exact rTail_sound hc _ _ _ h K hk
        · rename_i he
          split at h
          · rename_i hw
            have hw := beq_iff_eq.mp hw
            split at h
            · rename_i v d hv hd
              split at h
              · rename_i hlt
                have ih := rDraw_sound hc rest _ _ s' h K hk
                unfold arun
                simp only [ho']
                rw [if_neg ha, if_neg he]
                split at hv
                · rename_i hh
                  rw [if_pos hh]
                  refine ⟨v, rFree_sound hh hw hv, ?_⟩
                  rw [hd]; simp only [St.put, hlt, if_true]; exact ih
                · rename_i hh
                  rw [if_neg hh]
                  refine ⟨v, fun R' hR' => ?_, ?_⟩
                  · have : (hp ++ R).take hp.length = hp := by simp
                    simp only [this]
                    exact rStab_sound hc hw hv R' (cands_mem _ R' hR'.1 hR'.2)
                  · rw [hd]; simp only [St.put, hlt, if_true]; exact ih
              · cases h
            · cases h
          · cases h

theorem rCode_sound (hc : GoodC P G call) (F : Nat) : ∀ (c : Code) (s : St) (e : Exit) (s' : St), rCode P G rl call F c s = some (e, s') → ∀ Q : Exit → St → Prop, Q e s' → awp P G rl h0 c Q s := by
  intro c
  induction c with
  | skip => intro s e s' h Q hq; simp only [rCode, Option.some.injEq, Prod.mk.injEq] at h; obtain ⟨rfl, rfl⟩ := h; exact hq
  | label l => intro s e s' h Q hq; simp only [rCode, Option.some.injEq, Prod.mk.injEq] at h; obtain ⟨rfl, rfl⟩ := h; exact hq
  | region id ops draw =>
    intro s e s' h Q hq
    simp only [rCode] at h
    split at h
    · rename_i hd
      subst hd
      split at h
      · rename_i hl
        obtain ⟨s1, h1, h2⟩ := Option.map_eq_some_iff.mp h
        cases h2
        simp only [Bool.and_eq_true] at hl
        exact awp_draw hl.1 (rqOps_sound hc _ _ _ h1 _ hq)
      · split at h
        · rename_i hl
          obtain ⟨s1, h1, h2⟩ := Option.map_eq_some_iff.mp h
          cases h2
          exact awp_drawR (List.range ops.size) (zsB P ops).length (by simp) rfl hl (rDraw_sound hc _ _ _ _ h1 _ hq)
        · cases h
    · rename_i hd
      obtain ⟨s1, h1, h2⟩ := Option.map_eq_some_iff.mp h
      cases h2
      have : draw = false := by simpa using hd
      subst this
      exact awp_region (rOps_sound hc _ _ _ h1 _ hq)
  | seq a b iha ihb =>
    intro s e s' h Q hq
    simp only [rCode] at h
    split at h
    · rename_i s1 h1
      exact awp_cut (fun s2 => s2 = s1) (iha s .normal s1 h1 _ ⟨s1, .refl, rfl⟩) fun s2 e2 => by subst e2; exact ihb _ _ _ h _ hq
    · rename_i hn
      refine awp_cut (fun _ => False) (iha s e s' h _ ?_) fun _ hf => hf.elim
      cases e with
      | normal => exact (hn s' h).elim
      | _ => exact hq
  | cond c x y ihx ihy =>
    intro s e s' h Q hq
    simp only [rCode] at h
    split at h
    · rename_i hv; exact awp_cond (t := true) hv (fun _ => ihx _ _ _ h _ hq) (fun e => (by cases e))
    · rename_i hv; exact awp_cond (t := false) hv (fun e => (by cases e)) (fun _ => ihy _ _ _ h _ hq)
    · cases h
  | block id c ih =>
    intro s e s' h Q hq
    simp only [rCode] at h
    refine awp_block ?_
    split at h
    · rename_i i s1 h1
      refine ih _ _ _ h1 _ ?_
      simp only [blockA]
      split at h
      · rename_i hi; rw [if_pos hi]; cases h; exact hq
      · rename_i hi; rw [if_neg hi]; cases h; exact hq
    · rename_i hn
      refine ih _ _ _ h _ ?_
      cases e with
      | exit i => exact (hn i s' h).elim
      | _ => exact hq
  | loop c ih =>
    intro s e s' h Q hq
    simp only [rCode] at h
    refine awp_loop (fun n s1 => rLoop (rCode P G rl call F c) n s1 = some (e, s')) F s .refl h fun n s1 hn => ?_
    cases n with
    | zero => simp [rLoop] at hn
    | succ n =>
      unfold rLoop at hn
      split at hn
      · rename_i s2 h2
        exact ih _ _ _ h2 _ ⟨n, s2, Nat.lt_succ_self n, .refl, hn⟩
      · rename_i hno
        refine ih _ _ _ hn _ ?_
        cases e with
        | normal => exact (hno s' hn).elim
        | _ => exact hq
  | exit id => intro s e s' h Q hq; simp only [rCode, Option.some.injEq, Prod.mk.injEq] at h; obtain ⟨rfl, rfl⟩ := h; exact hq
  | ret => intro s e s' h Q hq; simp only [rCode, Option.some.injEq, Prod.mk.injEq] at h; obtain ⟨rfl, rfl⟩ := h; exact hq
  | _ => intro s e s' h; simp [rCode] at h

theorem keptB_spec {n : Nat} : ∀ (l : Heap) (i : Nat), keptB h0 n l i = true → ∀ (b : Nat) (bk : Blk), l[b]? = some (some bk) → h0[i + b]? = some (some bk) ∨ ∀ x ∈ bk.cells, AVlt n x
  | [], i, _, b, bk, h => by simp at h
  | none :: r, i, hk, b, bk, h => by
    simp only [keptB] at hk
    cases b with
    | zero => simp at h
    | succ b =>
      have := keptB_spec r (i + 1) hk b bk (by simpa using h)
      rwa [show i + 1 + b = i + (b + 1) by omega] at this
  | some bk0 :: r, i, hk, b, bk, h => by
    simp only [keptB, Bool.and_eq_true, Bool.or_eq_true] at hk
    cases b with
    | zero =>
      simp at h
      subst h
      rcases hk.1 with h1 | h1
      · left
        rw [Nat.add_zero]
        split at h1
        · rename_i bk' e
          have := heapEq_eq _ _ h1
          simp only [List.cons.injEq, Option.some.injEq, and_true] at this
          rw [e, this]
        · cases h1
      · exact .inr (avltsB_lt _ h1)
    | succ b =>
      have := keptB_spec r (i + 1) hk.2 b bk (by simpa using h)
      rwa [show i + 1 + b = i + (b + 1) by omega] at this

theorem rCall_good (hm : P.follows .mixedOrders = true) (F : Nat) : ∀ n, GoodC P G (rCall P G rl F n)
  | 0 => fun f args h r h' e => by simp [rCall] at e
  | n + 1 => fun f args h r h' e => by
    unfold rCall at e
    split at e
    case h_2 => cases e
    rename_i fn hf
    split at e
    case h_2 => cases e
    rename_i c hb
    split at e
    · cases e
    · rename_i hname
      split at e
      case isFalse => cases e
      rename_i hnt
      refine ⟨⟨fn, c, hf, hb, by simpa using hname⟩, ?_⟩
      have fin : ∀ (ex : Exit) (s : St), (ex = .normal ∨ ex = .ret) → rCode P G rl (rCall P G rl F n) F c (entry args fn.ntmps h) = some (ex, s) → rEnd P fn.results.toList h s = some (r, h') → ACalls P G f args h fun r0 h1 => r0 = r ∧ h1 = h' := by
        intro ex s hex hrun hend
        unfold rEnd at hend
        split at hend
        case h_2 => cases hend
        rename_i r1 hr1
        split at hend
        case isFalse => cases hend
        rename_i hlen
        have keepK : r1 = r → s.heap = h' → ACalls P G f args h fun r0 h1 => r0 = r ∧ h1 = h' := fun e1 e2 => by
          refine Sim.evoKeep (rl := rl) hm hf hb hnt (rCode_sound (rCall_good hm F n) F c _ _ _ hrun _ ⟨hex, hlen, ?_⟩)
          rw [hr1]; exact ⟨e1, e2⟩
        split at hend
        · rename_i r2 hr2
          split at hend
          · rename_i hkept
            cases hend
            have hk := keptB_spec _ _ hkept
            refine acalls_intro (rl := rl) hm hf hb hnt h.length (rCode_sound (rCall_good hm F n) F c _ _ _ hrun _ ⟨hex, Nat.le_refl _, hlen, r1, r, hr1, (lastVX_eq _ _ _).trans hr2, fun b bk hbk => ?_, rfl, rfl⟩)
            have := hk b bk hbk
            rwa [Nat.zero_add] at this
          · cases hend; exact keepK rfl rfl
        · cases hend; exact keepK rfl rfl
      split at e
      · rename_i s hrun; exact fin _ s (.inl rfl) hrun e
      · rename_i s hrun; exact fin _ s (.inr rfl) hrun e
      · cases e

/-- A ground run that comes to a truth, at whatever heap. -/
theorem ACalls.bool_lift {f : FuncId} {b : Bool} (h : ACalls P G f [] [] fun r h' => r = .b b ∧ h' = []) (H : Heap) : ACalls P G f [] H fun r h' => r = .b b ∧ h' = H := by
  intro ι w vs hS hv
  have hS0 : SimH P G ι [] w := ⟨⟨fun b bk hb => by simp at hb, fun b b' bk bk' hb => by simp at hb⟩, fun g cells hg => (hS.gr g cells hg).mono (Nat.le_refl _) fun k _ _ => ⟨rfl, own_nil⟩⟩
  refine (h ι w vs hS0 ⟨hv.1, fun i x v hx => by simp at hx⟩).mono ?_
  rintro e w' ⟨v, r, h', ι', he, ⟨rfl, rfl⟩, hS', hvr, hev⟩
  have hvb := hvr.bool_inv
  subst hvb
  have hk : ∀ k, k < w.heap.size → w'.heap[k]? = w.heap[k]? := fun k hk => (hev.keep k hk own_nil).1
  have hE : Evo H.length ι H w ι H w' := by
    refine ⟨hev.size, fun k hk' ho => ⟨hk k hk', ho⟩, Nat.le_refl _, fun b bk' hb hq => ⟨bk', hq, Nat.le_refl _, fun _ => ⟨rfl, id, fun cs ty fr hc => ?_⟩⟩, hev.os, hev.output, hev.tape⟩
    exact ⟨cs, ty, fr, by rw [hk _ (by have := Array.getElem?_eq_some_iff.mp hc; exact this.1)]; exact hc, rfl⟩
  have hH : HRel ι H w' := by
    refine ⟨fun b bk hb hne => ?_, hS.hr.inj⟩
    obtain ⟨c, ty, hc, hsz, hv⟩ := hS.hr.blk b bk hb hne
    exact ⟨c, ty, by rw [hk _ (Array.getElem?_eq_some_iff.mp hc).1]; exact hc, hsz, fun j x hx => by obtain ⟨v, p1, p2⟩ := hv j x hx; exact ⟨v, p1, p2.evo hE⟩⟩
  exact ⟨_, _, H, ι, he, ⟨rfl, rfl⟩, ⟨hH, fun g cells hg => (hS.gr g cells hg).mono hev.size fun k hk' ho => ⟨hk k hk', ho⟩⟩, .p _ _ (.bool b), hE⟩
end
end Go.Proofs.YtjpphhcimpclpaaDoor.AM
end

section
set_option linter.unusedVariables false
set_option linter.unusedSimpArgs false
set_option maxRecDepth 4000
set_option maxHeartbeats 4000000
namespace Go.Proofs.YtjpphhcimpclpaaDoor.AM
open Go Go.Proofs
set_option linter.defProp false in
attribute [local irreducible] awp aops aqops aeops arun arunT
variable {G : Nat → Option (List PV)}

theorem line_run : rCall Tryd.prog gW ["net.go:137"] 60 30 10 [] [] = some (.b true, []) := by kernel_rfl

theorem line_calls (h : Heap) : ACalls Tryd.prog gW 10 [] h (fun r h' => r = .b true ∧ h' = h) :=
  ACalls.bool_lift (rCall_good (rl := ["net.go:137"]) mixed 60 30 _ _ _ _ _ line_run).2 h

/- left out: not in this program -/

theorem ruOf_ok {fl : List Fl} {i : Nat} {kind : Int} : ∀ r ∈ ruOf fl i kind, r.needs.length ≤ fl.length + 1 ∧ r.gives.length ≤ fl.length + 1 := by
  have a := insN_le fl i
  have b := outsN_le fl i
  intro r hr
  unfold ruOf at hr
  split at hr
  · cases hr
  split at hr
  · obtain ⟨f, _, rfl⟩ := List.mem_map.mp hr
    have c := outsN_le fl (dstAt fl f)
    exact ⟨by simp only; omega, by simp only; omega⟩
  split at hr
  · rw [List.mem_singleton.mp hr]; exact ⟨by simp only; omega, by simp only; omega⟩
  split at hr
  · split at hr
    · obtain ⟨f, _, rfl⟩ := List.mem_map.mp hr
      exact ⟨by simp only; omega, by simp only [List.length_singleton]; omega⟩
    · obtain ⟨f, _, rfl⟩ := List.mem_map.mp hr
      exact ⟨by simp only [List.length_singleton]; omega, by simp only [List.length_singleton]; omega⟩
  · rw [List.mem_singleton.mp hr]; exact ⟨by simp only; omega, by simp only; omega⟩
theorem ruTo_ok {ns : List Nd} {fl : List Fl} : ∀ {j : Nat}, ∀ r ∈ ruTo ns fl j, r.needs.length ≤ fl.length + 1 ∧ r.gives.length ≤ fl.length + 1
  | 0, r, hr => by cases hr
  | j + 1, r, hr => by
    rcases List.mem_append.mp hr with hr | hr
    · exact ruTo_ok r hr
    · exact ruOf_ok r hr

/- left out: not in this program -/

/- left out: not in this program -/

end Go.Proofs.YtjpphhcimpclpaaDoor.AM
end

section
set_option linter.unusedVariables false
set_option linter.unusedSimpArgs false
namespace Go.Proofs.YtjpphhcimpclpaaDoor.AM
open Go Go.Proofs

theorem Right.event {ns : List Nd} {fl : List Fl} (h : Right ns fl) {i : Nat} (hi : i < ns.length) (hk : kindAt ns i = 7) : (insN fl i).length = 1 ∧ 2 ≤ (outsN fl i).length := by
  have := h.three hi
  unfold threeB at this
  simp only [hk] at this
  simp only [Int.reduceEq, reduceIte, Bool.or_eq_true, Bool.and_eq_true, beq_iff_eq, decide_eq_true_eq] at this
  omega
theorem Right.start {ns : List Nd} {fl : List Fl} (h : Right ns fl) {i : Nat} (hi : i < ns.length) (hk : kindAt ns i = 1) : (insN fl i).length = 0 ∧ (outsN fl i).length = 1 := by
  have := h.three hi
  unfold threeB at this
  simp only [hk] at this
  simp only [Int.reduceEq, reduceIte, Bool.or_eq_true, Bool.and_eq_true, beq_iff_eq, decide_eq_true_eq] at this
  omega
theorem Right.count {ns : List Nd} {fl : List Fl} (h : Right ns fl) {i : Nat} (hi : i < ns.length) :
    (kindAt ns i = 1 → (ruOf fl i (kindAt ns i)).length = 0) ∧ (kindAt ns i = 5 ∨ kindAt ns i = 7 → (ruOf fl i (kindAt ns i)).length = (insN fl i).length * (outsN fl i).length) ∧
    (kindAt ns i ≠ 1 → kindAt ns i ≠ 5 → kindAt ns i ≠ 7 → (ruOf fl i (kindAt ns i)).length = 1) := by
  refine ⟨fun hk => ?_, fun hk => ?_, fun k1 k5 k7 => ?_⟩
  · unfold ruOf; rw [if_pos hk]; rfl
  · rcases hk with hk | hk
    · unfold ruOf
      rw [if_neg (by omega), if_neg (by omega), if_neg (by omega), if_pos hk]
      rcases h.xor hi hk with ⟨a, b⟩ | ⟨a, b⟩
      · rw [if_pos (by omega), List.length_map, a, Nat.one_mul]
      · rw [if_neg (by omega), List.length_map, b, Nat.mul_one]
    · unfold ruOf
      rw [if_neg (by omega), if_pos hk, List.length_map, (h.event hi hk).1, Nat.one_mul]
  · unfold ruOf
    rw [if_neg k1, if_neg k7]
    split <;> rfl

end Go.Proofs.YtjpphhcimpclpaaDoor.AM
end

section
set_option linter.unusedVariables false
set_option linter.unusedSimpArgs false
set_option maxRecDepth 4000
set_option maxHeartbeats 4000000
namespace Go.Proofs.YtjpphhcimpclpaaDoor.AM
open Go Go.Proofs
set_option linter.defProp false in
def TTToE := And.intro T2 (And.intro T3 (And.intro T4 (And.intro T22 (And.intro T23 (And.intro T25 (And.intro T26 (And.intro T27 (And.intro T37 (And.intro T39 (And.intro T40 (And.intro T46 (And.intro T48 (And.intro T60 (And.intro T71 (And.intro T83 T85)))))))))))))))
attribute [local irreducible] awp aops aqops aeops arun arunT
variable {G : Nat → Option (List PV)}

/-- A state within all its bounds that the game looks at. -/
structure StOk (S : List Int) : Prop where
  held : Held S
  queue : ∀ i x, 44 ≤ i → i < 48 → S[i]? = some x → 0 ≤ x ∧ x ≤ 3

def qAt (S : List Int) (a : Int) : Int := S.getD (44 + a.toNat) 0
def ndA (ns : List Nd) (c : Int) : Int := match ns[c.toNat]? with | some k => k.a | none => 0

def catchG (ns : List Nd) (fl : List Fl) (S : List Int) (node arg c : Int) (fr : List Int) : List Sp :=
  if ndA ns c < 4 then (if qAt S (ndA ns c) = 0 then [] else moveG S ⟨node, arg, 3, c, 0, S.set (44 + (ndA ns c).toNat) (qAt S (ndA ns c) - 1)⟩ fr (outsN fl c))
  else moveG S ⟨node, arg, 4, c, 0, S⟩ fr (outsN fl c)

theorem takeA_sl0 {ns : List Nd} {fl : List Fl} {S : List Int} {lb n e bt : Nat} {z : Option (List PV)} : takeA ⟨.slice e, 1, bt, z⟩ (gmC ns fl S lb n) = some (.p (.sl (ns.map eN))) := rfl
theorem StOk.q {S : List Int} (h : StOk S) {k : Nat} (hk : k < 4) : S[44 + k]? = some (qAt S k) ∧ 0 ≤ qAt S k ∧ qAt S k ≤ 3 := by
  have hl := h.held.1
  have e : S[44 + k]? = some (qAt S k) := by
    unfold qAt
    rw [Int.toNat_natCast, List.getD_eq_getElem?_getD, List.getElem?_eq_getElem (by omega)]; rfl
  exact ⟨e, h.queue _ _ (by omega) (by omega) e⟩
theorem InF_outs {fl : List Fl} (hf : fl.length ≤ 40) (i : Int) : InF (outsN fl i) := by
  refine ⟨Nat.le_trans (outsN_le fl i) (by omega), fun f hm => ?_⟩
  obtain ⟨j, _, h1, rfl, _⟩ := pickF_mem hm
  omega
theorem InF_ins {fl : List Fl} (hf : fl.length ≤ 40) (i : Int) : InF (insN fl i) := by
  refine ⟨Nat.le_trans (insN_le fl i) (by omega), fun f hm => ?_⟩
  obtain ⟨j, _, h1, rfl, _⟩ := pickF_mem hm
  omega

theorem cons5_drop {S : List Int} {a : Nat} {q : Int} (hq : S[44 + a]? = some q) (x1 x2 x3 x4 x5 : AV) : (x1 :: x2 :: x3 :: x4 :: x5 :: S.map AV.i).drop (49 + a) = .p (.int .i64 q) :: (S.drop (44 + a + 1)).map AV.i := by
  rw [show 49 + a = (44 + a) + 1 + 1 + 1 + 1 + 1 by omega, List.drop_succ_cons, List.drop_succ_cons, List.drop_succ_cons, List.drop_succ_cons, List.drop_succ_cons, dropI hq]
theorem cons5_set (S : List Int) (a : Nat) (v : Int) (x1 x2 x3 x4 x5 : AV) : (x1 :: x2 :: x3 :: x4 :: x5 :: S.map AV.i).set (49 + a) (.p (.int .i64 v)) = x1 :: x2 :: x3 :: x4 :: x5 :: (S.set (44 + a) v).map AV.i := by
  rw [show 49 + a = (44 + a) + 1 + 1 + 1 + 1 + 1 by omega, List.set_cons_succ, List.set_cons_succ, List.set_cons_succ, List.set_cons_succ, List.set_cons_succ, setI_c]
theorem gmC_q {ns : List Nd} {fl : List Fl} {S : List Int} {lb n a : Nat} {q : Int} (hq : S[44 + a]? = some q) : (gmC ns fl S lb n).drop (46 + a) = .p (.int .i64 q) :: ((S.drop (44 + a + 1)).map AV.i ++ [.ref lb n 0 54 n]) := by
  rw [show 46 + a = 2 + (44 + a) by omega, gmC_at hq]

theorem catch_calls {h : Heap} {b lb : Nat} {ns : List Nd} {fl : List Fl} {S : List Int} {l : List Sp} (ok : GmOk h b lb S l) (st : StOk S) (hf : fl.length ≤ 40) (node arg : Int) (Z : List Int) (hZ : Z.length = 49) (lk ln la : Int) (c : Nat) {k : Nd} (hc : ns[c]? = some k) (ha : 0 ≤ k.a ∧ k.a ≤ 4) (fr : List Int) (hfr : InF fr) :
    ACalls Tryd.prog G 48 [.ptr b 0 0, .agg (.p (.int .i64 node) :: .p (.int .i64 arg) :: .p (.int .i64 lk) :: .p (.int .i64 ln) :: .p (.int .i64 la) :: Z.map AV.i), .i c, aI fr] (putG h b lb ns fl S l) (fun r h' => r = .undef ∧ h' = putG h b lb ns fl S (l ++ catchG ns fl S node arg c fr)) := by
  have hb := ok.hb
  have hl := ok.hl
  have hne := ok.ne
  have hS := ok.held.1
  have gl := gmC_len (ns := ns) (fl := fl) (lb := lb) (n := l.length) hS
  have t49 := gmC_state (ns := ns) (fl := fl) (lb := lb) (n := l.length) hS
  have c0 : (0 : Int) ≤ (c : Int) := by omega
  have hc' := rowN hc
  have htl := over_tail hS
  have en : ndA ns c = k.a := by unfold ndA; rw [Int.toNat_natCast, hc]
  have tk54 : ∀ a b c d e : AV, (a :: b :: c :: d :: e :: S.map AV.i).take 54 = a :: b :: c :: d :: e :: S.map AV.i := fun a b c d e => List.take_of_length_le (by simp [hS])
  by_cases h4 : k.a = 4
  · have eg : catchG ns fl S node arg c fr = moveG S ⟨node, arg, 4, c, 0, S⟩ fr (outsN fl c) := by unfold catchG; rw [en, if_neg (by omega)]
    rw [eg]
    refine acalls_heap (rl := []) mixed Tryd.func48 rfl (rs := []) rfl Tryd.ntmps48 (by simp) ?_
    repeat' (first | ((first | refine aops_nil ?_ | refine aqops_nil ?_ | refine arun_nil ?_ | refine arunT_nil ?_); (try simp only [NB])) | ((repeat ((fail_if_success (refine hK _ ?_)); clear hK K)); refine hK _ ?_; clear hK K) | ((first | refine aops_k fun K1 hK1 => ?_ | refine aqops_k fun K1 hK1 => ?_ | refine arun_eff rfl rfl rfl fun K1 hK1 => ?_ | refine awp_cond_k fun A B hA hB => ?_); simp only [S1, simprocAttr, TTToE, t49, c0, hc', htl, hZ, hS, takeA_sl0, gmC_net, tk54, h4, eN, takeA_arr, takeA_st, List.length_map, List.length_take, List.length_drop, pg_len, pg_get0, pg_geti, pg_set0, pg_seti, pg_b hb hne, pg_lb hl, pg_b0 hb hne, pg_lb0 hl, gmB, spB, gl, all_scalar, Nat.mul_one, Nat.zero_add, Nat.add_zero, Int.toNat_natCast, List.length_cons, List.length_nil]; first | (refine hK1 _ ?_; clear hK1 K1) | ((first | refine hA ?_ | refine hB ?_); clear hA hB A B) | ((first | apply call_a E44 | apply call_q E44); exact (rOuts_calls _ fl (by omega) _ _); (refine hK1 _ ?_; clear hK1 K1)) | ((first | apply call_a E30 | apply call_q E30); exact (add_at ok ⟨node, arg, 4, c, 0, S⟩ hS fr (outsN fl c) hfr (InF_outs hf c) _); (refine hK1 _ ?_; clear hK1 K1)) | (((first | (refine ⟨fun hg => hA ?_, fun hg => hB ?_⟩ <;> clear hA hB A B) | refine ⟨fun hg => ?_, fun hg => ?_⟩) <;> (try simp only [BN2] at hg) <;> (try simp only [hg, cond_true, cond_false])) <;> (try (refine hK1 _ ?_; clear hK1 K1)) <;> (try simp only [BN3] at hg))) | ((first | refine arun_q (v := ?_) rfl rfl rfl rfl (by decide) (fun R1 K1 hK1 => ?_) ?_ | refine arun_f (v := ?_) rfl rfl rfl (by decide) (fun K1 hK1 => ?_) ?_ | refine arunT_f (v := ?_) rfl rfl rfl (by decide) (fun K1 hK1 => ?_) ?_); rotate_left; (focus (simp only [S1, simprocAttr, TTToE, t49, c0, hc', htl, hZ, hS, takeA_sl0, gmC_net, tk54, h4, eN, takeA_arr, takeA_st, List.length_map, List.length_take, List.length_drop, pg_len, pg_get0, pg_geti, pg_set0, pg_seti, pg_b hb hne, pg_lb hl, pg_b0 hb hne, pg_lb0 hl, gmB, spB, gl, all_scalar, Nat.mul_one, Nat.zero_add, Nat.add_zero, Int.toNat_natCast, List.length_cons, List.length_nil]; first | (exact hK1 _ _ _) | ((first | apply call_a E44 | apply call_q E44); exact (rOuts_calls _ fl (by omega) _ _); exact hK1 _ _ _) | ((first | apply call_a E30 | apply call_q E30); exact (add_at ok ⟨node, arg, 4, c, 0, S⟩ hS fr (outsN fl c) hfr (InF_outs hf c) _); exact hK1 _ _ _)))) | (refine arun_tail rfl rfl rfl ?_) | ((first | refine arun_allocj (z := ?_) 0 rfl rfl rfl rfl (by decide) rfl ?_ ?_ | refine arun_allocj (z := ?_) 1 rfl rfl rfl rfl (by decide) rfl ?_ ?_ | refine arun_allocj (z := ?_) 2 rfl rfl rfl rfl (by decide) rfl ?_ ?_); rotate_left; (focus (simp only [S1, simprocAttr, TTToE, t49, c0, hc', htl, hZ, hS, takeA_sl0, gmC_net, tk54, h4, eN, takeA_arr, takeA_st, List.length_map, List.length_take, List.length_drop, pg_len, pg_get0, pg_geti, pg_set0, pg_seti, pg_b hb hne, pg_lb hl, pg_b0 hb hne, pg_lb0 hl, gmB, spB, gl, all_scalar, Nat.mul_one, Nat.zero_add, Nat.add_zero, Int.toNat_natCast, List.length_cons, List.length_nil, zeroB]; rfl))) | (refine awp_seq_k fun K hK => ?_) | (refine awp_drawR [0, 1, 2, 3, 4, 5, 6, 7, 8, 9] 0 rfl (by kernel_rfl) (by kernel_rfl) ?_) | ((first | refine awp_region ?_ | refine awp_draw (by kernel_rfl) ?_ | refine awp_block ?_ | refine awp_exit ?_ | refine awp_skip ?_ | refine awp_ret ?_); (try simp only [NB, simprocAttr])))
    all_goals simp only [EndH, FinH, resA, resL, resA1, lastV, lastA, lastAs, pur, purs, pg_len, pg_take, pg_take0, List.length_append, List.length_cons, List.length_nil, S1, simprocAttr, Nat.le_add_right, Nat.le_refl] <;> first | exact pg_keep' hl | exact ⟨pg_keep' hl, rfl⟩ | exact ⟨pg_keep' hl, rfl, rfl⟩
  · obtain ⟨a, hka⟩ := Int.eq_ofNat_of_zero_le ha.1
    have a4 : a < 4 := by omega
    have a0 : (0 : Int) ≤ (a : Int) := by omega
    have a4' : (a : Int) < 4 := by omega
    have a4d : decide ((a : Int) < 4) = true := decide_eq_true a4'
    obtain ⟨hq, q0, q3⟩ := st.q a4
    have gq := gmC_q (ns := ns) (fl := fl) (lb := lb) (n := l.length) hq
    have cd := cons5_drop hq
    have cs := cons5_set S a
    have e2 : qAt S k.a = qAt S a := by rw [hka]
    generalize hqv : qAt S (a : Int) = q at *
    by_cases hz : q = 0
    · have eg : catchG ns fl S node arg c fr = [] := by unfold catchG; rw [en, if_pos (by omega), e2, if_pos hz]
      have hz' : (q == 0) = true := by simp [hz]
      rw [eg, List.append_nil]
      refine acalls_heap (rl := []) mixed Tryd.func48 rfl (rs := []) rfl Tryd.ntmps48 (by simp) ?_
      repeat' (first | ((first | refine aops_nil ?_ | refine aqops_nil ?_); (try simp only [NB])) | ((repeat ((fail_if_success (refine hK _ ?_)); clear hK K)); refine hK _ ?_; clear hK K) | ((first | refine aops_k fun K1 hK1 => ?_ | refine aqops_k fun K1 hK1 => ?_ | refine awp_cond_k fun A B hA hB => ?_); simp only [S1, simprocAttr, TTToE, t49, c0, hc', htl, hZ, hS, takeA_sl0, gmC_net, tk54, hka, a0, a4', a4d, gq, hz', eN, takeA_arr, takeA_st, List.length_map, List.length_take, List.length_drop, pg_len, pg_get0, pg_geti, pg_set0, pg_seti, pg_b hb hne, pg_lb hl, pg_b0 hb hne, pg_lb0 hl, gmB, spB, gl, all_scalar, Nat.mul_one, Nat.zero_add, Nat.add_zero, Int.toNat_natCast, List.length_cons, List.length_nil]; first | (refine hK1 _ ?_; clear hK1 K1) | ((first | refine hA ?_ | refine hB ?_); clear hA hB A B) | (((first | (refine ⟨fun hg => hA ?_, fun hg => hB ?_⟩ <;> clear hA hB A B) | refine ⟨fun hg => ?_, fun hg => ?_⟩) <;> (try simp only [BN2] at hg) <;> (try simp only [hg, cond_true, cond_false])) <;> (try (refine hK1 _ ?_; clear hK1 K1)) <;> (try simp only [BN3] at hg))) | (refine awp_seq_k fun K hK => ?_) | ((first | refine awp_region ?_ | refine awp_draw (by kernel_rfl) ?_ | refine awp_block ?_ | refine awp_exit ?_ | refine awp_skip ?_ | refine awp_ret ?_); (try simp only [NB, simprocAttr])))
      all_goals simp only [EndH, FinH, resA, resL, resA1, lastV, lastA, lastAs, pur, purs, pg_len, pg_take, pg_take0, List.length_append, List.length_cons, List.length_nil, S1, simprocAttr, Nat.le_add_right, Nat.le_refl] <;> first | exact pg_keep' hl | exact ⟨pg_keep' hl, rfl⟩ | exact ⟨pg_keep' hl, rfl, rfl⟩
    · have eg : catchG ns fl S node arg c fr = moveG S ⟨node, arg, 3, c, 0, S.set (44 + a) (q - 1)⟩ fr (outsN fl c) := by
        unfold catchG; rw [en, if_pos (by omega), e2, if_neg hz, hka, Int.toNat_natCast]
      have hz' : (q == 0) = false := by simp [hz]
      have hw : IntKind.i64.wrap (q - 1) = q - 1 := IntWalk.i64_in _ (by omega)
      have hS2 : (S.set (44 + a) (q - 1)).length = 49 := by rw [List.length_set, hS]
      have tk2 : ∀ a1 b1 c1 d1 e1 : AV, (a1 :: b1 :: c1 :: d1 :: e1 :: (S.set (44 + a) (q - 1)).map AV.i).take 54 = a1 :: b1 :: c1 :: d1 :: e1 :: (S.set (44 + a) (q - 1)).map AV.i := fun _ _ _ _ _ => List.take_of_length_le (by simp [hS])
      have h54 : 49 + a + 1 ≤ 54 := by omega
      rw [eg]
      refine acalls_heap (rl := []) mixed Tryd.func48 rfl (rs := []) rfl Tryd.ntmps48 (by simp) ?_
      repeat' (first | ((first | refine aops_nil ?_ | refine aqops_nil ?_ | refine arun_nil ?_ | refine arunT_nil ?_); (try simp only [NB])) | ((repeat ((fail_if_success (refine hK _ ?_)); clear hK K)); refine hK _ ?_; clear hK K) | ((first | refine aops_k fun K1 hK1 => ?_ | refine aqops_k fun K1 hK1 => ?_ | refine arun_eff rfl rfl rfl fun K1 hK1 => ?_ | refine awp_cond_k fun A B hA hB => ?_); simp only [S1, simprocAttr, TTToE, t49, c0, hc', htl, hZ, hS, hS2, takeA_sl0, gmC_net, tk54, tk2, hka, a0, a4', a4d, gq, cd, cs, hz', hw, h54, eN, takeA_arr, takeA_st, List.length_map, List.length_take, List.length_drop, pg_len, pg_get0, pg_geti, pg_set0, pg_seti, pg_b hb hne, pg_lb hl, pg_b0 hb hne, pg_lb0 hl, gmB, spB, gl, all_scalar, Nat.mul_one, Nat.zero_add, Nat.add_zero, Int.toNat_natCast, List.length_cons, List.length_nil]; first | (refine hK1 _ ?_; clear hK1 K1) | ((first | refine hA ?_ | refine hB ?_); clear hA hB A B) | ((first | apply call_a E44 | apply call_q E44); exact (rOuts_calls _ fl (by omega) _ _); (refine hK1 _ ?_; clear hK1 K1)) | ((first | apply call_a E30 | apply call_q E30); exact (add_at ok ⟨node, arg, 3, c, 0, S.set (44 + a) (q - 1)⟩ hS2 fr (outsN fl c) hfr (InF_outs hf c) _); (refine hK1 _ ?_; clear hK1 K1)) | (((first | (refine ⟨fun hg => hA ?_, fun hg => hB ?_⟩ <;> clear hA hB A B) | refine ⟨fun hg => ?_, fun hg => ?_⟩) <;> (try simp only [BN2] at hg) <;> (try simp only [hg, cond_true, cond_false])) <;> (try (refine hK1 _ ?_; clear hK1 K1)) <;> (try simp only [BN3] at hg))) | ((first | refine arun_q (v := ?_) rfl rfl rfl rfl (by decide) (fun R1 K1 hK1 => ?_) ?_ | refine arun_f (v := ?_) rfl rfl rfl (by decide) (fun K1 hK1 => ?_) ?_ | refine arunT_f (v := ?_) rfl rfl rfl (by decide) (fun K1 hK1 => ?_) ?_); rotate_left; (focus (simp only [S1, simprocAttr, TTToE, t49, c0, hc', htl, hZ, hS, hS2, takeA_sl0, gmC_net, tk54, tk2, hka, a0, a4', a4d, gq, cd, cs, hz', hw, h54, eN, takeA_arr, takeA_st, List.length_map, List.length_take, List.length_drop, pg_len, pg_get0, pg_geti, pg_set0, pg_seti, pg_b hb hne, pg_lb hl, pg_b0 hb hne, pg_lb0 hl, gmB, spB, gl, all_scalar, Nat.mul_one, Nat.zero_add, Nat.add_zero, Int.toNat_natCast, List.length_cons, List.length_nil]; first | (exact hK1 _ _ _) | ((first | apply call_a E44 | apply call_q E44); exact (rOuts_calls _ fl (by omega) _ _); exact hK1 _ _ _) | ((first | apply call_a E30 | apply call_q E30); exact (add_at ok ⟨node, arg, 3, c, 0, S.set (44 + a) (q - 1)⟩ hS2 fr (outsN fl c) hfr (InF_outs hf c) _); exact hK1 _ _ _)))) | (refine arun_tail rfl rfl rfl ?_) | ((first | refine arun_allocj (z := ?_) 0 rfl rfl rfl rfl (by decide) rfl ?_ ?_ | refine arun_allocj (z := ?_) 1 rfl rfl rfl rfl (by decide) rfl ?_ ?_ | refine arun_allocj (z := ?_) 2 rfl rfl rfl rfl (by decide) rfl ?_ ?_); rotate_left; (focus (simp only [S1, simprocAttr, TTToE, t49, c0, hc', htl, hZ, hS, hS2, takeA_sl0, gmC_net, tk54, tk2, hka, a0, a4', a4d, gq, cd, cs, hz', hw, h54, eN, takeA_arr, takeA_st, List.length_map, List.length_take, List.length_drop, pg_len, pg_get0, pg_geti, pg_set0, pg_seti, pg_b hb hne, pg_lb hl, pg_b0 hb hne, pg_lb0 hl, gmB, spB, gl, all_scalar, Nat.mul_one, Nat.zero_add, Nat.add_zero, Int.toNat_natCast, List.length_cons, List.length_nil, zeroB]; rfl))) | (refine awp_seq_k fun K hK => ?_) | (refine awp_drawR [0, 1, 2, 3, 4, 5, 6, 7, 8, 9] 0 rfl (by kernel_rfl) (by kernel_rfl) ?_) | ((first | refine awp_region ?_ | refine awp_draw (by kernel_rfl) ?_ | refine awp_block ?_ | refine awp_exit ?_ | refine awp_skip ?_ | refine awp_ret ?_); (try simp only [NB, simprocAttr])))
      all_goals simp only [EndH, FinH, resA, resL, resA1, lastV, lastA, lastAs, pur, purs, pg_len, pg_take, pg_take0, List.length_append, List.length_cons, List.length_nil, S1, simprocAttr, Nat.le_add_right, Nat.le_refl] <;> first | exact pg_keep' hl | exact ⟨pg_keep' hl, rfl⟩ | exact ⟨pg_keep' hl, rfl, rfl⟩

end Go.Proofs.YtjpphhcimpclpaaDoor.AM
end

section
set_option linter.unusedVariables false
set_option linter.unusedSimpArgs false
set_option maxRecDepth 4000
set_option maxHeartbeats 4000000
namespace Go.Proofs.YtjpphhcimpclpaaDoor.AM
open Go Go.Proofs
set_option linter.defProp false in
attribute [local irreducible] awp aops aqops
variable {G : Nat → Option (List PV)}

def Num (n : Int) : Prop := -1099511627776 ≤ n ∧ n ≤ 1099511627776

theorem size_calls' {n : Int} (hn : -9223372036854775807 ≤ n ∧ n ≤ 9223372036854775807) (h : Heap) : ACalls Tryd.prog G 107 [.i n] h (fun r h' => r = .i (n.natAbs : Int) ∧ h' = h) := by
  have hw := IntWalk.i64_in (0 - n) (by omega)
  refine ACalls.mono (size_calls n h) ?_
  rintro r h' ⟨rfl, rfl⟩
  refine ⟨?_, rfl⟩
  rw [hw]
  refine congrArg AV.i ?_
  split <;> omega

def prodS (a b : Int) : Int × Int := if b ≠ 0 ∧ 1099511627776 / b.natAbs < a.natAbs then (0, 40) else (a * b, 0)

theorem prod_num {a b : Int} (hb : b ≠ 0) (h : ¬ (1099511627776 / b.natAbs < a.natAbs)) : Num (a * b) := by
  have h1 : a.natAbs ≤ 1099511627776 / b.natAbs := Nat.le_of_not_lt h
  have h2 : a.natAbs * b.natAbs ≤ 1099511627776 := by
    have := Nat.mul_le_mul_right b.natAbs h1
    exact Nat.le_trans this (Nat.div_mul_le_self _ _)
  have h3 : (a * b).natAbs ≤ 1099511627776 := by rw [Int.natAbs_mul]; exact h2
  unfold Num; omega

theorem quo_abs {b : Int} (hb : b ≠ 0) : IntKind.i64.wrap ((1099511627776 : Int).tdiv (b.natAbs : Int)) = ((1099511627776 / b.natAbs : Nat) : Int) := by
  have e : (1099511627776 : Int).tdiv (b.natAbs : Int) = ((1099511627776 / b.natAbs : Nat) : Int) := by
    rw [show (1099511627776 : Int) = ((1099511627776 : Nat) : Int) from rfl, ← Int.ofNat_tdiv]
  have h1 : 1099511627776 / b.natAbs ≤ 1099511627776 := Nat.div_le_self _ _
  rw [e]
  generalize 1099511627776 / b.natAbs = q at *
  rw [IntWalk.i64_in _ (by omega)]

def sumS (op a b : Int) : Int × Bool × Int :=
  if op = 10 then (0, a == b, 0) else if op = 11 then (0, decide (a < b), 0) else if op = 12 then (0, a == b || decide (a < b), 0)
  else if op = 8 then (if b = 0 then (0, false, 41) else (a.tdiv b, false, 0))
  else if op = 9 then (if b = 0 then (0, false, 41) else (a.tmod b, false, 0))
  else if op = 7 then ((prodS a b).1, false, (prodS a b).2)
  else if op = 6 then (if 1099511627776 < (a - b).natAbs then (0, false, 40) else (a - b, false, 0))
  else (if 1099511627776 < (a + b).natAbs then (0, false, 40) else (a + b, false, 0))

theorem tdiv_num {a b : Int} (ha : Num a) : Num (a.tdiv b) := by
  have : (a.tdiv b).natAbs ≤ a.natAbs := Int.natAbs_tdiv_le_natAbs a b
  unfold Num at *; omega
theorem tmod_num {a b : Int} (ha : Num a) : Num (a.tmod b) := by
  have : (a.tmod b).natAbs ≤ a.natAbs := by rw [Int.natAbs_tmod]; exact Nat.mod_le _ _
  unfold Num at *; omega
end Go.Proofs.YtjpphhcimpclpaaDoor.AM
end

section
set_option linter.unusedVariables false
set_option linter.unusedSimpArgs false
set_option maxRecDepth 4000
set_option maxHeartbeats 4000000
namespace Go.Proofs.YtjpphhcimpclpaaDoor.AM
open Go Go.Proofs
set_option linter.defProp false in
def TTEvJ := And.intro T2 (And.intro T3 (And.intro T4 (And.intro T27 (And.intro T31 (And.intro T58 (And.intro T141 T142))))))
attribute [local irreducible] awp aops aqops
variable {G : Nat → Option (List PV)}

abbrev aV3 (x : Int × Bool × Int) : AV := .agg [.i x.1, .b x.2.1, .i x.2.2]

theorem sum_c10 {a b : Int} (h : Heap) : ACalls Tryd.prog G 99 [.i 10, .i a, .i b] h (fun r h' => r = aV3 (sumS 10 a b) ∧ h' = h) := by
  skip
  refine acalls_pure (rl := []) mixed Tryd.func99 rfl (rs := [.cell 6 142]) rfl Tryd.ntmps99 (by simp) ?_
  repeat' (first | ((first | refine aops_nil ?_ | refine aqops_nil ?_); (try simp only [NB])) | ((repeat ((fail_if_success (refine hK _ ?_)); clear hK K)); refine hK _ ?_; clear hK K) | ((first | refine aops_k fun K1 hK1 => ?_ | refine aqops_k fun K1 hK1 => ?_ | refine awp_cond_k fun A B hA hB => ?_); simp only [S1, simprocAttr, TTEvJ]; first | (refine hK1 _ ?_; clear hK1 K1) | ((first | refine hA ?_ | refine hB ?_); clear hA hB A B) | (refine join_x (v := ?_) (fun hg hk9 => ?_) ?_; rotate_left; (focus (try ((try simp only [BN] at hg); simp only [S1, simprocAttr, TTEvJ, hg] at hk9 ⊢)); first | exact hk9); (refine hK1 _ ?_; clear hK1 K1)) | (((first | (refine ⟨fun hg => hA ?_, fun hg => hB ?_⟩ <;> clear hA hB A B) | refine ⟨fun hg => ?_, fun hg => ?_⟩) <;> (try simp only [BN2] at hg) <;> (try simp only [hg, cond_true, cond_false])) <;> (try (refine hK1 _ ?_; clear hK1 K1)) <;> (try simp only [BN3] at hg))) | (refine awp_seq_k fun K hK => ?_) | ((first | refine awp_region ?_ | refine awp_draw (by kernel_rfl) ?_ | refine awp_block ?_ | refine awp_exit ?_ | refine awp_skip ?_ | refine awp_ret ?_); (try simp only [NB, simprocAttr])))
  all_goals simp only [EndP, FinP, resA, resL, resA1, lastV, lastA, lastAs, pur, purs, take_app, List.take_length, S1, simprocAttr, TTEvJ, Nat.le_add_right, Nat.le_refl]
  all_goals simp [sumS]
theorem sum_c11 {a b : Int} (h : Heap) : ACalls Tryd.prog G 99 [.i 11, .i a, .i b] h (fun r h' => r = aV3 (sumS 11 a b) ∧ h' = h) := by
  skip
  refine acalls_pure (rl := []) mixed Tryd.func99 rfl (rs := [.cell 6 142]) rfl Tryd.ntmps99 (by simp) ?_
  repeat' (first | ((first | refine aops_nil ?_ | refine aqops_nil ?_); (try simp only [NB])) | ((repeat ((fail_if_success (refine hK _ ?_)); clear hK K)); refine hK _ ?_; clear hK K) | ((first | refine aops_k fun K1 hK1 => ?_ | refine aqops_k fun K1 hK1 => ?_ | refine awp_cond_k fun A B hA hB => ?_); simp only [S1, simprocAttr, TTEvJ]; first | (refine hK1 _ ?_; clear hK1 K1) | ((first | refine hA ?_ | refine hB ?_); clear hA hB A B) | (refine join_x (v := ?_) (fun hg hk9 => ?_) ?_; rotate_left; (focus (try ((try simp only [BN] at hg); simp only [S1, simprocAttr, TTEvJ, hg] at hk9 ⊢)); first | exact hk9); (refine hK1 _ ?_; clear hK1 K1)) | (((first | (refine ⟨fun hg => hA ?_, fun hg => hB ?_⟩ <;> clear hA hB A B) | refine ⟨fun hg => ?_, fun hg => ?_⟩) <;> (try simp only [BN2] at hg) <;> (try simp only [hg, cond_true, cond_false])) <;> (try (refine hK1 _ ?_; clear hK1 K1)) <;> (try simp only [BN3] at hg))) | (refine awp_seq_k fun K hK => ?_) | ((first | refine awp_region ?_ | refine awp_draw (by kernel_rfl) ?_ | refine awp_block ?_ | refine awp_exit ?_ | refine awp_skip ?_ | refine awp_ret ?_); (try simp only [NB, simprocAttr])))
  all_goals simp only [EndP, FinP, resA, resL, resA1, lastV, lastA, lastAs, pur, purs, take_app, List.take_length, S1, simprocAttr, TTEvJ, Nat.le_add_right, Nat.le_refl]
  all_goals simp [sumS]
theorem sum_c12 {a b : Int} (h : Heap) : ACalls Tryd.prog G 99 [.i 12, .i a, .i b] h (fun r h' => r = aV3 (sumS 12 a b) ∧ h' = h) := by
  skip
  refine acalls_pure (rl := []) mixed Tryd.func99 rfl (rs := [.cell 6 142]) rfl Tryd.ntmps99 (by simp) ?_
  repeat' (first | ((first | refine aops_nil ?_ | refine aqops_nil ?_); (try simp only [NB])) | ((repeat ((fail_if_success (refine hK _ ?_)); clear hK K)); refine hK _ ?_; clear hK K) | ((first | refine aops_k fun K1 hK1 => ?_ | refine aqops_k fun K1 hK1 => ?_ | refine awp_cond_k fun A B hA hB => ?_); simp only [S1, simprocAttr, TTEvJ]; first | (refine hK1 _ ?_; clear hK1 K1) | ((first | refine hA ?_ | refine hB ?_); clear hA hB A B) | (refine join_x (v := ?_) (fun hg hk9 => ?_) ?_; rotate_left; (focus (try ((try simp only [BN] at hg); simp only [S1, simprocAttr, TTEvJ, hg] at hk9 ⊢)); first | exact hk9); (refine hK1 _ ?_; clear hK1 K1)) | (((first | (refine ⟨fun hg => hA ?_, fun hg => hB ?_⟩ <;> clear hA hB A B) | refine ⟨fun hg => ?_, fun hg => ?_⟩) <;> (try simp only [BN2] at hg) <;> (try simp only [hg, cond_true, cond_false])) <;> (try (refine hK1 _ ?_; clear hK1 K1)) <;> (try simp only [BN3] at hg))) | (refine awp_seq_k fun K hK => ?_) | ((first | refine awp_region ?_ | refine awp_draw (by kernel_rfl) ?_ | refine awp_block ?_ | refine awp_exit ?_ | refine awp_skip ?_ | refine awp_ret ?_); (try simp only [NB, simprocAttr])))
  all_goals simp only [EndP, FinP, resA, resL, resA1, lastV, lastA, lastAs, pur, purs, take_app, List.take_length, S1, simprocAttr, TTEvJ, Nat.le_add_right, Nat.le_refl]
  all_goals simp [sumS]
theorem sum_z8 {a : Int} (h : Heap) : ACalls Tryd.prog G 99 [.i 8, .i a, .i 0] h (fun r h' => r = aV3 (sumS 8 a 0) ∧ h' = h) := by
  skip
  refine acalls_pure (rl := []) mixed Tryd.func99 rfl (rs := [.cell 6 142]) rfl Tryd.ntmps99 (by simp) ?_
  repeat' (first | ((first | refine aops_nil ?_ | refine aqops_nil ?_); (try simp only [NB])) | ((repeat ((fail_if_success (refine hK _ ?_)); clear hK K)); refine hK _ ?_; clear hK K) | ((first | refine aops_k fun K1 hK1 => ?_ | refine aqops_k fun K1 hK1 => ?_ | refine awp_cond_k fun A B hA hB => ?_); simp only [S1, simprocAttr, TTEvJ]; first | (refine hK1 _ ?_; clear hK1 K1) | ((first | refine hA ?_ | refine hB ?_); clear hA hB A B) | (refine join_x (v := ?_) (fun hg hk9 => ?_) ?_; rotate_left; (focus (try ((try simp only [BN] at hg); simp only [S1, simprocAttr, TTEvJ, hg] at hk9 ⊢)); first | exact hk9); (refine hK1 _ ?_; clear hK1 K1)) | (((first | (refine ⟨fun hg => hA ?_, fun hg => hB ?_⟩ <;> clear hA hB A B) | refine ⟨fun hg => ?_, fun hg => ?_⟩) <;> (try simp only [BN2] at hg) <;> (try simp only [hg, cond_true, cond_false])) <;> (try (refine hK1 _ ?_; clear hK1 K1)) <;> (try simp only [BN3] at hg))) | (refine awp_seq_k fun K hK => ?_) | ((first | refine awp_region ?_ | refine awp_draw (by kernel_rfl) ?_ | refine awp_block ?_ | refine awp_exit ?_ | refine awp_skip ?_ | refine awp_ret ?_); (try simp only [NB, simprocAttr])))
  all_goals simp only [EndP, FinP, resA, resL, resA1, lastV, lastA, lastAs, pur, purs, take_app, List.take_length, S1, simprocAttr, TTEvJ, Nat.le_add_right, Nat.le_refl]
  all_goals simp [sumS]
theorem sum_z9 {a : Int} (h : Heap) : ACalls Tryd.prog G 99 [.i 9, .i a, .i 0] h (fun r h' => r = aV3 (sumS 9 a 0) ∧ h' = h) := by
  skip
  refine acalls_pure (rl := []) mixed Tryd.func99 rfl (rs := [.cell 6 142]) rfl Tryd.ntmps99 (by simp) ?_
  repeat' (first | ((first | refine aops_nil ?_ | refine aqops_nil ?_); (try simp only [NB])) | ((repeat ((fail_if_success (refine hK _ ?_)); clear hK K)); refine hK _ ?_; clear hK K) | ((first | refine aops_k fun K1 hK1 => ?_ | refine aqops_k fun K1 hK1 => ?_ | refine awp_cond_k fun A B hA hB => ?_); simp only [S1, simprocAttr, TTEvJ]; first | (refine hK1 _ ?_; clear hK1 K1) | ((first | refine hA ?_ | refine hB ?_); clear hA hB A B) | (refine join_x (v := ?_) (fun hg hk9 => ?_) ?_; rotate_left; (focus (try ((try simp only [BN] at hg); simp only [S1, simprocAttr, TTEvJ, hg] at hk9 ⊢)); first | exact hk9); (refine hK1 _ ?_; clear hK1 K1)) | (((first | (refine ⟨fun hg => hA ?_, fun hg => hB ?_⟩ <;> clear hA hB A B) | refine ⟨fun hg => ?_, fun hg => ?_⟩) <;> (try simp only [BN2] at hg) <;> (try simp only [hg, cond_true, cond_false])) <;> (try (refine hK1 _ ?_; clear hK1 K1)) <;> (try simp only [BN3] at hg))) | (refine awp_seq_k fun K hK => ?_) | ((first | refine awp_region ?_ | refine awp_draw (by kernel_rfl) ?_ | refine awp_block ?_ | refine awp_exit ?_ | refine awp_skip ?_ | refine awp_ret ?_); (try simp only [NB, simprocAttr])))
  all_goals simp only [EndP, FinP, resA, resL, resA1, lastV, lastA, lastAs, pur, purs, take_app, List.take_length, S1, simprocAttr, TTEvJ, Nat.le_add_right, Nat.le_refl]
  all_goals simp [sumS]
theorem sum_quo {a b : Int} (ha : Num a) (hb : Num b) (hz : ¬ b = 0) (h : Heap) : ACalls Tryd.prog G 99 [.i 8, .i a, .i b] h (fun r h' => r = aV3 (sumS 8 a b) ∧ h' = h) := by
  have hd := tdiv_num (b := b) ha
  have hm := tmod_num (b := b) ha
  unfold Num at *
  have f2 : (b == 0) = false := by simpa using hz
  have w1 := IntWalk.i64_in (a.tdiv b) (by omega)

  refine acalls_pure (rl := []) mixed Tryd.func99 rfl (rs := [.cell 6 142]) rfl Tryd.ntmps99 (by simp) ?_
  repeat' (first | ((first | refine aops_nil ?_ | refine aqops_nil ?_); (try simp only [NB])) | ((repeat ((fail_if_success (refine hK _ ?_)); clear hK K)); refine hK _ ?_; clear hK K) | ((first | refine aops_k fun K1 hK1 => ?_ | refine aqops_k fun K1 hK1 => ?_ | refine awp_cond_k fun A B hA hB => ?_); simp only [S1, simprocAttr, TTEvJ, w1, f2, hz]; first | (refine hK1 _ ?_; clear hK1 K1) | ((first | refine hA ?_ | refine hB ?_); clear hA hB A B) | (refine join_x (v := ?_) (fun hg hk9 => ?_) ?_; rotate_left; (focus (try ((try simp only [BN] at hg); simp only [S1, simprocAttr, TTEvJ, w1, f2, hz, hg] at hk9 ⊢)); first | exact hk9); (refine hK1 _ ?_; clear hK1 K1)) | (((first | (refine ⟨fun hg => hA ?_, fun hg => hB ?_⟩ <;> clear hA hB A B) | refine ⟨fun hg => ?_, fun hg => ?_⟩) <;> (try simp only [BN2] at hg) <;> (try simp only [hg, cond_true, cond_false])) <;> (try (refine hK1 _ ?_; clear hK1 K1)) <;> (try simp only [BN3] at hg))) | (refine awp_seq_k fun K hK => ?_) | ((first | refine awp_region ?_ | refine awp_draw (by kernel_rfl) ?_ | refine awp_block ?_ | refine awp_exit ?_ | refine awp_skip ?_ | refine awp_ret ?_); (try simp only [NB, simprocAttr])))
  all_goals simp only [EndP, FinP, resA, resL, resA1, lastV, lastA, lastAs, pur, purs, take_app, List.take_length, S1, simprocAttr, TTEvJ, Nat.le_add_right, Nat.le_refl]
  all_goals simp [sumS, hz]
theorem sum_rem {a b : Int} (ha : Num a) (hb : Num b) (hz : ¬ b = 0) (h : Heap) : ACalls Tryd.prog G 99 [.i 9, .i a, .i b] h (fun r h' => r = aV3 (sumS 9 a b) ∧ h' = h) := by
  have hd := tdiv_num (b := b) ha
  have hm := tmod_num (b := b) ha
  unfold Num at *
  have f2 : (b == 0) = false := by simpa using hz
  have w1 := IntWalk.i64_in (a.tdiv b) (by omega)
  have e : a.tdiv b * b = a - a.tmod b := by rw [Int.tmod_def, Int.mul_comm]; omega
  have w2 : IntKind.i64.wrap (a.tdiv b * b) = a - a.tmod b := by rw [e, IntWalk.i64_in _ (by omega)]
  have w3 : IntKind.i64.wrap (a - (a - a.tmod b)) = a.tmod b := by rw [IntWalk.i64_in _ (by omega)]; omega

  refine acalls_pure (rl := []) mixed Tryd.func99 rfl (rs := [.cell 6 142]) rfl Tryd.ntmps99 (by simp) ?_
  repeat' (first | ((first | refine aops_nil ?_ | refine aqops_nil ?_); (try simp only [NB])) | ((repeat ((fail_if_success (refine hK _ ?_)); clear hK K)); refine hK _ ?_; clear hK K) | ((first | refine aops_k fun K1 hK1 => ?_ | refine aqops_k fun K1 hK1 => ?_ | refine awp_cond_k fun A B hA hB => ?_); simp only [S1, simprocAttr, TTEvJ, w1, w2, w3, f2, hz]; first | (refine hK1 _ ?_; clear hK1 K1) | ((first | refine hA ?_ | refine hB ?_); clear hA hB A B) | (refine join_x (v := ?_) (fun hg hk9 => ?_) ?_; rotate_left; (focus (try ((try simp only [BN] at hg); simp only [S1, simprocAttr, TTEvJ, w1, w2, w3, f2, hz, hg] at hk9 ⊢)); first | exact hk9); (refine hK1 _ ?_; clear hK1 K1)) | (((first | (refine ⟨fun hg => hA ?_, fun hg => hB ?_⟩ <;> clear hA hB A B) | refine ⟨fun hg => ?_, fun hg => ?_⟩) <;> (try simp only [BN2] at hg) <;> (try simp only [hg, cond_true, cond_false])) <;> (try (refine hK1 _ ?_; clear hK1 K1)) <;> (try simp only [BN3] at hg))) | (refine awp_seq_k fun K hK => ?_) | ((first | refine awp_region ?_ | refine awp_draw (by kernel_rfl) ?_ | refine awp_block ?_ | refine awp_exit ?_ | refine awp_skip ?_ | refine awp_ret ?_); (try simp only [NB, simprocAttr])))
  all_goals simp only [EndP, FinP, resA, resL, resA1, lastV, lastA, lastAs, pur, purs, take_app, List.take_length, S1, simprocAttr, TTEvJ, Nat.le_add_right, Nat.le_refl]
  all_goals simp [sumS, hz]
theorem sum_mulz {a : Int} (h : Heap) : ACalls Tryd.prog G 99 [.i 7, .i a, .i 0] h (fun r h' => r = aV3 (sumS 7 a 0) ∧ h' = h) := by
  have w : IntKind.i64.wrap 0 = 0 := by rfl

  refine acalls_pure (rl := []) mixed Tryd.func99 rfl (rs := [.cell 6 142]) rfl Tryd.ntmps99 (by simp) ?_
  repeat' (first | ((first | refine aops_nil ?_ | refine aqops_nil ?_); (try simp only [NB])) | ((repeat ((fail_if_success (refine hK _ ?_)); clear hK K)); refine hK _ ?_; clear hK K) | ((first | refine aops_k fun K1 hK1 => ?_ | refine aqops_k fun K1 hK1 => ?_ | refine awp_cond_k fun A B hA hB => ?_); simp only [S1, simprocAttr, TTEvJ, w, Int.mul_zero]; first | (refine hK1 _ ?_; clear hK1 K1) | ((first | refine hA ?_ | refine hB ?_); clear hA hB A B) | (refine join_x (v := ?_) (fun hg hk9 => ?_) ?_; rotate_left; (focus (try ((try simp only [BN] at hg); simp only [S1, simprocAttr, TTEvJ, w, Int.mul_zero, hg] at hk9 ⊢)); first | exact hk9); (refine hK1 _ ?_; clear hK1 K1)) | (((first | (refine ⟨fun hg => hA ?_, fun hg => hB ?_⟩ <;> clear hA hB A B) | refine ⟨fun hg => ?_, fun hg => ?_⟩) <;> (try simp only [BN2] at hg) <;> (try simp only [hg, cond_true, cond_false])) <;> (try (refine hK1 _ ?_; clear hK1 K1)) <;> (try simp only [BN3] at hg))) | (refine awp_seq_k fun K hK => ?_) | ((first | refine awp_region ?_ | refine awp_draw (by kernel_rfl) ?_ | refine awp_block ?_ | refine awp_exit ?_ | refine awp_skip ?_ | refine awp_ret ?_); (try simp only [NB, simprocAttr])))
  all_goals simp only [EndP, FinP, resA, resL, resA1, lastV, lastA, lastAs, pur, purs, take_app, List.take_length, S1, simprocAttr, TTEvJ, Nat.le_add_right, Nat.le_refl]
  all_goals simp [sumS, prodS]
theorem sum_mul {a b : Int} (ha : Num a) (hb : Num b) (hz : ¬ b = 0) (h : Heap) : ACalls Tryd.prog G 99 [.i 7, .i a, .i b] h (fun r h' => r = aV3 (sumS 7 a b) ∧ h' = h) := by
  have hp := prod_num (a := a) hz
  unfold Num at *
  have f2 : (b == 0) = false := by simpa using hz
  have f2' : (b != 0) = true := by simpa using hz
  have f3 : ¬ ((b.natAbs : Int) = 0) := by omega
  have f4 := quo_abs hz

  refine acalls_pure (rl := []) mixed Tryd.func99 rfl (rs := [.cell 6 142]) rfl Tryd.ntmps99 (by simp) ?_
  repeat' (first | ((first | refine aops_nil ?_ | refine aqops_nil ?_); (try simp only [NB])) | ((repeat ((fail_if_success (refine hK _ ?_)); clear hK K)); refine hK _ ?_; clear hK K) | ((first | refine aops_k fun K1 hK1 => ?_ | refine aqops_k fun K1 hK1 => ?_ | refine awp_cond_k fun A B hA hB => ?_); simp only [S1, simprocAttr, TTEvJ, f2, f2', f3, f4, hz]; first | (refine hK1 _ ?_; clear hK1 K1) | ((first | refine hA ?_ | refine hB ?_); clear hA hB A B) | ((first | apply call_a E107 | apply call_q E107); exact (size_calls' (by omega) _); (refine hK1 _ ?_; clear hK1 K1)) | (refine join_x (v := ?_) (fun hg hk9 => ?_) ?_; rotate_left; (focus (try ((try simp only [BN] at hg); simp only [S1, simprocAttr, TTEvJ, f2, f2', f3, f4, hz, hg] at hk9 ⊢)); first | exact hk9 | ((first | apply call_a E107 | apply call_q E107); exact (size_calls' (by omega) _); exact hk9)); (refine hK1 _ ?_; clear hK1 K1)) | (((first | (refine ⟨fun hg => hA ?_, fun hg => hB ?_⟩ <;> clear hA hB A B) | refine ⟨fun hg => ?_, fun hg => ?_⟩) <;> (try simp only [BN2] at hg) <;> (try simp only [hg, cond_true, cond_false])) <;> (try (refine hK1 _ ?_; clear hK1 K1)) <;> (try simp only [BN3] at hg))) | (refine awp_seq_k fun K hK => ?_) | ((first | refine awp_region ?_ | refine awp_draw (by kernel_rfl) ?_ | refine awp_block ?_ | refine awp_exit ?_ | refine awp_skip ?_ | refine awp_ret ?_); (try simp only [NB, simprocAttr])))
  all_goals simp only [EndP, FinP, resA, resL, resA1, lastV, lastA, lastAs, pur, purs, take_app, List.take_length, S1, simprocAttr, TTEvJ, Nat.le_add_right, Nat.le_refl]
  · have hq : 1099511627776 / b.natAbs < a.natAbs := by generalize 1099511627776 / b.natAbs = q at *; omega
    simp [sumS, prodS, hz, hq]
  · have hq : ¬ 1099511627776 / b.natAbs < a.natAbs := by generalize 1099511627776 / b.natAbs = q at *; omega
    have := hp hq
    rw [IntWalk.i64_in _ (by omega)]
    simp [sumS, prodS, hz, hq]
theorem sum_add {a b : Int} (ha : Num a) (hb : Num b) (h : Heap) : ACalls Tryd.prog G 99 [.i 5, .i a, .i b] h (fun r h' => r = aV3 (sumS 5 a b) ∧ h' = h) := by
  unfold Num at *
  have w1 := IntWalk.i64_in (a + b) (by omega)
  refine acalls_pure (rl := []) mixed Tryd.func99 rfl (rs := [.cell 6 142]) rfl Tryd.ntmps99 (by simp) ?_
  repeat' (first | ((first | refine aops_nil ?_ | refine aqops_nil ?_); (try simp only [NB])) | ((repeat ((fail_if_success (refine hK _ ?_)); clear hK K)); refine hK _ ?_; clear hK K) | ((first | refine aops_k fun K1 hK1 => ?_ | refine aqops_k fun K1 hK1 => ?_ | refine awp_cond_k fun A B hA hB => ?_); simp only [S1, simprocAttr, TTEvJ, w1]; first | (refine hK1 _ ?_; clear hK1 K1) | ((first | refine hA ?_ | refine hB ?_); clear hA hB A B) | ((first | apply call_a E107 | apply call_q E107); exact (size_calls' (by omega) _); (refine hK1 _ ?_; clear hK1 K1)) | (refine join_x (v := ?_) (fun hg hk9 => ?_) ?_; rotate_left; (focus (try ((try simp only [BN] at hg); simp only [S1, simprocAttr, TTEvJ, w1, hg] at hk9 ⊢)); first | exact hk9 | ((first | apply call_a E107 | apply call_q E107); exact (size_calls' (by omega) _); exact hk9)); (refine hK1 _ ?_; clear hK1 K1)) | (((first | (refine ⟨fun hg => hA ?_, fun hg => hB ?_⟩ <;> clear hA hB A B) | refine ⟨fun hg => ?_, fun hg => ?_⟩) <;> (try simp only [BN2] at hg) <;> (try simp only [hg, cond_true, cond_false])) <;> (try (refine hK1 _ ?_; clear hK1 K1)) <;> (try simp only [BN3] at hg))) | (refine awp_seq_k fun K hK => ?_) | ((first | refine awp_region ?_ | refine awp_draw (by kernel_rfl) ?_ | refine awp_block ?_ | refine awp_exit ?_ | refine awp_skip ?_ | refine awp_ret ?_); (try simp only [NB, simprocAttr])))
  all_goals simp only [EndP, FinP, resA, resL, resA1, lastV, lastA, lastAs, pur, purs, take_app, List.take_length, S1, simprocAttr, TTEvJ, Nat.le_add_right, Nat.le_refl]
  · have hq : 1099511627776 < (a + b).natAbs := by omega
    simp [sumS, hq]
  · have hq : ¬ 1099511627776 < (a + b).natAbs := by omega
    simp [sumS, hq]
theorem sum_sub {a b : Int} (ha : Num a) (hb : Num b) (h : Heap) : ACalls Tryd.prog G 99 [.i 6, .i a, .i b] h (fun r h' => r = aV3 (sumS 6 a b) ∧ h' = h) := by
  unfold Num at *
  have w1 := IntWalk.i64_in (a - b) (by omega)
  have w2 := IntWalk.i64_in (a + b) (by omega)
  refine acalls_pure (rl := []) mixed Tryd.func99 rfl (rs := [.cell 6 142]) rfl Tryd.ntmps99 (by simp) ?_
  repeat' (first | ((first | refine aops_nil ?_ | refine aqops_nil ?_); (try simp only [NB])) | ((repeat ((fail_if_success (refine hK _ ?_)); clear hK K)); refine hK _ ?_; clear hK K) | ((first | refine aops_k fun K1 hK1 => ?_ | refine aqops_k fun K1 hK1 => ?_ | refine awp_cond_k fun A B hA hB => ?_); simp only [S1, simprocAttr, TTEvJ, w1, w2]; first | (refine hK1 _ ?_; clear hK1 K1) | ((first | refine hA ?_ | refine hB ?_); clear hA hB A B) | ((first | apply call_a E107 | apply call_q E107); exact (size_calls' (by omega) _); (refine hK1 _ ?_; clear hK1 K1)) | (refine join_x (v := ?_) (fun hg hk9 => ?_) ?_; rotate_left; (focus (try ((try simp only [BN] at hg); simp only [S1, simprocAttr, TTEvJ, w1, w2, hg] at hk9 ⊢)); first | exact hk9 | ((first | apply call_a E107 | apply call_q E107); exact (size_calls' (by omega) _); exact hk9)); (refine hK1 _ ?_; clear hK1 K1)) | (((first | (refine ⟨fun hg => hA ?_, fun hg => hB ?_⟩ <;> clear hA hB A B) | refine ⟨fun hg => ?_, fun hg => ?_⟩) <;> (try simp only [BN2] at hg) <;> (try simp only [hg, cond_true, cond_false])) <;> (try (refine hK1 _ ?_; clear hK1 K1)) <;> (try simp only [BN3] at hg))) | (refine awp_seq_k fun K hK => ?_) | ((first | refine awp_region ?_ | refine awp_draw (by kernel_rfl) ?_ | refine awp_block ?_ | refine awp_exit ?_ | refine awp_skip ?_ | refine awp_ret ?_); (try simp only [NB, simprocAttr])))
  all_goals simp only [EndP, FinP, resA, resL, resA1, lastV, lastA, lastAs, pur, purs, take_app, List.take_length, S1, simprocAttr, TTEvJ, Nat.le_add_right, Nat.le_refl]
  · have hq : 1099511627776 < (a - b).natAbs := by omega
    simp [sumS, hq]
  · have hq : ¬ 1099511627776 < (a - b).natAbs := by omega
    simp [sumS, hq]

theorem sum_calls {op a b : Int} (h1 : 5 ≤ op) (h2 : op ≤ 12) (ha : Num a) (hb : Num b) (h : Heap) : ACalls Tryd.prog G 99 [.i op, .i a, .i b] h (fun r h' => r = aV3 (sumS op a b) ∧ h' = h) := by
  rcases (by omega : op = 5 ∨ op = 6 ∨ op = 7 ∨ op = 8 ∨ op = 9 ∨ op = 10 ∨ op = 11 ∨ op = 12) with rfl | rfl | rfl | rfl | rfl | rfl | rfl | rfl
  · exact sum_add ha hb h
  · exact sum_sub ha hb h
  · by_cases hz : b = 0
    · subst hz; exact sum_mulz h
    · exact sum_mul ha hb hz h
  · by_cases hz : b = 0
    · subst hz; exact sum_z8 h
    · exact sum_quo ha hb hz h
  · by_cases hz : b = 0
    · subst hz; exact sum_z9 h
    · exact sum_rem ha hb hz h
  · exact sum_c10 h
  · exact sum_c11 h
  · exact sum_c12 h
end Go.Proofs.YtjpphhcimpclpaaDoor.AM
end

section
set_option linter.unusedVariables false
set_option linter.unusedSimpArgs false
set_option maxRecDepth 4000
set_option maxHeartbeats 4000000
namespace Go.Proofs.YtjpphhcimpclpaaDoor.AM
open Go Go.Proofs
set_option linter.defProp false in
attribute [local irreducible] awp aops aqops
variable {G : Nat → Option (List PV)}

/-- A right term; true: of a truth. -/
inductive Good : Tm → Bool → Prop where
  | num (n : Int) (h1 : 0 ≤ n) (h2 : n ≤ 1099511627776) : Good (.mk 1 n []) false
  | var (n : Int) (h : n = 0 ∨ n = 1 ∨ n = 2 ∨ n = 3) : Good (.mk 2 n []) false
  | neg (a : Tm) (h : Good a false) : Good (.mk 3 0 [a]) false
  | not (a : Tm) (h : Good a true) : Good (.mk 4 0 [a]) true
  | bin (o : Int) (a b : Tm) (h1 : 5 ≤ o) (h2 : o ≤ 9) (ha : Good a false) (hb : Good b false) : Good (.mk o 0 [a, b]) false
  | cmp (o : Int) (a b : Tm) (h1 : 10 ≤ o) (h2 : o ≤ 12) (ha : Good a false) (hb : Good b false) : Good (.mk o 0 [a, b]) true
  | log (o : Int) (a b : Tm) (h : o = 13 ∨ o = 14) (ha : Good a true) (hb : Good b true) : Good (.mk o 0 [a, b]) true

theorem good_of (t : Tm) : t.form = true → t.typed = true → Good t (truthOp t.op) := by
  refine Tm.ind (p := fun t => t.form = true → t.typed = true → Good t (truthOp t.op)) (fun t ih hf ht => ?_) t
  rw [Tm.form_eq, Bool.and_eq_true, List.all_eq_true] at hf
  rw [Tm.typed_eq, List.all_eq_true] at ht
  obtain ⟨h1, h2⟩ := hf
  cases t with
  | mk o n ks =>
    simp only [Tm.op, Tm.n, Tm.kids] at *
    simp only [headOk, Bool.and_eq_true, decide_eq_true_eq] at h1
    obtain ⟨⟨⟨⟨⟨⟨g1, g2⟩, g3⟩, g4⟩, g5⟩, g6⟩, g7⟩ := h1
    have hk : ∀ k ∈ ks, truthOp k.op = wantOp o ∧ Good k (wantOp o) := fun k hm => by
      have := ht k hm
      simp only [kidTyped, Bool.and_eq_true, beq_iff_eq] at this
      exact ⟨this.1, this.1 ▸ ih k hm (h2 k hm) this.2⟩
    unfold kidsN at g3
    match ks, hk, g3 with
    | [], hk, g3 =>
      have : o = 1 ∨ o = 2 := by
        simp only [List.length_nil] at g3
        split at g3
        · omega
        · split at g3 <;> omega
      rcases this with rfl | rfl
      · exact Good.num n g4 (g5 rfl)
      · exact Good.var n (by have := g6 rfl; omega)
    | [a], hk, g3 =>
      have : o = 3 ∨ o = 4 := by
        simp only [List.length_cons, List.length_nil] at g3
        split at g3
        · omega
        · split at g3 <;> omega
      have ha := (hk a (by simp)).2
      have hn := g7 (by omega)
      subst hn
      rcases this with rfl | rfl
      · exact Good.neg a ha
      · exact Good.not a ha
    | [a, b], hk, g3 =>
      have h5 : 5 ≤ o := by
        simp only [List.length_cons, List.length_nil] at g3
        split at g3
        · omega
        · split at g3 <;> omega
      have ha := (hk a (by simp)).2
      have hb := (hk b (by simp)).2
      have hn := g7 (by omega)
      subst hn
      rcases (by omega : o ≤ 9 ∨ (10 ≤ o ∧ o ≤ 12) ∨ (o = 13 ∨ o = 14)) with e | e | e
      · have w : wantOp o = false := by unfold wantOp; simp; omega
        have u : truthOp o = false := by unfold truthOp; simp; omega
        rw [w] at ha hb; rw [u]
        exact Good.bin o a b h5 e ha hb
      · have w : wantOp o = false := by unfold wantOp; simp; omega
        have u : truthOp o = true := by unfold truthOp; simp; omega
        rw [w] at ha hb; rw [u]
        exact Good.cmp o a b e.1 e.2 ha hb
      · have w : wantOp o = true := by unfold wantOp; simp; omega
        have u : truthOp o = true := by unfold truthOp; simp; omega
        rw [w] at ha hb; rw [u]
        exact Good.log o a b e ha hb
    | a :: b :: c :: r, hk, g3 =>
      exfalso
      simp only [List.length_cons] at g3
      split at g3
      · omega
      · split at g3 <;> omega

def evOp (v : Int → Int) (o n : Int) : List (Int × Bool × Int) → Int × Bool × Int
  | [] => if o = 1 then (n, false, 0) else (v n, false, 0)
  | [a] => if a.2.2 ≠ 0 then (0, false, a.2.2) else if o = 3 then (-a.1, false, 0) else (0, !a.2.1, 0)
  | a :: b :: _ => if a.2.2 ≠ 0 then (0, false, a.2.2) else if o = 13 then (if a.2.1 then b else a) else if o = 14 then (if a.2.1 then a else b)
    else if b.2.2 ≠ 0 then (0, false, b.2.2) else sumS o a.1 b.1

def ev (v : Int → Int) : Tm → Int × Bool × Int
  | .mk o n ks => evOp v o n (ks.map (ev v))

theorem ev_nil (v : Int → Int) (o n : Int) : ev v (.mk o n []) = if o = 1 then (n, false, 0) else (v n, false, 0) := by simp [ev, evOp]
theorem ev_one (v : Int → Int) (o n : Int) (a : Tm) : ev v (.mk o n [a]) = if (ev v a).2.2 ≠ 0 then (0, false, (ev v a).2.2) else if o = 3 then (-(ev v a).1, false, 0) else (0, !(ev v a).2.1, 0) := by simp [ev, evOp]
theorem ev_two (v : Int → Int) (o n : Int) (a b : Tm) : ev v (.mk o n [a, b]) = if (ev v a).2.2 ≠ 0 then (0, false, (ev v a).2.2) else if o = 13 then (if (ev v a).2.1 then ev v b else ev v a) else if o = 14 then (if (ev v a).2.1 then ev v a else ev v b)
    else if (ev v b).2.2 ≠ 0 then (0, false, (ev v b).2.2) else sumS o (ev v a).1 (ev v b).1 := by simp [ev, evOp]

theorem prodS_num {a b : Int} : Num (prodS a b).1 ∧ ((prodS a b).2 ≠ 0 → (prodS a b).1 = 0) ∧ ((prodS a b).2 = 0 ∨ (prodS a b).2 = 40) := by
  unfold prodS
  split
  · exact ⟨⟨by decide, by decide⟩, fun _ => rfl, .inr rfl⟩
  · rename_i h
    refine ⟨?_, fun h => absurd rfl h, .inl rfl⟩
    by_cases hb : b = 0
    · subst hb; simp; exact ⟨by decide, by decide⟩
    · exact prod_num hb fun e => h ⟨hb, e⟩

theorem sumS_num {o a b : Int} (ha : Num a) : Num (sumS o a b).1 ∧ ((sumS o a b).2.2 ≠ 0 → (sumS o a b).1 = 0 ∧ (sumS o a b).2.1 = false) ∧ ((sumS o a b).2.2 = 0 ∨ (sumS o a b).2.2 = 40 ∨ (sumS o a b).2.2 = 41) := by
  have z : Num 0 := ⟨by decide, by decide⟩
  have hp := prodS_num (a := a) (b := b)
  unfold sumS
  repeat' split
  all_goals first
    | exact ⟨z, fun h => ⟨rfl, rfl⟩, .inr (.inl rfl)⟩
    | exact ⟨z, fun h => ⟨rfl, rfl⟩, .inr (.inr rfl)⟩
    | exact ⟨z, fun h => absurd rfl h, .inl rfl⟩
    | exact ⟨tdiv_num ha, fun h => absurd rfl h, .inl rfl⟩
    | exact ⟨tmod_num ha, fun h => absurd rfl h, .inl rfl⟩
    | exact ⟨hp.1, fun h => ⟨hp.2.1 h, rfl⟩, by rcases hp.2.2 with e | e <;> simp [e]⟩
    | exact ⟨(by unfold Num; dsimp only; omega), fun h => absurd rfl h, .inl rfl⟩

/-- A number is one; behind a fault there is nothing; which faults there are. -/
theorem ev_good {v : Int → Int} (hv : ∀ i, Num (v i)) {t : Tm} {k : Bool} (h : Good t k) : (k = false → Num (ev v t).1) ∧ ((ev v t).2.2 ≠ 0 → (ev v t).1 = 0 ∧ (ev v t).2.1 = false) ∧ ((ev v t).2.2 = 0 ∨ (ev v t).2.2 = 40 ∨ (ev v t).2.2 = 41) := by
  have z : Num 0 := ⟨by decide, by decide⟩
  induction h with
  | num n h1 h2 => rw [ev_nil]; simp; unfold Num; omega
  | var n h => rw [ev_nil, if_neg (by decide)]; exact ⟨fun _ => hv n, fun h => absurd rfl h, .inl rfl⟩
  | neg a h ih =>
    rw [ev_one]
    split
    · rename_i e; exact ⟨fun _ => z, fun _ => ⟨rfl, rfl⟩, ih.2.2⟩
    · have := ih.1 rfl
      rw [if_pos rfl]
      exact ⟨fun _ => (by unfold Num at *; simp only; omega), fun h => absurd rfl h, .inl rfl⟩
  | not a h ih =>
    rw [ev_one]
    split
    · exact ⟨fun _ => z, fun _ => ⟨rfl, rfl⟩, ih.2.2⟩
    · rw [if_neg (by decide)]; exact ⟨fun e => (by cases e), fun h => absurd rfl h, .inl rfl⟩
  | bin o a b h1 h2 ha hb iha ihb =>
    rw [ev_two]
    split
    · exact ⟨fun _ => z, fun _ => ⟨rfl, rfl⟩, iha.2.2⟩
    · rw [if_neg (by omega), if_neg (by omega)]
      split
      · exact ⟨fun _ => z, fun _ => ⟨rfl, rfl⟩, ihb.2.2⟩
      · have := sumS_num (o := o) (b := (ev v b).1) (iha.1 rfl)
        exact ⟨fun _ => this.1, this.2⟩
  | cmp o a b h1 h2 ha hb iha ihb =>
    rw [ev_two]
    split
    · exact ⟨fun _ => z, fun _ => ⟨rfl, rfl⟩, iha.2.2⟩
    · rw [if_neg (by omega), if_neg (by omega)]
      split
      · exact ⟨fun _ => z, fun _ => ⟨rfl, rfl⟩, ihb.2.2⟩
      · have := sumS_num (o := o) (b := (ev v b).1) (iha.1 rfl)
        exact ⟨fun e => (by cases e), this.2⟩
  | log o a b h ha hb iha ihb =>
    rw [ev_two]
    split
    · exact ⟨fun e => (by cases e), fun _ => ⟨rfl, rfl⟩, iha.2.2⟩
    · rcases h with rfl | rfl
      · rw [if_pos rfl]; split
        · exact ⟨fun e => (by cases e), ihb.2⟩
        · exact ⟨fun e => (by cases e), iha.2⟩
      · rw [if_neg (by decide), if_pos rfl]; split
        · exact ⟨fun e => (by cases e), iha.2⟩
        · exact ⟨fun e => (by cases e), ihb.2⟩
end Go.Proofs.YtjpphhcimpclpaaDoor.AM
end

section
set_option linter.unusedVariables false
set_option linter.unusedSimpArgs false
set_option maxRecDepth 4000
set_option maxHeartbeats 4000000
namespace Go.Proofs.YtjpphhcimpclpaaDoor.AM
open Go Go.Proofs
set_option linter.defProp false in
attribute [local irreducible] awp aops aqops
variable {G : Nat → Option (List PV)}

abbrev aV (v : Int → Int) : AV := .agg [.i (v 0), .i (v 1), .i (v 2), .i (v 3)]
end Go.Proofs.YtjpphhcimpclpaaDoor.AM
end

section
set_option linter.unusedVariables false
set_option linter.unusedSimpArgs false
set_option maxRecDepth 4000
set_option maxHeartbeats 4000000
namespace Go.Proofs.YtjpphhcimpclpaaDoor.AM
open Go Go.Proofs
set_option linter.defProp false in
def TTEvOa := And.intro T2 (And.intro T3 (And.intro T4 (And.intro T27 (And.intro T56 (And.intro T58 T142)))))
attribute [local irreducible] awp aops aqops aeops
variable {G : Nat → Option (List PV)}

theorem of_num (v : Int → Int) (n : Int) (h : Heap) : ACalls Tryd.prog G 91 [.agg [.i 1, .i n, .p (.sl [])], aV v] h (fun r h' => r = aV3 (n, false, 0) ∧ h' = h) := by
  refine acalls_pure (rl := []) mixed Tryd.func91 rfl (rs := [.cell 4 142]) rfl Tryd.ntmps91 (by simp) ?_
  repeat' (first | ((first | refine aops_nil ?_ | refine aqops_nil ?_ | refine aeops_nil ?_); (try simp only [NB])) | ((repeat ((fail_if_success (refine hK _ ?_)); clear hK K)); refine hK _ ?_; clear hK K) | ((first | refine aops_k fun K1 hK1 => ?_ | refine aqops_k fun K1 hK1 => ?_ | refine aeops_eff rfl fun K1 hK1 => ?_ | refine awp_cond_k fun A B hA hB => ?_); simp only [S1, simprocAttr, TTEvOa]; first | (refine hK1 _ ?_; clear hK1 K1) | ((first | refine hA ?_ | refine hB ?_); clear hA hB A B) | (((first | (refine ⟨fun hg => hA ?_, fun hg => hB ?_⟩ <;> clear hA hB A B) | refine ⟨fun hg => ?_, fun hg => ?_⟩) <;> (try simp only [BN2] at hg) <;> (try simp only [hg, cond_true, cond_false])) <;> (try (refine hK1 _ ?_; clear hK1 K1)) <;> (try simp only [BN3] at hg))) | (refine aeops_q (v := ?_) rfl rfl (by decide) (fun L K1 hK1 => ?_) ?_; rotate_left; (focus (simp only [S1, simprocAttr, TTEvOa]; first | (exact hK1 _ _ _)))) | (refine awp_seq_k fun K hK => ?_) | ((first | refine awp_region ?_ | refine awp_drawE (by kernel_rfl) ?_ | refine awp_draw (by kernel_rfl) ?_ | refine awp_block ?_ | refine awp_exit ?_ | refine awp_skip ?_ | refine awp_ret ?_); (try simp only [NB, simprocAttr])))
  all_goals simp only [EndP, FinP, resA, resL, resA1, lastV, lastA, lastAs, pur, purs, take_app, List.take_length, S1, simprocAttr, TTEvOa, Nat.le_add_right, Nat.le_refl]

theorem of_var (v : Int → Int) (n : Int) (hn : n = 0 ∨ n = 1 ∨ n = 2 ∨ n = 3) (h : Heap) : ACalls Tryd.prog G 91 [.agg [.i 2, .i n, .p (.sl [])], aV v] h (fun r h' => r = aV3 (v n, false, 0) ∧ h' = h) := by
  rcases hn with rfl | rfl | rfl | rfl
  all_goals
    refine acalls_pure (rl := []) mixed Tryd.func91 rfl (rs := [.cell 4 142]) rfl Tryd.ntmps91 (by simp) ?_
    repeat' (first | ((first | refine aops_nil ?_ | refine aqops_nil ?_ | refine aeops_nil ?_); (try simp only [NB])) | ((repeat ((fail_if_success (refine hK _ ?_)); clear hK K)); refine hK _ ?_; clear hK K) | ((first | refine aops_k fun K1 hK1 => ?_ | refine aqops_k fun K1 hK1 => ?_ | refine aeops_eff rfl fun K1 hK1 => ?_ | refine awp_cond_k fun A B hA hB => ?_); simp only [S1, simprocAttr, TTEvOa]; first | (refine hK1 _ ?_; clear hK1 K1) | ((first | refine hA ?_ | refine hB ?_); clear hA hB A B) | (((first | (refine ⟨fun hg => hA ?_, fun hg => hB ?_⟩ <;> clear hA hB A B) | refine ⟨fun hg => ?_, fun hg => ?_⟩) <;> (try simp only [BN2] at hg) <;> (try simp only [hg, cond_true, cond_false])) <;> (try (refine hK1 _ ?_; clear hK1 K1)) <;> (try simp only [BN3] at hg))) | (refine aeops_q (v := ?_) rfl rfl (by decide) (fun L K1 hK1 => ?_) ?_; rotate_left; (focus (simp only [S1, simprocAttr, TTEvOa]; first | (exact hK1 _ _ _)))) | (refine awp_seq_k fun K hK => ?_) | ((first | refine awp_region ?_ | refine awp_drawE (by kernel_rfl) ?_ | refine awp_draw (by kernel_rfl) ?_ | refine awp_block ?_ | refine awp_exit ?_ | refine awp_skip ?_ | refine awp_ret ?_); (try simp only [NB, simprocAttr])))
    all_goals simp only [EndP, FinP, resA, resL, resA1, lastV, lastA, lastAs, pur, purs, take_app, List.take_length, S1, simprocAttr, TTEvOa, Nat.le_add_right, Nat.le_refl]

theorem of_neg (v : Int → Int) (a : Tm) {x : Int × Bool × Int} (hx : Num x.1) (ih : ∀ h : Heap, ACalls Tryd.prog G 91 [aT a, aV v] h (fun r h' => r = aV3 x ∧ h' = h)) (h : Heap) :
    ACalls Tryd.prog G 91 [.agg [.i 3, .i 0, .p (.sl [eT a])], aV v] h (fun r h' => r = aV3 (if x.2.2 ≠ 0 then (0, false, x.2.2) else (-x.1, false, 0)) ∧ h' = h) := by
  unfold Num at hx
  have hw := IntWalk.i64_in (-x.1) (by omega)
  have hz : (0 : Int) - x.1 = - x.1 := by omega
  by_cases e1 : x.2.2 = 0
  · have f4 : (x.2.2 != 0) = false := by simp [e1]
    refine acalls_pure (rl := []) mixed Tryd.func91 rfl (rs := [.cell 4 142]) rfl Tryd.ntmps91 (by simp) ?_
    repeat' (first | ((first | refine aops_nil ?_ | refine aqops_nil ?_ | refine aeops_nil ?_); (try simp only [NB])) | ((repeat ((fail_if_success (refine hK _ ?_)); clear hK K)); refine hK _ ?_; clear hK K) | ((first | refine aops_k fun K1 hK1 => ?_ | refine aqops_k fun K1 hK1 => ?_ | refine aeops_eff rfl fun K1 hK1 => ?_ | refine awp_cond_k fun A B hA hB => ?_); simp only [S1, simprocAttr, TTEvOa, eT_eq, hw, hz, f4]; first | (refine hK1 _ ?_; clear hK1 K1) | ((first | refine hA ?_ | refine hB ?_); clear hA hB A B) | ((first | apply call_a E91 | apply call_q E91); exact (ih _); (refine hK1 _ ?_; clear hK1 K1)) | (((first | (refine ⟨fun hg => hA ?_, fun hg => hB ?_⟩ <;> clear hA hB A B) | refine ⟨fun hg => ?_, fun hg => ?_⟩) <;> (try simp only [BN2] at hg) <;> (try simp only [hg, cond_true, cond_false])) <;> (try (refine hK1 _ ?_; clear hK1 K1)) <;> (try simp only [BN3] at hg))) | (refine aeops_q (v := ?_) rfl rfl (by decide) (fun L K1 hK1 => ?_) ?_; rotate_left; (focus (simp only [S1, simprocAttr, TTEvOa, eT_eq, hw, hz, f4]; first | (exact hK1 _ _ _) | ((first | apply call_a E91 | apply call_q E91); exact (ih _); exact hK1 _ _ _)))) | (refine awp_seq_k fun K hK => ?_) | ((first | refine awp_region ?_ | refine awp_drawE (by kernel_rfl) ?_ | refine awp_draw (by kernel_rfl) ?_ | refine awp_block ?_ | refine awp_exit ?_ | refine awp_skip ?_ | refine awp_ret ?_); (try simp only [NB, simprocAttr])))
    all_goals simp only [EndP, FinP, resA, resL, resA1, lastV, lastA, lastAs, pur, purs, take_app, List.take_length, S1, simprocAttr, TTEvOa, Nat.le_add_right, Nat.le_refl]
    all_goals simp [e1]
  · have f4 : (x.2.2 != 0) = true := by simp [e1]
    refine acalls_pure (rl := []) mixed Tryd.func91 rfl (rs := [.cell 4 142]) rfl Tryd.ntmps91 (by simp) ?_
    repeat' (first | ((first | refine aops_nil ?_ | refine aqops_nil ?_ | refine aeops_nil ?_); (try simp only [NB])) | ((repeat ((fail_if_success (refine hK _ ?_)); clear hK K)); refine hK _ ?_; clear hK K) | ((first | refine aops_k fun K1 hK1 => ?_ | refine aqops_k fun K1 hK1 => ?_ | refine aeops_eff rfl fun K1 hK1 => ?_ | refine awp_cond_k fun A B hA hB => ?_); simp only [S1, simprocAttr, TTEvOa, eT_eq, hw, hz, f4]; first | (refine hK1 _ ?_; clear hK1 K1) | ((first | refine hA ?_ | refine hB ?_); clear hA hB A B) | ((first | apply call_a E91 | apply call_q E91); exact (ih _); (refine hK1 _ ?_; clear hK1 K1)) | (((first | (refine ⟨fun hg => hA ?_, fun hg => hB ?_⟩ <;> clear hA hB A B) | refine ⟨fun hg => ?_, fun hg => ?_⟩) <;> (try simp only [BN2] at hg) <;> (try simp only [hg, cond_true, cond_false])) <;> (try (refine hK1 _ ?_; clear hK1 K1)) <;> (try simp only [BN3] at hg))) | (refine aeops_q (v := ?_) rfl rfl (by decide) (fun L K1 hK1 => ?_) ?_; rotate_left; (focus (simp only [S1, simprocAttr, TTEvOa, eT_eq, hw, hz, f4]; first | (exact hK1 _ _ _) | ((first | apply call_a E91 | apply call_q E91); exact (ih _); exact hK1 _ _ _)))) | (refine awp_seq_k fun K hK => ?_) | ((first | refine awp_region ?_ | refine awp_drawE (by kernel_rfl) ?_ | refine awp_draw (by kernel_rfl) ?_ | refine awp_block ?_ | refine awp_exit ?_ | refine awp_skip ?_ | refine awp_ret ?_); (try simp only [NB, simprocAttr])))
    all_goals simp only [EndP, FinP, resA, resL, resA1, lastV, lastA, lastAs, pur, purs, take_app, List.take_length, S1, simprocAttr, TTEvOa, Nat.le_add_right, Nat.le_refl]
    all_goals simp [e1]

theorem of_not (v : Int → Int) (a : Tm) {x : Int × Bool × Int} (ih : ∀ h : Heap, ACalls Tryd.prog G 91 [aT a, aV v] h (fun r h' => r = aV3 x ∧ h' = h)) (h : Heap) :
    ACalls Tryd.prog G 91 [.agg [.i 4, .i 0, .p (.sl [eT a])], aV v] h (fun r h' => r = aV3 (if x.2.2 ≠ 0 then (0, false, x.2.2) else (0, !x.2.1, 0)) ∧ h' = h) := by
  by_cases e1 : x.2.2 = 0
  · have f4 : (x.2.2 != 0) = false := by simp [e1]
    refine acalls_pure (rl := []) mixed Tryd.func91 rfl (rs := [.cell 4 142]) rfl Tryd.ntmps91 (by simp) ?_
    repeat' (first | ((first | refine aops_nil ?_ | refine aqops_nil ?_ | refine aeops_nil ?_); (try simp only [NB])) | ((repeat ((fail_if_success (refine hK _ ?_)); clear hK K)); refine hK _ ?_; clear hK K) | ((first | refine aops_k fun K1 hK1 => ?_ | refine aqops_k fun K1 hK1 => ?_ | refine aeops_eff rfl fun K1 hK1 => ?_ | refine awp_cond_k fun A B hA hB => ?_); simp only [S1, simprocAttr, TTEvOa, eT_eq, f4]; first | (refine hK1 _ ?_; clear hK1 K1) | ((first | refine hA ?_ | refine hB ?_); clear hA hB A B) | ((first | apply call_a E91 | apply call_q E91); exact (ih _); (refine hK1 _ ?_; clear hK1 K1)) | (((first | (refine ⟨fun hg => hA ?_, fun hg => hB ?_⟩ <;> clear hA hB A B) | refine ⟨fun hg => ?_, fun hg => ?_⟩) <;> (try simp only [BN2] at hg) <;> (try simp only [hg, cond_true, cond_false])) <;> (try (refine hK1 _ ?_; clear hK1 K1)) <;> (try simp only [BN3] at hg))) | (refine aeops_q (v := ?_) rfl rfl (by decide) (fun L K1 hK1 => ?_) ?_; rotate_left; (focus (simp only [S1, simprocAttr, TTEvOa, eT_eq, f4]; first | (exact hK1 _ _ _) | ((first | apply call_a E91 | apply call_q E91); exact (ih _); exact hK1 _ _ _)))) | (refine awp_seq_k fun K hK => ?_) | ((first | refine awp_region ?_ | refine awp_drawE (by kernel_rfl) ?_ | refine awp_draw (by kernel_rfl) ?_ | refine awp_block ?_ | refine awp_exit ?_ | refine awp_skip ?_ | refine awp_ret ?_); (try simp only [NB, simprocAttr])))
    all_goals simp only [EndP, FinP, resA, resL, resA1, lastV, lastA, lastAs, pur, purs, take_app, List.take_length, S1, simprocAttr, TTEvOa, Nat.le_add_right, Nat.le_refl]
    all_goals simp [e1]
  · have f4 : (x.2.2 != 0) = true := by simp [e1]
    refine acalls_pure (rl := []) mixed Tryd.func91 rfl (rs := [.cell 4 142]) rfl Tryd.ntmps91 (by simp) ?_
    repeat' (first | ((first | refine aops_nil ?_ | refine aqops_nil ?_ | refine aeops_nil ?_); (try simp only [NB])) | ((repeat ((fail_if_success (refine hK _ ?_)); clear hK K)); refine hK _ ?_; clear hK K) | ((first | refine aops_k fun K1 hK1 => ?_ | refine aqops_k fun K1 hK1 => ?_ | refine aeops_eff rfl fun K1 hK1 => ?_ | refine awp_cond_k fun A B hA hB => ?_); simp only [S1, simprocAttr, TTEvOa, eT_eq, f4]; first | (refine hK1 _ ?_; clear hK1 K1) | ((first | refine hA ?_ | refine hB ?_); clear hA hB A B) | ((first | apply call_a E91 | apply call_q E91); exact (ih _); (refine hK1 _ ?_; clear hK1 K1)) | (((first | (refine ⟨fun hg => hA ?_, fun hg => hB ?_⟩ <;> clear hA hB A B) | refine ⟨fun hg => ?_, fun hg => ?_⟩) <;> (try simp only [BN2] at hg) <;> (try simp only [hg, cond_true, cond_false])) <;> (try (refine hK1 _ ?_; clear hK1 K1)) <;> (try simp only [BN3] at hg))) | (refine aeops_q (v := ?_) rfl rfl (by decide) (fun L K1 hK1 => ?_) ?_; rotate_left; (focus (simp only [S1, simprocAttr, TTEvOa, eT_eq, f4]; first | (exact hK1 _ _ _) | ((first | apply call_a E91 | apply call_q E91); exact (ih _); exact hK1 _ _ _)))) | (refine awp_seq_k fun K hK => ?_) | ((first | refine awp_region ?_ | refine awp_drawE (by kernel_rfl) ?_ | refine awp_draw (by kernel_rfl) ?_ | refine awp_block ?_ | refine awp_exit ?_ | refine awp_skip ?_ | refine awp_ret ?_); (try simp only [NB, simprocAttr])))
    all_goals simp only [EndP, FinP, resA, resL, resA1, lastV, lastA, lastAs, pur, purs, take_app, List.take_length, S1, simprocAttr, TTEvOa, Nat.le_add_right, Nat.le_refl]
    all_goals simp [e1]

theorem of_log (v : Int → Int) (o : Int) (ho : o = 13 ∨ o = 14) (a b : Tm) {x y : Int × Bool × Int}
    (iha : ∀ h : Heap, ACalls Tryd.prog G 91 [aT a, aV v] h (fun r h' => r = aV3 x ∧ h' = h))
    (ihb : ∀ h : Heap, ACalls Tryd.prog G 91 [aT b, aV v] h (fun r h' => r = aV3 y ∧ h' = h)) (h : Heap) :
    ACalls Tryd.prog G 91 [.agg [.i o, .i 0, .p (.sl [eT a, eT b])], aV v] h (fun r h' => r = aV3 (if x.2.2 ≠ 0 then (0, false, x.2.2) else if o = 13 then (if x.2.1 then y else x) else (if x.2.1 then x else y)) ∧ h' = h) := by
  by_cases e1 : x.2.2 = 0
  · have f4 : (x.2.2 != 0) = false := by simp [e1]
    obtain ⟨x1, x2, x3⟩ := x
    dsimp only at *
    subst e1
    rcases ho with rfl | rfl
    all_goals
      cases x2
      all_goals
        refine acalls_pure (rl := []) mixed Tryd.func91 rfl (rs := [.cell 4 142]) rfl Tryd.ntmps91 (by simp) ?_
        repeat' (first | ((first | refine aops_nil ?_ | refine aqops_nil ?_ | refine aeops_nil ?_); (try simp only [NB])) | ((repeat ((fail_if_success (refine hK _ ?_)); clear hK K)); refine hK _ ?_; clear hK K) | ((first | refine aops_k fun K1 hK1 => ?_ | refine aqops_k fun K1 hK1 => ?_ | refine aeops_eff rfl fun K1 hK1 => ?_ | refine awp_cond_k fun A B hA hB => ?_); simp only [S1, simprocAttr, TTEvOa, eT_eq]; first | (refine hK1 _ ?_; clear hK1 K1) | ((first | refine hA ?_ | refine hB ?_); clear hA hB A B) | ((first | apply call_a E91 | apply call_q E91); exact (iha _); (refine hK1 _ ?_; clear hK1 K1)) | ((first | apply call_a E91 | apply call_q E91); exact (ihb _); (refine hK1 _ ?_; clear hK1 K1)) | (((first | (refine ⟨fun hg => hA ?_, fun hg => hB ?_⟩ <;> clear hA hB A B) | refine ⟨fun hg => ?_, fun hg => ?_⟩) <;> (try simp only [BN2] at hg) <;> (try simp only [hg, cond_true, cond_false])) <;> (try (refine hK1 _ ?_; clear hK1 K1)) <;> (try simp only [BN3] at hg))) | (refine aeops_q (v := ?_) rfl rfl (by decide) (fun L K1 hK1 => ?_) ?_; rotate_left; (focus (simp only [S1, simprocAttr, TTEvOa, eT_eq]; first | (exact hK1 _ _ _) | ((first | apply call_a E91 | apply call_q E91); exact (iha _); exact hK1 _ _ _) | ((first | apply call_a E91 | apply call_q E91); exact (ihb _); exact hK1 _ _ _)))) | (refine awp_seq_k fun K hK => ?_) | ((first | refine awp_region ?_ | refine awp_drawE (by kernel_rfl) ?_ | refine awp_draw (by kernel_rfl) ?_ | refine awp_block ?_ | refine awp_exit ?_ | refine awp_skip ?_ | refine awp_ret ?_); (try simp only [NB, simprocAttr])))
        all_goals simp only [EndP, FinP, resA, resL, resA1, lastV, lastA, lastAs, pur, purs, take_app, List.take_length, S1, simprocAttr, TTEvOa, Nat.le_add_right, Nat.le_refl]
        all_goals simp
  · have f4 : (x.2.2 != 0) = true := by simp [e1]
    rcases ho with rfl | rfl
    all_goals
      refine acalls_pure (rl := []) mixed Tryd.func91 rfl (rs := [.cell 4 142]) rfl Tryd.ntmps91 (by simp) ?_
      repeat' (first | ((first | refine aops_nil ?_ | refine aqops_nil ?_ | refine aeops_nil ?_); (try simp only [NB])) | ((repeat ((fail_if_success (refine hK _ ?_)); clear hK K)); refine hK _ ?_; clear hK K) | ((first | refine aops_k fun K1 hK1 => ?_ | refine aqops_k fun K1 hK1 => ?_ | refine aeops_eff rfl fun K1 hK1 => ?_ | refine awp_cond_k fun A B hA hB => ?_); simp only [S1, simprocAttr, TTEvOa, eT_eq, f4]; first | (refine hK1 _ ?_; clear hK1 K1) | ((first | refine hA ?_ | refine hB ?_); clear hA hB A B) | ((first | apply call_a E91 | apply call_q E91); exact (iha _); (refine hK1 _ ?_; clear hK1 K1)) | (((first | (refine ⟨fun hg => hA ?_, fun hg => hB ?_⟩ <;> clear hA hB A B) | refine ⟨fun hg => ?_, fun hg => ?_⟩) <;> (try simp only [BN2] at hg) <;> (try simp only [hg, cond_true, cond_false])) <;> (try (refine hK1 _ ?_; clear hK1 K1)) <;> (try simp only [BN3] at hg))) | (refine aeops_q (v := ?_) rfl rfl (by decide) (fun L K1 hK1 => ?_) ?_; rotate_left; (focus (simp only [S1, simprocAttr, TTEvOa, eT_eq, f4]; first | (exact hK1 _ _ _) | ((first | apply call_a E91 | apply call_q E91); exact (iha _); exact hK1 _ _ _)))) | (refine awp_seq_k fun K hK => ?_) | ((first | refine awp_region ?_ | refine awp_drawE (by kernel_rfl) ?_ | refine awp_draw (by kernel_rfl) ?_ | refine awp_block ?_ | refine awp_exit ?_ | refine awp_skip ?_ | refine awp_ret ?_); (try simp only [NB, simprocAttr])))
      all_goals simp only [EndP, FinP, resA, resL, resA1, lastV, lastA, lastAs, pur, purs, take_app, List.take_length, S1, simprocAttr, TTEvOa, Nat.le_add_right, Nat.le_refl]
      all_goals simp [e1]

theorem of_bin (v : Int → Int) (o : Int) (h1 : 5 ≤ o) (h2 : o ≤ 12) (a b : Tm) {x y : Int × Bool × Int} (hx : Num x.1) (hy : Num y.1)
    (iha : ∀ h : Heap, ACalls Tryd.prog G 91 [aT a, aV v] h (fun r h' => r = aV3 x ∧ h' = h))
    (ihb : ∀ h : Heap, ACalls Tryd.prog G 91 [aT b, aV v] h (fun r h' => r = aV3 y ∧ h' = h)) (h : Heap) :
    ACalls Tryd.prog G 91 [.agg [.i o, .i 0, .p (.sl [eT a, eT b])], aV v] h (fun r h' => r = aV3 (if x.2.2 ≠ 0 then (0, false, x.2.2) else if y.2.2 ≠ 0 then (0, false, y.2.2) else sumS o x.1 y.1) ∧ h' = h) := by
  have f1 : (o == 1) = false := by simp; omega
  have f2 : (o == 2) = false := by simp; omega
  have f3 : (o == 3) = false := by simp; omega
  have f6 : (o == 4) = false := by simp; omega
  have f7 : (o == 13) = false := by simp; omega
  have f8 : (o == 14) = false := by simp; omega
  by_cases e1 : x.2.2 = 0
  · have f4 : (x.2.2 != 0) = false := by simp [e1]
    by_cases e2 : y.2.2 = 0
    · have f5 : (y.2.2 != 0) = false := by simp [e2]
      refine acalls_pure (rl := []) mixed Tryd.func91 rfl (rs := [.cell 4 142]) rfl Tryd.ntmps91 (by simp) ?_
      repeat' (first | ((first | refine aops_nil ?_ | refine aqops_nil ?_ | refine aeops_nil ?_); (try simp only [NB])) | ((repeat ((fail_if_success (refine hK _ ?_)); clear hK K)); refine hK _ ?_; clear hK K) | ((first | refine aops_k fun K1 hK1 => ?_ | refine aqops_k fun K1 hK1 => ?_ | refine aeops_eff rfl fun K1 hK1 => ?_ | refine awp_cond_k fun A B hA hB => ?_); simp only [S1, simprocAttr, TTEvOa, eT_eq, f1, f2, f3, f4, f5, f6, f7, f8]; first | (refine hK1 _ ?_; clear hK1 K1) | ((first | refine hA ?_ | refine hB ?_); clear hA hB A B) | ((first | apply call_a E91 | apply call_q E91); exact (iha _); (refine hK1 _ ?_; clear hK1 K1)) | ((first | apply call_a E91 | apply call_q E91); exact (ihb _); (refine hK1 _ ?_; clear hK1 K1)) | ((first | apply call_a E99 | apply call_q E99); exact (sum_calls h1 h2 hx hy _); (refine hK1 _ ?_; clear hK1 K1)) | (((first | (refine ⟨fun hg => hA ?_, fun hg => hB ?_⟩ <;> clear hA hB A B) | refine ⟨fun hg => ?_, fun hg => ?_⟩) <;> (try simp only [BN2] at hg) <;> (try simp only [hg, cond_true, cond_false])) <;> (try (refine hK1 _ ?_; clear hK1 K1)) <;> (try simp only [BN3] at hg))) | (refine aeops_q (v := ?_) rfl rfl (by decide) (fun L K1 hK1 => ?_) ?_; rotate_left; (focus (simp only [S1, simprocAttr, TTEvOa, eT_eq, f1, f2, f3, f4, f5, f6, f7, f8]; first | (exact hK1 _ _ _) | ((first | apply call_a E91 | apply call_q E91); exact (iha _); exact hK1 _ _ _) | ((first | apply call_a E91 | apply call_q E91); exact (ihb _); exact hK1 _ _ _) | ((first | apply call_a E99 | apply call_q E99); exact (sum_calls h1 h2 hx hy _); exact hK1 _ _ _)))) | (refine awp_seq_k fun K hK => ?_) | ((first | refine awp_region ?_ | refine awp_drawE (by kernel_rfl) ?_ | refine awp_draw (by kernel_rfl) ?_ | refine awp_block ?_ | refine awp_exit ?_ | refine awp_skip ?_ | refine awp_ret ?_); (try simp only [NB, simprocAttr])))
      all_goals simp only [EndP, FinP, resA, resL, resA1, lastV, lastA, lastAs, pur, purs, take_app, List.take_length, S1, simprocAttr, TTEvOa, Nat.le_add_right, Nat.le_refl]
      all_goals simp [e1, e2]
    · have f5 : (y.2.2 != 0) = true := by simp [e2]
      refine acalls_pure (rl := []) mixed Tryd.func91 rfl (rs := [.cell 4 142]) rfl Tryd.ntmps91 (by simp) ?_
      repeat' (first | ((first | refine aops_nil ?_ | refine aqops_nil ?_ | refine aeops_nil ?_); (try simp only [NB])) | ((repeat ((fail_if_success (refine hK _ ?_)); clear hK K)); refine hK _ ?_; clear hK K) | ((first | refine aops_k fun K1 hK1 => ?_ | refine aqops_k fun K1 hK1 => ?_ | refine aeops_eff rfl fun K1 hK1 => ?_ | refine awp_cond_k fun A B hA hB => ?_); simp only [S1, simprocAttr, TTEvOa, eT_eq, f1, f2, f3, f4, f5, f6, f7, f8]; first | (refine hK1 _ ?_; clear hK1 K1) | ((first | refine hA ?_ | refine hB ?_); clear hA hB A B) | ((first | apply call_a E91 | apply call_q E91); exact (iha _); (refine hK1 _ ?_; clear hK1 K1)) | ((first | apply call_a E91 | apply call_q E91); exact (ihb _); (refine hK1 _ ?_; clear hK1 K1)) | (((first | (refine ⟨fun hg => hA ?_, fun hg => hB ?_⟩ <;> clear hA hB A B) | refine ⟨fun hg => ?_, fun hg => ?_⟩) <;> (try simp only [BN2] at hg) <;> (try simp only [hg, cond_true, cond_false])) <;> (try (refine hK1 _ ?_; clear hK1 K1)) <;> (try simp only [BN3] at hg))) | (refine aeops_q (v := ?_) rfl rfl (by decide) (fun L K1 hK1 => ?_) ?_; rotate_left; (focus (simp only [S1, simprocAttr, TTEvOa, eT_eq, f1, f2, f3, f4, f5, f6, f7, f8]; first | (exact hK1 _ _ _) | ((first | apply call_a E91 | apply call_q E91); exact (iha _); exact hK1 _ _ _) | ((first | apply call_a E91 | apply call_q E91); exact (ihb _); exact hK1 _ _ _)))) | (refine awp_seq_k fun K hK => ?_) | ((first | refine awp_region ?_ | refine awp_drawE (by kernel_rfl) ?_ | refine awp_draw (by kernel_rfl) ?_ | refine awp_block ?_ | refine awp_exit ?_ | refine awp_skip ?_ | refine awp_ret ?_); (try simp only [NB, simprocAttr])))
      all_goals simp only [EndP, FinP, resA, resL, resA1, lastV, lastA, lastAs, pur, purs, take_app, List.take_length, S1, simprocAttr, TTEvOa, Nat.le_add_right, Nat.le_refl]
      all_goals simp [e1, e2]
  · have f4 : (x.2.2 != 0) = true := by simp [e1]
    refine acalls_pure (rl := []) mixed Tryd.func91 rfl (rs := [.cell 4 142]) rfl Tryd.ntmps91 (by simp) ?_
    repeat' (first | ((first | refine aops_nil ?_ | refine aqops_nil ?_ | refine aeops_nil ?_); (try simp only [NB])) | ((repeat ((fail_if_success (refine hK _ ?_)); clear hK K)); refine hK _ ?_; clear hK K) | ((first | refine aops_k fun K1 hK1 => ?_ | refine aqops_k fun K1 hK1 => ?_ | refine aeops_eff rfl fun K1 hK1 => ?_ | refine awp_cond_k fun A B hA hB => ?_); simp only [S1, simprocAttr, TTEvOa, eT_eq, f1, f2, f3, f4, f6, f7, f8]; first | (refine hK1 _ ?_; clear hK1 K1) | ((first | refine hA ?_ | refine hB ?_); clear hA hB A B) | ((first | apply call_a E91 | apply call_q E91); exact (iha _); (refine hK1 _ ?_; clear hK1 K1)) | (((first | (refine ⟨fun hg => hA ?_, fun hg => hB ?_⟩ <;> clear hA hB A B) | refine ⟨fun hg => ?_, fun hg => ?_⟩) <;> (try simp only [BN2] at hg) <;> (try simp only [hg, cond_true, cond_false])) <;> (try (refine hK1 _ ?_; clear hK1 K1)) <;> (try simp only [BN3] at hg))) | (refine aeops_q (v := ?_) rfl rfl (by decide) (fun L K1 hK1 => ?_) ?_; rotate_left; (focus (simp only [S1, simprocAttr, TTEvOa, eT_eq, f1, f2, f3, f4, f6, f7, f8]; first | (exact hK1 _ _ _) | ((first | apply call_a E91 | apply call_q E91); exact (iha _); exact hK1 _ _ _)))) | (refine awp_seq_k fun K hK => ?_) | ((first | refine awp_region ?_ | refine awp_drawE (by kernel_rfl) ?_ | refine awp_draw (by kernel_rfl) ?_ | refine awp_block ?_ | refine awp_exit ?_ | refine awp_skip ?_ | refine awp_ret ?_); (try simp only [NB, simprocAttr])))
    all_goals simp only [EndP, FinP, resA, resL, resA1, lastV, lastA, lastAs, pur, purs, take_app, List.take_length, S1, simprocAttr, TTEvOa, Nat.le_add_right, Nat.le_refl]
    all_goals simp [e1]

theorem of_calls {v : Int → Int} (hv : ∀ i, Num (v i)) {t : Tm} {k : Bool} (ht : Good t k) : ∀ h : Heap, ACalls Tryd.prog G 91 [aT t, aV v] h (fun r h' => r = aV3 (ev v t) ∧ h' = h) := by
  induction ht with
  | num n h1 h2 => intro h; rw [ev_nil]; exact of_num v n h
  | var n hn => intro h; rw [ev_nil, if_neg (by decide)]; exact of_var v n hn h
  | neg a hg ih =>
    intro h
    refine ACalls.mono (of_neg v a ((ev_good hv hg).1 rfl) ih h) ?_
    rintro r h' ⟨rfl, rfl⟩
    exact ⟨by rw [ev_one, if_pos (rfl : (3 : Int) = 3)], rfl⟩
  | not a hg ih =>
    intro h
    refine ACalls.mono (of_not v a ih h) ?_
    rintro r h' ⟨rfl, rfl⟩
    exact ⟨by rw [ev_one, if_neg (by decide : ¬ (4 : Int) = 3)], rfl⟩
  | bin o a b h1 h2 ha hb iha ihb =>
    intro h
    refine ACalls.mono (of_bin v o h1 (by omega) a b ((ev_good hv ha).1 rfl) ((ev_good hv hb).1 rfl) iha ihb h) ?_
    rintro r h' ⟨rfl, rfl⟩
    exact ⟨by rw [ev_two, if_neg (show ¬ o = 13 by omega), if_neg (show ¬ o = 14 by omega)], rfl⟩
  | cmp o a b h1 h2 ha hb iha ihb =>
    intro h
    refine ACalls.mono (of_bin v o (by omega) h2 a b ((ev_good hv ha).1 rfl) ((ev_good hv hb).1 rfl) iha ihb h) ?_
    rintro r h' ⟨rfl, rfl⟩
    exact ⟨by rw [ev_two, if_neg (show ¬ o = 13 by omega), if_neg (show ¬ o = 14 by omega)], rfl⟩
  | log o a b ho ha hb iha ihb =>
    intro h
    refine ACalls.mono (of_log v o ho a b iha ihb h) ?_
    rintro r h' ⟨rfl, rfl⟩
    refine ⟨?_, rfl⟩
    rw [ev_two]
    rcases ho with rfl | rfl
    · rfl
    · rfl
end Go.Proofs.YtjpphhcimpclpaaDoor.AM
end

section
set_option linter.unusedVariables false
set_option linter.unusedSimpArgs false
set_option maxRecDepth 4000
set_option maxHeartbeats 4000000
namespace Go.Proofs.YtjpphhcimpclpaaDoor.AM
open Go Go.Proofs
set_option linter.defProp false in
def TTEvP := And.intro T2 (And.intro T3 (And.intro T4 (And.intro T27 T31)))
attribute [local irreducible] awp aops aqops
variable {G : Nat → Option (List PV)}

def inV (v : Int → Int) : Bool := inM (v 0) && inM (v 1) && inM (v 2) && inM (v 3)

theorem cN0 : ((0 : Nat) : Int) = 0 := rfl
theorem cN1 : ((1 : Nat) : Int) = 1 := rfl
theorem cN2 : ((2 : Nat) : Int) = 2 := rfl
theorem cN3 : ((3 : Nat) : Int) = 3 := rfl
theorem cN4 : ((4 : Nat) : Int) = 4 := rfl
theorem wl1 : IntKind.i64.wrap 1 = 1 := rfl
theorem wl2 : IntKind.i64.wrap 2 = 2 := rfl
theorem wl3 : IntKind.i64.wrap 3 = 3 := rfl
theorem wl4 : IntKind.i64.wrap 4 = 4 := rfl
theorem inV_of {v : Int → Int} (h : ∀ j : Nat, j < 4 → inM (v j) = true) : inV v = true := by
  have h0 := h 0 (by omega)
  have h1 := h 1 (by omega)
  have h2 := h 2 (by omega)
  have h3 := h 3 (by omega)
  unfold inV
  simp only [cN0, cN1, cN2, cN3] at h0 h1 h2 h3
  simp [h0, h1, h2, h3]

theorem fitsV_calls (v : Int → Int) (h : Heap) : ACalls Tryd.prog G 23 [.agg [.i (v 0), .i (v 1), .i (v 2), .i (v 3)]] h (fun r h' => r = .b (inV v) ∧ h' = h) := by
  refine acalls_pure (rl := []) mixed Tryd.func23 rfl (rs := [.tmp 2]) rfl Tryd.ntmps23 (by simp) ?_
  repeat' (first | ((first | refine aops_nil ?_ | refine aqops_nil ?_); (try simp only [NB])) | ((repeat ((fail_if_success (refine hK _ ?_)); clear hK K)); refine hK _ ?_; clear hK K) | ((first | refine aops_k fun K1 hK1 => ?_ | refine aqops_k fun K1 hK1 => ?_ | refine awp_cond_k fun A B hA hB => ?_); simp only [S1, simprocAttr, TTEvP]; first | (refine hK1 _ ?_; clear hK1 K1) | ((first | refine hA ?_ | refine hB ?_); clear hA hB A B) | (((first | (refine ⟨fun hg => hA ?_, fun hg => hB ?_⟩ <;> clear hA hB A B) | refine ⟨fun hg => ?_, fun hg => ?_⟩) <;> (try simp only [BN2] at hg) <;> (try simp only [hg, cond_true, cond_false])) <;> (try (refine hK1 _ ?_; clear hK1 K1)) <;> (try simp only [BN3] at hg))) | (refine awp_seq_k fun K hK => ?_) | ((first | refine awp_region ?_ | refine awp_draw (by kernel_rfl) ?_ | refine awp_block ?_ | refine awp_exit ?_ | refine awp_skip ?_ | refine awp_ret ?_); (try simp only [NB, simprocAttr])))
  refine awp_for 4 13 (fun i => [(6, .i i), (5, .agg [.i (v 0), .i (v 1), .i (v 2), .i (v 3)])]) (fun i => []) (fun i => ∀ j : Nat, j < i → inM (v j) = true) ?_ (fun j hj => absurd hj (Nat.not_lt_zero _)) fun i hi hp K hK => ?_
  · (refine ⟨rfl, (by first | exact ⟨_, rfl⟩ | exact ⟨[], by simp⟩), ?_, ?_⟩ <;> simp only [keeps, avlt, avlts, blksLt, frL, upd_get, S1, simprocAttr, List.length_map, Int.natCast_zero, AV.p.injEq, PV.int.injEq, PV.bool.injEq, PV.sl.injEq] <;> (try and_intros) <;> (try assumption) <;> (try trivial) <;> (try omega))
  have hw : IntKind.i64.wrap ((i : Int) + 1) = ((i + 1 : Nat) : Int) := by rw [IntWalk.i64_in _ (by omega)]; omega
  rcases (by omega : i = 0 ∨ i = 1 ∨ i = 2 ∨ i = 3 ∨ i = 4) with rfl | rfl | rfl | rfl | rfl
  all_goals
    repeat' (first | ((first | refine aops_nil ?_ | refine aqops_nil ?_); (try simp only [NB])) | ((repeat ((fail_if_success (refine hK _ ?_)); clear hK K)); refine hK _ ?_; clear hK K) | ((first | refine aops_k fun K1 hK1 => ?_ | refine aqops_k fun K1 hK1 => ?_ | refine awp_cond_k fun A B hA hB => ?_); simp only [S1, simprocAttr, TTEvP, cN0, cN1, cN2, cN3, cN4, Int.reduceAdd, wl1, wl2, wl3, wl4]; first | (refine hK1 _ ?_; clear hK1 K1) | ((first | refine hA ?_ | refine hB ?_); clear hA hB A B) | ((first | apply call_a E37 | apply call_q E37); exact (fits_calls _ _); (refine hK1 _ ?_; clear hK1 K1)) | (((first | (refine ⟨fun hg => hA ?_, fun hg => hB ?_⟩ <;> clear hA hB A B) | refine ⟨fun hg => ?_, fun hg => ?_⟩) <;> (try simp only [BN2] at hg) <;> (try simp only [hg, cond_true, cond_false])) <;> (try (refine hK1 _ ?_; clear hK1 K1)) <;> (try simp only [BN3] at hg))) | (refine awp_seq_k fun K hK => ?_) | ((first | refine awp_region ?_ | refine awp_draw (by kernel_rfl) ?_ | refine awp_block ?_ | refine awp_exit ?_ | refine awp_skip ?_ | refine awp_ret ?_); (try simp only [NB, simprocAttr])))
    all_goals first
      | (refine ⟨by omega, fun j hj => ?_, ?_⟩
         · rcases Nat.lt_succ_iff_lt_or_eq.mp hj with e | rfl
           · exact hp j e
           · exact hg
         · (refine ⟨rfl, (by first | exact ⟨_, rfl⟩ | exact ⟨[], by simp⟩), ?_, ?_⟩ <;> simp only [keeps, avlt, avlts, blksLt, frL, upd_get, S1, simprocAttr, List.length_map, Int.natCast_zero, AV.p.injEq, PV.int.injEq, PV.bool.injEq, PV.sl.injEq] <;> (try and_intros) <;> (try assumption) <;> (try trivial) <;> (try omega)))
      | (simp only [EndP, FinP, resA, resL, resA1, lastV, lastA, lastAs, pur, purs, take_app, List.take_length, S1, simprocAttr, TTEvP, Nat.le_add_right, Nat.le_refl]
         first
           | (rw [inV_of hp]; done)
           | (simp [inV, hg]; done))
theorem fits4_calls (v : Int → Int) (h : Heap) : ACalls Tryd.prog G 42 [.agg [.i (v 0), .i (v 1), .i (v 2), .i (v 3)]] h (fun r h' => r = .b (inV v) ∧ h' = h) := by
  refine acalls_pure (rl := []) mixed Tryd.func42 rfl (rs := [.tmp 2]) rfl Tryd.ntmps42 (by simp) ?_
  repeat' (first | ((first | refine aops_nil ?_ | refine aqops_nil ?_); (try simp only [NB])) | ((repeat ((fail_if_success (refine hK _ ?_)); clear hK K)); refine hK _ ?_; clear hK K) | ((first | refine aops_k fun K1 hK1 => ?_ | refine aqops_k fun K1 hK1 => ?_ | refine awp_cond_k fun A B hA hB => ?_); simp only [S1, simprocAttr, TTEvP]; first | (refine hK1 _ ?_; clear hK1 K1) | ((first | refine hA ?_ | refine hB ?_); clear hA hB A B) | (refine join_x (v := ?_) (fun hg hk9 => ?_) ?_; rotate_left; (focus (try ((try simp only [BN] at hg); simp only [S1, simprocAttr, TTEvP, hg] at hk9 ⊢)); first | exact hk9); (refine hK1 _ ?_; clear hK1 K1)) | (((first | (refine ⟨fun hg => hA ?_, fun hg => hB ?_⟩ <;> clear hA hB A B) | refine ⟨fun hg => ?_, fun hg => ?_⟩) <;> (try simp only [BN2] at hg) <;> (try simp only [hg, cond_true, cond_false])) <;> (try (refine hK1 _ ?_; clear hK1 K1)) <;> (try simp only [BN3] at hg))) | (refine awp_seq_k fun K hK => ?_) | ((first | refine awp_region ?_ | refine awp_draw (by kernel_rfl) ?_ | refine awp_block ?_ | refine awp_exit ?_ | refine awp_skip ?_ | refine awp_ret ?_); (try simp only [NB, simprocAttr])))
  refine awp_for 4 18 (fun i => [(3, .i i), (1, .ptr h.length 0 0)]) (fun i => [some ⟨0, [.i (v 0), .i (v 1), .i (v 2), .i (v 3)]⟩]) (fun i => ∀ j : Nat, j < i → inM (v j) = true) ?_ (fun j hj => absurd hj (Nat.not_lt_zero _)) fun i hi hp K hK => ?_
  · (refine ⟨rfl, (by first | exact ⟨_, rfl⟩ | exact ⟨[], by simp⟩), ?_, ?_⟩ <;> simp only [keeps, avlt, avlts, blksLt, frL, upd_get, S1, simprocAttr, List.length_map, Int.natCast_zero, AV.p.injEq, PV.int.injEq, PV.bool.injEq, PV.sl.injEq] <;> (try and_intros) <;> (try assumption) <;> (try trivial) <;> (try omega))
  rcases (by omega : i = 0 ∨ i = 1 ∨ i = 2 ∨ i = 3 ∨ i = 4) with rfl | rfl | rfl | rfl | rfl
  all_goals
    repeat' (first | ((first | refine aops_nil ?_ | refine aqops_nil ?_); (try simp only [NB])) | ((repeat ((fail_if_success (refine hK _ ?_)); clear hK K)); refine hK _ ?_; clear hK K) | ((first | refine aops_k fun K1 hK1 => ?_ | refine aqops_k fun K1 hK1 => ?_ | refine awp_cond_k fun A B hA hB => ?_); simp only [S1, simprocAttr, TTEvP, cN0, cN1, cN2, cN3, cN4, Int.reduceAdd, wl1, wl2, wl3, wl4]; first | (refine hK1 _ ?_; clear hK1 K1) | ((first | refine hA ?_ | refine hB ?_); clear hA hB A B) | (refine join_x (v := ?_) (fun hg hk9 => ?_) ?_; rotate_left; (focus (try ((try simp only [BN] at hg); simp only [S1, simprocAttr, TTEvP, cN0, cN1, cN2, cN3, cN4, Int.reduceAdd, wl1, wl2, wl3, wl4, hg] at hk9 ⊢)); first | exact hk9); (refine hK1 _ ?_; clear hK1 K1)) | (((first | (refine ⟨fun hg => hA ?_, fun hg => hB ?_⟩ <;> clear hA hB A B) | refine ⟨fun hg => ?_, fun hg => ?_⟩) <;> (try simp only [BN2] at hg) <;> (try simp only [hg, cond_true, cond_false])) <;> (try (refine hK1 _ ?_; clear hK1 K1)) <;> (try simp only [BN3] at hg))) | (refine awp_seq_k fun K hK => ?_) | ((first | refine awp_region ?_ | refine awp_draw (by kernel_rfl) ?_ | refine awp_block ?_ | refine awp_exit ?_ | refine awp_skip ?_ | refine awp_ret ?_); (try simp only [NB, simprocAttr])))
    all_goals first
      | (refine ⟨by omega, fun j hj => ?_, ?_⟩
         · rcases Nat.lt_succ_iff_lt_or_eq.mp hj with e | rfl
           · exact hp j e
           · simp [inM] at hg ⊢; omega
         · (refine ⟨rfl, (by first | exact ⟨_, rfl⟩ | exact ⟨[], by simp⟩), ?_, ?_⟩ <;> simp only [keeps, avlt, avlts, blksLt, frL, upd_get, S1, simprocAttr, List.length_map, Int.natCast_zero, AV.p.injEq, PV.int.injEq, PV.bool.injEq, PV.sl.injEq] <;> (try and_intros) <;> (try assumption) <;> (try trivial) <;> (try omega)))
      | (simp only [EndP, FinP, resA, resL, resA1, lastV, lastA, lastAs, pur, purs, take_app, List.take_length, S1, simprocAttr, TTEvP, Nat.le_add_right, Nat.le_refl]
         first
           | (rw [inV_of hp]; done)
           | (simp [inV, inM] at hg ⊢; omega))
end Go.Proofs.YtjpphhcimpclpaaDoor.AM
end

section
set_option linter.unusedVariables false
set_option linter.unusedSimpArgs false
set_option maxRecDepth 4000
set_option maxHeartbeats 4000000
namespace Go.Proofs.YtjpphhcimpclpaaDoor.AM
open Go Go.Proofs
set_option linter.defProp false in
attribute [local irreducible] awp aops aqops

def askN (t : Tm) (v : Int → Int) (k : Int) : Int := if (checkN t).2 ≠ 0 then (checkN t).2 else if (checkN t).1 ≠ k then 30 else if inV v then 0 else 1

theorem ask_good {t : Tm} {v : Int → Int} {k : Int} (h : askN t v k = 0) : Good t (truthOp t.op) ∧ inV v = true ∧ outN t.op = k := by
  unfold askN at h
  by_cases h1 : (checkN t).2 = 0
  · rw [if_neg (by simpa using h1)] at h
    by_cases h2 : (checkN t).1 = k
    · rw [if_neg (by simpa using h2)] at h
      have hv : inV v = true := by
        cases hh : inV v with
        | true => rfl
        | false => rw [hh] at h; simp at h
      unfold checkN at h1 h2
      by_cases hw : wrongN t = 0
      · rw [if_neg (by simpa using hw)] at h1 h2
        cases hty : t.typed with
        | true =>
          rw [hty] at h1 h2
          have hf : t.form = true := by
            unfold wrongN at hw
            split at hw
            · cases hw
            · split at hw
              · assumption
              · cases hw
          exact ⟨good_of t hf hty, hv, by simpa using h2⟩
        | false => rw [hty] at h1; simp at h1
      · rw [if_pos hw] at h1; exact absurd h1 hw
    · rw [if_pos h2] at h; cases h
  · rw [if_pos h1] at h; exact absurd h h1
def numR (t : Tm) (v : Int → Int) : Int × Int := if askN t v 1 ≠ 0 then (0, askN t v 1) else ((ev v t).1, (ev v t).2.2)
def truR (t : Tm) (v : Int → Int) : Bool × Int := if askN t v 2 ≠ 0 then (false, askN t v 2) else ((ev v t).2.1, (ev v t).2.2)

end Go.Proofs.YtjpphhcimpclpaaDoor.AM
end

section
set_option linter.unusedVariables false
set_option linter.unusedSimpArgs false
set_option maxRecDepth 4000
set_option maxHeartbeats 4000000
namespace Go.Proofs.YtjpphhcimpclpaaDoor.AM
open Go Go.Proofs
set_option linter.defProp false in
def TTEvOc := And.intro T2 (And.intro T3 (And.intro T4 (And.intro T27 (And.intro T58 T142))))
attribute [local irreducible] awp aops aqops aeops arun arunT

theorem Asked_calls {n : Nat} {t : Tm} (ht : Tm.Ok n t) (hn : n ≤ 200) (v : Int → Int) (k : Int) (h : Heap) : ACalls Tryd.prog gW 90 [aT t, aV v, .i k] h (fun r h' => r = .i (askN t v k) ∧ h' = h) := by
  by_cases e1 : (checkN t).2 = 0
  · have f1 : ((checkN t).2 != 0) = false := by simp [e1]
    by_cases e2 : (checkN t).1 = k
    · have f2 : ((checkN t).1 != k) = false := by simp [e2]
      refine acalls_pure (rl := []) mixed Tryd.func90 rfl (rs := [.tmp 6]) rfl Tryd.ntmps90 (by simp) ?_
      repeat' (first | ((first | refine aops_nil ?_ | refine aqops_nil ?_ | refine aeops_nil ?_); (try simp only [NB])) | ((repeat ((fail_if_success (refine hK _ ?_)); clear hK K)); refine hK _ ?_; clear hK K) | ((first | refine aops_k fun K1 hK1 => ?_ | refine aqops_k fun K1 hK1 => ?_ | refine aeops_eff rfl fun K1 hK1 => ?_ | refine awp_cond_k fun A B hA hB => ?_); simp only [S1, simprocAttr, TTEvOc, f1, f2]; first | (refine hK1 _ ?_; clear hK1 K1) | ((first | refine hA ?_ | refine hB ?_); clear hA hB A B) | ((first | apply call_a E98 | apply call_q E98); exact (check3_calls ht hn _); (refine hK1 _ ?_; clear hK1 K1)) | ((first | apply call_a E42 | apply call_q E42); exact (fits4_calls v _); (refine hK1 _ ?_; clear hK1 K1)) | (((first | (refine ⟨fun hg => hA ?_, fun hg => hB ?_⟩ <;> clear hA hB A B) | refine ⟨fun hg => ?_, fun hg => ?_⟩) <;> (try simp only [BN2] at hg) <;> (try simp only [hg, cond_true, cond_false])) <;> (try (refine hK1 _ ?_; clear hK1 K1)) <;> (try simp only [BN3] at hg))) | (refine aeops_q (v := ?_) rfl rfl (by decide) (fun L K1 hK1 => ?_) ?_; rotate_left; (focus (simp only [S1, simprocAttr, TTEvOc, f1, f2]; first | (exact hK1 _ _ _) | ((first | apply call_a E98 | apply call_q E98); exact (check3_calls ht hn _); exact hK1 _ _ _) | ((first | apply call_a E42 | apply call_q E42); exact (fits4_calls v _); exact hK1 _ _ _)))) | (refine awp_seq_k fun K hK => ?_) | ((first | refine awp_region ?_ | refine awp_drawE (by kernel_rfl) ?_ | refine awp_draw (by kernel_rfl) ?_ | refine awp_block ?_ | refine awp_exit ?_ | refine awp_skip ?_ | refine awp_ret ?_); (try simp only [NB, simprocAttr])))
      all_goals simp only [EndP, FinP, resA, resL, resA1, lastV, lastA, lastAs, pur, purs, take_app, List.take_length, S1, simprocAttr, TTEvOc, Nat.le_add_right, Nat.le_refl]
      all_goals simp_all [askN]
    · have f2 : ((checkN t).1 != k) = true := by simp [e2]
      refine acalls_pure (rl := []) mixed Tryd.func90 rfl (rs := [.tmp 6]) rfl Tryd.ntmps90 (by simp) ?_
      repeat' (first | ((first | refine aops_nil ?_ | refine aqops_nil ?_ | refine aeops_nil ?_); (try simp only [NB])) | ((repeat ((fail_if_success (refine hK _ ?_)); clear hK K)); refine hK _ ?_; clear hK K) | ((first | refine aops_k fun K1 hK1 => ?_ | refine aqops_k fun K1 hK1 => ?_ | refine aeops_eff rfl fun K1 hK1 => ?_ | refine awp_cond_k fun A B hA hB => ?_); simp only [S1, simprocAttr, TTEvOc, f1, f2]; first | (refine hK1 _ ?_; clear hK1 K1) | ((first | refine hA ?_ | refine hB ?_); clear hA hB A B) | ((first | apply call_a E98 | apply call_q E98); exact (check3_calls ht hn _); (refine hK1 _ ?_; clear hK1 K1)) | ((first | apply call_a E42 | apply call_q E42); exact (fits4_calls v _); (refine hK1 _ ?_; clear hK1 K1)) | (((first | (refine ⟨fun hg => hA ?_, fun hg => hB ?_⟩ <;> clear hA hB A B) | refine ⟨fun hg => ?_, fun hg => ?_⟩) <;> (try simp only [BN2] at hg) <;> (try simp only [hg, cond_true, cond_false])) <;> (try (refine hK1 _ ?_; clear hK1 K1)) <;> (try simp only [BN3] at hg))) | (refine aeops_q (v := ?_) rfl rfl (by decide) (fun L K1 hK1 => ?_) ?_; rotate_left; (focus (simp only [S1, simprocAttr, TTEvOc, f1, f2]; first | (exact hK1 _ _ _) | ((first | apply call_a E98 | apply call_q E98); exact (check3_calls ht hn _); exact hK1 _ _ _) | ((first | apply call_a E42 | apply call_q E42); exact (fits4_calls v _); exact hK1 _ _ _)))) | (refine awp_seq_k fun K hK => ?_) | ((first | refine awp_region ?_ | refine awp_drawE (by kernel_rfl) ?_ | refine awp_draw (by kernel_rfl) ?_ | refine awp_block ?_ | refine awp_exit ?_ | refine awp_skip ?_ | refine awp_ret ?_); (try simp only [NB, simprocAttr])))
      all_goals simp only [EndP, FinP, resA, resL, resA1, lastV, lastA, lastAs, pur, purs, take_app, List.take_length, S1, simprocAttr, TTEvOc, Nat.le_add_right, Nat.le_refl]
      all_goals simp_all [askN]
  · have f1 : ((checkN t).2 != 0) = true := by simp [e1]
    refine acalls_pure (rl := []) mixed Tryd.func90 rfl (rs := [.tmp 6]) rfl Tryd.ntmps90 (by simp) ?_
    repeat' (first | ((first | refine aops_nil ?_ | refine aqops_nil ?_ | refine aeops_nil ?_); (try simp only [NB])) | ((repeat ((fail_if_success (refine hK _ ?_)); clear hK K)); refine hK _ ?_; clear hK K) | ((first | refine aops_k fun K1 hK1 => ?_ | refine aqops_k fun K1 hK1 => ?_ | refine aeops_eff rfl fun K1 hK1 => ?_ | refine awp_cond_k fun A B hA hB => ?_); simp only [S1, simprocAttr, TTEvOc, f1]; first | (refine hK1 _ ?_; clear hK1 K1) | ((first | refine hA ?_ | refine hB ?_); clear hA hB A B) | ((first | apply call_a E98 | apply call_q E98); exact (check3_calls ht hn _); (refine hK1 _ ?_; clear hK1 K1)) | ((first | apply call_a E42 | apply call_q E42); exact (fits4_calls v _); (refine hK1 _ ?_; clear hK1 K1)) | (((first | (refine ⟨fun hg => hA ?_, fun hg => hB ?_⟩ <;> clear hA hB A B) | refine ⟨fun hg => ?_, fun hg => ?_⟩) <;> (try simp only [BN2] at hg) <;> (try simp only [hg, cond_true, cond_false])) <;> (try (refine hK1 _ ?_; clear hK1 K1)) <;> (try simp only [BN3] at hg))) | (refine aeops_q (v := ?_) rfl rfl (by decide) (fun L K1 hK1 => ?_) ?_; rotate_left; (focus (simp only [S1, simprocAttr, TTEvOc, f1]; first | (exact hK1 _ _ _) | ((first | apply call_a E98 | apply call_q E98); exact (check3_calls ht hn _); exact hK1 _ _ _) | ((first | apply call_a E42 | apply call_q E42); exact (fits4_calls v _); exact hK1 _ _ _)))) | (refine awp_seq_k fun K hK => ?_) | ((first | refine awp_region ?_ | refine awp_drawE (by kernel_rfl) ?_ | refine awp_draw (by kernel_rfl) ?_ | refine awp_block ?_ | refine awp_exit ?_ | refine awp_skip ?_ | refine awp_ret ?_); (try simp only [NB, simprocAttr])))
    all_goals simp only [EndP, FinP, resA, resL, resA1, lastV, lastA, lastAs, pur, purs, take_app, List.take_length, S1, simprocAttr, TTEvOc, Nat.le_add_right, Nat.le_refl]
    all_goals simp_all [askN]

theorem rNumber_calls {n : Nat} {t : Tm} (ht : Tm.Ok n t) (hn : n ≤ 200) (v : Int → Int) (hv : inV v = true → ∀ i, Num (v i)) (h : Heap) : ACalls Tryd.prog gW 69 [aT t, aV v] h (fun r h' => r = .tup [.i (numR t v).1, .i (numR t v).2] ∧ h' = h) := by
  by_cases e : askN t v 1 = 0
  · obtain ⟨g1, g2, g3⟩ := ask_good e
    have hA := fun h => Asked_calls ht hn v 1 h
    rw [e] at hA
    refine acalls_pure (rl := []) mixed Tryd.func69 rfl (rs := [.tmp 4, .tmp 5]) rfl Tryd.ntmps69 (by simp) ?_
    repeat' (first | ((first | refine aops_nil ?_ | refine aqops_nil ?_ | refine aeops_nil ?_); (try simp only [NB])) | ((repeat ((fail_if_success (refine hK _ ?_)); clear hK K)); refine hK _ ?_; clear hK K) | ((first | refine aops_k fun K1 hK1 => ?_ | refine aqops_k fun K1 hK1 => ?_ | refine aeops_eff rfl fun K1 hK1 => ?_ | refine awp_cond_k fun A B hA hB => ?_); simp only [S1, simprocAttr, TTEvOc]; first | (refine hK1 _ ?_; clear hK1 K1) | ((first | refine hA ?_ | refine hB ?_); clear hA hB A B) | ((first | apply call_a E90 | apply call_q E90); exact (hA _); (refine hK1 _ ?_; clear hK1 K1)) | ((first | apply call_a E91 | apply call_q E91); exact (of_calls (hv g2) g1 _); (refine hK1 _ ?_; clear hK1 K1)) | (((first | (refine ⟨fun hg => hA ?_, fun hg => hB ?_⟩ <;> clear hA hB A B) | refine ⟨fun hg => ?_, fun hg => ?_⟩) <;> (try simp only [BN2] at hg) <;> (try simp only [hg, cond_true, cond_false])) <;> (try (refine hK1 _ ?_; clear hK1 K1)) <;> (try simp only [BN3] at hg))) | (refine aeops_q (v := ?_) rfl rfl (by decide) (fun L K1 hK1 => ?_) ?_; rotate_left; (focus (simp only [S1, simprocAttr, TTEvOc]; first | (exact hK1 _ _ _) | ((first | apply call_a E90 | apply call_q E90); exact (hA _); exact hK1 _ _ _) | ((first | apply call_a E91 | apply call_q E91); exact (of_calls (hv g2) g1 _); exact hK1 _ _ _)))) | (refine awp_seq_k fun K hK => ?_) | ((first | refine awp_region ?_ | refine awp_drawE (by kernel_rfl) ?_ | refine awp_draw (by kernel_rfl) ?_ | refine awp_block ?_ | refine awp_exit ?_ | refine awp_skip ?_ | refine awp_ret ?_); (try simp only [NB, simprocAttr])))
    all_goals simp only [EndP, FinP, resA, resL, resA1, lastV, lastA, lastAs, pur, purs, take_app, List.take_length, S1, simprocAttr, TTEvOc, Nat.le_add_right, Nat.le_refl]
    all_goals simp [numR, e]
  · have f1 : (askN t v 1 != 0) = true := by simp [e]
    refine acalls_pure (rl := []) mixed Tryd.func69 rfl (rs := [.tmp 4, .tmp 5]) rfl Tryd.ntmps69 (by simp) ?_
    repeat' (first | ((first | refine aops_nil ?_ | refine aqops_nil ?_ | refine aeops_nil ?_); (try simp only [NB])) | ((repeat ((fail_if_success (refine hK _ ?_)); clear hK K)); refine hK _ ?_; clear hK K) | ((first | refine aops_k fun K1 hK1 => ?_ | refine aqops_k fun K1 hK1 => ?_ | refine aeops_eff rfl fun K1 hK1 => ?_ | refine awp_cond_k fun A B hA hB => ?_); simp only [S1, simprocAttr, TTEvOc, f1]; first | (refine hK1 _ ?_; clear hK1 K1) | ((first | refine hA ?_ | refine hB ?_); clear hA hB A B) | ((first | apply call_a E90 | apply call_q E90); exact (Asked_calls ht hn v 1 _); (refine hK1 _ ?_; clear hK1 K1)) | (((first | (refine ⟨fun hg => hA ?_, fun hg => hB ?_⟩ <;> clear hA hB A B) | refine ⟨fun hg => ?_, fun hg => ?_⟩) <;> (try simp only [BN2] at hg) <;> (try simp only [hg, cond_true, cond_false])) <;> (try (refine hK1 _ ?_; clear hK1 K1)) <;> (try simp only [BN3] at hg))) | (refine aeops_q (v := ?_) rfl rfl (by decide) (fun L K1 hK1 => ?_) ?_; rotate_left; (focus (simp only [S1, simprocAttr, TTEvOc, f1]; first | (exact hK1 _ _ _) | ((first | apply call_a E90 | apply call_q E90); exact (Asked_calls ht hn v 1 _); exact hK1 _ _ _)))) | (refine awp_seq_k fun K hK => ?_) | ((first | refine awp_region ?_ | refine awp_drawE (by kernel_rfl) ?_ | refine awp_draw (by kernel_rfl) ?_ | refine awp_block ?_ | refine awp_exit ?_ | refine awp_skip ?_ | refine awp_ret ?_); (try simp only [NB, simprocAttr])))
    all_goals simp only [EndP, FinP, resA, resL, resA1, lastV, lastA, lastAs, pur, purs, take_app, List.take_length, S1, simprocAttr, TTEvOc, Nat.le_add_right, Nat.le_refl]
    all_goals simp [numR, e]

theorem rTruth_calls {n : Nat} {t : Tm} (ht : Tm.Ok n t) (hn : n ≤ 200) (v : Int → Int) (hv : inV v = true → ∀ i, Num (v i)) (h : Heap) : ACalls Tryd.prog gW 92 [aT t, aV v] h (fun r h' => r = .tup [.b (truR t v).1, .i (truR t v).2] ∧ h' = h) := by
  by_cases e : askN t v 2 = 0
  · obtain ⟨g1, g2, g3⟩ := ask_good e
    have hA := fun h => Asked_calls ht hn v 2 h
    rw [e] at hA
    refine acalls_pure (rl := []) mixed Tryd.func92 rfl (rs := [.tmp 4, .tmp 5]) rfl Tryd.ntmps92 (by simp) ?_
    repeat' (first | ((first | refine aops_nil ?_ | refine aqops_nil ?_ | refine aeops_nil ?_); (try simp only [NB])) | ((repeat ((fail_if_success (refine hK _ ?_)); clear hK K)); refine hK _ ?_; clear hK K) | ((first | refine aops_k fun K1 hK1 => ?_ | refine aqops_k fun K1 hK1 => ?_ | refine aeops_eff rfl fun K1 hK1 => ?_ | refine awp_cond_k fun A B hA hB => ?_); simp only [S1, simprocAttr, TTEvOc]; first | (refine hK1 _ ?_; clear hK1 K1) | ((first | refine hA ?_ | refine hB ?_); clear hA hB A B) | ((first | apply call_a E90 | apply call_q E90); exact (hA _); (refine hK1 _ ?_; clear hK1 K1)) | ((first | apply call_a E91 | apply call_q E91); exact (of_calls (hv g2) g1 _); (refine hK1 _ ?_; clear hK1 K1)) | (((first | (refine ⟨fun hg => hA ?_, fun hg => hB ?_⟩ <;> clear hA hB A B) | refine ⟨fun hg => ?_, fun hg => ?_⟩) <;> (try simp only [BN2] at hg) <;> (try simp only [hg, cond_true, cond_false])) <;> (try (refine hK1 _ ?_; clear hK1 K1)) <;> (try simp only [BN3] at hg))) | (refine aeops_q (v := ?_) rfl rfl (by decide) (fun L K1 hK1 => ?_) ?_; rotate_left; (focus (simp only [S1, simprocAttr, TTEvOc]; first | (exact hK1 _ _ _) | ((first | apply call_a E90 | apply call_q E90); exact (hA _); exact hK1 _ _ _) | ((first | apply call_a E91 | apply call_q E91); exact (of_calls (hv g2) g1 _); exact hK1 _ _ _)))) | (refine awp_seq_k fun K hK => ?_) | ((first | refine awp_region ?_ | refine awp_drawE (by kernel_rfl) ?_ | refine awp_draw (by kernel_rfl) ?_ | refine awp_block ?_ | refine awp_exit ?_ | refine awp_skip ?_ | refine awp_ret ?_); (try simp only [NB, simprocAttr])))
    all_goals simp only [EndP, FinP, resA, resL, resA1, lastV, lastA, lastAs, pur, purs, take_app, List.take_length, S1, simprocAttr, TTEvOc, Nat.le_add_right, Nat.le_refl]
    all_goals simp [truR, e]
  · have f1 : (askN t v 2 != 0) = true := by simp [e]
    refine acalls_pure (rl := []) mixed Tryd.func92 rfl (rs := [.tmp 4, .tmp 5]) rfl Tryd.ntmps92 (by simp) ?_
    repeat' (first | ((first | refine aops_nil ?_ | refine aqops_nil ?_ | refine aeops_nil ?_); (try simp only [NB])) | ((repeat ((fail_if_success (refine hK _ ?_)); clear hK K)); refine hK _ ?_; clear hK K) | ((first | refine aops_k fun K1 hK1 => ?_ | refine aqops_k fun K1 hK1 => ?_ | refine aeops_eff rfl fun K1 hK1 => ?_ | refine awp_cond_k fun A B hA hB => ?_); simp only [S1, simprocAttr, TTEvOc, f1]; first | (refine hK1 _ ?_; clear hK1 K1) | ((first | refine hA ?_ | refine hB ?_); clear hA hB A B) | ((first | apply call_a E90 | apply call_q E90); exact (Asked_calls ht hn v 2 _); (refine hK1 _ ?_; clear hK1 K1)) | (((first | (refine ⟨fun hg => hA ?_, fun hg => hB ?_⟩ <;> clear hA hB A B) | refine ⟨fun hg => ?_, fun hg => ?_⟩) <;> (try simp only [BN2] at hg) <;> (try simp only [hg, cond_true, cond_false])) <;> (try (refine hK1 _ ?_; clear hK1 K1)) <;> (try simp only [BN3] at hg))) | (refine aeops_q (v := ?_) rfl rfl (by decide) (fun L K1 hK1 => ?_) ?_; rotate_left; (focus (simp only [S1, simprocAttr, TTEvOc, f1]; first | (exact hK1 _ _ _) | ((first | apply call_a E90 | apply call_q E90); exact (Asked_calls ht hn v 2 _); exact hK1 _ _ _)))) | (refine awp_seq_k fun K hK => ?_) | ((first | refine awp_region ?_ | refine awp_drawE (by kernel_rfl) ?_ | refine awp_draw (by kernel_rfl) ?_ | refine awp_block ?_ | refine awp_exit ?_ | refine awp_skip ?_ | refine awp_ret ?_); (try simp only [NB, simprocAttr])))
    all_goals simp only [EndP, FinP, resA, resL, resA1, lastV, lastA, lastAs, pur, purs, take_app, List.take_length, S1, simprocAttr, TTEvOc, Nat.le_add_right, Nat.le_refl]
    all_goals simp [truR, e]

end Go.Proofs.YtjpphhcimpclpaaDoor.AM
end

section
set_option linter.unusedVariables false
set_option linter.unusedSimpArgs false
set_option maxRecDepth 4000
set_option maxHeartbeats 4000000
namespace Go.Proofs.YtjpphhcimpclpaaDoor.AM
open Go Go.Proofs
set_option linter.defProp false in
def TTToF := And.intro T2 (And.intro T3 (And.intro T4 (And.intro T23 (And.intro T25 (And.intro T27 (And.intro T40 (And.intro T56 (And.intro T58 (And.intro T71 T129)))))))))
attribute [local irreducible] awp aops aqops aeops arun arunT

/-- The first flow whose condition is true, or whose condition is a fault; no Else. -/
def chF (fl : List Fl) (v : Int → Int) : List Int → Option (Int × Int)
  | [] => none
  | f :: r => match fl[f.toNat]? with
    | none => chF fl v r
    | some x => if x.els = true then chF fl v r else if (truR x.cond v).2 ≠ 0 then some (0, (truR x.cond v).2) else if (truR x.cond v).1 = true then some (f, 0) else chF fl v r
/-- The first Else. -/
def chE (fl : List Fl) : List Int → Int
  | [] => 0
  | f :: r => if elsAt fl f = true then f else chE fl r
def chooseG (fl : List Fl) (v : Int → Int) (outs : List Int) : Int × Int := (chF fl v outs).getD (chE fl outs, 0)

theorem chF_step {fl : List Fl} {v : Int → Int} {outs : List Int} {i : Nat} {f : Int} (h : outs[i]? = some f) : chF fl v (outs.drop i) = match fl[f.toNat]? with
    | none => chF fl v (outs.drop (i + 1))
    | some x => if x.els = true then chF fl v (outs.drop (i + 1)) else if (truR x.cond v).2 ≠ 0 then some (0, (truR x.cond v).2) else if (truR x.cond v).1 = true then some (f, 0) else chF fl v (outs.drop (i + 1)) := by
  obtain ⟨hi, e⟩ := List.getElem?_eq_some_iff.mp h
  rw [List.drop_eq_getElem_cons hi, e]; rfl
theorem chE_step {fl : List Fl} {outs : List Int} {i : Nat} {f : Int} (h : outs[i]? = some f) : chE fl (outs.drop i) = if elsAt fl f = true then f else chE fl (outs.drop (i + 1)) := by
  obtain ⟨hi, e⟩ := List.getElem?_eq_some_iff.mp h
  rw [List.drop_eq_getElem_cons hi, e]; rfl

theorem choose_calls (ns : List Nd) (fl : List Fl) (ok : NetOk ns fl) (outs : List Int) (hlen : outs.length ≤ 100) (ho : ∀ x ∈ outs, ∃ i : Nat, x = (i : Int) ∧ i < fl.length) (v : Int → Int) (hv : inV v = true → ∀ i, Num (v i)) (h : Heap) :
    ACalls Tryd.prog gW 71 [aNet ns fl, aI outs, aV v] h (fun r h' => r = .agg [.i (chooseG fl v outs).1, .i (chooseG fl v outs).2] ∧ h' = h) := by
  obtain ⟨m2, hm2, ht2⟩ := ok.tf
  refine acalls_pure (rl := []) mixed Tryd.func71 rfl (rs := [.cell 6 129]) rfl Tryd.ntmps71 (by simp) ?_
  repeat' (first | ((first | refine aops_nil ?_ | refine aqops_nil ?_); (try simp only [NB])) | ((repeat ((fail_if_success (refine hK _ ?_)); clear hK K)); refine hK _ ?_; clear hK K) | ((first | refine aops_k fun K1 hK1 => ?_ | refine aqops_k fun K1 hK1 => ?_ | refine awp_cond_k fun A B hA hB => ?_); simp only [S1, simprocAttr, TTToF, List.length_map]; first | (refine hK1 _ ?_; clear hK1 K1) | ((first | refine hA ?_ | refine hB ?_); clear hA hB A B) | (((first | (refine ⟨fun hg => hA ?_, fun hg => hB ?_⟩ <;> clear hA hB A B) | refine ⟨fun hg => ?_, fun hg => ?_⟩) <;> (try simp only [BN2] at hg) <;> (try simp only [hg, cond_true, cond_false])) <;> (try (refine hK1 _ ?_; clear hK1 K1)) <;> (try simp only [BN3] at hg))) | (refine awp_seq_k fun K hK => ?_) | ((first | refine awp_region ?_ | refine awp_draw (by kernel_rfl) ?_ | refine awp_block ?_ | refine awp_exit ?_ | refine awp_skip ?_ | refine awp_ret ?_); (try simp only [NB, simprocAttr])))
  refine awp_for outs.length 60 (fun i => [(15, .i i), (14, .i outs.length), (13, aI outs), (6, .ptr (h.length + 2) 0 0), (5, .ptr (h.length + 1) 0 0), (3, .ptr h.length 0 0), (1, aI outs)])
    (fun i => [some ⟨0, cNet ns fl⟩, some ⟨0, [.i (v 0), .i (v 1), .i (v 2), .i (v 3)]⟩, some ⟨0, [.i 0, .i 0]⟩]) (fun i => chF fl v outs = chF fl v (outs.drop i)) ?_ rfl fun i hi hp K hK => ?_
  · (refine ⟨rfl, (by first | exact ⟨_, rfl⟩ | exact ⟨[], by simp⟩), ?_, ?_⟩ <;> simp only [keeps, avlt, avlts, blksLt, frL, upd_get, S1, simprocAttr, List.length_map, Int.natCast_zero, AV.p.injEq, PV.int.injEq, PV.bool.injEq, PV.sl.injEq] <;> (try and_intros) <;> (try assumption) <;> (try trivial) <;> (try omega))
  rcases Nat.lt_or_ge i outs.length with hlt | hge
  · obtain ⟨f, hf⟩ : ∃ f, outs[i]? = some f := ⟨_, List.getElem?_eq_getElem hlt⟩
    obtain ⟨j, rfl, hj⟩ := ho f (List.mem_of_getElem? hf)
    obtain ⟨x, hx⟩ : ∃ x, fl[j]? = some x := ⟨_, List.getElem?_eq_getElem hj⟩
    have hx' := rowF hx
    have j0 : (0 : Int) ≤ (j : Int) := by omega
    have ht := fun h => rTruth_calls (ht2 x (List.mem_of_getElem? hx)) hm2 v hv h
    rw [chF_step hf, Int.toNat_natCast, hx] at hp
    simp only at hp
    cases he : x.els with
    | true =>
      rw [he, if_pos rfl] at hp
      repeat' (first | ((first | refine aops_nil ?_ | refine aqops_nil ?_); (try simp only [NB])) | ((repeat ((fail_if_success (refine hK _ ?_)); clear hK K)); refine hK _ ?_; clear hK K) | ((first | refine aops_k fun K1 hK1 => ?_ | refine aqops_k fun K1 hK1 => ?_ | refine awp_cond_k fun A B hA hB => ?_); simp only [S1, simprocAttr, TTToF, rowI hf, hitI hlt, nextI (by omega) hlt, j0, hx', eF, he, Int.toNat_natCast, List.length_map]; first | (refine hK1 _ ?_; clear hK1 K1) | ((first | refine hA ?_ | refine hB ?_); clear hA hB A B) | (((first | (refine ⟨fun hg => hA ?_, fun hg => hB ?_⟩ <;> clear hA hB A B) | refine ⟨fun hg => ?_, fun hg => ?_⟩) <;> (try simp only [BN2] at hg) <;> (try simp only [hg, cond_true, cond_false])) <;> (try (refine hK1 _ ?_; clear hK1 K1)) <;> (try simp only [BN3] at hg))) | (refine awp_seq_k fun K hK => ?_) | ((first | refine awp_region ?_ | refine awp_draw (by kernel_rfl) ?_ | refine awp_block ?_ | refine awp_exit ?_ | refine awp_skip ?_ | refine awp_ret ?_); (try simp only [NB, simprocAttr])))
      all_goals exact ⟨hlt, hp, by (refine ⟨rfl, (by first | exact ⟨_, rfl⟩ | exact ⟨[], by simp⟩), ?_, ?_⟩ <;> simp only [keeps, avlt, avlts, blksLt, frL, upd_get, S1, simprocAttr, List.length_map, Int.natCast_zero, AV.p.injEq, PV.int.injEq, PV.bool.injEq, PV.sl.injEq] <;> (try and_intros) <;> (try assumption) <;> (try trivial) <;> (try omega))⟩
    | false =>
      rw [he, if_neg (by decide)] at hp
      by_cases h0 : (truR x.cond v).2 = 0
      · have h0' : ((truR x.cond v).2 != 0) = false := by simp [h0]
        rw [if_neg (by simpa using h0)] at hp
        cases hb : (truR x.cond v).1 with
        | true =>
          rw [hb, if_pos rfl] at hp
          have ec : chooseG fl v outs = ((j : Int), 0) := by unfold chooseG; rw [hp]; rfl
          rw [ec]
          repeat' (first | ((first | refine aops_nil ?_ | refine aqops_nil ?_); (try simp only [NB])) | ((repeat ((fail_if_success (refine hK _ ?_)); clear hK K)); refine hK _ ?_; clear hK K) | ((first | refine aops_k fun K1 hK1 => ?_ | refine aqops_k fun K1 hK1 => ?_ | refine awp_cond_k fun A B hA hB => ?_); simp only [S1, simprocAttr, TTToF, rowI hf, hitI hlt, nextI (by omega) hlt, j0, hx', eF, he, h0', hb, Int.toNat_natCast, List.length_map]; first | (refine hK1 _ ?_; clear hK1 K1) | ((first | refine hA ?_ | refine hB ?_); clear hA hB A B) | ((first | apply call_a E92 | apply call_q E92); exact (ht _); (refine hK1 _ ?_; clear hK1 K1)) | (((first | (refine ⟨fun hg => hA ?_, fun hg => hB ?_⟩ <;> clear hA hB A B) | refine ⟨fun hg => ?_, fun hg => ?_⟩) <;> (try simp only [BN2] at hg) <;> (try simp only [hg, cond_true, cond_false])) <;> (try (refine hK1 _ ?_; clear hK1 K1)) <;> (try simp only [BN3] at hg))) | (refine awp_seq_k fun K hK => ?_) | ((first | refine awp_region ?_ | refine awp_draw (by kernel_rfl) ?_ | refine awp_block ?_ | refine awp_exit ?_ | refine awp_skip ?_ | refine awp_ret ?_); (try simp only [NB, simprocAttr])))
          all_goals simp only [EndP, FinP, resA, resL, resA1, lastV, lastA, lastAs, pur, purs, take_app, List.take_length, S1, simprocAttr, TTToF, Nat.le_add_right, Nat.le_refl]
        | false =>
          rw [hb, if_neg (by decide)] at hp
          repeat' (first | ((first | refine aops_nil ?_ | refine aqops_nil ?_); (try simp only [NB])) | ((repeat ((fail_if_success (refine hK _ ?_)); clear hK K)); refine hK _ ?_; clear hK K) | ((first | refine aops_k fun K1 hK1 => ?_ | refine aqops_k fun K1 hK1 => ?_ | refine awp_cond_k fun A B hA hB => ?_); simp only [S1, simprocAttr, TTToF, rowI hf, hitI hlt, nextI (by omega) hlt, j0, hx', eF, he, h0', hb, Int.toNat_natCast, List.length_map]; first | (refine hK1 _ ?_; clear hK1 K1) | ((first | refine hA ?_ | refine hB ?_); clear hA hB A B) | ((first | apply call_a E92 | apply call_q E92); exact (ht _); (refine hK1 _ ?_; clear hK1 K1)) | (((first | (refine ⟨fun hg => hA ?_, fun hg => hB ?_⟩ <;> clear hA hB A B) | refine ⟨fun hg => ?_, fun hg => ?_⟩) <;> (try simp only [BN2] at hg) <;> (try simp only [hg, cond_true, cond_false])) <;> (try (refine hK1 _ ?_; clear hK1 K1)) <;> (try simp only [BN3] at hg))) | (refine awp_seq_k fun K hK => ?_) | ((first | refine awp_region ?_ | refine awp_draw (by kernel_rfl) ?_ | refine awp_block ?_ | refine awp_exit ?_ | refine awp_skip ?_ | refine awp_ret ?_); (try simp only [NB, simprocAttr])))
          all_goals exact ⟨hlt, hp, by (refine ⟨rfl, (by first | exact ⟨_, rfl⟩ | exact ⟨[], by simp⟩), ?_, ?_⟩ <;> simp only [keeps, avlt, avlts, blksLt, frL, upd_get, S1, simprocAttr, List.length_map, Int.natCast_zero, AV.p.injEq, PV.int.injEq, PV.bool.injEq, PV.sl.injEq] <;> (try and_intros) <;> (try assumption) <;> (try trivial) <;> (try omega))⟩
      · have h0' : ((truR x.cond v).2 != 0) = true := by simp [h0]
        rw [if_pos h0] at hp
        have ec : chooseG fl v outs = (0, (truR x.cond v).2) := by unfold chooseG; rw [hp]; rfl
        rw [ec]
        repeat' (first | ((first | refine aops_nil ?_ | refine aqops_nil ?_); (try simp only [NB])) | ((repeat ((fail_if_success (refine hK _ ?_)); clear hK K)); refine hK _ ?_; clear hK K) | ((first | refine aops_k fun K1 hK1 => ?_ | refine aqops_k fun K1 hK1 => ?_ | refine awp_cond_k fun A B hA hB => ?_); simp only [S1, simprocAttr, TTToF, rowI hf, hitI hlt, nextI (by omega) hlt, j0, hx', eF, he, h0', Int.toNat_natCast, List.length_map]; first | (refine hK1 _ ?_; clear hK1 K1) | ((first | refine hA ?_ | refine hB ?_); clear hA hB A B) | ((first | apply call_a E92 | apply call_q E92); exact (ht _); (refine hK1 _ ?_; clear hK1 K1)) | (((first | (refine ⟨fun hg => hA ?_, fun hg => hB ?_⟩ <;> clear hA hB A B) | refine ⟨fun hg => ?_, fun hg => ?_⟩) <;> (try simp only [BN2] at hg) <;> (try simp only [hg, cond_true, cond_false])) <;> (try (refine hK1 _ ?_; clear hK1 K1)) <;> (try simp only [BN3] at hg))) | (refine awp_seq_k fun K hK => ?_) | ((first | refine awp_region ?_ | refine awp_draw (by kernel_rfl) ?_ | refine awp_block ?_ | refine awp_exit ?_ | refine awp_skip ?_ | refine awp_ret ?_); (try simp only [NB, simprocAttr])))
        all_goals simp only [EndP, FinP, resA, resL, resA1, lastV, lastA, lastAs, pur, purs, take_app, List.take_length, S1, simprocAttr, TTToF, Nat.le_add_right, Nat.le_refl]
  obtain rfl : i = outs.length := by omega
  rw [List.drop_length] at hp
  have ec : chooseG fl v outs = (chE fl outs, 0) := by unfold chooseG; rw [hp]; rfl
  repeat' (first | ((first | refine aops_nil ?_ | refine aqops_nil ?_); (try simp only [NB])) | ((repeat ((fail_if_success (refine hK _ ?_)); clear hK K)); refine hK _ ?_; clear hK K) | ((first | refine aops_k fun K1 hK1 => ?_ | refine aqops_k fun K1 hK1 => ?_ | refine awp_cond_k fun A B hA hB => ?_); simp only [S1, simprocAttr, TTToF, endI, List.length_map]; first | (refine hK1 _ ?_; clear hK1 K1) | ((first | refine hA ?_ | refine hB ?_); clear hA hB A B) | (((first | (refine ⟨fun hg => hA ?_, fun hg => hB ?_⟩ <;> clear hA hB A B) | refine ⟨fun hg => ?_, fun hg => ?_⟩) <;> (try simp only [BN2] at hg) <;> (try simp only [hg, cond_true, cond_false])) <;> (try (refine hK1 _ ?_; clear hK1 K1)) <;> (try simp only [BN3] at hg))) | (refine awp_seq_k fun K hK => ?_) | ((first | refine awp_region ?_ | refine awp_draw (by kernel_rfl) ?_ | refine awp_block ?_ | refine awp_exit ?_ | refine awp_skip ?_ | refine awp_ret ?_); (try simp only [NB, simprocAttr])))
  refine awp_for outs.length 60 (fun i => [(46, .i i), (45, .i outs.length), (44, aI outs), (6, .ptr (h.length + 2) 0 0), (3, .ptr h.length 0 0)])
    (fun i => [some ⟨0, cNet ns fl⟩, some ⟨0, [.i (v 0), .i (v 1), .i (v 2), .i (v 3)]⟩, some ⟨0, [.i 0, .i 0]⟩]) (fun i => chE fl outs = chE fl (outs.drop i)) ?_ rfl fun i hi hp K hK => ?_
  · (refine ⟨rfl, (by first | exact ⟨_, rfl⟩ | exact ⟨[], by simp⟩), ?_, ?_⟩ <;> simp only [keeps, avlt, avlts, blksLt, frL, upd_get, S1, simprocAttr, List.length_map, Int.natCast_zero, AV.p.injEq, PV.int.injEq, PV.bool.injEq, PV.sl.injEq] <;> (try and_intros) <;> (try assumption) <;> (try trivial) <;> (try omega))
  rcases Nat.lt_or_ge i outs.length with hlt | hge
  · obtain ⟨f, hf⟩ : ∃ f, outs[i]? = some f := ⟨_, List.getElem?_eq_getElem hlt⟩
    obtain ⟨j, rfl, hj⟩ := ho f (List.mem_of_getElem? hf)
    obtain ⟨x, hx⟩ : ∃ x, fl[j]? = some x := ⟨_, List.getElem?_eq_getElem hj⟩
    have hx' := rowF hx
    have j0 : (0 : Int) ≤ (j : Int) := by omega
    have hee : elsAt fl (j : Int) = x.els := by unfold elsAt; rw [Int.toNat_natCast, hx]
    rw [chE_step hf, hee] at hp
    cases he : x.els with
    | true =>
      rw [he, if_pos rfl] at hp
      repeat' (first | ((first | refine aops_nil ?_ | refine aqops_nil ?_); (try simp only [NB])) | ((repeat ((fail_if_success (refine hK _ ?_)); clear hK K)); refine hK _ ?_; clear hK K) | ((first | refine aops_k fun K1 hK1 => ?_ | refine aqops_k fun K1 hK1 => ?_ | refine awp_cond_k fun A B hA hB => ?_); simp only [S1, simprocAttr, TTToF, rowI hf, hitI hlt, nextI (by omega) hlt, j0, hx', eF, he, Int.toNat_natCast, List.length_map]; first | (refine hK1 _ ?_; clear hK1 K1) | ((first | refine hA ?_ | refine hB ?_); clear hA hB A B) | (((first | (refine ⟨fun hg => hA ?_, fun hg => hB ?_⟩ <;> clear hA hB A B) | refine ⟨fun hg => ?_, fun hg => ?_⟩) <;> (try simp only [BN2] at hg) <;> (try simp only [hg, cond_true, cond_false])) <;> (try (refine hK1 _ ?_; clear hK1 K1)) <;> (try simp only [BN3] at hg))) | (refine awp_seq_k fun K hK => ?_) | ((first | refine awp_region ?_ | refine awp_draw (by kernel_rfl) ?_ | refine awp_block ?_ | refine awp_exit ?_ | refine awp_skip ?_ | refine awp_ret ?_); (try simp only [NB, simprocAttr])))
      all_goals simp only [EndP, FinP, resA, resL, resA1, lastV, lastA, lastAs, pur, purs, take_app, List.take_length, S1, simprocAttr, TTToF, Nat.le_add_right, Nat.le_refl]
      all_goals rw [ec, hp]
    | false =>
      rw [he, if_neg (by decide)] at hp
      repeat' (first | ((first | refine aops_nil ?_ | refine aqops_nil ?_); (try simp only [NB])) | ((repeat ((fail_if_success (refine hK _ ?_)); clear hK K)); refine hK _ ?_; clear hK K) | ((first | refine aops_k fun K1 hK1 => ?_ | refine aqops_k fun K1 hK1 => ?_ | refine awp_cond_k fun A B hA hB => ?_); simp only [S1, simprocAttr, TTToF, rowI hf, hitI hlt, nextI (by omega) hlt, j0, hx', eF, he, Int.toNat_natCast, List.length_map]; first | (refine hK1 _ ?_; clear hK1 K1) | ((first | refine hA ?_ | refine hB ?_); clear hA hB A B) | (((first | (refine ⟨fun hg => hA ?_, fun hg => hB ?_⟩ <;> clear hA hB A B) | refine ⟨fun hg => ?_, fun hg => ?_⟩) <;> (try simp only [BN2] at hg) <;> (try simp only [hg, cond_true, cond_false])) <;> (try (refine hK1 _ ?_; clear hK1 K1)) <;> (try simp only [BN3] at hg))) | (refine awp_seq_k fun K hK => ?_) | ((first | refine awp_region ?_ | refine awp_draw (by kernel_rfl) ?_ | refine awp_block ?_ | refine awp_exit ?_ | refine awp_skip ?_ | refine awp_ret ?_); (try simp only [NB, simprocAttr])))
      all_goals exact ⟨hlt, hp, by (refine ⟨rfl, (by first | exact ⟨_, rfl⟩ | exact ⟨[], by simp⟩), ?_, ?_⟩ <;> simp only [keeps, avlt, avlts, blksLt, frL, upd_get, S1, simprocAttr, List.length_map, Int.natCast_zero, AV.p.injEq, PV.int.injEq, PV.bool.injEq, PV.sl.injEq] <;> (try and_intros) <;> (try assumption) <;> (try trivial) <;> (try omega))⟩
  obtain rfl : i = outs.length := by omega
  rw [List.drop_length] at hp
  repeat' (first | ((first | refine aops_nil ?_ | refine aqops_nil ?_); (try simp only [NB])) | ((repeat ((fail_if_success (refine hK _ ?_)); clear hK K)); refine hK _ ?_; clear hK K) | ((first | refine aops_k fun K1 hK1 => ?_ | refine aqops_k fun K1 hK1 => ?_ | refine awp_cond_k fun A B hA hB => ?_); simp only [S1, simprocAttr, TTToF, endI]; first | (refine hK1 _ ?_; clear hK1 K1) | ((first | refine hA ?_ | refine hB ?_); clear hA hB A B) | (((first | (refine ⟨fun hg => hA ?_, fun hg => hB ?_⟩ <;> clear hA hB A B) | refine ⟨fun hg => ?_, fun hg => ?_⟩) <;> (try simp only [BN2] at hg) <;> (try simp only [hg, cond_true, cond_false])) <;> (try (refine hK1 _ ?_; clear hK1 K1)) <;> (try simp only [BN3] at hg))) | (refine awp_seq_k fun K hK => ?_) | ((first | refine awp_region ?_ | refine awp_draw (by kernel_rfl) ?_ | refine awp_block ?_ | refine awp_exit ?_ | refine awp_skip ?_ | refine awp_ret ?_); (try simp only [NB, simprocAttr])))
  all_goals simp only [EndP, FinP, resA, resL, resA1, lastV, lastA, lastAs, pur, purs, take_app, List.take_length, S1, simprocAttr, TTToF, Nat.le_add_right, Nat.le_refl]
  all_goals rw [ec, hp]
  all_goals rfl
end Go.Proofs.YtjpphhcimpclpaaDoor.AM
end

section
set_option linter.unusedVariables false
set_option linter.unusedSimpArgs false
set_option maxRecDepth 4000
set_option maxHeartbeats 4000000
namespace Go.Proofs.YtjpphhcimpclpaaDoor.AM
open Go Go.Proofs
set_option linter.defProp false in
def TTToG := And.intro T2 (And.intro T3 (And.intro T4 (And.intro T25 (And.intro T26 (And.intro T27 (And.intro T37 (And.intro T39 (And.intro T40 (And.intro T46 (And.intro T48 (And.intro T83 (And.intro T85 T129))))))))))))
attribute [local irreducible] awp aops aqops aeops arun arunT

theorem stepT_len {S T : List Int} {f : Int} (h : stepT S f = some T) : T.length = S.length := by
  unfold stepT at h
  split at h
  · cases h
  · cases h; simp
theorem stepP_len {S T : List Int} {f : Int} (h : stepP S f = some T) : T.length = S.length := by
  unfold stepP at h
  split at h
  · cases h
  · cases h; simp
theorem runO_len {step : List Int → Int → Option (List Int)} (hs : ∀ S T f, step S f = some T → T.length = S.length) : ∀ {l S T : List Int}, runO step l S = some T → T.length = S.length
  | [], S, T, h => by cases h; rfl
  | f :: r, S, T, h => by
    unfold runO at h
    rw [List.foldlM_cons] at h
    obtain ⟨U, h1, h2⟩ := Option.bind_eq_some_iff.mp h
    rw [runO_len hs (l := r) (S := U) h2, hs _ _ _ h1]
theorem moveG_to {S : List Int} {x : Sp} {fr to : List Int} (hS : S.length = 49) (hx : x.to.length = 49) : ∀ y ∈ moveG S x fr to, y.to.length = 49 := by
  intro y hy
  unfold moveG at hy
  split at hy
  · cases hy
  · rename_i T hT
    split at hy
    · cases hy
    · rename_i U hU
      rw [List.mem_singleton.mp hy]
      simp only
      rw [runO_len (fun _ _ _ => stepP_len) hU, runO_len (fun _ _ _ => stepT_len) hT]
      simp [joinS, hS, hx]
theorem GmOk.app {h : Heap} {b lb : Nat} {S : List Int} {l l2 : List Sp} (ok : GmOk h b lb S l) (h2 : ∀ y ∈ l2, y.to.length = 49) (hf : l.length + l2.length ≤ 1000000) : GmOk h b lb S (l ++ l2) :=
  ⟨ok.hb, ok.hl, ok.ne, ok.held, fun x hx => (List.mem_append.mp hx).elim (ok.len x) (h2 x), by rw [List.length_append]; exact hf⟩

/-- The variables of a state. -/
def vS (S : List Int) : Int → Int := fun i => if i = 0 then S.getD 40 0 else if i = 1 then S.getD 41 0 else if i = 2 then S.getD 42 0 else S.getD 43 0
theorem vS_0 (S : List Int) : vS S 0 = S.getD 40 0 := rfl
theorem vS_1 (S : List Int) : vS S 1 = S.getD 41 0 := rfl
theorem vS_2 (S : List Int) : vS S 2 = S.getD 42 0 := rfl
theorem vS_3 (S : List Int) : vS S 3 = S.getD 43 0 := rfl
theorem vS_num {S : List Int} (h : inV (vS S) = true) : ∀ i, Num (vS S i) := by
  unfold inV at h
  rw [vS_0, vS_1, vS_2, vS_3] at h
  simp only [inM, Bool.and_eq_true, decide_eq_true_eq] at h
  intro i
  unfold vS Num
  split
  · exact ⟨by omega, by omega⟩
  · split
    · exact ⟨by omega, by omega⟩
    · split <;> exact ⟨by omega, by omega⟩
theorem vS_cells {S : List Int} (hS : S.length = 49) : ((S.drop 40).take 4).map AV.i = [.p (.int .i64 (vS S 0)), .p (.int .i64 (vS S 1)), .p (.int .i64 (vS S 2)), .p (.int .i64 (vS S 3))] := by
  rw [vS_0, vS_1, vS_2, vS_3]
  have e : ∀ k, k < 49 → S[k]? = some (S.getD k 0) := fun k hk => by rw [List.getD_eq_getElem?_getD, List.getElem?_eq_getElem (by omega)]; rfl
  apply List.ext_getElem?
  intro i
  rw [List.getElem?_map, List.getElem?_take]
  match i with
  | 0 => rw [if_pos (by omega), List.getElem?_drop, e 40 (by omega)]; rfl
  | 1 => rw [if_pos (by omega), List.getElem?_drop, e 41 (by omega)]; rfl
  | 2 => rw [if_pos (by omega), List.getElem?_drop, e 42 (by omega)]; rfl
  | 3 => rw [if_pos (by omega), List.getElem?_drop, e 43 (by omega)]; rfl
  | k + 4 => rw [if_neg (by omega)]; rfl
theorem gmC_vars {ns : List Nd} {fl : List Fl} {S : List Int} {lb n : Nat} (hS : S.length = 49) : ((gmC ns fl S lb n).drop 42).take 4 = [.p (.int .i64 (vS S 0)), .p (.int .i64 (vS S 1)), .p (.int .i64 (vS S 2)), .p (.int .i64 (vS S 3))] := by
  have := gmC_take (ns := ns) (fl := fl) (lb := lb) (n := n) (S := S) 40 4 (by omega)
  rw [show 2 + 40 = 42 by rfl] at this
  rw [this, vS_cells hS]

def xorG (fl : List Fl) (S : List Int) (i : Int) (ins outs : List Int) : List Sp :=
  if outs.length = 1 then ins.flatMap fun f => moveG S ⟨i, f, 0, 0, 0, S⟩ [f] outs
  else if tk S (ins.headD 0) = 0 then []
  else if (chooseG fl (vS S) outs).2 ≠ 0 then [faultS S i (chooseG fl (vS S) outs).2]
  else moveG S ⟨i, (chooseG fl (vS S) outs).1, 0, 0, 0, S⟩ ins [(chooseG fl (vS S) outs).1]

theorem chF_in {fl : List Fl} {v : Int → Int} : ∀ {outs : List Int} {q : Int × Int}, chF fl v outs = some q → q.2 = 0 → q.1 ∈ outs
  | [], q, h, _ => by cases h
  | f :: r, q, h, h0 => by
    unfold chF at h
    split at h
    · exact List.mem_cons_of_mem _ (chF_in h h0)
    · split at h
      · exact List.mem_cons_of_mem _ (chF_in h h0)
      · split at h
        · cases h; contradiction
        · split at h
          · cases h; simp
          · exact List.mem_cons_of_mem _ (chF_in h h0)
theorem chE_in {fl : List Fl} : ∀ {outs : List Int}, (∃ f ∈ outs, elsAt fl f = true) → chE fl outs ∈ outs
  | [], h => by obtain ⟨f, hf, _⟩ := h; cases hf
  | f :: r, h => by
    unfold chE
    split
    · simp
    · rename_i hn
      obtain ⟨g, hg, he⟩ := h
      rcases List.mem_cons.mp hg with rfl | hg
      · exact absurd he hn
      · exact List.mem_cons_of_mem _ (chE_in ⟨g, hg, he⟩)
theorem chooseG_in {fl : List Fl} {v : Int → Int} {outs : List Int} (he : ∃ f ∈ outs, elsAt fl f = true) (h0 : (chooseG fl v outs).2 = 0) : (chooseG fl v outs).1 ∈ outs := by
  unfold chooseG at *
  cases hq : chF fl v outs with
  | none => rw [hq] at h0; exact chE_in he
  | some q => rw [hq] at h0; exact chF_in hq h0

theorem xor_calls {h : Heap} {b lb : Nat} {ns : List Nd} {fl : List Fl} (nk : NetOk ns fl) {S : List Int} {l : List Sp} (ok : GmOk h b lb S l) (few : l.length ≤ 900000) (hf : fl.length ≤ 40) (i : Int) (ins outs : List Int) (hi : InF ins) (ho : InF outs) (hof : ∀ x ∈ outs, ∃ i : Nat, x = (i : Int) ∧ i < fl.length)
    (hne0 : ins ≠ []) (hels : outs.length ≠ 1 → ∃ f ∈ outs, elsAt fl f = true) :
    ACalls Tryd.prog gW 47 [.ptr b 0 0, .i i, aI ins, aI outs] (putG h b lb ns fl S l) (fun r h' => r = .undef ∧ h' = putG h b lb ns fl S (l ++ xorG fl S i ins outs)) := by
  have hb := ok.hb
  have hl := ok.hl
  have hne := ok.ne
  have hS := ok.held.1
  have gl := gmC_len (ns := ns) (fl := fl) (lb := lb) (n := l.length) hS
  have t49 := gmC_state (ns := ns) (fl := fl) (lb := lb) (n := l.length) hS
  have htl := over_tail hS
  have hin0 : (0 : Int) ≤ 0 := Int.le_refl 0
  by_cases h1 : outs.length = 1
  · have h1' : ((outs.length : Int) == 1) = true := by simp [h1]
    let acc := fun j => (ins.take j).flatMap fun f => moveG S ⟨i, f, 0, 0, 0, S⟩ [f] outs
    have hal : ∀ j, (acc j).length ≤ j := by
      intro j
      induction j with
      | zero => simp [acc]
      | succ j ih =>
        rcases Nat.lt_or_ge j ins.length with hj | hj
        · have e : ins.take (j + 1) = ins.take j ++ [ins[j]] := by rw [List.take_add_one, List.getElem?_eq_getElem hj]; rfl
          simp only [acc] at ih ⊢
          rw [e, List.flatMap_append, List.length_append]
          have := moveG_len S ⟨i, ins[j], 0, 0, 0, S⟩ [ins[j]] outs
          simp only [List.flatMap_cons, List.flatMap_nil, List.append_nil]
          omega
        · have e : ins.take (j + 1) = ins.take j := by rw [List.take_of_length_le (by omega), List.take_of_length_le hj]
          simp only [acc] at ih ⊢
          rw [e]; omega
    have hto : ∀ j, ∀ y ∈ acc j, y.to.length = 49 := by
      intro j y hy
      obtain ⟨f, _, hy⟩ := List.mem_flatMap.mp hy
      exact moveG_to hS hS y hy
    have eg : xorG fl S i ins outs = acc ins.length := by unfold xorG; rw [if_pos h1]; simp only [acc, List.take_length]
    rw [eg]
    have hil := hi.1
    refine acalls_heap (rl := []) mixed Tryd.func47 rfl (rs := []) rfl Tryd.ntmps47 (by simp) ?_
    repeat' (first | ((first | refine aops_nil ?_ | refine aqops_nil ?_); (try simp only [NB])) | ((repeat ((fail_if_success (refine hK _ ?_)); clear hK K)); refine hK _ ?_; clear hK K) | ((first | refine aops_k fun K1 hK1 => ?_ | refine aqops_k fun K1 hK1 => ?_ | refine awp_cond_k fun A B hA hB => ?_); simp only [S1, simprocAttr, TTToG, h1', takeA_arr, takeA_st, List.length_map, List.length_take, List.length_drop, pg_len, pg_get0, pg_geti, pg_set0, pg_seti, pg_b hb hne, pg_lb hl, pg_b0 hb hne, pg_lb0 hl, gmB, spB, gl, all_scalar, Nat.mul_one, Nat.zero_add, Nat.add_zero, Int.toNat_natCast]; first | (refine hK1 _ ?_; clear hK1 K1) | ((first | refine hA ?_ | refine hB ?_); clear hA hB A B) | (((first | (refine ⟨fun hg => hA ?_, fun hg => hB ?_⟩ <;> clear hA hB A B) | refine ⟨fun hg => ?_, fun hg => ?_⟩) <;> (try simp only [BN2] at hg) <;> (try simp only [hg, cond_true, cond_false])) <;> (try (refine hK1 _ ?_; clear hK1 K1)) <;> (try simp only [BN3] at hg))) | (refine awp_seq_k fun K hK => ?_) | ((first | refine awp_region ?_ | refine awp_draw (by kernel_rfl) ?_ | refine awp_block ?_ | refine awp_exit ?_ | refine awp_skip ?_ | refine awp_ret ?_); (try simp only [NB, simprocAttr])))
    refine awp_forH ins.length 76 (fun j => putG h b lb ns fl S (l ++ acc j)) (fun j => [(16, .i j), (15, .i ins.length), (14, aI ins), (3, aI outs), (1, .i i), (0, .ptr b 0 0)]) (fun j => []) (fun j => True) (fun j => ⟨by rw [pg_len, pg_len], pg_keep hl⟩) ?_ trivial fun j hj hp K hK => ?_
    · have e0 : acc 0 = [] := by simp [acc]
      simp only [e0, List.append_nil]
      refine ⟨rfl, ⟨[], by simp only [List.append_nil]⟩, ?_, trivial⟩
      simp only [keeps, avlt, avlts, blksLt, frL, upd_get, pg_len, S1, simprocAttr, List.length_map, List.length_cons, List.length_nil, Int.natCast_zero, AV.p.injEq, PV.int.injEq, PV.bool.injEq, PV.sl.injEq] <;> (try and_intros) <;> (try assumption) <;> (try trivial) <;> (try omega)
    have okj : GmOk h b lb S (l ++ acc j) := ok.app (hto j) (by have := hal j; omega)
    have glj := gmC_len (ns := ns) (fl := fl) (lb := lb) (n := (l ++ acc j).length) hS
    have t49j := gmC_state (ns := ns) (fl := fl) (lb := lb) (n := (l ++ acc j).length) hS
    rcases Nat.lt_or_ge j ins.length with hlt | hge
    · obtain ⟨f, hfj⟩ : ∃ f, ins[j]? = some f := ⟨_, List.getElem?_eq_getElem hlt⟩
      have hf1 : InF [f] := ⟨by simp, fun g hg => by rw [List.mem_singleton.mp hg]; exact hi.2 f (List.mem_of_getElem? hfj)⟩
      have ea : acc (j + 1) = acc j ++ moveG S ⟨i, f, 0, 0, 0, S⟩ [f] outs := by
        simp only [acc]
        rw [List.take_add_one, hfj, List.flatMap_append]; simp

      have ea' : l ++ acc (j + 1) = (l ++ acc j) ++ moveG S ⟨i, f, 0, 0, 0, S⟩ [f] outs := by rw [ea, List.append_assoc]
      generalize hlj : l ++ acc j = lj at ea' okj glj t49j ⊢
      repeat' (first | ((first | refine aops_nil ?_ | refine aqops_nil ?_); (try simp only [NB])) | ((repeat ((fail_if_success (refine hK _ ?_)); clear hK K)); refine hK _ ?_; clear hK K) | ((first | refine aops_k fun K1 hK1 => ?_ | refine aqops_k fun K1 hK1 => ?_ | refine awp_cond_k fun A B hA hB => ?_); simp only [S1, simprocAttr, TTToG, rowI hfj, hitI hlt, nextI (by omega) hlt, t49j, glj, htl, hS, takeA_arr, takeA_st, List.length_map, List.length_take, List.length_drop, pg_len, pg_get0, pg_geti, pg_set0, pg_seti, pg_b hb hne, pg_lb hl, pg_b0 hb hne, pg_lb0 hl, gmB, spB, gl, all_scalar, Nat.mul_one, Nat.zero_add, Nat.add_zero, Int.toNat_natCast, List.length_cons, List.length_nil]; first | (refine hK1 _ ?_; clear hK1 K1) | ((first | refine hA ?_ | refine hB ?_); clear hA hB A B) | ((first | apply call_a E30 | apply call_q E30); exact (add_calls okj ⟨i, f, 0, 0, 0, S⟩ hS [f] outs hf1 ho); (refine hK1 _ ?_; clear hK1 K1)) | (((first | (refine ⟨fun hg => hA ?_, fun hg => hB ?_⟩ <;> clear hA hB A B) | refine ⟨fun hg => ?_, fun hg => ?_⟩) <;> (try simp only [BN2] at hg) <;> (try simp only [hg, cond_true, cond_false])) <;> (try (refine hK1 _ ?_; clear hK1 K1)) <;> (try simp only [BN3] at hg))) | (refine awp_seq_k fun K hK => ?_) | ((first | refine awp_region ?_ | refine awp_draw (by kernel_rfl) ?_ | refine awp_block ?_ | refine awp_exit ?_ | refine awp_skip ?_ | refine awp_ret ?_); (try simp only [NB, simprocAttr])))
      all_goals refine ⟨hlt, trivial, ?_⟩
      all_goals simp only [ea']
      all_goals refine ⟨rfl, ⟨[], by simp only [List.append_nil]⟩, ?_, trivial⟩
      all_goals simp only [keeps, avlt, avlts, blksLt, frL, upd_get, pg_len, S1, simprocAttr, List.length_map, List.length_cons, List.length_nil, Int.natCast_zero, AV.p.injEq, PV.int.injEq, PV.bool.injEq, PV.sl.injEq] <;> (try and_intros) <;> (try assumption) <;> (try trivial) <;> (try omega)
    · obtain rfl : j = ins.length := by omega
      repeat' (first | ((first | refine aops_nil ?_ | refine aqops_nil ?_); (try simp only [NB])) | ((repeat ((fail_if_success (refine hK _ ?_)); clear hK K)); refine hK _ ?_; clear hK K) | ((first | refine aops_k fun K1 hK1 => ?_ | refine aqops_k fun K1 hK1 => ?_ | refine awp_cond_k fun A B hA hB => ?_); simp only [S1, simprocAttr, TTToG, endI]; first | (refine hK1 _ ?_; clear hK1 K1) | ((first | refine hA ?_ | refine hB ?_); clear hA hB A B) | (((first | (refine ⟨fun hg => hA ?_, fun hg => hB ?_⟩ <;> clear hA hB A B) | refine ⟨fun hg => ?_, fun hg => ?_⟩) <;> (try simp only [BN2] at hg) <;> (try simp only [hg, cond_true, cond_false])) <;> (try (refine hK1 _ ?_; clear hK1 K1)) <;> (try simp only [BN3] at hg))) | (refine awp_seq_k fun K hK => ?_) | ((first | refine awp_region ?_ | refine awp_draw (by kernel_rfl) ?_ | refine awp_block ?_ | refine awp_exit ?_ | refine awp_skip ?_ | refine awp_ret ?_); (try simp only [NB, simprocAttr])))
      all_goals simp only [EndH, FinH, resA, resL, resA1, lastV, lastA, lastAs, pur, purs, pg_len, pg_take, pg_take0, List.length_append, List.length_cons, List.length_nil, S1, simprocAttr, Nat.le_add_right, Nat.le_refl] <;> first | exact pg_keep' hl | exact ⟨pg_keep' hl, rfl⟩ | exact ⟨pg_keep' hl, rfl, rfl⟩
  · have h1' : ((outs.length : Int) == 1) = false := by simp; omega
    obtain ⟨i0, hi0, hh⟩ : ∃ i0, ins[0]? = some i0 ∧ ins.headD 0 = i0 := by
      cases ins with
      | nil => exact absurd rfl hne0
      | cons a r => exact ⟨a, rfl, rfl⟩
    obtain ⟨f0, f40⟩ := hi.2 i0 (List.mem_of_getElem? hi0)
    obtain ⟨k, rfl⟩ := Int.eq_ofNat_of_zero_le f0
    have k40 : k < 40 := by omega
    obtain ⟨hv, v0, v3⟩ := ok.held.at k40
    have gk := gmC_at (ns := ns) (fl := fl) (lb := lb) (n := l.length) hv
    have gv := gmC_vars (ns := ns) (fl := fl) (lb := lb) (n := l.length) hS
    by_cases hz : tk S (k : Int) = 0
    · have hz' : (tk S (k : Int) == 0) = true := by simp [hz]
      have eg : xorG fl S i ins outs = [] := by unfold xorG; rw [if_neg h1, hh, if_pos hz]
      rw [eg, List.append_nil]
      refine acalls_heap (rl := []) mixed Tryd.func47 rfl (rs := []) rfl Tryd.ntmps47 (by simp) ?_
      repeat' (first | ((first | refine aops_nil ?_ | refine aqops_nil ?_); (try simp only [NB])) | ((repeat ((fail_if_success (refine hK _ ?_)); clear hK K)); refine hK _ ?_; clear hK K) | ((first | refine aops_k fun K1 hK1 => ?_ | refine aqops_k fun K1 hK1 => ?_ | refine awp_cond_k fun A B hA hB => ?_); simp only [S1, simprocAttr, TTToG, h1', f0, f40, gk, hz', rowI hi0, hin0, takeA_arr, takeA_st, List.length_map, List.length_take, List.length_drop, pg_len, pg_get0, pg_geti, pg_set0, pg_seti, pg_b hb hne, pg_lb hl, pg_b0 hb hne, pg_lb0 hl, gmB, spB, gl, all_scalar, Nat.mul_one, Nat.zero_add, Nat.add_zero, Int.toNat_natCast]; first | (refine hK1 _ ?_; clear hK1 K1) | ((first | refine hA ?_ | refine hB ?_); clear hA hB A B) | (((first | (refine ⟨fun hg => hA ?_, fun hg => hB ?_⟩ <;> clear hA hB A B) | refine ⟨fun hg => ?_, fun hg => ?_⟩) <;> (try simp only [BN2] at hg) <;> (try simp only [hg, cond_true, cond_false])) <;> (try (refine hK1 _ ?_; clear hK1 K1)) <;> (try simp only [BN3] at hg))) | (refine awp_seq_k fun K hK => ?_) | ((first | refine awp_region ?_ | refine awp_draw (by kernel_rfl) ?_ | refine awp_block ?_ | refine awp_exit ?_ | refine awp_skip ?_ | refine awp_ret ?_); (try simp only [NB, simprocAttr])))
      all_goals simp only [EndH, FinH, resA, resL, resA1, lastV, lastA, lastAs, pur, purs, pg_len, pg_take, pg_take0, List.length_append, List.length_cons, List.length_nil, S1, simprocAttr, Nat.le_add_right, Nat.le_refl] <;> first | exact pg_keep' hl | exact ⟨pg_keep' hl, rfl⟩ | exact ⟨pg_keep' hl, rfl, rfl⟩
    · have hz' : (tk S (k : Int) == 0) = false := by simp [hz]
      have ch := fun h => choose_calls ns fl nk outs ho.1 hof (vS S) vS_num h
      by_cases h2 : (chooseG fl (vS S) outs).2 = 0
      · have h2' : ((chooseG fl (vS S) outs).2 != 0) = false := by simp [h2]
        have hin := ho.2 _ (chooseG_in (hels h1) h2)
        have eg : xorG fl S i ins outs = moveG S ⟨i, (chooseG fl (vS S) outs).1, 0, 0, 0, S⟩ ins [(chooseG fl (vS S) outs).1] := by
          unfold xorG; rw [if_neg h1, hh, if_neg hz, if_neg (by simpa using h2)]
        rw [eg]
        have hf1 : InF [(chooseG fl (vS S) outs).1] := ⟨by simp, fun g hg => by rw [List.mem_singleton.mp hg]; exact hin⟩
        generalize (chooseG fl (vS S) outs).1 = cf at *
        refine acalls_heap (rl := []) mixed Tryd.func47 rfl (rs := []) rfl Tryd.ntmps47 (by simp) ?_
        repeat' (first | ((first | refine aops_nil ?_ | refine aqops_nil ?_ | refine arun_nil ?_ | refine arunT_nil ?_); (try simp only [NB])) | ((repeat ((fail_if_success (refine hK _ ?_)); clear hK K)); refine hK _ ?_; clear hK K) | ((first | refine aops_k fun K1 hK1 => ?_ | refine aqops_k fun K1 hK1 => ?_ | refine arun_eff rfl rfl rfl fun K1 hK1 => ?_ | refine awp_cond_k fun A B hA hB => ?_); simp only [S1, simprocAttr, TTToG, h1', h2', f0, f40, gk, gv, t49, htl, hS, hz', gmC_net, rowI hi0, hin0, takeA_arr, takeA_st, List.length_map, List.length_take, List.length_drop, pg_len, pg_get0, pg_geti, pg_set0, pg_seti, pg_b hb hne, pg_lb hl, pg_b0 hb hne, pg_lb0 hl, gmB, spB, gl, all_scalar, Nat.mul_one, Nat.zero_add, Nat.add_zero, Int.toNat_natCast, List.length_cons, List.length_nil]; first | (refine hK1 _ ?_; clear hK1 K1) | ((first | refine hA ?_ | refine hB ?_); clear hA hB A B) | ((first | apply call_a E71 | apply call_q E71); exact (ch _); (refine hK1 _ ?_; clear hK1 K1)) | ((first | apply call_a E30 | apply call_q E30); exact (add_at ok ⟨i, cf, 0, 0, 0, S⟩ hS ins [cf] hi hf1 _); (refine hK1 _ ?_; clear hK1 K1)) | (((first | (refine ⟨fun hg => hA ?_, fun hg => hB ?_⟩ <;> clear hA hB A B) | refine ⟨fun hg => ?_, fun hg => ?_⟩) <;> (try simp only [BN2] at hg) <;> (try simp only [hg, cond_true, cond_false])) <;> (try (refine hK1 _ ?_; clear hK1 K1)) <;> (try simp only [BN3] at hg))) | ((first | refine arun_q (v := ?_) rfl rfl rfl rfl (by decide) (fun R1 K1 hK1 => ?_) ?_ | refine arun_f (v := ?_) rfl rfl rfl (by decide) (fun K1 hK1 => ?_) ?_ | refine arunT_f (v := ?_) rfl rfl rfl (by decide) (fun K1 hK1 => ?_) ?_); rotate_left; (focus (simp only [S1, simprocAttr, TTToG, h1', h2', f0, f40, gk, gv, t49, htl, hS, hz', gmC_net, rowI hi0, hin0, takeA_arr, takeA_st, List.length_map, List.length_take, List.length_drop, pg_len, pg_get0, pg_geti, pg_set0, pg_seti, pg_b hb hne, pg_lb hl, pg_b0 hb hne, pg_lb0 hl, gmB, spB, gl, all_scalar, Nat.mul_one, Nat.zero_add, Nat.add_zero, Int.toNat_natCast, List.length_cons, List.length_nil]; first | (exact hK1 _ _ _) | ((first | apply call_a E71 | apply call_q E71); exact (ch _); exact hK1 _ _ _) | ((first | apply call_a E30 | apply call_q E30); exact (add_at ok ⟨i, cf, 0, 0, 0, S⟩ hS ins [cf] hi hf1 _); exact hK1 _ _ _)))) | (refine arun_tail rfl rfl rfl ?_) | ((first | refine arun_allocj (z := ?_) 0 rfl rfl rfl rfl (by decide) rfl ?_ ?_ | refine arun_allocj (z := ?_) 1 rfl rfl rfl rfl (by decide) rfl ?_ ?_ | refine arun_allocj (z := ?_) 2 rfl rfl rfl rfl (by decide) rfl ?_ ?_); rotate_left; (focus (simp only [S1, simprocAttr, TTToG, h1', h2', f0, f40, gk, gv, t49, htl, hS, hz', gmC_net, rowI hi0, hin0, takeA_arr, takeA_st, List.length_map, List.length_take, List.length_drop, pg_len, pg_get0, pg_geti, pg_set0, pg_seti, pg_b hb hne, pg_lb hl, pg_b0 hb hne, pg_lb0 hl, gmB, spB, gl, all_scalar, Nat.mul_one, Nat.zero_add, Nat.add_zero, Int.toNat_natCast, List.length_cons, List.length_nil, zeroB]; rfl))) | (refine awp_seq_k fun K hK => ?_) | (refine awp_drawR [0, 1, 2, 3, 4, 5, 6, 7, 8, 9, 10, 11, 12] 1 rfl (by kernel_rfl) (by kernel_rfl) ?_) | (refine awp_drawR [0, 1, 2, 3, 4, 5, 6, 7, 8, 9, 10, 11, 12, 13] 0 rfl (by kernel_rfl) (by kernel_rfl) ?_) | ((first | refine awp_region ?_ | refine awp_draw (by kernel_rfl) ?_ | refine awp_block ?_ | refine awp_exit ?_ | refine awp_skip ?_ | refine awp_ret ?_); (try simp only [NB, simprocAttr])))
        all_goals simp only [EndH, FinH, resA, resL, resA1, lastV, lastA, lastAs, pur, purs, pg_len, pg_take, pg_take0, List.length_append, List.length_cons, List.length_nil, S1, simprocAttr, Nat.le_add_right, Nat.le_refl] <;> first | exact pg_keep' hl | exact ⟨pg_keep' hl, rfl⟩ | exact ⟨pg_keep' hl, rfl, rfl⟩
      · have h2' : ((chooseG fl (vS S) outs).2 != 0) = true := by simp [h2]
        have eg : xorG fl S i ins outs = [faultS S i (chooseG fl (vS S) outs).2] := by
          unfold xorG; rw [if_neg h1, hh, if_neg hz, if_pos h2]
        rw [eg]
        refine acalls_heap (rl := []) mixed Tryd.func47 rfl (rs := []) rfl Tryd.ntmps47 (by simp) ?_
        repeat' (first | ((first | refine aops_nil ?_ | refine aqops_nil ?_ | refine arun_nil ?_ | refine arunT_nil ?_); (try simp only [NB])) | ((repeat ((fail_if_success (refine hK _ ?_)); clear hK K)); refine hK _ ?_; clear hK K) | ((first | refine aops_k fun K1 hK1 => ?_ | refine aqops_k fun K1 hK1 => ?_ | refine arun_eff rfl rfl rfl fun K1 hK1 => ?_ | refine awp_cond_k fun A B hA hB => ?_); simp only [S1, simprocAttr, TTToG, h1', h2', f0, f40, gk, gv, t49, htl, hS, hz', gmC_net, rowI hi0, hin0, takeA_arr, takeA_st, List.length_map, List.length_take, List.length_drop, pg_len, pg_get0, pg_geti, pg_set0, pg_seti, pg_b hb hne, pg_lb hl, pg_b0 hb hne, pg_lb0 hl, gmB, spB, gl, all_scalar, Nat.mul_one, Nat.zero_add, Nat.add_zero, Int.toNat_natCast, List.length_cons, List.length_nil]; first | (refine hK1 _ ?_; clear hK1 K1) | ((first | refine hA ?_ | refine hB ?_); clear hA hB A B) | ((first | apply call_a E71 | apply call_q E71); exact (ch _); (refine hK1 _ ?_; clear hK1 K1)) | ((first | apply call_a E70 | apply call_q E70); exact (fault_at ok i (chooseG fl (vS S) outs).2 _); (refine hK1 _ ?_; clear hK1 K1)) | (((first | (refine ⟨fun hg => hA ?_, fun hg => hB ?_⟩ <;> clear hA hB A B) | refine ⟨fun hg => ?_, fun hg => ?_⟩) <;> (try simp only [BN2] at hg) <;> (try simp only [hg, cond_true, cond_false])) <;> (try (refine hK1 _ ?_; clear hK1 K1)) <;> (try simp only [BN3] at hg))) | ((first | refine arun_q (v := ?_) rfl rfl rfl rfl (by decide) (fun R1 K1 hK1 => ?_) ?_ | refine arun_f (v := ?_) rfl rfl rfl (by decide) (fun K1 hK1 => ?_) ?_ | refine arunT_f (v := ?_) rfl rfl rfl (by decide) (fun K1 hK1 => ?_) ?_); rotate_left; (focus (simp only [S1, simprocAttr, TTToG, h1', h2', f0, f40, gk, gv, t49, htl, hS, hz', gmC_net, rowI hi0, hin0, takeA_arr, takeA_st, List.length_map, List.length_take, List.length_drop, pg_len, pg_get0, pg_geti, pg_set0, pg_seti, pg_b hb hne, pg_lb hl, pg_b0 hb hne, pg_lb0 hl, gmB, spB, gl, all_scalar, Nat.mul_one, Nat.zero_add, Nat.add_zero, Int.toNat_natCast, List.length_cons, List.length_nil]; first | (exact hK1 _ _ _) | ((first | apply call_a E71 | apply call_q E71); exact (ch _); exact hK1 _ _ _) | ((first | apply call_a E70 | apply call_q E70); exact (fault_at ok i (chooseG fl (vS S) outs).2 _); exact hK1 _ _ _)))) | (refine arun_tail rfl rfl rfl ?_) | ((first | refine arun_allocj (z := ?_) 0 rfl rfl rfl rfl (by decide) rfl ?_ ?_ | refine arun_allocj (z := ?_) 1 rfl rfl rfl rfl (by decide) rfl ?_ ?_ | refine arun_allocj (z := ?_) 2 rfl rfl rfl rfl (by decide) rfl ?_ ?_); rotate_left; (focus (simp only [S1, simprocAttr, TTToG, h1', h2', f0, f40, gk, gv, t49, htl, hS, hz', gmC_net, rowI hi0, hin0, takeA_arr, takeA_st, List.length_map, List.length_take, List.length_drop, pg_len, pg_get0, pg_geti, pg_set0, pg_seti, pg_b hb hne, pg_lb hl, pg_b0 hb hne, pg_lb0 hl, gmB, spB, gl, all_scalar, Nat.mul_one, Nat.zero_add, Nat.add_zero, Int.toNat_natCast, List.length_cons, List.length_nil, zeroB]; rfl))) | (refine awp_seq_k fun K hK => ?_) | (refine awp_drawR [0, 1, 2, 3, 4, 5, 6, 7, 8, 9, 10, 11, 12] 1 rfl (by kernel_rfl) (by kernel_rfl) ?_) | ((first | refine awp_region ?_ | refine awp_draw (by kernel_rfl) ?_ | refine awp_block ?_ | refine awp_exit ?_ | refine awp_skip ?_ | refine awp_ret ?_); (try simp only [NB, simprocAttr])))
        all_goals simp only [EndH, FinH, resA, resL, resA1, lastV, lastA, lastAs, pur, purs, pg_len, pg_take, pg_take0, List.length_append, List.length_cons, List.length_nil, S1, simprocAttr, Nat.le_add_right, Nat.le_refl] <;> first | exact pg_keep' hl | exact ⟨pg_keep' hl, rfl⟩ | exact ⟨pg_keep' hl, rfl, rfl⟩
end Go.Proofs.YtjpphhcimpclpaaDoor.AM
end

section
set_option linter.unusedVariables false
set_option linter.unusedSimpArgs false
set_option maxRecDepth 4000
set_option maxHeartbeats 4000000
namespace Go.Proofs.YtjpphhcimpclpaaDoor.AM
open Go Go.Proofs
set_option linter.defProp false in
def TTToH := And.intro T2 (And.intro T3 (And.intro T4 (And.intro T22 (And.intro T23 (And.intro T25 (And.intro T26 (And.intro T27 (And.intro T37 (And.intro T39 (And.intro T40 (And.intro T46 (And.intro T48 (And.intro T58 (And.intro T60 (And.intro T71 (And.intro T83 T85))))))))))))))))
attribute [local irreducible] awp aops aqops aeops arun arunT

def dataG (S : List Int) (k : Nd) (i : Int) (ins outs : List Int) : List Sp :=
  if tk S (ins.headD 0) = 0 then []
  else if k.kind = 3 then moveG S ⟨i, 0, 1, i, 0, S.set (40 + k.a.toNat) 0⟩ ins outs ++ moveG S ⟨i, 1, 1, i, 1, S.set (40 + k.a.toNat) 1⟩ ins outs
  else if (numR k.term (vS S)).2 ≠ 0 then [faultS S i (numR k.term (vS S)).2]
  else moveG S ⟨i, 0, 2, i, 0, S.set (40 + k.a.toNat) (numR k.term (vS S)).1⟩ ins outs

/-- The state before the j-th round. -/
def Sj (S : List Int) (a j : Nat) : List Int := if j = 0 then S else S.set (40 + a) ((j : Int) - 1)
theorem Sj_set (S : List Int) (a j : Nat) (v : Int) : (Sj S a j).set (40 + a) v = S.set (40 + a) v := by
  unfold Sj; split
  · rfl
  · rw [List.set_set]
theorem Sj_len {S : List Int} {a j : Nat} : (Sj S a j).length = S.length := by unfold Sj; split <;> simp
theorem Sj_succ (S : List Int) (a j : Nat) : Sj S a (j + 1) = S.set (40 + a) (j : Int) := by
  unfold Sj; rw [if_neg (by omega)]; congr 1; omega

theorem data_calls {h : Heap} {b lb : Nat} {ns : List Nd} {fl : List Fl} (nk : NetOk ns fl) {S : List Int} {l : List Sp} (ok : GmOk h b lb S l) (few : l.length ≤ 900000) (c : Nat) {k : Nd} (hc : ns[c]? = some k) (ha : 0 ≤ k.a ∧ k.a < 4) (ins outs : List Int) (hi : InF ins) (ho : InF outs) (hne0 : ins ≠ []) :
    ACalls Tryd.prog gW 46 [.ptr b 0 0, .i c, aI ins, aI outs] (putG h b lb ns fl S l) (fun r h' => r = .undef ∧ h' = putG h b lb ns fl S (l ++ dataG S k c ins outs)) := by
  have hb := ok.hb
  have hl := ok.hl
  have hne := ok.ne
  have hS := ok.held.1
  have gl := gmC_len (ns := ns) (fl := fl) (lb := lb) (n := l.length) hS
  have t49 := gmC_state (ns := ns) (fl := fl) (lb := lb) (n := l.length) hS
  have hin0 : (0 : Int) ≤ 0 := Int.le_refl 0
  have c0 : (0 : Int) ≤ (c : Int) := by omega
  have hc' := rowN hc
  obtain ⟨a, hka⟩ := Int.eq_ofNat_of_zero_le ha.1
  have a4 : a < 4 := by omega
  have a0 : (0 : Int) ≤ (a : Int) := by omega
  have a4' : (a : Int) < 4 := by omega
  have h49 : 40 + a + 1 ≤ 49 := by omega
  obtain ⟨i0, hi0, hh⟩ : ∃ i0, ins[0]? = some i0 ∧ ins.headD 0 = i0 := by
    cases ins with
    | nil => exact absurd rfl hne0
    | cons a r => exact ⟨a, rfl, rfl⟩
  obtain ⟨f0, f40⟩ := hi.2 i0 (List.mem_of_getElem? hi0)
  obtain ⟨m, rfl⟩ := Int.eq_ofNat_of_zero_le f0
  have k40 : m < 40 := by omega
  obtain ⟨hv, v0, v3⟩ := ok.held.at k40
  have gk := gmC_at (ns := ns) (fl := fl) (lb := lb) (n := l.length) hv
  have gv := gmC_vars (ns := ns) (fl := fl) (lb := lb) (n := l.length) hS
  have hov := over_full (cs := S.map AV.i) (n := 49) (by rw [List.length_map, hS])
  have hS2 : ∀ v, (S.set (40 + a) v).length = 49 := fun v => by rw [List.length_set, hS]
  have htk : ∀ v, ((S.set (40 + a) v).map AV.i).take 49 = (S.set (40 + a) v).map AV.i := fun v => List.take_of_length_le (by rw [List.length_map, hS2]; exact Nat.le_refl _)
  have htl : ∀ v, _ := fun v => over_tail (hS2 v)
  have hset := fun v => setI_c S (40 + a) v
  by_cases hz : tk S (m : Int) = 0
  · have hz' : (tk S (m : Int) == 0) = true := by simp [hz]
    have eg : dataG S k c ins outs = [] := by unfold dataG; rw [hh, if_pos hz]
    rw [eg, List.append_nil]
    refine acalls_heap (rl := []) mixed Tryd.func46 rfl (rs := []) rfl Tryd.ntmps46 (by simp) ?_
    repeat' (first | ((first | refine aops_nil ?_ | refine aqops_nil ?_); (try simp only [NB])) | ((repeat ((fail_if_success (refine hK _ ?_)); clear hK K)); refine hK _ ?_; clear hK K) | ((first | refine aops_k fun K1 hK1 => ?_ | refine aqops_k fun K1 hK1 => ?_ | refine awp_cond_k fun A B hA hB => ?_); simp only [S1, simprocAttr, TTToH, f0, f40, gk, hz', c0, hc', eN, takeA_sl0, rowI hi0, hin0, takeA_arr, takeA_st, List.length_map, List.length_take, List.length_drop, pg_len, pg_get0, pg_geti, pg_set0, pg_seti, pg_b hb hne, pg_lb hl, pg_b0 hb hne, pg_lb0 hl, gmB, spB, gl, all_scalar, Nat.mul_one, Nat.zero_add, Nat.add_zero, Int.toNat_natCast]; first | (refine hK1 _ ?_; clear hK1 K1) | ((first | refine hA ?_ | refine hB ?_); clear hA hB A B) | (((first | (refine ⟨fun hg => hA ?_, fun hg => hB ?_⟩ <;> clear hA hB A B) | refine ⟨fun hg => ?_, fun hg => ?_⟩) <;> (try simp only [BN2] at hg) <;> (try simp only [hg, cond_true, cond_false])) <;> (try (refine hK1 _ ?_; clear hK1 K1)) <;> (try simp only [BN3] at hg))) | (refine awp_seq_k fun K hK => ?_) | ((first | refine awp_region ?_ | refine awp_draw (by kernel_rfl) ?_ | refine awp_block ?_ | refine awp_exit ?_ | refine awp_skip ?_ | refine awp_ret ?_); (try simp only [NB, simprocAttr])))
    all_goals simp only [EndH, FinH, resA, resL, resA1, lastV, lastA, lastAs, pur, purs, pg_len, pg_take, pg_take0, List.length_append, List.length_cons, List.length_nil, S1, simprocAttr, Nat.le_add_right, Nat.le_refl] <;> first | exact pg_keep' hl | exact ⟨pg_keep' hl, rfl⟩ | exact ⟨pg_keep' hl, rfl, rfl⟩
  have hz' : (tk S (m : Int) == 0) = false := by simp [hz]
  by_cases h3 : k.kind = 3
  · have h3' : (k.kind == 3) = true := by simp [h3]
    have eg : dataG S k c ins outs = moveG S ⟨c, 0, 1, c, 0, S.set (40 + a) 0⟩ ins outs ++ moveG S ⟨c, 1, 1, c, 1, S.set (40 + a) 1⟩ ins outs := by
      unfold dataG; rw [hh, if_neg hz, if_pos h3, hka, Int.toNat_natCast]
    rw [eg]
    let acc : Nat → List Sp := fun j => (if j = 0 then [] else moveG S ⟨c, 0, 1, c, 0, S.set (40 + a) 0⟩ ins outs) ++ (if j ≤ 1 then [] else moveG S ⟨c, 1, 1, c, 1, S.set (40 + a) 1⟩ ins outs)
    have hto : ∀ j, ∀ y ∈ acc j, y.to.length = 49 := by
      intro j y hy
      simp only [acc] at hy
      rcases List.mem_append.mp hy with hy | hy
      · split at hy
        · cases hy
        · exact moveG_to hS (hS2 _) y hy
      · split at hy
        · cases hy
        · exact moveG_to hS (hS2 _) y hy
    have hal : ∀ j, (acc j).length ≤ 2 := by
      intro j
      simp only [acc, List.length_append]
      have h1 := moveG_len S ⟨c, 0, 1, c, 0, S.set (40 + a) 0⟩ ins outs
      have h2 := moveG_len S ⟨c, 1, 1, c, 1, S.set (40 + a) 1⟩ ins outs
      split <;> split <;> simp <;> omega
    have e2 : acc 2 = moveG S ⟨c, 0, 1, c, 0, S.set (40 + a) 0⟩ ins outs ++ moveG S ⟨c, 1, 1, c, 1, S.set (40 + a) 1⟩ ins outs := by simp only [acc]; rfl
    rw [← e2]
    refine acalls_heap (rl := []) mixed Tryd.func46 rfl (rs := []) rfl Tryd.ntmps46 (by simp) ?_
    repeat' (first | ((first | refine aops_nil ?_ | refine aqops_nil ?_); (try simp only [NB])) | ((repeat ((fail_if_success (refine hK _ ?_)); clear hK K)); refine hK _ ?_; clear hK K) | ((first | refine aops_k fun K1 hK1 => ?_ | refine aqops_k fun K1 hK1 => ?_ | refine awp_cond_k fun A B hA hB => ?_); simp only [S1, simprocAttr, TTToH, f0, f40, gk, hz', h3', hka, c0, hc', eN, t49, hov, hS, takeA_sl0, rowI hi0, hin0, takeA_arr, takeA_st, List.length_map, List.length_take, List.length_drop, pg_len, pg_get0, pg_geti, pg_set0, pg_seti, pg_b hb hne, pg_lb hl, pg_b0 hb hne, pg_lb0 hl, gmB, spB, gl, all_scalar, Nat.mul_one, Nat.zero_add, Nat.add_zero, Int.toNat_natCast]; first | (refine hK1 _ ?_; clear hK1 K1) | ((first | refine hA ?_ | refine hB ?_); clear hA hB A B) | (((first | (refine ⟨fun hg => hA ?_, fun hg => hB ?_⟩ <;> clear hA hB A B) | refine ⟨fun hg => ?_, fun hg => ?_⟩) <;> (try simp only [BN2] at hg) <;> (try simp only [hg, cond_true, cond_false])) <;> (try (refine hK1 _ ?_; clear hK1 K1)) <;> (try simp only [BN3] at hg))) | (refine awp_seq_k fun K hK => ?_) | ((first | refine awp_region ?_ | refine awp_draw (by kernel_rfl) ?_ | refine awp_block ?_ | refine awp_exit ?_ | refine awp_skip ?_ | refine awp_ret ?_); (try simp only [NB, simprocAttr])))
    refine awp_forH 2 89 (fun j => putG h b lb ns fl S (l ++ acc j)) (fun j => [(10, .i j), (9, .ptr (h.length + 1) 0 0), (8, .ptr h.length 0 0), (3, aI outs), (2, aI ins), (1, .i c), (0, .ptr b 0 0)])
      (fun j => [some ⟨0, [.i k.kind, .i a, .i k.term.op, .i k.term.n, .p (.sl (k.term.kids.map eT))]⟩, some ⟨0, (Sj S a j).map AV.i⟩]) (fun j => True) (fun j => ⟨by rw [pg_len, pg_len], pg_keep hl⟩) ?_ trivial fun j hj hp K hK => ?_
    · have e0 : acc 0 = [] := by simp [acc]
      have s0 : Sj S a 0 = S := rfl
      simp only [e0, s0, List.append_nil]
      refine ⟨rfl, ⟨[], by simp only [List.append_nil]⟩, ?_, ?_⟩
      · simp only [keeps, avlt, avlts, blksLt, frL, upd_get, pg_len, S1, simprocAttr, List.length_map, List.length_cons, List.length_nil, Int.natCast_zero, AV.p.injEq, PV.int.injEq, PV.bool.injEq, PV.sl.injEq] <;> (try and_intros) <;> (try assumption) <;> (try trivial) <;> (try omega)
      · exact ⟨⟨trivial, trivial, trivial, trivial, trivial, trivial⟩, avlts_is _ _, trivial⟩
    have okj : GmOk h b lb S (l ++ acc j) := ok.app (hto j) (by have := hal j; omega)
    have glj := gmC_len (ns := ns) (fl := fl) (lb := lb) (n := (l ++ acc j).length) hS
    rcases Nat.lt_or_ge j 2 with hlt | hge
    · have hlt' : decide ((j : Int) < 2) = true := decide_eq_true (by omega)
      have hnx : IntKind.i64.wrap ((j : Int) + 1) = ((j + 1 : Nat) : Int) := by rw [IntWalk.i64_in _ (by omega)]; omega
      have ea' : l ++ acc (j + 1) = (l ++ acc j) ++ moveG S ⟨c, j, 1, c, j, S.set (40 + a) j⟩ ins outs := by
        rw [List.append_assoc]
        congr 1
        match j, hlt with
        | 0, _ => simp [acc]
        | 1, _ => simp [acc]
      generalize hlj : l ++ acc j = lj at ea' okj glj ⊢
      have hsj := fun v => setI_c (Sj S a j) (40 + a) v
      have hss := Sj_set S a j
      have hsl : (Sj S a j).length = 49 := by rw [Sj_len, hS]
      have hsn := Sj_succ S a j
      repeat' (first | ((first | refine aops_nil ?_ | refine aqops_nil ?_); (try simp only [NB])) | ((repeat ((fail_if_success (refine hK _ ?_)); clear hK K)); refine hK _ ?_; clear hK K) | ((first | refine aops_k fun K1 hK1 => ?_ | refine aqops_k fun K1 hK1 => ?_ | refine awp_cond_k fun A B hA hB => ?_); simp only [S1, simprocAttr, TTToH, hlt', hnx, a0, a4', h49, hsj, hss, hsl, htk, htl, hS2, glj, takeA_arr, takeA_st, List.length_map, List.length_take, List.length_drop, pg_len, pg_get0, pg_geti, pg_set0, pg_seti, pg_b hb hne, pg_lb hl, pg_b0 hb hne, pg_lb0 hl, gmB, spB, gl, all_scalar, Nat.mul_one, Nat.zero_add, Nat.add_zero, Int.toNat_natCast, List.length_cons, List.length_nil]; first | (refine hK1 _ ?_; clear hK1 K1) | ((first | refine hA ?_ | refine hB ?_); clear hA hB A B) | ((first | apply call_a E30 | apply call_q E30); exact (add_at okj ⟨c, j, 1, c, j, S.set (40 + a) j⟩ (hS2 _) ins outs hi ho _); (refine hK1 _ ?_; clear hK1 K1)) | (((first | (refine ⟨fun hg => hA ?_, fun hg => hB ?_⟩ <;> clear hA hB A B) | refine ⟨fun hg => ?_, fun hg => ?_⟩) <;> (try simp only [BN2] at hg) <;> (try simp only [hg, cond_true, cond_false])) <;> (try (refine hK1 _ ?_; clear hK1 K1)) <;> (try simp only [BN3] at hg))) | (refine awp_seq_k fun K hK => ?_) | ((first | refine awp_region ?_ | refine awp_draw (by kernel_rfl) ?_ | refine awp_block ?_ | refine awp_exit ?_ | refine awp_skip ?_ | refine awp_ret ?_); (try simp only [NB, simprocAttr])))
      all_goals refine ⟨hlt, trivial, ?_⟩
      all_goals simp only [ea', hsn]
      all_goals refine ⟨rfl, ⟨[], by simp only [List.append_nil]⟩, ?_, ?_⟩
      · simp only [keeps, avlt, avlts, blksLt, frL, upd_get, pg_len, S1, simprocAttr, List.length_map, List.length_cons, List.length_nil, Int.natCast_zero, AV.p.injEq, PV.int.injEq, PV.bool.injEq, PV.sl.injEq] <;> (try and_intros) <;> (try assumption) <;> (try trivial) <;> (try omega)
      · exact ⟨⟨trivial, trivial, trivial, trivial, trivial, trivial⟩, avlts_is _ _, trivial⟩
    · obtain rfl : j = 2 := by omega
      repeat' (first | ((first | refine aops_nil ?_ | refine aqops_nil ?_); (try simp only [NB])) | ((repeat ((fail_if_success (refine hK _ ?_)); clear hK K)); refine hK _ ?_; clear hK K) | ((first | refine aops_k fun K1 hK1 => ?_ | refine aqops_k fun K1 hK1 => ?_ | refine awp_cond_k fun A B hA hB => ?_); simp only [S1, simprocAttr, TTToH, (show decide (((2 : Nat) : Int) < 2) = false by decide)]; first | (refine hK1 _ ?_; clear hK1 K1) | ((first | refine hA ?_ | refine hB ?_); clear hA hB A B) | (((first | (refine ⟨fun hg => hA ?_, fun hg => hB ?_⟩ <;> clear hA hB A B) | refine ⟨fun hg => ?_, fun hg => ?_⟩) <;> (try simp only [BN2] at hg) <;> (try simp only [hg, cond_true, cond_false])) <;> (try (refine hK1 _ ?_; clear hK1 K1)) <;> (try simp only [BN3] at hg))) | (refine awp_seq_k fun K hK => ?_) | ((first | refine awp_region ?_ | refine awp_draw (by kernel_rfl) ?_ | refine awp_block ?_ | refine awp_exit ?_ | refine awp_skip ?_ | refine awp_ret ?_); (try simp only [NB, simprocAttr])))
      all_goals simp only [EndH, FinH, resA, resL, resA1, lastV, lastA, lastAs, pur, purs, pg_len, pg_take, pg_take0, List.length_append, List.length_cons, List.length_nil, S1, simprocAttr, Nat.le_add_right, Nat.le_refl] <;> first | exact pg_keep' hl | exact ⟨pg_keep' hl, rfl⟩ | exact ⟨pg_keep' hl, rfl, rfl⟩
  have h3' : (k.kind == 3) = false := by simp [h3]
  obtain ⟨mm, hmm, ht⟩ := nk.tn
  have ch := fun h => rNumber_calls (ht k (List.mem_of_getElem? hc)) hmm (vS S) vS_num h
  by_cases h2 : (numR k.term (vS S)).2 = 0
  · have h2' : ((numR k.term (vS S)).2 != 0) = false := by simp [h2]
    have eg : dataG S k c ins outs = moveG S ⟨c, 0, 2, c, 0, S.set (40 + a) (numR k.term (vS S)).1⟩ ins outs := by
      unfold dataG; rw [hh, if_neg hz, if_neg h3, if_neg (by simpa using h2), hka, Int.toNat_natCast]
    rw [eg]
    generalize (numR k.term (vS S)).1 = w at *
    refine acalls_heap (rl := []) mixed Tryd.func46 rfl (rs := []) rfl Tryd.ntmps46 (by simp) ?_
    repeat' (first | ((first | refine aops_nil ?_ | refine aqops_nil ?_); (try simp only [NB])) | ((repeat ((fail_if_success (refine hK _ ?_)); clear hK K)); refine hK _ ?_; clear hK K) | ((first | refine aops_k fun K1 hK1 => ?_ | refine aqops_k fun K1 hK1 => ?_ | refine awp_cond_k fun A B hA hB => ?_); simp only [S1, simprocAttr, TTToH, f0, f40, gk, gv, hz', h3', h2', hka, a0, a4', h49, c0, hc', eN, t49, hov, hset, htk, htl, hS, hS2, takeA_sl0, rowI hi0, hin0, takeA_arr, takeA_st, List.length_map, List.length_take, List.length_drop, pg_len, pg_get0, pg_geti, pg_set0, pg_seti, pg_b hb hne, pg_lb hl, pg_b0 hb hne, pg_lb0 hl, gmB, spB, gl, all_scalar, Nat.mul_one, Nat.zero_add, Nat.add_zero, Int.toNat_natCast, List.length_cons, List.length_nil]; first | (refine hK1 _ ?_; clear hK1 K1) | ((first | refine hA ?_ | refine hB ?_); clear hA hB A B) | ((first | apply call_a E69 | apply call_q E69); exact (ch _); (refine hK1 _ ?_; clear hK1 K1)) | ((first | apply call_a E30 | apply call_q E30); exact (add_at ok ⟨c, 0, 2, c, 0, S.set (40 + a) w⟩ (hS2 _) ins outs hi ho _); (refine hK1 _ ?_; clear hK1 K1)) | (((first | (refine ⟨fun hg => hA ?_, fun hg => hB ?_⟩ <;> clear hA hB A B) | refine ⟨fun hg => ?_, fun hg => ?_⟩) <;> (try simp only [BN2] at hg) <;> (try simp only [hg, cond_true, cond_false])) <;> (try (refine hK1 _ ?_; clear hK1 K1)) <;> (try simp only [BN3] at hg))) | (refine awp_seq_k fun K hK => ?_) | ((first | refine awp_region ?_ | refine awp_draw (by kernel_rfl) ?_ | refine awp_block ?_ | refine awp_exit ?_ | refine awp_skip ?_ | refine awp_ret ?_); (try simp only [NB, simprocAttr])))
    all_goals simp only [EndH, FinH, resA, resL, resA1, lastV, lastA, lastAs, pur, purs, pg_len, pg_take, pg_take0, List.length_append, List.length_cons, List.length_nil, S1, simprocAttr, Nat.le_add_right, Nat.le_refl] <;> first | exact pg_keep' hl | exact ⟨pg_keep' hl, rfl⟩ | exact ⟨pg_keep' hl, rfl, rfl⟩
  · have h2' : ((numR k.term (vS S)).2 != 0) = true := by simp [h2]
    have eg : dataG S k c ins outs = [faultS S c (numR k.term (vS S)).2] := by
      unfold dataG; rw [hh, if_neg hz, if_neg h3, if_pos h2]
    rw [eg]
    refine acalls_heap (rl := []) mixed Tryd.func46 rfl (rs := []) rfl Tryd.ntmps46 (by simp) ?_
    repeat' (first | ((first | refine aops_nil ?_ | refine aqops_nil ?_); (try simp only [NB])) | ((repeat ((fail_if_success (refine hK _ ?_)); clear hK K)); refine hK _ ?_; clear hK K) | ((first | refine aops_k fun K1 hK1 => ?_ | refine aqops_k fun K1 hK1 => ?_ | refine awp_cond_k fun A B hA hB => ?_); simp only [S1, simprocAttr, TTToH, f0, f40, gk, gv, hz', h3', h2', hka, c0, hc', eN, t49, hov, hS, takeA_sl0, rowI hi0, hin0, takeA_arr, takeA_st, List.length_map, List.length_take, List.length_drop, pg_len, pg_get0, pg_geti, pg_set0, pg_seti, pg_b hb hne, pg_lb hl, pg_b0 hb hne, pg_lb0 hl, gmB, spB, gl, all_scalar, Nat.mul_one, Nat.zero_add, Nat.add_zero, Int.toNat_natCast, List.length_cons, List.length_nil]; first | (refine hK1 _ ?_; clear hK1 K1) | ((first | refine hA ?_ | refine hB ?_); clear hA hB A B) | ((first | apply call_a E69 | apply call_q E69); exact (ch _); (refine hK1 _ ?_; clear hK1 K1)) | ((first | apply call_a E70 | apply call_q E70); exact (fault_at ok c (numR k.term (vS S)).2 _); (refine hK1 _ ?_; clear hK1 K1)) | (((first | (refine ⟨fun hg => hA ?_, fun hg => hB ?_⟩ <;> clear hA hB A B) | refine ⟨fun hg => ?_, fun hg => ?_⟩) <;> (try simp only [BN2] at hg) <;> (try simp only [hg, cond_true, cond_false])) <;> (try (refine hK1 _ ?_; clear hK1 K1)) <;> (try simp only [BN3] at hg))) | (refine awp_seq_k fun K hK => ?_) | ((first | refine awp_region ?_ | refine awp_draw (by kernel_rfl) ?_ | refine awp_block ?_ | refine awp_exit ?_ | refine awp_skip ?_ | refine awp_ret ?_); (try simp only [NB, simprocAttr])))
    all_goals simp only [EndH, FinH, resA, resL, resA1, lastV, lastA, lastAs, pur, purs, pg_len, pg_take, pg_take0, List.length_append, List.length_cons, List.length_nil, S1, simprocAttr, Nat.le_add_right, Nat.le_refl] <;> first | exact pg_keep' hl | exact ⟨pg_keep' hl, rfl⟩ | exact ⟨pg_keep' hl, rfl, rfl⟩
end Go.Proofs.YtjpphhcimpclpaaDoor.AM
end

section
set_option linter.unusedVariables false
set_option linter.unusedSimpArgs false
set_option maxRecDepth 4000
set_option maxHeartbeats 4000000
namespace Go.Proofs.YtjpphhcimpclpaaDoor.AM
open Go Go.Proofs
set_option linter.defProp false in
def TTToI := And.intro T2 (And.intro T3 (And.intro T4 (And.intro T22 (And.intro T23 (And.intro T25 (And.intro T26 (And.intro T27 (And.intro T37 (And.intro T39 (And.intro T40 (And.intro T46 (And.intro T48 (And.intro T58 (And.intro T60 (And.intro T71 (And.intro T83 T85))))))))))))))))
attribute [local irreducible] awp aops aqops aeops arun arunT

def lastG (S : List Int) (i : Int) (ins : List Int) : List Sp :=
  if sumW (S.take 40) = 1 then moveG S ⟨i, 0, 7, 0, 0, S.set 48 1⟩ ins [] else moveG S ⟨i, 0, 0, 0, 0, S⟩ ins []

def nodeG (ns : List Nd) (fl : List Fl) (S : List Int) (i : Nat) (k : Nd) : List Sp :=
  if k.kind = 2 then lastG S i (insN fl i)
  else if k.kind = 3 ∨ k.kind = 4 then dataG S k i (insN fl i) (outsN fl i)
  else if k.kind = 5 then xorG fl S i (insN fl i) (outsN fl i)
  else if k.kind = 6 then moveG S ⟨i, 0, 0, 0, 0, S⟩ (insN fl i) (outsN fl i)
  else if k.kind = 7 then (outsN fl i).flatMap fun f => catchG ns fl S i f (dstAt fl f) (insN fl i)
  else if k.kind = 8 then catchG ns fl S i 0 i (insN fl i)
  else []

theorem Right.kind {ns : List Nd} {fl : List Fl} (h : Right ns fl) {i : Nat} {k : Nd} (hc : ns[i]? = some k) : (1 ≤ k.kind ∧ k.kind ≤ 8) ∧ 0 ≤ k.a ∧ (k.kind = 3 ∨ k.kind = 4 → k.a < 4) ∧ k.a ≤ 4 := by
  have hi := (List.getElem?_eq_some_iff.mp hc).1
  have := h.b1 i hi
  unfold bad1 at this
  rw [hc] at this
  simp only [Bool.not_eq_false'] at this
  unfold oneB at this
  split at this
  · simp only [Bool.and_eq_true, decide_eq_true_eq] at this; omega
  · simp only [Bool.and_eq_true, decide_eq_true_eq] at this
    have hm : mostN k.kind ≤ 4 ∧ (k.kind = 3 → mostN k.kind = 3) := by unfold mostN; split <;> (try split) <;> omega
    omega
theorem Right.ins {ns : List Nd} {fl : List Fl} (h : Right ns fl) {i : Nat} {k : Nd} (hc : ns[i]? = some k) (h1 : k.kind ≠ 1) : insN fl i ≠ [] := by
  have hi := (List.getElem?_eq_some_iff.mp hc).1
  have := h.three hi
  unfold threeB at this
  simp only [kind_of hc, if_neg h1] at this
  intro e
  rw [e] at this
  simp only [List.length_nil] at this
  repeat' split at this
  all_goals simp at this
theorem Right.els {ns : List Nd} {fl : List Fl} (h : Right ns fl) {i : Nat} {k : Nd} (hc : ns[i]? = some k) (h5 : k.kind = 5) (hn : (outsN fl i).length ≠ 1) : ∃ f ∈ outsN fl i, elsAt fl f = true := by
  have hi := (List.getElem?_eq_some_iff.mp hc).1
  have := h.three hi
  unfold threeB at this
  simp only [kind_of hc, h5] at this
  simp only [Int.reduceEq, reduceIte, Bool.or_eq_true, Bool.and_eq_true, beq_iff_eq, decide_eq_true_eq] at this
  rcases this with h | h
  · have h2 := h.2
    unfold cntB at h2
    rw [List.take_length] at h2
    obtain ⟨f, hf, he⟩ := List.countP_pos_iff.mp (by omega : 0 < (outsN fl i).countP (elsAt fl))
    exact ⟨f, hf, he⟩
  · exact absurd h.2 hn
theorem outs_lt {fl : List Fl} (i : Int) : ∀ x ∈ outsN fl i, ∃ i : Nat, x = (i : Int) ∧ i < fl.length := by
  intro x hx
  obtain ⟨j, f, h1, rfl, h2, _⟩ := pickF_mem hx
  exact ⟨j, rfl, h1⟩

theorem nrmAs_is (S : List Int) : nrmAs (S.map AV.i) = S.map AV.i := by
  rw [nrmAs_map, List.map_map]; rfl
theorem nrmRows_eI (l : List Int) : nrmRows (l.map eI) = l.map eI := by
  rw [nrmRows_map, List.map_map]; rfl
theorem add_nil {h : Heap} {b lb : Nat} {ns : List Nd} {fl : List Fl} {S : List Int} {l : List Sp} (ok : GmOk h b lb S l) (x : Sp) (hx : x.to.length = 49) (fr : List Int) (hfr : InF fr) (L : Heap) :
    ACalls Tryd.prog gW 30 [.ptr b 0 0, aSp x, aI fr, .p .nils] (putG h b lb ns fl S l ++ L) (fun r h' => r = .undef ∧ h' = putG h b lb ns fl S (l ++ moveG S x fr []) ++ L) := by
  have := add_at (G := gW) (ns := ns) (fl := fl) ok x hx fr [] hfr ⟨by simp, by simp⟩ L
  refine ACalls.nrm ?_
  have hr := nrmAs_is (cSp x)
  have hk := nrmRows_eI fr
  simp only [nrmAs, nrmA, nrm, hr, hk]
  exact this
theorem add_nils {h : Heap} {b lb : Nat} {ns : List Nd} {fl : List Fl} {S : List Int} {l : List Sp} (ok : GmOk h b lb S l) (x : Sp) (hx : x.to.length = 49) (L : Heap) :
    ACalls Tryd.prog gW 30 [.ptr b 0 0, aSp x, .p .nils, .p .nils] (putG h b lb ns fl S l ++ L) (fun r h' => r = .undef ∧ h' = putG h b lb ns fl S (l ++ moveG S x [] []) ++ L) := by
  have := add_at (G := gW) (ns := ns) (fl := fl) ok x hx [] [] ⟨by simp, by simp⟩ ⟨by simp, by simp⟩ L
  refine ACalls.nrm ?_
  have hr := nrmAs_is (cSp x)
  simp only [nrmAs, nrmA, nrm, hr]
  exact this

theorem nodeG_calls {h : Heap} {b lb : Nat} {ns : List Nd} {fl : List Fl} (nk : NetOk ns fl) (rt : Right ns fl) {S : List Int} {l : List Sp} (ok : GmOk h b lb S l) (st : StOk S) (few : l.length ≤ 900000) (c : Nat) {k : Nd} (hc : ns[c]? = some k) :
    ACalls Tryd.prog gW 29 [.ptr b 0 0, .i c] (putG h b lb ns fl S l) (fun r h' => r = .undef ∧ h' = putG h b lb ns fl S (l ++ nodeG ns fl S c k)) := by
  have hb := ok.hb
  have hl := ok.hl
  have hne := ok.ne
  have hS := ok.held.1
  have gl := gmC_len (ns := ns) (fl := fl) (lb := lb) (n := l.length) hS
  have t49 := gmC_state (ns := ns) (fl := fl) (lb := lb) (n := l.length) hS
  have c0 : (0 : Int) ≤ (c : Int) := by omega
  have hc' := rowN hc
  have hkd := rt.kind hc
  have hf := rt.f
  have hf' : fl.length ≤ 100 := by omega
  have ho := InF_outs hf c
  have hi := InF_ins hf c
  have htl := over_tail hS
  have hov := over_full (cs := S.map AV.i) (n := 49) (by rw [List.length_map, hS])
  have hno : ∀ n : Int, k.kind = n → (k.kind == n) = true := fun n e => by simp [e]
  by_cases h34 : k.kind = 3 ∨ k.kind = 4
  · have eg : nodeG ns fl S c k = dataG S k c (insN fl c) (outsN fl c) := by unfold nodeG; rw [if_neg (by omega), if_pos h34]
    rw [eg]
    have e2 : (k.kind == 2) = false := by simp; omega
    have hin := rt.ins hc (by omega)
    rcases h34 with h3 | h4
    · have e3 : (k.kind == 3) = true := by simp [h3]
      refine acalls_heap (rl := []) mixed Tryd.func29 rfl (rs := []) rfl Tryd.ntmps29 (by simp) ?_
      repeat' (first | ((first | refine aops_nil ?_ | refine aqops_nil ?_); (try simp only [NB])) | ((repeat ((fail_if_success (refine hK _ ?_)); clear hK K)); refine hK _ ?_; clear hK K) | ((first | refine aops_k fun K1 hK1 => ?_ | refine aqops_k fun K1 hK1 => ?_ | refine awp_cond_k fun A B hA hB => ?_); simp only [S1, simprocAttr, TTToI, e2, e3, c0, hc', eN, takeA_sl0, gmC_net, takeA_arr, takeA_st, List.length_map, List.length_take, List.length_drop, pg_len, pg_get0, pg_geti, pg_set0, pg_seti, pg_b hb hne, pg_lb hl, pg_b0 hb hne, pg_lb0 hl, gmB, spB, gl, all_scalar, Nat.mul_one, Nat.zero_add, Nat.add_zero, Int.toNat_natCast]; first | (refine hK1 _ ?_; clear hK1 K1) | ((first | refine hA ?_ | refine hB ?_); clear hA hB A B) | ((first | apply call_a E43 | apply call_q E43); exact (rIns_calls _ fl hf' _ _); (refine hK1 _ ?_; clear hK1 K1)) | ((first | apply call_a E44 | apply call_q E44); exact (rOuts_calls _ fl hf' _ _); (refine hK1 _ ?_; clear hK1 K1)) | ((first | apply call_a E46 | apply call_q E46); exact (data_calls nk ok few c hc ⟨hkd.2.1, hkd.2.2.1 (.inl h3)⟩ _ _ hi ho hin); (refine hK1 _ ?_; clear hK1 K1)) | (((first | (refine ⟨fun hg => hA ?_, fun hg => hB ?_⟩ <;> clear hA hB A B) | refine ⟨fun hg => ?_, fun hg => ?_⟩) <;> (try simp only [BN2] at hg) <;> (try simp only [hg, cond_true, cond_false])) <;> (try (refine hK1 _ ?_; clear hK1 K1)) <;> (try simp only [BN3] at hg))) | (refine awp_seq_k fun K hK => ?_) | ((first | refine awp_region ?_ | refine awp_draw (by kernel_rfl) ?_ | refine awp_block ?_ | refine awp_exit ?_ | refine awp_skip ?_ | refine awp_ret ?_); (try simp only [NB, simprocAttr])))
      all_goals simp only [EndH, FinH, resA, resL, resA1, lastV, lastA, lastAs, pur, purs, pg_len, pg_take, pg_take0, List.length_append, List.length_cons, List.length_nil, S1, simprocAttr, Nat.le_add_right, Nat.le_refl] <;> first | exact pg_keep' hl | exact ⟨pg_keep' hl, rfl⟩ | exact ⟨pg_keep' hl, rfl, rfl⟩
    · have e3 : (k.kind == 3) = false := by simp [h4]
      have e4 : (k.kind == 4) = true := by simp [h4]
      refine acalls_heap (rl := []) mixed Tryd.func29 rfl (rs := []) rfl Tryd.ntmps29 (by simp) ?_
      repeat' (first | ((first | refine aops_nil ?_ | refine aqops_nil ?_); (try simp only [NB])) | ((repeat ((fail_if_success (refine hK _ ?_)); clear hK K)); refine hK _ ?_; clear hK K) | ((first | refine aops_k fun K1 hK1 => ?_ | refine aqops_k fun K1 hK1 => ?_ | refine awp_cond_k fun A B hA hB => ?_); simp only [S1, simprocAttr, TTToI, e2, e3, e4, c0, hc', eN, takeA_sl0, gmC_net, takeA_arr, takeA_st, List.length_map, List.length_take, List.length_drop, pg_len, pg_get0, pg_geti, pg_set0, pg_seti, pg_b hb hne, pg_lb hl, pg_b0 hb hne, pg_lb0 hl, gmB, spB, gl, all_scalar, Nat.mul_one, Nat.zero_add, Nat.add_zero, Int.toNat_natCast]; first | (refine hK1 _ ?_; clear hK1 K1) | ((first | refine hA ?_ | refine hB ?_); clear hA hB A B) | ((first | apply call_a E43 | apply call_q E43); exact (rIns_calls _ fl hf' _ _); (refine hK1 _ ?_; clear hK1 K1)) | ((first | apply call_a E44 | apply call_q E44); exact (rOuts_calls _ fl hf' _ _); (refine hK1 _ ?_; clear hK1 K1)) | ((first | apply call_a E46 | apply call_q E46); exact (data_calls nk ok few c hc ⟨hkd.2.1, hkd.2.2.1 (.inr h4)⟩ _ _ hi ho hin); (refine hK1 _ ?_; clear hK1 K1)) | (((first | (refine ⟨fun hg => hA ?_, fun hg => hB ?_⟩ <;> clear hA hB A B) | refine ⟨fun hg => ?_, fun hg => ?_⟩) <;> (try simp only [BN2] at hg) <;> (try simp only [hg, cond_true, cond_false])) <;> (try (refine hK1 _ ?_; clear hK1 K1)) <;> (try simp only [BN3] at hg))) | (refine awp_seq_k fun K hK => ?_) | ((first | refine awp_region ?_ | refine awp_draw (by kernel_rfl) ?_ | refine awp_block ?_ | refine awp_exit ?_ | refine awp_skip ?_ | refine awp_ret ?_); (try simp only [NB, simprocAttr])))
      all_goals simp only [EndH, FinH, resA, resL, resA1, lastV, lastA, lastAs, pur, purs, pg_len, pg_take, pg_take0, List.length_append, List.length_cons, List.length_nil, S1, simprocAttr, Nat.le_add_right, Nat.le_refl] <;> first | exact pg_keep' hl | exact ⟨pg_keep' hl, rfl⟩ | exact ⟨pg_keep' hl, rfl, rfl⟩
  have e3 : (k.kind == 3) = false := by simp; omega
  have e4 : (k.kind == 4) = false := by simp; omega
  by_cases h5 : k.kind = 5
  · have eg : nodeG ns fl S c k = xorG fl S c (insN fl c) (outsN fl c) := by unfold nodeG; rw [if_neg (by omega), if_neg h34, if_pos h5]
    rw [eg]
    have e2 : (k.kind == 2) = false := by simp; omega
    have e5 : (k.kind == 5) = true := by simp; omega
    have hin := rt.ins hc (by omega)
    refine acalls_heap (rl := []) mixed Tryd.func29 rfl (rs := []) rfl Tryd.ntmps29 (by simp) ?_
    repeat' (first | ((first | refine aops_nil ?_ | refine aqops_nil ?_); (try simp only [NB])) | ((repeat ((fail_if_success (refine hK _ ?_)); clear hK K)); refine hK _ ?_; clear hK K) | ((first | refine aops_k fun K1 hK1 => ?_ | refine aqops_k fun K1 hK1 => ?_ | refine awp_cond_k fun A B hA hB => ?_); simp only [S1, simprocAttr, TTToI, e2, e3, e4, e5, c0, hc', eN, takeA_sl0, gmC_net, takeA_arr, takeA_st, List.length_map, List.length_take, List.length_drop, pg_len, pg_get0, pg_geti, pg_set0, pg_seti, pg_b hb hne, pg_lb hl, pg_b0 hb hne, pg_lb0 hl, gmB, spB, gl, all_scalar, Nat.mul_one, Nat.zero_add, Nat.add_zero, Int.toNat_natCast]; first | (refine hK1 _ ?_; clear hK1 K1) | ((first | refine hA ?_ | refine hB ?_); clear hA hB A B) | ((first | apply call_a E43 | apply call_q E43); exact (rIns_calls _ fl hf' _ _); (refine hK1 _ ?_; clear hK1 K1)) | ((first | apply call_a E44 | apply call_q E44); exact (rOuts_calls _ fl hf' _ _); (refine hK1 _ ?_; clear hK1 K1)) | ((first | apply call_a E47 | apply call_q E47); exact (xor_calls nk ok few hf c _ _ hi ho (outs_lt c) hin (rt.els hc h5)); (refine hK1 _ ?_; clear hK1 K1)) | (((first | (refine ⟨fun hg => hA ?_, fun hg => hB ?_⟩ <;> clear hA hB A B) | refine ⟨fun hg => ?_, fun hg => ?_⟩) <;> (try simp only [BN2] at hg) <;> (try simp only [hg, cond_true, cond_false])) <;> (try (refine hK1 _ ?_; clear hK1 K1)) <;> (try simp only [BN3] at hg))) | (refine awp_seq_k fun K hK => ?_) | ((first | refine awp_region ?_ | refine awp_draw (by kernel_rfl) ?_ | refine awp_block ?_ | refine awp_exit ?_ | refine awp_skip ?_ | refine awp_ret ?_); (try simp only [NB, simprocAttr])))
    all_goals simp only [EndH, FinH, resA, resL, resA1, lastV, lastA, lastAs, pur, purs, pg_len, pg_take, pg_take0, List.length_append, List.length_cons, List.length_nil, S1, simprocAttr, Nat.le_add_right, Nat.le_refl] <;> first | exact pg_keep' hl | exact ⟨pg_keep' hl, rfl⟩ | exact ⟨pg_keep' hl, rfl, rfl⟩
  have e5 : (k.kind == 5) = false := by simp; omega
  by_cases h6 : k.kind = 6
  · have eg : nodeG ns fl S c k = moveG S ⟨c, 0, 0, 0, 0, S⟩ (insN fl c) (outsN fl c) := by unfold nodeG; rw [if_neg (by omega), if_neg h34, if_neg h5, if_pos h6]
    rw [eg]
    have e2 : (k.kind == 2) = false := by simp; omega
    have e6 : (k.kind == 6) = true := by simp; omega
    refine acalls_heap (rl := []) mixed Tryd.func29 rfl (rs := []) rfl Tryd.ntmps29 (by simp) ?_
    repeat' (first | ((first | refine aops_nil ?_ | refine aqops_nil ?_); (try simp only [NB])) | ((repeat ((fail_if_success (refine hK _ ?_)); clear hK K)); refine hK _ ?_; clear hK K) | ((first | refine aops_k fun K1 hK1 => ?_ | refine aqops_k fun K1 hK1 => ?_ | refine awp_cond_k fun A B hA hB => ?_); simp only [S1, simprocAttr, TTToI, e2, e3, e4, e5, e6, c0, hc', t49, htl, hS, eN, takeA_sl0, gmC_net, takeA_arr, takeA_st, List.length_map, List.length_take, List.length_drop, pg_len, pg_get0, pg_geti, pg_set0, pg_seti, pg_b hb hne, pg_lb hl, pg_b0 hb hne, pg_lb0 hl, gmB, spB, gl, all_scalar, Nat.mul_one, Nat.zero_add, Nat.add_zero, Int.toNat_natCast, List.length_cons, List.length_nil]; first | (refine hK1 _ ?_; clear hK1 K1) | ((first | refine hA ?_ | refine hB ?_); clear hA hB A B) | ((first | apply call_a E43 | apply call_q E43); exact (rIns_calls _ fl hf' _ _); (refine hK1 _ ?_; clear hK1 K1)) | ((first | apply call_a E44 | apply call_q E44); exact (rOuts_calls _ fl hf' _ _); (refine hK1 _ ?_; clear hK1 K1)) | ((first | apply call_a E30 | apply call_q E30); exact (add_calls ok ⟨c, 0, 0, 0, 0, S⟩ hS _ _ hi ho); (refine hK1 _ ?_; clear hK1 K1)) | (((first | (refine ⟨fun hg => hA ?_, fun hg => hB ?_⟩ <;> clear hA hB A B) | refine ⟨fun hg => ?_, fun hg => ?_⟩) <;> (try simp only [BN2] at hg) <;> (try simp only [hg, cond_true, cond_false])) <;> (try (refine hK1 _ ?_; clear hK1 K1)) <;> (try simp only [BN3] at hg))) | (refine awp_seq_k fun K hK => ?_) | ((first | refine awp_region ?_ | refine awp_draw (by kernel_rfl) ?_ | refine awp_block ?_ | refine awp_exit ?_ | refine awp_skip ?_ | refine awp_ret ?_); (try simp only [NB, simprocAttr])))
    all_goals simp only [EndH, FinH, resA, resL, resA1, lastV, lastA, lastAs, pur, purs, pg_len, pg_take, pg_take0, List.length_append, List.length_cons, List.length_nil, S1, simprocAttr, Nat.le_add_right, Nat.le_refl] <;> first | exact pg_keep' hl | exact ⟨pg_keep' hl, rfl⟩ | exact ⟨pg_keep' hl, rfl, rfl⟩
  have e6 : (k.kind == 6) = false := by simp; omega
  by_cases h8 : k.kind = 8
  · have eg : nodeG ns fl S c k = catchG ns fl S c 0 c (insN fl c) := by unfold nodeG; rw [if_neg (by omega), if_neg h34, if_neg h5, if_neg h6, if_neg (by omega), if_pos h8]
    rw [eg]
    have e2 : (k.kind == 2) = false := by simp; omega
    have e7 : (k.kind == 7) = false := by simp; omega
    have e8 : (k.kind == 8) = true := by simp; omega
    refine acalls_heap (rl := []) mixed Tryd.func29 rfl (rs := []) rfl Tryd.ntmps29 (by simp) ?_
    repeat' (first | ((first | refine aops_nil ?_ | refine aqops_nil ?_); (try simp only [NB])) | ((repeat ((fail_if_success (refine hK _ ?_)); clear hK K)); refine hK _ ?_; clear hK K) | ((first | refine aops_k fun K1 hK1 => ?_ | refine aqops_k fun K1 hK1 => ?_ | refine awp_cond_k fun A B hA hB => ?_); simp only [S1, simprocAttr, TTToI, e2, e3, e4, e5, e6, e7, e8, c0, hc', eN, takeA_sl0, gmC_net, takeA_arr, takeA_st, List.length_map, List.length_take, List.length_drop, pg_len, pg_get0, pg_geti, pg_set0, pg_seti, pg_b hb hne, pg_lb hl, pg_b0 hb hne, pg_lb0 hl, gmB, spB, gl, all_scalar, Nat.mul_one, Nat.zero_add, Nat.add_zero, Int.toNat_natCast, List.length_cons, List.length_nil]; first | (refine hK1 _ ?_; clear hK1 K1) | ((first | refine hA ?_ | refine hB ?_); clear hA hB A B) | ((first | apply call_a E43 | apply call_q E43); exact (rIns_calls _ fl hf' _ _); (refine hK1 _ ?_; clear hK1 K1)) | ((first | apply call_a E44 | apply call_q E44); exact (rOuts_calls _ fl hf' _ _); (refine hK1 _ ?_; clear hK1 K1)) | ((first | apply call_a E48 | apply call_q E48); exact (catch_calls ok st hf c 0 (List.replicate 49 0) (by simp) 0 0 0 c hc ⟨hkd.2.1, hkd.2.2.2⟩ _ hi); (refine hK1 _ ?_; clear hK1 K1)) | (((first | (refine ⟨fun hg => hA ?_, fun hg => hB ?_⟩ <;> clear hA hB A B) | refine ⟨fun hg => ?_, fun hg => ?_⟩) <;> (try simp only [BN2] at hg) <;> (try simp only [hg, cond_true, cond_false])) <;> (try (refine hK1 _ ?_; clear hK1 K1)) <;> (try simp only [BN3] at hg))) | (refine awp_seq_k fun K hK => ?_) | ((first | refine awp_region ?_ | refine awp_draw (by kernel_rfl) ?_ | refine awp_block ?_ | refine awp_exit ?_ | refine awp_skip ?_ | refine awp_ret ?_); (try simp only [NB, simprocAttr])))
    all_goals simp only [EndH, FinH, resA, resL, resA1, lastV, lastA, lastAs, pur, purs, pg_len, pg_take, pg_take0, List.length_append, List.length_cons, List.length_nil, S1, simprocAttr, Nat.le_add_right, Nat.le_refl] <;> first | exact pg_keep' hl | exact ⟨pg_keep' hl, rfl⟩ | exact ⟨pg_keep' hl, rfl, rfl⟩
  have e8 : (k.kind == 8) = false := by simp; omega
  by_cases h7 : k.kind = 7
  · have eg : nodeG ns fl S c k = (outsN fl c).flatMap fun f => catchG ns fl S c f (dstAt fl f) (insN fl c) := by unfold nodeG; rw [if_neg (by omega), if_neg h34, if_neg h5, if_neg h6, if_pos h7]
    have e2 : (k.kind == 2) = false := by simp; omega
    have e7 : (k.kind == 7) = true := by simp; omega
    let acc := fun j => ((outsN fl c).take j).flatMap fun f => catchG ns fl S c f (dstAt fl f) (insN fl c)
    have hcl : ∀ f d, (catchG ns fl S c f d (insN fl c)).length ≤ 1 := by
      intro f d
      unfold catchG
      split
      · split
        · simp
        · exact moveG_len _ _ _ _
      · exact moveG_len _ _ _ _
    have hal : ∀ j, (acc j).length ≤ j := by
      intro j
      induction j with
      | zero => simp [acc]
      | succ j ih =>
        rcases Nat.lt_or_ge j (outsN fl c).length with hj | hj
        · have e : (outsN fl c).take (j + 1) = (outsN fl c).take j ++ [(outsN fl c)[j]] := by rw [List.take_add_one, List.getElem?_eq_getElem hj]; rfl
          simp only [acc] at ih ⊢
          rw [e, List.flatMap_append, List.length_append]
          have := hcl (outsN fl c)[j] (dstAt fl (outsN fl c)[j])
          simp only [List.flatMap_cons, List.flatMap_nil, List.append_nil]
          omega
        · have e : (outsN fl c).take (j + 1) = (outsN fl c).take j := by rw [List.take_of_length_le (by omega), List.take_of_length_le hj]
          simp only [acc] at ih ⊢
          rw [e]; omega
    have hto : ∀ j, ∀ y ∈ acc j, y.to.length = 49 := by
      intro j y hy
      obtain ⟨f, _, hy⟩ := List.mem_flatMap.mp hy
      unfold catchG at hy
      split at hy
      · split at hy
        · cases hy
        · exact moveG_to hS (by rw [List.length_set, hS]) y hy
      · exact moveG_to hS hS y hy
    have eg2 : nodeG ns fl S c k = acc (outsN fl c).length := by rw [eg]; simp only [acc, List.take_length]
    rw [eg2]
    have hol := ho.1
    refine acalls_heap (rl := []) mixed Tryd.func29 rfl (rs := []) rfl Tryd.ntmps29 (by simp) ?_
    repeat' (first | ((first | refine aops_nil ?_ | refine aqops_nil ?_); (try simp only [NB])) | ((repeat ((fail_if_success (refine hK _ ?_)); clear hK K)); refine hK _ ?_; clear hK K) | ((first | refine aops_k fun K1 hK1 => ?_ | refine aqops_k fun K1 hK1 => ?_ | refine awp_cond_k fun A B hA hB => ?_); simp only [S1, simprocAttr, TTToI, e2, e3, e4, e5, e6, e7, c0, hc', eN, takeA_sl0, gmC_net, takeA_arr, takeA_st, List.length_map, List.length_take, List.length_drop, pg_len, pg_get0, pg_geti, pg_set0, pg_seti, pg_b hb hne, pg_lb hl, pg_b0 hb hne, pg_lb0 hl, gmB, spB, gl, all_scalar, Nat.mul_one, Nat.zero_add, Nat.add_zero, Int.toNat_natCast]; first | (refine hK1 _ ?_; clear hK1 K1) | ((first | refine hA ?_ | refine hB ?_); clear hA hB A B) | ((first | apply call_a E43 | apply call_q E43); exact (rIns_calls _ fl hf' _ _); (refine hK1 _ ?_; clear hK1 K1)) | ((first | apply call_a E44 | apply call_q E44); exact (rOuts_calls _ fl hf' _ _); (refine hK1 _ ?_; clear hK1 K1)) | (((first | (refine ⟨fun hg => hA ?_, fun hg => hB ?_⟩ <;> clear hA hB A B) | refine ⟨fun hg => ?_, fun hg => ?_⟩) <;> (try simp only [BN2] at hg) <;> (try simp only [hg, cond_true, cond_false])) <;> (try (refine hK1 _ ?_; clear hK1 K1)) <;> (try simp only [BN3] at hg))) | (refine awp_seq_k fun K hK => ?_) | ((first | refine awp_region ?_ | refine awp_draw (by kernel_rfl) ?_ | refine awp_block ?_ | refine awp_exit ?_ | refine awp_skip ?_ | refine awp_ret ?_); (try simp only [NB, simprocAttr])))
    refine awp_forH (outsN fl c).length 111 (fun j => putG h b lb ns fl S (l ++ acc j)) (fun j => [(83, .i j), (82, .i (outsN fl c).length), (81, aI (outsN fl c)), (4, aI (insN fl c)), (1, .i c), (0, .ptr b 0 0)]) (fun j => []) (fun j => True) (fun j => ⟨by rw [pg_len, pg_len], pg_keep hl⟩) ?_ trivial fun j hj hp K hK => ?_
    · have e0 : acc 0 = [] := by simp [acc]
      simp only [e0, List.append_nil]
      refine ⟨rfl, ⟨[], by simp only [List.append_nil]⟩, ?_, trivial⟩
      simp only [keeps, avlt, avlts, blksLt, frL, upd_get, pg_len, S1, simprocAttr, List.length_map, List.length_cons, List.length_nil, Int.natCast_zero, AV.p.injEq, PV.int.injEq, PV.bool.injEq, PV.sl.injEq] <;> (try and_intros) <;> (try assumption) <;> (try trivial) <;> (try omega)
    have okj : GmOk h b lb S (l ++ acc j) := ok.app (hto j) (by have := hal j; omega)
    have glj := gmC_len (ns := ns) (fl := fl) (lb := lb) (n := (l ++ acc j).length) hS
    rcases Nat.lt_or_ge j (outsN fl c).length with hlt | hge
    · obtain ⟨f, hfj⟩ : ∃ f, (outsN fl c)[j]? = some f := ⟨_, List.getElem?_eq_getElem hlt⟩
      obtain ⟨q, hfq, hq⟩ := outs_lt c f (List.mem_of_getElem? hfj)
      subst hfq
      obtain ⟨x, hx⟩ : ∃ x, fl[q]? = some x := ⟨_, List.getElem?_eq_getElem hq⟩
      obtain ⟨⟨s0, s1⟩, d0, d1⟩ := rt.isIn x (List.mem_of_getElem? hx)
      obtain ⟨d, hd⟩ := Int.eq_ofNat_of_zero_le d0
      obtain ⟨k2, hk2⟩ : ∃ k2, ns[d]? = some k2 := ⟨_, List.getElem?_eq_getElem (by omega)⟩
      have hkd2 := rt.kind hk2
      have hx' := rowF hx
      have q0 : (0 : Int) ≤ (q : Int) := by omega
      have eds : dstAt fl (q : Int) = (d : Int) := by unfold dstAt; rw [Int.toNat_natCast, hx]; exact hd
      have ea' : l ++ acc (j + 1) = (l ++ acc j) ++ catchG ns fl S c q d (insN fl c) := by
        simp only [acc]
        rw [List.take_add_one, hfj, List.flatMap_append, List.append_assoc]
        simp [eds]
      generalize hlj : l ++ acc j = lj at ea' okj glj ⊢
      repeat' (first | ((first | refine aops_nil ?_ | refine aqops_nil ?_); (try simp only [NB])) | ((repeat ((fail_if_success (refine hK _ ?_)); clear hK K)); refine hK _ ?_; clear hK K) | ((first | refine aops_k fun K1 hK1 => ?_ | refine aqops_k fun K1 hK1 => ?_ | refine awp_cond_k fun A B hA hB => ?_); simp only [S1, simprocAttr, TTToI, rowI hfj, hitI hlt, nextI (by omega) hlt, q0, hx', eF, hd, gmC_1, glj, takeA_arr, takeA_st, List.length_map, List.length_take, List.length_drop, pg_len, pg_get0, pg_geti, pg_set0, pg_seti, pg_b hb hne, pg_lb hl, pg_b0 hb hne, pg_lb0 hl, gmB, spB, gl, all_scalar, Nat.mul_one, Nat.zero_add, Nat.add_zero, Int.toNat_natCast, List.length_cons, List.length_nil]; first | (refine hK1 _ ?_; clear hK1 K1) | ((first | refine hA ?_ | refine hB ?_); clear hA hB A B) | ((first | apply call_a E48 | apply call_q E48); exact (catch_calls okj st hf c q (List.replicate 49 0) (by simp) 0 0 0 d hk2 ⟨hkd2.2.1, hkd2.2.2.2⟩ _ hi); (refine hK1 _ ?_; clear hK1 K1)) | (((first | (refine ⟨fun hg => hA ?_, fun hg => hB ?_⟩ <;> clear hA hB A B) | refine ⟨fun hg => ?_, fun hg => ?_⟩) <;> (try simp only [BN2] at hg) <;> (try simp only [hg, cond_true, cond_false])) <;> (try (refine hK1 _ ?_; clear hK1 K1)) <;> (try simp only [BN3] at hg))) | (refine awp_seq_k fun K hK => ?_) | ((first | refine awp_region ?_ | refine awp_draw (by kernel_rfl) ?_ | refine awp_block ?_ | refine awp_exit ?_ | refine awp_skip ?_ | refine awp_ret ?_); (try simp only [NB, simprocAttr])))
      all_goals refine ⟨hlt, trivial, ?_⟩
      all_goals simp only [ea']
      all_goals refine ⟨rfl, ⟨[], by simp only [List.append_nil]⟩, ?_, trivial⟩
      all_goals simp only [keeps, avlt, avlts, blksLt, frL, upd_get, pg_len, S1, simprocAttr, List.length_map, List.length_cons, List.length_nil, Int.natCast_zero, AV.p.injEq, PV.int.injEq, PV.bool.injEq, PV.sl.injEq] <;> (try and_intros) <;> (try assumption) <;> (try trivial) <;> (try omega)
    · obtain rfl : j = (outsN fl c).length := by omega
      repeat' (first | ((first | refine aops_nil ?_ | refine aqops_nil ?_); (try simp only [NB])) | ((repeat ((fail_if_success (refine hK _ ?_)); clear hK K)); refine hK _ ?_; clear hK K) | ((first | refine aops_k fun K1 hK1 => ?_ | refine aqops_k fun K1 hK1 => ?_ | refine awp_cond_k fun A B hA hB => ?_); simp only [S1, simprocAttr, TTToI, endI]; first | (refine hK1 _ ?_; clear hK1 K1) | ((first | refine hA ?_ | refine hB ?_); clear hA hB A B) | (((first | (refine ⟨fun hg => hA ?_, fun hg => hB ?_⟩ <;> clear hA hB A B) | refine ⟨fun hg => ?_, fun hg => ?_⟩) <;> (try simp only [BN2] at hg) <;> (try simp only [hg, cond_true, cond_false])) <;> (try (refine hK1 _ ?_; clear hK1 K1)) <;> (try simp only [BN3] at hg))) | (refine awp_seq_k fun K hK => ?_) | ((first | refine awp_region ?_ | refine awp_draw (by kernel_rfl) ?_ | refine awp_block ?_ | refine awp_exit ?_ | refine awp_skip ?_ | refine awp_ret ?_); (try simp only [NB, simprocAttr])))
      all_goals simp only [EndH, FinH, resA, resL, resA1, lastV, lastA, lastAs, pur, purs, pg_len, pg_take, pg_take0, List.length_append, List.length_cons, List.length_nil, S1, simprocAttr, Nat.le_add_right, Nat.le_refl] <;> first | exact pg_keep' hl | exact ⟨pg_keep' hl, rfl⟩ | exact ⟨pg_keep' hl, rfl, rfl⟩
  have e7 : (k.kind == 7) = false := by simp; omega
  by_cases h2 : k.kind = 2
  · have e2 : (k.kind == 2) = true := by simp; omega
    have hset := setI_c S 48 1
    have hS2 : (S.set 48 1).length = 49 := by rw [List.length_set, hS]
    have tk54 : ∀ a b c d e : AV, (a :: b :: c :: d :: e :: S.map AV.i).take 54 = a :: b :: c :: d :: e :: S.map AV.i := fun a b c d e => List.take_of_length_le (by simp [hS])
    have tk2 : ∀ a b c d e : AV, (a :: b :: c :: d :: e :: (S.set 48 1).map AV.i).take 54 = a :: b :: c :: d :: e :: (S.set 48 1).map AV.i := fun a b c d e => List.take_of_length_le (by simp [hS])
    by_cases hw : sumW (S.take 40) = 1
    · have eg : nodeG ns fl S c k = moveG S ⟨c, 0, 7, 0, 0, S.set 48 1⟩ (insN fl c) [] := by unfold nodeG lastG; rw [if_pos h2, if_pos hw]
      have hw' : (sumW (S.take 40) == 1) = true := by simp [hw]
      rw [eg]
      refine acalls_heap (rl := []) mixed Tryd.func29 rfl (rs := []) rfl Tryd.ntmps29 (by simp) ?_
      repeat' (first | ((first | refine aops_nil ?_ | refine aqops_nil ?_); (try simp only [NB])) | ((repeat ((fail_if_success (refine hK _ ?_)); clear hK K)); refine hK _ ?_; clear hK K) | ((first | refine aops_k fun K1 hK1 => ?_ | refine aqops_k fun K1 hK1 => ?_ | refine awp_cond_k fun A B hA hB => ?_); simp only [S1, simprocAttr, TTToI, e2, hw', c0, hc', eN, t49, htl, hset, hS2, tk2, hS, takeA_sl0, gmC_net, takeA_arr, takeA_st, List.length_map, List.length_take, List.length_drop, pg_len, pg_get0, pg_geti, pg_set0, pg_seti, pg_b hb hne, pg_lb hl, pg_b0 hb hne, pg_lb0 hl, gmB, spB, gl, all_scalar, Nat.mul_one, Nat.zero_add, Nat.add_zero, Int.toNat_natCast, List.length_cons, List.length_nil]; first | (refine hK1 _ ?_; clear hK1 K1) | ((first | refine hA ?_ | refine hB ?_); clear hA hB A B) | ((first | apply call_a E43 | apply call_q E43); exact (rIns_calls _ fl hf' _ _); (refine hK1 _ ?_; clear hK1 K1)) | ((first | apply call_a E44 | apply call_q E44); exact (rOuts_calls _ fl hf' _ _); (refine hK1 _ ?_; clear hK1 K1)) | ((first | apply call_a E45 | apply call_q E45); exact (rTokens_calls S hS _); (refine hK1 _ ?_; clear hK1 K1)) | ((first | apply call_a E30 | apply call_q E30); exact (add_nil ok ⟨c, 0, 7, 0, 0, S.set 48 1⟩ hS2 _ hi _); (refine hK1 _ ?_; clear hK1 K1)) | (((first | (refine ⟨fun hg => hA ?_, fun hg => hB ?_⟩ <;> clear hA hB A B) | refine ⟨fun hg => ?_, fun hg => ?_⟩) <;> (try simp only [BN2] at hg) <;> (try simp only [hg, cond_true, cond_false])) <;> (try (refine hK1 _ ?_; clear hK1 K1)) <;> (try simp only [BN3] at hg))) | (refine awp_seq_k fun K hK => ?_) | ((first | refine awp_region ?_ | refine awp_draw (by kernel_rfl) ?_ | refine awp_block ?_ | refine awp_exit ?_ | refine awp_skip ?_ | refine awp_ret ?_); (try simp only [NB, simprocAttr])))
      all_goals simp only [EndH, FinH, resA, resL, resA1, lastV, lastA, lastAs, pur, purs, pg_len, pg_take, pg_take0, List.length_append, List.length_cons, List.length_nil, S1, simprocAttr, Nat.le_add_right, Nat.le_refl] <;> first | exact pg_keep' hl | exact ⟨pg_keep' hl, rfl⟩ | exact ⟨pg_keep' hl, rfl, rfl⟩
    · have eg : nodeG ns fl S c k = moveG S ⟨c, 0, 0, 0, 0, S⟩ (insN fl c) [] := by unfold nodeG lastG; rw [if_pos h2, if_neg hw]
      have hw' : (sumW (S.take 40) == 1) = false := by simp [hw]
      rw [eg]
      refine acalls_heap (rl := []) mixed Tryd.func29 rfl (rs := []) rfl Tryd.ntmps29 (by simp) ?_
      repeat' (first | ((first | refine aops_nil ?_ | refine aqops_nil ?_); (try simp only [NB])) | ((repeat ((fail_if_success (refine hK _ ?_)); clear hK K)); refine hK _ ?_; clear hK K) | ((first | refine aops_k fun K1 hK1 => ?_ | refine aqops_k fun K1 hK1 => ?_ | refine awp_cond_k fun A B hA hB => ?_); simp only [S1, simprocAttr, TTToI, e2, hw', c0, hc', eN, t49, htl, tk54, hS, takeA_sl0, gmC_net, takeA_arr, takeA_st, List.length_map, List.length_take, List.length_drop, pg_len, pg_get0, pg_geti, pg_set0, pg_seti, pg_b hb hne, pg_lb hl, pg_b0 hb hne, pg_lb0 hl, gmB, spB, gl, all_scalar, Nat.mul_one, Nat.zero_add, Nat.add_zero, Int.toNat_natCast, List.length_cons, List.length_nil]; first | (refine hK1 _ ?_; clear hK1 K1) | ((first | refine hA ?_ | refine hB ?_); clear hA hB A B) | ((first | apply call_a E43 | apply call_q E43); exact (rIns_calls _ fl hf' _ _); (refine hK1 _ ?_; clear hK1 K1)) | ((first | apply call_a E44 | apply call_q E44); exact (rOuts_calls _ fl hf' _ _); (refine hK1 _ ?_; clear hK1 K1)) | ((first | apply call_a E45 | apply call_q E45); exact (rTokens_calls S hS _); (refine hK1 _ ?_; clear hK1 K1)) | ((first | apply call_a E30 | apply call_q E30); exact (add_nil ok ⟨c, 0, 0, 0, 0, S⟩ hS _ hi _); (refine hK1 _ ?_; clear hK1 K1)) | (((first | (refine ⟨fun hg => hA ?_, fun hg => hB ?_⟩ <;> clear hA hB A B) | refine ⟨fun hg => ?_, fun hg => ?_⟩) <;> (try simp only [BN2] at hg) <;> (try simp only [hg, cond_true, cond_false])) <;> (try (refine hK1 _ ?_; clear hK1 K1)) <;> (try simp only [BN3] at hg))) | (refine awp_seq_k fun K hK => ?_) | ((first | refine awp_region ?_ | refine awp_draw (by kernel_rfl) ?_ | refine awp_block ?_ | refine awp_exit ?_ | refine awp_skip ?_ | refine awp_ret ?_); (try simp only [NB, simprocAttr])))
      all_goals simp only [EndH, FinH, resA, resL, resA1, lastV, lastA, lastAs, pur, purs, pg_len, pg_take, pg_take0, List.length_append, List.length_cons, List.length_nil, S1, simprocAttr, Nat.le_add_right, Nat.le_refl] <;> first | exact pg_keep' hl | exact ⟨pg_keep' hl, rfl⟩ | exact ⟨pg_keep' hl, rfl, rfl⟩
  · have eg : nodeG ns fl S c k = [] := by unfold nodeG; rw [if_neg h2, if_neg h34, if_neg h5, if_neg h6, if_neg h7, if_neg h8]
    rw [eg, List.append_nil]
    have e2 : (k.kind == 2) = false := by simp; omega
    refine acalls_heap (rl := []) mixed Tryd.func29 rfl (rs := []) rfl Tryd.ntmps29 (by simp) ?_
    repeat' (first | ((first | refine aops_nil ?_ | refine aqops_nil ?_); (try simp only [NB])) | ((repeat ((fail_if_success (refine hK _ ?_)); clear hK K)); refine hK _ ?_; clear hK K) | ((first | refine aops_k fun K1 hK1 => ?_ | refine aqops_k fun K1 hK1 => ?_ | refine awp_cond_k fun A B hA hB => ?_); simp only [S1, simprocAttr, TTToI, e2, e3, e4, e5, e6, e7, e8, c0, hc', eN, takeA_sl0, gmC_net, takeA_arr, takeA_st, List.length_map, List.length_take, List.length_drop, pg_len, pg_get0, pg_geti, pg_set0, pg_seti, pg_b hb hne, pg_lb hl, pg_b0 hb hne, pg_lb0 hl, gmB, spB, gl, all_scalar, Nat.mul_one, Nat.zero_add, Nat.add_zero, Int.toNat_natCast]; first | (refine hK1 _ ?_; clear hK1 K1) | ((first | refine hA ?_ | refine hB ?_); clear hA hB A B) | ((first | apply call_a E43 | apply call_q E43); exact (rIns_calls _ fl hf' _ _); (refine hK1 _ ?_; clear hK1 K1)) | ((first | apply call_a E44 | apply call_q E44); exact (rOuts_calls _ fl hf' _ _); (refine hK1 _ ?_; clear hK1 K1)) | (((first | (refine ⟨fun hg => hA ?_, fun hg => hB ?_⟩ <;> clear hA hB A B) | refine ⟨fun hg => ?_, fun hg => ?_⟩) <;> (try simp only [BN2] at hg) <;> (try simp only [hg, cond_true, cond_false])) <;> (try (refine hK1 _ ?_; clear hK1 K1)) <;> (try simp only [BN3] at hg))) | (refine awp_seq_k fun K hK => ?_) | ((first | refine awp_region ?_ | refine awp_draw (by kernel_rfl) ?_ | refine awp_block ?_ | refine awp_exit ?_ | refine awp_skip ?_ | refine awp_ret ?_); (try simp only [NB, simprocAttr])))
    all_goals simp only [EndH, FinH, resA, resL, resA1, lastV, lastA, lastAs, pur, purs, pg_len, pg_take, pg_take0, List.length_append, List.length_cons, List.length_nil, S1, simprocAttr, Nat.le_add_right, Nat.le_refl] <;> first | exact pg_keep' hl | exact ⟨pg_keep' hl, rfl⟩ | exact ⟨pg_keep' hl, rfl, rfl⟩
end Go.Proofs.YtjpphhcimpclpaaDoor.AM
end
