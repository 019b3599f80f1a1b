/- Proved here, in parts, for one law: The abstract machine, part S: what typed cells are, told by the facts of their types. What the listed variable gives; processes as arguments. The abstract machine, part X: ground runs: an evaluator of abstract states, and that what it says is so. Plain: how many rules a node has, and what they need. Contracts: the step of a catch that goes. Contracts: what operators make of numbers. Right terms, and what they are. Contracts: the number that a right term is. Contracts: the truth that a right term is. Contracts: the truth that a right term is, second part. Contracts: whether values are numbers. Contracts: what is asked of a term; Number, Truth. Contracts: which flow a splitting Xor takes, as the document tells it. Contracts: the steps of an Xor, as the document tells them. Contracts: the steps of a node of data, as the document tells them. Contracts: the steps of a node, as the document tells them. Contracts: whether it is a state, as the document tells it. Contracts: all steps of a state, as the document tells them. Contract: all steps of a state, as the document tells them. Contract: whether numbers are within a channel's bounds. Contract: whether it is a state, as the program tells it. Contract: whether it is a state, as the program tells it. Plain: a step of a free rule does what the rule does. The abstract machine, part Y: a row of records of whole numbers is sorted by a function that compares: the shelf's contract of slices.SortFunc turned into one of ours. PLAIN: lists of states that are closed; labels in their order. Contracts: tokens that are moved, as the program does it. Plain: a move keeps a state's bounds; how many tokens there are behind it. Plain: what the moves of a state lead to are states; how many tokens there are in a process without And. Contracts: the first state. Conditions: none. -/
import Derived.Test.YtbbmfemplmelhaaGreatDoorZTrailLessC
import Derived.Test.YtbbmfemplmelhaaGreatDoorRows
import Derived.IntWalk
import Derived.Shelf.GgSortFunc.RowK

section
set_option linter.unusedVariables false
set_option linter.unusedSimpArgs false
namespace Go.Proofs.YtbbmfemplmelhaaGreatDoor.AM
open Go

section
variable {P : Program}

theorem ty_int {k : IntKind} {a b : Nat} {z : Option (List PV)} {t fuel : Nat} {xs : List PV} (ht : tinfo P t = some ⟨.int k, a, b, z⟩) (h : Ty P fuel t xs) : ∃ n, InRange k n ∧ xs = [.int k n] := by
  obtain ⟨_, d, _, h2, h3, _⟩ := tinfo_some ht
  have := kind_int h3; subst this
  cases fuel with
  | zero => exact h.elim
  | succ m => unfold Ty at h; rw [h2] at h; exact h

theorem ty_struct {fs : List (Nat × Nat × Nat)} {a b : Nat} {z : Option (List PV)} {t fuel : Nat} {xs : List PV} (ht : tinfo P t = some ⟨.struct fs, a, b, z⟩) (h : Ty P fuel t xs) :
    ∃ (m : Nat) (rows : List (List PV)), fuel = m + 1 ∧ rows.length = fs.length ∧ xs = rows.flatMap id ∧ ∀ (i : Nat) f row, fs[i]? = some f → rows[i]? = some row → Ty P m f.2.2 row := by
  obtain ⟨_, d, _, h2, h3, _⟩ := tinfo_some ht
  obtain ⟨F, rfl, h4⟩ := kind_struct h3
  cases fuel with
  | zero => exact h.elim
  | succ m =>
    unfold Ty at h
    rw [h2] at h
    obtain ⟨rows, g1, g2, g3⟩ := h
    refine ⟨m, rows, rfl, by rw [h4]; simpa using g1, g2, fun i f row hf hr => ?_⟩
    rw [h4] at hf
    simp only [List.getElem?_map, Option.map_eq_some_iff] at hf
    obtain ⟨fd, hfd, rfl⟩ := hf
    exact g3 i fd row (by simpa using hfd) hr

theorem argA_at {i : TI} {t : Nat} (ht : tinfo P t = some i) (xs : List PV) : argA P t xs = if i.isAgg then .agg (xs.map .p) else match xs with | x :: _ => .p x | [] => .undef := by
  obtain ⟨_, d, _, h2, h3, _⟩ := tinfo_some ht
  have : aggT P t = i.isAgg := by
    unfold aggT TI.isAgg
    rw [h2, ← h3]
    cases d <;> rfl
  unfold argA
  rw [this]
  all_goals (cases xs <;> rfl)
end
end Go.Proofs.YtbbmfemplmelhaaGreatDoor.AM
end

section
set_option linter.unusedVariables false
set_option linter.unusedSimpArgs false
set_option maxRecDepth 4000
namespace Go.Proofs.YtbbmfemplmelhaaGreatDoor.AM
open Go Go.Proofs Go.ChangeShapes Go.WideShapes Go.RowKit

theorem words_plain : plainB Tryz.prog [3, 9, 201, 202] = true := by kernel_rfl

theorem gW_pin {W : World} (h : laidMetH Tryz.prog [("treenail/term.words", Rows.laid_treenail_term_words)] W) : ∀ g cells, gW g = some cells → PinRel W (fun _ => False) cells g 0 := by
  intro g cells hg
  unfold gW at hg
  split at hg
  · rename_i e
    cases hg
    subst e
    rw [MakeChecks.laidMetH_plain _ _ _ (by kernel_rfl)] at h
    obtain ⟨ps, ⟨g0, t0, cs0, f0, p0, q0, hg0, ht0, hv0, hd0, _⟩, _⟩ := h
    have e : cellsD (Rows.laid_treenail_term_words : DataW Unit) = wcells := by kernel_rfl
    rw [← e]
    exact laid_pin words_plain (name := "treenail/term.words") (t0 := 202) (by kernel_rfl) (by kernel_rfl) (by decide) (by rw [e]; unfold wcells; simp) ⟨g0, t0, cs0, f0, _, _, p0, hg0, ht0, hv0, hd0⟩
  · cases hg

end Go.Proofs.YtbbmfemplmelhaaGreatDoor.AM
end

section
set_option linter.unusedVariables false
set_option linter.unusedSimpArgs false
namespace Go.Proofs.YtbbmfemplmelhaaGreatDoor.AM
open Go

/-! ### Equality, told by a program -/
mutual
def pvEq : PV → PV → Bool
  | .int k n, .int k' n' => decide (k = k') && decide (n = n')
  | .bool a, .bool b => a == b
  | .str s, .str t => decide (s = t)
  | .nils, .nils => true
  | .nilp, .nilp => true
  | .nilf, .nilf => true
  | .sl r, .sl r' => pvEqR r r'
  | _, _ => false
def pvEqL : List PV → List PV → Bool
  | [], [] => true
  | x :: r, y :: r' => pvEq x y && pvEqL r r'
  | _, _ => false
def pvEqR : List (List PV) → List (List PV) → Bool
  | [], [] => true
  | x :: r, y :: r' => pvEqL x y && pvEqR r r'
  | _, _ => false
end

mutual
theorem pvEq_eq : ∀ (x y : PV), pvEq x y = true → x = y
  | .int k n, y, h => by cases y <;> simp [pvEq] at h; rw [h.1, h.2]
  | .bool a, y, h => by cases y <;> simp [pvEq] at h; rw [h]
  | .str s, y, h => by cases y <;> simp [pvEq] at h; rw [h]
  | .nils, y, h => by cases y <;> simp [pvEq] at h; rfl
  | .nilp, y, h => by cases y <;> simp [pvEq] at h; rfl
  | .nilf, y, h => by cases y <;> simp [pvEq] at h; rfl
  | .sl r, y, h => by
    cases y with
    | sl r' => simp only [pvEq] at h; rw [pvEqR_eq r r' h]
    | _ => simp [pvEq] at h
theorem pvEqL_eq : ∀ (x y : List PV), pvEqL x y = true → x = y
  | [], y, h => by cases y <;> simp [pvEqL] at h; rfl
  | a :: r, y, h => by
    cases y with
    | nil => simp [pvEqL] at h
    | cons b r' => simp only [pvEqL, Bool.and_eq_true] at h; rw [pvEq_eq a b h.1, pvEqL_eq r r' h.2]
theorem pvEqR_eq : ∀ (x y : List (List PV)), pvEqR x y = true → x = y
  | [], y, h => by cases y <;> simp [pvEqR] at h; rfl
  | a :: r, y, h => by
    cases y with
    | nil => simp [pvEqR] at h
    | cons b r' => simp only [pvEqR, Bool.and_eq_true] at h; rw [pvEqL_eq a b h.1, pvEqR_eq r r' h.2]
end

mutual
def avEq : AV → AV → Bool
  | .p x, .p y => pvEq x y
  | .agg l, .agg l' => avEqL l l'
  | .tup l, .tup l' => avEqL l l'
  | .fn f l, .fn f' l' => decide (f = f') && avEqL l l'
  | .ref b g o s n, .ref b' g' o' s' n' => decide (b = b') && (decide (g = g') && (decide (o = o') && (decide (s = s') && decide (n = n'))))
  | .ptr b g o, .ptr b' g' o' => decide (b = b') && (decide (g = g') && decide (o = o'))
  | .pin c, .pin c' => pvEqL c c'
  | _, _ => false
def avEqL : List AV → List AV → Bool
  | [], [] => true
  | x :: r, y :: r' => avEq x y && avEqL r r'
  | _, _ => false
end

mutual
theorem avEq_eq : ∀ (x y : AV), avEq x y = true → x = y
  | .p x, y, h => by cases y <;> simp [avEq] at h; rw [pvEq_eq _ _ h]
  | .agg l, y, h => by cases y <;> simp [avEq] at h; rw [avEqL_eq _ _ h]
  | .tup l, y, h => by cases y <;> simp [avEq] at h; rw [avEqL_eq _ _ h]
  | .fn f l, y, h => by cases y <;> simp [avEq] at h; rw [h.1, avEqL_eq _ _ h.2]
  | .ref b g o s n, y, h => by cases y <;> simp [avEq] at h; obtain ⟨rfl, rfl, rfl, rfl, rfl⟩ := h; rfl
  | .ptr b g o, y, h => by cases y <;> simp [avEq] at h; obtain ⟨rfl, rfl, rfl⟩ := h; rfl
  | .pin c, y, h => by cases y <;> simp [avEq] at h; rw [pvEqL_eq _ _ h]
theorem avEqL_eq : ∀ (x y : List AV), avEqL x y = true → x = y
  | [], y, h => by cases y <;> simp [avEqL] at h; rfl
  | a :: r, y, h => by
    cases y with
    | nil => simp [avEqL] at h
    | cons b r' => simp only [avEqL, Bool.and_eq_true] at h; rw [avEq_eq a b h.1, avEqL_eq r r' h.2]
end

mutual
def avltB (m : Nat) : AV → Bool
  | .p _ => true
  | .agg l => avltsB m l
  | .tup l => avltsB m l
  | .fn _ l => avltsB m l
  | .ref b _ _ _ _ => decide (b < m)
  | .ptr b _ _ => decide (b < m)
  | .pin _ => true
  | .mref b _ => decide (b < m)
  | .mp _ => true
def avltsB (m : Nat) : List AV → Bool
  | [] => true
  | x :: r => avltB m x && avltsB m r
end

mutual
theorem avltB_lt {m : Nat} : ∀ x : AV, avltB m x = true → AVlt m x
  | .p x, _ => .p x
  | .agg l, h => .agg l (avltsB_lt l (by simpa [avltB] using h))
  | .tup l, h => .tup l (avltsB_lt l (by simpa [avltB] using h))
  | .fn f l, h => .fn f l (avltsB_lt l (by simpa [avltB] using h))
  | .ref b g o s n, h => .ref b g o s n (by simpa [avltB] using h)
  | .ptr b g o, h => .ptr b g o (by simpa [avltB] using h)
  | .pin c, _ => .pin c
  | .mref b g, h => .mref b g (by simpa [avltB] using h)
  | .mp es, _ => .mp es
theorem avltsB_lt {m : Nat} : ∀ l : List AV, avltsB m l = true → ∀ x ∈ l, AVlt m x
  | [], _ => fun x hx => by simp at hx
  | y :: r, h => fun x hx => by
    simp only [avltsB, Bool.and_eq_true] at h
    rcases List.mem_cons.mp hx with e | e
    · rw [e]; exact avltB_lt y h.1
    · exact avltsB_lt r h.2 x e
end

/-! ### What lasts, once more, as a program that the kernel can run -/
/-! ### The evaluator -/
section
variable (P : Program) (G : Nat → Option (List PV)) (rl : List String)

abbrev Callee := FuncId → List AV → Heap → Option (AV × Heap)

end

section
variable {P : Program} {G : Nat → Option (List PV)} {rl : List String} {h0 : Heap}

variable {call : Callee}

end
end Go.Proofs.YtbbmfemplmelhaaGreatDoor.AM
end

section
set_option linter.unusedVariables false
set_option linter.unusedSimpArgs false
namespace Go.Proofs.YtbbmfemplmelhaaGreatDoor.AM
open Go Go.Proofs

theorem Right.event {ns : List Nd} {fl : List Fl} (h : Right ns fl) {i : Nat} (hi : i < ns.length) (hk : kindAt ns i = 7) : (insN fl i).length = 1 ∧ 2 ≤ (outsN fl i).length := by
  have := h.three hi
  unfold threeB at this
  simp only [hk] at this
  simp only [Int.reduceEq, reduceIte, Bool.or_eq_true, Bool.and_eq_true, beq_iff_eq, decide_eq_true_eq] at this
  omega
theorem Right.start {ns : List Nd} {fl : List Fl} (h : Right ns fl) {i : Nat} (hi : i < ns.length) (hk : kindAt ns i = 1) : (insN fl i).length = 0 ∧ (outsN fl i).length = 1 := by
  have := h.three hi
  unfold threeB at this
  simp only [hk] at this
  simp only [Int.reduceEq, reduceIte, Bool.or_eq_true, Bool.and_eq_true, beq_iff_eq, decide_eq_true_eq] at this
  omega
theorem Right.count {ns : List Nd} {fl : List Fl} (h : Right ns fl) {i : Nat} (hi : i < ns.length) :
    (kindAt ns i = 1 → (ruOf fl i (kindAt ns i)).length = 0) ∧ (kindAt ns i = 5 ∨ kindAt ns i = 7 → (ruOf fl i (kindAt ns i)).length = (insN fl i).length * (outsN fl i).length) ∧
    (kindAt ns i ≠ 1 → kindAt ns i ≠ 5 → kindAt ns i ≠ 7 → (ruOf fl i (kindAt ns i)).length = 1) := by
  refine ⟨fun hk => ?_, fun hk => ?_, fun k1 k5 k7 => ?_⟩
  · unfold ruOf; rw [if_pos hk]; rfl
  · rcases hk with hk | hk
    · unfold ruOf
      rw [if_neg (by omega), if_neg (by omega), if_neg (by omega), if_pos hk]
      rcases h.xor hi hk with ⟨a, b⟩ | ⟨a, b⟩
      · rw [if_pos (by omega), List.length_map, a, Nat.one_mul]
      · rw [if_neg (by omega), List.length_map, b, Nat.mul_one]
    · unfold ruOf
      rw [if_neg (by omega), if_pos hk, List.length_map, (h.event hi hk).1, Nat.one_mul]
  · unfold ruOf
    rw [if_neg k1, if_neg k7]
    split <;> rfl

end Go.Proofs.YtbbmfemplmelhaaGreatDoor.AM
end

section
set_option linter.unusedVariables false
set_option linter.unusedSimpArgs false
set_option maxRecDepth 4000
set_option maxHeartbeats 4000000
namespace Go.Proofs.YtbbmfemplmelhaaGreatDoor.AM
open Go Go.Proofs
set_option linter.defProp false in
attribute [local irreducible] awp aops aqops aeops arun arunT
variable {G : Nat → Option (List PV)}

/-- A state within all its bounds that the game looks at. -/
structure StOk (S : List Int) : Prop where
  held : Held S
  queue : ∀ i x, 44 ≤ i → i < 48 → S[i]? = some x → 0 ≤ x ∧ x ≤ 3

def qAt (S : List Int) (a : Int) : Int := S.getD (44 + a.toNat) 0
def ndA (ns : List Nd) (c : Int) : Int := match ns[c.toNat]? with | some k => k.a | none => 0

def catchG (ns : List Nd) (fl : List Fl) (S : List Int) (node arg c : Int) (fr : List Int) : List Sp :=
  if ndA ns c < 4 then (if qAt S (ndA ns c) = 0 then [] else moveG S ⟨node, arg, 3, c, 0, S.set (44 + (ndA ns c).toNat) (qAt S (ndA ns c) - 1)⟩ fr (outsN fl c))
  else moveG S ⟨node, arg, 4, c, 0, S⟩ fr (outsN fl c)

theorem takeA_sl0 {ns : List Nd} {fl : List Fl} {S : List Int} {lb n e bt : Nat} {z : Option (List PV)} : takeA ⟨.slice e, 1, bt, z⟩ (gmC ns fl S lb n) = some (.p (.sl (ns.map eN))) := rfl
theorem StOk.q {S : List Int} (h : StOk S) {k : Nat} (hk : k < 4) : S[44 + k]? = some (qAt S k) ∧ 0 ≤ qAt S k ∧ qAt S k ≤ 3 := by
  have hl := h.held.1
  have e : S[44 + k]? = some (qAt S k) := by
    unfold qAt
    rw [Int.toNat_natCast, List.getD_eq_getElem?_getD, List.getElem?_eq_getElem (by omega)]; rfl
  exact ⟨e, h.queue _ _ (by omega) (by omega) e⟩
theorem InF_outs {fl : List Fl} (hf : fl.length ≤ 40) (i : Int) : InF (outsN fl i) := by
  refine ⟨Nat.le_trans (outsN_le fl i) (by omega), fun f hm => ?_⟩
  obtain ⟨j, _, h1, rfl, _⟩ := pickF_mem hm
  omega
theorem InF_ins {fl : List Fl} (hf : fl.length ≤ 40) (i : Int) : InF (insN fl i) := by
  refine ⟨Nat.le_trans (insN_le fl i) (by omega), fun f hm => ?_⟩
  obtain ⟨j, _, h1, rfl, _⟩ := pickF_mem hm
  omega

theorem gmC_q {ns : List Nd} {fl : List Fl} {S : List Int} {lb n a : Nat} {q : Int} (hq : S[44 + a]? = some q) : (gmC ns fl S lb n).drop (46 + a) = .p (.int .i64 q) :: ((S.drop (44 + a + 1)).map AV.i ++ [.ref lb n 0 54 n]) := by
  rw [show 46 + a = 2 + (44 + a) by omega, gmC_at hq]

end Go.Proofs.YtbbmfemplmelhaaGreatDoor.AM
end

section
set_option linter.unusedVariables false
set_option linter.unusedSimpArgs false
set_option maxRecDepth 4000
set_option maxHeartbeats 4000000
namespace Go.Proofs.YtbbmfemplmelhaaGreatDoor.AM
open Go Go.Proofs
set_option linter.defProp false in
def TTEvI := And.intro T2 (And.intro T3 (And.intro T4 (And.intro T31 (And.intro T58 (And.intro T75 (And.intro T184 T185))))))
attribute [local irreducible] awp aops aqops
variable {G : Nat → Option (List PV)}

def Num (n : Int) : Prop := -1099511627776 ≤ n ∧ n ≤ 1099511627776

theorem abs_calls' {n : Int} (hn : -9223372036854775807 ≤ n ∧ n ≤ 9223372036854775807) (h : Heap) : ACalls Tryz.prog G 159 [.i n] h (fun r h' => r = .i (n.natAbs : Int) ∧ h' = h) := by
  have hw := IntWalk.i64_in (0 - n) (by omega)
  refine ACalls.mono (abs_calls n h) ?_
  rintro r h' ⟨rfl, rfl⟩
  refine ⟨?_, rfl⟩
  rw [hw]
  refine congrArg AV.i ?_
  split <;> omega

def prodS (a b : Int) : Int × Int := if b ≠ 0 ∧ 1099511627776 / b.natAbs < a.natAbs then (0, 40) else (a * b, 0)

theorem prod_num {a b : Int} (hb : b ≠ 0) (h : ¬ (1099511627776 / b.natAbs < a.natAbs)) : Num (a * b) := by
  have h1 : a.natAbs ≤ 1099511627776 / b.natAbs := Nat.le_of_not_lt h
  have h2 : a.natAbs * b.natAbs ≤ 1099511627776 := by
    have := Nat.mul_le_mul_right b.natAbs h1
    exact Nat.le_trans this (Nat.div_mul_le_self _ _)
  have h3 : (a * b).natAbs ≤ 1099511627776 := by rw [Int.natAbs_mul]; exact h2
  unfold Num; omega

theorem quo_abs {b : Int} (hb : b ≠ 0) : IntKind.i64.wrap ((1099511627776 : Int).tdiv (b.natAbs : Int)) = ((1099511627776 / b.natAbs : Nat) : Int) := by
  have e : (1099511627776 : Int).tdiv (b.natAbs : Int) = ((1099511627776 / b.natAbs : Nat) : Int) := by
    rw [show (1099511627776 : Int) = ((1099511627776 : Nat) : Int) from rfl, ← Int.ofNat_tdiv]
  have h1 : 1099511627776 / b.natAbs ≤ 1099511627776 := Nat.div_le_self _ _
  rw [e]
  generalize 1099511627776 / b.natAbs = q at *
  rw [IntWalk.i64_in _ (by omega)]

theorem product_calls {a b : Int} (ha : Num a) (hb : Num b) (h : Heap) : ACalls Tryz.prog G 154 [.i a, .i b] h (fun r h' => r = .tup [.i (prodS a b).1, .i (prodS a b).2] ∧ h' = h) := by
  unfold Num at ha hb
  by_cases hz : a = 0 ∨ b = 0
  · have f1 : (a == 0 || b == 0) = true := by rcases hz with e | e <;> simp [e]
    have e : prodS a b = (0, 0) := by
      unfold prodS
      rcases hz with e | e
      · subst e; simp
      · subst e; simp
    rw [e]
    refine acalls_pure (rl := []) mixed Tryz.func154 rfl (rs := [.tmp 4, .tmp 5]) rfl Tryz.ntmps154 (by simp) ?_
    repeat' (first | ((first | refine aops_nil ?_ | refine aqops_nil ?_); (try simp only [NB])) | ((repeat ((fail_if_success (refine hK _ ?_)); clear hK K)); refine hK _ ?_; clear hK K) | ((first | refine aops_k fun K1 hK1 => ?_ | refine aqops_k fun K1 hK1 => ?_ | refine awp_cond_k fun A B hA hB => ?_); simp only [S1, simprocAttr, TTEvI, f1]; first | (refine hK1 _ ?_; clear hK1 K1) | ((first | refine hA ?_ | refine hB ?_); clear hA hB A B) | (refine join_x (v := ?_) (fun hg hk9 => ?_) ?_; rotate_left; (focus (try ((try simp only [BN] at hg); simp only [S1, simprocAttr, TTEvI, f1, hg] at hk9 ⊢)); first | exact hk9); (refine hK1 _ ?_; clear hK1 K1)) | (((first | (refine ⟨fun hg => hA ?_, fun hg => hB ?_⟩ <;> clear hA hB A B) | refine ⟨fun hg => ?_, fun hg => ?_⟩) <;> (try simp only [BN2] at hg) <;> (try simp only [hg, cond_true, cond_false])) <;> (try (refine hK1 _ ?_; clear hK1 K1)) <;> (try simp only [BN3] at hg))) | (refine awp_seq_k fun K hK => ?_) | ((first | refine awp_region ?_ | refine awp_draw (by kernel_rfl) ?_ | refine awp_block ?_ | refine awp_exit ?_ | refine awp_skip ?_ | refine awp_ret ?_); (try simp only [NB, simprocAttr])))
    simp only [EndP, FinP, resA, resL, resA1, lastV, lastA, lastAs, pur, purs, take_app, List.take_length, S1, simprocAttr, TTEvI, Nat.le_add_right, Nat.le_refl]
  · have f0 : ¬ b = 0 := fun e => hz (.inr e)
    have f1 : (a == 0) = false := by simpa using fun e => hz (.inl e)
    have f2 : (b == 0) = false := by simpa using f0
    have f3 : ¬ ((b.natAbs : Int) = 0) := by omega
    have f4 := quo_abs f0
    refine acalls_pure (rl := []) mixed Tryz.func154 rfl (rs := [.tmp 4, .tmp 5]) rfl Tryz.ntmps154 (by simp) ?_
    repeat' (first | ((first | refine aops_nil ?_ | refine aqops_nil ?_); (try simp only [NB])) | ((repeat ((fail_if_success (refine hK _ ?_)); clear hK K)); refine hK _ ?_; clear hK K) | ((first | refine aops_k fun K1 hK1 => ?_ | refine aqops_k fun K1 hK1 => ?_ | refine awp_cond_k fun A B hA hB => ?_); simp only [S1, simprocAttr, TTEvI, f1, f2, f3, f4]; first | (refine hK1 _ ?_; clear hK1 K1) | ((first | refine hA ?_ | refine hB ?_); clear hA hB A B) | ((first | apply call_a E159 | apply call_q E159); exact (abs_calls' (by omega) _); (refine hK1 _ ?_; clear hK1 K1)) | (refine join_x (v := ?_) (fun hg hk9 => ?_) ?_; rotate_left; (focus (try ((try simp only [BN] at hg); simp only [S1, simprocAttr, TTEvI, f1, f2, f3, f4, hg] at hk9 ⊢)); first | exact hk9 | ((first | apply call_a E159 | apply call_q E159); exact (abs_calls' (by omega) _); exact hk9)); (refine hK1 _ ?_; clear hK1 K1)) | (((first | (refine ⟨fun hg => hA ?_, fun hg => hB ?_⟩ <;> clear hA hB A B) | refine ⟨fun hg => ?_, fun hg => ?_⟩) <;> (try simp only [BN2] at hg) <;> (try simp only [hg, cond_true, cond_false])) <;> (try (refine hK1 _ ?_; clear hK1 K1)) <;> (try simp only [BN3] at hg))) | (refine awp_seq_k fun K hK => ?_) | ((first | refine awp_region ?_ | refine awp_draw (by kernel_rfl) ?_ | refine awp_block ?_ | refine awp_exit ?_ | refine awp_skip ?_ | refine awp_ret ?_); (try simp only [NB, simprocAttr])))
    · simp only [EndP, FinP, resA, resL, resA1, lastV, lastA, lastAs, pur, purs, take_app, List.take_length, S1, simprocAttr, TTEvI, Nat.le_add_right, Nat.le_refl]
      have hq : 1099511627776 / b.natAbs < a.natAbs := by generalize 1099511627776 / b.natAbs = q at *; omega
      simp [prodS, f0, hq]
    · simp only [EndP, FinP, resA, resL, resA1, lastV, lastA, lastAs, pur, purs, take_app, List.take_length, S1, simprocAttr, TTEvI, Nat.le_add_right, Nat.le_refl]
      have hq : ¬ 1099511627776 / b.natAbs < a.natAbs := by generalize 1099511627776 / b.natAbs = q at *; omega
      have hn := prod_num f0 hq
      unfold Num at hn
      rw [IntWalk.i64_in _ (by omega)]
      simp [prodS, f0, hq]

def sumS (op a b : Int) : Int × Bool × Int :=
  if op = 10 then (0, a == b, 0) else if op = 11 then (0, decide (a < b), 0) else if op = 12 then (0, a == b || decide (a < b), 0)
  else if op = 8 then (if b = 0 then (0, false, 41) else (a.tdiv b, false, 0))
  else if op = 9 then (if b = 0 then (0, false, 41) else (a.tmod b, false, 0))
  else if op = 7 then ((prodS a b).1, false, (prodS a b).2)
  else if op = 6 then (if 1099511627776 < (a - b).natAbs then (0, false, 40) else (a - b, false, 0))
  else (if 1099511627776 < (a + b).natAbs then (0, false, 40) else (a + b, false, 0))

theorem tdiv_num {a b : Int} (ha : Num a) : Num (a.tdiv b) := by
  have : (a.tdiv b).natAbs ≤ a.natAbs := Int.natAbs_tdiv_le_natAbs a b
  unfold Num at *; omega
theorem tmod_num {a b : Int} (ha : Num a) : Num (a.tmod b) := by
  have : (a.tmod b).natAbs ≤ a.natAbs := by rw [Int.natAbs_tmod]; exact Nat.mod_le _ _
  unfold Num at *; omega
theorem fits_iff {n : Int} : inM n = true ↔ ¬ 1099511627776 < n.natAbs := by unfold inM; simp; omega

theorem reckon_add {a b : Int} (ha : Num a) (hb : Num b) (h : Heap) : ACalls Tryz.prog G 148 [.i 5, .i a, .i b] h (fun r h' => r = .tup [.i (sumS 5 a b).1, .i (sumS 5 a b).2.2] ∧ h' = h) := by
  unfold Num at *
  have w1 := IntWalk.i64_in (a + b) (by omega)
  refine acalls_pure (rl := []) mixed Tryz.func148 rfl (rs := [.tmp 6, .tmp 7]) rfl Tryz.ntmps148 (by simp) ?_
  repeat' (first | ((first | refine aops_nil ?_ | refine aqops_nil ?_); (try simp only [NB])) | ((repeat ((fail_if_success (refine hK _ ?_)); clear hK K)); refine hK _ ?_; clear hK K) | ((first | refine aops_k fun K1 hK1 => ?_ | refine aqops_k fun K1 hK1 => ?_ | refine awp_cond_k fun A B hA hB => ?_); simp only [S1, simprocAttr, TTEvI, w1]; first | (refine hK1 _ ?_; clear hK1 K1) | ((first | refine hA ?_ | refine hB ?_); clear hA hB A B) | ((first | apply call_a E99 | apply call_q E99); exact (fits_calls _ _); (refine hK1 _ ?_; clear hK1 K1)) | (((first | (refine ⟨fun hg => hA ?_, fun hg => hB ?_⟩ <;> clear hA hB A B) | refine ⟨fun hg => ?_, fun hg => ?_⟩) <;> (try simp only [BN2] at hg) <;> (try simp only [hg, cond_true, cond_false])) <;> (try (refine hK1 _ ?_; clear hK1 K1)) <;> (try simp only [BN3] at hg))) | (refine awp_seq_k fun K hK => ?_) | ((first | refine awp_region ?_ | refine awp_draw (by kernel_rfl) ?_ | refine awp_block ?_ | refine awp_exit ?_ | refine awp_skip ?_ | refine awp_ret ?_); (try simp only [NB, simprocAttr])))
  all_goals simp only [EndP, FinP, resA, resL, resA1, lastV, lastA, lastAs, pur, purs, take_app, List.take_length, S1, simprocAttr, TTEvI, Nat.le_add_right, Nat.le_refl]
  all_goals (try simp only [Bool.not_eq_true', Bool.not_eq_false'] at hg)
  all_goals (first
    | (have := fits_iff.mp hg; simp [sumS, this])
    | (have := Classical.byContradiction (fun e => Bool.false_ne_true (hg.symm.trans (fits_iff.mpr e))); simp [sumS, this]))

theorem reckon_sub {a b : Int} (ha : Num a) (hb : Num b) (h : Heap) : ACalls Tryz.prog G 148 [.i 6, .i a, .i b] h (fun r h' => r = .tup [.i (sumS 6 a b).1, .i (sumS 6 a b).2.2] ∧ h' = h) := by
  unfold Num at *
  have w1 := IntWalk.i64_in (a - b) (by omega)
  refine acalls_pure (rl := []) mixed Tryz.func148 rfl (rs := [.tmp 6, .tmp 7]) rfl Tryz.ntmps148 (by simp) ?_
  repeat' (first | ((first | refine aops_nil ?_ | refine aqops_nil ?_); (try simp only [NB])) | ((repeat ((fail_if_success (refine hK _ ?_)); clear hK K)); refine hK _ ?_; clear hK K) | ((first | refine aops_k fun K1 hK1 => ?_ | refine aqops_k fun K1 hK1 => ?_ | refine awp_cond_k fun A B hA hB => ?_); simp only [S1, simprocAttr, TTEvI, w1]; first | (refine hK1 _ ?_; clear hK1 K1) | ((first | refine hA ?_ | refine hB ?_); clear hA hB A B) | ((first | apply call_a E99 | apply call_q E99); exact (fits_calls _ _); (refine hK1 _ ?_; clear hK1 K1)) | (((first | (refine ⟨fun hg => hA ?_, fun hg => hB ?_⟩ <;> clear hA hB A B) | refine ⟨fun hg => ?_, fun hg => ?_⟩) <;> (try simp only [BN2] at hg) <;> (try simp only [hg, cond_true, cond_false])) <;> (try (refine hK1 _ ?_; clear hK1 K1)) <;> (try simp only [BN3] at hg))) | (refine awp_seq_k fun K hK => ?_) | ((first | refine awp_region ?_ | refine awp_draw (by kernel_rfl) ?_ | refine awp_block ?_ | refine awp_exit ?_ | refine awp_skip ?_ | refine awp_ret ?_); (try simp only [NB, simprocAttr])))
  all_goals simp only [EndP, FinP, resA, resL, resA1, lastV, lastA, lastAs, pur, purs, take_app, List.take_length, S1, simprocAttr, TTEvI, Nat.le_add_right, Nat.le_refl]
  all_goals (try simp only [Bool.not_eq_true', Bool.not_eq_false'] at hg)
  all_goals (first
    | (have := fits_iff.mp hg; simp [sumS, this])
    | (have := Classical.byContradiction (fun e => Bool.false_ne_true (hg.symm.trans (fits_iff.mpr e))); simp [sumS, this]))

theorem reckon_mul {a b : Int} (ha : Num a) (hb : Num b) (h : Heap) : ACalls Tryz.prog G 148 [.i 7, .i a, .i b] h (fun r h' => r = .tup [.i (sumS 7 a b).1, .i (sumS 7 a b).2.2] ∧ h' = h) := by
  unfold Num at *
  skip
  refine acalls_pure (rl := []) mixed Tryz.func148 rfl (rs := [.tmp 6, .tmp 7]) rfl Tryz.ntmps148 (by simp) ?_
  repeat' (first | ((first | refine aops_nil ?_ | refine aqops_nil ?_); (try simp only [NB])) | ((repeat ((fail_if_success (refine hK _ ?_)); clear hK K)); refine hK _ ?_; clear hK K) | ((first | refine aops_k fun K1 hK1 => ?_ | refine aqops_k fun K1 hK1 => ?_ | refine awp_cond_k fun A B hA hB => ?_); simp only [S1, simprocAttr, TTEvI, Nat.add_zero]; first | (refine hK1 _ ?_; clear hK1 K1) | ((first | refine hA ?_ | refine hB ?_); clear hA hB A B) | ((first | apply call_a E154 | apply call_q E154); exact (product_calls (by assumption) (by assumption) _); (refine hK1 _ ?_; clear hK1 K1)) | (((first | (refine ⟨fun hg => hA ?_, fun hg => hB ?_⟩ <;> clear hA hB A B) | refine ⟨fun hg => ?_, fun hg => ?_⟩) <;> (try simp only [BN2] at hg) <;> (try simp only [hg, cond_true, cond_false])) <;> (try (refine hK1 _ ?_; clear hK1 K1)) <;> (try simp only [BN3] at hg))) | (refine awp_seq_k fun K hK => ?_) | ((first | refine awp_region ?_ | refine awp_draw (by kernel_rfl) ?_ | refine awp_block ?_ | refine awp_exit ?_ | refine awp_skip ?_ | refine awp_ret ?_); (try simp only [NB, simprocAttr])))
  all_goals simp only [EndP, FinP, resA, resL, resA1, lastV, lastA, lastAs, pur, purs, take_app, List.take_length, S1, simprocAttr, TTEvI, Nat.le_add_right, Nat.le_refl]
  all_goals simp [sumS]
theorem reckon_quo {a b : Int} (ha : Num a) (hb : Num b) (hz : ¬ b = 0) (h : Heap) : ACalls Tryz.prog G 148 [.i 8, .i a, .i b] h (fun r h' => r = .tup [.i (sumS 8 a b).1, .i (sumS 8 a b).2.2] ∧ h' = h) := by
  have hd := tdiv_num (b := b) ha
  unfold Num at *
  have f2 : (b == 0) = false := by simpa using hz
  have w1 := IntWalk.i64_in (a.tdiv b) (by omega)
  refine acalls_pure (rl := []) mixed Tryz.func148 rfl (rs := [.tmp 6, .tmp 7]) rfl Tryz.ntmps148 (by simp) ?_
  repeat' (first | ((first | refine aops_nil ?_ | refine aqops_nil ?_); (try simp only [NB])) | ((repeat ((fail_if_success (refine hK _ ?_)); clear hK K)); refine hK _ ?_; clear hK K) | ((first | refine aops_k fun K1 hK1 => ?_ | refine aqops_k fun K1 hK1 => ?_ | refine awp_cond_k fun A B hA hB => ?_); simp only [S1, simprocAttr, TTEvI, w1, f2, hz]; first | (refine hK1 _ ?_; clear hK1 K1) | ((first | refine hA ?_ | refine hB ?_); clear hA hB A B) | (((first | (refine ⟨fun hg => hA ?_, fun hg => hB ?_⟩ <;> clear hA hB A B) | refine ⟨fun hg => ?_, fun hg => ?_⟩) <;> (try simp only [BN2] at hg) <;> (try simp only [hg, cond_true, cond_false])) <;> (try (refine hK1 _ ?_; clear hK1 K1)) <;> (try simp only [BN3] at hg))) | (refine awp_seq_k fun K hK => ?_) | ((first | refine awp_region ?_ | refine awp_draw (by kernel_rfl) ?_ | refine awp_block ?_ | refine awp_exit ?_ | refine awp_skip ?_ | refine awp_ret ?_); (try simp only [NB, simprocAttr])))
  all_goals simp only [EndP, FinP, resA, resL, resA1, lastV, lastA, lastAs, pur, purs, take_app, List.take_length, S1, simprocAttr, TTEvI, Nat.le_add_right, Nat.le_refl]
  all_goals simp [sumS, hz]
theorem reckon_rem {a b : Int} (ha : Num a) (hb : Num b) (hz : ¬ b = 0) (h : Heap) : ACalls Tryz.prog G 148 [.i 9, .i a, .i b] h (fun r h' => r = .tup [.i (sumS 9 a b).1, .i (sumS 9 a b).2.2] ∧ h' = h) := by
  have hd := tmod_num (b := b) ha
  unfold Num at *
  have f2 : (b == 0) = false := by simpa using hz
  have w5 : (-9223372036854775808 ≤ a.tmod b) := by omega
  have w6 : (a.tmod b ≤ 9223372036854775807) := by omega
  refine acalls_pure (rl := []) mixed Tryz.func148 rfl (rs := [.tmp 6, .tmp 7]) rfl Tryz.ntmps148 (by simp) ?_
  repeat' (first | ((first | refine aops_nil ?_ | refine aqops_nil ?_); (try simp only [NB])) | ((repeat ((fail_if_success (refine hK _ ?_)); clear hK K)); refine hK _ ?_; clear hK K) | ((first | refine aops_k fun K1 hK1 => ?_ | refine aqops_k fun K1 hK1 => ?_ | refine awp_cond_k fun A B hA hB => ?_); simp only [S1, simprocAttr, TTEvI, w5, w6, f2, hz]; first | (refine hK1 _ ?_; clear hK1 K1) | ((first | refine hA ?_ | refine hB ?_); clear hA hB A B) | (((first | (refine ⟨fun hg => hA ?_, fun hg => hB ?_⟩ <;> clear hA hB A B) | refine ⟨fun hg => ?_, fun hg => ?_⟩) <;> (try simp only [BN2] at hg) <;> (try simp only [hg, cond_true, cond_false])) <;> (try (refine hK1 _ ?_; clear hK1 K1)) <;> (try simp only [BN3] at hg))) | (refine awp_seq_k fun K hK => ?_) | ((first | refine awp_region ?_ | refine awp_draw (by kernel_rfl) ?_ | refine awp_block ?_ | refine awp_exit ?_ | refine awp_skip ?_ | refine awp_ret ?_); (try simp only [NB, simprocAttr])))
  all_goals simp only [EndP, FinP, resA, resL, resA1, lastV, lastA, lastAs, pur, purs, take_app, List.take_length, S1, simprocAttr, TTEvI, Nat.le_add_right, Nat.le_refl]
  all_goals simp [sumS, hz]
theorem reckon_z8 {a : Int} (h : Heap) : ACalls Tryz.prog G 148 [.i 8, .i a, .i 0] h (fun r h' => r = .tup [.i (sumS 8 a 0).1, .i (sumS 8 a 0).2.2] ∧ h' = h) := by
  refine acalls_pure (rl := []) mixed Tryz.func148 rfl (rs := [.tmp 6, .tmp 7]) rfl Tryz.ntmps148 (by simp) ?_
  repeat' (first | ((first | refine aops_nil ?_ | refine aqops_nil ?_); (try simp only [NB])) | ((repeat ((fail_if_success (refine hK _ ?_)); clear hK K)); refine hK _ ?_; clear hK K) | ((first | refine aops_k fun K1 hK1 => ?_ | refine aqops_k fun K1 hK1 => ?_ | refine awp_cond_k fun A B hA hB => ?_); simp only [S1, simprocAttr, TTEvI]; first | (refine hK1 _ ?_; clear hK1 K1) | ((first | refine hA ?_ | refine hB ?_); clear hA hB A B) | (((first | (refine ⟨fun hg => hA ?_, fun hg => hB ?_⟩ <;> clear hA hB A B) | refine ⟨fun hg => ?_, fun hg => ?_⟩) <;> (try simp only [BN2] at hg) <;> (try simp only [hg, cond_true, cond_false])) <;> (try (refine hK1 _ ?_; clear hK1 K1)) <;> (try simp only [BN3] at hg))) | (refine awp_seq_k fun K hK => ?_) | ((first | refine awp_region ?_ | refine awp_draw (by kernel_rfl) ?_ | refine awp_block ?_ | refine awp_exit ?_ | refine awp_skip ?_ | refine awp_ret ?_); (try simp only [NB, simprocAttr])))
  all_goals simp only [EndP, FinP, resA, resL, resA1, lastV, lastA, lastAs, pur, purs, take_app, List.take_length, S1, simprocAttr, TTEvI, Nat.le_add_right, Nat.le_refl]
  all_goals simp [sumS]
theorem reckon_z9 {a : Int} (h : Heap) : ACalls Tryz.prog G 148 [.i 9, .i a, .i 0] h (fun r h' => r = .tup [.i (sumS 9 a 0).1, .i (sumS 9 a 0).2.2] ∧ h' = h) := by
  refine acalls_pure (rl := []) mixed Tryz.func148 rfl (rs := [.tmp 6, .tmp 7]) rfl Tryz.ntmps148 (by simp) ?_
  repeat' (first | ((first | refine aops_nil ?_ | refine aqops_nil ?_); (try simp only [NB])) | ((repeat ((fail_if_success (refine hK _ ?_)); clear hK K)); refine hK _ ?_; clear hK K) | ((first | refine aops_k fun K1 hK1 => ?_ | refine aqops_k fun K1 hK1 => ?_ | refine awp_cond_k fun A B hA hB => ?_); simp only [S1, simprocAttr, TTEvI]; first | (refine hK1 _ ?_; clear hK1 K1) | ((first | refine hA ?_ | refine hB ?_); clear hA hB A B) | (((first | (refine ⟨fun hg => hA ?_, fun hg => hB ?_⟩ <;> clear hA hB A B) | refine ⟨fun hg => ?_, fun hg => ?_⟩) <;> (try simp only [BN2] at hg) <;> (try simp only [hg, cond_true, cond_false])) <;> (try (refine hK1 _ ?_; clear hK1 K1)) <;> (try simp only [BN3] at hg))) | (refine awp_seq_k fun K hK => ?_) | ((first | refine awp_region ?_ | refine awp_draw (by kernel_rfl) ?_ | refine awp_block ?_ | refine awp_exit ?_ | refine awp_skip ?_ | refine awp_ret ?_); (try simp only [NB, simprocAttr])))
  all_goals simp only [EndP, FinP, resA, resL, resA1, lastV, lastA, lastAs, pur, purs, take_app, List.take_length, S1, simprocAttr, TTEvI, Nat.le_add_right, Nat.le_refl]
  all_goals simp [sumS]

theorem reckon_calls {op a b : Int} (h1 : 5 ≤ op) (h2 : op ≤ 9) (ha : Num a) (hb : Num b) (h : Heap) : ACalls Tryz.prog G 148 [.i op, .i a, .i b] h (fun r h' => r = .tup [.i (sumS op a b).1, .i (sumS op a b).2.2] ∧ h' = h) := by
  rcases (by omega : op = 5 ∨ op = 6 ∨ op = 7 ∨ op = 8 ∨ op = 9) with rfl | rfl | rfl | rfl | rfl
  · exact reckon_add ha hb h
  · exact reckon_sub ha hb h
  · exact reckon_mul ha hb h
  · by_cases hz : b = 0
    · subst hz; exact reckon_z8 h
    · exact reckon_quo ha hb hz h
  · by_cases hz : b = 0
    · subst hz; exact reckon_z9 h
    · exact reckon_rem ha hb hz h
end Go.Proofs.YtbbmfemplmelhaaGreatDoor.AM
end

section
set_option linter.unusedVariables false
set_option linter.unusedSimpArgs false
set_option maxRecDepth 4000
set_option maxHeartbeats 4000000
namespace Go.Proofs.YtbbmfemplmelhaaGreatDoor.AM
open Go Go.Proofs
set_option linter.defProp false in
attribute [local irreducible] awp aops aqops
variable {G : Nat → Option (List PV)}

/-- A right term; true: of a truth. -/
inductive Good : Tm → Bool → Prop where
  | num (n : Int) (h1 : 0 ≤ n) (h2 : n ≤ 1099511627776) : Good (.mk 1 n []) false
  | var (n : Int) (h : n = 0 ∨ n = 1 ∨ n = 2 ∨ n = 3) : Good (.mk 2 n []) false
  | neg (a : Tm) (h : Good a false) : Good (.mk 3 0 [a]) false
  | not (a : Tm) (h : Good a true) : Good (.mk 4 0 [a]) true
  | bin (o : Int) (a b : Tm) (h1 : 5 ≤ o) (h2 : o ≤ 9) (ha : Good a false) (hb : Good b false) : Good (.mk o 0 [a, b]) false
  | cmp (o : Int) (a b : Tm) (h1 : 10 ≤ o) (h2 : o ≤ 12) (ha : Good a false) (hb : Good b false) : Good (.mk o 0 [a, b]) true
  | log (o : Int) (a b : Tm) (h : o = 13 ∨ o = 14) (ha : Good a true) (hb : Good b true) : Good (.mk o 0 [a, b]) true

theorem good_of (t : Tm) : t.form = true → t.typed = true → Good t (truthOp t.op) := by
  refine Tm.ind (p := fun t => t.form = true → t.typed = true → Good t (truthOp t.op)) (fun t ih hf ht => ?_) t
  rw [Tm.form_eq, Bool.and_eq_true, List.all_eq_true] at hf
  rw [Tm.typed_eq, List.all_eq_true] at ht
  obtain ⟨h1, h2⟩ := hf
  cases t with
  | mk o n ks =>
    simp only [Tm.op, Tm.n, Tm.kids] at *
    simp only [headOk, Bool.and_eq_true, decide_eq_true_eq] at h1
    obtain ⟨⟨⟨⟨⟨⟨g1, g2⟩, g3⟩, g4⟩, g5⟩, g6⟩, g7⟩ := h1
    have hk : ∀ k ∈ ks, truthOp k.op = wantOp o ∧ Good k (wantOp o) := fun k hm => by
      have := ht k hm
      simp only [kidTyped, Bool.and_eq_true, beq_iff_eq] at this
      exact ⟨this.1, this.1 ▸ ih k hm (h2 k hm) this.2⟩
    unfold kidsN at g3
    match ks, hk, g3 with
    | [], hk, g3 =>
      have : o = 1 ∨ o = 2 := by
        simp only [List.length_nil] at g3
        split at g3
        · omega
        · split at g3 <;> omega
      rcases this with rfl | rfl
      · exact Good.num n g4 (g5 rfl)
      · exact Good.var n (by have := g6 rfl; omega)
    | [a], hk, g3 =>
      have : o = 3 ∨ o = 4 := by
        simp only [List.length_cons, List.length_nil] at g3
        split at g3
        · omega
        · split at g3 <;> omega
      have ha := (hk a (by simp)).2
      have hn := g7 (by omega)
      subst hn
      rcases this with rfl | rfl
      · exact Good.neg a ha
      · exact Good.not a ha
    | [a, b], hk, g3 =>
      have h5 : 5 ≤ o := by
        simp only [List.length_cons, List.length_nil] at g3
        split at g3
        · omega
        · split at g3 <;> omega
      have ha := (hk a (by simp)).2
      have hb := (hk b (by simp)).2
      have hn := g7 (by omega)
      subst hn
      rcases (by omega : o ≤ 9 ∨ (10 ≤ o ∧ o ≤ 12) ∨ (o = 13 ∨ o = 14)) with e | e | e
      · have w : wantOp o = false := by unfold wantOp; simp; omega
        have u : truthOp o = false := by unfold truthOp; simp; omega
        rw [w] at ha hb; rw [u]
        exact Good.bin o a b h5 e ha hb
      · have w : wantOp o = false := by unfold wantOp; simp; omega
        have u : truthOp o = true := by unfold truthOp; simp; omega
        rw [w] at ha hb; rw [u]
        exact Good.cmp o a b e.1 e.2 ha hb
      · have w : wantOp o = true := by unfold wantOp; simp; omega
        have u : truthOp o = true := by unfold truthOp; simp; omega
        rw [w] at ha hb; rw [u]
        exact Good.log o a b e ha hb
    | a :: b :: c :: r, hk, g3 =>
      exfalso
      simp only [List.length_cons] at g3
      split at g3
      · omega
      · split at g3 <;> omega

def evOp (v : Int → Int) (o n : Int) : List (Int × Bool × Int) → Int × Bool × Int
  | [] => if o = 1 then (n, false, 0) else (v n, false, 0)
  | [a] => if a.2.2 ≠ 0 then (0, false, a.2.2) else if o = 3 then (-a.1, false, 0) else (0, !a.2.1, 0)
  | a :: b :: _ => if a.2.2 ≠ 0 then (0, false, a.2.2) else if o = 13 then (if a.2.1 then b else a) else if o = 14 then (if a.2.1 then a else b)
    else if b.2.2 ≠ 0 then (0, false, b.2.2) else sumS o a.1 b.1

def ev (v : Int → Int) : Tm → Int × Bool × Int
  | .mk o n ks => evOp v o n (ks.map (ev v))

theorem ev_nil (v : Int → Int) (o n : Int) : ev v (.mk o n []) = if o = 1 then (n, false, 0) else (v n, false, 0) := by simp [ev, evOp]
theorem ev_one (v : Int → Int) (o n : Int) (a : Tm) : ev v (.mk o n [a]) = if (ev v a).2.2 ≠ 0 then (0, false, (ev v a).2.2) else if o = 3 then (-(ev v a).1, false, 0) else (0, !(ev v a).2.1, 0) := by simp [ev, evOp]
theorem ev_two (v : Int → Int) (o n : Int) (a b : Tm) : ev v (.mk o n [a, b]) = if (ev v a).2.2 ≠ 0 then (0, false, (ev v a).2.2) else if o = 13 then (if (ev v a).2.1 then ev v b else ev v a) else if o = 14 then (if (ev v a).2.1 then ev v a else ev v b)
    else if (ev v b).2.2 ≠ 0 then (0, false, (ev v b).2.2) else sumS o (ev v a).1 (ev v b).1 := by simp [ev, evOp]

theorem prodS_num {a b : Int} : Num (prodS a b).1 ∧ ((prodS a b).2 ≠ 0 → (prodS a b).1 = 0) ∧ ((prodS a b).2 = 0 ∨ (prodS a b).2 = 40) := by
  unfold prodS
  split
  · exact ⟨⟨by decide, by decide⟩, fun _ => rfl, .inr rfl⟩
  · rename_i h
    refine ⟨?_, fun h => absurd rfl h, .inl rfl⟩
    by_cases hb : b = 0
    · subst hb; simp; exact ⟨by decide, by decide⟩
    · exact prod_num hb fun e => h ⟨hb, e⟩

theorem sumS_num {o a b : Int} (ha : Num a) : Num (sumS o a b).1 ∧ ((sumS o a b).2.2 ≠ 0 → (sumS o a b).1 = 0 ∧ (sumS o a b).2.1 = false) ∧ ((sumS o a b).2.2 = 0 ∨ (sumS o a b).2.2 = 40 ∨ (sumS o a b).2.2 = 41) := by
  have z : Num 0 := ⟨by decide, by decide⟩
  have hp := prodS_num (a := a) (b := b)
  unfold sumS
  repeat' split
  all_goals first
    | exact ⟨z, fun h => ⟨rfl, rfl⟩, .inr (.inl rfl)⟩
    | exact ⟨z, fun h => ⟨rfl, rfl⟩, .inr (.inr rfl)⟩
    | exact ⟨z, fun h => absurd rfl h, .inl rfl⟩
    | exact ⟨tdiv_num ha, fun h => absurd rfl h, .inl rfl⟩
    | exact ⟨tmod_num ha, fun h => absurd rfl h, .inl rfl⟩
    | exact ⟨hp.1, fun h => ⟨hp.2.1 h, rfl⟩, by rcases hp.2.2 with e | e <;> simp [e]⟩
    | exact ⟨(by unfold Num; dsimp only; omega), fun h => absurd rfl h, .inl rfl⟩

/-- A number is one; behind a fault there is nothing; which faults there are. -/
theorem ev_good {v : Int → Int} (hv : ∀ i, Num (v i)) {t : Tm} {k : Bool} (h : Good t k) : (k = false → Num (ev v t).1) ∧ ((ev v t).2.2 ≠ 0 → (ev v t).1 = 0 ∧ (ev v t).2.1 = false) ∧ ((ev v t).2.2 = 0 ∨ (ev v t).2.2 = 40 ∨ (ev v t).2.2 = 41) := by
  have z : Num 0 := ⟨by decide, by decide⟩
  induction h with
  | num n h1 h2 => rw [ev_nil]; simp; unfold Num; omega
  | var n h => rw [ev_nil, if_neg (by decide)]; exact ⟨fun _ => hv n, fun h => absurd rfl h, .inl rfl⟩
  | neg a h ih =>
    rw [ev_one]
    split
    · rename_i e; exact ⟨fun _ => z, fun _ => ⟨rfl, rfl⟩, ih.2.2⟩
    · have := ih.1 rfl
      rw [if_pos rfl]
      exact ⟨fun _ => (by unfold Num at *; simp only; omega), fun h => absurd rfl h, .inl rfl⟩
  | not a h ih =>
    rw [ev_one]
    split
    · exact ⟨fun _ => z, fun _ => ⟨rfl, rfl⟩, ih.2.2⟩
    · rw [if_neg (by decide)]; exact ⟨fun e => (by cases e), fun h => absurd rfl h, .inl rfl⟩
  | bin o a b h1 h2 ha hb iha ihb =>
    rw [ev_two]
    split
    · exact ⟨fun _ => z, fun _ => ⟨rfl, rfl⟩, iha.2.2⟩
    · rw [if_neg (by omega), if_neg (by omega)]
      split
      · exact ⟨fun _ => z, fun _ => ⟨rfl, rfl⟩, ihb.2.2⟩
      · have := sumS_num (o := o) (b := (ev v b).1) (iha.1 rfl)
        exact ⟨fun _ => this.1, this.2⟩
  | cmp o a b h1 h2 ha hb iha ihb =>
    rw [ev_two]
    split
    · exact ⟨fun _ => z, fun _ => ⟨rfl, rfl⟩, iha.2.2⟩
    · rw [if_neg (by omega), if_neg (by omega)]
      split
      · exact ⟨fun _ => z, fun _ => ⟨rfl, rfl⟩, ihb.2.2⟩
      · have := sumS_num (o := o) (b := (ev v b).1) (iha.1 rfl)
        exact ⟨fun e => (by cases e), this.2⟩
  | log o a b h ha hb iha ihb =>
    rw [ev_two]
    split
    · exact ⟨fun e => (by cases e), fun _ => ⟨rfl, rfl⟩, iha.2.2⟩
    · rcases h with rfl | rfl
      · rw [if_pos rfl]; split
        · exact ⟨fun e => (by cases e), ihb.2⟩
        · exact ⟨fun e => (by cases e), iha.2⟩
      · rw [if_neg (by decide), if_pos rfl]; split
        · exact ⟨fun e => (by cases e), iha.2⟩
        · exact ⟨fun e => (by cases e), ihb.2⟩
end Go.Proofs.YtbbmfemplmelhaaGreatDoor.AM
end

section
set_option linter.unusedVariables false
set_option linter.unusedSimpArgs false
set_option maxRecDepth 4000
set_option maxHeartbeats 4000000
namespace Go.Proofs.YtbbmfemplmelhaaGreatDoor.AM
open Go Go.Proofs
set_option linter.defProp false in
def TTEvL := And.intro T2 (And.intro T3 (And.intro T4 (And.intro T31 (And.intro T58 (And.intro T73 (And.intro T75 (And.intro T184 T185)))))))
attribute [local irreducible] awp aops aqops
variable {G : Nat → Option (List PV)}

abbrev aV (v : Int → Int) : AV := .agg [.i (v 0), .i (v 1), .i (v 2), .i (v 3)]
abbrev aN (x : Int × Bool × Int) : AV := .tup [.i x.1, .i x.2.2]
abbrev aB (x : Int × Bool × Int) : AV := .tup [.b x.2.1, .i x.2.2]

theorem number_var (v : Int → Int) (n : Int) (hn : n = 0 ∨ n = 1 ∨ n = 2 ∨ n = 3) (h : Heap) : ACalls Tryz.prog G 140 [.agg [.i 2, .i n, .p (.sl [])], aV v] h (fun r h' => r = .tup [.i (v n), .i 0] ∧ h' = h) := by
  rcases hn with rfl | rfl | rfl | rfl
  all_goals
    refine acalls_pure (rl := []) mixed Tryz.func140 rfl (rs := [.tmp 4, .tmp 5]) rfl Tryz.ntmps140 (by simp) ?_
    repeat' (first | ((first | refine aops_nil ?_ | refine aqops_nil ?_); (try simp only [NB])) | ((repeat ((fail_if_success (refine hK _ ?_)); clear hK K)); refine hK _ ?_; clear hK K) | ((first | refine aops_k fun K1 hK1 => ?_ | refine aqops_k fun K1 hK1 => ?_ | refine awp_cond_k fun A B hA hB => ?_); simp only [S1, simprocAttr, TTEvL]; first | (refine hK1 _ ?_; clear hK1 K1) | ((first | refine hA ?_ | refine hB ?_); clear hA hB A B) | (refine join_x (v := ?_) (fun hg hk9 => ?_) ?_; rotate_left; (focus (try ((try simp only [BN] at hg); simp only [S1, simprocAttr, TTEvL, hg] at hk9 ⊢)); first | exact hk9); (refine hK1 _ ?_; clear hK1 K1)) | (((first | (refine ⟨fun hg => hA ?_, fun hg => hB ?_⟩ <;> clear hA hB A B) | refine ⟨fun hg => ?_, fun hg => ?_⟩) <;> (try simp only [BN2] at hg) <;> (try simp only [hg, cond_true, cond_false])) <;> (try (refine hK1 _ ?_; clear hK1 K1)) <;> (try simp only [BN3] at hg))) | (refine awp_seq_k fun K hK => ?_) | ((first | refine awp_region ?_ | refine awp_draw (by kernel_rfl) ?_ | refine awp_block ?_ | refine awp_exit ?_ | refine awp_skip ?_ | refine awp_ret ?_); (try simp only [NB, simprocAttr])))
    all_goals simp only [EndP, FinP, resA, resL, resA1, lastV, lastA, lastAs, pur, purs, take_app, List.take_length, S1, simprocAttr, TTEvL, Nat.le_add_right, Nat.le_refl]

theorem number_num (v : Int → Int) (n : Int) (h : Heap) : ACalls Tryz.prog G 140 [.agg [.i 1, .i n, .p (.sl [])], aV v] h (fun r h' => r = .tup [.i n, .i 0] ∧ h' = h) := by
  refine acalls_pure (rl := []) mixed Tryz.func140 rfl (rs := [.tmp 4, .tmp 5]) rfl Tryz.ntmps140 (by simp) ?_
  repeat' (first | ((first | refine aops_nil ?_ | refine aqops_nil ?_); (try simp only [NB])) | ((repeat ((fail_if_success (refine hK _ ?_)); clear hK K)); refine hK _ ?_; clear hK K) | ((first | refine aops_k fun K1 hK1 => ?_ | refine aqops_k fun K1 hK1 => ?_ | refine awp_cond_k fun A B hA hB => ?_); simp only [S1, simprocAttr, TTEvL]; first | (refine hK1 _ ?_; clear hK1 K1) | ((first | refine hA ?_ | refine hB ?_); clear hA hB A B) | (refine join_x (v := ?_) (fun hg hk9 => ?_) ?_; rotate_left; (focus (try ((try simp only [BN] at hg); simp only [S1, simprocAttr, TTEvL, hg] at hk9 ⊢)); first | exact hk9); (refine hK1 _ ?_; clear hK1 K1)) | (((first | (refine ⟨fun hg => hA ?_, fun hg => hB ?_⟩ <;> clear hA hB A B) | refine ⟨fun hg => ?_, fun hg => ?_⟩) <;> (try simp only [BN2] at hg) <;> (try simp only [hg, cond_true, cond_false])) <;> (try (refine hK1 _ ?_; clear hK1 K1)) <;> (try simp only [BN3] at hg))) | (refine awp_seq_k fun K hK => ?_) | ((first | refine awp_region ?_ | refine awp_draw (by kernel_rfl) ?_ | refine awp_block ?_ | refine awp_exit ?_ | refine awp_skip ?_ | refine awp_ret ?_); (try simp only [NB, simprocAttr])))
  all_goals simp only [EndP, FinP, resA, resL, resA1, lastV, lastA, lastAs, pur, purs, take_app, List.take_length, S1, simprocAttr, TTEvL, Nat.le_add_right, Nat.le_refl]

theorem number_neg (v : Int → Int) (a : Tm) {x : Int × Bool × Int} (hx : Num x.1) (ih : ∀ h : Heap, ACalls Tryz.prog G 140 [aT a, aV v] h (fun r h' => r = aN x ∧ h' = h)) (h : Heap) :
    ACalls Tryz.prog G 140 [.agg [.i 3, .i 0, .p (.sl [eT a])], aV v] h (fun r h' => r = .tup [.i (-x.1), .i x.2.2] ∧ h' = h) := by
  unfold Num at hx
  have hw := IntWalk.i64_in (-x.1) (by omega)
  have hz : (0 : Int) - x.1 = - x.1 := by omega
  refine acalls_pure (rl := []) mixed Tryz.func140 rfl (rs := [.tmp 4, .tmp 5]) rfl Tryz.ntmps140 (by simp) ?_
  repeat' (first | ((first | refine aops_nil ?_ | refine aqops_nil ?_); (try simp only [NB])) | ((repeat ((fail_if_success (refine hK _ ?_)); clear hK K)); refine hK _ ?_; clear hK K) | ((first | refine aops_k fun K1 hK1 => ?_ | refine aqops_k fun K1 hK1 => ?_ | refine awp_cond_k fun A B hA hB => ?_); simp only [S1, simprocAttr, TTEvL, eT_eq, hw, hz]; first | (refine hK1 _ ?_; clear hK1 K1) | ((first | refine hA ?_ | refine hB ?_); clear hA hB A B) | ((first | apply call_a E140 | apply call_q E140); exact (ih _); (refine hK1 _ ?_; clear hK1 K1)) | (refine join_x (v := ?_) (fun hg hk9 => ?_) ?_; rotate_left; (focus (try ((try simp only [BN] at hg); simp only [S1, simprocAttr, TTEvL, eT_eq, hw, hz, hg] at hk9 ⊢)); first | exact hk9 | ((first | apply call_a E140 | apply call_q E140); exact (ih _); exact hk9)); (refine hK1 _ ?_; clear hK1 K1)) | (((first | (refine ⟨fun hg => hA ?_, fun hg => hB ?_⟩ <;> clear hA hB A B) | refine ⟨fun hg => ?_, fun hg => ?_⟩) <;> (try simp only [BN2] at hg) <;> (try simp only [hg, cond_true, cond_false])) <;> (try (refine hK1 _ ?_; clear hK1 K1)) <;> (try simp only [BN3] at hg))) | (refine awp_seq_k fun K hK => ?_) | ((first | refine awp_region ?_ | refine awp_draw (by kernel_rfl) ?_ | refine awp_block ?_ | refine awp_exit ?_ | refine awp_skip ?_ | refine awp_ret ?_); (try simp only [NB, simprocAttr])))
  all_goals simp only [EndP, FinP, resA, resL, resA1, lastV, lastA, lastAs, pur, purs, take_app, List.take_length, S1, simprocAttr, TTEvL, Nat.le_add_right, Nat.le_refl]

theorem number_bin (v : Int → Int) (o : Int) (h1 : 5 ≤ o) (h2 : o ≤ 9) (a b : Tm) {x y : Int × Bool × Int} (hx : Num x.1) (hy : Num y.1)
    (iha : ∀ h : Heap, ACalls Tryz.prog G 140 [aT a, aV v] h (fun r h' => r = aN x ∧ h' = h))
    (ihb : ∀ h : Heap, ACalls Tryz.prog G 140 [aT b, aV v] h (fun r h' => r = aN y ∧ h' = h)) (hx0 : x.2.2 ≠ 0 → x.1 = 0) (h : Heap) :
    ACalls Tryz.prog G 140 [.agg [.i o, .i 0, .p (.sl [eT a, eT b])], aV v] h (fun r h' => r = aN (if x.2.2 ≠ 0 then (0, false, x.2.2) else if y.2.2 ≠ 0 then (0, false, y.2.2) else sumS o x.1 y.1) ∧ h' = h) := by
  have f1 : (o == 1) = false := by simp; omega
  have f2 : (o == 2) = false := by simp; omega
  have f3 : (o == 3) = false := by simp; omega
  have hz : IntKind.i64.wrap (0 - 0) = 0 := rfl
  have hz0 : IntKind.i64.wrap 0 = 0 := rfl
  by_cases e1 : x.2.2 = 0
  · have f4 : (x.2.2 != 0) = false := by simp [e1]
    by_cases e2 : y.2.2 = 0
    · have f5 : (y.2.2 != 0) = false := by simp [e2]
      refine acalls_pure (rl := []) mixed Tryz.func140 rfl (rs := [.tmp 4, .tmp 5]) rfl Tryz.ntmps140 (by simp) ?_
      repeat' (first | ((first | refine aops_nil ?_ | refine aqops_nil ?_); (try simp only [NB])) | ((repeat ((fail_if_success (refine hK _ ?_)); clear hK K)); refine hK _ ?_; clear hK K) | ((first | refine aops_k fun K1 hK1 => ?_ | refine aqops_k fun K1 hK1 => ?_ | refine awp_cond_k fun A B hA hB => ?_); simp only [S1, simprocAttr, TTEvL, eT_eq, f1, f2, f3, f4, f5]; first | (refine hK1 _ ?_; clear hK1 K1) | ((first | refine hA ?_ | refine hB ?_); clear hA hB A B) | ((first | apply call_a E140 | apply call_q E140); exact (iha _); (refine hK1 _ ?_; clear hK1 K1)) | ((first | apply call_a E140 | apply call_q E140); exact (ihb _); (refine hK1 _ ?_; clear hK1 K1)) | ((first | apply call_a E148 | apply call_q E148); exact (reckon_calls h1 h2 hx hy _); (refine hK1 _ ?_; clear hK1 K1)) | (refine join_x (v := ?_) (fun hg hk9 => ?_) ?_; rotate_left; (focus (try ((try simp only [BN] at hg); simp only [S1, simprocAttr, TTEvL, eT_eq, f1, f2, f3, f4, f5, hg] at hk9 ⊢)); first | exact hk9 | ((first | apply call_a E140 | apply call_q E140); exact (iha _); exact hk9) | ((first | apply call_a E140 | apply call_q E140); exact (ihb _); exact hk9) | ((first | apply call_a E148 | apply call_q E148); exact (reckon_calls h1 h2 hx hy _); exact hk9)); (refine hK1 _ ?_; clear hK1 K1)) | (((first | (refine ⟨fun hg => hA ?_, fun hg => hB ?_⟩ <;> clear hA hB A B) | refine ⟨fun hg => ?_, fun hg => ?_⟩) <;> (try simp only [BN2] at hg) <;> (try simp only [hg, cond_true, cond_false])) <;> (try (refine hK1 _ ?_; clear hK1 K1)) <;> (try simp only [BN3] at hg))) | (refine awp_seq_k fun K hK => ?_) | ((first | refine awp_region ?_ | refine awp_draw (by kernel_rfl) ?_ | refine awp_block ?_ | refine awp_exit ?_ | refine awp_skip ?_ | refine awp_ret ?_); (try simp only [NB, simprocAttr])))
      all_goals simp only [EndP, FinP, resA, resL, resA1, lastV, lastA, lastAs, pur, purs, take_app, List.take_length, S1, simprocAttr, TTEvL, Nat.le_add_right, Nat.le_refl]
      all_goals simp [e1, e2]
    · have f5 : (y.2.2 != 0) = true := by simp [e2]
      refine acalls_pure (rl := []) mixed Tryz.func140 rfl (rs := [.tmp 4, .tmp 5]) rfl Tryz.ntmps140 (by simp) ?_
      repeat' (first | ((first | refine aops_nil ?_ | refine aqops_nil ?_); (try simp only [NB])) | ((repeat ((fail_if_success (refine hK _ ?_)); clear hK K)); refine hK _ ?_; clear hK K) | ((first | refine aops_k fun K1 hK1 => ?_ | refine aqops_k fun K1 hK1 => ?_ | refine awp_cond_k fun A B hA hB => ?_); simp only [S1, simprocAttr, TTEvL, eT_eq, f1, f2, f3, f4, f5]; first | (refine hK1 _ ?_; clear hK1 K1) | ((first | refine hA ?_ | refine hB ?_); clear hA hB A B) | ((first | apply call_a E140 | apply call_q E140); exact (iha _); (refine hK1 _ ?_; clear hK1 K1)) | ((first | apply call_a E140 | apply call_q E140); exact (ihb _); (refine hK1 _ ?_; clear hK1 K1)) | (refine join_x (v := ?_) (fun hg hk9 => ?_) ?_; rotate_left; (focus (try ((try simp only [BN] at hg); simp only [S1, simprocAttr, TTEvL, eT_eq, f1, f2, f3, f4, f5, hg] at hk9 ⊢)); first | exact hk9 | ((first | apply call_a E140 | apply call_q E140); exact (iha _); exact hk9) | ((first | apply call_a E140 | apply call_q E140); exact (ihb _); exact hk9)); (refine hK1 _ ?_; clear hK1 K1)) | (((first | (refine ⟨fun hg => hA ?_, fun hg => hB ?_⟩ <;> clear hA hB A B) | refine ⟨fun hg => ?_, fun hg => ?_⟩) <;> (try simp only [BN2] at hg) <;> (try simp only [hg, cond_true, cond_false])) <;> (try (refine hK1 _ ?_; clear hK1 K1)) <;> (try simp only [BN3] at hg))) | (refine awp_seq_k fun K hK => ?_) | ((first | refine awp_region ?_ | refine awp_draw (by kernel_rfl) ?_ | refine awp_block ?_ | refine awp_exit ?_ | refine awp_skip ?_ | refine awp_ret ?_); (try simp only [NB, simprocAttr])))
      all_goals simp only [EndP, FinP, resA, resL, resA1, lastV, lastA, lastAs, pur, purs, take_app, List.take_length, S1, simprocAttr, TTEvL, Nat.le_add_right, Nat.le_refl]
      all_goals simp [e1, e2]
  · have f4 : (x.2.2 != 0) = true := by simp [e1]
    have f6 := hx0 e1
    refine acalls_pure (rl := []) mixed Tryz.func140 rfl (rs := [.tmp 4, .tmp 5]) rfl Tryz.ntmps140 (by simp) ?_
    repeat' (first | ((first | refine aops_nil ?_ | refine aqops_nil ?_); (try simp only [NB])) | ((repeat ((fail_if_success (refine hK _ ?_)); clear hK K)); refine hK _ ?_; clear hK K) | ((first | refine aops_k fun K1 hK1 => ?_ | refine aqops_k fun K1 hK1 => ?_ | refine awp_cond_k fun A B hA hB => ?_); simp only [S1, simprocAttr, TTEvL, eT_eq, f1, f2, f3, f4, f6, hz, hz0]; first | (refine hK1 _ ?_; clear hK1 K1) | ((first | refine hA ?_ | refine hB ?_); clear hA hB A B) | ((first | apply call_a E140 | apply call_q E140); exact (iha _); (refine hK1 _ ?_; clear hK1 K1)) | (refine join_x (v := ?_) (fun hg hk9 => ?_) ?_; rotate_left; (focus (try ((try simp only [BN] at hg); simp only [S1, simprocAttr, TTEvL, eT_eq, f1, f2, f3, f4, f6, hz, hz0, hg] at hk9 ⊢)); first | exact hk9 | ((first | apply call_a E140 | apply call_q E140); exact (iha _); exact hk9)); (refine hK1 _ ?_; clear hK1 K1)) | (((first | (refine ⟨fun hg => hA ?_, fun hg => hB ?_⟩ <;> clear hA hB A B) | refine ⟨fun hg => ?_, fun hg => ?_⟩) <;> (try simp only [BN2] at hg) <;> (try simp only [hg, cond_true, cond_false])) <;> (try (refine hK1 _ ?_; clear hK1 K1)) <;> (try simp only [BN3] at hg))) | (refine awp_seq_k fun K hK => ?_) | ((first | refine awp_region ?_ | refine awp_draw (by kernel_rfl) ?_ | refine awp_block ?_ | refine awp_exit ?_ | refine awp_skip ?_ | refine awp_ret ?_); (try simp only [NB, simprocAttr])))
    all_goals simp only [EndP, FinP, resA, resL, resA1, lastV, lastA, lastAs, pur, purs, take_app, List.take_length, S1, simprocAttr, TTEvL, Nat.le_add_right, Nat.le_refl]
    all_goals simp [e1]

theorem number_calls {v : Int → Int} (hv : ∀ i, Num (v i)) {t : Tm} (ht : Good t false) : ∀ h : Heap, ACalls Tryz.prog G 140 [aT t, aV v] h (fun r h' => r = aN (ev v t) ∧ h' = h) := by
  have key : ∀ {t k}, Good t k → k = false → ∀ h : Heap, ACalls Tryz.prog G 140 [aT t, aV v] h (fun r h' => r = aN (ev v t) ∧ h' = h) := by
    intro t k hg
    induction hg with
    | num n h1 h2 => intro _ h; rw [ev_nil]; exact number_num v n h
    | var n hn => intro _ h; rw [ev_nil, if_neg (by decide)]; exact number_var v n hn h
    | neg a hg ih =>
      intro _ h
      have g := ev_good hv hg
      refine ACalls.mono (number_neg v a (g.1 rfl) (ih rfl) h) ?_
      rintro r h' ⟨rfl, rfl⟩
      refine ⟨?_, rfl⟩
      rw [ev_one]
      split
      · rename_i e; rw [(g.2.1 e).1]; rfl
      · rename_i e; rw [if_pos rfl, Classical.not_not.mp e]
    | bin o a b h1 h2 ha hb iha ihb =>
      intro _ h
      have g := ev_good hv ha
      refine ACalls.mono (number_bin v o h1 h2 a b (g.1 rfl) ((ev_good hv hb).1 rfl) (iha rfl) (ihb rfl) (fun e => (g.2.1 e).1) h) ?_
      rintro r h' ⟨rfl, rfl⟩
      refine ⟨?_, rfl⟩
      rw [ev_two, if_neg (show ¬ o = 13 by omega), if_neg (show ¬ o = 14 by omega)]
    | not => intro e; cases e
    | cmp => intro e; cases e
    | log => intro e; cases e
  exact key ht rfl
end Go.Proofs.YtbbmfemplmelhaaGreatDoor.AM
end

section
set_option linter.unusedVariables false
set_option linter.unusedSimpArgs false
set_option maxRecDepth 4000
set_option maxHeartbeats 4000000
namespace Go.Proofs.YtbbmfemplmelhaaGreatDoor.AM
open Go Go.Proofs
set_option linter.defProp false in
def TTEvM := And.intro T2 (And.intro T3 (And.intro T4 (And.intro T31 (And.intro T58 (And.intro T73 (And.intro T75 (And.intro T184 T185)))))))
attribute [local irreducible] awp aops aqops
variable {G : Nat → Option (List PV)}

theorem truth_not (v : Int → Int) (a : Tm) {x : Int × Bool × Int} (ih : ∀ h : Heap, ACalls Tryz.prog G 149 [aT a, aV v] h (fun r h' => r = aB x ∧ h' = h)) (h : Heap) :
    ACalls Tryz.prog G 149 [.agg [.i 4, .i 0, .p (.sl [eT a])], aV v] h (fun r h' => r = .tup [.b (!x.2.1 && x.2.2 == 0), .i x.2.2] ∧ h' = h) := by
  refine acalls_pure (rl := []) mixed Tryz.func149 rfl (rs := [.tmp 4, .tmp 5]) rfl Tryz.ntmps149 (by simp) ?_
  repeat' (first | ((first | refine aops_nil ?_ | refine aqops_nil ?_); (try simp only [NB])) | ((repeat ((fail_if_success (refine hK _ ?_)); clear hK K)); refine hK _ ?_; clear hK K) | ((first | refine aops_k fun K1 hK1 => ?_ | refine aqops_k fun K1 hK1 => ?_ | refine awp_cond_k fun A B hA hB => ?_); simp only [S1, simprocAttr, TTEvM, eT_eq]; first | (refine hK1 _ ?_; clear hK1 K1) | ((first | refine hA ?_ | refine hB ?_); clear hA hB A B) | ((first | apply call_a E149 | apply call_q E149); exact (ih _); (refine hK1 _ ?_; clear hK1 K1)) | (refine join_x (v := ?_) (fun hg hk9 => ?_) ?_; rotate_left; (focus (try ((try simp only [BN] at hg); simp only [S1, simprocAttr, TTEvM, eT_eq, hg] at hk9 ⊢)); first | exact hk9 | ((first | apply call_a E149 | apply call_q E149); exact (ih _); exact hk9)); (refine hK1 _ ?_; clear hK1 K1)) | (((first | (refine ⟨fun hg => hA ?_, fun hg => hB ?_⟩ <;> clear hA hB A B) | refine ⟨fun hg => ?_, fun hg => ?_⟩) <;> (try simp only [BN2] at hg) <;> (try simp only [hg, cond_true, cond_false])) <;> (try (refine hK1 _ ?_; clear hK1 K1)) <;> (try simp only [BN3] at hg))) | (refine awp_seq_k fun K hK => ?_) | ((first | refine awp_region ?_ | refine awp_draw (by kernel_rfl) ?_ | refine awp_block ?_ | refine awp_exit ?_ | refine awp_skip ?_ | refine awp_ret ?_); (try simp only [NB, simprocAttr])))
  all_goals simp only [EndP, FinP, resA, resL, resA1, lastV, lastA, lastAs, pur, purs, take_app, List.take_length, S1, simprocAttr, TTEvM, Nat.le_add_right, Nat.le_refl]
  all_goals trace_state

theorem truth_log (v : Int → Int) (o : Int) (ho : o = 13 ∨ o = 14) (a b : Tm) {x y : Int × Bool × Int}
    (iha : ∀ h : Heap, ACalls Tryz.prog G 149 [aT a, aV v] h (fun r h' => r = aB x ∧ h' = h))
    (ihb : ∀ h : Heap, ACalls Tryz.prog G 149 [aT b, aV v] h (fun r h' => r = aB y ∧ h' = h)) (h : Heap) :
    ACalls Tryz.prog G 149 [.agg [.i o, .i 0, .p (.sl [eT a, eT b])], aV v] h (fun r h' => r = aB (if x.2.2 ≠ 0 then x else if x.2.1 = (o == 14) then x else y) ∧ h' = h) := by
  rcases ho with rfl | rfl
  all_goals
    cases hx : x.2.1 with
    | true =>
      by_cases e1 : x.2.2 = 0
      · refine acalls_pure (rl := []) mixed Tryz.func149 rfl (rs := [.tmp 4, .tmp 5]) rfl Tryz.ntmps149 (by simp) ?_
        repeat' (first | ((first | refine aops_nil ?_ | refine aqops_nil ?_); (try simp only [NB])) | ((repeat ((fail_if_success (refine hK _ ?_)); clear hK K)); refine hK _ ?_; clear hK K) | ((first | refine aops_k fun K1 hK1 => ?_ | refine aqops_k fun K1 hK1 => ?_ | refine awp_cond_k fun A B hA hB => ?_); simp only [S1, simprocAttr, TTEvM, eT_eq, e1, hx]; first | (refine hK1 _ ?_; clear hK1 K1) | ((first | refine hA ?_ | refine hB ?_); clear hA hB A B) | ((first | apply call_a E149 | apply call_q E149); exact (iha _); (refine hK1 _ ?_; clear hK1 K1)) | ((first | apply call_a E149 | apply call_q E149); exact (ihb _); (refine hK1 _ ?_; clear hK1 K1)) | (refine join_x (v := ?_) (fun hg hk9 => ?_) ?_; rotate_left; (focus (try ((try simp only [BN] at hg); simp only [S1, simprocAttr, TTEvM, eT_eq, e1, hx, hg] at hk9 ⊢)); first | exact hk9 | ((first | apply call_a E149 | apply call_q E149); exact (iha _); exact hk9) | ((first | apply call_a E149 | apply call_q E149); exact (ihb _); exact hk9)); (refine hK1 _ ?_; clear hK1 K1)) | (((first | (refine ⟨fun hg => hA ?_, fun hg => hB ?_⟩ <;> clear hA hB A B) | refine ⟨fun hg => ?_, fun hg => ?_⟩) <;> (try simp only [BN2] at hg) <;> (try simp only [hg, cond_true, cond_false])) <;> (try (refine hK1 _ ?_; clear hK1 K1)) <;> (try simp only [BN3] at hg))) | (refine awp_seq_k fun K hK => ?_) | ((first | refine awp_region ?_ | refine awp_draw (by kernel_rfl) ?_ | refine awp_block ?_ | refine awp_exit ?_ | refine awp_skip ?_ | refine awp_ret ?_); (try simp only [NB, simprocAttr])))
        all_goals simp only [EndP, FinP, resA, resL, resA1, lastV, lastA, lastAs, pur, purs, take_app, List.take_length, S1, simprocAttr, TTEvM, Nat.le_add_right, Nat.le_refl]
        all_goals simp [e1, hx]
      · have f4 : (x.2.2 != 0) = true := by simp [e1]
        refine acalls_pure (rl := []) mixed Tryz.func149 rfl (rs := [.tmp 4, .tmp 5]) rfl Tryz.ntmps149 (by simp) ?_
        repeat' (first | ((first | refine aops_nil ?_ | refine aqops_nil ?_); (try simp only [NB])) | ((repeat ((fail_if_success (refine hK _ ?_)); clear hK K)); refine hK _ ?_; clear hK K) | ((first | refine aops_k fun K1 hK1 => ?_ | refine aqops_k fun K1 hK1 => ?_ | refine awp_cond_k fun A B hA hB => ?_); simp only [S1, simprocAttr, TTEvM, eT_eq, f4, hx]; first | (refine hK1 _ ?_; clear hK1 K1) | ((first | refine hA ?_ | refine hB ?_); clear hA hB A B) | ((first | apply call_a E149 | apply call_q E149); exact (iha _); (refine hK1 _ ?_; clear hK1 K1)) | ((first | apply call_a E149 | apply call_q E149); exact (ihb _); (refine hK1 _ ?_; clear hK1 K1)) | (refine join_x (v := ?_) (fun hg hk9 => ?_) ?_; rotate_left; (focus (try ((try simp only [BN] at hg); simp only [S1, simprocAttr, TTEvM, eT_eq, f4, hx, hg] at hk9 ⊢)); first | exact hk9 | ((first | apply call_a E149 | apply call_q E149); exact (iha _); exact hk9) | ((first | apply call_a E149 | apply call_q E149); exact (ihb _); exact hk9)); (refine hK1 _ ?_; clear hK1 K1)) | (((first | (refine ⟨fun hg => hA ?_, fun hg => hB ?_⟩ <;> clear hA hB A B) | refine ⟨fun hg => ?_, fun hg => ?_⟩) <;> (try simp only [BN2] at hg) <;> (try simp only [hg, cond_true, cond_false])) <;> (try (refine hK1 _ ?_; clear hK1 K1)) <;> (try simp only [BN3] at hg))) | (refine awp_seq_k fun K hK => ?_) | ((first | refine awp_region ?_ | refine awp_draw (by kernel_rfl) ?_ | refine awp_block ?_ | refine awp_exit ?_ | refine awp_skip ?_ | refine awp_ret ?_); (try simp only [NB, simprocAttr])))
        all_goals simp only [EndP, FinP, resA, resL, resA1, lastV, lastA, lastAs, pur, purs, take_app, List.take_length, S1, simprocAttr, TTEvM, Nat.le_add_right, Nat.le_refl]
        all_goals simp [e1, hx]
    | false =>
      by_cases e1 : x.2.2 = 0
      · refine acalls_pure (rl := []) mixed Tryz.func149 rfl (rs := [.tmp 4, .tmp 5]) rfl Tryz.ntmps149 (by simp) ?_
        repeat' (first | ((first | refine aops_nil ?_ | refine aqops_nil ?_); (try simp only [NB])) | ((repeat ((fail_if_success (refine hK _ ?_)); clear hK K)); refine hK _ ?_; clear hK K) | ((first | refine aops_k fun K1 hK1 => ?_ | refine aqops_k fun K1 hK1 => ?_ | refine awp_cond_k fun A B hA hB => ?_); simp only [S1, simprocAttr, TTEvM, eT_eq, e1, hx]; first | (refine hK1 _ ?_; clear hK1 K1) | ((first | refine hA ?_ | refine hB ?_); clear hA hB A B) | ((first | apply call_a E149 | apply call_q E149); exact (iha _); (refine hK1 _ ?_; clear hK1 K1)) | ((first | apply call_a E149 | apply call_q E149); exact (ihb _); (refine hK1 _ ?_; clear hK1 K1)) | (refine join_x (v := ?_) (fun hg hk9 => ?_) ?_; rotate_left; (focus (try ((try simp only [BN] at hg); simp only [S1, simprocAttr, TTEvM, eT_eq, e1, hx, hg] at hk9 ⊢)); first | exact hk9 | ((first | apply call_a E149 | apply call_q E149); exact (iha _); exact hk9) | ((first | apply call_a E149 | apply call_q E149); exact (ihb _); exact hk9)); (refine hK1 _ ?_; clear hK1 K1)) | (((first | (refine ⟨fun hg => hA ?_, fun hg => hB ?_⟩ <;> clear hA hB A B) | refine ⟨fun hg => ?_, fun hg => ?_⟩) <;> (try simp only [BN2] at hg) <;> (try simp only [hg, cond_true, cond_false])) <;> (try (refine hK1 _ ?_; clear hK1 K1)) <;> (try simp only [BN3] at hg))) | (refine awp_seq_k fun K hK => ?_) | ((first | refine awp_region ?_ | refine awp_draw (by kernel_rfl) ?_ | refine awp_block ?_ | refine awp_exit ?_ | refine awp_skip ?_ | refine awp_ret ?_); (try simp only [NB, simprocAttr])))
        all_goals simp only [EndP, FinP, resA, resL, resA1, lastV, lastA, lastAs, pur, purs, take_app, List.take_length, S1, simprocAttr, TTEvM, Nat.le_add_right, Nat.le_refl]
        all_goals simp [e1, hx]
      · have f4 : (x.2.2 != 0) = true := by simp [e1]
        refine acalls_pure (rl := []) mixed Tryz.func149 rfl (rs := [.tmp 4, .tmp 5]) rfl Tryz.ntmps149 (by simp) ?_
        repeat' (first | ((first | refine aops_nil ?_ | refine aqops_nil ?_); (try simp only [NB])) | ((repeat ((fail_if_success (refine hK _ ?_)); clear hK K)); refine hK _ ?_; clear hK K) | ((first | refine aops_k fun K1 hK1 => ?_ | refine aqops_k fun K1 hK1 => ?_ | refine awp_cond_k fun A B hA hB => ?_); simp only [S1, simprocAttr, TTEvM, eT_eq, f4, hx]; first | (refine hK1 _ ?_; clear hK1 K1) | ((first | refine hA ?_ | refine hB ?_); clear hA hB A B) | ((first | apply call_a E149 | apply call_q E149); exact (iha _); (refine hK1 _ ?_; clear hK1 K1)) | ((first | apply call_a E149 | apply call_q E149); exact (ihb _); (refine hK1 _ ?_; clear hK1 K1)) | (refine join_x (v := ?_) (fun hg hk9 => ?_) ?_; rotate_left; (focus (try ((try simp only [BN] at hg); simp only [S1, simprocAttr, TTEvM, eT_eq, f4, hx, hg] at hk9 ⊢)); first | exact hk9 | ((first | apply call_a E149 | apply call_q E149); exact (iha _); exact hk9) | ((first | apply call_a E149 | apply call_q E149); exact (ihb _); exact hk9)); (refine hK1 _ ?_; clear hK1 K1)) | (((first | (refine ⟨fun hg => hA ?_, fun hg => hB ?_⟩ <;> clear hA hB A B) | refine ⟨fun hg => ?_, fun hg => ?_⟩) <;> (try simp only [BN2] at hg) <;> (try simp only [hg, cond_true, cond_false])) <;> (try (refine hK1 _ ?_; clear hK1 K1)) <;> (try simp only [BN3] at hg))) | (refine awp_seq_k fun K hK => ?_) | ((first | refine awp_region ?_ | refine awp_draw (by kernel_rfl) ?_ | refine awp_block ?_ | refine awp_exit ?_ | refine awp_skip ?_ | refine awp_ret ?_); (try simp only [NB, simprocAttr])))
        all_goals simp only [EndP, FinP, resA, resL, resA1, lastV, lastA, lastAs, pur, purs, take_app, List.take_length, S1, simprocAttr, TTEvM, Nat.le_add_right, Nat.le_refl]
        all_goals simp [e1, hx]
end Go.Proofs.YtbbmfemplmelhaaGreatDoor.AM
end

section
set_option linter.unusedVariables false
set_option linter.unusedSimpArgs false
set_option maxRecDepth 4000
set_option maxHeartbeats 4000000
namespace Go.Proofs.YtbbmfemplmelhaaGreatDoor.AM
open Go Go.Proofs
set_option linter.defProp false in
def TTEvN := And.intro T2 (And.intro T3 (And.intro T4 (And.intro T31 (And.intro T58 (And.intro T73 (And.intro T75 (And.intro T184 T185)))))))
attribute [local irreducible] awp aops aqops
variable {G : Nat → Option (List PV)}

theorem truth_cmp (v : Int → Int) (o : Int) (ho : o = 10 ∨ o = 11 ∨ o = 12) (a b : Tm) {x y : Int × Bool × Int}
    (iha : ∀ h : Heap, ACalls Tryz.prog G 140 [aT a, aV v] h (fun r h' => r = aN x ∧ h' = h))
    (ihb : ∀ h : Heap, ACalls Tryz.prog G 140 [aT b, aV v] h (fun r h' => r = aN y ∧ h' = h)) (h : Heap) :
    ACalls Tryz.prog G 149 [.agg [.i o, .i 0, .p (.sl [eT a, eT b])], aV v] h (fun r h' => r = aB (if x.2.2 ≠ 0 then (0, false, x.2.2) else if y.2.2 ≠ 0 then (0, false, y.2.2) else sumS o x.1 y.1) ∧ h' = h) := by
  by_cases e1 : x.2.2 = 0
  · by_cases e2 : y.2.2 = 0
    · rcases ho with rfl | rfl | rfl
      all_goals
        refine acalls_pure (rl := []) mixed Tryz.func149 rfl (rs := [.tmp 4, .tmp 5]) rfl Tryz.ntmps149 (by simp) ?_
        repeat' (first | ((first | refine aops_nil ?_ | refine aqops_nil ?_); (try simp only [NB])) | ((repeat ((fail_if_success (refine hK _ ?_)); clear hK K)); refine hK _ ?_; clear hK K) | ((first | refine aops_k fun K1 hK1 => ?_ | refine aqops_k fun K1 hK1 => ?_ | refine awp_cond_k fun A B hA hB => ?_); simp only [S1, simprocAttr, TTEvN, eT_eq, e1, e2]; first | (refine hK1 _ ?_; clear hK1 K1) | ((first | refine hA ?_ | refine hB ?_); clear hA hB A B) | ((first | apply call_a E140 | apply call_q E140); exact (iha _); (refine hK1 _ ?_; clear hK1 K1)) | ((first | apply call_a E140 | apply call_q E140); exact (ihb _); (refine hK1 _ ?_; clear hK1 K1)) | (refine join_x (v := ?_) (fun hg hk9 => ?_) ?_; rotate_left; (focus (try ((try simp only [BN] at hg); simp only [S1, simprocAttr, TTEvN, eT_eq, e1, e2, hg] at hk9 ⊢)); first | exact hk9 | ((first | apply call_a E140 | apply call_q E140); exact (iha _); exact hk9) | ((first | apply call_a E140 | apply call_q E140); exact (ihb _); exact hk9)); (refine hK1 _ ?_; clear hK1 K1)) | (((first | (refine ⟨fun hg => hA ?_, fun hg => hB ?_⟩ <;> clear hA hB A B) | refine ⟨fun hg => ?_, fun hg => ?_⟩) <;> (try simp only [BN2] at hg) <;> (try simp only [hg, cond_true, cond_false])) <;> (try (refine hK1 _ ?_; clear hK1 K1)) <;> (try simp only [BN3] at hg))) | (refine awp_seq_k fun K hK => ?_) | ((first | refine awp_region ?_ | refine awp_draw (by kernel_rfl) ?_ | refine awp_block ?_ | refine awp_exit ?_ | refine awp_skip ?_ | refine awp_ret ?_); (try simp only [NB, simprocAttr])))
        all_goals simp only [EndP, FinP, resA, resL, resA1, lastV, lastA, lastAs, pur, purs, take_app, List.take_length, S1, simprocAttr, TTEvN, Nat.le_add_right, Nat.le_refl]
        all_goals simp [e1, e2, sumS]
        all_goals (rw [Bool.eq_iff_iff]; simp; omega)
    · have f5 : (y.2.2 != 0) = true := by simp [e2]
      rcases ho with rfl | rfl | rfl
      all_goals
        refine acalls_pure (rl := []) mixed Tryz.func149 rfl (rs := [.tmp 4, .tmp 5]) rfl Tryz.ntmps149 (by simp) ?_
        repeat' (first | ((first | refine aops_nil ?_ | refine aqops_nil ?_); (try simp only [NB])) | ((repeat ((fail_if_success (refine hK _ ?_)); clear hK K)); refine hK _ ?_; clear hK K) | ((first | refine aops_k fun K1 hK1 => ?_ | refine aqops_k fun K1 hK1 => ?_ | refine awp_cond_k fun A B hA hB => ?_); simp only [S1, simprocAttr, TTEvN, eT_eq, e1, f5]; first | (refine hK1 _ ?_; clear hK1 K1) | ((first | refine hA ?_ | refine hB ?_); clear hA hB A B) | ((first | apply call_a E140 | apply call_q E140); exact (iha _); (refine hK1 _ ?_; clear hK1 K1)) | ((first | apply call_a E140 | apply call_q E140); exact (ihb _); (refine hK1 _ ?_; clear hK1 K1)) | (refine join_x (v := ?_) (fun hg hk9 => ?_) ?_; rotate_left; (focus (try ((try simp only [BN] at hg); simp only [S1, simprocAttr, TTEvN, eT_eq, e1, f5, hg] at hk9 ⊢)); first | exact hk9 | ((first | apply call_a E140 | apply call_q E140); exact (iha _); exact hk9) | ((first | apply call_a E140 | apply call_q E140); exact (ihb _); exact hk9)); (refine hK1 _ ?_; clear hK1 K1)) | (((first | (refine ⟨fun hg => hA ?_, fun hg => hB ?_⟩ <;> clear hA hB A B) | refine ⟨fun hg => ?_, fun hg => ?_⟩) <;> (try simp only [BN2] at hg) <;> (try simp only [hg, cond_true, cond_false])) <;> (try (refine hK1 _ ?_; clear hK1 K1)) <;> (try simp only [BN3] at hg))) | (refine awp_seq_k fun K hK => ?_) | ((first | refine awp_region ?_ | refine awp_draw (by kernel_rfl) ?_ | refine awp_block ?_ | refine awp_exit ?_ | refine awp_skip ?_ | refine awp_ret ?_); (try simp only [NB, simprocAttr])))
        all_goals simp only [EndP, FinP, resA, resL, resA1, lastV, lastA, lastAs, pur, purs, take_app, List.take_length, S1, simprocAttr, TTEvN, Nat.le_add_right, Nat.le_refl]
        all_goals simp [e1, e2]
  · have f4 : (x.2.2 != 0) = true := by simp [e1]
    rcases ho with rfl | rfl | rfl
    all_goals
      refine acalls_pure (rl := []) mixed Tryz.func149 rfl (rs := [.tmp 4, .tmp 5]) rfl Tryz.ntmps149 (by simp) ?_
      repeat' (first | ((first | refine aops_nil ?_ | refine aqops_nil ?_); (try simp only [NB])) | ((repeat ((fail_if_success (refine hK _ ?_)); clear hK K)); refine hK _ ?_; clear hK K) | ((first | refine aops_k fun K1 hK1 => ?_ | refine aqops_k fun K1 hK1 => ?_ | refine awp_cond_k fun A B hA hB => ?_); simp only [S1, simprocAttr, TTEvN, eT_eq, f4]; first | (refine hK1 _ ?_; clear hK1 K1) | ((first | refine hA ?_ | refine hB ?_); clear hA hB A B) | ((first | apply call_a E140 | apply call_q E140); exact (iha _); (refine hK1 _ ?_; clear hK1 K1)) | (refine join_x (v := ?_) (fun hg hk9 => ?_) ?_; rotate_left; (focus (try ((try simp only [BN] at hg); simp only [S1, simprocAttr, TTEvN, eT_eq, f4, hg] at hk9 ⊢)); first | exact hk9 | ((first | apply call_a E140 | apply call_q E140); exact (iha _); exact hk9)); (refine hK1 _ ?_; clear hK1 K1)) | (((first | (refine ⟨fun hg => hA ?_, fun hg => hB ?_⟩ <;> clear hA hB A B) | refine ⟨fun hg => ?_, fun hg => ?_⟩) <;> (try simp only [BN2] at hg) <;> (try simp only [hg, cond_true, cond_false])) <;> (try (refine hK1 _ ?_; clear hK1 K1)) <;> (try simp only [BN3] at hg))) | (refine awp_seq_k fun K hK => ?_) | ((first | refine awp_region ?_ | refine awp_draw (by kernel_rfl) ?_ | refine awp_block ?_ | refine awp_exit ?_ | refine awp_skip ?_ | refine awp_ret ?_); (try simp only [NB, simprocAttr])))
      all_goals simp only [EndP, FinP, resA, resL, resA1, lastV, lastA, lastAs, pur, purs, take_app, List.take_length, S1, simprocAttr, TTEvN, Nat.le_add_right, Nat.le_refl]
      all_goals simp [e1]

theorem truth_calls {v : Int → Int} (hv : ∀ i, Num (v i)) {t : Tm} (ht : Good t true) : ∀ h : Heap, ACalls Tryz.prog G 149 [aT t, aV v] h (fun r h' => r = aB (ev v t) ∧ h' = h) := by
  have key : ∀ {t k}, Good t k → k = true → ∀ h : Heap, ACalls Tryz.prog G 149 [aT t, aV v] h (fun r h' => r = aB (ev v t) ∧ h' = h) := by
    intro t k hg
    induction hg with
    | num n h1 h2 => intro e; cases e
    | var n hn => intro e; cases e
    | neg a hg ih => intro e; cases e
    | bin o a b h1 h2 ha hb iha ihb => intro e; cases e
    | not a hg ih =>
      intro _ h
      have g := ev_good hv hg
      refine ACalls.mono (truth_not v a (ih rfl) h) ?_
      rintro r h' ⟨rfl, rfl⟩
      refine ⟨?_, rfl⟩
      rw [ev_one]
      split
      · rename_i e; simp [e]
      · rename_i e; rw [if_neg (by decide), Classical.not_not.mp e]; simp
    | cmp o a b h1 h2 ha hb iha ihb =>
      intro _ h
      refine ACalls.mono (truth_cmp v o (by omega) a b (number_calls hv ha) (number_calls hv hb) h) ?_
      rintro r h' ⟨rfl, rfl⟩
      refine ⟨?_, rfl⟩
      rw [ev_two, if_neg (show ¬ o = 13 by omega), if_neg (show ¬ o = 14 by omega)]
    | log o a b ho ha hb iha ihb =>
      intro _ h
      have g := ev_good hv ha
      refine ACalls.mono (truth_log v o ho a b (iha rfl) (ihb rfl) h) ?_
      rintro r h' ⟨rfl, rfl⟩
      refine ⟨?_, rfl⟩
      rw [ev_two]
      have g1 := g.2.1
      rcases hx : ev v a with ⟨x1, x2, x3⟩
      rw [hx] at g1
      simp only at g1 ⊢
      by_cases e : x3 = 0
      · subst e
        rcases ho with rfl | rfl <;> cases x2 <;> simp
      · rw [if_pos e, if_pos e, (g1 e).2]
  exact key ht rfl
end Go.Proofs.YtbbmfemplmelhaaGreatDoor.AM
end

section
set_option linter.unusedVariables false
set_option linter.unusedSimpArgs false
set_option maxRecDepth 4000
set_option maxHeartbeats 4000000
namespace Go.Proofs.YtbbmfemplmelhaaGreatDoor.AM
open Go Go.Proofs
set_option linter.defProp false in
def TTEvP := And.intro T2 (And.intro T3 (And.intro T4 (And.intro T31 T58)))
attribute [local irreducible] awp aops aqops
variable {G : Nat → Option (List PV)}

def inV (v : Int → Int) : Bool := inM (v 0) && inM (v 1) && inM (v 2) && inM (v 3)

theorem cN0 : ((0 : Nat) : Int) = 0 := rfl
theorem cN1 : ((1 : Nat) : Int) = 1 := rfl
theorem cN2 : ((2 : Nat) : Int) = 2 := rfl
theorem cN3 : ((3 : Nat) : Int) = 3 := rfl
theorem cN4 : ((4 : Nat) : Int) = 4 := rfl
theorem wl1 : IntKind.i64.wrap 1 = 1 := rfl
theorem wl2 : IntKind.i64.wrap 2 = 2 := rfl
theorem wl3 : IntKind.i64.wrap 3 = 3 := rfl
theorem wl4 : IntKind.i64.wrap 4 = 4 := rfl
theorem inV_of {v : Int → Int} (h : ∀ j : Nat, j < 4 → inM (v j) = true) : inV v = true := by
  have h0 := h 0 (by omega)
  have h1 := h 1 (by omega)
  have h2 := h 2 (by omega)
  have h3 := h 3 (by omega)
  unfold inV
  simp only [cN0, cN1, cN2, cN3] at h0 h1 h2 h3
  simp [h0, h1, h2, h3]

theorem fitsV_calls (v : Int → Int) (h : Heap) : ACalls Tryz.prog G 73 [.agg [.i (v 0), .i (v 1), .i (v 2), .i (v 3)]] h (fun r h' => r = .b (inV v) ∧ h' = h) := by
  refine acalls_pure (rl := []) mixed Tryz.func73 rfl (rs := [.tmp 2]) rfl Tryz.ntmps73 (by simp) ?_
  repeat' (first | ((first | refine aops_nil ?_ | refine aqops_nil ?_); (try simp only [NB])) | ((repeat ((fail_if_success (refine hK _ ?_)); clear hK K)); refine hK _ ?_; clear hK K) | ((first | refine aops_k fun K1 hK1 => ?_ | refine aqops_k fun K1 hK1 => ?_ | refine awp_cond_k fun A B hA hB => ?_); simp only [S1, simprocAttr, TTEvP]; first | (refine hK1 _ ?_; clear hK1 K1) | ((first | refine hA ?_ | refine hB ?_); clear hA hB A B) | (((first | (refine ⟨fun hg => hA ?_, fun hg => hB ?_⟩ <;> clear hA hB A B) | refine ⟨fun hg => ?_, fun hg => ?_⟩) <;> (try simp only [BN2] at hg) <;> (try simp only [hg, cond_true, cond_false])) <;> (try (refine hK1 _ ?_; clear hK1 K1)) <;> (try simp only [BN3] at hg))) | (refine awp_seq_k fun K hK => ?_) | ((first | refine awp_region ?_ | refine awp_draw (by kernel_rfl) ?_ | refine awp_block ?_ | refine awp_exit ?_ | refine awp_skip ?_ | refine awp_ret ?_); (try simp only [NB, simprocAttr])))
  refine awp_for 4 13 (fun i => [(6, .i i), (5, .agg [.i (v 0), .i (v 1), .i (v 2), .i (v 3)])]) (fun i => []) (fun i => ∀ j : Nat, j < i → inM (v j) = true) ?_ (fun j hj => absurd hj (Nat.not_lt_zero _)) fun i hi hp K hK => ?_
  · (refine ⟨rfl, (by first | exact ⟨_, rfl⟩ | exact ⟨[], by simp⟩), ?_, ?_⟩ <;> simp only [keeps, avlt, avlts, blksLt, frL, upd_get, S1, simprocAttr, List.length_map, Int.natCast_zero, AV.p.injEq, PV.int.injEq, PV.bool.injEq, PV.sl.injEq] <;> (try and_intros) <;> (try assumption) <;> (try trivial) <;> (try omega))
  have hw : IntKind.i64.wrap ((i : Int) + 1) = ((i + 1 : Nat) : Int) := by rw [IntWalk.i64_in _ (by omega)]; omega
  rcases (by omega : i = 0 ∨ i = 1 ∨ i = 2 ∨ i = 3 ∨ i = 4) with rfl | rfl | rfl | rfl | rfl
  all_goals
    repeat' (first | ((first | refine aops_nil ?_ | refine aqops_nil ?_); (try simp only [NB])) | ((repeat ((fail_if_success (refine hK _ ?_)); clear hK K)); refine hK _ ?_; clear hK K) | ((first | refine aops_k fun K1 hK1 => ?_ | refine aqops_k fun K1 hK1 => ?_ | refine awp_cond_k fun A B hA hB => ?_); simp only [S1, simprocAttr, TTEvP, cN0, cN1, cN2, cN3, cN4, Int.reduceAdd, wl1, wl2, wl3, wl4]; first | (refine hK1 _ ?_; clear hK1 K1) | ((first | refine hA ?_ | refine hB ?_); clear hA hB A B) | ((first | apply call_a E99 | apply call_q E99); exact (fits_calls _ _); (refine hK1 _ ?_; clear hK1 K1)) | (((first | (refine ⟨fun hg => hA ?_, fun hg => hB ?_⟩ <;> clear hA hB A B) | refine ⟨fun hg => ?_, fun hg => ?_⟩) <;> (try simp only [BN2] at hg) <;> (try simp only [hg, cond_true, cond_false])) <;> (try (refine hK1 _ ?_; clear hK1 K1)) <;> (try simp only [BN3] at hg))) | (refine awp_seq_k fun K hK => ?_) | ((first | refine awp_region ?_ | refine awp_draw (by kernel_rfl) ?_ | refine awp_block ?_ | refine awp_exit ?_ | refine awp_skip ?_ | refine awp_ret ?_); (try simp only [NB, simprocAttr])))
    all_goals first
      | (refine ⟨by omega, fun j hj => ?_, ?_⟩
         · rcases Nat.lt_succ_iff_lt_or_eq.mp hj with e | rfl
           · exact hp j e
           · exact hg
         · (refine ⟨rfl, (by first | exact ⟨_, rfl⟩ | exact ⟨[], by simp⟩), ?_, ?_⟩ <;> simp only [keeps, avlt, avlts, blksLt, frL, upd_get, S1, simprocAttr, List.length_map, Int.natCast_zero, AV.p.injEq, PV.int.injEq, PV.bool.injEq, PV.sl.injEq] <;> (try and_intros) <;> (try assumption) <;> (try trivial) <;> (try omega)))
      | (simp only [EndP, FinP, resA, resL, resA1, lastV, lastA, lastAs, pur, purs, take_app, List.take_length, S1, simprocAttr, TTEvP, Nat.le_add_right, Nat.le_refl]
         first
           | (rw [inV_of hp]; done)
           | (simp [inV, hg]; done))
end Go.Proofs.YtbbmfemplmelhaaGreatDoor.AM
end

section
set_option linter.unusedVariables false
set_option linter.unusedSimpArgs false
set_option maxRecDepth 4000
set_option maxHeartbeats 4000000
namespace Go.Proofs.YtbbmfemplmelhaaGreatDoor.AM
open Go Go.Proofs
set_option linter.defProp false in
def TTEvQ := And.intro T2 (And.intro T3 (And.intro T4 (And.intro T31 (And.intro T58 (And.intro T73 (And.intro T75 (And.intro T184 T185)))))))
attribute [local irreducible] awp aops aqops

def askN (t : Tm) (v : Int → Int) (k : Int) : Int := if (checkN t).2 ≠ 0 then (checkN t).2 else if (checkN t).1 ≠ k then 30 else if inV v then 0 else 1

theorem asked_calls {n : Nat} {t : Tm} (ht : Tm.Ok n t) (v : Int → Int) (k : Int) (h : Heap) : ACalls Tryz.prog gW 139 [aT t, aV v, .i k] h (fun r h' => r = .i (askN t v k) ∧ h' = h) := by
  refine acalls_pure (rl := []) mixed Tryz.func139 rfl (rs := [.tmp 6]) rfl Tryz.ntmps139 (by simp) ?_
  repeat' (first | ((first | refine aops_nil ?_ | refine aqops_nil ?_); (try simp only [NB])) | ((repeat ((fail_if_success (refine hK _ ?_)); clear hK K)); refine hK _ ?_; clear hK K) | ((first | refine aops_k fun K1 hK1 => ?_ | refine aqops_k fun K1 hK1 => ?_ | refine awp_cond_k fun A B hA hB => ?_); simp only [S1, simprocAttr, TTEvQ]; first | (refine hK1 _ ?_; clear hK1 K1) | ((first | refine hA ?_ | refine hB ?_); clear hA hB A B) | ((first | apply call_a E147 | apply call_q E147); exact (check_calls ht _); (refine hK1 _ ?_; clear hK1 K1)) | ((first | apply call_a E73 | apply call_q E73); exact (fitsV_calls v _); (refine hK1 _ ?_; clear hK1 K1)) | (((first | (refine ⟨fun hg => hA ?_, fun hg => hB ?_⟩ <;> clear hA hB A B) | refine ⟨fun hg => ?_, fun hg => ?_⟩) <;> (try simp only [BN2] at hg) <;> (try simp only [hg, cond_true, cond_false])) <;> (try (refine hK1 _ ?_; clear hK1 K1)) <;> (try simp only [BN3] at hg))) | (refine awp_seq_k fun K hK => ?_) | ((first | refine awp_region ?_ | refine awp_draw (by kernel_rfl) ?_ | refine awp_block ?_ | refine awp_exit ?_ | refine awp_skip ?_ | refine awp_ret ?_); (try simp only [NB, simprocAttr])))
  all_goals simp only [EndP, FinP, resA, resL, resA1, lastV, lastA, lastAs, pur, purs, take_app, List.take_length, S1, simprocAttr, TTEvQ, Nat.le_add_right, Nat.le_refl]
  all_goals simp_all [askN]
theorem ask_good {t : Tm} {v : Int → Int} {k : Int} (h : askN t v k = 0) : Good t (truthOp t.op) ∧ inV v = true ∧ outN t.op = k := by
  unfold askN at h
  by_cases h1 : (checkN t).2 = 0
  · rw [if_neg (by simpa using h1)] at h
    by_cases h2 : (checkN t).1 = k
    · rw [if_neg (by simpa using h2)] at h
      have hv : inV v = true := by
        cases hh : inV v with
        | true => rfl
        | false => rw [hh] at h; simp at h
      unfold checkN at h1 h2
      by_cases hw : wrongN t = 0
      · rw [if_neg (by simpa using hw)] at h1 h2
        cases hty : t.typed with
        | true =>
          rw [hty] at h1 h2
          have hf : t.form = true := by
            unfold wrongN at hw
            split at hw
            · cases hw
            · split at hw
              · assumption
              · cases hw
          exact ⟨good_of t hf hty, hv, by simpa using h2⟩
        | false => rw [hty] at h1; simp at h1
      · rw [if_pos hw] at h1; exact absurd h1 hw
    · rw [if_pos h2] at h; cases h
  · rw [if_pos h1] at h; exact absurd h h1
def numR (t : Tm) (v : Int → Int) : Int × Int := if askN t v 1 ≠ 0 then (0, askN t v 1) else ((ev v t).1, (ev v t).2.2)
def truR (t : Tm) (v : Int → Int) : Bool × Int := if askN t v 2 ≠ 0 then (false, askN t v 2) else ((ev v t).2.1, (ev v t).2.2)

theorem Number_calls {n : Nat} {t : Tm} (ht : Tm.Ok n t) (v : Int → Int) (hv : inV v = true → ∀ i, Num (v i)) (h : Heap) : ACalls Tryz.prog gW 111 [aT t, aV v] h (fun r h' => r = .tup [.i (numR t v).1, .i (numR t v).2] ∧ h' = h) := by
  by_cases e : askN t v 1 = 0
  · obtain ⟨g1, g2, g3⟩ := ask_good e
    have g0 : truthOp t.op = false := by
      cases hh : truthOp t.op with
      | false => rfl
      | true => unfold outN at g3; rw [hh] at g3; simp at g3
    rw [g0] at g1
    have hg := ev_good (hv g2) g1
    have e1 : (askN t v 1 != 0) = false := by simp [e]
    refine acalls_pure (rl := []) mixed Tryz.func111 rfl (rs := [.tmp 4, .tmp 5]) rfl Tryz.ntmps111 (by simp) ?_
    repeat' (first | ((first | refine aops_nil ?_ | refine aqops_nil ?_); (try simp only [NB])) | ((repeat ((fail_if_success (refine hK _ ?_)); clear hK K)); refine hK _ ?_; clear hK K) | ((first | refine aops_k fun K1 hK1 => ?_ | refine aqops_k fun K1 hK1 => ?_ | refine awp_cond_k fun A B hA hB => ?_); simp only [S1, simprocAttr, TTEvQ, e1]; first | (refine hK1 _ ?_; clear hK1 K1) | ((first | refine hA ?_ | refine hB ?_); clear hA hB A B) | ((first | apply call_a E139 | apply call_q E139); exact (asked_calls ht v 1 _); (refine hK1 _ ?_; clear hK1 K1)) | ((first | apply call_a E140 | apply call_q E140); exact (number_calls (hv g2) g1 _); (refine hK1 _ ?_; clear hK1 K1)) | (((first | (refine ⟨fun hg => hA ?_, fun hg => hB ?_⟩ <;> clear hA hB A B) | refine ⟨fun hg => ?_, fun hg => ?_⟩) <;> (try simp only [BN2] at hg) <;> (try simp only [hg, cond_true, cond_false])) <;> (try (refine hK1 _ ?_; clear hK1 K1)) <;> (try simp only [BN3] at hg))) | (refine awp_seq_k fun K hK => ?_) | ((first | refine awp_region ?_ | refine awp_draw (by kernel_rfl) ?_ | refine awp_block ?_ | refine awp_exit ?_ | refine awp_skip ?_ | refine awp_ret ?_); (try simp only [NB, simprocAttr])))
    all_goals simp only [EndP, FinP, resA, resL, resA1, lastV, lastA, lastAs, pur, purs, take_app, List.take_length, S1, simprocAttr, TTEvQ, Nat.le_add_right, Nat.le_refl]
    all_goals simp_all [numR]
  · have e1 : (askN t v 1 != 0) = true := by simp [e]
    refine acalls_pure (rl := []) mixed Tryz.func111 rfl (rs := [.tmp 4, .tmp 5]) rfl Tryz.ntmps111 (by simp) ?_
    repeat' (first | ((first | refine aops_nil ?_ | refine aqops_nil ?_); (try simp only [NB])) | ((repeat ((fail_if_success (refine hK _ ?_)); clear hK K)); refine hK _ ?_; clear hK K) | ((first | refine aops_k fun K1 hK1 => ?_ | refine aqops_k fun K1 hK1 => ?_ | refine awp_cond_k fun A B hA hB => ?_); simp only [S1, simprocAttr, TTEvQ, e1]; first | (refine hK1 _ ?_; clear hK1 K1) | ((first | refine hA ?_ | refine hB ?_); clear hA hB A B) | ((first | apply call_a E139 | apply call_q E139); exact (asked_calls ht v 1 _); (refine hK1 _ ?_; clear hK1 K1)) | (((first | (refine ⟨fun hg => hA ?_, fun hg => hB ?_⟩ <;> clear hA hB A B) | refine ⟨fun hg => ?_, fun hg => ?_⟩) <;> (try simp only [BN2] at hg) <;> (try simp only [hg, cond_true, cond_false])) <;> (try (refine hK1 _ ?_; clear hK1 K1)) <;> (try simp only [BN3] at hg))) | (refine awp_seq_k fun K hK => ?_) | ((first | refine awp_region ?_ | refine awp_draw (by kernel_rfl) ?_ | refine awp_block ?_ | refine awp_exit ?_ | refine awp_skip ?_ | refine awp_ret ?_); (try simp only [NB, simprocAttr])))
    all_goals simp only [EndP, FinP, resA, resL, resA1, lastV, lastA, lastAs, pur, purs, take_app, List.take_length, S1, simprocAttr, TTEvQ, Nat.le_add_right, Nat.le_refl]
    all_goals simp_all [numR]
theorem Truth_calls {n : Nat} {t : Tm} (ht : Tm.Ok n t) (v : Int → Int) (hv : inV v = true → ∀ i, Num (v i)) (h : Heap) : ACalls Tryz.prog gW 141 [aT t, aV v] h (fun r h' => r = .tup [.b (truR t v).1, .i (truR t v).2] ∧ h' = h) := by
  by_cases e : askN t v 2 = 0
  · obtain ⟨g1, g2, g3⟩ := ask_good e
    have g0 : truthOp t.op = true := by
      cases hh : truthOp t.op with
      | true => rfl
      | false => unfold outN at g3; rw [hh] at g3; simp at g3
    rw [g0] at g1
    have hg := ev_good (hv g2) g1
    have e1 : (askN t v 2 != 0) = false := by simp [e]
    refine acalls_pure (rl := []) mixed Tryz.func141 rfl (rs := [.tmp 4, .tmp 5]) rfl Tryz.ntmps141 (by simp) ?_
    repeat' (first | ((first | refine aops_nil ?_ | refine aqops_nil ?_); (try simp only [NB])) | ((repeat ((fail_if_success (refine hK _ ?_)); clear hK K)); refine hK _ ?_; clear hK K) | ((first | refine aops_k fun K1 hK1 => ?_ | refine aqops_k fun K1 hK1 => ?_ | refine awp_cond_k fun A B hA hB => ?_); simp only [S1, simprocAttr, TTEvQ, e1]; first | (refine hK1 _ ?_; clear hK1 K1) | ((first | refine hA ?_ | refine hB ?_); clear hA hB A B) | ((first | apply call_a E139 | apply call_q E139); exact (asked_calls ht v 2 _); (refine hK1 _ ?_; clear hK1 K1)) | ((first | apply call_a E149 | apply call_q E149); exact (truth_calls (hv g2) g1 _); (refine hK1 _ ?_; clear hK1 K1)) | (refine join_x (v := ?_) (fun hg hk9 => ?_) ?_; rotate_left; (focus (try ((try simp only [BN] at hg); simp only [S1, simprocAttr, TTEvQ, e1, hg] at hk9 ⊢)); first | exact hk9 | ((first | apply call_a E139 | apply call_q E139); exact (asked_calls ht v 2 _); exact hk9) | ((first | apply call_a E149 | apply call_q E149); exact (truth_calls (hv g2) g1 _); exact hk9)); (refine hK1 _ ?_; clear hK1 K1)) | (((first | (refine ⟨fun hg => hA ?_, fun hg => hB ?_⟩ <;> clear hA hB A B) | refine ⟨fun hg => ?_, fun hg => ?_⟩) <;> (try simp only [BN2] at hg) <;> (try simp only [hg, cond_true, cond_false])) <;> (try (refine hK1 _ ?_; clear hK1 K1)) <;> (try simp only [BN3] at hg))) | (refine awp_seq_k fun K hK => ?_) | ((first | refine awp_region ?_ | refine awp_draw (by kernel_rfl) ?_ | refine awp_block ?_ | refine awp_exit ?_ | refine awp_skip ?_ | refine awp_ret ?_); (try simp only [NB, simprocAttr])))
    all_goals simp only [EndP, FinP, resA, resL, resA1, lastV, lastA, lastAs, pur, purs, take_app, List.take_length, S1, simprocAttr, TTEvQ, Nat.le_add_right, Nat.le_refl]
    all_goals (by_cases hf : (ev v t).2.2 = 0 <;> simp_all [truR])
  · have e1 : (askN t v 2 != 0) = true := by simp [e]
    refine acalls_pure (rl := []) mixed Tryz.func141 rfl (rs := [.tmp 4, .tmp 5]) rfl Tryz.ntmps141 (by simp) ?_
    repeat' (first | ((first | refine aops_nil ?_ | refine aqops_nil ?_); (try simp only [NB])) | ((repeat ((fail_if_success (refine hK _ ?_)); clear hK K)); refine hK _ ?_; clear hK K) | ((first | refine aops_k fun K1 hK1 => ?_ | refine aqops_k fun K1 hK1 => ?_ | refine awp_cond_k fun A B hA hB => ?_); simp only [S1, simprocAttr, TTEvQ, e1]; first | (refine hK1 _ ?_; clear hK1 K1) | ((first | refine hA ?_ | refine hB ?_); clear hA hB A B) | ((first | apply call_a E139 | apply call_q E139); exact (asked_calls ht v 2 _); (refine hK1 _ ?_; clear hK1 K1)) | (refine join_x (v := ?_) (fun hg hk9 => ?_) ?_; rotate_left; (focus (try ((try simp only [BN] at hg); simp only [S1, simprocAttr, TTEvQ, e1, hg] at hk9 ⊢)); first | exact hk9 | ((first | apply call_a E139 | apply call_q E139); exact (asked_calls ht v 2 _); exact hk9)); (refine hK1 _ ?_; clear hK1 K1)) | (((first | (refine ⟨fun hg => hA ?_, fun hg => hB ?_⟩ <;> clear hA hB A B) | refine ⟨fun hg => ?_, fun hg => ?_⟩) <;> (try simp only [BN2] at hg) <;> (try simp only [hg, cond_true, cond_false])) <;> (try (refine hK1 _ ?_; clear hK1 K1)) <;> (try simp only [BN3] at hg))) | (refine awp_seq_k fun K hK => ?_) | ((first | refine awp_region ?_ | refine awp_draw (by kernel_rfl) ?_ | refine awp_block ?_ | refine awp_exit ?_ | refine awp_skip ?_ | refine awp_ret ?_); (try simp only [NB, simprocAttr])))
    all_goals simp only [EndP, FinP, resA, resL, resA1, lastV, lastA, lastAs, pur, purs, take_app, List.take_length, S1, simprocAttr, TTEvQ, Nat.le_add_right, Nat.le_refl]
    all_goals simp_all [truR]
end Go.Proofs.YtbbmfemplmelhaaGreatDoor.AM
end

section
set_option linter.unusedVariables false
set_option linter.unusedSimpArgs false
set_option maxRecDepth 4000
set_option maxHeartbeats 4000000
namespace Go.Proofs.YtbbmfemplmelhaaGreatDoor.AM
open Go Go.Proofs
set_option linter.defProp false in
attribute [local irreducible] awp aops aqops aeops arun arunT

/-- The first flow whose condition is true, or whose condition is a fault; no Else. -/
def chF (fl : List Fl) (v : Int → Int) : List Int → Option (Int × Int)
  | [] => none
  | f :: r => match fl[f.toNat]? with
    | none => chF fl v r
    | some x => if x.els = true then chF fl v r else if (truR x.cond v).2 ≠ 0 then some (0, (truR x.cond v).2) else if (truR x.cond v).1 = true then some (f, 0) else chF fl v r
/-- The first Else. -/
def chE (fl : List Fl) : List Int → Int
  | [] => 0
  | f :: r => if elsAt fl f = true then f else chE fl r
def chooseG (fl : List Fl) (v : Int → Int) (outs : List Int) : Int × Int := (chF fl v outs).getD (chE fl outs, 0)

theorem chF_step {fl : List Fl} {v : Int → Int} {outs : List Int} {i : Nat} {f : Int} (h : outs[i]? = some f) : chF fl v (outs.drop i) = match fl[f.toNat]? with
    | none => chF fl v (outs.drop (i + 1))
    | some x => if x.els = true then chF fl v (outs.drop (i + 1)) else if (truR x.cond v).2 ≠ 0 then some (0, (truR x.cond v).2) else if (truR x.cond v).1 = true then some (f, 0) else chF fl v (outs.drop (i + 1)) := by
  obtain ⟨hi, e⟩ := List.getElem?_eq_some_iff.mp h
  rw [List.drop_eq_getElem_cons hi, e]; rfl
end Go.Proofs.YtbbmfemplmelhaaGreatDoor.AM
end

section
set_option linter.unusedVariables false
set_option linter.unusedSimpArgs false
set_option maxRecDepth 4000
set_option maxHeartbeats 4000000
namespace Go.Proofs.YtbbmfemplmelhaaGreatDoor.AM
open Go Go.Proofs
set_option linter.defProp false in
attribute [local irreducible] awp aops aqops aeops arun arunT

theorem stepT_len {S T : List Int} {f : Int} (h : stepT S f = some T) : T.length = S.length := by
  unfold stepT at h
  split at h
  · cases h
  · cases h; simp
theorem stepP_len {S T : List Int} {f : Int} (h : stepP S f = some T) : T.length = S.length := by
  unfold stepP at h
  split at h
  · cases h
  · cases h; simp
theorem runO_len {step : List Int → Int → Option (List Int)} (hs : ∀ S T f, step S f = some T → T.length = S.length) : ∀ {l S T : List Int}, runO step l S = some T → T.length = S.length
  | [], S, T, h => by cases h; rfl
  | f :: r, S, T, h => by
    unfold runO at h
    rw [List.foldlM_cons] at h
    obtain ⟨U, h1, h2⟩ := Option.bind_eq_some_iff.mp h
    rw [runO_len hs (l := r) (S := U) h2, hs _ _ _ h1]
theorem moveG_to {S : List Int} {x : Sp} {fr to : List Int} (hS : S.length = 49) (hx : x.to.length = 49) : ∀ y ∈ moveG S x fr to, y.to.length = 49 := by
  intro y hy
  unfold moveG at hy
  split at hy
  · cases hy
  · rename_i T hT
    split at hy
    · cases hy
    · rename_i U hU
      rw [List.mem_singleton.mp hy]
      simp only
      rw [runO_len (fun _ _ _ => stepP_len) hU, runO_len (fun _ _ _ => stepT_len) hT]
      simp [joinS, hS, hx]
theorem GmOk.app {h : Heap} {b lb : Nat} {S : List Int} {l l2 : List Sp} (ok : GmOk h b lb S l) (h2 : ∀ y ∈ l2, y.to.length = 49) (hf : l.length + l2.length ≤ 1000000) : GmOk h b lb S (l ++ l2) :=
  ⟨ok.hb, ok.hl, ok.ne, ok.held, fun x hx => (List.mem_append.mp hx).elim (ok.len x) (h2 x), by rw [List.length_append]; exact hf⟩

/-- The variables of a state. -/
def vS (S : List Int) : Int → Int := fun i => if i = 0 then S.getD 40 0 else if i = 1 then S.getD 41 0 else if i = 2 then S.getD 42 0 else S.getD 43 0
theorem vS_0 (S : List Int) : vS S 0 = S.getD 40 0 := rfl
theorem vS_1 (S : List Int) : vS S 1 = S.getD 41 0 := rfl
theorem vS_2 (S : List Int) : vS S 2 = S.getD 42 0 := rfl
theorem vS_3 (S : List Int) : vS S 3 = S.getD 43 0 := rfl
theorem vS_num {S : List Int} (h : inV (vS S) = true) : ∀ i, Num (vS S i) := by
  unfold inV at h
  rw [vS_0, vS_1, vS_2, vS_3] at h
  simp only [inM, Bool.and_eq_true, decide_eq_true_eq] at h
  intro i
  unfold vS Num
  split
  · exact ⟨by omega, by omega⟩
  · split
    · exact ⟨by omega, by omega⟩
    · split <;> exact ⟨by omega, by omega⟩
theorem vS_cells {S : List Int} (hS : S.length = 49) : ((S.drop 40).take 4).map AV.i = [.p (.int .i64 (vS S 0)), .p (.int .i64 (vS S 1)), .p (.int .i64 (vS S 2)), .p (.int .i64 (vS S 3))] := by
  rw [vS_0, vS_1, vS_2, vS_3]
  have e : ∀ k, k < 49 → S[k]? = some (S.getD k 0) := fun k hk => by rw [List.getD_eq_getElem?_getD, List.getElem?_eq_getElem (by omega)]; rfl
  apply List.ext_getElem?
  intro i
  rw [List.getElem?_map, List.getElem?_take]
  match i with
  | 0 => rw [if_pos (by omega), List.getElem?_drop, e 40 (by omega)]; rfl
  | 1 => rw [if_pos (by omega), List.getElem?_drop, e 41 (by omega)]; rfl
  | 2 => rw [if_pos (by omega), List.getElem?_drop, e 42 (by omega)]; rfl
  | 3 => rw [if_pos (by omega), List.getElem?_drop, e 43 (by omega)]; rfl
  | k + 4 => rw [if_neg (by omega)]; rfl
theorem gmC_vars {ns : List Nd} {fl : List Fl} {S : List Int} {lb n : Nat} (hS : S.length = 49) : ((gmC ns fl S lb n).drop 42).take 4 = [.p (.int .i64 (vS S 0)), .p (.int .i64 (vS S 1)), .p (.int .i64 (vS S 2)), .p (.int .i64 (vS S 3))] := by
  have := gmC_take (ns := ns) (fl := fl) (lb := lb) (n := n) (S := S) 40 4 (by omega)
  rw [show 2 + 40 = 42 by rfl] at this
  rw [this, vS_cells hS]

def xorG (fl : List Fl) (S : List Int) (i : Int) (ins outs : List Int) : List Sp :=
  if outs.length = 1 then ins.flatMap fun f => moveG S ⟨i, f, 0, 0, 0, S⟩ [f] outs
  else if tk S (ins.headD 0) = 0 then []
  else if (chooseG fl (vS S) outs).2 ≠ 0 then [faultS S i (chooseG fl (vS S) outs).2]
  else moveG S ⟨i, (chooseG fl (vS S) outs).1, 0, 0, 0, S⟩ ins [(chooseG fl (vS S) outs).1]

theorem chE_in {fl : List Fl} : ∀ {outs : List Int}, (∃ f ∈ outs, elsAt fl f = true) → chE fl outs ∈ outs
  | [], h => by obtain ⟨f, hf, _⟩ := h; cases hf
  | f :: r, h => by
    unfold chE
    split
    · simp
    · rename_i hn
      obtain ⟨g, hg, he⟩ := h
      rcases List.mem_cons.mp hg with rfl | hg
      · exact absurd he hn
      · exact List.mem_cons_of_mem _ (chE_in ⟨g, hg, he⟩)
end Go.Proofs.YtbbmfemplmelhaaGreatDoor.AM
end

section
set_option linter.unusedVariables false
set_option linter.unusedSimpArgs false
set_option maxRecDepth 4000
set_option maxHeartbeats 4000000
namespace Go.Proofs.YtbbmfemplmelhaaGreatDoor.AM
open Go Go.Proofs
set_option linter.defProp false in
attribute [local irreducible] awp aops aqops aeops arun arunT

def dataG (S : List Int) (k : Nd) (i : Int) (ins outs : List Int) : List Sp :=
  if tk S (ins.headD 0) = 0 then []
  else if k.kind = 3 then moveG S ⟨i, 0, 1, i, 0, S.set (40 + k.a.toNat) 0⟩ ins outs ++ moveG S ⟨i, 1, 1, i, 1, S.set (40 + k.a.toNat) 1⟩ ins outs
  else if (numR k.term (vS S)).2 ≠ 0 then [faultS S i (numR k.term (vS S)).2]
  else moveG S ⟨i, 0, 2, i, 0, S.set (40 + k.a.toNat) (numR k.term (vS S)).1⟩ ins outs

end Go.Proofs.YtbbmfemplmelhaaGreatDoor.AM
end

section
set_option linter.unusedVariables false
set_option linter.unusedSimpArgs false
set_option maxRecDepth 4000
set_option maxHeartbeats 4000000
namespace Go.Proofs.YtbbmfemplmelhaaGreatDoor.AM
open Go Go.Proofs
set_option linter.defProp false in
attribute [local irreducible] awp aops aqops aeops arun arunT

def lastG (S : List Int) (i : Int) (ins : List Int) : List Sp :=
  if sumW (S.take 40) = 1 then moveG S ⟨i, 0, 7, 0, 0, S.set 48 1⟩ ins [] else moveG S ⟨i, 0, 0, 0, 0, S⟩ ins []

def nodeG (ns : List Nd) (fl : List Fl) (S : List Int) (i : Nat) (k : Nd) : List Sp :=
  if k.kind = 2 then lastG S i (insN fl i)
  else if k.kind = 3 ∨ k.kind = 4 then dataG S k i (insN fl i) (outsN fl i)
  else if k.kind = 5 then xorG fl S i (insN fl i) (outsN fl i)
  else if k.kind = 6 then moveG S ⟨i, 0, 0, 0, 0, S⟩ (insN fl i) (outsN fl i)
  else if k.kind = 7 then (outsN fl i).flatMap fun f => catchG ns fl S i f (dstAt fl f) (insN fl i)
  else if k.kind = 8 then catchG ns fl S i 0 i (insN fl i)
  else []

theorem Right.kind {ns : List Nd} {fl : List Fl} (h : Right ns fl) {i : Nat} {k : Nd} (hc : ns[i]? = some k) : (1 ≤ k.kind ∧ k.kind ≤ 8) ∧ 0 ≤ k.a ∧ (k.kind = 3 ∨ k.kind = 4 → k.a < 4) ∧ k.a ≤ 4 := by
  have hi := (List.getElem?_eq_some_iff.mp hc).1
  have := h.b1 i hi
  unfold bad1 at this
  rw [hc] at this
  simp only [Bool.not_eq_false'] at this
  unfold oneB at this
  split at this
  · simp only [Bool.and_eq_true, decide_eq_true_eq] at this; omega
  · simp only [Bool.and_eq_true, decide_eq_true_eq] at this
    have hm : mostN k.kind ≤ 4 ∧ (k.kind = 3 → mostN k.kind = 3) := by unfold mostN; split <;> (try split) <;> omega
    omega
theorem Right.ins {ns : List Nd} {fl : List Fl} (h : Right ns fl) {i : Nat} {k : Nd} (hc : ns[i]? = some k) (h1 : k.kind ≠ 1) : insN fl i ≠ [] := by
  have hi := (List.getElem?_eq_some_iff.mp hc).1
  have := h.three hi
  unfold threeB at this
  simp only [kind_of hc, if_neg h1] at this
  intro e
  rw [e] at this
  simp only [List.length_nil] at this
  repeat' split at this
  all_goals simp at this
theorem Right.els {ns : List Nd} {fl : List Fl} (h : Right ns fl) {i : Nat} {k : Nd} (hc : ns[i]? = some k) (h5 : k.kind = 5) (hn : (outsN fl i).length ≠ 1) : ∃ f ∈ outsN fl i, elsAt fl f = true := by
  have hi := (List.getElem?_eq_some_iff.mp hc).1
  have := h.three hi
  unfold threeB at this
  simp only [kind_of hc, h5] at this
  simp only [Int.reduceEq, reduceIte, Bool.or_eq_true, Bool.and_eq_true, beq_iff_eq, decide_eq_true_eq] at this
  rcases this with h | h
  · have h2 := h.2
    unfold cntB at h2
    rw [List.take_length] at h2
    obtain ⟨f, hf, he⟩ := List.countP_pos_iff.mp (by omega : 0 < (outsN fl i).countP (elsAt fl))
    exact ⟨f, hf, he⟩
  · exact absurd h.2 hn
theorem outs_lt {fl : List Fl} (i : Int) : ∀ x ∈ outsN fl i, ∃ i : Nat, x = (i : Int) ∧ i < fl.length := by
  intro x hx
  obtain ⟨j, f, h1, rfl, h2, _⟩ := pickF_mem hx
  exact ⟨j, rfl, h1⟩

theorem nrmRows_eI (l : List Int) : nrmRows (l.map eI) = l.map eI := by
  rw [nrmRows_map, List.map_map]; rfl
end Go.Proofs.YtbbmfemplmelhaaGreatDoor.AM
end

section
set_option linter.unusedVariables false
set_option linter.unusedSimpArgs false
set_option maxRecDepth 4000
set_option maxHeartbeats 4000000
namespace Go.Proofs.YtbbmfemplmelhaaGreatDoor.AM
open Go Go.Proofs
set_option linter.defProp false in
attribute [local irreducible] awp aops aqops aeops arun arunT

def badT (n : Nat) (S : List Int) (i : Nat) : Bool := (decide (tk S i < 0) || decide (3 < tk S i)) || (decide ((n : Int) ≤ (i : Int)) && (tk S i != 0))
def badQ (S : List Int) (i : Nat) : Bool := decide (qAt S i < 0) || decide (3 < qAt S i)
def mdS (S : List Int) : Int := S.getD 48 0
def okS (n : Nat) (S : List Int) : Bool := ((List.range 40).all (fun i => !badT n S i) && (List.range 4).all (fun i => !badQ S i)) && (inV (vS S) && (decide (0 ≤ mdS S) && decide (mdS S ≤ 2)))
noncomputable def stC (ns : List Nd) (fl : List Fl) (S : List Int) : Int := if (netN ns fl).1 ≠ 0 then 4 else if okS fl.length S = true then 0 else 1

theorem at_get {S : List Int} (hS : S.length = 49) {k : Nat} (hk : k < 49) : S[k]? = some (S.getD k 0) := by
  rw [List.getD_eq_getElem?_getD, List.getElem?_eq_getElem (by omega)]; rfl
theorem vS_arr {S : List Int} (hS : S.length = 49) : ((S.map AV.i).drop 40).take 4 = [.p (.int .i64 (vS S 0)), .p (.int .i64 (vS S 1)), .p (.int .i64 (vS S 2)), .p (.int .i64 (vS S 3))] := by
  rw [← List.map_drop, ← List.map_take, vS_cells hS]

end Go.Proofs.YtbbmfemplmelhaaGreatDoor.AM
end

section
set_option linter.unusedVariables false
set_option linter.unusedSimpArgs false
set_option maxRecDepth 4000
set_option maxHeartbeats 4000000
namespace Go.Proofs.YtbbmfemplmelhaaGreatDoor.AM
open Go Go.Proofs
set_option linter.defProp false in
attribute [local irreducible] awp aops aqops aeops arun arunT

/-! ### The steps of the first nodes; of the first channels. -/
def nodesG (ns : List Nd) (fl : List Fl) (S : List Int) : Nat → List Sp
  | 0 => []
  | j + 1 => nodesG ns fl S j ++ (match ns[j]? with | some k => nodeG ns fl S j k | none => [])
def awaitsB (ns : List Nd) (m : Int) : Bool := ns.any fun k => k.kind == 8 && k.a == m
def sendG (ns : List Nd) (S : List Int) (m : Nat) : List Sp :=
  if awaitsB ns m = true ∧ qAt S m < 3 then moveG S ⟨-1, m, 5, 0, m, S.set (44 + m) (qAt S m + 1)⟩ [] [] else []
def sendsG (ns : List Nd) (S : List Int) : Nat → List Sp
  | 0 => []
  | m + 1 => sendsG ns S m ++ sendG ns S m
noncomputable def stepsG (ns : List Nd) (fl : List Fl) (S : List Int) : List Sp :=
  if stC ns fl S ≠ 0 ∨ mdS S ≠ 0 then [] else nodesG ns fl S ns.length ++ sendsG ns S 4

theorem pg_tail (h : Heap) (A B X Y : Option Blk) (L : Heap) (ns : List Nd) (fl : List Fl) (S : List Int) (l : List Sp) : putG (h ++ [A, B, X, Y]) (h.length + 2) (h.length + 3) ns fl S l ++ L = h ++ (A :: B :: gmB ns fl S (h.length + 3) l :: spB l :: L) := by
  unfold putG
  simp only [set_app, List.set_cons_succ, List.set_cons_zero, List.append_assoc, List.cons_append, List.nil_append]
theorem nodeG_len (ns : List Nd) (fl : List Fl) (S : List Int) (hf : fl.length ≤ 40) (i : Nat) (k : Nd) : (nodeG ns fl S i k).length ≤ 100 := by
  have hcl : ∀ f d fr, (catchG ns fl S i f d fr).length ≤ 1 := by
    intro f d fr
    unfold catchG
    split
    · split
      · simp
      · exact moveG_len _ _ _ _
    · exact moveG_len _ _ _ _
  have fm : ∀ (l : List Int) (g : Int → List Sp), (∀ x, (g x).length ≤ 1) → (l.flatMap g).length ≤ l.length := by
    intro l g hg
    induction l with
    | nil => simp
    | cons x r ih => rw [List.flatMap_cons, List.length_append, List.length_cons]; have := hg x; omega
  have hi := insN_le fl i
  have ho := outsN_le fl i
  have hm := fun x fr to => moveG_len S x fr to
  unfold nodeG
  split
  · unfold lastG; split <;> exact Nat.le_trans (hm _ _ _) (by omega)
  · split
    · unfold dataG
      repeat' split
      · simp
      · rw [List.length_append]
        have := hm ⟨i, 0, 1, i, 0, S.set (40 + k.a.toNat) 0⟩ (insN fl i) (outsN fl i)
        have := hm ⟨i, 1, 1, i, 1, S.set (40 + k.a.toNat) 1⟩ (insN fl i) (outsN fl i)
        omega
      · simp
      · exact Nat.le_trans (hm _ _ _) (by omega)
    · split
      · unfold xorG
        split
        · exact Nat.le_trans (fm _ _ fun x => hm _ _ _) (by omega)
        · repeat' split
          · simp
          · simp
          · exact Nat.le_trans (hm _ _ _) (by omega)
      · split
        · exact Nat.le_trans (hm _ _ _) (by omega)
        · split
          · exact Nat.le_trans (fm _ _ fun x => hcl _ _ _) (by omega)
          · split
            · exact Nat.le_trans (hcl _ _ _) (by omega)
            · simp
theorem nodeG_to {ns : List Nd} {fl : List Fl} {S : List Int} (hS : S.length = 49) (i : Nat) (k : Nd) : ∀ y ∈ nodeG ns fl S i k, y.to.length = 49 := by
  have hcl : ∀ f d fr, ∀ y ∈ catchG ns fl S i f d fr, y.to.length = 49 := by
    intro f d fr y hy
    unfold catchG at hy
    split at hy
    · split at hy
      · cases hy
      · exact moveG_to hS (by rw [List.length_set, hS]) y hy
    · exact moveG_to hS hS y hy
  have hst : ∀ (a : Nat) (v : Int), (S.set a v).length = 49 := fun a v => by rw [List.length_set, hS]
  have hfa : ∀ e, ∀ y ∈ [faultS S i e], y.to.length = 49 := by
    intro e y hy
    rw [List.mem_singleton.mp hy]; exact hst _ _
  intro y hy
  unfold nodeG at hy
  split at hy
  · unfold lastG at hy
    split at hy
    · exact moveG_to hS (hst _ _) y hy
    · exact moveG_to hS hS y hy
  · split at hy
    · unfold dataG at hy
      split at hy
      · cases hy
      · split at hy
        · rcases List.mem_append.mp hy with hy | hy <;> exact moveG_to hS (hst _ _) y hy
        · split at hy
          · exact hfa _ y hy
          · exact moveG_to hS (hst _ _) y hy
    · split at hy
      · unfold xorG at hy
        split at hy
        · obtain ⟨f, _, hy⟩ := List.mem_flatMap.mp hy
          exact moveG_to hS hS y hy
        · split at hy
          · cases hy
          · split at hy
            · exact hfa _ y hy
            · exact moveG_to hS hS y hy
      · split at hy
        · exact moveG_to hS hS y hy
        · split at hy
          · obtain ⟨f, _, hy⟩ := List.mem_flatMap.mp hy
            exact hcl _ _ _ y hy
          · split at hy
            · exact hcl _ _ _ y hy
            · cases hy
theorem nodesG_len (ns : List Nd) (fl : List Fl) (S : List Int) (hf : fl.length ≤ 40) : ∀ j, (nodesG ns fl S j).length ≤ 100 * j
  | 0 => by simp [nodesG]
  | j + 1 => by
    have := nodesG_len ns fl S hf j
    rw [nodesG, List.length_append]
    split
    · rename_i k _
      have := nodeG_len ns fl S hf j k
      omega
    · simp only [List.length_nil]; omega
theorem nodesG_to {ns : List Nd} {fl : List Fl} {S : List Int} (hS : S.length = 49) : ∀ j, ∀ y ∈ nodesG ns fl S j, y.to.length = 49
  | 0, y, hy => by simp [nodesG] at hy
  | j + 1, y, hy => by
    rw [nodesG] at hy
    rcases List.mem_append.mp hy with hy | hy
    · exact nodesG_to hS j y hy
    · split at hy
      · exact nodeG_to hS j _ y hy
      · cases hy
theorem sendsG_len (ns : List Nd) (S : List Int) : ∀ m, (sendsG ns S m).length ≤ m
  | 0 => by simp [sendsG]
  | m + 1 => by
    have := sendsG_len ns S m
    rw [sendsG, List.length_append]
    unfold sendG
    split
    · have := moveG_len S ⟨-1, m, 5, 0, m, S.set (44 + m) (qAt S m + 1)⟩ [] []
      omega
    · simp only [List.length_nil]; omega
theorem sendsG_to {ns : List Nd} {S : List Int} (hS : S.length = 49) : ∀ m, ∀ y ∈ sendsG ns S m, y.to.length = 49
  | 0, y, hy => by simp [sendsG] at hy
  | m + 1, y, hy => by
    rw [sendsG] at hy
    rcases List.mem_append.mp hy with hy | hy
    · exact sendsG_to hS m y hy
    · unfold sendG at hy
      split at hy
      · exact moveG_to hS (by rw [List.length_set, hS]) y hy
      · cases hy
theorem okS_st {n : Nat} {S : List Int} (hS : S.length = 49) (h : okS n S = true) : StOk S := by
  unfold okS at h
  simp only [Bool.and_eq_true, List.all_eq_true, List.mem_range, Bool.not_eq_true'] at h
  refine ⟨⟨hS, fun i x hi hx => ?_⟩, fun i x h44 h48 hx => ?_⟩
  · have := h.1.1 i hi
    unfold badT at this
    simp only [Bool.or_eq_false_iff, decide_eq_false_iff_not] at this
    have e := at_get hS (k := i) (by omega)
    rw [hx] at e
    have e2 : tk S (i : Int) = x := (Option.some.inj e).symm
    omega
  · have := h.1.2 (i - 44) (by omega)
    unfold badQ at this
    simp only [Bool.or_eq_false_iff, decide_eq_false_iff_not] at this
    have e := at_get hS (k := i) (by omega)
    rw [hx] at e
    have e2 : qAt S ((i - 44 : Nat) : Int) = x := by unfold qAt; rw [Int.toNat_natCast, show 44 + (i - 44) = i by omega]; exact (Option.some.inj e).symm
    omega
theorem eSp_ok (r : Sp) : ∀ x ∈ eSp r, x ≠ .nils := by
  intro x hx
  obtain ⟨n, _, rfl⟩ := List.mem_map.mp hx
  exact fun e => by cases e
theorem stC_zero {ns : List Nd} {fl : List Fl} {S : List Int} (h : stC ns fl S = 0) : (netN ns fl).1 = 0 ∧ okS fl.length S = true := by
  unfold stC at h
  split at h
  · cases h
  · rename_i h0
    split at h
    · rename_i h1; exact ⟨by simpa using h0, h1⟩
    · cases h
end Go.Proofs.YtbbmfemplmelhaaGreatDoor.AM
end

section
set_option linter.unusedVariables false
set_option linter.unusedSimpArgs false
set_option maxRecDepth 4000
set_option maxHeartbeats 4000000
namespace Go.Proofs.YtbbmfemplmelhaaGreatDoor.AM
open Go Go.Proofs
set_option linter.defProp false in
attribute [local irreducible] awp aops aqops aeops arun arunT

abbrev aSps (l : List Sp) : AV := .p (.sl (l.map eSp))

theorem over_gen : ∀ (l c : List AV) (k : Nat), k + l.length ≤ c.length → over c k l = c.take k ++ l ++ c.drop (k + l.length)
  | [], c, k, h => by simp [over]
  | x :: r, c, k, h => by
    simp only [List.length_cons] at h
    simp only [over]
    rw [over_gen r (c.set k x) (k + 1) (by simp; omega)]
    rw [List.take_add_one, List.getElem?_set_self (by omega), List.take_set_of_le (Nat.le_refl k), List.drop_set_of_lt (by omega)]
    simp only [Option.toList_some, List.length_cons, List.append_assoc, List.cons_append, List.nil_append]
    congr 4
    omega
theorem over_two {S : List Int} (hS : S.length = 49) (a b : AV) (t : List AV) (ht : t.length = 50) : over (a :: b :: t) 2 (S.map AV.i) = a :: b :: (S.map AV.i ++ t.drop 49) := by
  have h51 : 2 + (S.map AV.i).length ≤ (a :: b :: t).length := by rw [List.length_map, hS, List.length_cons, List.length_cons, ht]; decide
  rw [over_gen (S.map AV.i) (a :: b :: t) 2 h51]
  rw [List.length_map, hS]; rfl
def eSp' (x : Sp) : List PV := if x.to.length = 49 then eSp x else List.replicate 54 (.int .i64 0)
theorem eSp'_len (x : Sp) : (eSp' x).length = 54 := by
  unfold eSp'
  split
  · rename_i h; unfold eSp; rw [List.length_map, cSp_len h]
  · rw [List.length_replicate]
theorem eSp'_ok (r : Sp) : ∀ x ∈ eSp' r, x ≠ .nils := by
  intro x hx
  unfold eSp' at hx
  split at hx
  · exact eSp_ok r x hx
  · rw [(List.mem_replicate.mp hx).2]; exact fun e => by cases e
theorem eSp'_map {l : List Sp} (h : ∀ y ∈ l, y.to.length = 49) : l.map eSp' = l.map eSp := by
  apply List.map_congr_left
  intro x hx
  unfold eSp'; rw [if_pos (h x hx)]
theorem cSps_e {l : List Sp} (h : ∀ y ∈ l, y.to.length = 49) : cSps l = (flatE eSp' l).map AV.p := by
  unfold flatE
  rw [List.flatMap_def, eSp'_map h, ← List.flatMap_def]
  unfold cSps eSp
  rw [List.map_flatMap, List.map_flatMap]
  congr 1; funext x
  rw [List.map_map]; rfl
theorem Ghost.game {P : Program} {G : Nat → Option (List PV)} {h : Heap} {s : St} {A B : Option Blk} {ns : List Nd} {fl : List Fl} {S : List Int} (hS : S.length = 49) (hh : s.heap = h ++ [A, B, some ⟨0, .p (.sl (ns.map eN)) :: .p (.sl (fl.map eF)) :: (S.map AV.i ++ [.p .nils])⟩]) : Ghost P G h s ⟨s.fr, s.nt, h ++ [A, B, gmB ns fl S (h.length + 3) [], spB []]⟩ := by
  have := Ghost.adoptCell (P := P) (G := G) (h0 := h) (s := s) (b := h.length + 2) (j := 51) (bk := ⟨0, .p (.sl (ns.map eN)) :: .p (.sl (fl.map eF)) :: (S.map AV.i ++ [.p .nils])⟩) 54 (by rw [hh]; simp [get_app]) (by simp [hS]) (by omega)
  rw [hh] at this
  have e : (AV.p (.sl (ns.map eN)) :: .p (.sl (fl.map eF)) :: (S.map AV.i ++ [.p .nils])).set 51 (.ref (h.length + 3) 0 0 54 0) = gmC ns fl S (h.length + 3) 0 := by
    unfold gmC
    rw [show (51 : Nat) = 49 + 1 + 1 by rfl, List.set_cons_succ, List.set_cons_succ, List.set_append_right _ _ (by simp [hS])]
    simp [hS]
  simp only [List.length_append, List.length_cons, List.length_nil, List.append_assoc, List.cons_append, List.nil_append, set_app, List.set_cons_succ, List.set_cons_zero, Nat.zero_add, Nat.reduceAdd, e] at this
  exact this

theorem pg_avl2 {ns : List Nd} {fl : List Fl} {S : List Int} {m lb n : Nat} (hl : lb < m) : avlts m (gmC ns fl S lb n) := by
  have : ∀ (m : Nat) (a c : List AV), avlts m a → avlts m c → avlts m (a ++ c) := by
    intro m a c ha hc
    induction a with
    | nil => exact hc
    | cons x r ih => exact ⟨ha.1, ih ha.2⟩
  exact ⟨trivial, trivial, this _ _ _ (avlts_is _ S) ⟨hl, trivial⟩⟩

end Go.Proofs.YtbbmfemplmelhaaGreatDoor.AM
end

section
set_option linter.unusedVariables false
set_option linter.unusedSimpArgs false
set_option maxRecDepth 4000
set_option maxHeartbeats 4000000
namespace Go.Proofs.YtbbmfemplmelhaaGreatDoor.AM
open Go Go.Proofs
set_option linter.defProp false in
def TTToM := And.intro T2 (And.intro T3 (And.intro T4 (And.intro T22 (And.intro T23 (And.intro T25 (And.intro T31 (And.intro T41 (And.intro T57 (And.intro T58 (And.intro T77 (And.intro T80 T82)))))))))))
attribute [local irreducible] awp aops aqops aeops arun arunT
variable {G : Nat → Option (List PV)}

def okH (l : List Int) : Bool := l.all fun x => !(decide (x < 0) || decide (3 < x))
theorem okH_step {l : List Int} {i : Nat} {x : Int} (h : l[i]? = some x) : okH (l.take (i + 1)) = (okH (l.take i) && !(decide (x < 0) || decide (3 < x))) := by
  unfold okH
  rw [List.take_add_one, h, List.all_append]; simp
theorem okH_no {l : List Int} {i : Nat} {x : Int} (h : l[i]? = some x) (hx : (decide (x < 0) || decide (3 < x)) = true) : okH l = false := by
  unfold okH
  rw [List.all_eq_false]
  exact ⟨x, List.mem_of_getElem? h, by rw [hx]; decide⟩

theorem held_calls {h : Heap} {b g off n : Nat} {S : List Int} (hb : h[b]? = some (some ⟨g, S.map AV.i⟩)) (hn : off + n ≤ S.length) (h1 : n ≤ 100) :
    ACalls Tryz.prog G 72 [.ref b g off 1 n] h (fun r h' => r = .b (okH ((S.drop off).take n)) ∧ h' = h) := by
  have hlt : b < h.length := (List.getElem?_eq_some_iff.mp hb).1
  refine acalls_pure (rl := []) mixed Tryz.func72 rfl (rs := [.tmp 2]) rfl Tryz.ntmps72 (by simp) ?_
  repeat' (first | ((first | refine aops_nil ?_ | refine aqops_nil ?_); (try simp only [NB])) | ((repeat ((fail_if_success (refine hK _ ?_)); clear hK K)); refine hK _ ?_; clear hK K) | ((first | refine aops_k fun K1 hK1 => ?_ | refine aqops_k fun K1 hK1 => ?_ | refine awp_cond_k fun A B hA hB => ?_); simp only [S1, simprocAttr, TTToM]; first | (refine hK1 _ ?_; clear hK1 K1) | ((first | refine hA ?_ | refine hB ?_); clear hA hB A B) | (refine join_x (v := ?_) (fun hg hk9 => ?_) ?_; rotate_left; (focus (try ((try simp only [BN] at hg); simp only [S1, simprocAttr, TTToM, hg] at hk9 ⊢)); first | exact hk9); (refine hK1 _ ?_; clear hK1 K1)) | (((first | (refine ⟨fun hg => hA ?_, fun hg => hB ?_⟩ <;> clear hA hB A B) | refine ⟨fun hg => ?_, fun hg => ?_⟩) <;> (try simp only [BN2] at hg) <;> (try simp only [hg, cond_true, cond_false])) <;> (try (refine hK1 _ ?_; clear hK1 K1)) <;> (try simp only [BN3] at hg))) | (refine awp_seq_k fun K hK => ?_) | ((first | refine awp_region ?_ | refine awp_draw (by kernel_rfl) ?_ | refine awp_block ?_ | refine awp_exit ?_ | refine awp_skip ?_ | refine awp_ret ?_); (try simp only [NB, simprocAttr])))
  refine awp_for n 18 (fun i => [(7, .i i), (6, .i n), (5, .ref b g off 1 n)]) (fun i => []) (fun i => okH (((S.drop off).take n).take i) = true) ?_ rfl fun i hi hp K hK => ?_
  · refine ⟨rfl, ⟨[], by simp only [List.append_nil]⟩, ?_, trivial⟩
    simp only [keeps, avlt, avlts, blksLt, frL, upd_get, S1, simprocAttr, List.length_map, Int.natCast_zero, AV.p.injEq, PV.int.injEq, PV.bool.injEq, PV.sl.injEq] <;> (try and_intros) <;> (try assumption) <;> (try trivial) <;> (try omega)
  rcases Nat.lt_or_ge i n with hlti | hge
  · have hx0 : S[off + i]? = some (S.getD (off + i) 0) := by rw [List.getD_eq_getElem?_getD, List.getElem?_eq_getElem (by omega)]; rfl
    generalize S.getD (off + i) 0 = x at *
    have hx : ((S.drop off).take n)[i]? = some x := by rw [List.getElem?_take_of_lt hlti, List.getElem?_drop]; exact hx0
    have dr := dropI hx0
    have hst := okH_step hx
    have i0 : (0 : Int) ≤ (i : Int) := by omega
    have hlt' : (i : Int) < (n : Int) := by omega
    cases f1 : decide (x < 0) with
    | true =>
      have ho := okH_no hx (by rw [f1]; rfl)
      rw [ho]
      repeat' (first | ((first | refine aops_nil ?_ | refine aqops_nil ?_); (try simp only [NB])) | ((repeat ((fail_if_success (refine hK _ ?_)); clear hK K)); refine hK _ ?_; clear hK K) | ((first | refine aops_k fun K1 hK1 => ?_ | refine aqops_k fun K1 hK1 => ?_ | refine awp_cond_k fun A B hA hB => ?_); simp only [S1, simprocAttr, TTToM, hb, hlt', i0, dr, f1, Int.toNat_natCast, Nat.mul_one, Nat.zero_add, Nat.add_zero]; first | (refine hK1 _ ?_; clear hK1 K1) | ((first | refine hA ?_ | refine hB ?_); clear hA hB A B) | (refine join_x (v := ?_) (fun hg hk9 => ?_) ?_; rotate_left; (focus (try ((try simp only [BN] at hg); simp only [S1, simprocAttr, TTToM, hb, hlt', i0, dr, f1, Int.toNat_natCast, Nat.mul_one, Nat.zero_add, Nat.add_zero, hg] at hk9 ⊢)); first | exact hk9); (refine hK1 _ ?_; clear hK1 K1)) | (((first | (refine ⟨fun hg => hA ?_, fun hg => hB ?_⟩ <;> clear hA hB A B) | refine ⟨fun hg => ?_, fun hg => ?_⟩) <;> (try simp only [BN2] at hg) <;> (try simp only [hg, cond_true, cond_false])) <;> (try (refine hK1 _ ?_; clear hK1 K1)) <;> (try simp only [BN3] at hg))) | (refine awp_seq_k fun K hK => ?_) | ((first | refine awp_region ?_ | refine awp_draw (by kernel_rfl) ?_ | refine awp_block ?_ | refine awp_exit ?_ | refine awp_skip ?_ | refine awp_ret ?_); (try simp only [NB, simprocAttr])))
      all_goals simp only [EndP, FinP, resA, resL, resA1, lastV, lastA, lastAs, pur, purs, take_app, List.take_length, S1, simprocAttr, TTToM, Nat.le_add_right, Nat.le_refl]
    | false =>
    cases f2 : decide (3 < x) with
    | true =>
      have ho := okH_no hx (by rw [f1, f2]; rfl)
      rw [ho]
      repeat' (first | ((first | refine aops_nil ?_ | refine aqops_nil ?_); (try simp only [NB])) | ((repeat ((fail_if_success (refine hK _ ?_)); clear hK K)); refine hK _ ?_; clear hK K) | ((first | refine aops_k fun K1 hK1 => ?_ | refine aqops_k fun K1 hK1 => ?_ | refine awp_cond_k fun A B hA hB => ?_); simp only [S1, simprocAttr, TTToM, hb, hlt', i0, dr, f1, f2, Int.toNat_natCast, Nat.mul_one, Nat.zero_add, Nat.add_zero]; first | (refine hK1 _ ?_; clear hK1 K1) | ((first | refine hA ?_ | refine hB ?_); clear hA hB A B) | (refine join_x (v := ?_) (fun hg hk9 => ?_) ?_; rotate_left; (focus (try ((try simp only [BN] at hg); simp only [S1, simprocAttr, TTToM, hb, hlt', i0, dr, f1, f2, Int.toNat_natCast, Nat.mul_one, Nat.zero_add, Nat.add_zero, hg] at hk9 ⊢)); first | exact hk9); (refine hK1 _ ?_; clear hK1 K1)) | (((first | (refine ⟨fun hg => hA ?_, fun hg => hB ?_⟩ <;> clear hA hB A B) | refine ⟨fun hg => ?_, fun hg => ?_⟩) <;> (try simp only [BN2] at hg) <;> (try simp only [hg, cond_true, cond_false])) <;> (try (refine hK1 _ ?_; clear hK1 K1)) <;> (try simp only [BN3] at hg))) | (refine awp_seq_k fun K hK => ?_) | ((first | refine awp_region ?_ | refine awp_draw (by kernel_rfl) ?_ | refine awp_block ?_ | refine awp_exit ?_ | refine awp_skip ?_ | refine awp_ret ?_); (try simp only [NB, simprocAttr])))
      all_goals simp only [EndP, FinP, resA, resL, resA1, lastV, lastA, lastAs, pur, purs, take_app, List.take_length, S1, simprocAttr, TTToM, Nat.le_add_right, Nat.le_refl]
    | false =>
      rw [hp, f1, f2] at hst
      repeat' (first | ((first | refine aops_nil ?_ | refine aqops_nil ?_); (try simp only [NB])) | ((repeat ((fail_if_success (refine hK _ ?_)); clear hK K)); refine hK _ ?_; clear hK K) | ((first | refine aops_k fun K1 hK1 => ?_ | refine aqops_k fun K1 hK1 => ?_ | refine awp_cond_k fun A B hA hB => ?_); simp only [S1, simprocAttr, TTToM, hb, hlt', next40 (n := n) (by omega) hlti, i0, dr, f1, f2, Int.toNat_natCast, Nat.mul_one, Nat.zero_add, Nat.add_zero]; first | (refine hK1 _ ?_; clear hK1 K1) | ((first | refine hA ?_ | refine hB ?_); clear hA hB A B) | (refine join_x (v := ?_) (fun hg hk9 => ?_) ?_; rotate_left; (focus (try ((try simp only [BN] at hg); simp only [S1, simprocAttr, TTToM, hb, hlt', next40 (n := n) (by omega) hlti, i0, dr, f1, f2, Int.toNat_natCast, Nat.mul_one, Nat.zero_add, Nat.add_zero, hg] at hk9 ⊢)); first | exact hk9); (refine hK1 _ ?_; clear hK1 K1)) | (((first | (refine ⟨fun hg => hA ?_, fun hg => hB ?_⟩ <;> clear hA hB A B) | refine ⟨fun hg => ?_, fun hg => ?_⟩) <;> (try simp only [BN2] at hg) <;> (try simp only [hg, cond_true, cond_false])) <;> (try (refine hK1 _ ?_; clear hK1 K1)) <;> (try simp only [BN3] at hg))) | (refine awp_seq_k fun K hK => ?_) | ((first | refine awp_region ?_ | refine awp_draw (by kernel_rfl) ?_ | refine awp_block ?_ | refine awp_exit ?_ | refine awp_skip ?_ | refine awp_ret ?_); (try simp only [NB, simprocAttr])))
      all_goals refine ⟨hlti, hst, ?_⟩
      all_goals refine ⟨rfl, ⟨[], by simp only [List.append_nil]⟩, ?_, trivial⟩
      all_goals simp only [keeps, avlt, avlts, blksLt, frL, upd_get, S1, simprocAttr, List.length_map, Int.natCast_zero, AV.p.injEq, PV.int.injEq, PV.bool.injEq, PV.sl.injEq] <;> (try and_intros) <;> (try assumption) <;> (try trivial) <;> (try omega)
  · obtain rfl : i = n := by omega
    rw [List.take_take, Nat.min_self] at hp
    repeat' (first | ((first | refine aops_nil ?_ | refine aqops_nil ?_); (try simp only [NB])) | ((repeat ((fail_if_success (refine hK _ ?_)); clear hK K)); refine hK _ ?_; clear hK K) | ((first | refine aops_k fun K1 hK1 => ?_ | refine aqops_k fun K1 hK1 => ?_ | refine awp_cond_k fun A B hA hB => ?_); simp only [S1, simprocAttr, TTToM, Int.lt_irrefl]; first | (refine hK1 _ ?_; clear hK1 K1) | ((first | refine hA ?_ | refine hB ?_); clear hA hB A B) | (refine join_x (v := ?_) (fun hg hk9 => ?_) ?_; rotate_left; (focus (try ((try simp only [BN] at hg); simp only [S1, simprocAttr, TTToM, Int.lt_irrefl, hg] at hk9 ⊢)); first | exact hk9); (refine hK1 _ ?_; clear hK1 K1)) | (((first | (refine ⟨fun hg => hA ?_, fun hg => hB ?_⟩ <;> clear hA hB A B) | refine ⟨fun hg => ?_, fun hg => ?_⟩) <;> (try simp only [BN2] at hg) <;> (try simp only [hg, cond_true, cond_false])) <;> (try (refine hK1 _ ?_; clear hK1 K1)) <;> (try simp only [BN3] at hg))) | (refine awp_seq_k fun K hK => ?_) | ((first | refine awp_region ?_ | refine awp_draw (by kernel_rfl) ?_ | refine awp_block ?_ | refine awp_exit ?_ | refine awp_skip ?_ | refine awp_ret ?_); (try simp only [NB, simprocAttr])))
    all_goals simp only [EndP, FinP, resA, resL, resA1, lastV, lastA, lastAs, pur, purs, take_app, List.take_length, S1, simprocAttr, TTToM, Nat.le_add_right, Nat.le_refl]
    all_goals rw [hp]
end Go.Proofs.YtbbmfemplmelhaaGreatDoor.AM
end

section
set_option linter.unusedVariables false
set_option linter.unusedSimpArgs false
set_option maxRecDepth 4000
set_option maxHeartbeats 4000000
namespace Go.Proofs.YtbbmfemplmelhaaGreatDoor.AM
open Go Go.Proofs
set_option linter.defProp false in
attribute [local irreducible] awp aops aqops aeops arun arunT

/-- The tokens, of which the first so many are put to nought. -/
def restZ (S : List Int) (j : Nat) : List Int := List.replicate j 0 ++ (S.take 40).drop j
theorem restZ_len {S : List Int} (hS : S.length = 49) {j : Nat} (hj : j ≤ 40) : (restZ S j).length = 40 := by simp [restZ, hS]; omega
theorem restZ_set {S : List Int} (hS : S.length = 49) {j : Nat} (hj : j < 40) : (restZ S j).set j 0 = restZ S (j + 1) := by
  have hl : j < (S.take 40).length := by rw [List.length_take]; omega
  unfold restZ
  rw [List.set_append_right _ _ (by simp), List.length_replicate, Nat.sub_self, List.drop_eq_getElem_cons hl, List.set_cons_zero, List.replicate_succ', List.append_assoc]; rfl
theorem eqI : ∀ {S T : List Int}, S.length = T.length → eqCells true (S.map AV.i) (T.map AV.i) = some (S == T)
  | [], [], _ => rfl
  | x :: r, [], h => by cases h
  | [], y :: q, h => by cases h
  | x :: r, y :: q, h => by
    have := eqI (S := r) (T := q) (by simpa using h)
    simp only [List.map_cons, eqCells, this]
    rfl
theorem restZ_eq {S : List Int} {n : Nat} (hS : S.length = 49) (hn : n ≤ 40) : (restZ S n == List.replicate 40 0) = (List.range 40).all fun i => !(decide ((n : Int) ≤ (i : Int)) && (tk S i != 0)) := by
  rw [Bool.eq_iff_iff, beq_iff_eq, List.all_eq_true]
  constructor
  · intro e i hi
    have hi := List.mem_range.mp hi
    by_cases h : n ≤ i
    · have e1 : (restZ S n)[i]? = some 0 := by rw [e, List.getElem?_replicate, if_pos hi]
      unfold restZ at e1
      rw [List.getElem?_append_right (by simpa using h), List.length_replicate, List.getElem?_drop, show n + (i - n) = i by omega, List.getElem?_take_of_lt hi, at_get hS (by omega)] at e1
      have e2 : tk S (i : Int) = 0 := Option.some.inj e1
      simp [e2]
    · have : decide ((n : Int) ≤ (i : Int)) = false := decide_eq_false (by omega)
      rw [this]; rfl
  · intro h
    apply List.ext_getElem?
    intro i
    rw [List.getElem?_replicate]
    split
    · rename_i hi
      unfold restZ
      by_cases hni : n ≤ i
      · have h1 := h i (List.mem_range.mpr hi)
        have : decide ((n : Int) ≤ (i : Int)) = true := decide_eq_true (by omega)
        rw [this] at h1
        simp at h1
        rw [List.getElem?_append_right (by simpa using hni), List.length_replicate, List.getElem?_drop, show n + (i - n) = i by omega, List.getElem?_take_of_lt hi, at_get hS (by omega)]
        exact congrArg some h1
      · rw [List.getElem?_append_left (by simp; omega), List.getElem?_replicate, if_pos (by omega)]
    · exact List.getElem?_eq_none (by rw [restZ_len hS hn]; omega)

/-- A state's bounds, told by lists. -/
theorem okS_eq {n : Nat} {S : List Int} (hS : S.length = 49) (hn : n ≤ 40) : okS n S = ((restZ S n == List.replicate 40 0) && (okH (S.take 40) && (okH ((S.drop 44).take 4) && (inV (vS S) && (decide (0 ≤ mdS S) && decide (mdS S ≤ 2)))))) := by
  have a : (List.range 40).all (fun i => !badT n S i) = ((restZ S n == List.replicate 40 0) && okH (S.take 40)) := by
    rw [restZ_eq hS hn, Bool.eq_iff_iff]
    unfold okH badT
    simp only [Bool.and_eq_true, List.all_eq_true, List.mem_range, Bool.not_eq_true', Bool.or_eq_false_iff]
    constructor
    · refine fun h => ⟨fun i hi => (h i hi).2, fun x hx => ?_⟩
      obtain ⟨i, hi, e⟩ := List.mem_iff_getElem.mp hx
      rw [List.length_take] at hi
      have h1 := (h i (by omega)).1
      have e2 : tk S (i : Int) = x := by
        have := at_get hS (k := i) (by omega)
        rw [← e, List.getElem_take]
        rw [List.getElem?_eq_getElem (by omega)] at this
        exact (Option.some.inj this).symm
      rw [e2] at h1; exact h1
    · refine fun h i hi => ⟨?_, h.1 i hi⟩
      have := h.2 (tk S i) (List.mem_of_getElem? (i := i) (by rw [List.getElem?_take_of_lt hi]; exact at_get hS (by omega)))
      exact this
  have b : (List.range 4).all (fun i => !badQ S i) = okH ((S.drop 44).take 4) := by
    rw [Bool.eq_iff_iff]
    unfold okH badQ
    simp only [List.all_eq_true, List.mem_range, Bool.not_eq_true', Bool.or_eq_false_iff]
    constructor
    · intro h x hx
      obtain ⟨i, hi, e⟩ := List.mem_iff_getElem.mp hx
      rw [List.length_take, List.length_drop] at hi
      have h1 := h i (by omega)
      have e2 : qAt S (i : Int) = x := by
        have := at_get hS (k := 44 + i) (by omega)
        rw [← e, List.getElem_take, List.getElem_drop]
        rw [List.getElem?_eq_getElem (by omega)] at this
        exact (Option.some.inj this).symm
      rw [e2] at h1; exact h1
    · intro h i hi
      exact h (qAt S i) (List.mem_of_getElem? (i := i) (by rw [List.getElem?_take_of_lt hi, List.getElem?_drop]; exact at_get hS (by omega)))
  unfold okS
  rw [a, b]
  simp only [Bool.and_assoc]
end Go.Proofs.YtbbmfemplmelhaaGreatDoor.AM
end

section
set_option linter.unusedVariables false
set_option linter.unusedSimpArgs false
set_option maxRecDepth 4000
set_option maxHeartbeats 4000000
namespace Go.Proofs.YtbbmfemplmelhaaGreatDoor.AM
open Go Go.Proofs
set_option linter.defProp false in
def TTToO := And.intro T2 (And.intro T3 (And.intro T4 (And.intro T22 (And.intro T23 (And.intro T25 (And.intro T31 (And.intro T41 (And.intro T57 (And.intro T58 (And.intro T77 (And.intro T80 T82)))))))))))
attribute [local irreducible] awp aops aqops aeops arun arunT

theorem tChk_calls {ns : List Nd} {fl : List Fl} (nk : NetOk ns fl) {S : List Int} (hS : S.length = 49) (h : Heap) :
    ACalls Tryz.prog gW 51 [aNet ns fl, aS S] h (fun r h' => r = .i (stC ns fl S) ∧ h' = h) := by
  have hne := ne_is hS
  have hc := fun h => Check_calls ns fl nk h
  by_cases h0 : (netN ns fl).1 = 0
  case neg =>
    have h0' : ((netN ns fl).1 != 0) = true := by simp [h0]
    have hst : stC ns fl S = 4 := by unfold stC; rw [if_pos h0]
    rw [hst]
    refine acalls_pure (rl := []) mixed Tryz.func51 rfl (rs := [.tmp 4]) rfl Tryz.ntmps51 (by simp) ?_
    repeat' (first | ((first | refine aops_nil ?_ | refine aqops_nil ?_); (try simp only [NB])) | ((repeat ((fail_if_success (refine hK _ ?_)); clear hK K)); refine hK _ ?_; clear hK K) | ((first | refine aops_k fun K1 hK1 => ?_ | refine aqops_k fun K1 hK1 => ?_ | refine awp_cond_k fun A B hA hB => ?_); simp only [S1, simprocAttr, TTToO, List.length_map, hS, hne, all_scalar, h0']; first | (refine hK1 _ ?_; clear hK1 K1) | ((first | refine hA ?_ | refine hB ?_); clear hA hB A B) | ((first | apply call_a E56 | apply call_q E56); exact (hc _); (refine hK1 _ ?_; clear hK1 K1)) | (refine join_x (v := ?_) (fun hg hk9 => ?_) ?_; rotate_left; (focus (try ((try simp only [BN] at hg); simp only [S1, simprocAttr, TTToO, List.length_map, hS, hne, all_scalar, h0', hg] at hk9 ⊢)); first | exact hk9 | ((first | apply call_a E56 | apply call_q E56); exact (hc _); exact hk9)); (refine hK1 _ ?_; clear hK1 K1)) | (((first | (refine ⟨fun hg => hA ?_, fun hg => hB ?_⟩ <;> clear hA hB A B) | refine ⟨fun hg => ?_, fun hg => ?_⟩) <;> (try simp only [BN2] at hg) <;> (try simp only [hg, cond_true, cond_false])) <;> (try (refine hK1 _ ?_; clear hK1 K1)) <;> (try simp only [BN3] at hg))) | (refine awp_seq_k fun K hK => ?_) | ((first | refine awp_region ?_ | refine awp_draw (by kernel_rfl) ?_ | refine awp_block ?_ | refine awp_exit ?_ | refine awp_skip ?_ | refine awp_ret ?_); (try simp only [NB, simprocAttr])))
    all_goals simp only [EndP, FinP, resA, resL, resA1, lastV, lastA, lastAs, pur, purs, take_app, List.take_length, S1, simprocAttr, TTToO, Nat.le_add_right, Nat.le_refl]
  have h0' : ((netN ns fl).1 != 0) = false := by simp [h0]
  have rt := Right.of h0
  have hf := rt.f
  have t40 : (S.map AV.i).take 40 = (S.take 40).map AV.i := by rw [List.map_take]
  have l40 : (S.take 40).length = 40 := by rw [List.length_take, hS]; rfl
  have hov := over_full (cs := (S.take 40).map AV.i) (n := 40) (by rw [List.length_map, l40])
  refine acalls_pure (rl := []) mixed Tryz.func51 rfl (rs := [.tmp 4]) rfl Tryz.ntmps51 (by simp) ?_
  repeat' (first | ((first | refine aops_nil ?_ | refine aqops_nil ?_); (try simp only [NB])) | ((repeat ((fail_if_success (refine hK _ ?_)); clear hK K)); refine hK _ ?_; clear hK K) | ((first | refine aops_k fun K1 hK1 => ?_ | refine aqops_k fun K1 hK1 => ?_ | refine awp_cond_k fun A B hA hB => ?_); simp only [S1, simprocAttr, TTToO, h0', t40, l40, hov, hne, hS, all_scalar, takeA_arr, takeA_st, eqA, Q57, List.length_map, List.length_take, List.length_drop, Nat.mul_one, Nat.zero_add, Nat.add_zero, Int.toNat_natCast, and_self]; first | (refine hK1 _ ?_; clear hK1 K1) | ((first | refine hA ?_ | refine hB ?_); clear hA hB A B) | ((first | apply call_a E56 | apply call_q E56); exact (hc _); (refine hK1 _ ?_; clear hK1 K1)) | (refine join_x (v := ?_) (fun hg hk9 => ?_) ?_; rotate_left; (focus (try ((try simp only [BN] at hg); simp only [S1, simprocAttr, TTToO, h0', t40, l40, hov, hne, hS, all_scalar, takeA_arr, takeA_st, eqA, Q57, List.length_map, List.length_take, List.length_drop, Nat.mul_one, Nat.zero_add, Nat.add_zero, Int.toNat_natCast, and_self, hg] at hk9 ⊢)); first | exact hk9 | ((first | apply call_a E56 | apply call_q E56); exact (hc _); exact hk9)); (refine hK1 _ ?_; clear hK1 K1)) | (((first | (refine ⟨fun hg => hA ?_, fun hg => hB ?_⟩ <;> clear hA hB A B) | refine ⟨fun hg => ?_, fun hg => ?_⟩) <;> (try simp only [BN2] at hg) <;> (try simp only [hg, cond_true, cond_false])) <;> (try (refine hK1 _ ?_; clear hK1 K1)) <;> (try simp only [BN3] at hg))) | (refine awp_seq_k fun K hK => ?_) | ((first | refine awp_region ?_ | refine awp_draw (by kernel_rfl) ?_ | refine awp_block ?_ | refine awp_exit ?_ | refine awp_skip ?_ | refine awp_ret ?_); (try simp only [NB, simprocAttr])))
  refine awp_for fl.length 58 (fun j => [(21, .i j), (20, .i fl.length), (7, .ptr (h.length + 2) 0 0), (3, .ptr (h.length + 1) 0 0), (2, .ptr h.length 0 0)])
    (fun j => [some ⟨0, cNet ns fl⟩, some ⟨0, S.map AV.i⟩, some ⟨0, (restZ S j).map AV.i⟩]) (fun j => True) ?_ trivial fun j hj hp K hK => ?_
  · have r0 : restZ S 0 = S.take 40 := rfl
    simp only [r0]
    refine ⟨rfl, ⟨[], by simp only [List.append_nil]⟩, ?_, ⟨trivial, trivial, trivial⟩, avlts_is _ _, avlts_is _ _, trivial⟩
    simp only [keeps, avlt, avlts, blksLt, frL, upd_get, S1, simprocAttr, List.length_map, Int.natCast_zero, AV.p.injEq, PV.int.injEq, PV.bool.injEq, PV.sl.injEq] <;> (try and_intros) <;> (try assumption) <;> (try trivial) <;> (try omega)
  rcases Nat.lt_or_ge j fl.length with hlt | hge
  · have j0 : (0 : Int) ≤ (j : Int) := by omega
    have j40 : (j : Int) < 40 := by omega
    have jl : (j : Int) < (fl.length : Int) := by omega
    have hj41 : j + 1 ≤ 40 := by omega
    have rl := restZ_len hS (j := j) (by omega)
    have rs : ((restZ S j).map AV.i).set j (.p (.int .i64 0)) = (restZ S (j + 1)).map AV.i := by rw [setI_c, restZ_set hS (by omega)]
    repeat' (first | ((first | refine aops_nil ?_ | refine aqops_nil ?_); (try simp only [NB])) | ((repeat ((fail_if_success (refine hK _ ?_)); clear hK K)); refine hK _ ?_; clear hK K) | ((first | refine aops_k fun K1 hK1 => ?_ | refine aqops_k fun K1 hK1 => ?_ | refine awp_cond_k fun A B hA hB => ?_); simp only [S1, simprocAttr, TTToO, jl, next40 (n := fl.length) (by omega) hlt, j0, j40, hj41, rl, rs, hne, hS, all_scalar, takeA_arr, takeA_st, eqA, Q57, List.length_map, List.length_take, List.length_drop, Nat.mul_one, Nat.zero_add, Nat.add_zero, Int.toNat_natCast, and_self]; first | (refine hK1 _ ?_; clear hK1 K1) | ((first | refine hA ?_ | refine hB ?_); clear hA hB A B) | (refine join_x (v := ?_) (fun hg hk9 => ?_) ?_; rotate_left; (focus (try ((try simp only [BN] at hg); simp only [S1, simprocAttr, TTToO, jl, next40 (n := fl.length) (by omega) hlt, j0, j40, hj41, rl, rs, hne, hS, all_scalar, takeA_arr, takeA_st, eqA, Q57, List.length_map, List.length_take, List.length_drop, Nat.mul_one, Nat.zero_add, Nat.add_zero, Int.toNat_natCast, and_self, hg] at hk9 ⊢)); first | exact hk9); (refine hK1 _ ?_; clear hK1 K1)) | (((first | (refine ⟨fun hg => hA ?_, fun hg => hB ?_⟩ <;> clear hA hB A B) | refine ⟨fun hg => ?_, fun hg => ?_⟩) <;> (try simp only [BN2] at hg) <;> (try simp only [hg, cond_true, cond_false])) <;> (try (refine hK1 _ ?_; clear hK1 K1)) <;> (try simp only [BN3] at hg))) | (refine awp_seq_k fun K hK => ?_) | ((first | refine awp_region ?_ | refine awp_draw (by kernel_rfl) ?_ | refine awp_block ?_ | refine awp_exit ?_ | refine awp_skip ?_ | refine awp_ret ?_); (try simp only [NB, simprocAttr])))
    all_goals refine ⟨hlt, trivial, ?_⟩
    all_goals refine ⟨rfl, ⟨[], by simp only [List.append_nil]⟩, ?_, ⟨trivial, trivial, trivial⟩, avlts_is _ _, avlts_is _ _, trivial⟩
    all_goals simp only [keeps, avlt, avlts, blksLt, frL, upd_get, S1, simprocAttr, List.length_map, Int.natCast_zero, AV.p.injEq, PV.int.injEq, PV.bool.injEq, PV.sl.injEq] <;> (try and_intros) <;> (try assumption) <;> (try trivial) <;> (try omega)
  obtain rfl : j = fl.length := by omega
  have hok := okS_eq hS hf
  have hst : stC ns fl S = if okS fl.length S = true then 0 else 1 := by unfold stC; rw [if_neg (by simpa using h0)]
  rw [hok] at hst
  have hH : ∀ j, (h ++ [some ⟨0, cNet ns fl⟩, some ⟨0, S.map AV.i⟩, some ⟨0, (restZ S j).map AV.i⟩])[h.length + 1]? = some (some ⟨0, S.map AV.i⟩) := fun j => by simp [get_app]
  have hh1 := held_calls (G := gW) (off := 0) (n := 40) (hH fl.length) (by omega) (by omega)
  have hh2 := held_calls (G := gW) (off := 44) (n := 4) (hH fl.length) (by omega) (by omega)
  rw [List.drop_zero] at hh1
  have hf4 := fun h => fitsV_calls (G := gW) (vS S) h
  have eq0 := eqI (S := restZ S fl.length) (T := List.replicate 40 0) (by rw [restZ_len hS hf, List.length_replicate])
  generalize (restZ S fl.length == List.replicate 40 0) = z0 at eq0 hst
  simp only [List.replicate_succ, List.replicate_zero, List.map_cons, List.map_nil] at eq0
  have rl := restZ_len hS (j := fl.length) hf
  have ar := vS_arr hS
  have dm := dropI (at_get hS (k := 48) (by omega))
  have emd : S.getD 48 0 = mdS S := rfl
  rw [emd] at dm
  have rtk : ((restZ S fl.length).map AV.i).take 40 = (restZ S fl.length).map AV.i := List.take_of_length_le (by rw [List.length_map, rl]; exact Nat.le_refl _)
  generalize mdS S = v at hst dm
  cases z0 with
  | false =>
    repeat' (first | ((first | refine aops_nil ?_ | refine aqops_nil ?_); (try simp only [NB])) | ((repeat ((fail_if_success (refine hK _ ?_)); clear hK K)); refine hK _ ?_; clear hK K) | ((first | refine aops_k fun K1 hK1 => ?_ | refine aqops_k fun K1 hK1 => ?_ | refine awp_cond_k fun A B hA hB => ?_); simp only [S1, simprocAttr, TTToO, Int.lt_irrefl, eq0, rl, rtk, ar, dm,  hne, hS, all_scalar, takeA_arr, takeA_st, eqA, Q57, List.length_map, List.length_take, List.length_drop, Nat.mul_one, Nat.zero_add, Nat.add_zero, Int.toNat_natCast, and_self]; first | (refine hK1 _ ?_; clear hK1 K1) | ((first | refine hA ?_ | refine hB ?_); clear hA hB A B) | ((first | apply call_a E72 | apply call_q E72); exact hh1; (refine hK1 _ ?_; clear hK1 K1)) | ((first | apply call_a E72 | apply call_q E72); exact hh2; (refine hK1 _ ?_; clear hK1 K1)) | ((first | apply call_a E73 | apply call_q E73); exact (hf4 _); (refine hK1 _ ?_; clear hK1 K1)) | (refine join_x (v := ?_) (fun hg hk9 => ?_) ?_; rotate_left; (focus (try ((try simp only [BN] at hg); simp only [S1, simprocAttr, TTToO, Int.lt_irrefl, eq0, rl, rtk, ar, dm,  hne, hS, all_scalar, takeA_arr, takeA_st, eqA, Q57, List.length_map, List.length_take, List.length_drop, Nat.mul_one, Nat.zero_add, Nat.add_zero, Int.toNat_natCast, and_self, hg] at hk9 ⊢)); first | exact hk9 | ((first | apply call_a E72 | apply call_q E72); exact hh1; exact hk9) | ((first | apply call_a E72 | apply call_q E72); exact hh2; exact hk9) | ((first | apply call_a E73 | apply call_q E73); exact (hf4 _); exact hk9)); (refine hK1 _ ?_; clear hK1 K1)) | (((first | (refine ⟨fun hg => hA ?_, fun hg => hB ?_⟩ <;> clear hA hB A B) | refine ⟨fun hg => ?_, fun hg => ?_⟩) <;> (try simp only [BN2] at hg) <;> (try simp only [hg, cond_true, cond_false])) <;> (try (refine hK1 _ ?_; clear hK1 K1)) <;> (try simp only [BN3] at hg))) | (refine awp_seq_k fun K hK => ?_) | ((first | refine awp_region ?_ | refine awp_draw (by kernel_rfl) ?_ | refine awp_block ?_ | refine awp_exit ?_ | refine awp_skip ?_ | refine awp_ret ?_); (try simp only [NB, simprocAttr])))
    all_goals simp only [EndP, FinP, resA, resL, resA1, lastV, lastA, lastAs, pur, purs, take_app, List.take_length, S1, simprocAttr, TTToO, Nat.le_add_right, Nat.le_refl]
    all_goals rw [hst]; rfl
  | true =>
  cases f1 : okH (S.take 40) with
  | false =>
    rw [f1] at hst hh1
    repeat' (first | ((first | refine aops_nil ?_ | refine aqops_nil ?_); (try simp only [NB])) | ((repeat ((fail_if_success (refine hK _ ?_)); clear hK K)); refine hK _ ?_; clear hK K) | ((first | refine aops_k fun K1 hK1 => ?_ | refine aqops_k fun K1 hK1 => ?_ | refine awp_cond_k fun A B hA hB => ?_); simp only [S1, simprocAttr, TTToO, Int.lt_irrefl, eq0, rl, rtk, ar, dm,  hne, hS, all_scalar, takeA_arr, takeA_st, eqA, Q57, List.length_map, List.length_take, List.length_drop, Nat.mul_one, Nat.zero_add, Nat.add_zero, Int.toNat_natCast, and_self]; first | (refine hK1 _ ?_; clear hK1 K1) | ((first | refine hA ?_ | refine hB ?_); clear hA hB A B) | ((first | apply call_a E72 | apply call_q E72); exact hh1; (refine hK1 _ ?_; clear hK1 K1)) | ((first | apply call_a E72 | apply call_q E72); exact hh2; (refine hK1 _ ?_; clear hK1 K1)) | ((first | apply call_a E73 | apply call_q E73); exact (hf4 _); (refine hK1 _ ?_; clear hK1 K1)) | (refine join_x (v := ?_) (fun hg hk9 => ?_) ?_; rotate_left; (focus (try ((try simp only [BN] at hg); simp only [S1, simprocAttr, TTToO, Int.lt_irrefl, eq0, rl, rtk, ar, dm,  hne, hS, all_scalar, takeA_arr, takeA_st, eqA, Q57, List.length_map, List.length_take, List.length_drop, Nat.mul_one, Nat.zero_add, Nat.add_zero, Int.toNat_natCast, and_self, hg] at hk9 ⊢)); first | exact hk9 | ((first | apply call_a E72 | apply call_q E72); exact hh1; exact hk9) | ((first | apply call_a E72 | apply call_q E72); exact hh2; exact hk9) | ((first | apply call_a E73 | apply call_q E73); exact (hf4 _); exact hk9)); (refine hK1 _ ?_; clear hK1 K1)) | (((first | (refine ⟨fun hg => hA ?_, fun hg => hB ?_⟩ <;> clear hA hB A B) | refine ⟨fun hg => ?_, fun hg => ?_⟩) <;> (try simp only [BN2] at hg) <;> (try simp only [hg, cond_true, cond_false])) <;> (try (refine hK1 _ ?_; clear hK1 K1)) <;> (try simp only [BN3] at hg))) | (refine awp_seq_k fun K hK => ?_) | ((first | refine awp_region ?_ | refine awp_draw (by kernel_rfl) ?_ | refine awp_block ?_ | refine awp_exit ?_ | refine awp_skip ?_ | refine awp_ret ?_); (try simp only [NB, simprocAttr])))
    all_goals simp only [EndP, FinP, resA, resL, resA1, lastV, lastA, lastAs, pur, purs, take_app, List.take_length, S1, simprocAttr, TTToO, Nat.le_add_right, Nat.le_refl]
    all_goals rw [hst]; rfl
  | true =>
  rw [f1] at hst hh1
  cases f2 : okH ((S.drop 44).take 4) with
  | false =>
    rw [f2] at hst hh2
    repeat' (first | ((first | refine aops_nil ?_ | refine aqops_nil ?_); (try simp only [NB])) | ((repeat ((fail_if_success (refine hK _ ?_)); clear hK K)); refine hK _ ?_; clear hK K) | ((first | refine aops_k fun K1 hK1 => ?_ | refine aqops_k fun K1 hK1 => ?_ | refine awp_cond_k fun A B hA hB => ?_); simp only [S1, simprocAttr, TTToO, Int.lt_irrefl, eq0, rl, rtk, ar, dm,  hne, hS, all_scalar, takeA_arr, takeA_st, eqA, Q57, List.length_map, List.length_take, List.length_drop, Nat.mul_one, Nat.zero_add, Nat.add_zero, Int.toNat_natCast, and_self]; first | (refine hK1 _ ?_; clear hK1 K1) | ((first | refine hA ?_ | refine hB ?_); clear hA hB A B) | ((first | apply call_a E72 | apply call_q E72); exact hh1; (refine hK1 _ ?_; clear hK1 K1)) | ((first | apply call_a E72 | apply call_q E72); exact hh2; (refine hK1 _ ?_; clear hK1 K1)) | ((first | apply call_a E73 | apply call_q E73); exact (hf4 _); (refine hK1 _ ?_; clear hK1 K1)) | (refine join_x (v := ?_) (fun hg hk9 => ?_) ?_; rotate_left; (focus (try ((try simp only [BN] at hg); simp only [S1, simprocAttr, TTToO, Int.lt_irrefl, eq0, rl, rtk, ar, dm,  hne, hS, all_scalar, takeA_arr, takeA_st, eqA, Q57, List.length_map, List.length_take, List.length_drop, Nat.mul_one, Nat.zero_add, Nat.add_zero, Int.toNat_natCast, and_self, hg] at hk9 ⊢)); first | exact hk9 | ((first | apply call_a E72 | apply call_q E72); exact hh1; exact hk9) | ((first | apply call_a E72 | apply call_q E72); exact hh2; exact hk9) | ((first | apply call_a E73 | apply call_q E73); exact (hf4 _); exact hk9)); (refine hK1 _ ?_; clear hK1 K1)) | (((first | (refine ⟨fun hg => hA ?_, fun hg => hB ?_⟩ <;> clear hA hB A B) | refine ⟨fun hg => ?_, fun hg => ?_⟩) <;> (try simp only [BN2] at hg) <;> (try simp only [hg, cond_true, cond_false])) <;> (try (refine hK1 _ ?_; clear hK1 K1)) <;> (try simp only [BN3] at hg))) | (refine awp_seq_k fun K hK => ?_) | ((first | refine awp_region ?_ | refine awp_draw (by kernel_rfl) ?_ | refine awp_block ?_ | refine awp_exit ?_ | refine awp_skip ?_ | refine awp_ret ?_); (try simp only [NB, simprocAttr])))
    all_goals simp only [EndP, FinP, resA, resL, resA1, lastV, lastA, lastAs, pur, purs, take_app, List.take_length, S1, simprocAttr, TTToO, Nat.le_add_right, Nat.le_refl]
    all_goals rw [hst]; rfl
  | true =>
  rw [f2] at hst hh2
  cases f3 : inV (vS S) with
  | false =>
    rw [f3] at hst hf4
    repeat' (first | ((first | refine aops_nil ?_ | refine aqops_nil ?_); (try simp only [NB])) | ((repeat ((fail_if_success (refine hK _ ?_)); clear hK K)); refine hK _ ?_; clear hK K) | ((first | refine aops_k fun K1 hK1 => ?_ | refine aqops_k fun K1 hK1 => ?_ | refine awp_cond_k fun A B hA hB => ?_); simp only [S1, simprocAttr, TTToO, Int.lt_irrefl, eq0, rl, rtk, ar, dm,  hne, hS, all_scalar, takeA_arr, takeA_st, eqA, Q57, List.length_map, List.length_take, List.length_drop, Nat.mul_one, Nat.zero_add, Nat.add_zero, Int.toNat_natCast, and_self]; first | (refine hK1 _ ?_; clear hK1 K1) | ((first | refine hA ?_ | refine hB ?_); clear hA hB A B) | ((first | apply call_a E72 | apply call_q E72); exact hh1; (refine hK1 _ ?_; clear hK1 K1)) | ((first | apply call_a E72 | apply call_q E72); exact hh2; (refine hK1 _ ?_; clear hK1 K1)) | ((first | apply call_a E73 | apply call_q E73); exact (hf4 _); (refine hK1 _ ?_; clear hK1 K1)) | (refine join_x (v := ?_) (fun hg hk9 => ?_) ?_; rotate_left; (focus (try ((try simp only [BN] at hg); simp only [S1, simprocAttr, TTToO, Int.lt_irrefl, eq0, rl, rtk, ar, dm,  hne, hS, all_scalar, takeA_arr, takeA_st, eqA, Q57, List.length_map, List.length_take, List.length_drop, Nat.mul_one, Nat.zero_add, Nat.add_zero, Int.toNat_natCast, and_self, hg] at hk9 ⊢)); first | exact hk9 | ((first | apply call_a E72 | apply call_q E72); exact hh1; exact hk9) | ((first | apply call_a E72 | apply call_q E72); exact hh2; exact hk9) | ((first | apply call_a E73 | apply call_q E73); exact (hf4 _); exact hk9)); (refine hK1 _ ?_; clear hK1 K1)) | (((first | (refine ⟨fun hg => hA ?_, fun hg => hB ?_⟩ <;> clear hA hB A B) | refine ⟨fun hg => ?_, fun hg => ?_⟩) <;> (try simp only [BN2] at hg) <;> (try simp only [hg, cond_true, cond_false])) <;> (try (refine hK1 _ ?_; clear hK1 K1)) <;> (try simp only [BN3] at hg))) | (refine awp_seq_k fun K hK => ?_) | ((first | refine awp_region ?_ | refine awp_draw (by kernel_rfl) ?_ | refine awp_block ?_ | refine awp_exit ?_ | refine awp_skip ?_ | refine awp_ret ?_); (try simp only [NB, simprocAttr])))
    all_goals simp only [EndP, FinP, resA, resL, resA1, lastV, lastA, lastAs, pur, purs, take_app, List.take_length, S1, simprocAttr, TTToO, Nat.le_add_right, Nat.le_refl]
    all_goals rw [hst]; rfl
  | true =>
  rw [f3] at hst hf4
  by_cases h1 : v < 0
  · have f4 : decide (v < 0) = true := decide_eq_true h1
    have f5 : decide (0 ≤ v) = false := decide_eq_false (by omega)
    rw [f5] at hst
    repeat' (first | ((first | refine aops_nil ?_ | refine aqops_nil ?_); (try simp only [NB])) | ((repeat ((fail_if_success (refine hK _ ?_)); clear hK K)); refine hK _ ?_; clear hK K) | ((first | refine aops_k fun K1 hK1 => ?_ | refine aqops_k fun K1 hK1 => ?_ | refine awp_cond_k fun A B hA hB => ?_); simp only [S1, simprocAttr, TTToO, Int.lt_irrefl, eq0, rl, rtk, ar, dm, f4, hne, hS, all_scalar, takeA_arr, takeA_st, eqA, Q57, List.length_map, List.length_take, List.length_drop, Nat.mul_one, Nat.zero_add, Nat.add_zero, Int.toNat_natCast, and_self]; first | (refine hK1 _ ?_; clear hK1 K1) | ((first | refine hA ?_ | refine hB ?_); clear hA hB A B) | ((first | apply call_a E72 | apply call_q E72); exact hh1; (refine hK1 _ ?_; clear hK1 K1)) | ((first | apply call_a E72 | apply call_q E72); exact hh2; (refine hK1 _ ?_; clear hK1 K1)) | ((first | apply call_a E73 | apply call_q E73); exact (hf4 _); (refine hK1 _ ?_; clear hK1 K1)) | (refine join_x (v := ?_) (fun hg hk9 => ?_) ?_; rotate_left; (focus (try ((try simp only [BN] at hg); simp only [S1, simprocAttr, TTToO, Int.lt_irrefl, eq0, rl, rtk, ar, dm, f4, hne, hS, all_scalar, takeA_arr, takeA_st, eqA, Q57, List.length_map, List.length_take, List.length_drop, Nat.mul_one, Nat.zero_add, Nat.add_zero, Int.toNat_natCast, and_self, hg] at hk9 ⊢)); first | exact hk9 | ((first | apply call_a E72 | apply call_q E72); exact hh1; exact hk9) | ((first | apply call_a E72 | apply call_q E72); exact hh2; exact hk9) | ((first | apply call_a E73 | apply call_q E73); exact (hf4 _); exact hk9)); (refine hK1 _ ?_; clear hK1 K1)) | (((first | (refine ⟨fun hg => hA ?_, fun hg => hB ?_⟩ <;> clear hA hB A B) | refine ⟨fun hg => ?_, fun hg => ?_⟩) <;> (try simp only [BN2] at hg) <;> (try simp only [hg, cond_true, cond_false])) <;> (try (refine hK1 _ ?_; clear hK1 K1)) <;> (try simp only [BN3] at hg))) | (refine awp_seq_k fun K hK => ?_) | ((first | refine awp_region ?_ | refine awp_draw (by kernel_rfl) ?_ | refine awp_block ?_ | refine awp_exit ?_ | refine awp_skip ?_ | refine awp_ret ?_); (try simp only [NB, simprocAttr])))
    all_goals simp only [EndP, FinP, resA, resL, resA1, lastV, lastA, lastAs, pur, purs, take_app, List.take_length, S1, simprocAttr, TTToO, Nat.le_add_right, Nat.le_refl]
    all_goals rw [hst]; rfl
  have f4 : decide (v < 0) = false := decide_eq_false h1
  have f5 : decide (0 ≤ v) = true := decide_eq_true (by omega)
  by_cases h2 : 2 < v
  · have f6 : decide (2 < v) = true := decide_eq_true h2
    have f7 : decide (v ≤ 2) = false := decide_eq_false (by omega)
    rw [f5, f7] at hst
    repeat' (first | ((first | refine aops_nil ?_ | refine aqops_nil ?_); (try simp only [NB])) | ((repeat ((fail_if_success (refine hK _ ?_)); clear hK K)); refine hK _ ?_; clear hK K) | ((first | refine aops_k fun K1 hK1 => ?_ | refine aqops_k fun K1 hK1 => ?_ | refine awp_cond_k fun A B hA hB => ?_); simp only [S1, simprocAttr, TTToO, Int.lt_irrefl, eq0, rl, rtk, ar, dm, f4, f6, hne, hS, all_scalar, takeA_arr, takeA_st, eqA, Q57, List.length_map, List.length_take, List.length_drop, Nat.mul_one, Nat.zero_add, Nat.add_zero, Int.toNat_natCast, and_self]; first | (refine hK1 _ ?_; clear hK1 K1) | ((first | refine hA ?_ | refine hB ?_); clear hA hB A B) | ((first | apply call_a E72 | apply call_q E72); exact hh1; (refine hK1 _ ?_; clear hK1 K1)) | ((first | apply call_a E72 | apply call_q E72); exact hh2; (refine hK1 _ ?_; clear hK1 K1)) | ((first | apply call_a E73 | apply call_q E73); exact (hf4 _); (refine hK1 _ ?_; clear hK1 K1)) | (refine join_x (v := ?_) (fun hg hk9 => ?_) ?_; rotate_left; (focus (try ((try simp only [BN] at hg); simp only [S1, simprocAttr, TTToO, Int.lt_irrefl, eq0, rl, rtk, ar, dm, f4, f6, hne, hS, all_scalar, takeA_arr, takeA_st, eqA, Q57, List.length_map, List.length_take, List.length_drop, Nat.mul_one, Nat.zero_add, Nat.add_zero, Int.toNat_natCast, and_self, hg] at hk9 ⊢)); first | exact hk9 | ((first | apply call_a E72 | apply call_q E72); exact hh1; exact hk9) | ((first | apply call_a E72 | apply call_q E72); exact hh2; exact hk9) | ((first | apply call_a E73 | apply call_q E73); exact (hf4 _); exact hk9)); (refine hK1 _ ?_; clear hK1 K1)) | (((first | (refine ⟨fun hg => hA ?_, fun hg => hB ?_⟩ <;> clear hA hB A B) | refine ⟨fun hg => ?_, fun hg => ?_⟩) <;> (try simp only [BN2] at hg) <;> (try simp only [hg, cond_true, cond_false])) <;> (try (refine hK1 _ ?_; clear hK1 K1)) <;> (try simp only [BN3] at hg))) | (refine awp_seq_k fun K hK => ?_) | ((first | refine awp_region ?_ | refine awp_draw (by kernel_rfl) ?_ | refine awp_block ?_ | refine awp_exit ?_ | refine awp_skip ?_ | refine awp_ret ?_); (try simp only [NB, simprocAttr])))
    all_goals simp only [EndP, FinP, resA, resL, resA1, lastV, lastA, lastAs, pur, purs, take_app, List.take_length, S1, simprocAttr, TTToO, Nat.le_add_right, Nat.le_refl]
    all_goals rw [hst]; rfl
  have f6 : decide (2 < v) = false := decide_eq_false h2
  have f7 : decide (v ≤ 2) = true := decide_eq_true (by omega)
  rw [f5, f7] at hst
  repeat' (first | ((first | refine aops_nil ?_ | refine aqops_nil ?_); (try simp only [NB])) | ((repeat ((fail_if_success (refine hK _ ?_)); clear hK K)); refine hK _ ?_; clear hK K) | ((first | refine aops_k fun K1 hK1 => ?_ | refine aqops_k fun K1 hK1 => ?_ | refine awp_cond_k fun A B hA hB => ?_); simp only [S1, simprocAttr, TTToO, Int.lt_irrefl, eq0, rl, rtk, ar, dm, f4, f6, hne, hS, all_scalar, takeA_arr, takeA_st, eqA, Q57, List.length_map, List.length_take, List.length_drop, Nat.mul_one, Nat.zero_add, Nat.add_zero, Int.toNat_natCast, and_self]; first | (refine hK1 _ ?_; clear hK1 K1) | ((first | refine hA ?_ | refine hB ?_); clear hA hB A B) | ((first | apply call_a E72 | apply call_q E72); exact hh1; (refine hK1 _ ?_; clear hK1 K1)) | ((first | apply call_a E72 | apply call_q E72); exact hh2; (refine hK1 _ ?_; clear hK1 K1)) | ((first | apply call_a E73 | apply call_q E73); exact (hf4 _); (refine hK1 _ ?_; clear hK1 K1)) | (refine join_x (v := ?_) (fun hg hk9 => ?_) ?_; rotate_left; (focus (try ((try simp only [BN] at hg); simp only [S1, simprocAttr, TTToO, Int.lt_irrefl, eq0, rl, rtk, ar, dm, f4, f6, hne, hS, all_scalar, takeA_arr, takeA_st, eqA, Q57, List.length_map, List.length_take, List.length_drop, Nat.mul_one, Nat.zero_add, Nat.add_zero, Int.toNat_natCast, and_self, hg] at hk9 ⊢)); first | exact hk9 | ((first | apply call_a E72 | apply call_q E72); exact hh1; exact hk9) | ((first | apply call_a E72 | apply call_q E72); exact hh2; exact hk9) | ((first | apply call_a E73 | apply call_q E73); exact (hf4 _); exact hk9)); (refine hK1 _ ?_; clear hK1 K1)) | (((first | (refine ⟨fun hg => hA ?_, fun hg => hB ?_⟩ <;> clear hA hB A B) | refine ⟨fun hg => ?_, fun hg => ?_⟩) <;> (try simp only [BN2] at hg) <;> (try simp only [hg, cond_true, cond_false])) <;> (try (refine hK1 _ ?_; clear hK1 K1)) <;> (try simp only [BN3] at hg))) | (refine awp_seq_k fun K hK => ?_) | ((first | refine awp_region ?_ | refine awp_draw (by kernel_rfl) ?_ | refine awp_block ?_ | refine awp_exit ?_ | refine awp_skip ?_ | refine awp_ret ?_); (try simp only [NB, simprocAttr])))
  all_goals simp only [EndP, FinP, resA, resL, resA1, lastV, lastA, lastAs, pur, purs, take_app, List.take_length, S1, simprocAttr, TTToO, Nat.le_add_right, Nat.le_refl]
  all_goals rw [hst]; rfl
end Go.Proofs.YtbbmfemplmelhaaGreatDoor.AM
end

section
set_option linter.unusedVariables false
set_option linter.unusedSimpArgs false
namespace Go.Proofs.YtbbmfemplmelhaaGreatDoor.AM
open Go Go.Proofs

/-- The tokens of a state, as a function. -/
def tokF (S : List Int) : Int → Int := fun i => if 0 ≤ i ∧ i < 40 then tk S i else 0
def listF (t : Int → Int) : List Int := (List.range 40).map fun (i : Nat) => t (i : Int)
theorem listF_tokF {S : List Int} (hS : S.length = 49) : listF (tokF S) = S.take 40 := by
  apply List.ext_getElem?
  intro i
  unfold listF
  rw [List.getElem?_map]
  rcases Nat.lt_or_ge i 40 with hi | hi
  · rw [List.getElem?_range hi, List.getElem?_take_of_lt hi, at_get hS (by omega)]
    unfold tokF
    rw [Option.map_some, if_pos ⟨by omega, by omega⟩]; rfl
  · rw [List.getElem?_eq_none (by simpa using hi), List.getElem?_eq_none (by rw [List.length_take]; omega)]; rfl

structure RelT (S : List Int) (t : Int → Int) : Prop where
  len : S.length = 49
  eq : ∀ i : Int, 0 ≤ i → i < 40 → tk S i = t i
theorem RelT.tokF {S : List Int} (hS : S.length = 49) : RelT S (tokF S) := ⟨hS, fun i h0 h1 => by unfold AM.tokF; rw [if_pos ⟨h0, h1⟩]⟩
theorem RelT.take {S : List Int} {t : Int → Int} (h : RelT S t) : S.take 40 = listF t := by
  rw [← listF_tokF h.len]
  unfold listF
  apply List.map_congr_left
  intro i hi
  have := List.mem_range.mp hi
  unfold AM.tokF
  rw [if_pos ⟨by omega, by omega⟩, h.eq _ (by omega) (by omega)]
theorem RelT.set {S : List Int} {t : Int → Int} (h : RelT S t) {f v : Int} (h0 : 0 ≤ f) (h1 : f < 40) : RelT (S.set f.toNat v) (setT t f v) := by
  have hl := h.len
  refine ⟨by rw [List.length_set, hl], fun i i0 i1 => ?_⟩
  unfold tk setT
  rw [List.getD_eq_getElem?_getD, List.getElem?_set]
  by_cases e : i = f
  · subst e; rw [if_pos rfl, if_pos rfl, if_pos (by omega)]; rfl
  · rw [if_neg (by omega), if_neg e, ← List.getD_eq_getElem?_getD]
    exact h.eq i i0 i1
end Go.Proofs.YtbbmfemplmelhaaGreatDoor.AM
end

section
set_option linter.unusedVariables false
namespace Go.Proofs.YtbbmfemplmelhaaGreatDoor.AM
open Go Go.Proofs Go.Sort

/-- k whole numbers. -/
abbrev Rec (k : Nat) := {l : List Int // l.length = k ∧ ∀ n ∈ l, InRange .i64 n}
theorem zero_in : InRange .i64 0 := by constructor <;> decide
instance (k : Nat) : Inhabited (Rec k) := ⟨⟨List.replicate k 0, by simp, fun n hn => by rw [List.eq_of_mem_replicate hn]; exact zero_in⟩⟩
def encR {k : Nat} (x : Rec k) : List Value := x.1.map (.int .i64)
def cellR {k : Nat} (x : Rec k) : List AV := x.1.map AV.i

/-- The worlds that a sort passes through. -/
def sortW (k : Nat) (w : World) (blk off m : Nat) (d : Array (Rec k)) (os : Array Obj) : World := grow (putRowK encR k (Sort.ahead w m) blk off d) os

/-- What the shelf tells of slices.SortFunc. -/
def SortsK (P : Program) (f g : FuncId) (k : Nat) : Prop :=
  ∀ cf : Rec k → Rec k → Int, SWO (fun x y => decide (cf x y < 0)) → ∀ (blk off cap : Nat) (d : Array (Rec k)) (w : World),
    (∀ (m : Nat) (os : Array Obj) (dk : Array (Rec k)), dk.size = d.size → ∀ x y : Rec k,
      Calls P g #[.agg (encR x).toArray, .agg (encR y).toArray] (sortW k w blk off m dk os) fun e w' => e = .returned (.int .i64 (cf x y)) ∧ ∃ q os', w' = grow ((sortW k w blk off m dk os).drewN q) os') →
    HoldsK encR k w blk off d → blk < w.heap.size → d.size < 4611686018427387904 →
    Calls P f #[.slice (some ⟨blk, off, none⟩) d.size cap, .func (.func g) #[] #[]] w fun e w' =>
      e = .returned (.tuple #[]) ∧ ∃ d' n os, PermIn 0 d.size d d' ∧ SortedIn (fun x y => decide (cf x y < 0)) 0 d.size d' ∧ w' = sortW k w blk off n d' os

theorem flat_len {k : Nat} : ∀ rows : List (Rec k), (rows.flatMap cellR).length = rows.length * k
  | [] => by simp
  | r :: rs => by
    rw [List.flatMap_cons, List.length_append, flat_len rs, List.length_cons, Nat.add_mul, Nat.one_mul, Nat.add_comm]
    congr 1
    rw [cellR, List.length_map, r.2.1]

theorem flat_at {k : Nat} (hk : 0 < k) : ∀ (rows : List (Rec k)) (j : Nat), j < rows.length * k → ∃ r n, rows[j / k]? = some r ∧ r.1[j % k]? = some n ∧ (rows.flatMap cellR)[j]? = some (AV.i n)
  | [], j, h => by simp at h
  | r :: rs, j, h => by
    rw [List.flatMap_cons]
    have hl : (cellR r).length = k := by rw [cellR, List.length_map, r.2.1]
    rcases Nat.lt_or_ge j k with hj | hj
    · have h1 : j < r.1.length := by rw [r.2.1]; exact hj
      refine ⟨r, r.1[j], ?_, ?_, ?_⟩
      · rw [Nat.div_eq_of_lt hj]; rfl
      · rw [Nat.mod_eq_of_lt hj]; exact List.getElem?_eq_getElem h1
      · rw [List.getElem?_append_left (by rw [hl]; exact hj), cellR, List.getElem?_map, List.getElem?_eq_getElem h1]; rfl
    · have h2 : j - k < rs.length * k := by rw [List.length_cons, Nat.add_mul, Nat.one_mul] at h; omega
      obtain ⟨r', n, p1, p2, p3⟩ := flat_at hk rs (j - k) h2
      have e1 : j / k = (j - k) / k + 1 := by rw [Nat.div_eq j k, if_pos ⟨hk, hj⟩]
      have e2 : j % k = (j - k) % k := Nat.mod_eq_sub_mod hj
      refine ⟨r', n, ?_, ?_, ?_⟩
      · rw [e1, List.getElem?_cons_succ]; exact p1
      · rw [e2]; exact p2
      · rw [List.getElem?_append_right (by rw [hl]; exact hj), hl]; exact p3

theorem flatK_at {k : Nat} (hk : 0 < k) (d : Array (Rec k)) (j : Nat) (h : j < d.size * k) : ∃ n, (flatK encR k d)[j]! = .int .i64 n ∧ InRange .i64 n ∧ (d.toList.flatMap cellR)[j]? = some (AV.i n) := by
  obtain ⟨r, n, p1, p2, p3⟩ := flat_at hk d.toList j (by simpa using h)
  refine ⟨n, ?_, r.2.2 n (List.mem_of_getElem? p2), p3⟩
  rw [get_flatK _ _ _ _ h]
  have e1 : d[j / k]! = r := by
    rw [Array.getElem?_toList] at p1
    rw [getElem!_def, p1]
  rw [e1, encR]
  have : (r.1.map (Value.int .i64))[j % k]? = some (.int .i64 n) := by rw [List.getElem?_map, p2]; rfl
  simp [List.getElem!_eq_getElem?_getD, this]

theorem sortW_other {k : Nat} (w : World) (blk off m : Nat) (d : Array (Rec k)) (os : Array Obj) (q : Nat) (hq : q < w.heap.size) (hne : q ≠ blk) : (sortW k w blk off m d os).heap[q]? = w.heap[q]? := by
  have hs : (putRowK encR k (Sort.ahead w m) blk off d).heap.size = w.heap.size := size_putRow ..
  show ((putRowK encR k (Sort.ahead w m) blk off d).heap ++ os)[q]? = _
  rw [Array.getElem?_append_left (by rw [hs]; exact hq)]
  show ((Sort.ahead w m).heap.modify blk _)[q]? = _
  rw [Array.getElem?_modify, if_neg (Ne.symm hne)]
  rfl

theorem sortW_size {k : Nat} (w : World) (blk off m : Nat) (d : Array (Rec k)) (os : Array Obj) : w.heap.size ≤ (sortW k w blk off m d os).heap.size := by
  have hs : (putRowK encR k (Sort.ahead w m) blk off d).heap.size = w.heap.size := size_putRow ..
  show _ ≤ ((putRowK encR k (Sort.ahead w m) blk off d).heap ++ os).size
  rw [Array.size_append, hs]
  exact Nat.le_add_right _ _

theorem sortW_blk {k : Nat} (w : World) (blk off m : Nat) (d : Array (Rec k)) (os : Array Obj) {c : Array Value} {ty : TypeId} {fr : Nat × Nat} (hc : w.heap[blk]? = some (.cells c ty fr)) :
    (sortW k w blk off m d os).heap[blk]? = some (.cells (putCells id off (flatK encR k d) c) ty fr) := by
  have hs : (putRowK encR k (Sort.ahead w m) blk off d).heap.size = w.heap.size := size_putRow ..
  have hb : blk < w.heap.size := lt_of_heap hc
  show ((putRowK encR k (Sort.ahead w m) blk off d).heap ++ os)[blk]? = _
  rw [Array.getElem?_append_left (by rw [hs]; exact hb)]
  show ((Sort.ahead w m).heap.modify blk _)[blk]? = _
  rw [Array.getElem?_modify, if_pos rfl]
  show w.heap[blk]?.map _ = _
  rw [hc]
  rfl

section
variable {P : Program} {G : Nat → Option (List PV)}

/-- A world that kept all blocks that were there, with draws and new blocks alone. -/
theorem grown_of {w w' : World} (hs : w.heap.size ≤ w'.heap.size) (hk : ∀ q, q < w.heap.size → w'.heap[q]? = w.heap[q]?) (ho : w'.os = w.os) (hu : w'.output = w.output) (ht : w'.tape = w.tape) (hd : w.drawn ≤ w'.drawn) :
    ∃ q os', w' = grow (w.drewN q) os' := by
  refine ⟨w'.drawn - w.drawn, w'.heap.extract w.heap.size w'.heap.size, ?_⟩
  have hh : w'.heap = w.heap ++ w'.heap.extract w.heap.size w'.heap.size := by
    apply Array.ext_getElem?
    intro i
    rcases Nat.lt_or_ge i w.heap.size with hi | hi
    · rw [Array.getElem?_append_left hi, hk i hi]
    · rw [Array.getElem?_append_right hi, Array.getElem?_extract]
      split
      · congr 1; omega
      · rw [Array.getElem?_eq_none]; omega
  cases w' with
  | mk h t d o u =>
    simp only at hh ho hu ht hd
    subst ho hu ht
    unfold grow World.drewN
    simp only
    rw [← hh, Nat.add_sub_cancel' hd]

theorem sort_calls {f g : FuncId} {k : Nat} (hk : 0 < k) (hs : SortsK P f g k) (cf : List Int → List Int → Int)
    (hswo : SWO (fun x y : Rec k => decide (cf x.1 y.1 < 0)))
    (hc : ∀ x y : Rec k, ACalls P G g [.agg (cellR x), .agg (cellR y)] [] fun r h' => r = .i (cf x.1 y.1))
    {h : Heap} {b gg off : Nat} {pre post : List AV} {rows : List (Rec k)} (hb : h[b]? = some (some ⟨gg, pre ++ (rows.flatMap cellR ++ post)⟩)) (hoff : pre.length = off) (hne : rows ≠ []) (hn : rows.length < 4611686018427387904) :
    ACalls P G f [.ref b gg off k rows.length, .fn g []] h fun r h' => r = .undef ∧ ∃ rows' : List (Rec k), rows'.Perm rows ∧ rows'.Pairwise (fun x y => ¬ cf y.1 x.1 < 0) ∧
      h' = h.set b (some ⟨gg, pre ++ (rows'.flatMap cellR ++ post)⟩) := by
  intro ι w vs hS hv
  obtain ⟨hl, hv⟩ := hv
  have hl2 : vs.size = 2 := by simpa using hl.symm
  obtain ⟨v0, v1, rfl⟩ : ∃ v0 v1, vs = #[v0, v1] := by
    obtain ⟨l⟩ := vs
    match l, hl2 with
    | [a, b], _ => exact ⟨a, b, rfl⟩
  have h0 := hv 0 _ v0 rfl rfl
  have h1 := hv 1 _ v1 rfl rfl
  have hpos : 0 < rows.length := List.length_pos_iff.mpr hne
  have hblt : b < h.length := by
    rcases Nat.lt_or_ge b h.length with hq | hq
    · exact hq
    · rw [List.getElem?_eq_none hq] at hb; simp at hb
  have hfl : (rows.flatMap cellR).length = rows.length * k := flat_len rows
  have hcne : (pre ++ (rows.flatMap cellR ++ post)) ≠ [] := by
    intro e
    have := congrArg List.length e
    simp only [List.length_append, hfl, List.length_nil] at this
    have : 0 < rows.length * k := Nat.mul_pos hpos hk
    omega
  have hown : own ι h (ι b).1 := ⟨b, _, hb, hcne, rfl⟩
  have hd : rows.toArray.size = rows.length := by simp
  cases h1 with
  | fn _ _ vs1 hl1 hv1 =>
  have : vs1 = #[] := by
    have : vs1.size = 0 := by simpa using hl1.symm
    exact Array.eq_empty_of_size_eq_zero this
  subst this
  cases h0 with
  | ref _ _ _ _ _ A c hn0 hb0 hg0 hv0 =>
  rcases hv0 ⟨_, hb, rfl⟩ with ⟨hz, _⟩ | ⟨rfl, _, _, _, _, _, hcc, _⟩
  · omega
  obtain ⟨c0, ty, hc0, hlc, hcell⟩ := (hS.hr.blk b _ hb hcne).cells hcc
  simp only [List.length_append, hfl] at hlc
  -- how the row lies
  have hold : HoldsK encR k w (ι b).1 ((ι b).2 + off) rows.toArray := by
    intro j hj
    rw [size_flatK, hd] at hj
    obtain ⟨n, p1, p2, p3⟩ := flatK_at hk rows.toArray j (by rw [hd]; exact hj)
    obtain ⟨v, q1, q2⟩ := hcell (off + j) (AV.i n) (by
      rw [List.getElem?_append_right (by omega), hoff, Nat.add_sub_cancel_left, List.getElem?_append_left (by omega)]
      exact p3)
    obtain ⟨rfl, _⟩ := q2.int_inv
    refine ⟨?_, ?_⟩
    · unfold World.cell?
      simp only [hc0]
      rw [Nat.add_assoc, q1, id, p1]
      rfl
    · unfold World.frozen?
      simp only [hc0]
      simp
  have hblk : (ι b).1 < w.heap.size := lt_of_heap hc0
  have hcmp : ∀ (m : Nat) (os : Array Obj) (dk : Array (Rec k)), dk.size = rows.toArray.size → ∀ x y : Rec k,
      Calls P g #[.agg (encR x).toArray, .agg (encR y).toArray] (sortW k w (ι b).1 ((ι b).2 + off) m dk os) fun e w' => e = .returned (.int .i64 (cf x.1 y.1)) ∧ ∃ q os', w' = grow ((sortW k w (ι b).1 ((ι b).2 + off) m dk os).drewN q) os' := by
    intro m os dk hdk x y
    have hW0 : SimH P G ι [] (sortW k w (ι b).1 ((ι b).2 + off) m dk os) := by
      refine ⟨⟨fun b bk hb => by simp at hb, fun b b' bk bk' hb => by simp at hb⟩, fun g' cells hg => (hS.gr g' cells hg).mono (sortW_size ..) fun q hq ho => ⟨sortW_other _ _ _ _ _ _ q hq (fun e => ho (e ▸ hown)), ?_⟩⟩
      rintro ⟨b', bk, hb', _⟩
      simp at hb'
    have hagg : ∀ x : Rec k, VRel ι [] (sortW k w (ι b).1 ((ι b).2 + off) m dk os) (.agg (cellR x)) (.agg (encR x).toArray) := by
      intro x
      refine .agg _ _ (by simp [cellR, encR]) fun i u v hu hv => ?_
      simp only [cellR, encR, List.getElem?_map, List.getElem?_toArray] at hu hv
      cases hq : x.1[i]? with
      | none => rw [hq] at hu; simp at hu
      | some n =>
        rw [hq] at hu hv
        simp only [Option.map_some, Option.some.injEq] at hu hv
        subst hu hv
        exact .p _ _ (.int _ _ (x.2.2 n (List.mem_of_getElem? hq)))
    refine (hc x y ι _ _ hW0 ⟨rfl, fun i u v hu hv => ?_⟩).mono ?_
    · match i, hu, hv with
      | 0, hu, hv => simp at hu hv; subst hu hv; exact hagg x
      | 1, hu, hv => simp at hu hv; subst hu hv; exact hagg y
    · rintro e w' ⟨v, r, h', ι', rfl, rfl, hS', hvr, hev⟩
      obtain ⟨rfl, _⟩ := hvr.int_inv
      refine ⟨rfl, grown_of hev.size (fun q hq => (hev.keep q hq (by rintro ⟨b', bk, hb', _⟩; simp at hb')).1) hev.os hev.output hev.tape hev.drawn⟩
  have key := hs (fun x y => cf x.1 y.1) hswo (ι b).1 ((ι b).2 + off) c rows.toArray w hcmp hold hblk (by rw [hd]; exact hn)
  rw [hd] at key
  refine key.mono ?_
  rintro e w' ⟨rfl, d', n, os, ⟨hsz, _, hperm⟩, hsort, rfl⟩
  rw [hd] at hsz
  have hperm' : d'.toList.Perm rows := by
    have e1 : d'.extract 0 rows.length = d' := by rw [← hsz]; exact Array.extract_size
    have e2 : rows.toArray.extract 0 rows.length = rows.toArray := by rw [← hd]; exact Array.extract_size
    rw [e1, e2] at hperm
    exact hperm
  have hlen' : d'.toList.length = rows.length := by simpa using hsz
  have hfl' : (d'.toList.flatMap cellR).length = rows.length * k := by rw [flat_len, hlen']
  have hcne' : (pre ++ (d'.toList.flatMap cellR ++ post)) ≠ [] := by
    intro e
    have := congrArg List.length e
    simp only [List.length_append, hfl', List.length_nil] at this
    have : 0 < rows.length * k := Nat.mul_pos hpos hk
    omega
  have hsF : (flatK encR k d').size = rows.length * k := by rw [size_flatK, hsz]
  obtain ⟨u1, u2⟩ := hS.upd (h' := h.set b (some ⟨gg, pre ++ (d'.toList.flatMap cellR ++ post)⟩)) (ι' := ι) (w' := sortW k w (ι b).1 ((ι b).2 + off) n d' os) b
    ⟨gg, pre ++ (d'.toList.flatMap cellR ++ post)⟩ (ι b).1 (ι b).2 (putCells id ((ι b).2 + off) (flatK encR k d') c0) ty (.inr ⟨hblt, ⟨_, hb, Nat.le_refl _⟩, rfl⟩)
    (fun i => by split <;> rename_i q <;> first | (subst q; rfl) | rfl) (.inr ⟨_, hb, hcne, rfl, fun cs ty' fr hq => by rw [hc0] at hq; cases hq; simp [putCells]⟩) hcne'
    (sortW_blk _ _ _ _ _ _ hc0) (by simp only [putCells, Array.size_mapIdx, List.length_append, hfl']; exact hlc) (fun j x hx => by
      have hjl : j < pre.length + (rows.length * k + post.length) := by
        rcases Nat.lt_or_ge j (pre.length + (rows.length * k + post.length)) with hq | hq
        · exact hq
        · rw [List.getElem?_eq_none (by simp only [List.length_append, hfl']; exact hq)] at hx; simp at hx
      have hin : (ι b).2 + j < c0.size := by omega
      have hp : (putCells id ((ι b).2 + off) (flatK encR k d') c0)[(ι b).2 + j]? = some (if (ι b).2 + off ≤ (ι b).2 + j ∧ (ι b).2 + j < (ι b).2 + off + rows.length * k then (flatK encR k d')[(ι b).2 + j - ((ι b).2 + off)]! else c0[(ι b).2 + j]) := by
        simp only [putCells, Array.getElem?_mapIdx, Array.getElem?_eq_getElem hin, Option.map_some, hsF, id]
      rw [hp]
      rcases Nat.lt_or_ge j off with a | a
      · rw [if_neg (by omega)]
        rw [List.getElem?_append_left (by omega)] at hx
        obtain ⟨v, q1, q2⟩ := hcell j x (by rw [List.getElem?_append_left (by omega)]; exact hx)
        rw [Array.getElem?_eq_getElem hin] at q1
        exact ⟨_, rfl, by cases q1; exact q2⟩
      rcases Nat.lt_or_ge j (off + rows.length * k) with a2 | a2
      · rw [if_pos (by omega)]
        rw [List.getElem?_append_right (by omega), List.getElem?_append_left (by rw [hfl']; omega)] at hx
        obtain ⟨m, p1, p2, p3⟩ := flatK_at hk d' (j - off) (by rw [hsz]; omega)
        rw [hoff] at hx
        rw [p3] at hx
        cases hx
        refine ⟨_, rfl, ?_⟩
        rw [show (ι b).2 + j - ((ι b).2 + off) = j - off by omega, p1]
        exact .p _ _ (.int _ _ p2)
      · rw [if_neg (by omega)]
        rw [List.getElem?_append_right (by omega), List.getElem?_append_right (by rw [hfl']; omega), hfl'] at hx
        obtain ⟨v, q1, q2⟩ := hcell j x (by rw [List.getElem?_append_right (by omega), List.getElem?_append_right (by rw [hfl]; omega), hfl]; exact hx)
        rw [Array.getElem?_eq_getElem hin] at q1
        exact ⟨_, rfl, by cases q1; exact q2⟩)
    (sortW_size ..) (fun q hq hqn => sortW_other _ _ _ _ _ _ q hq hqn) (fun bk hbk _ => rfl) rfl rfl rfl (show w.drawn ≤ w.drawn + n from Nat.le_add_right _ _)
  refine ⟨_, .undef, _, ι, rfl, ⟨rfl, d'.toList, hperm', ?_, rfl⟩, u1, .tup _ _ rfl (fun i x v hx => by simp at hx), u2⟩
  rw [List.pairwise_iff_getElem]
  intro i j hi hj hij
  have hj' : j < rows.length := by rw [hlen'] at hj; exact hj
  have := hsort i j (Nat.zero_le _) hij hj'
  simp only [Array.length_toList] at hi hj
  rw [getElem!_pos d' i hi, getElem!_pos d' j hj] at this
  simpa using of_decide_eq_false this

theorem recs_of {k : Nat} (rows : List (List Int)) (hr : ∀ r ∈ rows, r.length = k ∧ ∀ n ∈ r, InRange .i64 n) : ∃ R : List (Rec k), R.map (·.1) = rows ∧ R.flatMap cellR = rows.flatMap (·.map AV.i) := by
  have h1 : (rows.attachWith _ hr).map (·.1) = rows := by simp
  refine ⟨rows.attachWith _ hr, h1, ?_⟩
  have h2 : ∀ R : List (Rec k), R.flatMap cellR = (R.map (·.1)).flatMap (·.map AV.i) := fun R => by rw [List.flatMap_map]; rfl
  rw [h2, h1]

/-- The same of lists of whole numbers. -/
theorem sort_lists {f g : FuncId} {k : Nat} (hk : 0 < k) (hs : SortsK P f g k) (cf : List Int → List Int → Int)
    (hswo : SWO (fun x y : Rec k => decide (cf x.1 y.1 < 0)))
    (hc : ∀ x y : Rec k, ACalls P G g [.agg (cellR x), .agg (cellR y)] [] fun r h' => r = .i (cf x.1 y.1))
    {h : Heap} {b gg off : Nat} {pre post : List AV} {rows : List (List Int)} (hb : h[b]? = some (some ⟨gg, pre ++ (rows.flatMap (·.map AV.i) ++ post)⟩)) (hoff : pre.length = off) (hne : rows ≠ []) (hn : rows.length < 4611686018427387904)
    (hr : ∀ r ∈ rows, r.length = k ∧ ∀ n ∈ r, InRange .i64 n)
    {out : List (List Int)} (ho : out.Perm rows) (hso : out.Pairwise fun x y => ¬ cf y x < 0) (hanti : ∀ x y, x ∈ rows → y ∈ rows → ¬ cf y x < 0 → ¬ cf x y < 0 → x = y) :
    ACalls P G f [.ref b gg off k rows.length, .fn g []] h fun r h' => r = .undef ∧ h' = h.set b (some ⟨gg, pre ++ (out.flatMap (·.map AV.i) ++ post)⟩) := by
  obtain ⟨R, e1, e2⟩ := recs_of rows hr
  have hl : R.length = rows.length := by rw [← e1, List.length_map]
  have key := sort_calls (G := G) hk hs cf hswo hc (h := h) (b := b) (gg := gg) (off := off) (pre := pre) (post := post) (rows := R) (by rw [e2]; exact hb) hoff (fun e => hne (by rw [← e1, e]; rfl)) (by rw [hl]; exact hn)
  rw [hl] at key
  intro ι w vs hS hv
  refine (key ι w vs hS hv).mono ?_
  rintro e w' ⟨v, r, h', ι', he, ⟨rfl, R', hp, hpw, rfl⟩, q1, q2, q3⟩
  have hout : R'.map (·.1) = out := by
    have p1 : (R'.map (·.1)).Perm rows := by rw [← e1]; exact hp.map _
    refine List.Perm.eq_of_pairwise (le := fun x y => ¬ cf y x < 0) (fun x y hx hy a1 a2 => hanti x y (p1.mem_iff.mp hx) (ho.mem_iff.mp hy) a1 a2) ?_ hso (p1.trans ho.symm)
    rw [List.pairwise_map]
    exact hpw
  have h2 : R'.flatMap cellR = out.flatMap (·.map AV.i) := by rw [← hout, List.flatMap_map]; rfl
  rw [h2] at q1 q2 q3
  exact ⟨v, _, _, ι', he, ⟨rfl, rfl⟩, q1, q2, q3⟩

/-! ### sync/atomic of one goroutine: what the library's two methods do, as calls of ours. -/
end
end Go.Proofs.YtbbmfemplmelhaaGreatDoor.AM
end

section
set_option linter.unusedVariables false
set_option linter.unusedSimpArgs false
namespace Go.Proofs.YtbbmfemplmelhaaGreatDoor.AM
open Go Go.Proofs Go.Sort

abbrev Sv := List Int
/-- One more, if it is not there. -/
def addO (out : List Sv) (s : Sv) : List Sv := if s ∈ out then out else out ++ [s]
def addS (out more : List Sv) : List Sv := more.foldl addO out
theorem addS_take {out more : List Sv} {j : Nat} {s : Sv} (h : more[j]? = some s) : addS out (more.take (j + 1)) = addO (addS out (more.take j)) s := by
  unfold addS
  rw [List.take_add_one, h, List.foldl_append]; rfl
theorem mem_addO {out : List Sv} {s t : Sv} : t ∈ addO out s ↔ t ∈ out ∨ t = s := by
  unfold addO
  split
  · rename_i h
    exact ⟨.inl, fun h' => h'.elim id fun e => e ▸ h⟩
  · simp
theorem mem_addS {t : Sv} : ∀ (more out : List Sv), t ∈ addS out more ↔ t ∈ out ∨ t ∈ more
  | [], out => by simp [addS]
  | s :: r, out => by
    have := mem_addS r (addO out s) (t := t)
    unfold addS at this ⊢
    rw [List.foldl_cons, this, mem_addO, List.mem_cons]
    exact or_assoc
theorem addO_len (out : List Sv) (s : Sv) : (addO out s).length ≤ out.length + 1 ∧ out.length ≤ (addO out s).length := by
  unfold addO; split <;> simp
theorem addS_len : ∀ (more out : List Sv), (addS out more).length ≤ out.length + more.length ∧ out.length ≤ (addS out more).length
  | [], out => by simp [addS]
  | s :: r, out => by
    have h1 := addS_len r (addO out s)
    have h2 := addO_len out s
    unfold addS at h1 ⊢
    rw [List.foldl_cons, List.length_cons]
    omega

/-- What is led to, thing by thing. -/
def closeF (nx : Sv → List Sv) (most : Nat) : Nat → Nat → List Sv → List Sv
  | 0, _, out => out
  | f + 1, i, out => match out[i]? with
    | some s => if out.length ≤ most then closeF nx most f (i + 1) (addS out (nx s)) else out
    | none => out
def closeW (nx : Sv → List Sv) (most : Nat) (l : List Sv) : List Sv := closeF nx most (most + 1) 0 (addS [] l)

theorem closeF_mem {nx : Sv → List Sv} {most : Nat} {P : Sv → Prop} (hn : ∀ s, P s → ∀ t ∈ nx s, P t) : ∀ (f i : Nat) (out : List Sv), (∀ s ∈ out, P s) → ∀ s ∈ closeF nx most f i out, P s
  | 0, _, out, h => h
  | f + 1, i, out, h => by
    unfold closeF
    split
    · rename_i s hs
      split
      · refine closeF_mem hn f (i + 1) _ fun t ht => ?_
        rcases (mem_addS _ _).mp ht with ht | ht
        · exact h t ht
        · exact hn s (h s (List.mem_of_getElem? hs)) t ht
      · exact h
    · exact h
theorem closeW_mem {nx : Sv → List Sv} {most : Nat} {l : List Sv} {P : Sv → Prop} (hn : ∀ s, P s → ∀ t ∈ nx s, P t) (hl : ∀ s ∈ l, P s) : ∀ s ∈ closeW nx most l, P s :=
  closeF_mem hn _ _ _ fun s hs => by
    rcases (mem_addS _ _).mp hs with h | h
    · cases h
    · exact hl s h

/-! ### Labels. -/
abbrev Lb := Int × Int × Int
def ltL (a b : Lb) : Prop := a.1 < b.1 ∨ (a.1 = b.1 ∧ (a.2.1 < b.2.1 ∨ (a.2.1 = b.2.1 ∧ a.2.2 < b.2.2)))
instance (a b : Lb) : Decidable (ltL a b) := by unfold ltL; exact inferInstance
theorem lb_ext {a b : Lb} (h1 : a.1 = b.1) (h2 : a.2.1 = b.2.1) (h3 : a.2.2 = b.2.2) : a = b := Prod.ext h1 (Prod.ext h2 h3)
theorem ltL_tri (a b : Lb) : ltL a b ∨ a = b ∨ ltL b a := by
  unfold ltL
  by_cases h1 : a.1 < b.1
  · exact .inl (.inl h1)
  by_cases h2 : b.1 < a.1
  · exact .inr (.inr (.inl h2))
  by_cases h3 : a.2.1 < b.2.1
  · exact .inl (.inr ⟨by omega, .inl h3⟩)
  by_cases h4 : b.2.1 < a.2.1
  · exact .inr (.inr (.inr ⟨by omega, .inl h4⟩))
  by_cases h5 : a.2.2 < b.2.2
  · exact .inl (.inr ⟨by omega, .inr ⟨by omega, h5⟩⟩)
  by_cases h6 : b.2.2 < a.2.2
  · exact .inr (.inr (.inr ⟨by omega, .inr ⟨by omega, h6⟩⟩))
  · exact .inr (.inl (lb_ext (by omega) (by omega) (by omega)))
theorem ltL_irr (a : Lb) : ¬ ltL a a := by unfold ltL; omega
theorem ltL_trans {a b c : Lb} (h1 : ltL a b) (h2 : ltL b c) : ltL a c := by unfold ltL at *; omega
theorem ltL_asymm {a b : Lb} (h1 : ltL a b) : ¬ ltL b a := by unfold ltL at *; omega

/-- A label more, in its place, once. -/
def putL (x : Lb) : List Lb → List Lb
  | [] => [x]
  | y :: l => if ltL x y then x :: y :: l else if x = y then y :: l else y :: putL x l
/-- A label more, in its place. -/
def insL (x : Lb) : List Lb → List Lb
  | [] => [x]
  | y :: l => if ltL x y then x :: y :: l else y :: insL x l
def sortL : List Lb → List Lb
  | [] => []
  | x :: l => insL x (sortL l)
/-- Each once, of those that are beside each other. -/
def onceL : List Lb → List Lb
  | [] => []
  | [x] => [x]
  | x :: y :: l => if x = y then onceL (y :: l) else x :: onceL (y :: l)
def putsL (l : List Lb) : List Lb := l.foldl (fun a x => putL x a) []

theorem mem_putL {x z : Lb} : ∀ l, z ∈ putL x l ↔ z = x ∨ z ∈ l
  | [] => by simp [putL]
  | y :: l => by
    unfold putL
    split
    · simp
    · split
      · rename_i h; subst h
        simp
      · rw [List.mem_cons, mem_putL l, List.mem_cons]
        exact ⟨fun h => h.elim (fun e => .inr (.inl e)) fun h => h.elim .inl fun h => .inr (.inr h), fun h => h.elim (fun e => .inr (.inl e)) fun h => h.elim .inl fun h => .inr (.inr h)⟩
theorem putL_strict {x : Lb} : ∀ l, l.Pairwise ltL → (putL x l).Pairwise ltL
  | [], _ => by simp [putL]
  | y :: l, h => by
    rw [List.pairwise_cons] at h
    unfold putL
    split
    · rename_i hxy
      rw [List.pairwise_cons]
      refine ⟨fun z hz => ?_, List.pairwise_cons.mpr h⟩
      rcases List.mem_cons.mp hz with rfl | hz
      · exact hxy
      · exact ltL_trans hxy (h.1 z hz)
    · rename_i hxy
      split
      · exact List.pairwise_cons.mpr h
      · rename_i hne
        rw [List.pairwise_cons]
        refine ⟨fun z hz => ?_, putL_strict l h.2⟩
        rcases (mem_putL l).mp hz with rfl | hz
        · rcases ltL_tri z y with a | a | a
          · exact absurd a hxy
          · exact absurd a hne
          · exact a
        · exact h.1 z hz
theorem putsL_aux : ∀ (l acc : List Lb), acc.Pairwise ltL → (l.foldl (fun a x => putL x a) acc).Pairwise ltL ∧ ∀ z, z ∈ l.foldl (fun a x => putL x a) acc ↔ z ∈ l ∨ z ∈ acc
  | [], acc, h => ⟨h, fun z => by simp⟩
  | x :: l, acc, h => by
    obtain ⟨h1, h2⟩ := putsL_aux l (putL x acc) (putL_strict acc h)
    refine ⟨h1, fun z => ?_⟩
    rw [List.foldl_cons, h2, mem_putL, List.mem_cons]
    exact ⟨fun h => h.elim (fun h => .inl (.inr h)) fun h => h.elim (fun h => .inl (.inl h)) .inr, fun h => h.elim (fun h => h.elim (fun h => .inr (.inl h)) .inl) fun h => .inr (.inr h)⟩
theorem putsL_spec (l : List Lb) : (putsL l).Pairwise ltL ∧ ∀ z, z ∈ putsL l ↔ z ∈ l := by
  obtain ⟨h1, h2⟩ := putsL_aux l [] List.Pairwise.nil
  exact ⟨h1, fun z => by have := h2 z; simpa [putsL] using this⟩
theorem insL_perm (x : Lb) : ∀ l, (insL x l).Perm (x :: l)
  | [] => .refl _
  | y :: l => by
    unfold insL
    split
    · exact .refl _
    · exact ((insL_perm x l).cons y).trans (List.Perm.swap x y l)
theorem sortL_perm : ∀ l, (sortL l).Perm l
  | [] => .refl _
  | x :: l => (insL_perm x _).trans ((sortL_perm l).cons x)
theorem insL_srt (x : Lb) : ∀ l, l.Pairwise (fun a b => ¬ ltL b a) → (insL x l).Pairwise (fun a b => ¬ ltL b a)
  | [], _ => by simp [insL]
  | y :: l, h => by
    rw [List.pairwise_cons] at h
    unfold insL
    split
    · rename_i hxy
      rw [List.pairwise_cons]
      refine ⟨fun z hz => ?_, List.pairwise_cons.mpr h⟩
      rcases List.mem_cons.mp hz with rfl | hz
      · exact ltL_asymm hxy
      · exact fun e => h.1 z hz (ltL_trans e hxy)
    · rename_i hxy
      rw [List.pairwise_cons]
      refine ⟨fun z hz => ?_, insL_srt x l h.2⟩
      rcases List.mem_cons.mp ((insL_perm x l).mem_iff.mp hz) with rfl | hz
      · exact hxy
      · exact h.1 z hz
theorem sortL_srt : ∀ l, (sortL l).Pairwise (fun a b => ¬ ltL b a)
  | [] => .nil
  | x :: l => insL_srt x _ (sortL_srt l)
theorem onceL_spec : ∀ l : List Lb, l.Pairwise (fun a b => ¬ ltL b a) → (onceL l).Pairwise ltL ∧ ∀ z, z ∈ onceL l ↔ z ∈ l
  | [], _ => ⟨.nil, fun z => Iff.rfl⟩
  | [x], _ => ⟨by simp [onceL], fun z => Iff.rfl⟩
  | x :: y :: l, h => by
    rw [List.pairwise_cons] at h
    obtain ⟨h1, h2⟩ := onceL_spec (y :: l) h.2
    unfold onceL
    split
    · rename_i e; subst e
      refine ⟨h1, fun z => ?_⟩
      rw [h2]; simp
    · rename_i hne
      refine ⟨List.pairwise_cons.mpr ⟨fun z hz => ?_, h1⟩, fun z => by rw [List.mem_cons, h2, List.mem_cons (b := x)]⟩
      have hz := (h2 z).mp hz
      have hxy : ltL x y := by
        rcases ltL_tri x y with a | a | a
        · exact a
        · exact absurd a hne
        · exact absurd a (h.1 y (by simp))
      rcases List.mem_cons.mp hz with rfl | hz'
      · exact hxy
      · rcases ltL_tri x z with a | a | a
        · exact a
        · exfalso
          subst a
          have := List.pairwise_cons.mp h.2
          exact this.1 x hz' hxy
        · exact absurd a (h.1 z (List.mem_cons_of_mem _ hz'))
theorem strict_eq {l m : List Lb} (h1 : l.Pairwise ltL) (h2 : m.Pairwise ltL) (h : ∀ z, z ∈ l ↔ z ∈ m) : l = m := by
  have nn : ∀ a b : Lb, ltL a b → a ≠ b := fun a b hab e => ltL_irr a (by subst e; exact hab)
  have n1 : l.Nodup := h1.imp fun {a b} hab => nn a b hab
  have n2 : m.Nodup := h2.imp fun {a b} hab => nn a b hab
  refine List.Perm.eq_of_pairwise (le := ltL) (fun a b _ _ h1 h2 => absurd h2 (ltL_asymm h1)) h1 h2 ?_
  exact (List.perm_ext_iff_of_nodup n1 n2).mpr h
theorem once_sort (l : List Lb) : onceL (sortL l) = putsL l := by
  obtain ⟨h1, h2⟩ := onceL_spec (sortL l) (sortL_srt l)
  obtain ⟨h3, h4⟩ := putsL_spec l
  exact strict_eq h1 h3 fun z => by rw [h2, h4, (sortL_perm l).mem_iff]

/-- A label as a list of numbers. -/
def recL (a : Lb) : List Int := [a.1, a.2.1, a.2.2]
def cmpI3 (a b : Int) : Int := if a < b then -1 else if b < a then 1 else 0
def orI3 : List Int → Int
  | [] => 0
  | a :: r => if a = 0 then orI3 r else a
def cmpLb (x y : Lb) : Int := orI3 [cmpI3 x.1 y.1, cmpI3 x.2.1 y.2.1, cmpI3 x.2.2 y.2.2]
theorem cmpI3_lt {a b : Int} : (cmpI3 a b < 0 ↔ a < b) ∧ (cmpI3 a b = 0 ↔ a = b) := by
  unfold cmpI3
  split
  · exact ⟨by omega, by omega⟩
  · split
    · exact ⟨by omega, by omega⟩
    · exact ⟨by omega, by omega⟩
theorem cmpLb_lt {x y : Lb} : cmpLb x y < 0 ↔ ltL x y := by
  have h1 := @cmpI3_lt x.1 y.1
  have h2 := @cmpI3_lt x.2.1 y.2.1
  have h3 := @cmpI3_lt x.2.2 y.2.2
  unfold cmpLb orI3 ltL
  simp only [orI3]
  split
  · rename_i e1
    have e1 := h1.2.mp e1
    split
    · rename_i e2
      have e2 := h2.2.mp e2
      split
      · rename_i e3
        have e3 := h3.2.mp e3
        omega
      · rw [h3.1]; omega
    · rename_i e2
      rw [h2.1]
      have : x.2.1 ≠ y.2.1 := fun e => e2 (h2.2.mpr e)
      omega
  · rename_i e1
    rw [h1.1]
    have : x.1 ≠ y.1 := fun e => e1 (h1.2.mpr e)
    omega
def cmpL3 : List Int → List Int → Int
  | [a, b, c], [d, e, f] => cmpLb (a, b, c) (d, e, f)
  | _, _ => 0
theorem rec3 (x : Rec 3) : ∃ a b c, x.1 = [a, b, c] := by
  obtain ⟨l, hl, _⟩ := x
  match l, hl with
  | [a, b, c], _ => exact ⟨a, b, c, rfl⟩
theorem cmpL3_swo : SWO (fun x y : Rec 3 => decide (cmpL3 x.1 y.1 < 0)) := by
  have hL : ∀ a b c d e f, decide (cmpL3 [a, b, c] [d, e, f] < 0) = decide (a < d ∨ (a = d ∧ (b < e ∨ (b = e ∧ c < f)))) := fun a b c d e f => by
    show decide (cmpLb (a, b, c) (d, e, f) < 0) = _
    exact decide_eq_decide.mpr cmpLb_lt
  refine ⟨fun x => ?_, fun x y z h1 h2 => ?_, fun x y z h1 h2 => ?_⟩
  · obtain ⟨a, i, j, h⟩ := rec3 x
    rw [h, hL]; simp
  all_goals
    obtain ⟨a, i, j, e1⟩ := rec3 x
    obtain ⟨b, k, l, e2⟩ := rec3 y
    obtain ⟨c, m, n, e3⟩ := rec3 z
    simp only [e1, e2, e3, hL, decide_eq_true_eq, decide_eq_false_iff_not] at h1 h2 ⊢
    omega
theorem cmpLb_anti {x y : Lb} (h1 : ¬ cmpLb y x < 0) (h2 : ¬ cmpLb x y < 0) : x = y := by
  rw [cmpLb_lt] at h1 h2
  rcases ltL_tri x y with a | a | a
  · exact absurd a h2
  · exact a
  · exact absurd a h1
end Go.Proofs.YtbbmfemplmelhaaGreatDoor.AM
end

section
set_option linter.unusedVariables false
set_option linter.unusedSimpArgs false
set_option maxRecDepth 4000
set_option maxHeartbeats 4000000
namespace Go.Proofs.YtbbmfemplmelhaaGreatDoor.AM
open Go Go.Proofs
set_option linter.defProp false in
def TTTmA := And.intro T2 (And.intro T3 (And.intro T4 (And.intro T25 (And.intro T28 (And.intro T41 (And.intro T57 (And.intro T58 (And.intro T92 (And.intro T118 (And.intro T142 T144))))))))))
attribute [local irreducible] awp aops aqops aeops arun arunT
variable {G : Nat → Option (List PV)}

def takeF : List Int → List Int → List Int × Bool
  | [], S => (S, true)
  | f :: r, S => if tk S f - 1 < 0 then (S.set f.toNat (tk S f - 1), false) else takeF r (S.set f.toNat (tk S f - 1))
def giveF : List Int → List Int → List Int × Bool
  | [], S => (S, true)
  | f :: r, S => if 3 < tk S f + 1 then (S.set f.toNat (tk S f + 1), false) else giveF r (S.set f.toNat (tk S f + 1))
/-- The state in which tokens are moved, and whether they could be. -/
def mvF (S : List Int) (fr to : List Int) : List Int × Bool := if (takeF fr S).2 = true then giveF to (takeF fr S).1 else takeF fr S

theorem takeF_step {l T : List Int} {i : Nat} {f : Int} (h : l[i]? = some f) : takeF (l.drop i) T = if tk T f - 1 < 0 then (T.set f.toNat (tk T f - 1), false) else takeF (l.drop (i + 1)) (T.set f.toNat (tk T f - 1)) := by
  obtain ⟨hi, e⟩ := List.getElem?_eq_some_iff.mp h
  rw [List.drop_eq_getElem_cons hi, e]; rfl
theorem giveF_step {l T : List Int} {i : Nat} {f : Int} (h : l[i]? = some f) : giveF (l.drop i) T = if 3 < tk T f + 1 then (T.set f.toNat (tk T f + 1), false) else giveF (l.drop (i + 1)) (T.set f.toNat (tk T f + 1)) := by
  obtain ⟨hi, e⟩ := List.getElem?_eq_some_iff.mp h
  rw [List.drop_eq_getElem_cons hi, e]; rfl

def z49 : List PV := List.replicate 49 (.int .i64 0)
def zS : List Int := List.replicate 49 0
theorem TSz : tinfo Tryz.prog 82 = some ⟨.struct [(0, 40, 57), (40, 4, 58), (44, 4, 58), (48, 1, 3)], 49, 392, some z49⟩ := by rw [T82]; rfl
theorem z49_ne : (z49 = []) = False := by simp [z49]
theorem z49_map : z49.map AV.p = zS.map AV.i := rfl
theorem zS_len : zS.length = 49 := rfl

theorem purs_is (h : Heap) (n fuel : Nat) (S : List Int) : purs h n fuel (S.map AV.i) = some (S.map (PV.int .i64)) := by
  rw [← mapmap]
  exact purs_p h n fuel _ fun x hx => by obtain ⟨y, _, rfl⟩ := List.mem_map.mp hx; exact fun e => by cases e
theorem app_get1 {H : Heap} {b : Nat} {x : Option Blk} (h : H[b]? = some x) (L : Heap) : (H ++ L)[b]? = some x := by
  rw [List.getElem?_append_left (List.getElem?_eq_some_iff.mp h).1]; exact h

theorem moved_calls {H : Heap} {b lb n g : Nat} {ns : List Nd} {fl : List Fl} {S : List Int} (hb : H[b]? = some (some ⟨g, gmC ns fl S lb n⟩)) (hh : Held S) (fr to : List Int) (hfr : InF fr) (hto : InF to) :
    ACalls Tryz.prog G 120 [.ptr b g 0, aI fr, aI to] H (fun r h' => r = .tup [aS (mvF S fr to).1, .b (mvF S fr to).2] ∧ h' = H) := by
  have hS := hh.1
  have gl := gmC_len (ns := ns) (fl := fl) (lb := lb) (n := n) hS
  have t49 := gmC_state (ns := ns) (fl := fl) (lb := lb) (n := n) hS
  have hbL := app_get1 hb
  have hov := over_full (cs := S.map AV.i) (n := 49) (by rw [List.length_map, hS])
  have hzl : (zS.map AV.i).length = 49 := by rw [List.length_map]; rfl
  have hTl : ∀ T : List Int, T.length = 49 → ((T.map AV.i).take 49 = T.map AV.i) := fun T hT => List.take_of_length_le (by rw [List.length_map, hT]; exact Nat.le_refl _)
  have hto' : ∀ T : List Int, T.length = 49 → over (zS.map AV.i) 0 (T.map AV.i) = T.map AV.i := fun T hT => over_full (n := 49) (by rw [List.length_map, hT]) _ hzl
  have hso := hto' S hS
  have hem : (zS.map AV.i).isEmpty = false := rfl
  refine acalls_pure (rl := []) mixed Tryz.func120 rfl (rs := [.cell 6 82, .tmp 7]) rfl Tryz.ntmps120 (by simp) ?_
  repeat' (first | ((first | refine aops_nil ?_ | refine aqops_nil ?_); (try simp only [NB])) | ((repeat ((fail_if_success (refine hK _ ?_)); clear hK K)); refine hK _ ?_; clear hK K) | ((first | refine aops_k fun K1 hK1 => ?_ | refine aqops_k fun K1 hK1 => ?_ | refine awp_cond_k fun A B hA hB => ?_); simp only [S1, simprocAttr, TTTmA, TSz, z49_ne, z49_map, zS_len, t49, hov, hso, hem, hS, gl, hb, hbL, all_scalar, takeA_arr, takeA_st, List.length_map, List.length_take, List.length_drop]; first | (refine hK1 _ ?_; clear hK1 K1) | ((first | refine hA ?_ | refine hB ?_); clear hA hB A B) | (((first | (refine ⟨fun hg => hA ?_, fun hg => hB ?_⟩ <;> clear hA hB A B) | refine ⟨fun hg => ?_, fun hg => ?_⟩) <;> (try simp only [BN2] at hg) <;> (try simp only [hg, cond_true, cond_false])) <;> (try (refine hK1 _ ?_; clear hK1 K1)) <;> (try simp only [BN3] at hg))) | (refine awp_seq_k fun K hK => ?_) | ((first | refine awp_region ?_ | refine awp_draw (by kernel_rfl) ?_ | refine awp_block ?_ | refine awp_exit ?_ | refine awp_skip ?_ | refine awp_ret ?_); (try simp only [NB, simprocAttr])))
  refine awp_while (σ := Qt) (fun q => fr.length - q.i) 58 (fun q => [(19, .i q.i), (18, .i fr.length), (17, aI fr), (8, .ptr (H.length + 1) 0 0), (6, .ptr H.length 0 0), (2, aI to)]) (fun q => [some ⟨0, zS.map AV.i⟩, some ⟨0, q.T.map AV.i⟩])
    (fun q => q.i ≤ fr.length ∧ Held q.T ∧ takeF fr S = takeF (fr.drop q.i) q.T) ⟨0, S⟩ ?_ ⟨Nat.zero_le _, hh, rfl⟩ fun q hq K hK => ?_
  · refine ⟨rfl, ⟨[], by simp only [List.append_nil]⟩, ?_, avlts_is _ _, avlts_is _ _, trivial⟩
    simp only [keeps, avlt, avlts, blksLt, frL, upd_get, S1, simprocAttr, List.length_map, Int.natCast_zero, AV.p.injEq, PV.int.injEq, PV.bool.injEq, PV.sl.injEq] <;> (try and_intros) <;> (try assumption) <;> (try trivial) <;> (try omega)
  obtain ⟨i, T⟩ := q
  obtain ⟨hi, hT, hrun⟩ := hq
  simp only at hi hT hrun
  have hTlen := hT.1
  rcases Nat.lt_or_ge i fr.length with hlt | hge
  · obtain ⟨f, hf⟩ : ∃ f, fr[i]? = some f := ⟨_, List.getElem?_eq_getElem hlt⟩
    obtain ⟨f0, f40⟩ := hfr.2 f (List.mem_of_getElem? hf)
    obtain ⟨k, rfl⟩ := Int.eq_ofNat_of_zero_le f0
    have k40 : k < 40 := by omega
    obtain ⟨hv, v0, v3⟩ := hT.at k40
    rw [takeF_step hf] at hrun
    have hdr := dropI hv
    have hse := fun v => setI_c T k v
    have hln : ∀ v, (T.set k v).length = 49 := fun v => by rw [List.length_set, hTlen]
    have hk49 : k + 1 ≤ 49 := by omega
    generalize hvv : tk T (k : Int) = v at *
    have hw : IntKind.i64.wrap (v - 1) = v - 1 := IntWalk.i64_in _ (by omega)
    have hv2 : (T.set k (v - 1))[k]? = some (v - 1) := by rw [List.getElem?_set]; simp; omega
    have hdr2 := dropI hv2
    have hs2 := hto' _ (hln (v - 1))
    have ht2 := hTl _ (hln (v - 1))
    rw [Int.toNat_natCast] at hrun
    by_cases h1 : v - 1 < 0
    · have h1' : decide (v - 1 < 0) = true := decide_eq_true h1
      rw [if_pos h1] at hrun
      have em : mvF S fr to = (T.set k (v - 1), false) := by unfold mvF; rw [hrun]; rfl
      rw [em]
      repeat' (first | ((first | refine aops_nil ?_ | refine aqops_nil ?_); (try simp only [NB])) | ((repeat ((fail_if_success (refine hK _ ?_)); clear hK K)); refine hK _ ?_; clear hK K) | ((first | refine aops_k fun K1 hK1 => ?_ | refine aqops_k fun K1 hK1 => ?_ | refine awp_cond_k fun A B hA hB => ?_); simp only [S1, simprocAttr, TTTmA, rowI hf, hitI hlt, nextI (by have := hfr.1; omega) hlt, f0, f40, hdr, hse, hw, h1', hdr2, hln, hs2, ht2, hk49, TSz, z49_ne, z49_map, zS_len, hem, hTlen, all_scalar, takeA_arr, takeA_st, List.length_map, List.length_take, List.length_drop, Nat.mul_one, Nat.zero_add, Nat.add_zero, Int.toNat_natCast]; first | (refine hK1 _ ?_; clear hK1 K1) | ((first | refine hA ?_ | refine hB ?_); clear hA hB A B) | (((first | (refine ⟨fun hg => hA ?_, fun hg => hB ?_⟩ <;> clear hA hB A B) | refine ⟨fun hg => ?_, fun hg => ?_⟩) <;> (try simp only [BN2] at hg) <;> (try simp only [hg, cond_true, cond_false])) <;> (try (refine hK1 _ ?_; clear hK1 K1)) <;> (try simp only [BN3] at hg))) | (refine awp_seq_k fun K hK => ?_) | ((first | refine awp_region ?_ | refine awp_draw (by kernel_rfl) ?_ | refine awp_block ?_ | refine awp_exit ?_ | refine awp_skip ?_ | refine awp_ret ?_); (try simp only [NB, simprocAttr])))
      all_goals simp only [EndP, FinP, resA, resL, resA1, lastV, lastA, lastAs, pur, purs, take_app, List.take_length, S1, simprocAttr, TTTmA, Nat.le_add_right, Nat.le_refl, hln, ht2, hse, List.length_map, TSz, takeA_st, purs_is, mapmap]
    · have h1' : decide (v - 1 < 0) = false := decide_eq_false h1
      rw [if_neg h1] at hrun
      repeat' (first | ((first | refine aops_nil ?_ | refine aqops_nil ?_); (try simp only [NB])) | ((repeat ((fail_if_success (refine hK _ ?_)); clear hK K)); refine hK _ ?_; clear hK K) | ((first | refine aops_k fun K1 hK1 => ?_ | refine aqops_k fun K1 hK1 => ?_ | refine awp_cond_k fun A B hA hB => ?_); simp only [S1, simprocAttr, TTTmA, rowI hf, hitI hlt, nextI (by have := hfr.1; omega) hlt, f0, f40, hdr, hse, hw, h1', hdr2, hln, hs2, ht2, hk49, TSz, z49_ne, z49_map, zS_len, hem, hTlen, all_scalar, takeA_arr, takeA_st, List.length_map, List.length_take, List.length_drop, Nat.mul_one, Nat.zero_add, Nat.add_zero, Int.toNat_natCast]; first | (refine hK1 _ ?_; clear hK1 K1) | ((first | refine hA ?_ | refine hB ?_); clear hA hB A B) | (((first | (refine ⟨fun hg => hA ?_, fun hg => hB ?_⟩ <;> clear hA hB A B) | refine ⟨fun hg => ?_, fun hg => ?_⟩) <;> (try simp only [BN2] at hg) <;> (try simp only [hg, cond_true, cond_false])) <;> (try (refine hK1 _ ?_; clear hK1 K1)) <;> (try simp only [BN3] at hg))) | (refine awp_seq_k fun K hK => ?_) | ((first | refine awp_region ?_ | refine awp_draw (by kernel_rfl) ?_ | refine awp_block ?_ | refine awp_exit ?_ | refine awp_skip ?_ | refine awp_ret ?_); (try simp only [NB, simprocAttr])))
      all_goals refine ⟨⟨i + 1, T.set k (v - 1)⟩, by simp only; omega, ⟨hlt, hT.set k40 (by omega) (by omega), hrun⟩, ?_⟩
      all_goals refine ⟨rfl, ⟨_, rfl⟩, ?_, avlts_is _ _, avlts_is _ _, trivial⟩
      all_goals simp only [keeps, avlt, avlts, blksLt, frL, upd_get, S1, simprocAttr, List.length_map, Int.natCast_zero, AV.p.injEq, PV.int.injEq, PV.bool.injEq, PV.sl.injEq] <;> (try and_intros) <;> (try assumption) <;> (try trivial) <;> (try omega)
  · obtain rfl : i = fr.length := by omega
    rw [List.drop_length] at hrun
    have em : mvF S fr to = giveF to T := by unfold mvF; rw [hrun]; rfl
    rw [em]
    repeat' (first | ((first | refine aops_nil ?_ | refine aqops_nil ?_); (try simp only [NB])) | ((repeat ((fail_if_success (refine hK _ ?_)); clear hK K)); refine hK _ ?_; clear hK K) | ((first | refine aops_k fun K1 hK1 => ?_ | refine aqops_k fun K1 hK1 => ?_ | refine awp_cond_k fun A B hA hB => ?_); simp only [S1, simprocAttr, TTTmA, endI]; first | (refine hK1 _ ?_; clear hK1 K1) | ((first | refine hA ?_ | refine hB ?_); clear hA hB A B) | (((first | (refine ⟨fun hg => hA ?_, fun hg => hB ?_⟩ <;> clear hA hB A B) | refine ⟨fun hg => ?_, fun hg => ?_⟩) <;> (try simp only [BN2] at hg) <;> (try simp only [hg, cond_true, cond_false])) <;> (try (refine hK1 _ ?_; clear hK1 K1)) <;> (try simp only [BN3] at hg))) | (refine awp_seq_k fun K hK => ?_) | ((first | refine awp_region ?_ | refine awp_draw (by kernel_rfl) ?_ | refine awp_block ?_ | refine awp_exit ?_ | refine awp_skip ?_ | refine awp_ret ?_); (try simp only [NB, simprocAttr])))
    refine awp_while (σ := Qt) (fun q => to.length - q.i) 58 (fun q => [(39, .i q.i), (38, .i to.length), (37, aI to), (8, .ptr (H.length + 1) 0 0), (6, .ptr H.length 0 0)]) (fun q => [some ⟨0, zS.map AV.i⟩, some ⟨0, q.T.map AV.i⟩])
      (fun q => q.i ≤ to.length ∧ Held q.T ∧ giveF to T = giveF (to.drop q.i) q.T) ⟨0, T⟩ ?_ ⟨Nat.zero_le _, hT, rfl⟩ fun q hq K hK => ?_
    · refine ⟨rfl, ⟨[], by simp only [List.append_nil]⟩, ?_, avlts_is _ _, avlts_is _ _, trivial⟩
      simp only [keeps, avlt, avlts, blksLt, frL, upd_get, S1, simprocAttr, List.length_map, Int.natCast_zero, AV.p.injEq, PV.int.injEq, PV.bool.injEq, PV.sl.injEq] <;> (try and_intros) <;> (try assumption) <;> (try trivial) <;> (try omega)
    obtain ⟨j, U⟩ := q
    obtain ⟨hj, hU, hrun2⟩ := hq
    simp only at hj hU hrun2
    have hUlen := hU.1
    rcases Nat.lt_or_ge j to.length with hlt | hge
    · obtain ⟨f, hf⟩ : ∃ f, to[j]? = some f := ⟨_, List.getElem?_eq_getElem hlt⟩
      obtain ⟨f0, f40⟩ := hto.2 f (List.mem_of_getElem? hf)
      obtain ⟨k, rfl⟩ := Int.eq_ofNat_of_zero_le f0
      have k40 : k < 40 := by omega
      obtain ⟨hv, v0, v3⟩ := hU.at k40
      rw [giveF_step hf] at hrun2
      have hdr := dropI hv
      have hse := fun v => setI_c U k v
      have hln : ∀ v, (U.set k v).length = 49 := fun v => by rw [List.length_set, hUlen]
      have hk49 : k + 1 ≤ 49 := by omega
      generalize hvv : tk U (k : Int) = v at *
      have hw : IntKind.i64.wrap (v + 1) = v + 1 := IntWalk.i64_in _ (by omega)
      have hv2 : (U.set k (v + 1))[k]? = some (v + 1) := by rw [List.getElem?_set]; simp; omega
      have hdr2 := dropI hv2
      have hs2 := hto' _ (hln (v + 1))
      have ht2 := hTl _ (hln (v + 1))
      rw [Int.toNat_natCast] at hrun2
      by_cases h1 : 3 < v + 1
      · have h1' : decide (3 < v + 1) = true := decide_eq_true h1
        rw [if_pos h1] at hrun2
        repeat' (first | ((first | refine aops_nil ?_ | refine aqops_nil ?_); (try simp only [NB])) | ((repeat ((fail_if_success (refine hK _ ?_)); clear hK K)); refine hK _ ?_; clear hK K) | ((first | refine aops_k fun K1 hK1 => ?_ | refine aqops_k fun K1 hK1 => ?_ | refine awp_cond_k fun A B hA hB => ?_); simp only [S1, simprocAttr, TTTmA, rowI hf, hitI hlt, nextI (by have := hto.1; omega) hlt, f0, f40, hdr, hse, hw, h1', hdr2, hln, hs2, ht2, hk49, TSz, z49_ne, z49_map, zS_len, hem, hUlen, all_scalar, takeA_arr, takeA_st, List.length_map, List.length_take, List.length_drop, Nat.mul_one, Nat.zero_add, Nat.add_zero, Int.toNat_natCast]; first | (refine hK1 _ ?_; clear hK1 K1) | ((first | refine hA ?_ | refine hB ?_); clear hA hB A B) | (((first | (refine ⟨fun hg => hA ?_, fun hg => hB ?_⟩ <;> clear hA hB A B) | refine ⟨fun hg => ?_, fun hg => ?_⟩) <;> (try simp only [BN2] at hg) <;> (try simp only [hg, cond_true, cond_false])) <;> (try (refine hK1 _ ?_; clear hK1 K1)) <;> (try simp only [BN3] at hg))) | (refine awp_seq_k fun K hK => ?_) | ((first | refine awp_region ?_ | refine awp_draw (by kernel_rfl) ?_ | refine awp_block ?_ | refine awp_exit ?_ | refine awp_skip ?_ | refine awp_ret ?_); (try simp only [NB, simprocAttr])))
        all_goals simp only [EndP, FinP, resA, resL, resA1, lastV, lastA, lastAs, pur, purs, take_app, List.take_length, S1, simprocAttr, TTTmA, Nat.le_add_right, Nat.le_refl, hln, ht2, hse, List.length_map, TSz, takeA_st, purs_is, mapmap]
        all_goals simp only [em, hrun2]
      · have h1' : decide (3 < v + 1) = false := decide_eq_false h1
        rw [if_neg h1] at hrun2
        repeat' (first | ((first | refine aops_nil ?_ | refine aqops_nil ?_); (try simp only [NB])) | ((repeat ((fail_if_success (refine hK _ ?_)); clear hK K)); refine hK _ ?_; clear hK K) | ((first | refine aops_k fun K1 hK1 => ?_ | refine aqops_k fun K1 hK1 => ?_ | refine awp_cond_k fun A B hA hB => ?_); simp only [S1, simprocAttr, TTTmA, rowI hf, hitI hlt, nextI (by have := hto.1; omega) hlt, f0, f40, hdr, hse, hw, h1', hdr2, hln, hs2, ht2, hk49, TSz, z49_ne, z49_map, zS_len, hem, hUlen, all_scalar, takeA_arr, takeA_st, List.length_map, List.length_take, List.length_drop, Nat.mul_one, Nat.zero_add, Nat.add_zero, Int.toNat_natCast]; first | (refine hK1 _ ?_; clear hK1 K1) | ((first | refine hA ?_ | refine hB ?_); clear hA hB A B) | (((first | (refine ⟨fun hg => hA ?_, fun hg => hB ?_⟩ <;> clear hA hB A B) | refine ⟨fun hg => ?_, fun hg => ?_⟩) <;> (try simp only [BN2] at hg) <;> (try simp only [hg, cond_true, cond_false])) <;> (try (refine hK1 _ ?_; clear hK1 K1)) <;> (try simp only [BN3] at hg))) | (refine awp_seq_k fun K hK => ?_) | ((first | refine awp_region ?_ | refine awp_draw (by kernel_rfl) ?_ | refine awp_block ?_ | refine awp_exit ?_ | refine awp_skip ?_ | refine awp_ret ?_); (try simp only [NB, simprocAttr])))
        all_goals refine ⟨⟨j + 1, U.set k (v + 1)⟩, by simp only; omega, ⟨hlt, hU.set k40 (by omega) (by omega), hrun2⟩, ?_⟩
        all_goals refine ⟨rfl, ⟨_, rfl⟩, ?_, avlts_is _ _, avlts_is _ _, trivial⟩
        all_goals simp only [keeps, avlt, avlts, blksLt, frL, upd_get, S1, simprocAttr, List.length_map, Int.natCast_zero, AV.p.injEq, PV.int.injEq, PV.bool.injEq, PV.sl.injEq] <;> (try and_intros) <;> (try assumption) <;> (try trivial) <;> (try omega)
    · obtain rfl : j = to.length := by omega
      rw [List.drop_length] at hrun2
      have ht2 := hTl _ hUlen
      have hs2 := hto' _ hUlen
      repeat' (first | ((first | refine aops_nil ?_ | refine aqops_nil ?_); (try simp only [NB])) | ((repeat ((fail_if_success (refine hK _ ?_)); clear hK K)); refine hK _ ?_; clear hK K) | ((first | refine aops_k fun K1 hK1 => ?_ | refine aqops_k fun K1 hK1 => ?_ | refine awp_cond_k fun A B hA hB => ?_); simp only [S1, simprocAttr, TTTmA, endI, hs2, ht2, TSz, z49_ne, z49_map, zS_len, hem, hUlen, all_scalar, takeA_arr, takeA_st, List.length_map, List.length_take, List.length_drop, Nat.mul_one, Nat.zero_add, Nat.add_zero, Int.toNat_natCast]; first | (refine hK1 _ ?_; clear hK1 K1) | ((first | refine hA ?_ | refine hB ?_); clear hA hB A B) | (((first | (refine ⟨fun hg => hA ?_, fun hg => hB ?_⟩ <;> clear hA hB A B) | refine ⟨fun hg => ?_, fun hg => ?_⟩) <;> (try simp only [BN2] at hg) <;> (try simp only [hg, cond_true, cond_false])) <;> (try (refine hK1 _ ?_; clear hK1 K1)) <;> (try simp only [BN3] at hg))) | (refine awp_seq_k fun K hK => ?_) | ((first | refine awp_region ?_ | refine awp_draw (by kernel_rfl) ?_ | refine awp_block ?_ | refine awp_exit ?_ | refine awp_skip ?_ | refine awp_ret ?_); (try simp only [NB, simprocAttr])))
      all_goals simp only [EndP, FinP, resA, resL, resA1, lastV, lastA, lastAs, pur, purs, take_app, List.take_length, S1, simprocAttr, TTTmA, Nat.le_add_right, Nat.le_refl, ht2, hUlen, List.length_map, TSz, takeA_st, purs_is, mapmap]
      all_goals simp only [em, hrun2, giveF]
end Go.Proofs.YtbbmfemplmelhaaGreatDoor.AM
end

section
set_option linter.unusedVariables false
set_option linter.unusedSimpArgs false
namespace Go.Proofs.YtbbmfemplmelhaaGreatDoor.AM
open Go Go.Proofs

/-- Tokens of a state with n flows. -/
structure TokOk (n : Nat) (S : List Int) : Prop where
  len : S.length = 49
  tok : ∀ k : Nat, k < 40 → 0 ≤ tk S k ∧ tk S k ≤ 3
  off : ∀ k : Nat, n ≤ k → k < 40 → tk S k = 0
/-- All else of a state. -/
structure RestOk (S : List Int) : Prop where
  q : ∀ k : Nat, k < 4 → 0 ≤ qAt S k ∧ qAt S k ≤ 3
  v : ∀ k : Nat, k < 4 → Num (S.getD (40 + k) 0)
  md : 0 ≤ mdS S ∧ mdS S ≤ 2

theorem inM_num {x : Int} : inM x = true ↔ Num x := by unfold inM Num; simp

theorem okS_of {n : Nat} {S : List Int} (h1 : TokOk n S) (h2 : RestOk S) : okS n S = true := by
  unfold okS
  simp only [Bool.and_eq_true, List.all_eq_true, List.mem_range, Bool.not_eq_true', decide_eq_true_eq]
  refine ⟨⟨fun i hi => ?_, fun i hi => ?_⟩, ?_, h2.md⟩
  · unfold badT
    have := h1.tok i hi
    have ho := h1.off i
    by_cases hn : n ≤ i
    · have := ho hn hi
      simp only [Bool.or_eq_false_iff, Bool.and_eq_false_iff, decide_eq_false_iff_not, bne_eq_false_iff_eq]
      exact ⟨⟨by omega, by omega⟩, .inr this⟩
    · simp only [Bool.or_eq_false_iff, Bool.and_eq_false_iff, decide_eq_false_iff_not, bne_eq_false_iff_eq]
      exact ⟨⟨by omega, by omega⟩, .inl (by omega)⟩
  · unfold badQ
    have := h2.q i hi
    simp only [Bool.or_eq_false_iff, decide_eq_false_iff_not]
    omega
  · unfold inV
    rw [vS_0, vS_1, vS_2, vS_3]
    simp only [Bool.and_eq_true, inM_num]
    exact ⟨⟨⟨h2.v 0 (by omega), h2.v 1 (by omega)⟩, h2.v 2 (by omega)⟩, h2.v 3 (by omega)⟩

theorem okS_to {n : Nat} {S : List Int} (hS : S.length = 49) (h : okS n S = true) : TokOk n S ∧ RestOk S := by
  unfold okS at h
  simp only [Bool.and_eq_true, List.all_eq_true, List.mem_range, Bool.not_eq_true', decide_eq_true_eq] at h
  obtain ⟨⟨h1, h2⟩, h3, h4⟩ := h
  refine ⟨⟨hS, fun k hk => ?_, fun k hn hk => ?_⟩, ⟨fun k hk => ?_, fun k hk => ?_, h4⟩⟩
  · have := h1 k hk
    unfold badT at this
    simp only [Bool.or_eq_false_iff, decide_eq_false_iff_not] at this
    omega
  · have := h1 k hk
    unfold badT at this
    simp only [Bool.or_eq_false_iff, Bool.and_eq_false_iff, decide_eq_false_iff_not, bne_eq_false_iff_eq] at this
    rcases this.2 with h | h
    · omega
    · exact h
  · have := h2 k hk
    unfold badQ at this
    simp only [Bool.or_eq_false_iff, decide_eq_false_iff_not] at this
    omega
  · unfold inV at h3
    rw [vS_0, vS_1, vS_2, vS_3] at h3
    simp only [Bool.and_eq_true, inM_num] at h3
    match k, hk with
    | 0, _ => exact h3.1.1.1
    | 1, _ => exact h3.1.1.2
    | 2, _ => exact h3.1.2
    | 3, _ => exact h3.2

/-- How many tokens there are. -/
def sumT (S : List Int) : Int := (S.take 40).sum
theorem sum_set : ∀ (l : List Int) (k : Nat) (x v : Int), l[k]? = some x → (l.set k v).sum = l.sum - x + v
  | [], k, x, v, h => by simp at h
  | a :: r, 0, x, v, h => by
    simp only [List.getElem?_cons_zero, Option.some.injEq] at h
    subst h
    simp only [List.set_cons_zero, List.sum_cons]; omega
  | a :: r, k + 1, x, v, h => by
    rw [List.getElem?_cons_succ] at h
    have := sum_set r k x v h
    simp only [List.set_cons_succ, List.sum_cons, this]; omega
theorem tk_get {S : List Int} (hS : S.length = 49) {k : Nat} (hk : k < 40) : S[k]? = some (tk S k) := at_get hS (by omega)
theorem sumT_set {S : List Int} (hS : S.length = 49) {k : Nat} (hk : k < 40) (v : Int) : sumT (S.set k v) = sumT S - tk S k + v := by
  unfold sumT
  rw [List.take_set]
  exact sum_set _ _ _ _ (by rw [List.getElem?_take_of_lt hk]; exact tk_get hS hk)
theorem tk_set {S : List Int} (hS : S.length = 49) {k j : Nat} (hk : k < 40) (v : Int) : tk (S.set k v) j = if j = k then v else tk S j := by
  unfold tk
  rw [Int.toNat_natCast, List.getD_eq_getElem?_getD, List.getElem?_set]
  by_cases e : k = j
  · subst e; rw [if_pos rfl, if_pos rfl, if_pos (by omega)]; rfl
  · rw [if_neg e, if_neg (fun h => e h.symm), ← List.getD_eq_getElem?_getD]
theorem drop_set40 {S : List Int} {k : Nat} (hk : k < 40) (v : Int) : (S.set k v).drop 40 = S.drop 40 := List.drop_set_of_lt hk

theorem TokOk.set {n : Nat} {S : List Int} (h : TokOk n S) {k : Nat} (hn : k < n) (hk : k < 40) {v : Int} (h0 : 0 ≤ v) (h3 : v ≤ 3) : TokOk n (S.set k v) := by
  refine ⟨by rw [List.length_set, h.len], fun j hj => ?_, fun j hnj hj => ?_⟩
  · rw [tk_set h.len hk]
    split
    · exact ⟨h0, h3⟩
    · exact h.tok j hj
  · rw [tk_set h.len hk, if_neg (by omega)]
    exact h.off j hnj hj

def InFl (n : Nat) (l : List Int) : Prop := ∀ f ∈ l, ∃ j : Nat, f = (j : Int) ∧ j < n ∧ j < 40

theorem runT_ok {n : Nat} : ∀ {l S T : List Int}, TokOk n S → InFl n l → runO stepT l S = some T → TokOk n T ∧ T.drop 40 = S.drop 40 ∧ sumT T = sumT S - l.length
  | [], S, T, h, _, e => by cases e; exact ⟨h, rfl, by simp⟩
  | f :: r, S, T, h, hi, e => by
    obtain ⟨j, rfl, hn, hj⟩ := hi f (by simp)
    unfold runO at e
    rw [List.foldlM_cons] at e
    obtain ⟨U, e1, e2⟩ := Option.bind_eq_some_iff.mp e
    unfold stepT at e1
    split at e1
    · cases e1
    · rename_i h1
      cases e1
      rw [Int.toNat_natCast] at e2
      have ht := h.tok j hj
      obtain ⟨a1, a2, a3⟩ := runT_ok (h.set hn hj (v := tk S j - 1) (by omega) (by omega)) (fun f hf => hi f (by simp [hf])) e2
      refine ⟨a1, by rw [a2, drop_set40 hj], ?_⟩
      rw [a3, sumT_set h.len hj, List.length_cons]; omega
theorem runP_ok {n : Nat} : ∀ {l S T : List Int}, TokOk n S → InFl n l → runO stepP l S = some T → TokOk n T ∧ T.drop 40 = S.drop 40 ∧ sumT T = sumT S + l.length
  | [], S, T, h, _, e => by cases e; exact ⟨h, rfl, by simp⟩
  | f :: r, S, T, h, hi, e => by
    obtain ⟨j, rfl, hn, hj⟩ := hi f (by simp)
    unfold runO at e
    rw [List.foldlM_cons] at e
    obtain ⟨U, e1, e2⟩ := Option.bind_eq_some_iff.mp e
    unfold stepP at e1
    split at e1
    · cases e1
    · rename_i h1
      cases e1
      rw [Int.toNat_natCast] at e2
      have ht := h.tok j hj
      obtain ⟨a1, a2, a3⟩ := runP_ok (h.set hn hj (v := tk S j + 1) (by omega) (by omega)) (fun f hf => hi f (by simp [hf])) e2
      refine ⟨a1, by rw [a2, drop_set40 hj], ?_⟩
      rw [a3, sumT_set h.len hj, List.length_cons]; omega

theorem joinS_tk {S T : List Int} (hS : S.length = 49) {k : Nat} (hk : k < 40) : tk (joinS S T) k = tk S k := by
  unfold tk joinS
  rw [Int.toNat_natCast, List.getD_eq_getElem?_getD, List.getElem?_append_left (by rw [List.length_take]; omega), List.getElem?_take_of_lt (by omega), ← List.getD_eq_getElem?_getD]
theorem joinS_ok {n : Nat} {S T : List Int} (h : TokOk n S) (hT : T.length = 49) : TokOk n (joinS S T) := by
  refine ⟨by simp [joinS, h.len, hT], fun k hk => by rw [joinS_tk h.len hk]; exact h.tok k hk, fun k hn hk => by rw [joinS_tk h.len hk]; exact h.off k hn hk⟩
theorem joinS_drop {S T : List Int} (hS : S.length = 49) : (joinS S T).drop 40 = T.drop 40 := by
  unfold joinS
  rw [List.drop_append_of_le_length (by rw [List.length_take]; omega), List.drop_of_length_le (by rw [List.length_take]; omega), List.nil_append]
theorem joinS_sum {S T : List Int} (hS : S.length = 49) : sumT (joinS S T) = sumT S := by
  unfold sumT joinS
  rw [List.take_append_of_le_length (by rw [List.length_take]; omega), List.take_take]
  rfl

theorem RestOk.drop {S T : List Int} (h : RestOk S) (e : T.drop 40 = S.drop 40) : RestOk T := by
  have g : ∀ k, T.getD (40 + k) 0 = S.getD (40 + k) 0 := fun k => by
    rw [List.getD_eq_getElem?_getD, List.getD_eq_getElem?_getD, ← List.getElem?_drop, ← List.getElem?_drop, e]
  refine ⟨fun k hk => ?_, fun k hk => by rw [g]; exact h.v k hk, ?_⟩
  · have := h.q k hk
    unfold qAt at this ⊢
    rw [Int.toNat_natCast] at this ⊢
    rwa [show 44 + k = 40 + (4 + k) by omega, g, show 40 + (4 + k) = 44 + k by omega]
  · have := h.md
    unfold mdS at this ⊢
    rwa [show 48 = 40 + 8 by rfl, g]
theorem mdS_drop {S T : List Int} (e : T.drop 40 = S.drop 40) : mdS T = mdS S := by
  unfold mdS
  rw [List.getD_eq_getElem?_getD, List.getD_eq_getElem?_getD, show 48 = 40 + 8 by rfl, ← List.getElem?_drop, ← List.getElem?_drop, e]

/-- What a move makes. -/
theorem move_ok {n : Nat} {S : List Int} (h : TokOk n S) {x : Sp} (hx : x.to.length = 49) {fr to : List Int} (hf : InFl n fr) (ht : InFl n to) : ∀ y ∈ moveG S x fr to,
    TokOk n y.to ∧ y.to.drop 40 = x.to.drop 40 ∧ y.node = x.node ∧ y.arg = x.arg ∧ y.lk = x.lk ∧ y.ln = x.ln ∧ y.la = x.la ∧ sumT y.to = sumT S - fr.length + to.length := by
  intro y hy
  unfold moveG at hy
  split at hy
  · cases hy
  rename_i T hT
  split at hy
  · cases hy
  rename_i U hU
  obtain rfl := List.mem_singleton.mp hy
  obtain ⟨a1, a2, a3⟩ := runT_ok (joinS_ok h hx) hf hT
  obtain ⟨b1, b2, b3⟩ := runP_ok a1 ht hU
  exact ⟨b1, by simp only; rw [b2, a2, joinS_drop h.len], rfl, rfl, rfl, rfl, rfl, by simp only; rw [b3, a3, joinS_sum h.len]⟩

theorem InFl_outs {ns : List Nd} {fl : List Fl} (rt : Right ns fl) (i : Int) : InFl fl.length (outsN fl i) := by
  intro f hm
  obtain ⟨j, _, h1, rfl, _⟩ := pickF_mem hm
  exact ⟨j, rfl, h1, by have := rt.f; omega⟩
/-- What is said of a step: it leads to a state; its mode is told by its label; its tokens. -/
structure StepOk (n : Nat) (S : List Int) (y : Sp) (d : Int) : Prop where
  tok : TokOk n y.to
  rest : RestOk y.to
  sum : sumT y.to = sumT S + d
  md : (y.lk = 7 ∧ mdS y.to = 1) ∨ (y.lk = 6 ∧ mdS y.to = 2) ∨ (y.lk ≠ 7 ∧ y.lk ≠ 6 ∧ mdS y.to = 0)

theorem StepOk.move {n : Nat} {S : List Int} (h : TokOk n S) {x : Sp} (hx : x.to.length = 49) (hr : RestOk x.to) {fr to : List Int} (hf : InFl n fr) (ht : InFl n to)
    (hm : (x.lk = 7 ∧ mdS x.to = 1) ∨ (x.lk = 6 ∧ mdS x.to = 2) ∨ (x.lk ≠ 7 ∧ x.lk ≠ 6 ∧ mdS x.to = 0)) : ∀ y ∈ moveG S x fr to, StepOk n S y ((to.length : Int) - fr.length) := by
  intro y hy
  obtain ⟨a1, a2, a3, a4, a5, a6, a7, a8⟩ := move_ok h hx hf ht y hy
  exact ⟨a1, hr.drop a2, by rw [a8]; omega, by rw [a5, mdS_drop a2]; exact hm⟩
theorem vS_numQ {S : List Int} (hr : RestOk S) : ∀ i, Num (vS S i) := by
  intro i
  unfold vS
  split
  · exact hr.v 0 (by omega)
  · split
    · exact hr.v 1 (by omega)
    · split
      · exact hr.v 2 (by omega)
      · exact hr.v 3 (by omega)
end Go.Proofs.YtbbmfemplmelhaaGreatDoor.AM
end

section
set_option linter.unusedVariables false
set_option linter.unusedSimpArgs false
namespace Go.Proofs.YtbbmfemplmelhaaGreatDoor.AM
open Go Go.Proofs

/-! ### How many flows a node has. -/
theorem Right.ar2 {ns : List Nd} {fl : List Fl} (h : Right ns fl) {i : Nat} {k : Nd} (hc : ns[i]? = some k) (h2 : k.kind = 2) : (insN fl i).length = 1 := by
  have := h.three (List.getElem?_eq_some_iff.mp hc).1
  unfold threeB at this
  simp only [kind_of hc, h2, Int.reduceEq, reduceIte, Bool.and_eq_true, beq_iff_eq] at this
  exact this.1
theorem Right.ar1 {ns : List Nd} {fl : List Fl} (h : Right ns fl) {i : Nat} {k : Nd} (hc : ns[i]? = some k) (h1 : k.kind = 1) : (insN fl i).length = 0 ∧ (outsN fl i).length = 1 := by
  have := h.three (List.getElem?_eq_some_iff.mp hc).1
  unfold threeB at this
  simp only [kind_of hc, h1, Int.reduceEq, reduceIte, Bool.and_eq_true, beq_iff_eq] at this
  exact this
theorem Right.ar11 {ns : List Nd} {fl : List Fl} (h : Right ns fl) {i : Nat} {k : Nd} (hc : ns[i]? = some k) (h3 : k.kind = 3 ∨ k.kind = 4 ∨ k.kind = 8) : (insN fl i).length = 1 ∧ (outsN fl i).length = 1 := by
  have := h.three (List.getElem?_eq_some_iff.mp hc).1
  unfold threeB at this
  rcases h3 with h3 | h3 | h3
  all_goals simp only [kind_of hc, h3, Int.reduceEq, reduceIte, Bool.and_eq_true, beq_iff_eq] at this
  all_goals exact this
theorem Right.ar7 {ns : List Nd} {fl : List Fl} (h : Right ns fl) {i : Nat} {k : Nd} (hc : ns[i]? = some k) (h7 : k.kind = 7) : (insN fl i).length = 1 ∧ 2 ≤ (outsN fl i).length ∧ ∀ f ∈ outsN fl i, ∃ (c : Nat) (k' : Nd), dstAt fl f = (c : Int) ∧ ns[c]? = some k' ∧ k'.kind = 8 := by
  have := h.three (List.getElem?_eq_some_iff.mp hc).1
  unfold threeB at this
  simp only [kind_of hc, h7, Int.reduceEq, reduceIte, Bool.and_eq_true, beq_iff_eq, decide_eq_true_eq] at this
  refine ⟨this.1.1, this.1.2, fun f hf => ?_⟩
  have h0 := this.2
  unfold cntB at h0
  rw [List.take_length, List.countP_eq_zero] at h0
  have h1 := h0 f hf
  obtain ⟨j, x, hj, rfl, hx, _⟩ := pickF_mem hf
  unfold othAt at h1
  unfold dstAt
  rw [Int.toNat_natCast, hx] at h1 ⊢
  simp only [bne_iff_ne, ne_eq, Decidable.not_not] at h1
  have hi := h.isIn x (List.mem_of_getElem? hx)
  obtain ⟨d0, d1⟩ := hi.2
  obtain ⟨c, hcd⟩ := Int.eq_ofNat_of_zero_le d0
  have hlt : c < ns.length := by omega
  refine ⟨c, ns[c], hcd, List.getElem?_eq_getElem hlt, ?_⟩
  rw [hcd] at h1
  rw [← kind_of (List.getElem?_eq_getElem hlt)]; exact h1

/-! ### Steps. -/
section
variable {ns : List Nd} {fl : List Fl} {S : List Int}

/-! ### A process without And. -/

/-- What is kept: one token till it is ended. -/
def OneOk (ns : List Nd) (fl : List Fl) (S : List Int) : Prop := S.length = 49 ∧ stC ns fl S = 0 ∧ sumT S = if mdS S = 1 then 0 else 1

theorem len_one {α : Type} {l : List α} (h : l.length = 1) : ∃ a, l = [a] := by
  match l, h with
  | [a], _ => exact ⟨a, rfl⟩
end
end Go.Proofs.YtbbmfemplmelhaaGreatDoor.AM
end

section
set_option linter.unusedVariables false
set_option linter.unusedSimpArgs false
set_option maxRecDepth 4000
set_option maxHeartbeats 4000000
namespace Go.Proofs.YtbbmfemplmelhaaGreatDoor.AM
open Go Go.Proofs
set_option linter.defProp false in
def TTTmO := And.intro T2 (And.intro T3 (And.intro T4 (And.intro T22 (And.intro T25 (And.intro T31 (And.intro T41 (And.intro T57 (And.intro T58 T77))))))))
attribute [local irreducible] awp aops aqops aeops arun arunT

theorem findG_at {α : Type} {p : α → Bool} : ∀ {l : List α} {i : Nat}, 0 ≤ findG p l i → ∃ (j : Nat) (k : α), findG p l i = ((i + j : Nat) : Int) ∧ l[j]? = some k ∧ p k = true
  | [], i, h => by simp [findG] at h
  | k :: r, i, h => by
    unfold findG at h ⊢
    cases hp : p k with
    | true => exact ⟨0, k, by simp, rfl, hp⟩
    | false =>
      rw [hp] at h
      simp only [Bool.false_eq_true, if_false] at h ⊢
      obtain ⟨j, k', h1, h2, h3⟩ := findG_at (l := r) (i := i + 1) h
      exact ⟨j + 1, k', by rw [h1]; congr 1; omega, h2, h3⟩

/-- Where a right process begins. -/
theorem Right.begin {ns : List Nd} {fl : List Fl} (h : Right ns fl) : ∃ (s f : Nat), firstN ns 1 = (s : Int) ∧ outsN fl (s : Int) = [(f : Int)] ∧ f < fl.length := by
  obtain ⟨⟨h0, h1⟩, _⟩ := ends_in h.ends
  obtain ⟨s, k, e, hk, hp⟩ := findG_at (p := fun x : Nd => x.kind == 1) (l := ns) (i := 0) h0
  have hk1 : k.kind = 1 := by simpa using hp
  have ar := (h.ar1 hk hk1).2
  have e' : firstN ns 1 = (s : Int) := by unfold firstN; rw [e]; simp
  obtain ⟨a, ha⟩ := len_one ar
  obtain ⟨f, hf, hlt, _⟩ := InFl_outs h (s : Int) a (by rw [ha]; simp)
  exact ⟨s, f, e', by rw [ha, hf], hlt⟩

noncomputable def startG (ns : List Nd) (fl : List Fl) : List Int × Int := if (netN ns fl).1 ≠ 0 then (zS, 4) else (zS.set ((outsN fl (firstN ns 1)).headD 0).toNat 1, 0)

theorem tStart_calls {ns : List Nd} {fl : List Fl} (nk : NetOk ns fl) (h : Heap) :
    ACalls Tryz.prog gW 36 [aNet ns fl] h (fun r h' => r = .tup [aS (startG ns fl).1, .i (startG ns fl).2] ∧ h' = h) := by
  have hnet := fun h => Check_calls ns fl nk h
  have hzl : (zS.map AV.i).length = 49 := by rw [List.length_map]; rfl
  have hem : (zS.map AV.i).isEmpty = false := rfl
  have hzz : over (zS.map AV.i) 0 (zS.map AV.i) = zS.map AV.i := over_full (n := 49) (by rw [List.length_map]; rfl) _ hzl
  have hzt : (zS.map AV.i).take 49 = zS.map AV.i := List.take_of_length_le (by rw [hzl]; exact Nat.le_refl _)
  by_cases h0 : (netN ns fl).1 = 0
  case neg =>
    have f0 : ((netN ns fl).1 != 0) = true := by simp [h0]
    have e : startG ns fl = (zS, 4) := by unfold startG; rw [if_pos h0]
    rw [e]
    refine acalls_pure (rl := []) mixed Tryz.func36 rfl (rs := [.cell 2 82, .tmp 3]) rfl Tryz.ntmps36 (by simp) ?_
    repeat' (first | ((first | refine aops_nil ?_ | refine aqops_nil ?_); (try simp only [NB])) | ((repeat ((fail_if_success (refine hK _ ?_)); clear hK K)); refine hK _ ?_; clear hK K) | ((first | refine aops_k fun K1 hK1 => ?_ | refine aqops_k fun K1 hK1 => ?_ | refine awp_cond_k fun A B hA hB => ?_); simp only [S1, simprocAttr, TTTmO, f0, TSz, z49_ne, z49_map, zS_len, hem, hzz, hzt, all_scalar, takeA_arr, takeA_st, List.length_map]; first | (refine hK1 _ ?_; clear hK1 K1) | ((first | refine hA ?_ | refine hB ?_); clear hA hB A B) | ((first | apply call_a E56 | apply call_q E56); exact (hnet _); (refine hK1 _ ?_; clear hK1 K1)) | (((first | (refine ⟨fun hg => hA ?_, fun hg => hB ?_⟩ <;> clear hA hB A B) | refine ⟨fun hg => ?_, fun hg => ?_⟩) <;> (try simp only [BN2] at hg) <;> (try simp only [hg, cond_true, cond_false])) <;> (try (refine hK1 _ ?_; clear hK1 K1)) <;> (try simp only [BN3] at hg))) | (refine awp_seq_k fun K hK => ?_) | ((first | refine awp_region ?_ | refine awp_draw (by kernel_rfl) ?_ | refine awp_block ?_ | refine awp_exit ?_ | refine awp_skip ?_ | refine awp_ret ?_); (try simp only [NB, simprocAttr])))
    all_goals simp only [EndP, FinP, resA, resL, resA1, lastV, lastA, lastAs, pur, purs, take_app, List.take_length, S1, simprocAttr, TTTmO, Nat.le_add_right, Nat.le_refl, hzt, hzl, List.length_map, zS_len, TSz, takeA_st, purs_is, mapmap]
  have f0 : ((netN ns fl).1 != 0) = false := by simp [h0]
  have rt := Right.of h0
  obtain ⟨s, f, e1, e2, e3⟩ := rt.begin
  have hf := rt.f
  have e : startG ns fl = (zS.set f 1, 0) := by unfold startG; rw [if_neg (by simpa using h0), e1, e2]; rfl
  rw [e]
  have hs := fun h => start_calls (G := gW) ns nk.n (fl.map eF) h
  have ho := fun h => outs_calls (G := gW) (ns.map eN) fl nk.f (s : Int) h
  rw [e1] at hs
  rw [e2] at ho
  have f40 : (f : Int) < 40 := by omega
  have f0' : (0 : Int) ≤ (f : Int) := by omega
  have f49 : f + 1 ≤ 49 := by omega
  have hset := setI_c zS f 1
  have hzs : (zS.set f 1).length = 49 := by rw [List.length_set]; rfl
  have hzt2 : ((zS.set f 1).map AV.i).take 49 = (zS.set f 1).map AV.i := List.take_of_length_le (by rw [List.length_map, hzs]; exact Nat.le_refl _)
  have hzz2 : over (zS.map AV.i) 0 ((zS.set f 1).map AV.i) = (zS.set f 1).map AV.i := over_full (n := 49) (by rw [List.length_map, hzs]) _ hzl
  have hei : eI (f : Int) = [.int .i64 (f : Int)] := rfl
  have hi0 : (0 : Int) ≤ 0 := Int.le_refl 0
  refine acalls_pure (rl := []) mixed Tryz.func36 rfl (rs := [.cell 2 82, .tmp 3]) rfl Tryz.ntmps36 (by simp) ?_
  repeat' (first | ((first | refine aops_nil ?_ | refine aqops_nil ?_ | refine arun_nil ?_ | refine arunT_nil ?_); (try simp only [NB])) | ((repeat ((fail_if_success (refine hK _ ?_)); clear hK K)); refine hK _ ?_; clear hK K) | ((first | refine aops_k fun K1 hK1 => ?_ | refine aqops_k fun K1 hK1 => ?_ | refine arun_eff rfl rfl rfl fun K1 hK1 => ?_ | refine awp_cond_k fun A B hA hB => ?_); simp only [S1, simprocAttr, TTTmO, f0, f40, f0', f49, hset, hzs, hzt2, hzz2, hei, hi0, TSz, z49_ne, z49_map, zS_len, hem, hzz, hzt, all_scalar, takeA_arr, takeA_st, List.length_map, List.map_cons, List.map_nil, List.length_cons, List.length_nil, List.getElem?_cons_zero, Nat.mul_one, Nat.zero_add, Nat.add_zero, Int.toNat_natCast]; first | (refine hK1 _ ?_; clear hK1 K1) | ((first | refine hA ?_ | refine hB ?_); clear hA hB A B) | ((first | apply call_a E56 | apply call_q E56); exact (hnet _); (refine hK1 _ ?_; clear hK1 K1)) | ((first | apply call_a E58 | apply call_q E58); exact (hs _); (refine hK1 _ ?_; clear hK1 K1)) | ((first | apply call_a E57 | apply call_q E57); exact (ho _); (refine hK1 _ ?_; clear hK1 K1)) | (((first | (refine ⟨fun hg => hA ?_, fun hg => hB ?_⟩ <;> clear hA hB A B) | refine ⟨fun hg => ?_, fun hg => ?_⟩) <;> (try simp only [BN2] at hg) <;> (try simp only [hg, cond_true, cond_false])) <;> (try (refine hK1 _ ?_; clear hK1 K1)) <;> (try simp only [BN3] at hg))) | ((first | refine arun_q (v := ?_) rfl rfl rfl rfl (by decide) (fun R1 K1 hK1 => ?_) ?_ | refine arun_f (v := ?_) rfl rfl rfl (by decide) (fun K1 hK1 => ?_) ?_ | refine arunT_f (v := ?_) rfl rfl rfl (by decide) (fun K1 hK1 => ?_) ?_); rotate_left; (focus (simp only [S1, simprocAttr, TTTmO, f0, f40, f0', f49, hset, hzs, hzt2, hzz2, hei, hi0, TSz, z49_ne, z49_map, zS_len, hem, hzz, hzt, all_scalar, takeA_arr, takeA_st, List.length_map, List.map_cons, List.map_nil, List.length_cons, List.length_nil, List.getElem?_cons_zero, Nat.mul_one, Nat.zero_add, Nat.add_zero, Int.toNat_natCast]; first | (exact hK1 _ _ _) | ((first | apply call_a E56 | apply call_q E56); exact (hnet _); exact hK1 _ _ _) | ((first | apply call_a E58 | apply call_q E58); exact (hs _); exact hK1 _ _ _) | ((first | apply call_a E57 | apply call_q E57); exact (ho _); exact hK1 _ _ _)))) | (refine arun_tail rfl rfl rfl ?_) | ((first | refine arun_allocj (z := ?_) 0 rfl rfl rfl rfl (by decide) rfl ?_ ?_ | refine arun_allocj (z := ?_) 1 rfl rfl rfl rfl (by decide) rfl ?_ ?_ | refine arun_allocj (z := ?_) 2 rfl rfl rfl rfl (by decide) rfl ?_ ?_); rotate_left; (focus (simp only [S1, simprocAttr, TTTmO, f0, f40, f0', f49, hset, hzs, hzt2, hzz2, hei, hi0, TSz, z49_ne, z49_map, zS_len, hem, hzz, hzt, all_scalar, takeA_arr, takeA_st, List.length_map, List.map_cons, List.map_nil, List.length_cons, List.length_nil, List.getElem?_cons_zero, Nat.mul_one, Nat.zero_add, Nat.add_zero, Int.toNat_natCast, zeroB]; rfl))) | (refine awp_seq_k fun K hK => ?_) | (refine awp_drawR (es := []) [0, 1, 2, 3, 4, 5, 6, 7, 8] 0 (fs := []) rfl (by kernel_rfl) (by kernel_rfl) ?_) | ((first | refine awp_region ?_ | refine awp_draw (by kernel_rfl) ?_ | refine awp_block ?_ | refine awp_exit ?_ | refine awp_skip ?_ | refine awp_ret ?_); (try simp only [NB, simprocAttr])))
  all_goals simp only [EndP, FinP, resA, resL, resA1, lastV, lastA, lastAs, pur, purs, take_app, List.take_length, S1, simprocAttr, TTTmO, Nat.le_add_right, Nat.le_refl, hzt2, hzs, List.length_map, zS_len, TSz, takeA_st, purs_is, mapmap]

/-- The first state has one token, and is one. -/
theorem start_ok {ns : List Nd} {fl : List Fl} (h0 : (startG ns fl).2 = 0) : OneOk ns fl (startG ns fl).1 ∧ mdS (startG ns fl).1 = 0 := by
  unfold startG at h0 ⊢
  split at h0
  · cases h0
  rename_i hn
  rw [if_neg hn]
  have hn : (netN ns fl).1 = 0 := by simpa using hn
  have rt := Right.of hn
  obtain ⟨s, f, e1, e2, e3⟩ := rt.begin
  have hf := rt.f
  rw [e1, e2, List.headD_cons, Int.toNat_natCast]
  have zt : TokOk fl.length zS := by
    have e : ∀ k : Nat, tk zS k = 0 := fun k => by
      unfold tk zS
      rw [List.getD_eq_getElem?_getD, List.getElem?_replicate]; split <;> rfl
    exact ⟨rfl, fun k _ => by rw [e]; decide, fun k _ _ => e k⟩
  have zr : RestOk zS := ⟨fun k hk => by
      have : qAt zS (k : Int) = 0 := by unfold qAt zS; rw [List.getD_eq_getElem?_getD, List.getElem?_replicate]; split <;> rfl
      rw [this]; decide,
    fun k hk => by
      have : zS.getD (40 + k) 0 = 0 := by unfold zS; rw [List.getD_eq_getElem?_getD, List.getElem?_replicate]; split <;> rfl
      rw [this]; exact ⟨by decide, by decide⟩, by decide⟩
  have ht := zt.set e3 (by omega) (v := 1) (by omega) (by omega)
  have hd : (zS.set f 1).drop 40 = zS.drop 40 := drop_set40 (by omega) 1
  have hm : mdS (zS.set f 1) = 0 := by rw [mdS_drop hd]; rfl
  refine ⟨⟨ht.len, ?_, ?_⟩, hm⟩
  · unfold stC
    rw [if_neg (by simp [hn]), if_pos (okS_of ht (zr.drop hd))]
  · rw [hm, if_neg (by decide), sumT_set (by rfl) (by omega)]
    have : tk zS f = 0 := by
      unfold tk zS
      rw [List.getD_eq_getElem?_getD, List.getElem?_replicate]; split <;> rfl
    rw [this]
    have : sumT zS = 0 := by unfold sumT zS; rfl
    rw [this]; rfl
end Go.Proofs.YtbbmfemplmelhaaGreatDoor.AM
end
