/- The small case of the rules' laws, run by the kernel; the law of what a rule makes of tokens, of typed cells. -/
import Derived.Test.YtlophgkgmhcagaaDoorRdG
import Derived.Test.YtlophgkgmhcagaaDoorAmX
import Derived.Test.YtlophgkgmhcagaaDoorAmS
set_option linter.unusedVariables false
set_option linter.unusedSimpArgs false
namespace Go.Proofs.YtlophgkgmhcagaaDoor.AM
open Go Go.Proofs Go.ChangeShapes Go.WideShapes Go.RowKit

def gN : Nat → Option (List PV) := fun _ => none

theorem gN_pin {W : World} {l : List (String × DataW Unit)} (h : laidMetH Tryd.prog l W) : ∀ g cells, gN g = some cells → PinRel W (fun _ => False) cells g 0 := fun g cells hg => by cases hg

theorem line_run : rCall Tryd.prog gN ["net.go:137"] 60 30 8 [] [] = some (.b true, []) := by kernel_rfl

theorem line_calls (h : Heap) : ACalls Tryd.prog gN 8 [] h (fun r h' => r = .b true ∧ h' = h) :=
  ACalls.bool_lift (rCall_good (rl := ["net.go:137"]) mixed 60 30 _ _ _ _ _ line_run).2 h

theorem arg_list {fuel : Nat} {xs : List PV} (h : Ty Tryd.prog fuel 35 xs) : ∃ l : List Int, xs = [.sl (l.map eI)] := by
  obtain ⟨m, rows, _, rfl, hr⟩ := ty_slice T35 h
  obtain ⟨l, _, _, hl⟩ := ty_ints T3 rows hr
  exact ⟨l, by rw [hl]; rfl⟩

theorem arg_rule {fuel : Nat} {xs : List PV} (h : Ty Tryd.prog fuel 37 xs) : ∃ (kind node : Int) (needs gives : List Int), argA Tryd.prog 37 xs = aR kind node needs gives := by
  obtain ⟨m, rows, _, hl, rfl, hf⟩ := ty_struct T37 h
  match rows, hl with
  | [r0, r1, r2, r3], _ =>
    have h0 : Ty Tryd.prog m 3 r0 := hf 0 _ r0 rfl rfl
    have h1 : Ty Tryd.prog m 3 r1 := hf 1 _ r1 rfl rfl
    have h2 : Ty Tryd.prog m 35 r2 := hf 2 _ r2 rfl rfl
    have h3 : Ty Tryd.prog m 35 r3 := hf 3 _ r3 rfl rfl
    obtain ⟨o, _, rfl⟩ := ty_int T3 h0
    obtain ⟨n, _, rfl⟩ := ty_int T3 h1
    obtain ⟨needs, rfl⟩ := arg_list h2
    obtain ⟨gives, rfl⟩ := arg_list h3
    exact ⟨o, n, needs, gives, by rw [argA_at T37]; rfl⟩

theorem arg_tokens {fuel : Nat} {xs : List PV} (h : Ty Tryd.prog fuel 40 xs) : ∃ tok : Int → Int, (∀ i, tok i ≤ 9223372036854775807) ∧ (∀ i, -9223372036854775808 ≤ tok i) ∧ argA Tryd.prog 40 xs = .agg (aA tok) := by
  obtain ⟨l, hl, hr, rfl⟩ := ty_intarr T40 T3 h
  have key : ∀ i : Int, InRange .i64 (l.getD i.toNat 0) := fun i => by
    rw [List.getD]
    cases hx : l[i.toNat]? with
    | none => exact ⟨by decide, by decide⟩
    | some x => exact hr x (List.mem_of_getElem? hx)
  refine ⟨fun i => l.getD i.toNat 0, fun i => (key i).2, fun i => (key i).1, ?_⟩
  rw [argA_at T40]
  have e : (l.map (PV.int .i64)).map AV.p = aA fun i => l.getD i.toNat 0 := by
    apply List.ext_getElem?
    intro j
    rcases Nat.lt_or_ge j 40 with hj | hj
    · rw [aA_get hj]
      have hj' : j < l.length := by omega
      simp [hj']
    · have h1 : (aA fun i => l.getD i.toNat 0).length = 40 := aA_len _
      have h2 : ((l.map (PV.int .i64)).map AV.p).length = 40 := by simp [hl]
      rw [List.getElem?_eq_none (l := aA fun i => l.getD i.toNat 0) (by omega), List.getElem?_eq_none (l := (l.map (PV.int .i64)).map AV.p) (by omega)]
  rw [← e]
  rfl

theorem does_given (xss : List (List PV)) (hl : xss.length = [37, 40].length) (ht : ∀ (j : Nat) t xs, [37, 40][j]? = some t → xss[j]? = some xs → ∃ fuel, Ty Tryd.prog fuel t xs) :
    ACalls Tryd.prog gN 4 (List.zipWith (argA Tryd.prog) [37, 40] xss) [] fun r h' => r = .b true ∧ h' = [] := by
  match xss, hl, ht with
  | [x0, x1], _, ht =>
    obtain ⟨_, h0⟩ := ht 0 37 x0 rfl rfl
    obtain ⟨_, h1⟩ := ht 1 40 x1 rfl rfl
    obtain ⟨kind, node, needs, gives, e0⟩ := arg_rule h0
    obtain ⟨tok, t1, t2, e1⟩ := arg_tokens h1
    simp only [List.zipWith_cons_cons, List.zipWith_nil_left, e0, e1]
    exact does_law line_calls kind node needs gives tok t1 t2 []
end Go.Proofs.YtlophgkgmhcagaaDoor.AM
