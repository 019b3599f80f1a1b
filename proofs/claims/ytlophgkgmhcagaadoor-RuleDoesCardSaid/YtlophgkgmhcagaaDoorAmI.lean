/- The abstract machine, part I: every operation that is no call of a function. -/
import Derived.Test.YtlophgkgmhcagaaDoorAmH
set_option linter.unusedVariables false
set_option linter.unusedSimpArgs false
namespace Go.Proofs.YtlophgkgmhcagaaDoor.AM
open Go

section
variable {P : Program} {G : Nat → Option (List PV)} {ι ι' : Nat → Nat × Nat} {h h' : Heap} {w w' : World}

theorem evals_some {ρ : Operand → Option AV} : ∀ {l : List Operand} {vs : List AV}, evals ρ l = some vs → vs.length = l.length ∧ ∀ (i : Nat) x v, l[i]? = some x → vs[i]? = some v → ρ x = some v
  | [], vs, h => by cases h; simp
  | x :: r, vs, h => by
    simp only [evals] at h
    split at h
    · rename_i v vs' h1 h2
      cases h
      obtain ⟨l1, l2⟩ := evals_some h2
      refine ⟨by simp [l1], fun i y u hy hu => ?_⟩
      cases i with
      | zero => simp at hy hu; rw [← hy, ← hu]; exact h1
      | succ i => simp at hy hu; exact l2 i y u hy hu
    · cases h

theorem vrels_evals {ρ : Operand → Value} {ρA : Operand → Option AV} (hρ : ∀ x a, ρA x = some a → VRel ι h w a (ρ x)) {ops : Array Operand} {vs : List AV} (he : evals ρA ops.toList = some vs) :
    VRels ι h w vs (ops.map ρ) := by
  obtain ⟨l1, l2⟩ := evals_some he
  refine ⟨by simpa using l1, fun i x v hx hv => ?_⟩
  simp only [Array.getElem?_map, Option.map_eq_some_iff] at hv
  obtain ⟨o, ho, rfl⟩ := hv
  exact hρ _ _ (l2 i o x (by simpa using ho) hx)

theorem zero_rel {t : Nat} {i : TI} {z : List PV} (ht : tinfo P t = some i) (hz : i.zero = some z) : ∃ v : Value, (∀ w : World, (zeroValue t).run P w = .ok v w) ∧ z.length = v.cells.size ∧
    ∀ (w : World) (o : Nat → Prop) (j : Nat) x u, z[j]? = some x → v.cells[j]? = some u → PRel w o x u := by
  obtain ⟨inf, d, h1, h2, h3, h4, h5, h6⟩ := tinfo_some ht
  rw [hz] at h6
  obtain ⟨v, hv1, hv2⟩ := Option.bind_eq_some_iff.mp h6.symm
  refine ⟨v, fun w => by simp [zeroValue, typeInfo, h1, hv1], ?_, fun w o j x u hx hu => ?_⟩
  · have := (constPVs_rel (w := default) (o := fun _ => False) hv2).1
    simpa using this
  · exact (constPVs_rel (w := w) (o := o) hv2).2.2 j x u hx (by simpa using hu)

theorem sel_rel {t : Bool} {x y : AV} {v u : Value} (hx : VRel ι h w x v) (hy : VRel ι h w y u) : VRel ι h w (selA t x y) (if t then v else u) := by
  unfold selA
  split
  · rename_i a c
    have e1 := hx.bool_inv; have e2 := hy.bool_inv; subst e1; subst e2
    cases t <;> exact .b
  · cases t <;> assumption

theorem mapM_places (F : Array Field) (hF : ∀ f ∈ F.toList, ∃ i, P.info? f.type = some i) :
    (F.mapM fun f => (do Pure.pure (f.offset, ← sizeOf f.type) : Sem (Nat × Nat))).run P w = .ok ((F.toList.map fun f => (f.offset, P.cellsOf f.type)).toArray) w := by
  have key : ∀ l : List Field, (∀ f ∈ l, ∃ i, P.info? f.type = some i) → (l.mapM fun f => (do Pure.pure (f.offset, ← sizeOf f.type) : Sem (Nat × Nat))).run P w = .ok (l.map fun f => (f.offset, P.cellsOf f.type)) w := by
    intro l
    induction l with
    | nil => intro _; rfl
    | cons f r ih =>
      intro hl
      obtain ⟨i, hi⟩ := hl f (by simp)
      simp only [List.mapM_cons, Sem.run_bind, sizeOf, typeInfo, run_program, Result.andThen_ok, hi, Sem.run_pure, List.map_cons]
      have := ih (fun g hg => hl g (by simp [hg]))
      simp only [sizeOf, typeInfo, Sem.run_bind] at this
      rw [this]
      simp [Program.cellsOf, hi]
  rw [Array.mapM_eq_mapM_toList]
  simp only [Sem.run_map, key F.toList hF, Result.andThen_ok]


theorem build_sound {ρ : Operand → Value} {ρA : Operand → Option AV} (hS : SimH P G ι h w) (hρ : ∀ x a, ρA x = some a → VRel ι h w a (ρ x)) {t : Nat} {parts : Array (Nat × Operand)} {cs z : List AV} {i : TI} {z0 : List PV}
    (ht : tinfo P t = some i) (hz : i.zero = some z0)
    (hk : (∃ fs, i.k = .struct fs ∧ fs.all (fun f => f.2.1 != 0) = true ∧ fillA (fun i => (fs[i]?).map fun f => (f.1, f.2.1)) (z0.map .p) (parts.toList.map fun q => (q.1, ρA q.2)) = some cs) ∨
      ∃ n e, i.k = .array n e ∧ sizeA P e ≠ 0 ∧ fillA (fun i => some (i * sizeA P e, sizeA P e)) (z0.map .p) (parts.toList.map fun q => (q.1, ρA q.2)) = some cs) :
    ∃ v, (Instr.build t (parts.map fun q => (q.1, ρ q.2))).run P w = .ok v w ∧ VRel ι h w (.agg cs) v := by
  obtain ⟨inf, d, h1, h2, h3, h4, h5, h6⟩ := tinfo_some ht
  obtain ⟨zv, hzr, hzl, hzv⟩ := zero_rel ht hz
  have hz1 : (z0.map AV.p).length = zv.cells.size := by simpa using hzl
  have hz2 : ∀ (j : Nat) x v, (z0.map AV.p)[j]? = some x → zv.cells[j]? = some v → VRel ι h w x v := by
    intro j x v hx hv
    simp only [List.getElem?_map, Option.map_eq_some_iff] at hx
    obtain ⟨y, hy, rfl⟩ := hx
    exact .p _ _ (hzv w _ j y v hy hv)
  rcases hk with ⟨fs, hk, hall, hf⟩ | ⟨n, e, hk, hs, hf⟩
  · rw [hk] at h3
    obtain ⟨F, rfl, rfl⟩ := kind_struct h3
    have hF : ∀ f ∈ F.toList, ∃ i, P.info? f.type = some i := by
      intro f hf
      simp only [List.all_map, List.all_eq_true, Function.comp_apply, bne_iff_ne, ne_eq] at hall
      have := hall f hf
      unfold Program.cellsOf at this
      cases hq : P.info? f.type with
      | none => rw [hq] at this; simp at this
      | some i => exact ⟨i, rfl⟩
    have hpl : (fun i : Nat => ((F.toList.map fun f => (f.offset, P.cellsOf f.type, f.type))[i]?).map fun f : Nat × Nat × Nat => (f.1, f.2.1)) = (fun i : Nat => (F.toList.map fun f => (f.offset, P.cellsOf f.type)).toArray[i]?) := by
      funext i
      simp
      rfl
    rw [hpl] at hf
    obtain ⟨d', e1, e2, e3, e4⟩ := fill_sound hρ _ parts.toList (z0.map .p) cs zv.cells hz1 hz2 hf
    refine ⟨.agg d', ?_, .agg _ _ e2 e4⟩
    have hm := mapM_places (P := P) (w := w) F hF
    simp only [Instr.build, Sem.run_bind, hzr w, Result.andThen_ok, run_underlying h2, Sem.run_pure] at hm ⊢
    rw [hm]
    simp only [Result.andThen_ok, Array.toList_map, e1]
    rfl
  · rw [hk] at h3
    have := kind_array h3; subst this
    obtain ⟨d', e1, e2, e3, e4⟩ := fill_sound hρ _ parts.toList (z0.map .p) cs zv.cells hz1 hz2 hf
    refine ⟨.agg d', ?_, .agg _ _ e2 e4⟩
    simp only [Instr.build, Sem.run_bind, hzr w, Result.andThen_ok, run_underlying h2, run_sizeA hs, Array.toList_map, e1]
    rfl

theorem not_own_size (hS : SimH P G ι h w) : ¬ own ι h w.heap.size := fun ho => by have := own_lt hS ho; omega

theorem alloc_garbage (hS : SimH P G ι h w) (o : Obj) : SimH P G ι h (w.alloc o) ∧ Evo h.length ι h w ι h (w.alloc o) :=
  hS.garbage (by simp) (fun k hk => by first | exact heap_alloc_old _ _ hk | exact heap_alloc_old _ _ _ hk) rfl rfl rfl

theorem buildSlice_sound {ρ : Operand → Value} {ρA : Operand → Option AV} (hS : SimH P G ι h w) (hρ : ∀ x a, ρA x = some a → VRel ι h w a (ρ x)) {t e size by1 s1 b1 : Nat} {zz : Option (List PV)} {kk : TK} {len : Nat} {parts : Array (Nat × Operand)} {z : List PV} {cs : List AV}
    (ht : tinfo P t = some ⟨.slice e, s1, b1, zz⟩) (he : tinfo P e = some ⟨kk, size, by1, some z⟩) (hlen : len * size ≤ 10000) (hzl : z.length = size) (hsz : size ≠ 0)
    (hf : fillA (fun i => some (i * size, size)) ((List.replicate len (z.map .p)).flatMap id) (parts.toList.map fun q => (q.1, ρA q.2)) = some cs) :
    ∃ arr, (Instr.buildSlice t len (parts.map fun q => (q.1, ρ q.2))).run P w = .ok (.slice (some ⟨w.heap.size, 0, none⟩) len len) (w.alloc (.cells arr e)) ∧ cs.length = len * size ∧ arr.size = cs.length ∧
      ∀ (i : Nat) x v, cs[i]? = some x → arr[i]? = some v → VRel ι h w x v := by
  obtain ⟨inf, d, h1, h2, h3, h4, h5, h6⟩ := tinfo_some ht
  have := kind_slice h3; subst this
  obtain ⟨zv, hzr, hzl', hzv⟩ := zero_rel he rfl
  have hzs : zv.cells.size = size := by omega
  have hrl : ∀ row ∈ List.replicate len (z.map AV.p), row.length = size := by
    intro row hr; rw [List.eq_of_mem_replicate hr]; simpa using hzl
  have hfl := flat_length _ hrl
  rw [List.length_replicate] at hfl
  let arr0 : Array Value := (Array.range (len * size)).map (fun k => (if len * size = 0 then (#[] : Array Value) else zv.cells)[k % (if len * size = 0 then (#[] : Array Value) else zv.cells).size]!)
  have ha0 : ((List.replicate len (z.map AV.p)).flatMap id).length = arr0.size := by simp only [arr0, Array.size_map, Array.size_range, hfl]
  have ha1 : ∀ (j : Nat) x v, ((List.replicate len (z.map AV.p)).flatMap id)[j]? = some x → arr0[j]? = some v → VRel ι h w x v := by
    intro j x v hx hv
    have hj := getElem?_lt hx
    rw [hfl] at hj
    have hne : len * size ≠ 0 := by omega
    have hm : j % size < size := Nat.mod_lt _ (by omega)
    have hdm : j / size * size + j % size = j := by rw [Nat.mul_comm]; exact Nat.div_add_mod j size
    have := flat_get _ hrl (j / size) (j % size) hm
    rw [hdm, hx] at this
    have hv2 : zv.cells[j % size]? = some v := by
      simp only [arr0, hne, if_false, Array.getElem?_map, Option.map_eq_some_iff] at hv
      obtain ⟨k, hk, hkv⟩ := hv
      have : k = j := by
        have hjr : j < (Array.range (len * size)).size := by simpa using hj
        rw [Array.getElem?_eq_getElem hjr] at hk
        simpa using hk.symm
      subst this
      have hlt : k % zv.cells.size < zv.cells.size := by rw [hzs]; exact hm
      rw [getElem!_pos zv.cells _ hlt] at hkv
      rw [← hkv, Array.getElem?_eq_getElem (by rw [hzs]; exact hm)]
      simp only [hzs]
    unfold get2 at this
    have hi : j / size < len := by
      rw [Nat.div_lt_iff_lt_mul (by omega)]; exact hj
    rw [List.getElem?_replicate, if_pos hi] at this
    simp only [Option.bind_some, List.getElem?_map] at this
    obtain ⟨y, hy, hyx⟩ := Option.map_eq_some_iff.mp this.symm
    rw [← hyx]
    exact .p _ _ (hzv w _ _ y v hy hv2)
  obtain ⟨arr, e1, e2, e3, e4⟩ := fill_sound hρ _ parts.toList _ cs arr0 ha0 ha1 hf
  refine ⟨arr, ?_, by rw [e3, hfl], e2.symm, e4⟩
  have h24 : ¬ len * size > 2 ^ 24 := by omega
  simp only [Instr.buildSlice, Sem.run_bind, run_underlying h2, Result.andThen_ok, run_sizeOf' he, h24, if_false, Sem.run_pure]
  by_cases hz0 : len * size = 0
  · simp only [hz0, if_true, Sem.run_pure, Result.andThen_ok]
    simp only [arr0, hz0, if_true] at e1
    simp only [Array.toList_map, e1, Sem.run_bind, newRow, run_newObj, Result.andThen_ok, Sem.run_pure]
    rfl
  · simp only [hz0, if_false, Sem.run_bind, hzr w, Result.andThen_ok, Sem.run_pure]
    simp only [arr0, hz0, if_false] at e1
    simp only [Array.toList_map, e1, Sem.run_bind, newRow, run_newObj, Result.andThen_ok, Sem.run_pure]
    rfl


theorem op_value {m : Sem Value} {o : Oper} (hS : SimH P G ι h w) {r : AV} {v : Value} (hm : m.run P w = .ok v w) (hr : VRel ι h w r v) : Sound P G ι h w (do Pure.pure (.value (← m)) : Sem Next) r h :=
  .pure hS (by simp [Sem.run_bind, hm]) hr

theorem op_value' {m : Sem Value} {r : AV} {v : Value} {w' : World} {ι' : Nat → Nat × Nat} (hm : m.run P w = .ok v w') (hS : SimH P G ι' h' w') (hr : VRel ι' h' w' r v) (he : Evo h.length ι h w ι' h' w') :
    Sound P G ι h w (do Pure.pure (.value (← m)) : Sem Next) r h' := ⟨v, w', ι', .inl (by simp [Sem.run_bind, hm]), hS, hr, he⟩

theorem box_sound (hS : SimH P G ι h w) (t : Nat) {cs : List AV} {vs : Array Value} (hne : cs ≠ []) (hl : cs.length = vs.size) (hv : ∀ (i : Nat) x v, cs[i]? = some x → vs[i]? = some v → VRel ι h w x v) :
    ∃ w' ι', w' = w.alloc (.cells vs t) ∧ SimH P G ι' (h ++ [some ⟨0, cs⟩]) w' ∧ VRel ι' (h ++ [some ⟨0, cs⟩]) w' (.ptr h.length 0 0) (.pointer (some ⟨w.heap.size, 0, none⟩)) ∧ Evo h.length ι h w ι' (h ++ [some ⟨0, cs⟩]) w' := by
  obtain ⟨q1, q2⟩ := alloc_sound hS cs hne vs t (Nat.le_of_eq hl) hv
  refine ⟨_, _, rfl, q1, ?_, q2⟩
  have hl : liveAt (h ++ [some ⟨0, cs⟩]) h.length 0 := ⟨_, by simp; rfl, rfl⟩
  have := ptr_rel (ι := fun i => if i = h.length then (w.heap.size, 0) else ι i) (w := w.alloc (.cells vs t)) hl 0
  simpa using this

theorem arr1 {x : AV} {vs : Array Value} (hv : VRels ι h w [x] vs) : ∃ v, vs = #[v] ∧ VRel ι h w x v := by
  obtain ⟨h1, h2⟩ := hv
  have hs : vs.size = 1 := by simpa using h1.symm
  refine ⟨vs[0], ?_, h2 0 x _ rfl (by simp [hs])⟩
  apply Array.ext (by simpa using hs)
  intro i a b
  have : i = 0 := by simp at b; omega
  subst this; rfl

theorem arr2 {x y : AV} {vs : Array Value} (hv : VRels ι h w [x, y] vs) : ∃ v u, vs = #[v, u] ∧ VRel ι h w x v ∧ VRel ι h w y u := by
  obtain ⟨h1, h2⟩ := hv
  have hs : vs.size = 2 := by simpa using h1.symm
  refine ⟨vs[0], vs[1], ?_, h2 0 x _ rfl (by simp [hs]), h2 1 y _ rfl (by simp [hs])⟩
  apply Array.ext (by simpa using hs)
  intro i a b
  have : i = 0 ∨ i = 1 := by simp at b; omega
  rcases this with rfl | rfl <;> rfl

theorem builtin_sound (hS : SimH P G ι h w) {b : Builtin} {ats : Array TypeId} {ty : TypeId} {consts : Array Bool} {xs : List AV} {vs : Array Value} {r : AV}
    (hv : VRels ι h w xs vs) (hop : builtinA P b ats.toList xs h = some (r, h')) : Sound P G ι h w (builtin b ats ty consts vs) r h' := by
  unfold builtinA at hop
  split at hop
  · -- len
    rename_i t x hat
    obtain ⟨v, rfl, hx⟩ := arr1 hv
    have hat' : ats = #[t] := by have := congrArg List.toArray hat; simpa using this
    subst hat'
    split at hop
    · rename_i e s1 b1 z1 ht
      obtain ⟨n, hn, he⟩ := Option.map_eq_some_iff.mp hop
      simp only [Prod.mk.injEq] at he; obtain ⟨rfl, rfl⟩ := he
      obtain ⟨_, d, _, u1, k1, _⟩ := tinfo_some ht
      have := kind_slice k1; subst this
      split at hn
      · cases hn
      · rename_i hns
        obtain ⟨_, hle, hcase⟩ := len_sound hx hn
        refine .pure hS (v := .int .i64 n) ?_ (.int _ _ (inr64 hle))
        rcases hcase with ⟨A, cc, rfl⟩ | ⟨s, rfl, rfl⟩
        · simp [builtin, Builtin.len_, Sem.run_bind, run_underlying u1, goInt]
        · cases hx with
          | p _ _ hx => cases hx; exact absurd rfl (hns _)
    · rename_i s1 b1 z1 ht
      split at hop
      · rename_i s
        cases hop
        obtain ⟨_, d, _, u1, k1, _⟩ := tinfo_some ht
        have := kind_str k1; subst this
        cases hx with
        | p _ _ hx =>
          cases hx
          rename_i hs
          exact .pure hS (v := .int .i64 s.size) (by simp [builtin, Builtin.len_, Sem.run_bind, run_underlying u1, goInt]) (.int _ _ (inr64 (by omega)))
      · cases hop
    · rename_i n e s1 b1 z1 ht
      split at hop
      case isFalse => cases hop
      rename_i hn
      cases hop
      obtain ⟨_, d, _, u1, k1, _⟩ := tinfo_some ht
      have := kind_array k1; subst this
      exact .pure hS (v := .int .i64 n) (by simp [builtin, Builtin.len_, Sem.run_bind, run_underlying u1, goInt]) (.int _ _ (inr64 (by omega)))
    · cases hop
  · -- append
    rename_i t u x y hat
    obtain ⟨v, q, rfl, hx, hy⟩ := arr2 hv
    have hat' : ats = #[t, u] := by have := congrArg List.toArray hat; simpa using this
    subst hat'
    split at hop
    case isFalse => cases hop
    rename_i hu
    subst hu
    obtain ⟨z, w', ι', e1, e2, e3, e4⟩ := append_sound hS ty hx hy hop
    exact ⟨z, w', ι', .inl (by simp [builtin, Sem.run_bind, e1]), e2, e3, e4⟩
  · -- max
    rename_i k a k' c
    obtain ⟨v, q, rfl, hx, hy⟩ := arr2 hv
    split at hop
    case isFalse => cases hop
    rename_i hk
    subst hk
    cases hop
    obtain ⟨rfl, r1⟩ := hx.int_inv
    obtain ⟨rfl, r2⟩ := hy.int_inv
    refine .pure hS (v := .int k (if a < c then c else a)) (by simp [builtin, Sem.run_bind, Builtin.max_, Builtin.max2]) (.int _ _ (by split <;> assumption))
  · -- min
    rename_i k a k' c
    obtain ⟨v, q, rfl, hx, hy⟩ := arr2 hv
    split at hop
    case isFalse => cases hop
    rename_i hk
    subst hk
    cases hop
    obtain ⟨rfl, r1⟩ := hx.int_inv
    obtain ⟨rfl, r2⟩ := hy.int_inv
    refine .pure hS (v := .int k (if c < a then c else a)) (by simp [builtin, Sem.run_bind, Builtin.min_, Builtin.min2]) (.int _ _ (by split <;> assumption))
  · cases hop

theorem rep_get {α : Type} {l : List α} {sz : Nat} (hl : l.length = sz) : ∀ (n j : Nat) (x : α), ((List.replicate n l).flatMap id)[j]? = some x → j < n * sz ∧ l[j % sz]? = some x
  | 0, j, x, h => by simp at h
  | n + 1, j, x, h => by
    simp only [List.replicate_succ, List.flatMap_cons, id_eq] at h
    rcases Nat.lt_or_ge j sz with hj | hj
    · rw [List.getElem?_append_left (by omega)] at h
      refine ⟨?_, by rw [Nat.mod_eq_of_lt hj]; exact h⟩
      rw [Nat.add_mul]; omega
    · rw [List.getElem?_append_right (by omega), hl] at h
      obtain ⟨h1, h2⟩ := rep_get hl n (j - sz) x h
      refine ⟨by rw [Nat.add_mul]; omega, ?_⟩
      have : (j - sz) % sz = j % sz := by
        have : j = (j - sz) + sz := by omega
        conv => rhs; rw [this]
        exact (Nat.add_mod_right _ _).symm
      rw [← this]; exact h2

theorem rep_len {α : Type} {l : List α} {sz : Nat} (hl : l.length = sz) : ∀ n : Nat, ((List.replicate n l).flatMap id).length = n * sz
  | 0 => by simp
  | n + 1 => by
    simp only [List.replicate_succ, List.flatMap_cons, id_eq, List.length_append, rep_len hl n, hl, Nat.add_mul]; omega

/-- A row that is made, of zeros. -/
theorem make_sound (hS : SimH P G ι h w) {t e size bytes s1 b1 : Nat} {zz : Option (List PV)} {kk : TK} {z : List PV} {n : Int} (k1 k2 : IntKind) (ht : tinfo P t = some ⟨.slice e, s1, b1, zz⟩) (he : tinfo P e = some ⟨kk, size, bytes, some z⟩)
    (h0 : 0 ≤ n) (hn : n ≤ 16777216) (hb : bytes ≤ 1048576) (hz : z.length = size) (hs : size ≠ 0) :
    ∃ arr : Array Value, (Instr.makeSlice t (.int k1 n) (.int k2 n)).run P w = .ok (.slice (some ⟨w.heap.size, 0, none⟩) n.toNat n.toNat) (w.alloc (.cells arr e)) ∧ arr.size = n.toNat * size ∧
      ∀ (j : Nat) x v, ((List.replicate n.toNat (z.map AV.p)).flatMap id)[j]? = some x → arr[j]? = some v → VRel ι h w x v := by
  obtain ⟨inf, d, h1, h2, h3, h4, h5, h6⟩ := tinfo_some ht
  have := kind_slice h3; subst this
  obtain ⟨ie, de, g1, g2, g3, g4, g5, g6⟩ := tinfo_some he
  obtain ⟨zv, hz1, hz2⟩ := Option.bind_eq_some_iff.mp g6.symm
  obtain ⟨l1, _, l3⟩ := constPVs_rel (w := w) (o := own ι h) hz2
  have hzs : zv.cells.size = size := by rw [← hz, l1]; simp
  have hby : (ie.bytes : Int) * n ≤ 281474976710656 := by
    have e1 : (ie.bytes : Int) ≤ 1048576 := by have : ie.bytes = bytes := g5; omega
    have e2 : (ie.bytes : Int) * n ≤ 1048576 * n := Int.mul_le_mul_of_nonneg_right e1 h0
    omega
  refine ⟨madeCells zv.cells (n.toNat * size), ?_, size_madeCells _ _, fun j x v hx hv => ?_⟩
  · have := run_make (P := P) w t e ie zv h2 g1 hz1 k1 k2 n n h0 (Int.le_refl _) hby (by omega)
    rw [g4] at this
    exact this
  · obtain ⟨hj, hx⟩ := rep_get (by simpa using hz) n.toNat j x hx
    simp only [List.getElem?_map, Option.map_eq_some_iff] at hx
    obtain ⟨y, hy, rfl⟩ := hx
    have hm : j % size < zv.cells.size := by rw [hzs]; exact Nat.mod_lt _ (by omega)
    unfold madeCells at hv
    simp only [Array.getElem?_map, Option.map_eq_some_iff] at hv
    obtain ⟨i, hi, rfl⟩ := hv
    have hij : i = j := by
      simp only [Array.getElem?_range] at hi
      by_cases hc : j < n.toNat * size
      · simp [hc] at hi; exact hi.symm
      · simp [hc] at hi
    subst hij
    rw [hzs]
    have e : zv.cells[i % size]! = zv.cells[i % size] := by simp [hm]
    rw [e]
    exact .p _ _ (l3 (i % size) y _ hy (by simp [hm]))

theorem opA_sound {rl : List String} {o : Oper} {ρ : Operand → Value} {ρA : Operand → Option AV} {r : AV} (hS : SimH P G ι h w) (hρ : ∀ x a, ρA x = some a → VRel ι h w a (ρ x)) (hop : opA P rl o ρA h = some (r, h')) :
    Sound P G ι h w (execOp ρ o) r h' := by
  unfold opA at hop
  unfold execOp
  split at hop
  · -- move
    rename_i x ho
    obtain ⟨a, ha, he⟩ := Option.map_eq_some_iff.mp hop
    simp only [Prod.mk.injEq] at he; obtain ⟨rfl, rfl⟩ := he
    simp only [ho]
    exact .pure hS rfl (hρ x a ha)
  · rename_i x ho
    obtain ⟨a, ha, he⟩ := Option.map_eq_some_iff.mp hop
    simp only [Prod.mk.injEq] at he; obtain ⟨rfl, rfl⟩ := he
    simp only [ho]
    exact .pure hS rfl (hρ x a ha)
  · -- pick
    rename_i c a b ho
    split at hop
    · rename_i t x y hc ha hb
      cases hop
      simp only [ho]
      have e := (hρ c _ hc).bool_inv
      exact .pure hS (by simp [Sem.run_bind, e, asBool]) (sel_rel (hρ a x ha) (hρ b y hb))
    · cases hop
  · -- alloc
    rename_i t ho
    split at hop
    · rename_i kk s1 b1 z ht
      split at hop
      · cases hop
      · rename_i hz0
        cases hop
        simp only [ho]
        obtain ⟨zv, hzr, hzl, hzv⟩ := zero_rel ht rfl
        obtain ⟨w', ι', rfl, q1, q2, q3⟩ := box_sound hS t (cs := z.map .p) (vs := zv.cells) (by simpa using hz0) (by simpa using hzl) (fun j x v hx hv => by
          simp only [List.getElem?_map, Option.map_eq_some_iff] at hx
          obtain ⟨y, hy, rfl⟩ := hx
          exact .p _ _ (hzv w _ j y v hy hv))
        refine op_value' (w' := w.alloc (.cells zv.cells t)) ?_ q1 q2 q3
        simp [Instr.alloc, Sem.run_bind, hzr w, newVar, newRow]
    · cases hop
  · -- box
    rename_i t x ho
    split at hop
    · rename_i cs hcs
      split at hop
      · cases hop
      · rename_i hne
        cases hop
        simp only [ho]
        obtain ⟨a, ha, hca⟩ := Option.bind_eq_some_iff.mp hcs
        obtain ⟨q1, q2, q3⟩ := cellsA_rel (hρ x a ha) hca
        obtain ⟨w', ι', rfl, p1, p2, p3⟩ := box_sound hS t (cs := cs) (vs := (ρ x).cells) (by simpa using hne) q1 q3
        refine op_value' (w' := w.alloc (.cells (ρ x).cells t)) ?_ p1 p2 p3
        simp [Instr.box, Sem.run_bind, newVar, newRow]
    · cases hop
  · -- build
    rename_i t parts ho
    simp only [ho]
    split at hop
    · rename_i fs s1 b1 z ht
      split at hop
      case isFalse => cases hop
      rename_i hall
      obtain ⟨cs, hcs, he⟩ := Option.map_eq_some_iff.mp hop
      simp only [Prod.mk.injEq] at he; obtain ⟨rfl, rfl⟩ := he
      obtain ⟨v, e1, e2⟩ := build_sound (z := []) hS hρ ht rfl (.inl ⟨fs, rfl, hall, hcs⟩)
      exact op_value (o := o) hS e1 e2
    · rename_i n e s1 b1 z ht
      split at hop
      case isFalse => cases hop
      rename_i hs
      obtain ⟨cs, hcs, he⟩ := Option.map_eq_some_iff.mp hop
      simp only [Prod.mk.injEq] at he; obtain ⟨rfl, rfl⟩ := he
      obtain ⟨v, e1, e2⟩ := build_sound (z := []) hS hρ ht rfl (.inr ⟨n, e, rfl, hs, hcs⟩)
      exact op_value (o := o) hS e1 e2
    · cases hop
  · -- buildSlice
    rename_i t len parts ho
    simp only [ho]
    split at hop
    case h_2 => cases hop
    rename_i e s1 b1 zz ht
    split at hop
    case h_2 => cases hop
    rename_i kk size by1 z he
    split at hop
    case isFalse => cases hop
    rename_i hc
    obtain ⟨c1, c2, c3⟩ := hc
    split at hop
    case h_2 => cases hop
    rename_i cs hf
    obtain ⟨arr, e1, e2, e3, e4⟩ := buildSlice_sound hS hρ ht he c1 c2 c3 hf
    obtain ⟨g1, g2⟩ := alloc_garbage hS (.cells arr e)
    have hnc : ¬ own ι h w.heap.size := not_own_size hS
    split at hop
    · rename_i hz; subst hz; cases hop
      exact op_value' e1 g1 (.p _ _ (.slz _ _)) g2
    · rename_i hz
      have hlb : len ≤ 9223372036854775807 := by
        have : len * 1 ≤ len * size := Nat.mul_le_mul_left _ (by omega)
        omega
      split at hop
      · cases hop
        have hne : cs ≠ [] := by
          intro e0; subst e0
          have : 0 < len * size := Nat.mul_pos (by omega) (by omega)
          simp at e2; omega
        obtain ⟨q1, q2⟩ := alloc_sound hS cs hne arr e (Nat.le_of_eq e3.symm) e4
        refine op_value' e1 q1 ?_ q2
        have hl : liveAt (h ++ [some ⟨0, cs⟩]) h.length 0 := ⟨_, by simp; rfl, rfl⟩
        exact .ref _ _ _ _ _ _ _ hlb (live_g hl).1 (live_g hl).2 fun _ => .inr ⟨by simp, Nat.le_refl _, ⟨⟨0, cs⟩, by simp, hne⟩, arr, e, (0, 0), by simpa using heap_alloc_new w _, by simp; omega⟩
      · obtain ⟨l, hl, he'⟩ := Option.map_eq_some_iff.mp hop
        simp only [Prod.mk.injEq] at he'; obtain ⟨rfl, rfl⟩ := he'
        have := pvs_map hl; subst this
        refine op_value' e1 g1 (.p _ _ (prel_chunk l size len len w.heap.size 0 (by simpa using e2) (Nat.le_refl _) hlb hnc (by simp) fun j x hx => ?_)) g2
        have hj : j < arr.size := by have := getElem?_lt hx; rw [e3]; simpa using this
        refine ⟨arr[j], by rw [World.cell?_alloc_at _ _ _ _ rfl]; simp [hj], ?_⟩
        exact (((e4 j (.p x) arr[j] (by simp [hx]) (by simp [hj])).evo g2).pv)
  · -- makeSlice
    rename_i t l c ho
    simp only [ho]
    split at hop
    case h_2 => cases hop
    rename_i e s1 b1 zz kl n km m ht hl hc
    split at hop
    case h_2 => cases hop
    rename_i kk size bytes z he
    split at hop
    case isFalse => cases hop
    rename_i hcond
    obtain ⟨c1, c2, c3, c4, c5, c6⟩ := hcond
    subst c2
    obtain ⟨arr, e1, e2, e3⟩ := make_sound hS kl km ht he c1 c3 c4 c5 c6
    obtain ⟨el, _⟩ := (hρ l _ hl).int_inv
    obtain ⟨ec, _⟩ := (hρ c _ hc).int_inv
    rw [← el, ← ec] at e1
    obtain ⟨g1, g2⟩ := alloc_garbage hS (.cells arr e)
    split at hop
    · rename_i hz; subst hz; cases hop
      exact op_value' e1 g1 (.p _ _ (.slz _ _)) g2
    · rename_i hz
      cases hop
      have hlen := rep_len (l := z.map AV.p) (sz := size) (by simpa using c5) n.toNat
      have hne : (List.replicate n.toNat (z.map AV.p)).flatMap id ≠ [] := by
        intro e0
        rw [e0] at hlen
        have : 0 < n.toNat * size := Nat.mul_pos (by omega) (by omega)
        simp at hlen; omega
      obtain ⟨q1, q2⟩ := alloc_sound hS _ hne arr e (Nat.le_of_eq (hlen.trans e2.symm)) e3
      refine op_value' e1 q1 ?_ q2
      have hl : liveAt (h ++ [some ⟨0, (List.replicate n.toNat (z.map AV.p)).flatMap id⟩]) h.length 0 := ⟨_, by simp; rfl, rfl⟩
      exact .ref _ _ _ _ _ _ _ (by omega) (live_g hl).1 (live_g hl).2 fun _ => .inr ⟨by simp, Nat.le_refl _, ⟨⟨0, _⟩, by simp, hne⟩, arr, e, (0, 0), by simpa using heap_alloc_new w _, by simp; omega⟩
  · -- load
    rename_i t a ho
    simp only [ho]
    obtain ⟨x, hx, hop⟩ := Option.bind_eq_some_iff.mp hop
    obtain ⟨y, hy, he⟩ := Option.map_eq_some_iff.mp hop
    simp only [Prod.mk.injEq] at he; obtain ⟨rfl, rfl⟩ := he
    obtain ⟨u, e1, e2⟩ := load_sound (P := P) hS (hρ a x hx) hy
    exact op_value (o := o) hS e1 e2
  · -- store
    rename_i t a x ho
    simp only [ho]
    split at hop
    · rename_i a' x' ha hx
      obtain ⟨h2, hh, he⟩ := Option.map_eq_some_iff.mp hop
      simp only [Prod.mk.injEq] at he; obtain ⟨rfl, rfl⟩ := he
      obtain ⟨w', e1, e2, e3⟩ := store_op_sound hS (hρ a a' ha) (hρ x x' hx) hh
      exact ⟨undef, w', ι, .inr ⟨by simp [Sem.run_bind, e1], rfl⟩, e2, undef_rel, e3⟩
    · cases hop
  · -- nilCheck
    rename_i x ho
    simp only [ho]
    split at hop
    · rename_i b g off hx
      split at hop
      · rename_i hl
        cases hop
        obtain ⟨e, _⟩ := (hρ x _ hx).ptr_inv (blkAt_isSome hl)
        refine .pure hS ?_ (hρ x _ hx)
        rw [e]; rfl
      · cases hop
    · rename_i cells hx
      cases hop
      obtain ⟨blk, off, e, _⟩ := (hρ x _ hx).pin_inv
      refine .pure hS ?_ (hρ x _ hx)
      rw [e]; rfl
    · cases hop
  · -- binOp
    rename_i op t x y yt ho
    simp only [ho]
    split at hop
    · rename_i a b ha hb
      obtain ⟨c, hc, he⟩ := Option.map_eq_some_iff.mp hop
      simp only [Prod.mk.injEq] at he; obtain ⟨rfl, rfl⟩ := he
      obtain ⟨q, e1, e2⟩ := bin_sound (hρ x a ha) (hρ y b hb) hc x y
      exact op_value (o := o) hS e1 e2
    · cases hop
  · -- unOp
    rename_i op t x ho
    simp only [ho]
    obtain ⟨a, ha, hop⟩ := Option.bind_eq_some_iff.mp hop
    obtain ⟨y, hy, he⟩ := Option.map_eq_some_iff.mp hop
    simp only [Prod.mk.injEq] at he; obtain ⟨rfl, rfl⟩ := he
    unfold unA at hy
    split at hy
    · rename_i k n
      cases hy
      obtain ⟨e, _⟩ := (hρ x _ ha).int_inv
      exact .pure hS (by simp [Sem.run_bind, e, Op.unary, Op.intArith]) (.int _ _ (ints_range _))
    · rename_i b
      cases hy
      have e := (hρ x _ ha).bool_inv
      exact .pure hS (by simp [Sem.run_bind, e, Op.unary]) .b
    · cases hy
  · -- convert
    rename_i src dst x ho
    simp only [ho]
    split at hop
    · rename_i k s1 b1 z1 k' s2 b2 z2 k'' n hs hd hx
      obtain ⟨e, hr⟩ := (hρ x _ hx).int_inv
      obtain ⟨_, d1, _, u1, q1, _⟩ := tinfo_some hs
      obtain ⟨_, d2, _, u2, q2, _⟩ := tinfo_some hd
      have := kind_int q1; subst this
      have := kind_int q2; subst this
      split at hop
      · rename_i hk
        obtain ⟨rfl, rfl⟩ := hk
        cases hop
        have hw : k''.wrap n = n := by
          unfold InRange IntKind.min IntKind.max IntKind.signed IntKind.bits at hr
          unfold IntKind.wrap IntKind.signed IntKind.bits
          cases k'' <;> simp at hr ⊢ <;> (try split) <;> omega
        exact .pure hS (by simp [Sem.run_bind, e, convert, run_underlying u1, run_underlying u2, Conv.intToInt, hw]) (.int _ _ hr)
      · cases hop
        exact .pure hS (by simp [Sem.run_bind, e, convert, run_underlying u1, run_underlying u2, Conv.intToInt]) (.int _ _ (ints_range _))
    · cases hop
  · -- makeFunc
    rename_i f first captured ho
    simp only [ho]
    split at hop
    · rename_i hf
      obtain ⟨vs, hvs, he⟩ := Option.map_eq_some_iff.mp hop
      simp only [Prod.mk.injEq] at he; obtain ⟨rfl, rfl⟩ := he
      have h0 : first = #[] := Array.eq_empty_of_size_eq_zero hf
      subst h0
      obtain ⟨q1, q2⟩ := vrels_evals hρ hvs
      exact .pure hS (v := .func (.func f) #[] (captured.map ρ)) (by simp [Sem.run_bind, Instr.makeFunc]) (.fn _ _ _ q1 q2)
    · cases hop
  · -- slice
    rename_i t x lo hi mx ho
    simp only [ho]
    split at hop
    · rename_i a ha
      obtain ⟨y, hy, he⟩ := Option.map_eq_some_iff.mp hop
      simp only [Prod.mk.injEq] at he; obtain ⟨rfl, rfl⟩ := he
      obtain ⟨u, e1, e2⟩ := slice_sound (P := P) hS hρ (hρ x a ha) hy
      exact op_value (o := o) hS e1 e2
    · cases hop
  · -- fieldAddr
    rename_i t x f ho
    simp only [ho]
    obtain ⟨a, ha, hop⟩ := Option.bind_eq_some_iff.mp hop
    obtain ⟨y, hy, he⟩ := Option.map_eq_some_iff.mp hop
    simp only [Prod.mk.injEq] at he; obtain ⟨rfl, rfl⟩ := he
    obtain ⟨u, e1, e2⟩ := fieldAddr_sound (P := P) hS (hρ x a ha) hy
    exact op_value (o := o) hS e1 e2
  · -- field
    rename_i t x f ho
    simp only [ho]
    obtain ⟨a, ha, hop⟩ := Option.bind_eq_some_iff.mp hop
    obtain ⟨y, hy, he⟩ := Option.map_eq_some_iff.mp hop
    simp only [Prod.mk.injEq] at he; obtain ⟨rfl, rfl⟩ := he
    obtain ⟨u, e1, e2⟩ := field_sound (P := P) (hρ x a ha) hy
    exact op_value (o := o) hS e1 e2
  · -- indexAddr
    rename_i t x ix ho
    simp only [ho]
    split at hop
    · rename_i a b ha hb
      obtain ⟨y, hy, he⟩ := Option.map_eq_some_iff.mp hop
      simp only [Prod.mk.injEq] at he; obtain ⟨rfl, rfl⟩ := he
      obtain ⟨u, e1, e2⟩ := indexAddr_sound (P := P) hS (hρ x a ha) (hρ ix b hb) hy
      exact op_value (o := o) hS e1 e2
    · cases hop
  · -- index
    rename_i t x ix ho
    simp only [ho]
    split at hop
    · rename_i a b ha hb
      obtain ⟨y, hy, he⟩ := Option.map_eq_some_iff.mp hop
      simp only [Prod.mk.injEq] at he; obtain ⟨rfl, rfl⟩ := he
      obtain ⟨u, e1, e2⟩ := index_sound (P := P) (hρ x a ha) (hρ ix b hb) hy
      exact op_value (o := o) hS e1 e2
    · cases hop
  · -- extract
    rename_i t i ho
    simp only [ho]
    split at hop
    · rename_i vs hv
      obtain ⟨y, hy, he⟩ := Option.map_eq_some_iff.mp hop
      simp only [Prod.mk.injEq] at he; obtain ⟨rfl, rfl⟩ := he
      have hx := hρ t _ hv
      generalize hq : ρ t = u at hx
      cases hx with
      | tup _ us hl hr =>
        have hi : i < us.size := by have := getElem?_lt hy; omega
        exact .pure hS (v := us[i]) (by simp [Sem.run_bind, hq, Instr.extract, hi]) (hr i y _ hy (by simp [hi]))
    · cases hop
  · -- builtin
    rename_i c ho
    simp only [ho]
    split at hop
    · rename_i b hb
      obtain ⟨xs, hxs, hop⟩ := Option.bind_eq_some_iff.mp hop
      obtain ⟨v1, v2⟩ := vrels_evals hρ hxs
      obtain ⟨consts, hrun⟩ : ∃ consts, (do let d ← resolve ρ c o.type; invoke d.target d.args : Sem Next).run P w = (builtin b c.argTypes o.type consts (c.args.map ρ)).run P w :=
        ⟨_, by simp only [resolve, hb, Sem.run_bind, Sem.run_pure, Result.andThen_ok, invoke]; rfl⟩
      have hv0 : VRels ι h w xs (c.args.map ρ) := ⟨v1, v2⟩
      suffices hX : Sound P G ι h w (builtin b c.argTypes o.type consts (c.args.map ρ)) r h' by
        obtain ⟨v, w', ι', a1, a2, a3, a4⟩ := hX
        exact ⟨v, w', ι', by rw [hrun]; exact a1, a2, a3, a4⟩
      generalize c.args.map ρ = vs at hv0 ⊢
      generalize c.argTypes = ats at hop ⊢
      exact builtin_sound hS hv0 hop
    · cases hop
  · cases hop

end
end Go.Proofs.YtlophgkgmhcagaaDoor.AM
