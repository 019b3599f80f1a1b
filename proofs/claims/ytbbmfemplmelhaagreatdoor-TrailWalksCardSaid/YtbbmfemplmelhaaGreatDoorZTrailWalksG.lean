/- Proved here, in parts, for one law: contracts of the functions that the laws call, and the plain facts behind them. Conditions: none. -/
import Derived.Test.YtbbmfemplmelhaaGreatDoorZTrailWalksF
import Derived.Shelf.SlSortCmp.WholeK
import Derived.Shelf.SlGeneric
import Derived.Shelf.SlSortCmp.NoneTotal
set_option linter.unusedVariables false
set_option linter.unusedSimpArgs false
set_option linter.defProp false
set_option maxRecDepth 4000
set_option maxHeartbeats 4000000
namespace Go.Proofs.YtbbmfemplmelhaaGreatDoor.AM
open Go Go.Proofs
end Go.Proofs.YtbbmfemplmelhaaGreatDoor.AM
namespace Go.Proofs
open Go.Shelf
def Tryz.sortIv_ren : Go.Shelf.Ren := ⟨fun | 6 => 39 | 15 => 61 | 14 => 60 | 28 => 92 | 29 => 93 | 20 => 84 | 21 => 85 | 22 => 86 | 23 => 87 | 24 => 88 | 25 => 89 | 26 => 90 | 27 => 91 | 46 => 121 | 47 => 122 | 48 => 123 | 49 => 124 | 50 => 125 | 57 => 143 | n => n, fun | 22 => 44 | 24 => 28 | 25 => 94 | 3 => 3 | 39 => 124 | 0 => 0 | 53 => 157 | 55 => 159 | 4 => 4 | 46 => 150 | 45 => 149 | 50 => 154 | 5 => 5 | 9 => 9 | 66 => 176 | 70 => 180 | 76 => 192 | 77 => 51 | n => n, fun | n => n⟩
theorem Tryz.sortIv : Go.Proofs.SlLaysF0.n6 Tryz.prog Tryz.sortIv_ren := {
  mixed := by kernel_rfl
  f6 := ⟨Tryz.f39.name, by decide, Tryz.func39.trans (congrArg some (by kernel_rfl))⟩
  f14 := ⟨Tryz.f60.name, by decide, Tryz.func60.trans (congrArg some (by kernel_rfl))⟩
  f15 := Tryz.func61.trans (congrArg some (by kernel_rfl))
  f20 := ⟨Tryz.f84.name, by decide, Tryz.func84.trans (congrArg some (by kernel_rfl))⟩
  f21 := ⟨Tryz.f85.name, by decide, Tryz.func85.trans (congrArg some (by kernel_rfl))⟩
  f22 := ⟨Tryz.f86.name, by decide, Tryz.func86.trans (congrArg some (by kernel_rfl))⟩
  f23 := ⟨Tryz.f87.name, by decide, Tryz.func87.trans (congrArg some (by kernel_rfl))⟩
  f24 := ⟨Tryz.f88.name, by decide, Tryz.func88.trans (congrArg some (by kernel_rfl))⟩
  f25 := ⟨Tryz.f89.name, by decide, Tryz.func89.trans (congrArg some (by kernel_rfl))⟩
  f26 := ⟨Tryz.f90.name, by decide, Tryz.func90.trans (congrArg some (by kernel_rfl))⟩
  f27 := ⟨Tryz.f91.name, by decide, Tryz.func91.trans (congrArg some (by kernel_rfl))⟩
  f28 := Tryz.func92.trans (congrArg some (by kernel_rfl))
  f29 := Tryz.func93.trans (congrArg some (by kernel_rfl))
  f46 := ⟨Tryz.f121.name, by decide, Tryz.func121.trans (congrArg some (by kernel_rfl))⟩
  f47 := Tryz.func122.trans (congrArg some (by kernel_rfl))
  f48 := Tryz.func123.trans (congrArg some (by kernel_rfl))
  f49 := ⟨Tryz.f124.name, by decide, Tryz.func124.trans (congrArg some (by kernel_rfl))⟩
  f50 := ⟨Tryz.f125.name, by decide, Tryz.func125.trans (congrArg some (by kernel_rfl))⟩
  f57 := ⟨Tryz.f143.name, by decide, Tryz.func143.trans (congrArg some (by kernel_rfl))⟩
  t0 := Tryz.underlying0
  a0 := Tryz.isAgg0
  z0 := Tryz.sizeOf0
  v0 := Tryz.zeroValue0
  t3 := Tryz.underlying3
  a3 := Tryz.isAgg3
  z3 := Tryz.sizeOf3
  v3 := Tryz.zeroValue3
  t4 := Tryz.underlying4
  a4 := Tryz.isAgg4
  z4 := Tryz.sizeOf4
  v4 := Tryz.zeroValue4
  t5 := Tryz.underlying5
  a5 := Tryz.isAgg5
  z5 := Tryz.sizeOf5
  v5 := Tryz.zeroValue5
  t9 := Tryz.underlying9
  a9 := Tryz.isAgg9
  z9 := Tryz.sizeOf9
  v9 := Tryz.zeroValue9
  t22 := Tryz.underlying44
  a22 := Tryz.isAgg44
  z22 := Tryz.sizeOf44
  v22 := Tryz.zeroValue44
  t25 := Tryz.underlying94
  a25 := Tryz.isAgg94
  z25 := Tryz.sizeOf94
  v25 := Tryz.zeroValue94
  t39 := Tryz.underlying124
  a39 := Tryz.isAgg124
  z39 := Tryz.sizeOf124
  v39 := Tryz.zeroValue124
  t45 := Tryz.underlying149
  a45 := Tryz.isAgg149
  z45 := Tryz.sizeOf149
  v45 := Tryz.zeroValue149
  t46 := Tryz.underlying150
  a46 := Tryz.isAgg150
  z46 := Tryz.sizeOf150
  v46 := Tryz.zeroValue150
  t50 := Tryz.underlying154
  a50 := Tryz.isAgg154
  z50 := Tryz.sizeOf154
  v50 := Tryz.zeroValue154
  t53 := Tryz.underlying157
  a53 := Tryz.isAgg157
  z53 := Tryz.sizeOf157
  v53 := Tryz.zeroValue157
  t55 := Tryz.underlying159
  a55 := Tryz.isAgg159
  z55 := Tryz.sizeOf159
  v55 := Tryz.zeroValue159
  t66 := Tryz.underlying176
  a66 := Tryz.isAgg176
  z66 := Tryz.sizeOf176
  v66 := Tryz.zeroValue176
  t70 := Tryz.underlying180
  a70 := Tryz.isAgg180
  z70 := Tryz.sizeOf180
  v70 := Tryz.zeroValue180
  t76 := Tryz.underlying192
  a76 := Tryz.isAgg192
  z76 := Tryz.sizeOf192
  v76 := Tryz.zeroValue192
  t77 := Tryz.underlying51
  a77 := Tryz.isAgg51
  z77 := Tryz.sizeOf51
  v77 := Tryz.zeroValue51 }
end Go.Proofs
namespace Go.Proofs.YtbbmfemplmelhaaGreatDoor.AM
open Go Go.Proofs Go.Sort
theorem yu {k : Nat} (x : Rec k) : (Q0 x).length = k := by rw [Q0, List.length_map, x.2.1]
theorem yv {k : Nat} (x : Rec k) : ∀ v ∈ Q0 x, v.oneCell' = true := by
  intro v hv
  obtain ⟨n, _, rfl⟩ := List.mem_map.mp hv
  rfl
theorem Bi : rT Tryz.prog 39 40 3 := by
  intro cf hO blk off cap d w hcmp hH hblk hsz
  have eg : ∀ args w, (callFunc 40 args).run Tryz.prog w = .ok (.enter 40 args) w := enters_of Tryz.func40 (by kernel_rfl) rfl
  exact AnyQ.slices_SortFunc Tryz.sortIv 3 (fun w => fD T28 w) (fun w => F6 T28 w) Q0 yu yv cf hO 40 #[] blk off cap d w eg hcmp hH hblk hsz
end Go.Proofs.YtbbmfemplmelhaaGreatDoor.AM
namespace Go.Proofs.YtbbmfemplmelhaaGreatDoor.AM
open Go Go.Proofs
section
open Go Go.Proofs Go.Sort
def iA := And.intro T2 (And.intro T3 (And.intro T4 (And.intro T25 (And.intro T26 (And.intro T28 (And.intro T31 (And.intro T41 (And.intro T44 (And.intro T57 (And.intro T58 (And.intro T89 T92)))))))))))
attribute [local irreducible] awp n8 k3 l8 o4 m8
theorem qy (l : List Lb) : (l.map uA).flatMap (·.map AV.i) = cLs l := by
  unfold cLs
  induction l with
  | nil => rfl
  | cons x l ih => rw [List.map_cons, List.flatMap_cons, ih, List.flatMap_cons, List.map_append]
theorem qz {G : Nat → Option (List PV)} {l : List Lb} (hn : l.length ≤ 5000000) (hr : ∀ x ∈ l, Sm x.1 ∧ Sm x.2.1 ∧ Sm x.2.2) {h : Heap} {b g : Nat} (hb : h[b]? = some (some ⟨g, cLs l⟩)) :
    d5 Tryz.prog G 39 [.ref b g 0 3 l.length, .fn 40 []] h (fun r h' => r = .undef ∧ h' = bu h b g (ca l)) := by
  by_cases hne : l = []
  · subst hne
    have hs : ca [] = [] := rfl
    rw [hs, mD hb]
    intro ι w vs hS hv
    obtain ⟨hl, hv⟩ := hv
    have hl2 : vs.size = 2 := by simpa using hl.symm
    obtain ⟨v0, v1, rfl⟩ : ∃ v0 v1, vs = #[v0, v1] := by
      obtain ⟨l⟩ := vs
      match l, hl2 with
      | [a, b], _ => exact ⟨a, b, rfl⟩
    have h0 := hv 0 _ v0 rfl rfl
    obtain ⟨A, c, rfl, _⟩ := h0.ref_inv ⟨_, hb, rfl⟩
    refine (AnyF.slices_SortFunc_none Tryz.sortIv A c v1 w).mono ?_
    rintro e w' ⟨rfl, rfl⟩
    exact ⟨_, .undef, h, ι, rfl, ⟨rfl, rfl⟩, hS, .tup _ _ rfl (fun i x v hx => by simp at hx), Evo.refl (Nat.le_refl _)⟩
  have hcm : ∀ x y : Rec 3, d5 Tryz.prog G 40 [.agg (C8 x), .agg (C8 y)] [] fun r h' => r = .i (tj x.1 y.1) := by
    intro x y
    obtain ⟨a, i, p, e1⟩ := uB x
    obtain ⟨c, j, q, e2⟩ := uB y
    have hx : C8 x = [.i a, .i i, .i p] := by unfold C8; rw [e1]; rfl
    have hy : C8 y = [.i c, .i j, .i q] := by unfold C8; rw [e2]; rfl
    rw [hx, hy, e1, e2]
    intro ι w vs hS hv
    refine (kH (G := G) (a, i, p) (c, j, q) [] ι w vs hS hv).mono ?_
    rintro e w' ⟨v, r, h', ι', q1, ⟨q2, _⟩, q3⟩
    exact ⟨v, r, h', ι', q1, q2, q3⟩
  have key := rV (G := G) (k := 3) (by omega) Bi tj uC hcm (h := h) (b := b) (gg := g) (off := 0) (pre := []) (post := []) (rows := l.map uA) (out := (ca l).map uA)
    (by rw [qy]; simpa using hb) rfl (by simpa using hne) (by rw [List.length_map]; omega)
    (fun r hr' => by
      obtain ⟨a, ha, rfl⟩ := List.mem_map.mp hr'
      refine ⟨rfl, fun n hn => ?_⟩
      obtain ⟨h1, h2, h3⟩ := hr a ha
      simp only [uA, List.mem_cons, List.not_mem_nil, or_false] at hn
      rcases hn with rfl | rfl | rfl
      · exact gD h1
      · exact gD h2
      · exact gD h3)
    ((aU l).map _) (by
      rw [List.pairwise_map]
      refine (gp l).imp fun {a b} hab e => hab ?_
      exact ku.mp e) (fun x y hx hy a1 a2 => by
      obtain ⟨a, _, rfl⟩ := List.mem_map.mp hx
      obtain ⟨c, _, rfl⟩ := List.mem_map.mp hy
      rw [rZ (x := a) (y := c) a1 a2])
  rw [List.length_map] at key
  intro ι w vs hS hv
  refine (key ι w vs hS hv).mono ?_
  rintro e w' ⟨v, r, h', ι', q1, ⟨q2, q3⟩, q4⟩
  refine ⟨v, r, h', ι', q1, ⟨q2, ?_⟩, q4⟩
  rw [q3, qy]
  simp [bu]
theorem fx {ns : List Nd} {fl : List Fl} (nk : NetOk ns fl) {l : List Sv} (h49 : B7 l) (hl : l.length ≤ 1500) (h : Heap) :
    d5 Tryz.prog gW 19 [G9 ns fl, B6 l] h (fun r h' => r = aLs (N0 (D7 ns fl l)) ∧ h' = h) := by
  have hzl : (zS.map AV.i).length = 49 := by rw [List.length_map]; rfl
  have hem : (zS.map AV.i).isEmpty = false := rfl
  refine c8 (rl := []) d9 Tryz.func19 rfl (rs := [.tmp 4]) rfl Tryz.ntmps19 (by simp) ?_
  refine b6 fun K hK => ?_
  repeat' (first | (apply b8; (try simp only [NB]); ((repeat ((fail_if_success (refine hK _ ?_)); clear hK K)); refine hK _ ?_; clear hK K)) | (refine b9 fun K1 q7 => ?_; simp only [S1, simprocAttr, iA]; refine q7 _ ?_; clear q7 K1) | (apply b5; try simp only [NB, simprocAttr]; (try ((repeat ((fail_if_success (refine hK _ ?_)); clear hK K)); refine hK _ ?_; clear hK K))))
  refine b6 fun K hK => ?_
  repeat' (first | (apply b8; (try simp only [NB]); ((repeat ((fail_if_success (refine hK _ ?_)); clear hK K)); refine hK _ ?_; clear hK K)) | (refine b9 fun K1 q7 => ?_; simp only [S1, simprocAttr, iA]; refine q7 _ ?_; clear q7 K1) | (apply b5; try simp only [NB, simprocAttr]; (try ((repeat ((fail_if_success (refine hK _ ?_)); clear hK K)); refine hK _ ?_; clear hK K))))
  repeat' (first | ((repeat ((fail_if_success (refine hK _ ?_)); clear hK K)); refine hK _ ?_; clear hK K) | (refine b9 fun K1 q7 => ?_; simp only [S1, simprocAttr, iA, List.length_map]; refine q7 _ ?_; clear q7 K1) | refine b6 fun K hK => ?_ | ((first | apply b8 | apply b5 | apply c7); try simp only [NB, simprocAttr]))
  refine B5 l.length 39 (fun j => [(12, .i j), (11, .i l.length), (10, B6 l), (5, .ref (h.length + 1) (D7 ns fl (l.take j)).length 0 3 (D7 ns fl (l.take j)).length), (2, .ptr h.length 0 0)])
    (fun j => [some ⟨0, w8 ns fl⟩, some ⟨(D7 ns fl (l.take j)).length, cLs (D7 ns fl (l.take j))⟩]) (fun j => True) ?_ trivial fun j hj hp K hK => ?_
  · refine (o5.adopt 5 3 rfl).trans (Sub.ghost ⟨rfl, ⟨[], by simp [cLs, D7]⟩, ?_, ⟨trivial, trivial, trivial⟩, trivial, trivial⟩)
    simp only [G7, r9, C9, frL, List.length_cons, List.length_nil]
    simp [D7]
  rcases Nat.lt_or_ge j l.length with hlt | hge
  · obtain ⟨s, hx⟩ : ∃ k, l[j]? = some k := ⟨_, List.getElem?_eq_getElem hlt⟩
    have hs : s.length = 49 := h49 s (List.mem_of_getElem? hx)
    have hxr : (l.map eSt)[j]? = some (s.map (PV.int .i64)) := by rw [List.getElem?_map, hx]; rfl
    have jl : (j : Int) < (l.length : Int) := by omega
    have j0 : (0 : Int) ≤ (j : Int) := by omega
    have hnx : IntKind.i64.wrap ((j : Int) + 1) = ((j + 1 : Nat) : Int) := by rw [IntWalk.i64_in _ (by omega)]; omega
    have s49 : (s.map AV.i).take 49 = s.map AV.i := List.take_of_length_le (by rw [List.length_map, hs]; exact Nat.le_refl _)
    have hso : t8 (zS.map AV.i) 0 (s.map AV.i) = s.map AV.i := l9 (n := 49) (by rw [List.length_map, hs]) _ hzl
    have hsm := t7 s
    have hne := J1 hs
    have hst := fun h => iv nk hs h
    have hto := Q1 (ns := ns) (fl := fl) hs
    have hln := M3 (ns := ns) (fl := fl) (S := s)
    have es := kO (ns := ns) (fl := fl) hx
    have hol := cl ns fl (l.take j)
    rw [List.length_take] at hol
    have hol : (D7 ns fl (l.take j)).length ≤ 3750000 := by omega
    generalize D7 ns fl (l.take j) = o at *
    generalize p8 ns fl s = sl at *
    repeat' (first | ((repeat ((fail_if_success (refine hK _ ?_)); clear hK K)); refine hK _ ?_; clear hK K) | ((first | refine b9 fun K1 q7 => ?_ | refine b7 fun A B hA hB => ?_); simp only [S1, simprocAttr, iA, jl, j0, hnx, hxr, hs, hzl, hem, s49, hso, hsm, hne, TSz, i8, h9, j3, d7, d8, e9, List.length_map]; first | refine q7 _ ?_; clear q7 K1 | (refine hA ?_; clear hA hB A B) | (apply d4 E38; exact (hst _); refine q7 _ ?_; clear q7 K1)) | refine b6 fun K hK => ?_ | ((first | apply b8 | apply b5 | apply c7 | apply c9); try simp only [NB, simprocAttr]))
    refine o8 sl.length 39 (fun i => [(20, .i i), (19, .i sl.length), (18, zG sl), (12, .i j), (11, .i l.length), (10, B6 l), (5, .ref (h.length + 1) (o ++ K6 (sl.take i)).length 0 3 (o ++ K6 (sl.take i)).length), (2, .ptr h.length 0 0)])
      (fun i => [some ⟨0, w8 ns fl⟩, some ⟨(o ++ K6 (sl.take i)).length, cLs (o ++ K6 (sl.take i))⟩]) (fun i => True) ?_ trivial fun i hi hp2 K hK => ?_
    · have e0 : o ++ K6 (sl.take 0) = o := by simp [K6]
      simp only [e0]
      refine ⟨rfl, ⟨_, rfl⟩, ?_, ⟨trivial, trivial, trivial⟩, U4 _ _, trivial⟩
      simp only [S1, simprocAttr, KNB] <;> (try and_intros) <;> (try assumption) <;> (try trivial) <;> (try omega)
    rcases Nat.lt_or_ge i sl.length with hlt2 | hge2
    · obtain ⟨y, hy⟩ : ∃ y, sl[i]? = some y := ⟨_, List.getElem?_eq_getElem hlt2⟩
      have hxy : (sl.map eMv)[i]? = some [.int .i64 y.node, .int .i64 y.arg, .int .i64 y.lk, .int .i64 y.ln, .int .i64 y.la] := by rw [List.getElem?_map, hy]; rfl
      have e2 := kM hy
      have hle := kN sl i
      have jl2 : (i : Int) < (sl.length : Int) := by omega
      have j02 : (0 : Int) ≤ (i : Int) := by omega
      have hnx2 : IntKind.i64.wrap ((i : Int) + 1) = ((i + 1 : Nat) : Int) := by rw [IntWalk.i64_in _ (by omega)]; omega
      have e3 : o ++ K6 (sl.take (i + 1)) = o ++ K6 (sl.take i) ++ if y.lk = 0 then [] else [dM y] := by rw [e2, List.append_assoc]
      have hcap : (o ++ K6 (sl.take i)).length + 1 ≤ j6 := by rw [List.length_append]; unfold j6; omega
      generalize o ++ K6 (sl.take i) = acc at *
      have hacc := U3 acc
      by_cases hc : y.lk = 0
      · have f0 : (y.lk != 0) = false := by simp [hc]
        rw [if_pos hc, List.append_nil] at e3
        repeat' (first | ((repeat ((fail_if_success (refine hK _ ?_)); clear hK K)); refine hK _ ?_; clear hK K) | ((first | refine b9 fun K1 q7 => ?_ | refine b7 fun A B hA hB => ?_); simp only [S1, simprocAttr, iA, jl2, j02, hnx2, hxy, f0, d8, e9, List.length_map]; first | refine q7 _ ?_; clear q7 K1 | ((first | refine hA ?_ | refine hB ?_); clear hA hB A B)) | refine b6 fun K hK => ?_ | ((first | apply b8 | apply b5 | apply c7 | apply c9); try simp only [NB, simprocAttr]))
        all_goals refine ⟨hlt2, trivial, ?_⟩
        all_goals simp only [e3]
        all_goals refine ⟨rfl, ⟨_, rfl⟩, ?_, ⟨trivial, trivial, trivial⟩, U4 _ _, trivial⟩
        all_goals simp only [S1, simprocAttr, KNB] <;> (try and_intros) <;> (try assumption) <;> (try trivial) <;> (try omega)
      · have f0 : (y.lk != 0) = true := by simp [hc]
        rw [if_neg hc] at e3
        have esn : cLs (acc ++ [dM y]) = cLs acc ++ [.i y.lk, .i y.ln, .i y.la] := O1 acc (dM y)
        repeat' (first | ((repeat ((fail_if_success (refine hK _ ?_)); clear hK K)); refine hK _ ?_; clear hK K) | ((first | refine b9 fun K1 q7 => ?_ | refine b7 fun A B hA hB => ?_); simp only [S1, simprocAttr, iA, jl2, j02, hnx2, hxy, f0, hacc, hcap, d8, e9, List.length_map, Nat.mul_one]; first | refine q7 _ ?_; clear q7 K1 | (refine hA ?_; clear hA hB A B)) | refine b6 fun K hK => ?_ | ((first | apply b8 | apply b5 | apply c7 | apply c9); try simp only [NB, simprocAttr]))
        all_goals refine ⟨hlt2, trivial, ?_⟩
        all_goals simp only [e3, esn, List.length_append, List.length_cons, List.length_nil, Nat.zero_add]
        all_goals refine ⟨rfl, ⟨_, rfl⟩, ?_, ⟨trivial, trivial, trivial⟩, (by rw [← esn]; exact U4 _ _), trivial⟩
        all_goals simp only [S1, simprocAttr, KNB] <;> (try and_intros) <;> (try assumption) <;> (try trivial) <;> (try omega)
    · obtain rfl : i = sl.length := by omega
      rw [List.take_length, ← es]
      repeat' (first | ((repeat ((fail_if_success (refine hK _ ?_)); clear hK K)); refine hK _ ?_; clear hK K) | ((first | refine b9 fun K1 q7 => ?_ | refine b7 fun A B hA hB => ?_); simp only [S1, simprocAttr, iA, hnx, Int.lt_irrefl]; first | refine q7 _ ?_; clear q7 K1 | (refine hB ?_; clear hA hB A B)) | refine b6 fun K hK => ?_ | ((first | apply b8 | apply b5 | apply f9); try simp only [NB, simprocAttr]))
      all_goals refine ⟨hlt, trivial, ?_⟩
      all_goals refine ⟨rfl, ⟨_, rfl⟩, ?_, ⟨trivial, trivial, trivial⟩, U4 _ _, trivial⟩
      all_goals simp only [S1, simprocAttr, KNB] <;> (try and_intros) <;> (try assumption) <;> (try trivial) <;> (try omega)
  · obtain rfl : j = l.length := by omega
    rw [List.take_length]
    have hsm := wZ (ns := ns) (fl := fl) h49
    have hol := cl ns fl l
    have hol : (D7 ns fl l).length ≤ 3750000 := by omega
    obtain ⟨o, ho⟩ : ∃ o, o = D7 ns fl l := ⟨_, rfl⟩
    rw [← ho] at hsm hol ⊢
    have hget : ∀ (A : Option Blk) (g : Nat) (m : List Lb), (h ++ [A, some ⟨g, cLs m⟩])[h.length + 1]? = some (some ⟨g, cLs m⟩) := fun A g m => by rw [m9]; rfl
    have hput : ∀ (A B : Option Blk) (g : Nat) (m : List Lb), bu (h ++ [A, B]) (h.length + 1) g m = h ++ [A, some ⟨g, cLs m⟩] := fun A B g m => by unfold bu; rw [T5]; rfl
    have hlen : (ca o).length = o.length := (aU o).length_eq
    have hsrt := qz (G := gW) (l := o) (by omega) hsm (hget (some ⟨0, w8 ns fl⟩) o.length o)
    rw [hput] at hsrt
    have hcmp := ll (G := gW) (l := ca o) (by omega) (hget (some ⟨0, w8 ns fl⟩) o.length (ca o))
    rw [hput, hlen, uz] at hcmp
    repeat' (first | ((repeat ((fail_if_success (refine hK _ ?_)); clear hK K)); refine hK _ ?_; clear hK K) | ((first | refine b9 fun K1 q7 => ?_ | refine b7 fun A B hA hB => ?_); simp only [S1, simprocAttr, iA, Int.lt_irrefl]; first | refine q7 _ ?_; clear q7 K1 | (refine hB ?_; clear hA hB A B) | (apply d4 E39; exact hsrt; refine q7 _ ?_; clear q7 K1) | (apply d4 E41; exact hcmp; refine q7 _ ?_; clear q7 K1)) | refine b6 fun K hK => ?_ | ((first | apply b8 | apply b5 | apply f9 | apply d3); try simp only [NB, simprocAttr]))
    all_goals exact kK (b := h.length + 1) (g := o.length) (l := N0 o) (rest := cLs (List.replicate (o.length - (N0 o).length) (0, 0, 0))) (.inr rfl) rfl rfl (by simp only [r7, m9, List.getElem?_cons_succ, List.getElem?_cons_zero, if_true, fv]) (by omega) (by simp) (by simp) (by rw [ho])
end
section
def al := And.intro T2 (And.intro T3 (And.intro T4 (And.intro T25 (And.intro T26 (And.intro T28 (And.intro T34 (And.intro T41 (And.intro T57 (And.intro T58 (And.intro T62 (And.intro T65 (And.intro T89 T92))))))))))))
attribute [local irreducible] awp n8 k3 l8 o4 m8
theorem ss {l : List Sv} (h49 : B7 l) (hl : l.length ≤ 5000) (h : Heap) : d5 Tryz.prog gW 13 [B6 l] h (fun r h' => r = B6 l ∧ h' = h) := by
  have hzl : (zS.map AV.i).length = 49 := by rw [List.length_map]; rfl
  have hem : (zS.map AV.i).isEmpty = false := rfl
  refine c8 (rl := []) d9 Tryz.func13 rfl (rs := [.tmp 2]) rfl Tryz.ntmps13 (by simp) ?_
  refine b6 fun K hK => ?_
  repeat' (first | (apply b8; (try simp only [NB]); ((repeat ((fail_if_success (refine hK _ ?_)); clear hK K)); refine hK _ ?_; clear hK K)) | (refine b9 fun K1 q7 => ?_; simp only [S1, simprocAttr, al]; refine q7 _ ?_; clear q7 K1) | (apply b5; try simp only [NB, simprocAttr]; (try ((repeat ((fail_if_success (refine hK _ ?_)); clear hK K)); refine hK _ ?_; clear hK K))))
  refine b6 fun K hK => ?_
  repeat' (first | (apply b8; (try simp only [NB]); ((repeat ((fail_if_success (refine hK _ ?_)); clear hK K)); refine hK _ ?_; clear hK K)) | (refine b9 fun K1 q7 => ?_; simp only [S1, simprocAttr, al]; refine q7 _ ?_; clear q7 K1) | (apply b5; try simp only [NB, simprocAttr]; (try ((repeat ((fail_if_success (refine hK _ ?_)); clear hK K)); refine hK _ ?_; clear hK K))))
  repeat' (first | ((repeat ((fail_if_success (refine hK _ ?_)); clear hK K)); refine hK _ ?_; clear hK K) | (refine b9 fun K1 q7 => ?_; simp only [S1, simprocAttr, al, List.length_map]; refine q7 _ ?_; clear q7 K1) | refine b6 fun K hK => ?_ | ((first | apply b8 | apply b5 | apply c7); try simp only [NB, simprocAttr]))
  refine B5 l.length 26 (fun j => [(8, .i j), (7, .i l.length), (6, B6 l), (3, .ref h.length j 0 49 j)])
    (fun j => [some ⟨j, q6 (l.take j)⟩]) (fun j => True) ?_ trivial fun j hj hp K hK => ?_
  · refine (o5.adopt 3 49 rfl).trans (Sub.ghost ⟨rfl, ⟨[], by simp [q6]⟩, ?_, trivial, trivial⟩)
    simp only [G7, r9, C9, frL, List.length_cons, List.length_nil]
    simp
  rcases Nat.lt_or_ge j l.length with hlt | hge
  · obtain ⟨S, hx⟩ : ∃ k, l[j]? = some k := ⟨_, List.getElem?_eq_getElem hlt⟩
    have hS : S.length = 49 := h49 S (List.mem_of_getElem? hx)
    have hxr : (l.map eSt)[j]? = some (S.map (PV.int .i64)) := by rw [List.getElem?_map, hx]; rfl
    have jl : (j : Int) < (l.length : Int) := by omega
    have j0 : (0 : Int) ≤ (j : Int) := by omega
    have hnx : IntKind.i64.wrap ((j : Int) + 1) = ((j + 1 : Nat) : Int) := by rw [IntWalk.i64_in _ (by omega)]; omega
    have hne := J1 hS
    have hsm := t7 S
    have dm := L5 (I1 hS (k := 48) (by omega))
    have emd : S.getD 48 0 = mdS S := rfl
    rw [emd] at dm
    have t49' : (S.map AV.i).take 49 = S.map AV.i := List.take_of_length_le (by rw [List.length_map, hS]; exact Nat.le_refl _)
    have t40 : (S.map AV.i).take 40 = (S.take 40).map AV.i := by rw [List.map_take]
    have ar40 : ((S.map AV.i).drop 40).take 4 = ((S.drop 40).take 4).map AV.i := by rw [List.map_take, List.map_drop]
    have ar44 : ((S.map AV.i).drop 44).take 4 = ((S.drop 44).take 4).map AV.i := by rw [List.map_take, List.map_drop]
    have hb := ql hS (zS.map AV.i) hzl
    have hso : t8 (zS.map AV.i) 0 (S.map AV.i) = S.map AV.i := l9 (n := 49) (by rw [List.length_map, hS]) _ hzl
    have ho49 : B7 (l.take j) := fun t ht => h49 t (List.mem_of_mem_take ht)
    have hfl := C5 ho49
    have hjl : (l.take j).length = j := by rw [List.length_take]; omega
    rw [hjl] at hfl
    have hmax : j + 1 ≤ j6 := by unfold j6; omega
    have hpv := N6 S
    have hch := J9 49 (S.map (PV.int .i64)) (by rw [List.length_map, hS])
    have hti : (S.map (PV.int .i64)).take 49 = S.map (PV.int .i64) := List.take_of_length_le (by rw [List.length_map, hS]; exact Nat.le_refl _)
    have es : l.take (j + 1) = l.take j ++ [S] := by rw [List.take_add_one, hx]; rfl
    have hfa := F3 (l.take j) S
    repeat' (first | ((repeat ((fail_if_success (refine hK _ ?_)); clear hK K)); refine hK _ ?_; clear hK K) | ((first | refine b9 fun K1 q7 => ?_ | refine b7 fun A B hA hB => ?_); simp only [S1, simprocAttr, al, jl, j0, hnx, hxr, hsm, hpv, hch, hti, hfl, hmax, TSz, TRz, i8, h9, j3, hem, hb, hso, I7, hne, hS, hzl, d7, t49', t40, ar40, ar44, dm, d8, e9, LNB]; first | refine q7 _ ?_; clear q7 K1 | (refine hA ?_; clear hA hB A B)) | refine b6 fun K hK => ?_ | ((first | apply b8 | apply b5 | apply c7 | apply c9); try simp only [NB, simprocAttr]))
    all_goals refine ⟨hlt, trivial, ?_⟩
    all_goals simp only [es, hfa]
    all_goals refine ⟨rfl, ⟨_, rfl⟩, ?_, (by rw [← F3]; exact u6 _ _), trivial⟩
    all_goals simp only [S1, simprocAttr, KNB] <;> (try and_intros) <;> (try assumption) <;> (try trivial) <;> (try omega)
  · obtain rfl : j = l.length := by omega
    repeat' (first | ((repeat ((fail_if_success (refine hK _ ?_)); clear hK K)); refine hK _ ?_; clear hK K) | ((first | refine b9 fun K1 q7 => ?_ | refine b7 fun A B hA hB => ?_); simp only [S1, simprocAttr, al, Int.lt_irrefl]; first | refine q7 _ ?_; clear q7 K1 | (refine hB ?_; clear hA hB A B)) | refine b6 fun K hK => ?_ | ((first | apply b8 | apply b5 | apply f9 | apply d3); try simp only [NB, simprocAttr]))
    all_goals exact kA (b := h.length) (g := l.length) (.inr rfl) h49 rfl rfl (by simp only [List.take_length, r7, aa, m9, List.getElem?_cons_zero, if_true]) (by omega) (by simp) (by simp) rfl
theorem qA {a b : List Sv} (ha : B7 a) (hb : B7 b) (hal : a.length ≤ 5000) (hbl : b.length ≤ 5000) (h : Heap) :
    d5 Tryz.prog gW 14 [B6 a, B6 b] h (fun r h' => r = .b (decide (a = b)) ∧ h' = h) := by
  have hrf := fun h => ss ha hal h
  refine c8 (rl := []) d9 Tryz.func14 rfl (rs := [.tmp 4]) rfl Tryz.ntmps14 (by simp) ?_
  repeat' (first | ((repeat ((fail_if_success (refine hK _ ?_)); clear hK K)); refine hK _ ?_; clear hK K) | (refine b9 fun K1 q7 => ?_; simp only [S1, simprocAttr, al, List.length_map]; first | refine q7 _ ?_; clear q7 K1 | (apply d4 E13; exact (hrf _); refine q7 _ ?_; clear q7 K1)) | refine b6 fun K hK => ?_ | ((first | apply b8 | apply b5 | apply c7); try simp only [NB, simprocAttr]))
  refine o8 a.length 35 (fun j => [(11, .i j), (10, .i a.length), (5, B6 a), (1, B6 b)])
    (fun j => []) (fun j => a.take j = b.take j) ?_ rfl fun j hj hp K hK => ?_
  · (refine ⟨rfl, (by first | exact ⟨_, rfl⟩ | exact ⟨[], by simp⟩), ?_, ?_⟩ <;> simp only [S1, simprocAttr, KNB] <;> (try and_intros) <;> (try assumption) <;> (try trivial) <;> (try omega))
  rcases Nat.lt_or_ge j a.length with hlt | hge
  · obtain ⟨x, hx⟩ : ∃ k, a[j]? = some k := ⟨_, List.getElem?_eq_getElem hlt⟩
    have hxl : x.length = 49 := ha x (List.mem_of_getElem? hx)
    have hxr : (a.map eSt)[j]? = some (x.map (PV.int .i64)) := by rw [List.getElem?_map, hx]; rfl
    have jl : (j : Int) < (a.length : Int) := by omega
    have j0 : (0 : Int) ≤ (j : Int) := by omega
    have hnx : IntKind.i64.wrap ((j : Int) + 1) = ((j + 1 : Nat) : Int) := by rw [IntWalk.i64_in _ (by omega)]; omega
    rcases Nat.lt_or_ge j b.length with hlb | hgb
    case inr =>
      have hne : decide (a = b) = false := decide_eq_false (fun e => by subst e; omega)
      rw [hne]
      have jb2 : decide ((b.length : Int) ≤ (j : Int)) = true := decide_eq_true (by omega)
      repeat' (first | ((repeat ((fail_if_success (refine hK _ ?_)); clear hK K)); refine hK _ ?_; clear hK K) | ((first | refine b9 fun K1 q7 => ?_ | refine j8 fun K1 q7 => ?_ | refine b7 fun A B hA hB => ?_); simp only [S1, simprocAttr, al, jl, j0, jb2, List.length_map]; first | refine q7 _ ?_; clear q7 K1 | (refine hA ?_; clear hA hB A B)) | refine b6 fun K hK => ?_ | ((first | apply b8 | apply i5 | apply b5 | refine i6 ?_ | apply c7 | apply c9 | apply d3); try simp only [NB, simprocAttr]))
      all_goals simp only [S1, simprocAttr, ENB, al]
    obtain ⟨y, hy⟩ : ∃ k, b[j]? = some k := ⟨_, List.getElem?_eq_getElem hlb⟩
    have hyl : y.length = 49 := hb y (List.mem_of_getElem? hy)
    have hyr : (b.map eSt)[j]? = some (y.map (PV.int .i64)) := by rw [List.getElem?_map, hy]; rfl
    have jb : (j : Int) < (b.length : Int) := by omega
    have jb2 : decide ((b.length : Int) ≤ (j : Int)) = false := decide_eq_false (by omega)
    have heq := eqI (S := x) (T := y) (by omega)
    have hxs := t7 x
    have hys := t7 y
    have x49 : (x.map AV.i).take 49 = x.map AV.i := List.take_of_length_le (by rw [List.length_map, hxl]; exact Nat.le_refl _)
    have y49 : (y.map AV.i).take 49 = y.map AV.i := List.take_of_length_le (by rw [List.length_map, hyl]; exact Nat.le_refl _)
    have hxn := J1 hxl
    have hyn := J1 hyl
    by_cases hxy : x = y
    · have ebq : (x == y) = true := by simp [hxy]
      rw [ebq] at heq
      repeat' (first | ((repeat ((fail_if_success (refine hK _ ?_)); clear hK K)); refine hK _ ?_; clear hK K) | ((first | refine b9 fun K1 q7 => ?_ | refine j8 fun K1 q7 => ?_ | refine b7 fun A B hA hB => ?_); simp only [S1, simprocAttr, al, jl, j0, jb, jb2, hnx, hxr, hyr, hxs, hys, x49, y49, hxn, hyn, hxl, hyl, heq, TRz, i8, h9, j3, d7, d8, e9, eqA, W60, List.length_map]; first | refine q7 _ ?_; clear q7 K1 | ((first | refine hA ?_ | refine hB ?_); clear hA hB A B)) | refine b6 fun K hK => ?_ | ((first | apply b8 | apply i5 | apply b5 | refine i6 ?_ | apply c7 | apply c9); try simp only [NB, simprocAttr]))
      all_goals refine ⟨hlt, by rw [List.take_add_one, List.take_add_one, hp, hx, hy, hxy], ?_⟩
      all_goals (refine ⟨rfl, (by first | exact ⟨_, rfl⟩ | exact ⟨[], by simp⟩), ?_, ?_⟩ <;> simp only [S1, simprocAttr, KNB] <;> (try and_intros) <;> (try assumption) <;> (try trivial) <;> (try omega))
    · have ebq : (x == y) = false := by simp [hxy]
      rw [ebq] at heq
      have hne : decide (a = b) = false := decide_eq_false (fun e => by subst e; rw [hx] at hy; cases hy; exact hxy rfl)
      rw [hne]
      repeat' (first | ((repeat ((fail_if_success (refine hK _ ?_)); clear hK K)); refine hK _ ?_; clear hK K) | ((first | refine b9 fun K1 q7 => ?_ | refine j8 fun K1 q7 => ?_ | refine b7 fun A B hA hB => ?_); simp only [S1, simprocAttr, al, jl, j0, jb, jb2, hnx, hxr, hyr, hxs, hys, x49, y49, hxn, hyn, hxl, hyl, heq, TRz, i8, h9, j3, d7, d8, e9, eqA, W60, List.length_map]; first | refine q7 _ ?_; clear q7 K1 | (refine hA ?_; clear hA hB A B)) | refine b6 fun K hK => ?_ | ((first | apply b8 | apply i5 | apply b5 | refine i6 ?_ | apply c7 | apply c9 | apply d3); try simp only [NB, simprocAttr]))
      all_goals simp only [S1, simprocAttr, ENB, al]
  · obtain rfl : j = a.length := by omega
    rw [List.take_length] at hp
    have he : ((a.length : Int) == (b.length : Int)) = decide (a = b) := by
      by_cases e : a.length = b.length
      · rw [e, List.take_length] at hp
        rw [decide_eq_true hp, hp]; simp
      · rw [decide_eq_false (fun e' => e (by rw [e']))]
        simp; omega
    repeat' (first | ((repeat ((fail_if_success (refine hK _ ?_)); clear hK K)); refine hK _ ?_; clear hK K) | ((first | refine b9 fun K1 q7 => ?_ | refine b7 fun A B hA hB => ?_); simp only [S1, simprocAttr, al, Int.lt_irrefl, he, List.length_map]; first | refine q7 _ ?_; clear q7 K1 | (refine hB ?_; clear hA hB A B)) | refine b6 fun K hK => ?_ | ((first | apply b8 | apply b5 | apply f9 | apply d3); try simp only [NB, simprocAttr]))
    all_goals simp only [S1, simprocAttr, ENB, al]
end
section
def ns0 : List Nd := [⟨1, 0, .mk 0 0 []⟩, ⟨3, 0, .mk 0 0 []⟩, ⟨2, 0, .mk 0 0 []⟩]
def fl0 : List Fl := [⟨0, 1, false, .mk 0 0 []⟩, ⟨1, 2, false, .mk 0 0 []⟩]
theorem At : O3 (C6 false fl0) 3 0 = [true, true, true] := (dC (by decide) (by decide)).symm.trans (by decide)
theorem Au : O3 (C6 true fl0) 3 2 = [true, true, true] := (dC (by decide) (by decide)).symm.trans (by decide)
theorem yw : (n5 ns0 1).toNat = 0 := by kernel_rfl
theorem yx : (n5 ns0 2).toNat = 2 := by kernel_rfl
theorem zL : plF 4 (eH ns0 fl0) ns0.length = [] := by
  have h : ∀ i, i < 3 → eH ns0 fl0 i = false := by
    intro i hi
    have hl : ns0.length = 3 := rfl
    unfold eH
    rw [yw, yx, hl, At, Au]
    match i, hi with
    | 0, _ => rfl
    | 1, _ => rfl
    | 2, _ => rfl
  unfold plF
  rw [List.map_eq_nil_iff, List.filter_eq_nil_iff]
  intro i hi
  rw [h i (by simpa [ns0] using hi)]
  decide
theorem yy : (C0 ns0 fl0).1 = 0 := by
  have p1 : plF 1 (Y8 ns0) ns0.length = [] := by kernel_rfl
  have p2 : plF 2 (Y9 ns0 fl0) fl0.length = [] := by kernel_rfl
  have p3 : G5 ns0 fl0 = [] := by kernel_rfl
  unfold C0 Z0
  rw [if_neg (by decide), if_neg (by rw [p1]; simp), if_neg (by rw [p2]; simp), if_neg (by rw [p3]; simp), zL]
  rfl
def xa (S : Sv) : List Sp := if (if okS fl0.length S = true then (0 : Int) else 1) ≠ 0 ∨ mdS S ≠ 0 then [] else w4 ns0 fl0 S 3 ++ o9 ns0 S 4
theorem Av (S : Sv) : stC ns0 fl0 S = if okS fl0.length S = true then 0 else 1 := by unfold stC; rw [if_neg (by simpa using yy)]
theorem su (S : Sv) : p8 ns0 fl0 S = xa S := by
  unfold p8
  rw [Av]
  rfl
def nxC (S : Sv) : List Sv := O6 (xa S) (0, 0, 0)
def iW (l : List Sv) : List Sv × Int := if (E1 nxC 1500 l).length ≤ 1500 then (E1 nxC 1500 l, 0) else ([], 5)
theorem tw (l : List Sv) : A0 ns0 fl0 l = iW l := by
  have e : nxW ns0 fl0 = nxC := funext fun S => by unfold nxW aj nxC; rw [su]
  unfold A0 iW
  rw [e]
def Sa0 : Sv := zS.set 0 1
def Sb0 : Sv := (zS.set 1 1).set 40 1
def Sc0 : Sv := (zS.set 40 1).set 48 1
theorem xb : B3 ns0 fl0 = ([Sa0], 0) := by
  have e : (x7 ns0 fl0).1 = Sa0 := by unfold x7; rw [if_neg (by simpa using yy)]; exact (by kernel_rfl : zS.set ((i9 fl0 (n5 ns0 1)).headD 0).toNat 1 = Sa0)
  unfold B3
  rw [if_neg (by simpa using yy), tw, e]
  exact (by kernel_rfl : iW [Sa0] = ([Sa0], 0))
theorem Bj : N0 (D7 ns0 fl0 [Sa0]) = [(1, 1, 0), (1, 1, 1)] := by
  unfold D7
  simp only [su]
  kernel_rfl
theorem zM {S : Sv} (h : okS fl0.length S = true) : F4 ns0 fl0 [S] = 0 := by
  unfold F4
  rw [if_neg (by simpa using yy)]
  unfold W0
  rw [Av, if_pos h]
  rfl
theorem sv {S : Sv} {x : Lb} {r : List Sv × Int} (h : okS fl0.length S = true) (hx : x.1 ≠ 0) (hr : iW ([S].flatMap fun s => O6 (xa s) x) = r) : u7 ns0 fl0 [S] x = r := by
  unfold u7 x9 aj
  rw [if_neg (by simp [zM h]), if_neg hx, tw]
  simp only [su]
  exact hr
theorem Aw : u7 ns0 fl0 [Sa0] (1, 1, 1) = ([Sb0], 0) := sv (by kernel_rfl) (by decide) (by kernel_rfl)
theorem Ax : u7 ns0 fl0 [Sb0] (7, 0, 0) = ([Sc0], 0) := sv (by kernel_rfl) (by decide) (by kernel_rfl)
theorem Ay : u7 ns0 fl0 [Sc0] (7, 0, 0) = ([], 0) := sv (by kernel_rfl) (by decide) (by kernel_rfl)
theorem yz : U2 ns0 fl0 [(1, 1, 1), (7, 0, 0), (7, 0, 0)] = (2, 0) := by
  unfold U2
  rw [xb]
  simp [qm, Aw, Ax, Ay]
theorem sw : NetOk ns0 fl0 := by
  have h1 : ∀ k ∈ ns0, k.term = .mk 0 0 [] := by
    intro k hk
    simp only [ns0, List.mem_cons, List.not_mem_nil, or_false] at hk
    rcases hk with rfl | rfl | rfl <;> rfl
  have h2 : ∀ k ∈ fl0, k.cond = .mk 0 0 [] := by
    intro k hk
    simp only [fl0, List.mem_cons, List.not_mem_nil, or_false] at hk
    rcases hk with rfl | rfl <;> rfl
  have h3 : Tm.Ok 30 (.mk 0 0 []) := .mk _ _ (by decide) (fun k hk => by cases hk)
  exact ⟨by decide, by decide, ⟨30, by omega, fun k hk => by rw [h1 k hk]; exact h3⟩, ⟨30, by omega, fun k hk => by rw [h2 k hk]; exact h3⟩⟩
def yI := And.intro T2 (And.intro T3 (And.intro T4 (And.intro T22 (And.intro T23 (And.intro T25 (And.intro T26 (And.intro T28 (And.intro T31 (And.intro T34 (And.intro T41 (And.intro T44 (And.intro T57 (And.intro T58 (And.intro T62 (And.intro T65 (And.intro T73 (And.intro T75 (And.intro T77 (And.intro T80 (And.intro T82 (And.intro T89 T92)))))))))))))))))))))
attribute [local irreducible] awp n8 k3 l8 o4 m8
abbrev yA : AV := .agg [.p (.sl [[.int .i64 1, .int .i64 0, .int .i64 0, .int .i64 0, .nils], [.int .i64 3, .int .i64 0, .int .i64 0, .int .i64 0, .nils], [.int .i64 2, .int .i64 0, .int .i64 0, .int .i64 0, .nils]]),
  .p (.sl [[.int .i64 0, .int .i64 1, .bool false, .int .i64 0, .int .i64 0, .nils], [.int .i64 1, .int .i64 2, .bool false, .int .i64 0, .int .i64 0, .nils]])]
theorem og : bK yA = G9 ns0 fl0 := by simp [R0, bK, nrm, V1, I3, ns0, fl0, eN, eF, Tm.op, Tm.n, Tm.kids]
theorem zN : bK (B6 [Sa0]) = B6 [Sa0] := by
  have h : ∀ l : List Int, V1 (l.map (PV.int .i64)) = l.map (PV.int .i64) := by
    intro l
    induction l with
    | nil => simp [V1]
    | cons x l ih => simp [V1, nrm, ih]
  simp [bK, nrm, I3, eSt, h]
theorem zO (l : List Lb) : bK (aLs l) = aLs l := by
  have h : I3 (l.map eL) = l.map eL := by
    induction l with
    | nil => simp [I3]
    | cons x l ih => simp [I3, V1, nrm, eL, ih]
  simp [bK, nrm, h]
theorem qB (h : Heap) : d5 Tryz.prog gW 10 [] h (fun r h' => r = .b true ∧ h' = h) := by
  have s49 : B7 [Sa0] := fun t ht => by rw [List.mem_singleton] at ht; subst ht; rfl
  have hbg : ∀ h, d5 Tryz.prog gW 15 [yA] h (fun r h' => r = .tup [B6 [Sa0], .i 0] ∧ h' = h) := fun h => by
    refine d5.nrm ?_
    have := cj sw h
    rw [xb] at this
    simpa only [R0, og] using this
  have hlb : ∀ h, d5 Tryz.prog gW 19 [yA, B6 [Sa0]] h (fun r h' => r = aLs [(1, 1, 0), (1, 1, 1)] ∧ h' = h) := fun h => by
    refine d5.nrm ?_
    have := fx sw s49 (by decide) h
    rw [Bj] at this
    simpa only [R0, og, zN] using this
  have hac : ∀ h, d5 Tryz.prog gW 20 [yA, aLs [(1, 1, 1), (7, 0, 0), (7, 0, 0)]] h (fun r h' => r = .tup [.i 2, .i 0] ∧ h' = h) := fun h => by
    refine d5.nrm ?_
    have := li sw (l := [(1, 1, 1), (7, 0, 0), (7, 0, 0)]) (by decide) h
    rw [yz] at this
    simpa only [R0, og, zO] using this
  generalize Sa0 = S at *
  refine c8 (rl := []) d9 Tryz.func10 rfl (rs := [.tmp 0]) rfl Tryz.ntmps10 (by simp) ?_
  repeat' (first | ((repeat ((fail_if_success (refine hK _ ?_)); clear hK K)); refine hK _ ?_; clear hK K) | (refine b9 fun K1 q7 => ?_; simp only [S1, simprocAttr, yI, List.length_map, eL, O0]; first | refine q7 _ ?_; clear q7 K1 | (apply d4 E15; exact (hbg _); refine q7 _ ?_; clear q7 K1) | (apply d4 E19; exact (hlb _); refine q7 _ ?_; clear q7 K1) | (apply d4 E20; exact (hac _); refine q7 _ ?_; clear q7 K1)) | refine b6 fun K hK => ?_ | ((first | apply b8 | apply b5 | apply d3); try simp only [NB, simprocAttr]))
  all_goals simp only [S1, simprocAttr, ENB, yI]
end
section
def dg := And.intro T2 (And.intro T3 (And.intro T4 (And.intro T70 (And.intro T72 (And.intro T73 T75)))))
attribute [local irreducible] awp n8 k3
variable {G : Nat → Option (List PV)}
mutual
def J3 : Tm → Int → Int → Bool × Int
  | .mk _ _ ks, d, n => if n - 1 < 0 ∨ 30 < d ∨ 10 < (ks.length : Int) then (true, n - 1) else A6 ks (d + 1) (n - 1)
def A6 : List Tm → Int → Int → Bool × Int
  | [], _, n => (false, n)
  | k :: r, d, n => if (J3 k d n).1 = true then J3 k d n else A6 r d (J3 k d n).2
end
theorem oh (t : Tm) (d n : Int) : J3 t d n = if n - 1 < 0 ∨ 30 < d ∨ 10 < (t.kids.length : Int) then (true, n - 1) else A6 t.kids (d + 1) (n - 1) := by
  cases t; rw [J3]; rfl
theorem fy : ∀ (a b : List Tm) (d n : Int), A6 (a ++ b) d n = if (A6 a d n).1 = true then A6 a d n else A6 b d (A6 a d n).2
  | [], b, d, n => by simp [A6]
  | k :: r, b, d, n => by
    simp only [List.cons_append, A6]
    by_cases h : (J3 k d n).1 = true
    · simp [h]
    · simp only [h, if_false]
      exact fy r b d _
theorem cH {l : List Tm} {i : Nat} {k : Tm} (hk : l[i]? = some k) {d n : Int} (hp : (A6 (l.take i) d n).1 = false) :
    A6 (l.take (i + 1)) d n = J3 k d (A6 (l.take i) d n).2 := by
  rw [List.take_add_one, hk, fy]
  simp only [hp, Bool.false_eq_true, if_false, Option.toList_some, A6]
  split
  · rfl
  · rename_i h
    have : (J3 k d (A6 (List.take i l) d n).2).1 = false := by simpa using h
    rw [Prod.ext_iff]; exact ⟨this.symm, rfl⟩
theorem gF {l : List Tm} {i : Nat} {k : Tm} (hk : l[i]? = some k) {d n : Int} (hp : (A6 (l.take i) d n).1 = false) (ht : (J3 k d (A6 (l.take i) d n).2).1 = true) :
    A6 l d n = J3 k d (A6 (l.take i) d n).2 := by
  have h := cH hk hp
  conv => lhs; rw [← List.take_append_drop (i + 1) l]
  rw [fy, h, if_pos ht]
theorem xc : ∀ t : Tm, ∀ d n : Int, 0 ≤ n → -1 ≤ (J3 t d n).2 ∧ (J3 t d n).2 ≤ n ∧ ((J3 t d n).1 = false → 0 ≤ (J3 t d n).2) := by
  intro t
  refine Tm.ind (p := fun t => ∀ d n : Int, 0 ≤ n → -1 ≤ (J3 t d n).2 ∧ (J3 t d n).2 ≤ n ∧ ((J3 t d n).1 = false → 0 ≤ (J3 t d n).2)) (fun t ih => ?_) t
  have hs : ∀ l : List Tm, (∀ k ∈ l, k ∈ t.kids) → ∀ d n : Int, 0 ≤ n → -1 ≤ (A6 l d n).2 ∧ (A6 l d n).2 ≤ n ∧ ((A6 l d n).1 = false → 0 ≤ (A6 l d n).2) := by
    intro l
    induction l with
    | nil => intro _ d n hn; simp [A6]; omega
    | cons k r ihr =>
      intro hm d n hn
      have h1 := ih k (hm k (by simp)) d n hn
      simp only [A6]
      split
      · exact h1
      · rename_i h
        have h2 := h1.2.2 (by simpa using h)
        have h3 := ihr (fun x hx => hm x (by simp [hx])) d _ h2
        exact ⟨by omega, by omega, h3.2.2⟩
  intro d n hn
  rw [oh]
  split
  · simp; omega
  · rename_i h
    have := hs t.kids (fun _ h => h) (d + 1) (n - 1) (by omega)
    exact ⟨by omega, by omega, this.2.2⟩
theorem gG {l : List Tm} {d n : Int} (hn : 0 ≤ n) : -1 ≤ (A6 l d n).2 ∧ (A6 l d n).2 ≤ n ∧ ((A6 l d n).1 = false → 0 ≤ (A6 l d n).2) := by
  induction l generalizing n with
  | nil => simp [A6]; omega
  | cons k r ih =>
    have h1 := xc k d n hn
    simp only [A6]
    split
    · exact h1
    · rename_i h
      have h2 := h1.2.2 (by simpa using h)
      have h3 := ih h2
      exact ⟨by omega, by omega, h3.2.2⟩
theorem zP : ∀ t : Tm, ∀ d n : Int, (J3 t d n).1 = false → 1 ≤ d → Tm.Ok (31 - d).toNat t := by
  intro t
  refine Tm.ind (p := fun t => ∀ d n : Int, (J3 t d n).1 = false → 1 ≤ d → Tm.Ok (31 - d).toNat t) (fun t ih => ?_) t
  intro d n hf hd
  rw [oh] at hf
  split at hf
  · cases hf
  · rename_i h
    have hs : ∀ l : List Tm, ∀ d n : Int, (A6 l d n).1 = false → ∀ k ∈ l, ∃ m, (J3 k d m).1 = false := by
      intro l
      induction l with
      | nil => intro d n _ k hk; simp at hk
      | cons x r ihr =>
        intro d n hf k hk
        simp only [A6] at hf
        split at hf
        · rename_i h2; rw [h2] at hf; cases hf
        · rename_i h2
          rcases List.mem_cons.mp hk with rfl | hk
          · exact ⟨n, by simpa using h2⟩
          · exact ihr _ _ hf k hk
    have e : (31 - d).toNat = (31 - (d + 1)).toNat + 1 := by omega
    rw [e]
    refine .mk _ t (by omega) fun k hk => ?_
    obtain ⟨m, hm⟩ := hs _ _ _ hf k hk
    exact ih k hk _ _ hm (by omega)
theorem ol (t : Tm) : ∀ (d n : Int) (b g : Nat) (h : Heap), 0 ≤ n → n ≤ 3000 → 1 ≤ d → d ≤ 31 → h[b]? = some (rB g n) →
    d5 Tryz.prog G 29 [aT t, .ptr b g 0, .i d] h (fun r h' => r = .b (J3 t d n).1 ∧ h' = x8 h b (rB g (J3 t d n).2)) := by
  refine Tm.ind (p := fun t => ∀ (d n : Int) (b g : Nat) (h : Heap), 0 ≤ n → n ≤ 3000 → 1 ≤ d → d ≤ 31 → h[b]? = some (rB g n) →
    d5 Tryz.prog G 29 [aT t, .ptr b g 0, .i d] h (fun r h' => r = .b (J3 t d n).1 ∧ h' = x8 h b (rB g (J3 t d n).2))) (fun t ih => ?_) t
  intro d n b g h hn hn2 hd hd2 hb
  have hlt : b < h.length := (List.getElem?_eq_some_iff.mp hb).1
  have hself := xA hb
  have hw : IntKind.i64.wrap (n - 1) = n - 1 := IntWalk.i64_in _ (by omega)
  rw [oh]
  refine i3 (rl := []) d9 Tryz.func29 rfl (rs := [.tmp 6]) rfl Tryz.ntmps29 (by simp) ?_
  rw [← hself]
  by_cases hbig : n - 1 < 0 ∨ 30 < d ∨ 10 < (t.kids.length : Int)
  · rw [if_pos hbig]
    have f1 : ((decide (n - 1 < 0) || decide (30 < d)) || decide (10 < (t.kids.length : Int))) = true := by
      simp; omega
    repeat' (first | ((repeat ((fail_if_success (refine hK _ ?_)); clear hK K)); refine hK _ ?_; clear hK K) | ((first | refine b9 fun K1 q7 => ?_ | refine b7 fun A B hA hB => ?_); simp only [S1, simprocAttr, dg, f1, hw, List.length_map, dE hlt, jQ hlt, bS, dF hlt, cv, cw, B0]; first | refine q7 _ ?_; clear q7 K1 | (refine hA ?_; clear hA hB A B) | (refine l7 (v := ?_) (fun hg q8 => ?_) ?_; rotate_left; (focus (try ((try simp only [BN] at hg); simp only [S1, simprocAttr, dg, f1, hw, List.length_map, dE hlt, jQ hlt, bS, dF hlt, cv, cw, B0, hg] at q8 ⊢)); exact q8); refine q7 _ ?_; clear q7 K1)) | refine b6 fun K hK => ?_ | ((first | apply b8 | apply b5 | apply d3); try simp only [NB, simprocAttr]))
    all_goals simp only [z8, y4, P6, P5, I2, F8, E5, G3, pur, L3, B0, nC, jR, wl, S1, simprocAttr, dg, Nat.le_add_right, Nat.le_refl]
    all_goals first | exact N7 | exact ⟨N7, rfl⟩ | exact ⟨N7, rfl, rfl⟩
  · rw [if_neg hbig]
    have f1 : ((decide (n - 1 < 0) || decide (30 < d)) || decide (10 < (t.kids.length : Int))) = false := by
      simp; omega
    have hkl : t.kids.length ≤ 100 := by omega
    have hm0 : 0 ≤ n - 1 := by omega
    have hd3 : IntKind.i64.wrap (d + 1) = d + 1 := IntWalk.i64_in _ (by omega)
    let m := fun i => (A6 (t.kids.take i) (d + 1) (n - 1)).2
    refine b6 fun K hK => ?_
    repeat' (first | ((repeat ((fail_if_success (refine hK _ ?_)); clear hK K)); refine hK _ ?_; clear hK K) | ((first | refine b9 fun K1 q7 => ?_ | refine b7 fun A B hA hB => ?_); simp only [S1, simprocAttr, dg, f1, hw, List.length_map, dE hlt, jQ hlt, bS, dF hlt, cv, cw, B0]; first | refine q7 _ ?_; clear q7 K1 | (refine hB ?_; clear hA hB A B) | (refine l7 (v := ?_) (fun hg q8 => ?_) ?_; rotate_left; (focus (try ((try simp only [BN] at hg); simp only [S1, simprocAttr, dg, f1, hw, List.length_map, dE hlt, jQ hlt, bS, dF hlt, cv, cw, B0, hg] at q8 ⊢)); exact q8); refine q7 _ ?_; clear q7 K1)) | refine b6 fun K hK => ?_ | ((first | apply b8 | apply b5 | apply c7 | apply c9); try simp only [NB, simprocAttr]))
    refine Q8 t.kids.length 45 (fun i => x8 h b (rB g (m i))) (fun i => [(35, .i i), (34, .i t.kids.length), (33, .p (.sl (t.kids.map eT))), (1, .ptr b g 0), (2, .i d)]) (fun i => []) (fun i => (A6 (t.kids.take i) (d + 1) (n - 1)).1 = false)
      (fun i => ⟨by rw [B0, B0], sY⟩) ?_ (by simp [A6]) fun i hi hp K hK => ?_
    · have e0 : m 0 = n - 1 := by simp [m, A6]
      simp only [e0]
      refine ⟨rfl, ⟨_, rfl⟩, ?_, ?_⟩
      · simp [G7, r9, C9, B0]; omega
      · simp [B8]
    rcases Nat.lt_or_ge i t.kids.length with hlti | hge
    · obtain ⟨k, hx⟩ : ∃ k, t.kids[i]? = some k := ⟨_, List.getElem?_eq_getElem hlti⟩
      have hmem := List.mem_of_getElem? hx
      have hmi : 0 ≤ m i ∧ m i ≤ n - 1 := by
        have := gG (l := t.kids.take i) (d := d + 1) hm0
        exact ⟨this.2.2 hp, this.2.1⟩
      have hr : ∀ L : Heap, d5 Tryz.prog G 29 [aT k, .ptr b g 0, .i (d + 1)] (x8 h b (rB g (m i)) ++ L) (fun r h' => r = .b (J3 k (d + 1) (m i)).1 ∧ h' = x8 h b (rB g (J3 k (d + 1) (m i)).2) ++ L) := fun L => by
        have := ih k hmem (d + 1) (m i) b g (x8 h b (rB g (m i)) ++ L) hmi.1 (by omega) (by omega) (by omega) (dE hlt L)
        rwa [zj L hlt] at this
      cases hb1 : (J3 k (d + 1) (m i)).1 with
      | false =>
        rw [hb1] at hr
        have hs := cH hx hp
        repeat' (first | ((repeat ((fail_if_success (refine hK _ ?_)); clear hK K)); refine hK _ ?_; clear hK K) | ((first | refine b9 fun K1 q7 => ?_ | refine b7 fun A B hA hB => ?_); simp only [S1, simprocAttr, dg, dy hx, cq hlti, ab hkl hlti, p9, hd3, List.length_map, dE hlt, jQ hlt, bS, dF hlt, cv, cw, B0, sW, sX]; first | refine q7 _ ?_; clear q7 K1 | ((first | refine hA ?_ | refine hB ?_); clear hA hB A B) | (apply d4 E29; exact (hr _); refine q7 _ ?_; clear q7 K1)) | refine b6 fun K hK => ?_ | ((first | apply b8 | apply b5 | apply c7 | apply c9); try simp only [NB, simprocAttr]))
        refine ⟨hlti, by rw [hs]; exact hb1, ?_⟩
        have em : m (i + 1) = (J3 k (d + 1) (m i)).2 := by simp only [m, hs]
        rw [em]
        refine ⟨rfl, ⟨_, rfl⟩, ?_, ?_⟩
        · simp [G7, r9, C9, frL, B0]; omega
        · simp [B8]
      | true =>
        rw [hb1] at hr
        have hs := gF hx hp hb1
        repeat' (first | ((repeat ((fail_if_success (refine hK _ ?_)); clear hK K)); refine hK _ ?_; clear hK K) | ((first | refine b9 fun K1 q7 => ?_ | refine b7 fun A B hA hB => ?_); simp only [S1, simprocAttr, dg, dy hx, cq hlti, ab hkl hlti, p9, hd3, List.length_map, dE hlt, jQ hlt, bS, dF hlt, cv, cw, B0, sW, sX]; first | refine q7 _ ?_; clear q7 K1 | (refine hA ?_; clear hA hB A B) | (apply d4 E29; exact (hr _); refine q7 _ ?_; clear q7 K1)) | refine b6 fun K hK => ?_ | ((first | apply b8 | apply b5 | apply c7 | apply c9 | apply d3); try simp only [NB, simprocAttr]))
        rw [hs, hb1]
        simp only [z8, y4, P6, P5, I2, F8, E5, G3, pur, L3, B0, nC, jR, wl, S1, simprocAttr, dg, Nat.le_add_right, Nat.le_refl]
        first | exact N7 | exact ⟨N7, rfl⟩ | exact ⟨N7, rfl, rfl⟩
    · obtain rfl : i = t.kids.length := by omega
      repeat' (first | ((repeat ((fail_if_success (refine hK _ ?_)); clear hK K)); refine hK _ ?_; clear hK K) | ((first | refine b9 fun K1 q7 => ?_ | refine b7 fun A B hA hB => ?_); simp only [S1, simprocAttr, dg, iN]; first | refine q7 _ ?_; clear q7 K1 | (refine hB ?_; clear hA hB A B)) | refine b6 fun K hK => ?_ | ((first | apply b8 | apply b5 | apply f9 | apply d3); try simp only [NB, simprocAttr]))
      have e : t.kids.take t.kids.length = t.kids := List.take_length
      rw [e] at hp
      have em : m t.kids.length = (A6 t.kids (d + 1) (n - 1)).2 := by simp only [m, e]
      rw [em, hp]
      simp only [z8, y4, P6, P5, I2, F8, E5, G3, pur, L3, B0, nC, jR, wl, S1, simprocAttr, dg, Nat.le_add_right, Nat.le_refl]
      first | exact N7 | exact ⟨N7, rfl⟩ | exact ⟨N7, rfl, rfl⟩
end
section
def Y3 := And.intro T2 (And.intro T3 (And.intro T4 (And.intro T22 (And.intro T23 (And.intro T25 (And.intro T70 (And.intro T72 (And.intro T73 (And.intro T75 (And.intro T77 T80))))))))))
attribute [local irreducible] awp n8 k3 l8 o4 m8
variable {G : Nat → Option (List PV)}
theorem xd {l : List Tm} : ∀ {d n : Int}, 1 ≤ d → (A6 l d n).1 = false → ∀ k ∈ l, Tm.Ok (31 - d).toNat k := by
  induction l with
  | nil => intro d n _ _ k hk; simp at hk
  | cons x r ih =>
    intro d n hd hf k hk
    simp only [A6] at hf
    split at hf
    · rename_i h2; rw [h2] at hf; cases hf
    · rename_i h2
      rcases List.mem_cons.mp hk with rfl | hk
      · exact zP _ _ _ (by simpa using h2) hd
      · exact ih hd hf k hk
def Y4 (ns : List Nd) : Nat := ns.countP fun k => k.kind == 6
theorem uV {ns : List Nd} {j : Nat} {k : Nd} (h : ns[j]? = some k) : Y4 (ns.take (j + 1)) = Y4 (ns.take j) + if k.kind = 6 then 1 else 0 := by
  unfold Y4
  rw [List.take_add_one, h, List.countP_append]
  by_cases e : k.kind = 6 <;> simp [e]
theorem yB (ns : List Nd) : Y4 ns ≤ ns.length := List.countP_le_length
def cn (ns : List Nd) (fl : List Fl) : Bool := (decide (25 < (ns.length : Int)) || decide (41 < (fl.length : Int))) || ((A6 (N8 ns fl) 1 400).1 || decide (4 < (Y4 ns : Int)))
theorem uW {ns : List Nd} {fl : List Fl} (h : cn ns fl = false) : NetOk ns fl := by
  unfold cn at h
  simp only [Bool.or_eq_false_iff, decide_eq_false_iff_not] at h
  obtain ⟨⟨h1, h2⟩, h3, h4⟩ := h
  have ha := xd (by omega) h3
  refine ⟨by omega, by omega, ⟨30, by omega, fun k hk => ha _ ?_⟩, ⟨30, by omega, fun k hk => ha _ ?_⟩⟩
  · unfold N8; exact List.mem_append_left _ (List.mem_map.mpr ⟨k, hk, rfl⟩)
  · unfold N8; exact List.mem_append_right _ (List.mem_map.mpr ⟨k, hk, rfl⟩)
theorem qC (k : Tm) (n : Int) (hn : 0 ≤ n) (hn2 : n ≤ 3000) (h : Heap) (A : Option Blk) (L : Heap) :
    d5 Tryz.prog G 29 [aT k, .ptr (h.length + 1) 0 0, .i 1] (h ++ (A :: some ⟨0, [.i n]⟩ :: L)) (fun r h' => r = .b (J3 k 1 n).1 ∧ h' = h ++ (A :: some ⟨0, [.i (J3 k 1 n).2]⟩ :: L)) := by
  have := ol (G := G) k 1 n (h.length + 1) 0 (h ++ (A :: some ⟨0, [.i n]⟩ :: L)) hn hn2 (by omega) (by omega) (by simp [m9])
  simpa only [x8, T5, List.set_cons_succ, List.set_cons_zero] using this
theorem om (ns : List Nd) (fl : List Fl) (h : Heap) : d5 Tryz.prog G 9 [G9 ns fl] h (fun r h' => r = .b (cn ns fl) ∧ h' = h) := by
  cases hsz : (decide (25 < (ns.length : Int)) || decide (41 < (fl.length : Int))) with
  | true =>
    have e : cn ns fl = true := by unfold cn; rw [hsz]; rfl
    rw [e]
    refine c8 (rl := []) d9 Tryz.func9 rfl (rs := [.tmp 2]) rfl Tryz.ntmps9 (by simp) ?_
    repeat' (first | ((repeat ((fail_if_success (refine hK _ ?_)); clear hK K)); refine hK _ ?_; clear hK K) | ((first | refine b9 fun K1 q7 => ?_ | refine b7 fun A B hA hB => ?_); simp only [S1, simprocAttr, Y3, List.length_map, hsz]; first | refine q7 _ ?_; clear q7 K1 | (refine hA ?_; clear hA hB A B) | (refine l7 (v := ?_) (fun hg q8 => ?_) ?_; rotate_left; (focus (try ((try simp only [BN] at hg); simp only [S1, simprocAttr, Y3, List.length_map, hsz, hg] at q8 ⊢)); exact q8); refine q7 _ ?_; clear q7 K1)) | refine b6 fun K hK => ?_ | ((first | apply b8 | apply b5 | apply d3); try simp only [NB, simprocAttr]))
    all_goals simp only [S1, simprocAttr, ENB, Y3]
  | false =>
    have e : cn ns fl = ((A6 (N8 ns fl) 1 400).1 || decide (4 < (Y4 ns : Int))) := by unfold cn; rw [hsz]; rfl
    have hn : ns.length ≤ 100 := by simp at hsz; omega
    have hl : fl.length ≤ 100 := by simp at hsz; omega
    rw [e]
    let m := fun j => (A6 ((ns.map (·.term)).take j) 1 400)
    let m2 := fun j => (A6 (ns.map (·.term) ++ (fl.map (·.cond)).take j) 1 400)
    refine c8 (rl := []) d9 Tryz.func9 rfl (rs := [.tmp 2]) rfl Tryz.ntmps9 (by simp) ?_
    repeat' (first | ((repeat ((fail_if_success (refine hK _ ?_)); clear hK K)); refine hK _ ?_; clear hK K) | ((first | refine b9 fun K1 q7 => ?_ | refine b7 fun A B hA hB => ?_); simp only [S1, simprocAttr, Y3, List.length_map, hsz]; first | refine q7 _ ?_; clear q7 K1 | (refine hB ?_; clear hA hB A B) | (refine l7 (v := ?_) (fun hg q8 => ?_) ?_; rotate_left; (focus (try ((try simp only [BN] at hg); simp only [S1, simprocAttr, Y3, List.length_map, hsz, hg] at q8 ⊢)); exact q8); refine q7 _ ?_; clear q7 K1)) | refine b6 fun K hK => ?_ | ((first | apply b8 | apply b5 | apply c7 | apply c9); try simp only [NB, simprocAttr]))
    refine o8 ns.length 52 (fun j => [(24, .i j), (23, .i ns.length), (22, .p (.sl (ns.map eN))), (4, .i (Y4 (ns.take j))), (3, .ptr (h.length + 1) 0 0), (1, .ptr h.length 0 0)])
      (fun j => [some ⟨0, w8 ns fl⟩, some ⟨0, [.i (m j).2]⟩]) (fun j => (m j).1 = false) ?_ (by simp [m, A6]) fun j hj hp K hK => ?_
    · have e0 : (m 0).2 = 400 := by simp [m, A6]
      simp only [e0]
      (refine ⟨rfl, (by first | exact ⟨_, rfl⟩ | exact ⟨[], by simp⟩), ?_, ?_⟩ <;> simp only [S1, simprocAttr, KNB] <;> (try and_intros) <;> (try assumption) <;> (try trivial) <;> (try omega))
    rcases Nat.lt_or_ge j ns.length with hlt | hge
    · obtain ⟨k, hx⟩ : ∃ k, ns[j]? = some k := ⟨_, List.getElem?_eq_getElem hlt⟩
      have hx2 : (ns.map (·.term))[j]? = some k.term := by simp [hx]
      have hr := gG (l := (ns.map (·.term)).take j) (d := 1) (n := 400) (by omega)
      have hd := fun A L => qC (G := G) k.term (m j).2 (hr.2.2 hp) (by have := hr.2.1; show (A6 _ _ _).2 ≤ 3000; omega) h A L
      have hal := yB (ns.take j)
      rw [List.length_take] at hal
      have hna : IntKind.i64.wrap ((Y4 (ns.take j) : Int) + 1) = ((Y4 (ns.take j) + 1 : Nat) : Int) := by rw [IntWalk.i64_in _ (by omega)]; omega
      have h6 := uV hx
      rcases (show ((k.kind == 6) = true ∧ Y4 (ns.take (j + 1)) = Y4 (ns.take j) + 1) ∨ ((k.kind == 6) = false ∧ Y4 (ns.take (j + 1)) = Y4 (ns.take j)) by
        by_cases e : k.kind = 6
        · rw [if_pos e] at h6; exact .inl ⟨by simp [e], h6⟩
        · rw [if_neg e] at h6; exact .inr ⟨by simp [e], h6⟩) with ⟨e6, ea⟩ | ⟨e6, ea⟩
      all_goals
        cases hq : (J3 k.term 1 (m j).2).1 with
        | false =>
          have hs := cH hx2 hp
          rw [hq] at hd
          repeat' (first | ((repeat ((fail_if_success (refine hK _ ?_)); clear hK K)); refine hK _ ?_; clear hK K) | ((first | refine b9 fun K1 q7 => ?_ | refine b7 fun A B hA hB => ?_); simp only [S1, simprocAttr, Y3, e6, hna, H9 hx, W4 hlt, K3 hn hlt, eN, List.length_map]; first | refine q7 _ ?_; clear q7 K1 | ((first | refine hA ?_ | refine hB ?_); clear hA hB A B) | (apply d4 E29; exact (hd _ _); refine q7 _ ?_; clear q7 K1)) | refine b6 fun K hK => ?_ | ((first | apply b8 | apply b5 | apply c7 | apply c9); try simp only [NB, simprocAttr]))
          refine ⟨hlt, by show (A6 _ _ _).1 = false; rw [hs]; exact hq, ?_⟩
          have em : m (j + 1) = J3 k.term 1 (m j).2 := hs
          rw [em, ea]
          (refine ⟨rfl, (by first | exact ⟨_, rfl⟩ | exact ⟨[], by simp⟩), ?_, ?_⟩ <;> simp only [S1, simprocAttr, KNB] <;> (try and_intros) <;> (try assumption) <;> (try trivial) <;> (try omega))
        | true =>
          have hs : (A6 (N8 ns fl) 1 400).1 = true := by
            unfold N8
            rw [fy, gF hx2 hp hq, if_pos hq]; exact hq
          rw [hq] at hd
          repeat' (first | ((repeat ((fail_if_success (refine hK _ ?_)); clear hK K)); refine hK _ ?_; clear hK K) | ((first | refine b9 fun K1 q7 => ?_ | refine b7 fun A B hA hB => ?_); simp only [S1, simprocAttr, Y3, e6, hna, H9 hx, W4 hlt, K3 hn hlt, eN, List.length_map]; first | refine q7 _ ?_; clear q7 K1 | ((first | refine hA ?_ | refine hB ?_); clear hA hB A B) | (apply d4 E29; exact (hd _ _); refine q7 _ ?_; clear q7 K1)) | refine b6 fun K hK => ?_ | ((first | apply b8 | apply b5 | apply c7 | apply c9 | apply d3); try simp only [NB, simprocAttr]))
          all_goals simp only [S1, simprocAttr, ENB, Y3]
          all_goals (rw [hs]; first | done | rfl)
    obtain rfl : j = ns.length := by omega
    have ef : (ns.map (·.term)).take ns.length = ns.map (·.term) := List.take_of_length_le (by simp)
    have ean : ns.take ns.length = ns := List.take_length
    have hp0 : (A6 (ns.map (·.term)) 1 400).1 = false := by have := hp; simp only [m, ef] at this; exact this
    have m0 : m2 0 = m ns.length := by simp only [m, m2, ef, List.take_zero, List.append_nil]
    rw [ean]
    repeat' (first | ((repeat ((fail_if_success (refine hK _ ?_)); clear hK K)); refine hK _ ?_; clear hK K) | ((first | refine b9 fun K1 q7 => ?_ | refine b7 fun A B hA hB => ?_); simp only [S1, simprocAttr, Y3, dB, List.length_map]; first | refine q7 _ ?_; clear q7 K1 | (refine hB ?_; clear hA hB A B)) | refine b6 fun K hK => ?_ | ((first | apply b8 | apply b5 | apply c7 | apply f9); try simp only [NB, simprocAttr]))
    refine o8 fl.length 52 (fun j => [(41, .i j), (40, .i fl.length), (39, .p (.sl (fl.map eF))), (4, .i (Y4 ns)), (3, .ptr (h.length + 1) 0 0), (1, .ptr h.length 0 0)])
      (fun j => [some ⟨0, w8 ns fl⟩, some ⟨0, [.i (m2 j).2]⟩]) (fun j => (m2 j).1 = false) ?_ (by rw [m0]; exact hp) fun j hj hp K hK => ?_
    · simp only [m0]
      (refine ⟨rfl, (by first | exact ⟨_, rfl⟩ | exact ⟨[], by simp⟩), ?_, ?_⟩ <;> simp only [S1, simprocAttr, KNB] <;> (try and_intros) <;> (try assumption) <;> (try trivial) <;> (try omega))
    rcases Nat.lt_or_ge j fl.length with hlt | hge
    · obtain ⟨k, hx⟩ : ∃ k, fl[j]? = some k := ⟨_, List.getElem?_eq_getElem hlt⟩
      have hx2 : (N8 ns fl)[ns.length + j]? = some k.cond := by
        unfold N8
        rw [List.getElem?_append_right (by simp)]
        simp [hx]
      have et : ∀ i, i ≤ fl.length → (N8 ns fl).take (ns.length + i) = ns.map (·.term) ++ (fl.map (·.cond)).take i := by
        intro i hi
        unfold N8
        have : ns.length = (ns.map (·.term)).length := by simp
        rw [this, List.take_length_add_append]
      have hp' : (A6 ((N8 ns fl).take (ns.length + j)) 1 400).1 = false := by rw [et j hj]; exact hp
      have em2 : (A6 ((N8 ns fl).take (ns.length + j)) 1 400) = m2 j := by rw [et j hj]
      have hr := gG (l := ns.map (·.term) ++ (fl.map (·.cond)).take j) (d := 1) (n := 400) (by omega)
      have hd := fun A L => qC (G := G) k.cond (m2 j).2 (hr.2.2 hp) (by have := hr.2.1; show (A6 _ _ _).2 ≤ 3000; omega) h A L
      cases hq : (J3 k.cond 1 (m2 j).2).1 with
      | false =>
        have hs := cH hx2 hp'
        rw [em2] at hs
        have em : m2 (j + 1) = J3 k.cond 1 (m2 j).2 := by
          rw [← hs, Nat.add_assoc, et (j + 1) hlt]
        rw [hq] at hd
        repeat' (first | ((repeat ((fail_if_success (refine hK _ ?_)); clear hK K)); refine hK _ ?_; clear hK K) | ((first | refine b9 fun K1 q7 => ?_ | refine b7 fun A B hA hB => ?_); simp only [S1, simprocAttr, Y3, T7 hx, cJ hlt, S4 hl hlt, eF, List.length_map]; first | refine q7 _ ?_; clear q7 K1 | ((first | refine hA ?_ | refine hB ?_); clear hA hB A B) | (apply d4 E29; exact (hd _ _); refine q7 _ ?_; clear q7 K1)) | refine b6 fun K hK => ?_ | ((first | apply b8 | apply b5 | apply c7 | apply c9); try simp only [NB, simprocAttr]))
        refine ⟨hlt, by rw [em]; exact hq, ?_⟩
        rw [em]
        (refine ⟨rfl, (by first | exact ⟨_, rfl⟩ | exact ⟨[], by simp⟩), ?_, ?_⟩ <;> simp only [S1, simprocAttr, KNB] <;> (try and_intros) <;> (try assumption) <;> (try trivial) <;> (try omega))
      | true =>
        have hs : (A6 (N8 ns fl) 1 400).1 = true := by
          rw [gF hx2 hp' (by rw [em2]; exact hq), em2]; exact hq
        rw [hq] at hd
        repeat' (first | ((repeat ((fail_if_success (refine hK _ ?_)); clear hK K)); refine hK _ ?_; clear hK K) | ((first | refine b9 fun K1 q7 => ?_ | refine b7 fun A B hA hB => ?_); simp only [S1, simprocAttr, Y3, T7 hx, cJ hlt, S4 hl hlt, eF, List.length_map]; first | refine q7 _ ?_; clear q7 K1 | (refine hA ?_; clear hA hB A B) | (apply d4 E29; exact (hd _ _); refine q7 _ ?_; clear q7 K1)) | refine b6 fun K hK => ?_ | ((first | apply b8 | apply b5 | apply c7 | apply c9 | apply d3); try simp only [NB, simprocAttr]))
        all_goals simp only [S1, simprocAttr, ENB, Y3]
        all_goals (rw [hs]; first | done | rfl)
    obtain rfl : j = fl.length := by omega
    have ef2 : (fl.map (·.cond)).take fl.length = fl.map (·.cond) := List.take_of_length_le (by simp)
    have hs : (A6 (N8 ns fl) 1 400).1 = false := by have := hp; simp only [m2, ef2] at this; exact this
    repeat' (first | ((repeat ((fail_if_success (refine hK _ ?_)); clear hK K)); refine hK _ ?_; clear hK K) | ((first | refine b9 fun K1 q7 => ?_ | refine b7 fun A B hA hB => ?_); simp only [S1, simprocAttr, Y3, rk]; first | refine q7 _ ?_; clear q7 K1 | (refine hB ?_; clear hA hB A B)) | refine b6 fun K hK => ?_ | ((first | apply b8 | apply b5 | apply f9 | apply d3); try simp only [NB, simprocAttr]))
    all_goals simp only [S1, simprocAttr, ENB, Y3]
    all_goals (rw [hs]; first | done | rfl)
end
section
def bo := And.intro T2 (And.intro T3 (And.intro T4 (And.intro T25 (And.intro T26 (And.intro T28 (And.intro T31 (And.intro T34 (And.intro T36 (And.intro T41 (And.intro T44 (And.intro T57 (And.intro T58 T82))))))))))))
attribute [local irreducible] awp n8 k3 l8 o4 m8
structure Qwk where
  j : Nat
  c : List Sv
  e : Int
theorem sx (ns : List Nd) (fl : List Fl) (picks : List Int) (h : Heap) : d5 Tryz.prog gW 4 [G9 ns fl, aI picks] h (fun r h' => r = .b true ∧ h' = h) := by
  have hline := fun h => qB h
  have hlg := fun h => om (G := gW) ns fl h
  cases hl : cn ns fl with
  | true =>
    rw [hl] at hlg
    refine c8 (rl := []) d9 Tryz.func4 rfl (rs := [.tmp 4]) rfl Tryz.ntmps4 (by simp) ?_
    repeat' (first | ((repeat ((fail_if_success (refine hK _ ?_)); clear hK K)); refine hK _ ?_; clear hK K) | ((first | refine b9 fun K1 q7 => ?_ | refine b7 fun A B hA hB => ?_); simp only [S1, simprocAttr, bo, List.length_map]; first | refine q7 _ ?_; clear q7 K1 | (refine hA ?_; clear hA hB A B) | (apply d4 E9; exact (hlg _); refine q7 _ ?_; clear q7 K1) | (apply d4 E10; exact (hline _); refine q7 _ ?_; clear q7 K1)) | refine b6 fun K hK => ?_ | ((first | apply b8 | apply b5 | apply d3); try simp only [NB, simprocAttr]))
    all_goals simp only [S1, simprocAttr, ENB, bo]
  | false =>
  rw [hl] at hlg
  have nk := uW hl
  by_cases h12 : picks.length ≤ 12
  case neg =>
    have f12 : decide (12 < (picks.length : Int)) = true := decide_eq_true (by omega)
    refine c8 (rl := []) d9 Tryz.func4 rfl (rs := [.tmp 4]) rfl Tryz.ntmps4 (by simp) ?_
    repeat' (first | ((repeat ((fail_if_success (refine hK _ ?_)); clear hK K)); refine hK _ ?_; clear hK K) | ((first | refine b9 fun K1 q7 => ?_ | refine b7 fun A B hA hB => ?_); simp only [S1, simprocAttr, bo, f12, List.length_map]; first | refine q7 _ ?_; clear q7 K1 | (refine hA ?_; clear hA hB A B) | (apply d4 E9; exact (hlg _); refine q7 _ ?_; clear q7 K1) | (apply d4 E10; exact (hline _); refine q7 _ ?_; clear q7 K1)) | refine b6 fun K hK => ?_ | ((first | apply b8 | apply b5 | apply d3); try simp only [NB, simprocAttr]))
    all_goals simp only [S1, simprocAttr, ENB, bo]
  have f12 : decide (12 < (picks.length : Int)) = false := decide_eq_false (by omega)
  have xJ : ∀ x : Int, (x != x) = false := fun x => by simp
  have hbg := fun h => cj nk h
  have hrb := fun h => nZ nk h
  have hb49 := mB ns fl
  have hble := mA ns fl
  obtain ⟨c0, e0, hce⟩ : ∃ c e, B3 ns fl = (c, e) := ⟨_, _, rfl⟩
  rw [hce] at hbg hrb hb49 hble
  simp only at hbg hrb hb49 hble
  refine c8 (rl := []) d9 Tryz.func4 rfl (rs := [.tmp 4]) rfl Tryz.ntmps4 (by simp) ?_
  repeat' (first | ((repeat ((fail_if_success (refine hK _ ?_)); clear hK K)); refine hK _ ?_; clear hK K) | ((first | refine b9 fun K1 q7 => ?_ | refine b7 fun A B hA hB => ?_); simp only [S1, simprocAttr, bo, f12, xJ, d8, e9, List.length_map]; first | refine q7 _ ?_; clear q7 K1 | (refine hB ?_; clear hA hB A B) | (apply d4 E9; exact (hlg _); refine q7 _ ?_; clear q7 K1) | (apply d4 E15; exact (hbg _); refine q7 _ ?_; clear q7 K1) | (apply d4 E16; exact (hrb _); refine q7 _ ?_; clear q7 K1)) | refine b6 fun K hK => ?_ | ((first | apply b8 | apply b5 | apply c7 | apply c9); try simp only [NB, simprocAttr]))
  refine H7 (σ := Qwk) (fun q => picks.length - q.j) 100 (fun q => [(36, .i q.j), (35, .i picks.length), (34, aI picks), (5, B6 q.c), (7, .ptr (h.length + 1) 0 0), (2, .ptr h.length 0 0)])
    (fun q => [some ⟨0, w8 ns fl⟩, some ⟨0, [B6 q.c, .i q.e]⟩]) (fun q => q.j ≤ picks.length ∧ B7 q.c ∧ q.c.length ≤ 1500) ⟨0, c0, e0⟩ ?_ ⟨Nat.zero_le _, hb49, hble⟩ fun q hq K hK => ?_
  · refine ⟨rfl, ⟨_, rfl⟩, ?_, ⟨trivial, trivial, trivial⟩, ⟨trivial, trivial, trivial⟩, trivial⟩
    simp only [S1, simprocAttr, KNB] <;> (try and_intros) <;> (try assumption) <;> (try trivial) <;> (try omega)
  clear hce hbg hrb hb49 hble
  obtain ⟨j, c, e⟩ := q
  obtain ⟨hj, c49, cle⟩ := hq
  simp only at hj c49 cle hK ⊢
  have hsm := fun h => qA c49 c49 (by omega) (by omega) h
  rw [decide_eq_true rfl] at hsm
  rcases Nat.lt_or_ge j picks.length with hlt | hge
  · obtain ⟨p, hpj⟩ : ∃ p, picks[j]? = some p := ⟨_, List.getElem?_eq_getElem hlt⟩
    have hnx := G8 (l := picks) (by omega) hlt
    have hl1 := fun h => fx nk c49 cle h
    have hl2 := fun h => lm nk c49 cle h
    have b1 := mH (D7 ns fl c)
    have b2 := cl ns fl c
    have bL : (N0 (D7 ns fl c)).length ≤ 4000000 := by omega
    clear b1 b2
    generalize N0 (D7 ns fl c) = L at *
    have hsl := fun h => qu (G := gW) L L (by omega) (by omega) h
    rw [decide_eq_true rfl] at hsl
    by_cases hp0 : p < 0
    · have fp : decide (p < 0) = true := decide_eq_true hp0
      repeat' (first | ((repeat ((fail_if_success (refine hK _ ?_)); clear hK K)); refine hK _ ?_; clear hK K) | ((first | refine b9 fun K1 q7 => ?_ | refine b7 fun A B hA hB => ?_); simp only [S1, simprocAttr, bo, F5 hpj, N5 hlt, hnx, fp, d8, e9, List.length_map]; first | refine q7 _ ?_; clear q7 K1 | ((first | refine hA ?_ | refine hB ?_); clear hA hB A B) | (apply d4 E17; exact (hl2 _); refine q7 _ ?_; clear q7 K1) | (apply d4 E19; exact (hl1 _); refine q7 _ ?_; clear q7 K1) | (apply d4 E14; exact (hsm _); refine q7 _ ?_; clear q7 K1) | (apply d4 E18; exact (hsl _); refine q7 _ ?_; clear q7 K1)) | refine b6 fun K hK => ?_ | ((first | apply b8 | apply b5 | apply c7 | apply f9 | apply c9); try simp only [NB, simprocAttr]))
      all_goals refine ⟨⟨j + 1, c, e⟩, by simp only; omega, ⟨hlt, c49, cle⟩, ?_⟩
      all_goals refine ⟨rfl, ⟨_, rfl⟩, ?_, ⟨trivial, trivial, trivial⟩, ⟨trivial, trivial, trivial⟩, trivial⟩
      all_goals simp only [S1, simprocAttr, KNB] <;> (try and_intros) <;> (try assumption) <;> (try trivial) <;> (try omega)
    have fp : decide (p < 0) = false := decide_eq_false hp0
    by_cases hL : L = []
    · subst hL
      repeat' (first | ((repeat ((fail_if_success (refine hK _ ?_)); clear hK K)); refine hK _ ?_; clear hK K) | ((first | refine b9 fun K1 q7 => ?_ | refine b7 fun A B hA hB => ?_); simp only [S1, simprocAttr, bo, F5 hpj, N5 hlt, hnx, fp, d8, e9, List.length_map]; first | refine q7 _ ?_; clear q7 K1 | ((first | refine hA ?_ | refine hB ?_); clear hA hB A B) | (apply d4 E17; exact (hl2 _); refine q7 _ ?_; clear q7 K1) | (apply d4 E19; exact (hl1 _); refine q7 _ ?_; clear q7 K1) | (apply d4 E14; exact (hsm _); refine q7 _ ?_; clear q7 K1) | (apply d4 E18; exact (hsl _); refine q7 _ ?_; clear q7 K1)) | refine b6 fun K hK => ?_ | ((first | apply b8 | apply b5 | apply c7 | apply f9 | apply c9); try simp only [NB, simprocAttr]))
      all_goals refine ⟨⟨j + 1, c, e⟩, by simp only; omega, ⟨hlt, c49, cle⟩, ?_⟩
      all_goals refine ⟨rfl, ⟨_, rfl⟩, ?_, ⟨trivial, trivial, trivial⟩, ⟨trivial, trivial, trivial⟩, trivial⟩
      all_goals simp only [S1, simprocAttr, KNB] <;> (try and_intros) <;> (try assumption) <;> (try trivial) <;> (try omega)
    have hpos : 0 < L.length := List.length_pos_iff.mpr hL
    have fl0 : ((L.length : Int) == 0) = false := by simp; omega
    have fl0' : ((L.length : Int) = 0) = False := by simp; omega
    obtain ⟨n, rfl⟩ := Int.eq_ofNat_of_zero_le (by omega : 0 ≤ p)
    obtain ⟨r, hmlt, hmod⟩ : ∃ r : Nat, r < L.length ∧ Int.tmod (n : Int) (L.length : Int) = (r : Int) := ⟨n % L.length, Nat.mod_lt _ hpos, rfl⟩
    have hinr : inR .i64 (r : Int) = true := by
      unfold inR
      simp only [Bool.and_eq_true, decide_eq_true_eq]
      refine ⟨?_, ?_⟩
      · show (-9223372036854775808 : Int) ≤ _; omega
      · show _ ≤ (9223372036854775807 : Int); omega
    have r0 : (0 : Int) ≤ (r : Int) := by omega
    obtain ⟨x, hx⟩ : ∃ y, L[r]? = some y := ⟨_, List.getElem?_eq_getElem hmlt⟩
    have hxr := lh hx
    have h1 := fun h => iy nk c49 (by omega) x h
    have h2 := fun h => oa nk c49 (by omega) x h
    have ha49 := mw (ns := ns) (fl := fl) c49 x
    have hale := mv ns fl c x
    obtain ⟨c', e', hce⟩ : ∃ c1 e1, u7 ns fl c x = (c1, e1) := ⟨_, _, rfl⟩
    rw [hce] at h1 h2 ha49 hale
    simp only at h1 h2 ha49 hale
    clear hce
    by_cases he : e' = 0
    · subst he
      repeat' (first | ((repeat ((fail_if_success (refine hK _ ?_)); clear hK K)); refine hK _ ?_; clear hK K) | ((first | refine b9 fun K1 q7 => ?_ | refine b7 fun A B hA hB => ?_); simp only [S1, simprocAttr, bo, F5 hpj, N5 hlt, hnx, fp, fl0, fl0', hmod, hinr, r0, hxr, xJ, O0, d8, e9, List.length_map]; first | refine q7 _ ?_; clear q7 K1 | ((first | refine hA ?_ | refine hB ?_); clear hA hB A B) | (apply d4 E17; exact (hl2 _); refine q7 _ ?_; clear q7 K1) | (apply d4 E19; exact (hl1 _); refine q7 _ ?_; clear q7 K1) | (apply d4 E14; exact (hsm _); refine q7 _ ?_; clear q7 K1) | (apply d4 E18; exact (hsl _); refine q7 _ ?_; clear q7 K1) | (apply d4 E11; exact (h1 _); refine q7 _ ?_; clear q7 K1) | (apply d4 E12; exact (h2 _); refine q7 _ ?_; clear q7 K1)) | refine b6 fun K hK => ?_ | ((first | apply b8 | apply b5 | apply c7 | apply c9); try simp only [NB, simprocAttr]))
      all_goals refine ⟨⟨j + 1, c', 0⟩, by simp only; omega, ⟨hlt, ha49, hale⟩, ?_⟩
      all_goals refine ⟨rfl, ⟨_, rfl⟩, ?_, ⟨trivial, trivial, trivial⟩, ⟨trivial, trivial, trivial⟩, trivial⟩
      all_goals simp only [S1, simprocAttr, KNB] <;> (try and_intros) <;> (try assumption) <;> (try trivial) <;> (try omega)
    · have fe : (e' != 0) = true := by simp [he]
      repeat' (first | ((repeat ((fail_if_success (refine hK _ ?_)); clear hK K)); refine hK _ ?_; clear hK K) | ((first | refine b9 fun K1 q7 => ?_ | refine b7 fun A B hA hB => ?_); simp only [S1, simprocAttr, bo, F5 hpj, N5 hlt, hnx, fp, fl0, fl0', hmod, hinr, r0, hxr, xJ, fe, O0, d8, e9, List.length_map]; first | refine q7 _ ?_; clear q7 K1 | ((first | refine hA ?_ | refine hB ?_); clear hA hB A B) | (apply d4 E17; exact (hl2 _); refine q7 _ ?_; clear q7 K1) | (apply d4 E19; exact (hl1 _); refine q7 _ ?_; clear q7 K1) | (apply d4 E14; exact (hsm _); refine q7 _ ?_; clear q7 K1) | (apply d4 E18; exact (hsl _); refine q7 _ ?_; clear q7 K1) | (apply d4 E11; exact (h1 _); refine q7 _ ?_; clear q7 K1) | (apply d4 E12; exact (h2 _); refine q7 _ ?_; clear q7 K1) | (apply d4 E10; exact (hline _); refine q7 _ ?_; clear q7 K1)) | refine b6 fun K hK => ?_ | ((first | apply b8 | apply b5 | apply c7 | apply c9 | apply d3); try simp only [NB, simprocAttr]))
      all_goals simp only [S1, simprocAttr, ENB, bo]
  · obtain rfl : j = picks.length := by omega
    repeat' (first | ((repeat ((fail_if_success (refine hK _ ?_)); clear hK K)); refine hK _ ?_; clear hK K) | ((first | refine b9 fun K1 q7 => ?_ | refine b7 fun A B hA hB => ?_); simp only [S1, simprocAttr, bo, H8, d8, e9, List.length_map]; first | refine q7 _ ?_; clear q7 K1 | (refine hB ?_; clear hA hB A B) | (apply d4 E14; exact (hsm _); refine q7 _ ?_; clear q7 K1) | (apply d4 E10; exact (hline _); refine q7 _ ?_; clear q7 K1)) | refine b6 fun K hK => ?_ | ((first | apply b8 | apply b5 | apply f9 | apply d3); try simp only [NB, simprocAttr]))
    all_goals simp only [S1, simprocAttr, ENB, bo]
theorem trailwalks_given (xss : List (List PV)) (hl : xss.length = [25, 41].length) (ht : ∀ (j : Nat) t xs, [25, 41][j]? = some t → xss[j]? = some xs → ∃ fuel, Ty Tryz.prog fuel t xs) :
    d5 Tryz.prog gW 4 (List.zipWith (nF Tryz.prog) [25, 41] xss) [] fun r h' => r = .b true ∧ h' = [] := by
  match xss, hl, ht with
  | [x0, x1], _, ht =>
    obtain ⟨_, h0⟩ := ht 0 25 x0 rfl rfl
    obtain ⟨_, h1⟩ := ht 1 41 x1 rfl rfl
    obtain ⟨ns, fl, e0⟩ := xH h0
    obtain ⟨l, e1⟩ := wU h1
    simp only [List.zipWith_cons_cons, List.zipWith_nil_left, e0, e1]
    exact sx ns fl l []
end
end Go.Proofs.YtbbmfemplmelhaaGreatDoor.AM
