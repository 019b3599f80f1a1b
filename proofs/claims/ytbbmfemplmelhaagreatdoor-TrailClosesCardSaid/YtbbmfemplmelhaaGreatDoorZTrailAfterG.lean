/- Proved here, in parts, for one law: contracts of the functions that the laws call, and the plain facts behind them. Conditions: none. -/
import Derived.Test.YtbbmfemplmelhaaGreatDoorZTrailAfterF
import Derived.Shelf.SlSortCmp.WholeK
import Derived.Shelf.SlGeneric
import Derived.Shelf.SlSortCmp.NoneTotal
set_option linter.unusedVariables false
set_option linter.unusedSimpArgs false
set_option linter.defProp false
set_option maxRecDepth 4000
set_option maxHeartbeats 4000000
namespace Go.Proofs.YtbbmfemplmelhaaGreatDoor.AM
open Go Go.Proofs
end Go.Proofs.YtbbmfemplmelhaaGreatDoor.AM
namespace Go.Proofs
open Go.Shelf
def Tryz.sortIv_ren : Go.Shelf.Ren := ⟨fun | 6 => 39 | 15 => 61 | 14 => 60 | 28 => 92 | 29 => 93 | 20 => 84 | 21 => 85 | 22 => 86 | 23 => 87 | 24 => 88 | 25 => 89 | 26 => 90 | 27 => 91 | 46 => 121 | 47 => 122 | 48 => 123 | 49 => 124 | 50 => 125 | 57 => 143 | n => n, fun | 22 => 44 | 24 => 28 | 25 => 94 | 3 => 3 | 39 => 124 | 0 => 0 | 53 => 157 | 55 => 159 | 4 => 4 | 46 => 150 | 45 => 149 | 50 => 154 | 5 => 5 | 9 => 9 | 66 => 176 | 70 => 180 | 76 => 192 | 77 => 51 | n => n, fun | n => n⟩
theorem Tryz.sortIv : Go.Proofs.SlLaysF0.n6 Tryz.prog Tryz.sortIv_ren := {
  mixed := by kernel_rfl
  f6 := ⟨Tryz.f39.name, by decide, Tryz.func39.trans (congrArg some (by kernel_rfl))⟩
  f14 := ⟨Tryz.f60.name, by decide, Tryz.func60.trans (congrArg some (by kernel_rfl))⟩
  f15 := Tryz.func61.trans (congrArg some (by kernel_rfl))
  f20 := ⟨Tryz.f84.name, by decide, Tryz.func84.trans (congrArg some (by kernel_rfl))⟩
  f21 := ⟨Tryz.f85.name, by decide, Tryz.func85.trans (congrArg some (by kernel_rfl))⟩
  f22 := ⟨Tryz.f86.name, by decide, Tryz.func86.trans (congrArg some (by kernel_rfl))⟩
  f23 := ⟨Tryz.f87.name, by decide, Tryz.func87.trans (congrArg some (by kernel_rfl))⟩
  f24 := ⟨Tryz.f88.name, by decide, Tryz.func88.trans (congrArg some (by kernel_rfl))⟩
  f25 := ⟨Tryz.f89.name, by decide, Tryz.func89.trans (congrArg some (by kernel_rfl))⟩
  f26 := ⟨Tryz.f90.name, by decide, Tryz.func90.trans (congrArg some (by kernel_rfl))⟩
  f27 := ⟨Tryz.f91.name, by decide, Tryz.func91.trans (congrArg some (by kernel_rfl))⟩
  f28 := Tryz.func92.trans (congrArg some (by kernel_rfl))
  f29 := Tryz.func93.trans (congrArg some (by kernel_rfl))
  f46 := ⟨Tryz.f121.name, by decide, Tryz.func121.trans (congrArg some (by kernel_rfl))⟩
  f47 := Tryz.func122.trans (congrArg some (by kernel_rfl))
  f48 := Tryz.func123.trans (congrArg some (by kernel_rfl))
  f49 := ⟨Tryz.f124.name, by decide, Tryz.func124.trans (congrArg some (by kernel_rfl))⟩
  f50 := ⟨Tryz.f125.name, by decide, Tryz.func125.trans (congrArg some (by kernel_rfl))⟩
  f57 := ⟨Tryz.f143.name, by decide, Tryz.func143.trans (congrArg some (by kernel_rfl))⟩
  t0 := Tryz.underlying0
  a0 := Tryz.isAgg0
  z0 := Tryz.sizeOf0
  v0 := Tryz.zeroValue0
  t3 := Tryz.underlying3
  a3 := Tryz.isAgg3
  z3 := Tryz.sizeOf3
  v3 := Tryz.zeroValue3
  t4 := Tryz.underlying4
  a4 := Tryz.isAgg4
  z4 := Tryz.sizeOf4
  v4 := Tryz.zeroValue4
  t5 := Tryz.underlying5
  a5 := Tryz.isAgg5
  z5 := Tryz.sizeOf5
  v5 := Tryz.zeroValue5
  t9 := Tryz.underlying9
  a9 := Tryz.isAgg9
  z9 := Tryz.sizeOf9
  v9 := Tryz.zeroValue9
  t22 := Tryz.underlying44
  a22 := Tryz.isAgg44
  z22 := Tryz.sizeOf44
  v22 := Tryz.zeroValue44
  t25 := Tryz.underlying94
  a25 := Tryz.isAgg94
  z25 := Tryz.sizeOf94
  v25 := Tryz.zeroValue94
  t39 := Tryz.underlying124
  a39 := Tryz.isAgg124
  z39 := Tryz.sizeOf124
  v39 := Tryz.zeroValue124
  t45 := Tryz.underlying149
  a45 := Tryz.isAgg149
  z45 := Tryz.sizeOf149
  v45 := Tryz.zeroValue149
  t46 := Tryz.underlying150
  a46 := Tryz.isAgg150
  z46 := Tryz.sizeOf150
  v46 := Tryz.zeroValue150
  t50 := Tryz.underlying154
  a50 := Tryz.isAgg154
  z50 := Tryz.sizeOf154
  v50 := Tryz.zeroValue154
  t53 := Tryz.underlying157
  a53 := Tryz.isAgg157
  z53 := Tryz.sizeOf157
  v53 := Tryz.zeroValue157
  t55 := Tryz.underlying159
  a55 := Tryz.isAgg159
  z55 := Tryz.sizeOf159
  v55 := Tryz.zeroValue159
  t66 := Tryz.underlying176
  a66 := Tryz.isAgg176
  z66 := Tryz.sizeOf176
  v66 := Tryz.zeroValue176
  t70 := Tryz.underlying180
  a70 := Tryz.isAgg180
  z70 := Tryz.sizeOf180
  v70 := Tryz.zeroValue180
  t76 := Tryz.underlying192
  a76 := Tryz.isAgg192
  z76 := Tryz.sizeOf192
  v76 := Tryz.zeroValue192
  t77 := Tryz.underlying51
  a77 := Tryz.isAgg51
  z77 := Tryz.sizeOf51
  v77 := Tryz.zeroValue51 }
end Go.Proofs
namespace Go.Proofs.YtbbmfemplmelhaaGreatDoor.AM
open Go Go.Proofs Go.Sort
theorem yz {k : Nat} (x : Rec k) : (Q1 x).length = k := by rw [Q1, List.length_map, x.2.1]
theorem yA {k : Nat} (x : Rec k) : ∀ v ∈ Q1 x, v.oneCell' = true := by
  intro v hv
  obtain ⟨n, _, rfl⟩ := List.mem_map.mp hv
  rfl
theorem Bp : rV Tryz.prog 39 40 3 := by
  intro cf hO blk off cap d w hcmp hH hblk hsz
  have eg : ∀ args w, (callFunc 40 args).run Tryz.prog w = .ok (.enter 40 args) w := enters_of Tryz.func40 (by kernel_rfl) rfl
  exact AnyQ.slices_SortFunc Tryz.sortIv 3 (fun w => fI T28 w) (fun w => F5 T28 w) Q1 yz yA cf hO 40 #[] blk off cap d w eg hcmp hH hblk hsz
end Go.Proofs.YtbbmfemplmelhaaGreatDoor.AM
namespace Go.Proofs.YtbbmfemplmelhaaGreatDoor.AM
open Go Go.Proofs
section
open Go Go.Proofs Go.Sort
def iJ := And.intro T2 (And.intro T3 (And.intro T4 (And.intro T25 (And.intro T26 (And.intro T28 (And.intro T31 (And.intro T41 (And.intro T44 (And.intro T57 (And.intro T58 (And.intro T89 T92)))))))))))
attribute [local irreducible] awp n9 k8 l8 o5 m9
theorem qB (l : List Lb) : (l.map uD).flatMap (·.map AV.i) = cLs l := by
  unfold cLs
  induction l with
  | nil => rfl
  | cons x l ih => rw [List.map_cons, List.flatMap_cons, ih, List.flatMap_cons, List.map_append]
theorem qC {G : Nat → Option (List PV)} {l : List Lb} (hn : l.length ≤ 5000000) (hr : ∀ x ∈ l, Sm x.1 ∧ Sm x.2.1 ∧ Sm x.2.2) {h : Heap} {b g : Nat} (hb : h[b]? = some (some ⟨g, cLs l⟩)) :
    d5 Tryz.prog G 39 [.ref b g 0 3 l.length, .fn 40 []] h (fun r h' => r = .undef ∧ h' = bF h b g (cl l)) := by
  by_cases hne : l = []
  · subst hne
    have hs : cl [] = [] := rfl
    rw [hs, mJ hb]
    intro ι w vs hS hv
    obtain ⟨hl, hv⟩ := hv
    have hl2 : vs.size = 2 := by simpa using hl.symm
    obtain ⟨v0, v1, rfl⟩ : ∃ v0 v1, vs = #[v0, v1] := by
      obtain ⟨l⟩ := vs
      match l, hl2 with
      | [a, b], _ => exact ⟨a, b, rfl⟩
    have h0 := hv 0 _ v0 rfl rfl
    obtain ⟨A, c, rfl, _⟩ := h0.ref_inv ⟨_, hb, rfl⟩
    refine (AnyF.slices_SortFunc_none Tryz.sortIv A c v1 w).mono ?_
    rintro e w' ⟨rfl, rfl⟩
    exact ⟨_, .undef, h, ι, rfl, ⟨rfl, rfl⟩, hS, .tup _ _ rfl (fun i x v hx => by simp at hx), Evo.refl (Nat.le_refl _)⟩
  have hcm : ∀ x y : Rec 3, d5 Tryz.prog G 40 [.agg (C9 x), .agg (C9 y)] [] fun r h' => r = .i (tl x.1 y.1) := by
    intro x y
    obtain ⟨a, i, p, e1⟩ := uE x
    obtain ⟨c, j, q, e2⟩ := uE y
    have hx : C9 x = [.i a, .i i, .i p] := by unfold C9; rw [e1]; rfl
    have hy : C9 y = [.i c, .i j, .i q] := by unfold C9; rw [e2]; rfl
    rw [hx, hy, e1, e2]
    intro ι w vs hS hv
    refine (kP (G := G) (a, i, p) (c, j, q) [] ι w vs hS hv).mono ?_
    rintro e w' ⟨v, r, h', ι', q1, ⟨q2, _⟩, q3⟩
    exact ⟨v, r, h', ι', q1, q2, q3⟩
  have key := rX (G := G) (k := 3) (by omega) Bp tl uF hcm (h := h) (b := b) (gg := g) (off := 0) (pre := []) (post := []) (rows := l.map uD) (out := (cl l).map uD)
    (by rw [qB]; simpa using hb) rfl (by simpa using hne) (by rw [List.length_map]; omega)
    (fun r hr' => by
      obtain ⟨a, ha, rfl⟩ := List.mem_map.mp hr'
      refine ⟨rfl, fun n hn => ?_⟩
      obtain ⟨h1, h2, h3⟩ := hr a ha
      simp only [uD, List.mem_cons, List.not_mem_nil, or_false] at hn
      rcases hn with rfl | rfl | rfl
      · exact gK h1
      · exact gK h2
      · exact gK h3)
    ((bb l).map _) (by
      rw [List.pairwise_map]
      refine (gC l).imp fun {a b} hab e => hab ?_
      exact kG.mp e) (fun x y hx hy a1 a2 => by
      obtain ⟨a, _, rfl⟩ := List.mem_map.mp hx
      obtain ⟨c, _, rfl⟩ := List.mem_map.mp hy
      rw [sb (x := a) (y := c) a1 a2])
  rw [List.length_map] at key
  intro ι w vs hS hv
  refine (key ι w vs hS hv).mono ?_
  rintro e w' ⟨v, r, h', ι', q1, ⟨q2, q3⟩, q4⟩
  refine ⟨v, r, h', ι', q1, ⟨q2, ?_⟩, q4⟩
  rw [q3, qB]
  simp [bF]
theorem bj {ns : List Nd} {fl : List Fl} (nk : NetOk ns fl) {l : List Sv} (h49 : A7 l) (hl : l.length ≤ 1500) (h : Heap) :
    d5 Tryz.prog gW 19 [G4 ns fl, B1 l] h (fun r h' => r = aLs (I3 (B8 ns fl l)) ∧ h' = h) := by
  have hzl : (zS.map AV.i).length = 49 := by rw [List.length_map]; rfl
  have hem : (zS.map AV.i).isEmpty = false := rfl
  refine c8 (rl := []) d7 Tryz.func19 rfl (rs := [.tmp 4]) rfl Tryz.ntmps19 (by simp) ?_
  refine b6 fun K hK => ?_
  repeat' (first | (apply b8; (try simp only [NB]); ((repeat ((fail_if_success (refine hK _ ?_)); clear hK K)); refine hK _ ?_; clear hK K)) | (refine b9 fun K1 q8 => ?_; simp only [S1, simprocAttr, iJ]; refine q8 _ ?_; clear q8 K1) | (apply b5; try simp only [NB, simprocAttr]; (try ((repeat ((fail_if_success (refine hK _ ?_)); clear hK K)); refine hK _ ?_; clear hK K))))
  refine b6 fun K hK => ?_
  repeat' (first | (apply b8; (try simp only [NB]); ((repeat ((fail_if_success (refine hK _ ?_)); clear hK K)); refine hK _ ?_; clear hK K)) | (refine b9 fun K1 q8 => ?_; simp only [S1, simprocAttr, iJ]; refine q8 _ ?_; clear q8 K1) | (apply b5; try simp only [NB, simprocAttr]; (try ((repeat ((fail_if_success (refine hK _ ?_)); clear hK K)); refine hK _ ?_; clear hK K))))
  repeat' (first | ((repeat ((fail_if_success (refine hK _ ?_)); clear hK K)); refine hK _ ?_; clear hK K) | (refine b9 fun K1 q8 => ?_; simp only [S1, simprocAttr, iJ, List.length_map]; refine q8 _ ?_; clear q8 K1) | refine b6 fun K hK => ?_ | ((first | apply b8 | apply b5 | apply c7); try simp only [NB, simprocAttr]))
  refine C0 l.length 39 (fun j => [(12, .i j), (11, .i l.length), (10, B1 l), (5, .ref (h.length + 1) (B8 ns fl (l.take j)).length 0 3 (B8 ns fl (l.take j)).length), (2, .ptr h.length 0 0)])
    (fun j => [some ⟨0, x6 ns fl⟩, some ⟨(B8 ns fl (l.take j)).length, cLs (B8 ns fl (l.take j))⟩]) (fun j => True) ?_ trivial fun j hj hp K hK => ?_
  · refine (o6.adopt 5 3 rfl).trans (Sub.ghost ⟨rfl, ⟨[], by simp [cLs, B8]⟩, ?_, ⟨trivial, trivial, trivial⟩, trivial, trivial⟩)
    simp only [G8, s4, D0, frL, List.length_cons, List.length_nil]
    simp [B8]
  rcases Nat.lt_or_ge j l.length with hlt | hge
  · obtain ⟨s, hx⟩ : ∃ k, l[j]? = some k := ⟨_, List.getElem?_eq_getElem hlt⟩
    have hs : s.length = 49 := h49 s (List.mem_of_getElem? hx)
    have hxr : (l.map eSt)[j]? = some (s.map (PV.int .i64)) := by rw [List.getElem?_map, hx]; rfl
    have jl : (j : Int) < (l.length : Int) := by omega
    have j0 : (0 : Int) ≤ (j : Int) := by omega
    have hnx : IntKind.i64.wrap ((j : Int) + 1) = ((j + 1 : Nat) : Int) := by rw [IntWalk.i64_in _ (by omega)]; omega
    have s49 : (s.map AV.i).take 49 = s.map AV.i := List.take_of_length_le (by rw [List.length_map, hs]; exact Nat.le_refl _)
    have hso : u5 (zS.map AV.i) 0 (s.map AV.i) = s.map AV.i := m3 (n := 49) (by rw [List.length_map, hs]) _ hzl
    have hsm := u0 s
    have hne := J3 hs
    have hst := fun h => iB nk hs h
    have hto := Q2 (ns := ns) (fl := fl) hs
    have hln := M6 (ns := ns) (fl := fl) (S := s)
    have es := kW (ns := ns) (fl := fl) hx
    have hol := ap ns fl (l.take j)
    rw [List.length_take] at hol
    have hol : (B8 ns fl (l.take j)).length ≤ 3750000 := by omega
    generalize B8 ns fl (l.take j) = o at *
    generalize p9 ns fl s = sl at *
    repeat' (first | ((repeat ((fail_if_success (refine hK _ ?_)); clear hK K)); refine hK _ ?_; clear hK K) | ((first | refine b9 fun K1 q8 => ?_ | refine b7 fun A B hA hB => ?_); simp only [S1, simprocAttr, iJ, jl, j0, hnx, hxr, hs, hzl, hem, s49, hso, hsm, hne, TSz, i9, i7, j5, d9, d8, e9, List.length_map]; first | refine q8 _ ?_; clear q8 K1 | (refine hA ?_; clear hA hB A B) | (apply d4 E38; exact (hst _); refine q8 _ ?_; clear q8 K1)) | refine b6 fun K hK => ?_ | ((first | apply b8 | apply b5 | apply c7 | apply c9); try simp only [NB, simprocAttr]))
    refine o9 sl.length 39 (fun i => [(20, .i i), (19, .i sl.length), (18, zM sl), (12, .i j), (11, .i l.length), (10, B1 l), (5, .ref (h.length + 1) (o ++ K8 (sl.take i)).length 0 3 (o ++ K8 (sl.take i)).length), (2, .ptr h.length 0 0)])
      (fun i => [some ⟨0, x6 ns fl⟩, some ⟨(o ++ K8 (sl.take i)).length, cLs (o ++ K8 (sl.take i))⟩]) (fun i => True) ?_ trivial fun i hi hp2 K hK => ?_
    · have e0 : o ++ K8 (sl.take 0) = o := by simp [K8]
      simp only [e0]
      refine ⟨rfl, ⟨_, rfl⟩, ?_, ⟨trivial, trivial, trivial⟩, U4 _ _, trivial⟩
      simp only [S1, simprocAttr, KNB] <;> (try and_intros) <;> (try assumption) <;> (try trivial) <;> (try omega)
    rcases Nat.lt_or_ge i sl.length with hlt2 | hge2
    · obtain ⟨y, hy⟩ : ∃ y, sl[i]? = some y := ⟨_, List.getElem?_eq_getElem hlt2⟩
      have hxy : (sl.map eMv)[i]? = some [.int .i64 y.node, .int .i64 y.arg, .int .i64 y.lk, .int .i64 y.ln, .int .i64 y.la] := by rw [List.getElem?_map, hy]; rfl
      have e2 := kU hy
      have hle := kV sl i
      have jl2 : (i : Int) < (sl.length : Int) := by omega
      have j02 : (0 : Int) ≤ (i : Int) := by omega
      have hnx2 : IntKind.i64.wrap ((i : Int) + 1) = ((i + 1 : Nat) : Int) := by rw [IntWalk.i64_in _ (by omega)]; omega
      have e3 : o ++ K8 (sl.take (i + 1)) = o ++ K8 (sl.take i) ++ if y.lk = 0 then [] else [dP y] := by rw [e2, List.append_assoc]
      have hcap : (o ++ K8 (sl.take i)).length + 1 ≤ j7 := by rw [List.length_append]; unfold j7; omega
      generalize o ++ K8 (sl.take i) = acc at *
      have hacc := U3 acc
      by_cases hc : y.lk = 0
      · have f0 : (y.lk != 0) = false := by simp [hc]
        rw [if_pos hc, List.append_nil] at e3
        repeat' (first | ((repeat ((fail_if_success (refine hK _ ?_)); clear hK K)); refine hK _ ?_; clear hK K) | ((first | refine b9 fun K1 q8 => ?_ | refine b7 fun A B hA hB => ?_); simp only [S1, simprocAttr, iJ, jl2, j02, hnx2, hxy, f0, d8, e9, List.length_map]; first | refine q8 _ ?_; clear q8 K1 | ((first | refine hA ?_ | refine hB ?_); clear hA hB A B)) | refine b6 fun K hK => ?_ | ((first | apply b8 | apply b5 | apply c7 | apply c9); try simp only [NB, simprocAttr]))
        all_goals refine ⟨hlt2, trivial, ?_⟩
        all_goals simp only [e3]
        all_goals refine ⟨rfl, ⟨_, rfl⟩, ?_, ⟨trivial, trivial, trivial⟩, U4 _ _, trivial⟩
        all_goals simp only [S1, simprocAttr, KNB] <;> (try and_intros) <;> (try assumption) <;> (try trivial) <;> (try omega)
      · have f0 : (y.lk != 0) = true := by simp [hc]
        rw [if_neg hc] at e3
        have esn : cLs (acc ++ [dP y]) = cLs acc ++ [.i y.lk, .i y.ln, .i y.la] := O2 acc (dP y)
        repeat' (first | ((repeat ((fail_if_success (refine hK _ ?_)); clear hK K)); refine hK _ ?_; clear hK K) | ((first | refine b9 fun K1 q8 => ?_ | refine b7 fun A B hA hB => ?_); simp only [S1, simprocAttr, iJ, jl2, j02, hnx2, hxy, f0, hacc, hcap, d8, e9, List.length_map, Nat.mul_one]; first | refine q8 _ ?_; clear q8 K1 | (refine hA ?_; clear hA hB A B)) | refine b6 fun K hK => ?_ | ((first | apply b8 | apply b5 | apply c7 | apply c9); try simp only [NB, simprocAttr]))
        all_goals refine ⟨hlt2, trivial, ?_⟩
        all_goals simp only [e3, esn, List.length_append, List.length_cons, List.length_nil, Nat.zero_add]
        all_goals refine ⟨rfl, ⟨_, rfl⟩, ?_, ⟨trivial, trivial, trivial⟩, (by rw [← esn]; exact U4 _ _), trivial⟩
        all_goals simp only [S1, simprocAttr, KNB] <;> (try and_intros) <;> (try assumption) <;> (try trivial) <;> (try omega)
    · obtain rfl : i = sl.length := by omega
      rw [List.take_length, ← es]
      repeat' (first | ((repeat ((fail_if_success (refine hK _ ?_)); clear hK K)); refine hK _ ?_; clear hK K) | ((first | refine b9 fun K1 q8 => ?_ | refine b7 fun A B hA hB => ?_); simp only [S1, simprocAttr, iJ, hnx, Int.lt_irrefl]; first | refine q8 _ ?_; clear q8 K1 | (refine hB ?_; clear hA hB A B)) | refine b6 fun K hK => ?_ | ((first | apply b8 | apply b5 | apply f9); try simp only [NB, simprocAttr]))
      all_goals refine ⟨hlt, trivial, ?_⟩
      all_goals refine ⟨rfl, ⟨_, rfl⟩, ?_, ⟨trivial, trivial, trivial⟩, U4 _ _, trivial⟩
      all_goals simp only [S1, simprocAttr, KNB] <;> (try and_intros) <;> (try assumption) <;> (try trivial) <;> (try omega)
  · obtain rfl : j = l.length := by omega
    rw [List.take_length]
    have hsm := xd (ns := ns) (fl := fl) h49
    have hol := ap ns fl l
    have hol : (B8 ns fl l).length ≤ 3750000 := by omega
    obtain ⟨o, ho⟩ : ∃ o, o = B8 ns fl l := ⟨_, rfl⟩
    rw [← ho] at hsm hol ⊢
    have hget : ∀ (A : Option Blk) (g : Nat) (m : List Lb), (h ++ [A, some ⟨g, cLs m⟩])[h.length + 1]? = some (some ⟨g, cLs m⟩) := fun A g m => by rw [n5]; rfl
    have hput : ∀ (A B : Option Blk) (g : Nat) (m : List Lb), bF (h ++ [A, B]) (h.length + 1) g m = h ++ [A, some ⟨g, cLs m⟩] := fun A B g m => by unfold bF; rw [T6]; rfl
    have hlen : (cl o).length = o.length := (bb o).length_eq
    have hsrt := qC (G := gW) (l := o) (by omega) hsm (hget (some ⟨0, x6 ns fl⟩) o.length o)
    rw [hput] at hsrt
    have hcmp := lx (G := gW) (l := cl o) (by omega) (hget (some ⟨0, x6 ns fl⟩) o.length (cl o))
    rw [hput, hlen, uC] at hcmp
    repeat' (first | ((repeat ((fail_if_success (refine hK _ ?_)); clear hK K)); refine hK _ ?_; clear hK K) | ((first | refine b9 fun K1 q8 => ?_ | refine b7 fun A B hA hB => ?_); simp only [S1, simprocAttr, iJ, Int.lt_irrefl]; first | refine q8 _ ?_; clear q8 K1 | (refine hB ?_; clear hA hB A B) | (apply d4 E39; exact hsrt; refine q8 _ ?_; clear q8 K1) | (apply d4 E41; exact hcmp; refine q8 _ ?_; clear q8 K1)) | refine b6 fun K hK => ?_ | ((first | apply b8 | apply b5 | apply f9 | apply d3); try simp only [NB, simprocAttr]))
    all_goals exact kS (b := h.length + 1) (g := o.length) (l := I3 o) (rest := cLs (List.replicate (o.length - (I3 o).length) (0, 0, 0))) (.inr rfl) rfl rfl (by simp only [r8, n5, List.getElem?_cons_succ, List.getElem?_cons_zero, if_true, fA]) (by omega) (by simp) (by simp) (by rw [ho])
end
section
def aq := And.intro T2 (And.intro T3 (And.intro T4 (And.intro T25 (And.intro T26 (And.intro T28 (And.intro T34 (And.intro T41 (And.intro T57 (And.intro T58 (And.intro T62 (And.intro T65 (And.intro T89 T92))))))))))))
attribute [local irreducible] awp n9 k8 l8 o5 m9
theorem dU {l : List Sv} (h49 : A7 l) (hl : l.length ≤ 5000) (h : Heap) : d5 Tryz.prog gW 13 [B1 l] h (fun r h' => r = B1 l ∧ h' = h) := by
  have hzl : (zS.map AV.i).length = 49 := by rw [List.length_map]; rfl
  have hem : (zS.map AV.i).isEmpty = false := rfl
  refine c8 (rl := []) d7 Tryz.func13 rfl (rs := [.tmp 2]) rfl Tryz.ntmps13 (by simp) ?_
  refine b6 fun K hK => ?_
  repeat' (first | (apply b8; (try simp only [NB]); ((repeat ((fail_if_success (refine hK _ ?_)); clear hK K)); refine hK _ ?_; clear hK K)) | (refine b9 fun K1 q8 => ?_; simp only [S1, simprocAttr, aq]; refine q8 _ ?_; clear q8 K1) | (apply b5; try simp only [NB, simprocAttr]; (try ((repeat ((fail_if_success (refine hK _ ?_)); clear hK K)); refine hK _ ?_; clear hK K))))
  refine b6 fun K hK => ?_
  repeat' (first | (apply b8; (try simp only [NB]); ((repeat ((fail_if_success (refine hK _ ?_)); clear hK K)); refine hK _ ?_; clear hK K)) | (refine b9 fun K1 q8 => ?_; simp only [S1, simprocAttr, aq]; refine q8 _ ?_; clear q8 K1) | (apply b5; try simp only [NB, simprocAttr]; (try ((repeat ((fail_if_success (refine hK _ ?_)); clear hK K)); refine hK _ ?_; clear hK K))))
  repeat' (first | ((repeat ((fail_if_success (refine hK _ ?_)); clear hK K)); refine hK _ ?_; clear hK K) | (refine b9 fun K1 q8 => ?_; simp only [S1, simprocAttr, aq, List.length_map]; refine q8 _ ?_; clear q8 K1) | refine b6 fun K hK => ?_ | ((first | apply b8 | apply b5 | apply c7); try simp only [NB, simprocAttr]))
  refine C0 l.length 26 (fun j => [(8, .i j), (7, .i l.length), (6, B1 l), (3, .ref h.length j 0 49 j)])
    (fun j => [some ⟨j, q7 (l.take j)⟩]) (fun j => True) ?_ trivial fun j hj hp K hK => ?_
  · refine (o6.adopt 3 49 rfl).trans (Sub.ghost ⟨rfl, ⟨[], by simp [q7]⟩, ?_, trivial, trivial⟩)
    simp only [G8, s4, D0, frL, List.length_cons, List.length_nil]
    simp
  rcases Nat.lt_or_ge j l.length with hlt | hge
  · obtain ⟨S, hx⟩ : ∃ k, l[j]? = some k := ⟨_, List.getElem?_eq_getElem hlt⟩
    have hS : S.length = 49 := h49 S (List.mem_of_getElem? hx)
    have hxr : (l.map eSt)[j]? = some (S.map (PV.int .i64)) := by rw [List.getElem?_map, hx]; rfl
    have jl : (j : Int) < (l.length : Int) := by omega
    have j0 : (0 : Int) ≤ (j : Int) := by omega
    have hnx : IntKind.i64.wrap ((j : Int) + 1) = ((j + 1 : Nat) : Int) := by rw [IntWalk.i64_in _ (by omega)]; omega
    have hne := J3 hS
    have hsm := u0 S
    have dm := L8 (H7 hS (k := 48) (by omega))
    have emd : S.getD 48 0 = mdS S := rfl
    rw [emd] at dm
    have t49' : (S.map AV.i).take 49 = S.map AV.i := List.take_of_length_le (by rw [List.length_map, hS]; exact Nat.le_refl _)
    have t40 : (S.map AV.i).take 40 = (S.take 40).map AV.i := by rw [List.map_take]
    have ar40 : ((S.map AV.i).drop 40).take 4 = ((S.drop 40).take 4).map AV.i := by rw [List.map_take, List.map_drop]
    have ar44 : ((S.map AV.i).drop 44).take 4 = ((S.drop 44).take 4).map AV.i := by rw [List.map_take, List.map_drop]
    have hb := qn hS (zS.map AV.i) hzl
    have hso : u5 (zS.map AV.i) 0 (S.map AV.i) = S.map AV.i := m3 (n := 49) (by rw [List.length_map, hS]) _ hzl
    have ho49 : A7 (l.take j) := fun t ht => h49 t (List.mem_of_mem_take ht)
    have hfl := C6 ho49
    have hjl : (l.take j).length = j := by rw [List.length_take]; omega
    rw [hjl] at hfl
    have hmax : j + 1 ≤ j7 := by unfold j7; omega
    have hpv := P8 S
    have hch := N1 49 (S.map (PV.int .i64)) (by rw [List.length_map, hS])
    have hti : (S.map (PV.int .i64)).take 49 = S.map (PV.int .i64) := List.take_of_length_le (by rw [List.length_map, hS]; exact Nat.le_refl _)
    have es : l.take (j + 1) = l.take j ++ [S] := by rw [List.take_add_one, hx]; rfl
    have hfa := F4 (l.take j) S
    repeat' (first | ((repeat ((fail_if_success (refine hK _ ?_)); clear hK K)); refine hK _ ?_; clear hK K) | ((first | refine b9 fun K1 q8 => ?_ | refine b7 fun A B hA hB => ?_); simp only [S1, simprocAttr, aq, jl, j0, hnx, hxr, hsm, hpv, hch, hti, hfl, hmax, TSz, TRz, i9, i7, j5, hem, hb, hso, I8, hne, hS, hzl, d9, t49', t40, ar40, ar44, dm, d8, e9, LNB]; first | refine q8 _ ?_; clear q8 K1 | (refine hA ?_; clear hA hB A B)) | refine b6 fun K hK => ?_ | ((first | apply b8 | apply b5 | apply c7 | apply c9); try simp only [NB, simprocAttr]))
    all_goals refine ⟨hlt, trivial, ?_⟩
    all_goals simp only [es, hfa]
    all_goals refine ⟨rfl, ⟨_, rfl⟩, ?_, (by rw [← F4]; exact u7 _ _), trivial⟩
    all_goals simp only [S1, simprocAttr, KNB] <;> (try and_intros) <;> (try assumption) <;> (try trivial) <;> (try omega)
  · obtain rfl : j = l.length := by omega
    repeat' (first | ((repeat ((fail_if_success (refine hK _ ?_)); clear hK K)); refine hK _ ?_; clear hK K) | ((first | refine b9 fun K1 q8 => ?_ | refine b7 fun A B hA hB => ?_); simp only [S1, simprocAttr, aq, Int.lt_irrefl]; first | refine q8 _ ?_; clear q8 K1 | (refine hB ?_; clear hA hB A B)) | refine b6 fun K hK => ?_ | ((first | apply b8 | apply b5 | apply f9 | apply d3); try simp only [NB, simprocAttr]))
    all_goals exact kL (b := h.length) (g := l.length) (.inr rfl) h49 rfl rfl (by simp only [List.take_length, r8, ae, n5, List.getElem?_cons_zero, if_true]) (by omega) (by simp) (by simp) rfl
theorem iK {a b : List Sv} (ha : A7 a) (hb : A7 b) (hal : a.length ≤ 5000) (hbl : b.length ≤ 5000) (h : Heap) :
    d5 Tryz.prog gW 14 [B1 a, B1 b] h (fun r h' => r = .b (decide (a = b)) ∧ h' = h) := by
  have hrf := fun h => dU ha hal h
  refine c8 (rl := []) d7 Tryz.func14 rfl (rs := [.tmp 4]) rfl Tryz.ntmps14 (by simp) ?_
  repeat' (first | ((repeat ((fail_if_success (refine hK _ ?_)); clear hK K)); refine hK _ ?_; clear hK K) | (refine b9 fun K1 q8 => ?_; simp only [S1, simprocAttr, aq, List.length_map]; first | refine q8 _ ?_; clear q8 K1 | (apply d4 E13; exact (hrf _); refine q8 _ ?_; clear q8 K1)) | refine b6 fun K hK => ?_ | ((first | apply b8 | apply b5 | apply c7); try simp only [NB, simprocAttr]))
  refine o9 a.length 35 (fun j => [(11, .i j), (10, .i a.length), (5, B1 a), (1, B1 b)])
    (fun j => []) (fun j => a.take j = b.take j) ?_ rfl fun j hj hp K hK => ?_
  · (refine ⟨rfl, (by first | exact ⟨_, rfl⟩ | exact ⟨[], by simp⟩), ?_, ?_⟩ <;> simp only [S1, simprocAttr, KNB] <;> (try and_intros) <;> (try assumption) <;> (try trivial) <;> (try omega))
  rcases Nat.lt_or_ge j a.length with hlt | hge
  · obtain ⟨x, hx⟩ : ∃ k, a[j]? = some k := ⟨_, List.getElem?_eq_getElem hlt⟩
    have hxl : x.length = 49 := ha x (List.mem_of_getElem? hx)
    have hxr : (a.map eSt)[j]? = some (x.map (PV.int .i64)) := by rw [List.getElem?_map, hx]; rfl
    have jl : (j : Int) < (a.length : Int) := by omega
    have j0 : (0 : Int) ≤ (j : Int) := by omega
    have hnx : IntKind.i64.wrap ((j : Int) + 1) = ((j + 1 : Nat) : Int) := by rw [IntWalk.i64_in _ (by omega)]; omega
    rcases Nat.lt_or_ge j b.length with hlb | hgb
    case inr =>
      have hne : decide (a = b) = false := decide_eq_false (fun e => by subst e; omega)
      rw [hne]
      have jb2 : decide ((b.length : Int) ≤ (j : Int)) = true := decide_eq_true (by omega)
      repeat' (first | ((repeat ((fail_if_success (refine hK _ ?_)); clear hK K)); refine hK _ ?_; clear hK K) | ((first | refine b9 fun K1 q8 => ?_ | refine j9 fun K1 q8 => ?_ | refine b7 fun A B hA hB => ?_); simp only [S1, simprocAttr, aq, jl, j0, jb2, List.length_map]; first | refine q8 _ ?_; clear q8 K1 | (refine hA ?_; clear hA hB A B)) | refine b6 fun K hK => ?_ | ((first | apply b8 | apply i5 | apply b5 | refine i6 ?_ | apply c7 | apply c9 | apply d3); try simp only [NB, simprocAttr]))
      all_goals simp only [S1, simprocAttr, ENB, aq]
    obtain ⟨y, hy⟩ : ∃ k, b[j]? = some k := ⟨_, List.getElem?_eq_getElem hlb⟩
    have hyl : y.length = 49 := hb y (List.mem_of_getElem? hy)
    have hyr : (b.map eSt)[j]? = some (y.map (PV.int .i64)) := by rw [List.getElem?_map, hy]; rfl
    have jb : (j : Int) < (b.length : Int) := by omega
    have jb2 : decide ((b.length : Int) ≤ (j : Int)) = false := decide_eq_false (by omega)
    have heq := eqI (S := x) (T := y) (by omega)
    have hxs := u0 x
    have hys := u0 y
    have x49 : (x.map AV.i).take 49 = x.map AV.i := List.take_of_length_le (by rw [List.length_map, hxl]; exact Nat.le_refl _)
    have y49 : (y.map AV.i).take 49 = y.map AV.i := List.take_of_length_le (by rw [List.length_map, hyl]; exact Nat.le_refl _)
    have hxn := J3 hxl
    have hyn := J3 hyl
    by_cases hxy : x = y
    · have ebq : (x == y) = true := by simp [hxy]
      rw [ebq] at heq
      repeat' (first | ((repeat ((fail_if_success (refine hK _ ?_)); clear hK K)); refine hK _ ?_; clear hK K) | ((first | refine b9 fun K1 q8 => ?_ | refine j9 fun K1 q8 => ?_ | refine b7 fun A B hA hB => ?_); simp only [S1, simprocAttr, aq, jl, j0, jb, jb2, hnx, hxr, hyr, hxs, hys, x49, y49, hxn, hyn, hxl, hyl, heq, TRz, i9, i7, j5, d9, d8, e9, eqA, W60, List.length_map]; first | refine q8 _ ?_; clear q8 K1 | ((first | refine hA ?_ | refine hB ?_); clear hA hB A B)) | refine b6 fun K hK => ?_ | ((first | apply b8 | apply i5 | apply b5 | refine i6 ?_ | apply c7 | apply c9); try simp only [NB, simprocAttr]))
      all_goals refine ⟨hlt, by rw [List.take_add_one, List.take_add_one, hp, hx, hy, hxy], ?_⟩
      all_goals (refine ⟨rfl, (by first | exact ⟨_, rfl⟩ | exact ⟨[], by simp⟩), ?_, ?_⟩ <;> simp only [S1, simprocAttr, KNB] <;> (try and_intros) <;> (try assumption) <;> (try trivial) <;> (try omega))
    · have ebq : (x == y) = false := by simp [hxy]
      rw [ebq] at heq
      have hne : decide (a = b) = false := decide_eq_false (fun e => by subst e; rw [hx] at hy; cases hy; exact hxy rfl)
      rw [hne]
      repeat' (first | ((repeat ((fail_if_success (refine hK _ ?_)); clear hK K)); refine hK _ ?_; clear hK K) | ((first | refine b9 fun K1 q8 => ?_ | refine j9 fun K1 q8 => ?_ | refine b7 fun A B hA hB => ?_); simp only [S1, simprocAttr, aq, jl, j0, jb, jb2, hnx, hxr, hyr, hxs, hys, x49, y49, hxn, hyn, hxl, hyl, heq, TRz, i9, i7, j5, d9, d8, e9, eqA, W60, List.length_map]; first | refine q8 _ ?_; clear q8 K1 | (refine hA ?_; clear hA hB A B)) | refine b6 fun K hK => ?_ | ((first | apply b8 | apply i5 | apply b5 | refine i6 ?_ | apply c7 | apply c9 | apply d3); try simp only [NB, simprocAttr]))
      all_goals simp only [S1, simprocAttr, ENB, aq]
  · obtain rfl : j = a.length := by omega
    rw [List.take_length] at hp
    have he : ((a.length : Int) == (b.length : Int)) = decide (a = b) := by
      by_cases e : a.length = b.length
      · rw [e, List.take_length] at hp
        rw [decide_eq_true hp, hp]; simp
      · rw [decide_eq_false (fun e' => e (by rw [e']))]
        simp; omega
    repeat' (first | ((repeat ((fail_if_success (refine hK _ ?_)); clear hK K)); refine hK _ ?_; clear hK K) | ((first | refine b9 fun K1 q8 => ?_ | refine b7 fun A B hA hB => ?_); simp only [S1, simprocAttr, aq, Int.lt_irrefl, he, List.length_map]; first | refine q8 _ ?_; clear q8 K1 | (refine hB ?_; clear hA hB A B)) | refine b6 fun K hK => ?_ | ((first | apply b8 | apply b5 | apply f9 | apply d3); try simp only [NB, simprocAttr]))
    all_goals simp only [S1, simprocAttr, ENB, aq]
end
section
def ns0 : List Nd := [⟨1, 0, .mk 0 0 []⟩, ⟨3, 0, .mk 0 0 []⟩, ⟨2, 0, .mk 0 0 []⟩]
def fl0 : List Fl := [⟨0, 1, false, .mk 0 0 []⟩, ⟨1, 2, false, .mk 0 0 []⟩]
theorem AA : O4 (C7 false fl0) 3 0 = [true, true, true] := (dG (by decide) (by decide)).symm.trans (by decide)
theorem AB : O4 (C7 true fl0) 3 2 = [true, true, true] := (dG (by decide) (by decide)).symm.trans (by decide)
theorem yB : (n7 ns0 1).toNat = 0 := by kernel_rfl
theorem yC : (n7 ns0 2).toNat = 2 := by kernel_rfl
theorem zR : plF 4 (eR ns0 fl0) ns0.length = [] := by
  have h : ∀ i, i < 3 → eR ns0 fl0 i = false := by
    intro i hi
    have hl : ns0.length = 3 := rfl
    unfold eR
    rw [yB, yC, hl, AA, AB]
    match i, hi with
    | 0, _ => rfl
    | 1, _ => rfl
    | 2, _ => rfl
  unfold plF
  rw [List.map_eq_nil_iff, List.filter_eq_nil_iff]
  intro i hi
  rw [h i (by simpa [ns0] using hi)]
  decide
theorem yD : (D3 ns0 fl0).1 = 0 := by
  have p1 : plF 1 (Z1 ns0) ns0.length = [] := by kernel_rfl
  have p2 : plF 2 (Z2 ns0 fl0) fl0.length = [] := by kernel_rfl
  have p3 : G5 ns0 fl0 = [] := by kernel_rfl
  unfold D3 Z3
  rw [if_neg (by decide), if_neg (by rw [p1]; simp), if_neg (by rw [p2]; simp), if_neg (by rw [p3]; simp), zR]
  rfl
def xe (S : Sv) : List Sp := if (if okS fl0.length S = true then (0 : Int) else 1) ≠ 0 ∨ mdS S ≠ 0 then [] else w7 ns0 fl0 S 3 ++ p8 ns0 S 4
theorem AD (S : Sv) : stC ns0 fl0 S = if okS fl0.length S = true then 0 else 1 := by unfold stC; rw [if_neg (by simpa using yD)]
theorem sv (S : Sv) : p9 ns0 fl0 S = xe S := by
  unfold p9
  rw [AD]
  rfl
def nxC (S : Sv) : List Sv := O7 (xe S) (0, 0, 0)
def jh (l : List Sv) : List Sv × Int := if (E2 nxC 1500 l).length ≤ 1500 then (E2 nxC 1500 l, 0) else ([], 5)
theorem tx (l : List Sv) : x8 ns0 fl0 l = jh l := by
  have e : nxW ns0 fl0 = nxC := funext fun S => by unfold nxW am nxC; rw [sv]
  unfold x8 jh
  rw [e]
def Sa0 : Sv := zS.set 0 1
def Sb0 : Sv := (zS.set 1 1).set 40 1
def Sc0 : Sv := (zS.set 40 1).set 48 1
theorem xf : G6 ns0 fl0 = ([Sa0], 0) := by
  have e : (A9 ns0 fl0).1 = Sa0 := by unfold A9; rw [if_neg (by simpa using yD)]; exact (by kernel_rfl : zS.set ((j3 fl0 (n7 ns0 1)).headD 0).toNat 1 = Sa0)
  unfold G6
  rw [if_neg (by simpa using yD), tx, e]
  exact (by kernel_rfl : jh [Sa0] = ([Sa0], 0))
theorem Bq : I3 (B8 ns0 fl0 [Sa0]) = [(1, 1, 0), (1, 1, 1)] := by
  unfold B8
  simp only [sv]
  kernel_rfl
theorem zT {S : Sv} (h : okS fl0.length S = true) : A3 ns0 fl0 [S] = 0 := by
  unfold A3
  rw [if_neg (by simpa using yD)]
  unfold W3
  rw [AD, if_pos h]
  rfl
theorem sw {S : Sv} {x : Lb} {r : List Sv × Int} (h : okS fl0.length S = true) (hx : x.1 ≠ 0) (hr : jh ([S].flatMap fun s => O7 (xe s) x) = r) : u9 ns0 fl0 [S] x = r := by
  unfold u9 y1 am
  rw [if_neg (by simp [zT h]), if_neg hx, tx]
  simp only [sv]
  exact hr
theorem AE : u9 ns0 fl0 [Sa0] (1, 1, 1) = ([Sb0], 0) := sw (by kernel_rfl) (by decide) (by kernel_rfl)
theorem AF : u9 ns0 fl0 [Sb0] (7, 0, 0) = ([Sc0], 0) := sw (by kernel_rfl) (by decide) (by kernel_rfl)
theorem AG : u9 ns0 fl0 [Sc0] (7, 0, 0) = ([], 0) := sw (by kernel_rfl) (by decide) (by kernel_rfl)
theorem yE : U2 ns0 fl0 [(1, 1, 1), (7, 0, 0), (7, 0, 0)] = (2, 0) := by
  unfold U2
  rw [xf]
  simp [qr, AE, AF, AG]
theorem sx : NetOk ns0 fl0 := by
  have h1 : ∀ k ∈ ns0, k.term = .mk 0 0 [] := by
    intro k hk
    simp only [ns0, List.mem_cons, List.not_mem_nil, or_false] at hk
    rcases hk with rfl | rfl | rfl <;> rfl
  have h2 : ∀ k ∈ fl0, k.cond = .mk 0 0 [] := by
    intro k hk
    simp only [fl0, List.mem_cons, List.not_mem_nil, or_false] at hk
    rcases hk with rfl | rfl <;> rfl
  have h3 : Tm.Ok 30 (.mk 0 0 []) := .mk _ _ (by decide) (fun k hk => by cases hk)
  exact ⟨by decide, by decide, ⟨30, by omega, fun k hk => by rw [h1 k hk]; exact h3⟩, ⟨30, by omega, fun k hk => by rw [h2 k hk]; exact h3⟩⟩
def yN := And.intro T2 (And.intro T3 (And.intro T4 (And.intro T22 (And.intro T23 (And.intro T25 (And.intro T26 (And.intro T28 (And.intro T31 (And.intro T34 (And.intro T41 (And.intro T44 (And.intro T57 (And.intro T58 (And.intro T62 (And.intro T65 (And.intro T73 (And.intro T75 (And.intro T77 (And.intro T80 (And.intro T82 (And.intro T89 T92)))))))))))))))))))))
attribute [local irreducible] awp n9 k8 l8 o5 m9
abbrev yF : AV := .agg [.p (.sl [[.int .i64 1, .int .i64 0, .int .i64 0, .int .i64 0, .nils], [.int .i64 3, .int .i64 0, .int .i64 0, .int .i64 0, .nils], [.int .i64 2, .int .i64 0, .int .i64 0, .int .i64 0, .nils]]),
  .p (.sl [[.int .i64 0, .int .i64 1, .bool false, .int .i64 0, .int .i64 0, .nils], [.int .i64 1, .int .i64 2, .bool false, .int .i64 0, .int .i64 0, .nils]])]
theorem ol : bS yF = G4 ns0 fl0 := by simp [R2, bS, nrm, V3, H9, ns0, fl0, eN, eF, Tm.op, Tm.n, Tm.kids]
theorem zU : bS (B1 [Sa0]) = B1 [Sa0] := by
  have h : ∀ l : List Int, V3 (l.map (PV.int .i64)) = l.map (PV.int .i64) := by
    intro l
    induction l with
    | nil => simp [V3]
    | cons x l ih => simp [V3, nrm, ih]
  simp [bS, nrm, H9, eSt, h]
theorem zV (l : List Lb) : bS (aLs l) = aLs l := by
  have h : H9 (l.map eL) = l.map eL := by
    induction l with
    | nil => simp [H9]
    | cons x l ih => simp [H9, V3, nrm, eL, ih]
  simp [bS, nrm, h]
theorem iL (h : Heap) : d5 Tryz.prog gW 10 [] h (fun r h' => r = .b true ∧ h' = h) := by
  have s49 : A7 [Sa0] := fun t ht => by rw [List.mem_singleton] at ht; subst ht; rfl
  have hbg : ∀ h, d5 Tryz.prog gW 15 [yF] h (fun r h' => r = .tup [B1 [Sa0], .i 0] ∧ h' = h) := fun h => by
    refine d5.nrm ?_
    have := iE sx h
    rw [xf] at this
    simpa only [R2, ol] using this
  have hlb : ∀ h, d5 Tryz.prog gW 19 [yF, B1 [Sa0]] h (fun r h' => r = aLs [(1, 1, 0), (1, 1, 1)] ∧ h' = h) := fun h => by
    refine d5.nrm ?_
    have := bj sx s49 (by decide) h
    rw [Bq] at this
    simpa only [R2, ol, zU] using this
  have hac : ∀ h, d5 Tryz.prog gW 20 [yF, aLs [(1, 1, 1), (7, 0, 0), (7, 0, 0)]] h (fun r h' => r = .tup [.i 2, .i 0] ∧ h' = h) := fun h => by
    refine d5.nrm ?_
    have := lw sx (l := [(1, 1, 1), (7, 0, 0), (7, 0, 0)]) (by decide) h
    rw [yE] at this
    simpa only [R2, ol, zV] using this
  generalize Sa0 = S at *
  refine c8 (rl := []) d7 Tryz.func10 rfl (rs := [.tmp 0]) rfl Tryz.ntmps10 (by simp) ?_
  repeat' (first | ((repeat ((fail_if_success (refine hK _ ?_)); clear hK K)); refine hK _ ?_; clear hK K) | (refine b9 fun K1 q8 => ?_; simp only [S1, simprocAttr, yN, List.length_map, eL, U5]; first | refine q8 _ ?_; clear q8 K1 | (apply d4 E15; exact (hbg _); refine q8 _ ?_; clear q8 K1) | (apply d4 E19; exact (hlb _); refine q8 _ ?_; clear q8 K1) | (apply d4 E20; exact (hac _); refine q8 _ ?_; clear q8 K1)) | refine b6 fun K hK => ?_ | ((first | apply b8 | apply b5 | apply d3); try simp only [NB, simprocAttr]))
  all_goals simp only [S1, simprocAttr, ENB, yN]
end
section
def dl := And.intro T2 (And.intro T3 (And.intro T4 (And.intro T70 (And.intro T72 (And.intro T73 T75)))))
attribute [local irreducible] awp n9 k8
variable {G : Nat → Option (List PV)}
mutual
def J5 : Tm → Int → Int → Bool × Int
  | .mk _ _ ks, d, n => if n - 1 < 0 ∨ 30 < d ∨ 10 < (ks.length : Int) then (true, n - 1) else B0 ks (d + 1) (n - 1)
def B0 : List Tm → Int → Int → Bool × Int
  | [], _, n => (false, n)
  | k :: r, d, n => if (J5 k d n).1 = true then J5 k d n else B0 r d (J5 k d n).2
end
theorem om (t : Tm) (d n : Int) : J5 t d n = if n - 1 < 0 ∨ 30 < d ∨ 10 < (t.kids.length : Int) then (true, n - 1) else B0 t.kids (d + 1) (n - 1) := by
  cases t; rw [J5]; rfl
theorem fC : ∀ (a b : List Tm) (d n : Int), B0 (a ++ b) d n = if (B0 a d n).1 = true then B0 a d n else B0 b d (B0 a d n).2
  | [], b, d, n => by simp [B0]
  | k :: r, b, d, n => by
    simp only [List.cons_append, B0]
    by_cases h : (J5 k d n).1 = true
    · simp [h]
    · simp only [h, if_false]
      exact fC r b d _
theorem cK {l : List Tm} {i : Nat} {k : Tm} (hk : l[i]? = some k) {d n : Int} (hp : (B0 (l.take i) d n).1 = false) :
    B0 (l.take (i + 1)) d n = J5 k d (B0 (l.take i) d n).2 := by
  rw [List.take_add_one, hk, fC]
  simp only [hp, Bool.false_eq_true, if_false, Option.toList_some, B0]
  split
  · rfl
  · rename_i h
    have : (J5 k d (B0 (List.take i l) d n).2).1 = false := by simpa using h
    rw [Prod.ext_iff]; exact ⟨this.symm, rfl⟩
theorem gL {l : List Tm} {i : Nat} {k : Tm} (hk : l[i]? = some k) {d n : Int} (hp : (B0 (l.take i) d n).1 = false) (ht : (J5 k d (B0 (l.take i) d n).2).1 = true) :
    B0 l d n = J5 k d (B0 (l.take i) d n).2 := by
  have h := cK hk hp
  conv => lhs; rw [← List.take_append_drop (i + 1) l]
  rw [fC, h, if_pos ht]
theorem xg : ∀ t : Tm, ∀ d n : Int, 0 ≤ n → -1 ≤ (J5 t d n).2 ∧ (J5 t d n).2 ≤ n ∧ ((J5 t d n).1 = false → 0 ≤ (J5 t d n).2) := by
  intro t
  refine Tm.ind (p := fun t => ∀ d n : Int, 0 ≤ n → -1 ≤ (J5 t d n).2 ∧ (J5 t d n).2 ≤ n ∧ ((J5 t d n).1 = false → 0 ≤ (J5 t d n).2)) (fun t ih => ?_) t
  have hs : ∀ l : List Tm, (∀ k ∈ l, k ∈ t.kids) → ∀ d n : Int, 0 ≤ n → -1 ≤ (B0 l d n).2 ∧ (B0 l d n).2 ≤ n ∧ ((B0 l d n).1 = false → 0 ≤ (B0 l d n).2) := by
    intro l
    induction l with
    | nil => intro _ d n hn; simp [B0]; omega
    | cons k r ihr =>
      intro hm d n hn
      have h1 := ih k (hm k (by simp)) d n hn
      simp only [B0]
      split
      · exact h1
      · rename_i h
        have h2 := h1.2.2 (by simpa using h)
        have h3 := ihr (fun x hx => hm x (by simp [hx])) d _ h2
        exact ⟨by omega, by omega, h3.2.2⟩
  intro d n hn
  rw [om]
  split
  · simp; omega
  · rename_i h
    have := hs t.kids (fun _ h => h) (d + 1) (n - 1) (by omega)
    exact ⟨by omega, by omega, this.2.2⟩
theorem gM {l : List Tm} {d n : Int} (hn : 0 ≤ n) : -1 ≤ (B0 l d n).2 ∧ (B0 l d n).2 ≤ n ∧ ((B0 l d n).1 = false → 0 ≤ (B0 l d n).2) := by
  induction l generalizing n with
  | nil => simp [B0]; omega
  | cons k r ih =>
    have h1 := xg k d n hn
    simp only [B0]
    split
    · exact h1
    · rename_i h
      have h2 := h1.2.2 (by simpa using h)
      have h3 := ih h2
      exact ⟨by omega, by omega, h3.2.2⟩
theorem zW : ∀ t : Tm, ∀ d n : Int, (J5 t d n).1 = false → 1 ≤ d → Tm.Ok (31 - d).toNat t := by
  intro t
  refine Tm.ind (p := fun t => ∀ d n : Int, (J5 t d n).1 = false → 1 ≤ d → Tm.Ok (31 - d).toNat t) (fun t ih => ?_) t
  intro d n hf hd
  rw [om] at hf
  split at hf
  · cases hf
  · rename_i h
    have hs : ∀ l : List Tm, ∀ d n : Int, (B0 l d n).1 = false → ∀ k ∈ l, ∃ m, (J5 k d m).1 = false := by
      intro l
      induction l with
      | nil => intro d n _ k hk; simp at hk
      | cons x r ihr =>
        intro d n hf k hk
        simp only [B0] at hf
        split at hf
        · rename_i h2; rw [h2] at hf; cases hf
        · rename_i h2
          rcases List.mem_cons.mp hk with rfl | hk
          · exact ⟨n, by simpa using h2⟩
          · exact ihr _ _ hf k hk
    have e : (31 - d).toNat = (31 - (d + 1)).toNat + 1 := by omega
    rw [e]
    refine .mk _ t (by omega) fun k hk => ?_
    obtain ⟨m, hm⟩ := hs _ _ _ hf k hk
    exact ih k hk _ _ hm (by omega)
theorem oq (t : Tm) : ∀ (d n : Int) (b g : Nat) (h : Heap), 0 ≤ n → n ≤ 3000 → 1 ≤ d → d ≤ 31 → h[b]? = some (rB g n) →
    d5 Tryz.prog G 29 [aT t, .ptr b g 0, .i d] h (fun r h' => r = .b (J5 t d n).1 ∧ h' = x9 h b (rB g (J5 t d n).2)) := by
  refine Tm.ind (p := fun t => ∀ (d n : Int) (b g : Nat) (h : Heap), 0 ≤ n → n ≤ 3000 → 1 ≤ d → d ≤ 31 → h[b]? = some (rB g n) →
    d5 Tryz.prog G 29 [aT t, .ptr b g 0, .i d] h (fun r h' => r = .b (J5 t d n).1 ∧ h' = x9 h b (rB g (J5 t d n).2))) (fun t ih => ?_) t
  intro d n b g h hn hn2 hd hd2 hb
  have hlt : b < h.length := (List.getElem?_eq_some_iff.mp hb).1
  have hself := xH hb
  have hw : IntKind.i64.wrap (n - 1) = n - 1 := IntWalk.i64_in _ (by omega)
  rw [om]
  refine i3 (rl := []) d7 Tryz.func29 rfl (rs := [.tmp 6]) rfl Tryz.ntmps29 (by simp) ?_
  rw [← hself]
  by_cases hbig : n - 1 < 0 ∨ 30 < d ∨ 10 < (t.kids.length : Int)
  · rw [if_pos hbig]
    have f1 : ((decide (n - 1 < 0) || decide (30 < d)) || decide (10 < (t.kids.length : Int))) = true := by
      simp; omega
    repeat' (first | ((repeat ((fail_if_success (refine hK _ ?_)); clear hK K)); refine hK _ ?_; clear hK K) | ((first | refine b9 fun K1 q8 => ?_ | refine b7 fun A B hA hB => ?_); simp only [S1, simprocAttr, dl, f1, hw, List.length_map, dI hlt, ka hlt, ca, dJ hlt, cB, cC, B5]; first | refine q8 _ ?_; clear q8 K1 | (refine hA ?_; clear hA hB A B) | (refine l9 (v := ?_) (fun hg q9 => ?_) ?_; rotate_left; (focus (try ((try simp only [BN] at hg); simp only [S1, simprocAttr, dl, f1, hw, List.length_map, dI hlt, ka hlt, ca, dJ hlt, cB, cC, B5, hg] at q9 ⊢)); exact q9); refine q8 _ ?_; clear q8 K1)) | refine b6 fun K hK => ?_ | ((first | apply b8 | apply b5 | apply d3); try simp only [NB, simprocAttr]))
    all_goals simp only [A0, y5, P6, P5, H8, F7, E6, G2, pur, L6, B5, nJ, kb, wr, S1, simprocAttr, dl, Nat.le_add_right, Nat.le_refl]
    all_goals first | exact N8 | exact ⟨N8, rfl⟩ | exact ⟨N8, rfl, rfl⟩
  · rw [if_neg hbig]
    have f1 : ((decide (n - 1 < 0) || decide (30 < d)) || decide (10 < (t.kids.length : Int))) = false := by
      simp; omega
    have hkl : t.kids.length ≤ 100 := by omega
    have hm0 : 0 ≤ n - 1 := by omega
    have hd3 : IntKind.i64.wrap (d + 1) = d + 1 := IntWalk.i64_in _ (by omega)
    let m := fun i => (B0 (t.kids.take i) (d + 1) (n - 1)).2
    refine b6 fun K hK => ?_
    repeat' (first | ((repeat ((fail_if_success (refine hK _ ?_)); clear hK K)); refine hK _ ?_; clear hK K) | ((first | refine b9 fun K1 q8 => ?_ | refine b7 fun A B hA hB => ?_); simp only [S1, simprocAttr, dl, f1, hw, List.length_map, dI hlt, ka hlt, ca, dJ hlt, cB, cC, B5]; first | refine q8 _ ?_; clear q8 K1 | (refine hB ?_; clear hA hB A B) | (refine l9 (v := ?_) (fun hg q9 => ?_) ?_; rotate_left; (focus (try ((try simp only [BN] at hg); simp only [S1, simprocAttr, dl, f1, hw, List.length_map, dI hlt, ka hlt, ca, dJ hlt, cB, cC, B5, hg] at q9 ⊢)); exact q9); refine q8 _ ?_; clear q8 K1)) | refine b6 fun K hK => ?_ | ((first | apply b8 | apply b5 | apply c7 | apply c9); try simp only [NB, simprocAttr]))
    refine Q9 t.kids.length 45 (fun i => x9 h b (rB g (m i))) (fun i => [(35, .i i), (34, .i t.kids.length), (33, .p (.sl (t.kids.map eT))), (1, .ptr b g 0), (2, .i d)]) (fun i => []) (fun i => (B0 (t.kids.take i) (d + 1) (n - 1)).1 = false)
      (fun i => ⟨by rw [B5, B5], sZ⟩) ?_ (by simp [B0]) fun i hi hp K hK => ?_
    · have e0 : m 0 = n - 1 := by simp [m, B0]
      simp only [e0]
      refine ⟨rfl, ⟨_, rfl⟩, ?_, ?_⟩
      · simp [G8, s4, D0, B5]; omega
      · simp [C1]
    rcases Nat.lt_or_ge i t.kids.length with hlti | hge
    · obtain ⟨k, hx⟩ : ∃ k, t.kids[i]? = some k := ⟨_, List.getElem?_eq_getElem hlti⟩
      have hmem := List.mem_of_getElem? hx
      have hmi : 0 ≤ m i ∧ m i ≤ n - 1 := by
        have := gM (l := t.kids.take i) (d := d + 1) hm0
        exact ⟨this.2.2 hp, this.2.1⟩
      have hr : ∀ L : Heap, d5 Tryz.prog G 29 [aT k, .ptr b g 0, .i (d + 1)] (x9 h b (rB g (m i)) ++ L) (fun r h' => r = .b (J5 k (d + 1) (m i)).1 ∧ h' = x9 h b (rB g (J5 k (d + 1) (m i)).2) ++ L) := fun L => by
        have := ih k hmem (d + 1) (m i) b g (x9 h b (rB g (m i)) ++ L) hmi.1 (by omega) (by omega) (by omega) (dI hlt L)
        rwa [zp L hlt] at this
      cases hb1 : (J5 k (d + 1) (m i)).1 with
      | false =>
        rw [hb1] at hr
        have hs := cK hx hp
        repeat' (first | ((repeat ((fail_if_success (refine hK _ ?_)); clear hK K)); refine hK _ ?_; clear hK K) | ((first | refine b9 fun K1 q8 => ?_ | refine b7 fun A B hA hB => ?_); simp only [S1, simprocAttr, dl, dC hx, cv hlti, af hkl hlti, q6, hd3, List.length_map, dI hlt, ka hlt, ca, dJ hlt, cB, cC, B5, sX, sY]; first | refine q8 _ ?_; clear q8 K1 | ((first | refine hA ?_ | refine hB ?_); clear hA hB A B) | (apply d4 E29; exact (hr _); refine q8 _ ?_; clear q8 K1)) | refine b6 fun K hK => ?_ | ((first | apply b8 | apply b5 | apply c7 | apply c9); try simp only [NB, simprocAttr]))
        refine ⟨hlti, by rw [hs]; exact hb1, ?_⟩
        have em : m (i + 1) = (J5 k (d + 1) (m i)).2 := by simp only [m, hs]
        rw [em]
        refine ⟨rfl, ⟨_, rfl⟩, ?_, ?_⟩
        · simp [G8, s4, D0, frL, B5]; omega
        · simp [C1]
      | true =>
        rw [hb1] at hr
        have hs := gL hx hp hb1
        repeat' (first | ((repeat ((fail_if_success (refine hK _ ?_)); clear hK K)); refine hK _ ?_; clear hK K) | ((first | refine b9 fun K1 q8 => ?_ | refine b7 fun A B hA hB => ?_); simp only [S1, simprocAttr, dl, dC hx, cv hlti, af hkl hlti, q6, hd3, List.length_map, dI hlt, ka hlt, ca, dJ hlt, cB, cC, B5, sX, sY]; first | refine q8 _ ?_; clear q8 K1 | (refine hA ?_; clear hA hB A B) | (apply d4 E29; exact (hr _); refine q8 _ ?_; clear q8 K1)) | refine b6 fun K hK => ?_ | ((first | apply b8 | apply b5 | apply c7 | apply c9 | apply d3); try simp only [NB, simprocAttr]))
        rw [hs, hb1]
        simp only [A0, y5, P6, P5, H8, F7, E6, G2, pur, L6, B5, nJ, kb, wr, S1, simprocAttr, dl, Nat.le_add_right, Nat.le_refl]
        first | exact N8 | exact ⟨N8, rfl⟩ | exact ⟨N8, rfl, rfl⟩
    · obtain rfl : i = t.kids.length := by omega
      repeat' (first | ((repeat ((fail_if_success (refine hK _ ?_)); clear hK K)); refine hK _ ?_; clear hK K) | ((first | refine b9 fun K1 q8 => ?_ | refine b7 fun A B hA hB => ?_); simp only [S1, simprocAttr, dl, iZ]; first | refine q8 _ ?_; clear q8 K1 | (refine hB ?_; clear hA hB A B)) | refine b6 fun K hK => ?_ | ((first | apply b8 | apply b5 | apply f9 | apply d3); try simp only [NB, simprocAttr]))
      have e : t.kids.take t.kids.length = t.kids := List.take_length
      rw [e] at hp
      have em : m t.kids.length = (B0 t.kids (d + 1) (n - 1)).2 := by simp only [m, e]
      rw [em, hp]
      simp only [A0, y5, P6, P5, H8, F7, E6, G2, pur, L6, B5, nJ, kb, wr, S1, simprocAttr, dl, Nat.le_add_right, Nat.le_refl]
      first | exact N8 | exact ⟨N8, rfl⟩ | exact ⟨N8, rfl, rfl⟩
end
section
def Y6 := And.intro T2 (And.intro T3 (And.intro T4 (And.intro T22 (And.intro T23 (And.intro T25 (And.intro T70 (And.intro T72 (And.intro T73 (And.intro T75 (And.intro T77 T80))))))))))
attribute [local irreducible] awp n9 k8 l8 o5 m9
variable {G : Nat → Option (List PV)}
theorem xh {l : List Tm} : ∀ {d n : Int}, 1 ≤ d → (B0 l d n).1 = false → ∀ k ∈ l, Tm.Ok (31 - d).toNat k := by
  induction l with
  | nil => intro d n _ _ k hk; simp at hk
  | cons x r ih =>
    intro d n hd hf k hk
    simp only [B0] at hf
    split at hf
    · rename_i h2; rw [h2] at hf; cases hf
    · rename_i h2
      rcases List.mem_cons.mp hk with rfl | hk
      · exact zW _ _ _ (by simpa using h2) hd
      · exact ih hd hf k hk
def Y7 (ns : List Nd) : Nat := ns.countP fun k => k.kind == 6
theorem vb {ns : List Nd} {j : Nat} {k : Nd} (h : ns[j]? = some k) : Y7 (ns.take (j + 1)) = Y7 (ns.take j) + if k.kind = 6 then 1 else 0 := by
  unfold Y7
  rw [List.take_add_one, h, List.countP_append]
  by_cases e : k.kind = 6 <;> simp [e]
theorem yG (ns : List Nd) : Y7 ns ≤ ns.length := List.countP_le_length
def bl (ns : List Nd) (fl : List Fl) : Bool := (decide (25 < (ns.length : Int)) || decide (41 < (fl.length : Int))) || ((B0 (N9 ns fl) 1 400).1 || decide (4 < (Y7 ns : Int)))
theorem mM {ns : List Nd} {fl : List Fl} (h : bl ns fl = false) : NetOk ns fl := by
  unfold bl at h
  simp only [Bool.or_eq_false_iff, decide_eq_false_iff_not] at h
  obtain ⟨⟨h1, h2⟩, h3, h4⟩ := h
  have ha := xh (by omega) h3
  refine ⟨by omega, by omega, ⟨30, by omega, fun k hk => ha _ ?_⟩, ⟨30, by omega, fun k hk => ha _ ?_⟩⟩
  · unfold N9; exact List.mem_append_left _ (List.mem_map.mpr ⟨k, hk, rfl⟩)
  · unfold N9; exact List.mem_append_right _ (List.mem_map.mpr ⟨k, hk, rfl⟩)
theorem qD (k : Tm) (n : Int) (hn : 0 ≤ n) (hn2 : n ≤ 3000) (h : Heap) (A : Option Blk) (L : Heap) :
    d5 Tryz.prog G 29 [aT k, .ptr (h.length + 1) 0 0, .i 1] (h ++ (A :: some ⟨0, [.i n]⟩ :: L)) (fun r h' => r = .b (J5 k 1 n).1 ∧ h' = h ++ (A :: some ⟨0, [.i (J5 k 1 n).2]⟩ :: L)) := by
  have := oq (G := G) k 1 n (h.length + 1) 0 (h ++ (A :: some ⟨0, [.i n]⟩ :: L)) hn hn2 (by omega) (by omega) (by simp [n5])
  simpa only [x9, T6, List.set_cons_succ, List.set_cons_zero] using this
theorem fD (ns : List Nd) (fl : List Fl) (h : Heap) : d5 Tryz.prog G 9 [G4 ns fl] h (fun r h' => r = .b (bl ns fl) ∧ h' = h) := by
  cases hsz : (decide (25 < (ns.length : Int)) || decide (41 < (fl.length : Int))) with
  | true =>
    have e : bl ns fl = true := by unfold bl; rw [hsz]; rfl
    rw [e]
    refine c8 (rl := []) d7 Tryz.func9 rfl (rs := [.tmp 2]) rfl Tryz.ntmps9 (by simp) ?_
    repeat' (first | ((repeat ((fail_if_success (refine hK _ ?_)); clear hK K)); refine hK _ ?_; clear hK K) | ((first | refine b9 fun K1 q8 => ?_ | refine b7 fun A B hA hB => ?_); simp only [S1, simprocAttr, Y6, List.length_map, hsz]; first | refine q8 _ ?_; clear q8 K1 | (refine hA ?_; clear hA hB A B) | (refine l9 (v := ?_) (fun hg q9 => ?_) ?_; rotate_left; (focus (try ((try simp only [BN] at hg); simp only [S1, simprocAttr, Y6, List.length_map, hsz, hg] at q9 ⊢)); exact q9); refine q8 _ ?_; clear q8 K1)) | refine b6 fun K hK => ?_ | ((first | apply b8 | apply b5 | apply d3); try simp only [NB, simprocAttr]))
    all_goals simp only [S1, simprocAttr, ENB, Y6]
  | false =>
    have e : bl ns fl = ((B0 (N9 ns fl) 1 400).1 || decide (4 < (Y7 ns : Int))) := by unfold bl; rw [hsz]; rfl
    have hn : ns.length ≤ 100 := by simp at hsz; omega
    have hl : fl.length ≤ 100 := by simp at hsz; omega
    rw [e]
    let m := fun j => (B0 ((ns.map (·.term)).take j) 1 400)
    let m2 := fun j => (B0 (ns.map (·.term) ++ (fl.map (·.cond)).take j) 1 400)
    refine c8 (rl := []) d7 Tryz.func9 rfl (rs := [.tmp 2]) rfl Tryz.ntmps9 (by simp) ?_
    repeat' (first | ((repeat ((fail_if_success (refine hK _ ?_)); clear hK K)); refine hK _ ?_; clear hK K) | ((first | refine b9 fun K1 q8 => ?_ | refine b7 fun A B hA hB => ?_); simp only [S1, simprocAttr, Y6, List.length_map, hsz]; first | refine q8 _ ?_; clear q8 K1 | (refine hB ?_; clear hA hB A B) | (refine l9 (v := ?_) (fun hg q9 => ?_) ?_; rotate_left; (focus (try ((try simp only [BN] at hg); simp only [S1, simprocAttr, Y6, List.length_map, hsz, hg] at q9 ⊢)); exact q9); refine q8 _ ?_; clear q8 K1)) | refine b6 fun K hK => ?_ | ((first | apply b8 | apply b5 | apply c7 | apply c9); try simp only [NB, simprocAttr]))
    refine o9 ns.length 52 (fun j => [(24, .i j), (23, .i ns.length), (22, .p (.sl (ns.map eN))), (4, .i (Y7 (ns.take j))), (3, .ptr (h.length + 1) 0 0), (1, .ptr h.length 0 0)])
      (fun j => [some ⟨0, x6 ns fl⟩, some ⟨0, [.i (m j).2]⟩]) (fun j => (m j).1 = false) ?_ (by simp [m, B0]) fun j hj hp K hK => ?_
    · have e0 : (m 0).2 = 400 := by simp [m, B0]
      simp only [e0]
      (refine ⟨rfl, (by first | exact ⟨_, rfl⟩ | exact ⟨[], by simp⟩), ?_, ?_⟩ <;> simp only [S1, simprocAttr, KNB] <;> (try and_intros) <;> (try assumption) <;> (try trivial) <;> (try omega))
    rcases Nat.lt_or_ge j ns.length with hlt | hge
    · obtain ⟨k, hx⟩ : ∃ k, ns[j]? = some k := ⟨_, List.getElem?_eq_getElem hlt⟩
      have hx2 : (ns.map (·.term))[j]? = some k.term := by simp [hx]
      have hr := gM (l := (ns.map (·.term)).take j) (d := 1) (n := 400) (by omega)
      have hd := fun A L => qD (G := G) k.term (m j).2 (hr.2.2 hp) (by have := hr.2.1; show (B0 _ _ _).2 ≤ 3000; omega) h A L
      have hal := yG (ns.take j)
      rw [List.length_take] at hal
      have hna : IntKind.i64.wrap ((Y7 (ns.take j) : Int) + 1) = ((Y7 (ns.take j) + 1 : Nat) : Int) := by rw [IntWalk.i64_in _ (by omega)]; omega
      have h6 := vb hx
      rcases (show ((k.kind == 6) = true ∧ Y7 (ns.take (j + 1)) = Y7 (ns.take j) + 1) ∨ ((k.kind == 6) = false ∧ Y7 (ns.take (j + 1)) = Y7 (ns.take j)) by
        by_cases e : k.kind = 6
        · rw [if_pos e] at h6; exact .inl ⟨by simp [e], h6⟩
        · rw [if_neg e] at h6; exact .inr ⟨by simp [e], h6⟩) with ⟨e6, ea⟩ | ⟨e6, ea⟩
      all_goals
        cases hq : (J5 k.term 1 (m j).2).1 with
        | false =>
          have hs := cK hx2 hp
          rw [hq] at hd
          repeat' (first | ((repeat ((fail_if_success (refine hK _ ?_)); clear hK K)); refine hK _ ?_; clear hK K) | ((first | refine b9 fun K1 q8 => ?_ | refine b7 fun A B hA hB => ?_); simp only [S1, simprocAttr, Y6, e6, hna, H6 hx, W7 hlt, K5 hn hlt, eN, List.length_map]; first | refine q8 _ ?_; clear q8 K1 | ((first | refine hA ?_ | refine hB ?_); clear hA hB A B) | (apply d4 E29; exact (hd _ _); refine q8 _ ?_; clear q8 K1)) | refine b6 fun K hK => ?_ | ((first | apply b8 | apply b5 | apply c7 | apply c9); try simp only [NB, simprocAttr]))
          refine ⟨hlt, by show (B0 _ _ _).1 = false; rw [hs]; exact hq, ?_⟩
          have em : m (j + 1) = J5 k.term 1 (m j).2 := hs
          rw [em, ea]
          (refine ⟨rfl, (by first | exact ⟨_, rfl⟩ | exact ⟨[], by simp⟩), ?_, ?_⟩ <;> simp only [S1, simprocAttr, KNB] <;> (try and_intros) <;> (try assumption) <;> (try trivial) <;> (try omega))
        | true =>
          have hs : (B0 (N9 ns fl) 1 400).1 = true := by
            unfold N9
            rw [fC, gL hx2 hp hq, if_pos hq]; exact hq
          rw [hq] at hd
          repeat' (first | ((repeat ((fail_if_success (refine hK _ ?_)); clear hK K)); refine hK _ ?_; clear hK K) | ((first | refine b9 fun K1 q8 => ?_ | refine b7 fun A B hA hB => ?_); simp only [S1, simprocAttr, Y6, e6, hna, H6 hx, W7 hlt, K5 hn hlt, eN, List.length_map]; first | refine q8 _ ?_; clear q8 K1 | ((first | refine hA ?_ | refine hB ?_); clear hA hB A B) | (apply d4 E29; exact (hd _ _); refine q8 _ ?_; clear q8 K1)) | refine b6 fun K hK => ?_ | ((first | apply b8 | apply b5 | apply c7 | apply c9 | apply d3); try simp only [NB, simprocAttr]))
          all_goals simp only [S1, simprocAttr, ENB, Y6]
          all_goals (rw [hs]; first | done | rfl)
    obtain rfl : j = ns.length := by omega
    have ef : (ns.map (·.term)).take ns.length = ns.map (·.term) := List.take_of_length_le (by simp)
    have ean : ns.take ns.length = ns := List.take_length
    have hp0 : (B0 (ns.map (·.term)) 1 400).1 = false := by have := hp; simp only [m, ef] at this; exact this
    have m0 : m2 0 = m ns.length := by simp only [m, m2, ef, List.take_zero, List.append_nil]
    rw [ean]
    repeat' (first | ((repeat ((fail_if_success (refine hK _ ?_)); clear hK K)); refine hK _ ?_; clear hK K) | ((first | refine b9 fun K1 q8 => ?_ | refine b7 fun A B hA hB => ?_); simp only [S1, simprocAttr, Y6, dF, List.length_map]; first | refine q8 _ ?_; clear q8 K1 | (refine hB ?_; clear hA hB A B)) | refine b6 fun K hK => ?_ | ((first | apply b8 | apply b5 | apply c7 | apply f9); try simp only [NB, simprocAttr]))
    refine o9 fl.length 52 (fun j => [(41, .i j), (40, .i fl.length), (39, .p (.sl (fl.map eF))), (4, .i (Y7 ns)), (3, .ptr (h.length + 1) 0 0), (1, .ptr h.length 0 0)])
      (fun j => [some ⟨0, x6 ns fl⟩, some ⟨0, [.i (m2 j).2]⟩]) (fun j => (m2 j).1 = false) ?_ (by rw [m0]; exact hp) fun j hj hp K hK => ?_
    · simp only [m0]
      (refine ⟨rfl, (by first | exact ⟨_, rfl⟩ | exact ⟨[], by simp⟩), ?_, ?_⟩ <;> simp only [S1, simprocAttr, KNB] <;> (try and_intros) <;> (try assumption) <;> (try trivial) <;> (try omega))
    rcases Nat.lt_or_ge j fl.length with hlt | hge
    · obtain ⟨k, hx⟩ : ∃ k, fl[j]? = some k := ⟨_, List.getElem?_eq_getElem hlt⟩
      have hx2 : (N9 ns fl)[ns.length + j]? = some k.cond := by
        unfold N9
        rw [List.getElem?_append_right (by simp)]
        simp [hx]
      have et : ∀ i, i ≤ fl.length → (N9 ns fl).take (ns.length + i) = ns.map (·.term) ++ (fl.map (·.cond)).take i := by
        intro i hi
        unfold N9
        have : ns.length = (ns.map (·.term)).length := by simp
        rw [this, List.take_length_add_append]
      have hp' : (B0 ((N9 ns fl).take (ns.length + j)) 1 400).1 = false := by rw [et j hj]; exact hp
      have em2 : (B0 ((N9 ns fl).take (ns.length + j)) 1 400) = m2 j := by rw [et j hj]
      have hr := gM (l := ns.map (·.term) ++ (fl.map (·.cond)).take j) (d := 1) (n := 400) (by omega)
      have hd := fun A L => qD (G := G) k.cond (m2 j).2 (hr.2.2 hp) (by have := hr.2.1; show (B0 _ _ _).2 ≤ 3000; omega) h A L
      cases hq : (J5 k.cond 1 (m2 j).2).1 with
      | false =>
        have hs := cK hx2 hp'
        rw [em2] at hs
        have em : m2 (j + 1) = J5 k.cond 1 (m2 j).2 := by
          rw [← hs, Nat.add_assoc, et (j + 1) hlt]
        rw [hq] at hd
        repeat' (first | ((repeat ((fail_if_success (refine hK _ ?_)); clear hK K)); refine hK _ ?_; clear hK K) | ((first | refine b9 fun K1 q8 => ?_ | refine b7 fun A B hA hB => ?_); simp only [S1, simprocAttr, Y6, T8 hx, cM hlt, S5 hl hlt, eF, List.length_map]; first | refine q8 _ ?_; clear q8 K1 | ((first | refine hA ?_ | refine hB ?_); clear hA hB A B) | (apply d4 E29; exact (hd _ _); refine q8 _ ?_; clear q8 K1)) | refine b6 fun K hK => ?_ | ((first | apply b8 | apply b5 | apply c7 | apply c9); try simp only [NB, simprocAttr]))
        refine ⟨hlt, by rw [em]; exact hq, ?_⟩
        rw [em]
        (refine ⟨rfl, (by first | exact ⟨_, rfl⟩ | exact ⟨[], by simp⟩), ?_, ?_⟩ <;> simp only [S1, simprocAttr, KNB] <;> (try and_intros) <;> (try assumption) <;> (try trivial) <;> (try omega))
      | true =>
        have hs : (B0 (N9 ns fl) 1 400).1 = true := by
          rw [gL hx2 hp' (by rw [em2]; exact hq), em2]; exact hq
        rw [hq] at hd
        repeat' (first | ((repeat ((fail_if_success (refine hK _ ?_)); clear hK K)); refine hK _ ?_; clear hK K) | ((first | refine b9 fun K1 q8 => ?_ | refine b7 fun A B hA hB => ?_); simp only [S1, simprocAttr, Y6, T8 hx, cM hlt, S5 hl hlt, eF, List.length_map]; first | refine q8 _ ?_; clear q8 K1 | (refine hA ?_; clear hA hB A B) | (apply d4 E29; exact (hd _ _); refine q8 _ ?_; clear q8 K1)) | refine b6 fun K hK => ?_ | ((first | apply b8 | apply b5 | apply c7 | apply c9 | apply d3); try simp only [NB, simprocAttr]))
        all_goals simp only [S1, simprocAttr, ENB, Y6]
        all_goals (rw [hs]; first | done | rfl)
    obtain rfl : j = fl.length := by omega
    have ef2 : (fl.map (·.cond)).take fl.length = fl.map (·.cond) := List.take_of_length_le (by simp)
    have hs : (B0 (N9 ns fl) 1 400).1 = false := by have := hp; simp only [m2, ef2] at this; exact this
    repeat' (first | ((repeat ((fail_if_success (refine hK _ ?_)); clear hK K)); refine hK _ ?_; clear hK K) | ((first | refine b9 fun K1 q8 => ?_ | refine b7 fun A B hA hB => ?_); simp only [S1, simprocAttr, Y6, rn]; first | refine q8 _ ?_; clear q8 K1 | (refine hB ?_; clear hA hB A B)) | refine b6 fun K hK => ?_ | ((first | apply b8 | apply b5 | apply f9 | apply d3); try simp only [NB, simprocAttr]))
    all_goals simp only [S1, simprocAttr, ENB, Y6]
    all_goals (rw [hs]; first | done | rfl)
end
section
attribute [local irreducible] awp n9 k8 l8 o5 m9
theorem xj {fuel : Nat} {xs : List PV} (h : Ty Tryz.prog fuel 82 xs) : ∃ S : {S : List Int // S.length = 49}, xs = eSt S.1 := by
  obtain ⟨m, rows, e, hl, rfl, hf⟩ := U7 T82 h
  match rows, hl with
  | [r0, r1, r2, r3], _ =>
    have h0 : Ty Tryz.prog m 57 r0 := hf 0 _ r0 rfl rfl
    have h1 : Ty Tryz.prog m 58 r1 := hf 1 _ r1 rfl rfl
    have h2 : Ty Tryz.prog m 58 r2 := hf 2 _ r2 rfl rfl
    have h3 : Ty Tryz.prog m 3 r3 := hf 3 _ r3 rfl rfl
    obtain ⟨l0, hl0, _, rfl⟩ := gj T57 T3 h0
    obtain ⟨l1, hl1, _, rfl⟩ := gj T58 T3 h1
    obtain ⟨l2, hl2, _, rfl⟩ := gj T58 T3 h2
    obtain ⟨o, _, rfl⟩ := W1 T3 h3
    refine ⟨⟨l0 ++ (l1 ++ (l2 ++ [o])), by simp only [List.length_append, List.length_cons, List.length_nil]; omega⟩, ?_⟩
    unfold eSt
    simp only [List.flatMap_cons, List.flatMap_nil, List.append_nil, id_eq, List.map_append, List.map_cons, List.map_nil]
theorem xk {fuel : Nat} {xs : List PV} (h : Ty Tryz.prog fuel 28 xs) : ∃ x : Lb, xs = eL x := by
  obtain ⟨m, rows, e, hl, rfl, hf⟩ := U7 T28 h
  match rows, hl with
  | [r0, r1, r2], _ =>
    have h0 : Ty Tryz.prog m 3 r0 := hf 0 _ r0 rfl rfl
    have h1 : Ty Tryz.prog m 3 r1 := hf 1 _ r1 rfl rfl
    have h2 : Ty Tryz.prog m 3 r2 := hf 2 _ r2 rfl rfl
    obtain ⟨o, _, rfl⟩ := W1 T3 h0
    obtain ⟨n, _, rfl⟩ := W1 T3 h1
    obtain ⟨q, _, rfl⟩ := W1 T3 h2
    exact ⟨(o, n, q), by simp [eL]⟩
theorem zX {fuel : Nat} {xs : List PV} (h : Ty Tryz.prog fuel 28 xs) : ∃ x : Lb, ke Tryz.prog 28 xs = aL x := by
  obtain ⟨x, rfl⟩ := xk h
  exact ⟨x, by rw [nL T28]; rfl⟩
theorem tz {fuel : Nat} {xs : List PV} (h : Ty Tryz.prog fuel 26 xs) : ∃ l : List Sv, A7 l ∧ ke Tryz.prog 26 xs = B1 l := by
  obtain ⟨m, rows, _, rfl, hr⟩ := eY T26 h
  obtain ⟨l, rfl⟩ := je (e := fun S : {S : List Int // S.length = 49} => eSt S.1) (fun row hrow => xj hrow) rows hr
  refine ⟨l.map (·.1), fun s hs => ?_, ?_⟩
  · obtain ⟨S, _, rfl⟩ := List.mem_map.mp hs; exact S.2
  · rw [nL T26]; simp [TI.isAgg, Function.comp_def]
end
section
def T0 := And.intro T2 (And.intro T3 (And.intro T4 (And.intro T25 (And.intro T26 (And.intro T28 (And.intro T31 (And.intro T34 (And.intro T36 (And.intro T41 (And.intro T44 (And.intro T57 (And.intro T58 T82))))))))))))
attribute [local irreducible] awp n9 k8 l8 o5 m9
theorem vc (ns : List Nd) (fl : List Fl) (l : List Sv) : (L3 ns fl l).1.length ≤ 1500 := by
  unfold L3
  split
  · simp
  · exact dR ns fl l
theorem vd {ns : List Nd} {fl : List Fl} {l : List Sv} (h : A7 l) : A7 (L3 ns fl l).1 := by
  unfold L3
  split
  · intro s hs; cases hs
  · exact dS h
theorem sy (ns : List Nd) (fl : List Fl) {l : List Sv} (h49 : A7 l) (x : Lb) (h : Heap) : d5 Tryz.prog gW 3 [G4 ns fl, B1 l, aL x] h (fun r h' => r = .b true ∧ h' = h) := by
  have hline := fun h => iL h
  have hlg := fun h => fD (G := gW) ns fl h
  cases hl : bl ns fl with
  | true =>
    rw [hl] at hlg
    refine c8 (rl := []) d7 Tryz.func3 rfl (rs := [.tmp 6]) rfl Tryz.ntmps3 (by simp) ?_
    repeat' (first | ((repeat ((fail_if_success (refine hK _ ?_)); clear hK K)); refine hK _ ?_; clear hK K) | ((first | refine b9 fun K1 q8 => ?_ | refine b7 fun A B hA hB => ?_); simp only [S1, simprocAttr, T0, List.length_map]; first | refine q8 _ ?_; clear q8 K1 | (refine hA ?_; clear hA hB A B) | (apply d4 E9; exact (hlg _); refine q8 _ ?_; clear q8 K1) | (apply d4 E10; exact (hline _); refine q8 _ ?_; clear q8 K1)) | refine b6 fun K hK => ?_ | ((first | apply b8 | apply b5 | apply d3); try simp only [NB, simprocAttr]))
    all_goals simp only [S1, simprocAttr, ENB, T0]
  | false =>
  rw [hl] at hlg
  have nk := mM hl
  by_cases h6 : l.length ≤ 6
  case neg =>
    have f6 : decide (6 < (l.length : Int)) = true := decide_eq_true (by omega)
    refine c8 (rl := []) d7 Tryz.func3 rfl (rs := [.tmp 6]) rfl Tryz.ntmps3 (by simp) ?_
    repeat' (first | ((repeat ((fail_if_success (refine hK _ ?_)); clear hK K)); refine hK _ ?_; clear hK K) | ((first | refine b9 fun K1 q8 => ?_ | refine b7 fun A B hA hB => ?_); simp only [S1, simprocAttr, T0, f6, List.length_map]; first | refine q8 _ ?_; clear q8 K1 | (refine hA ?_; clear hA hB A B) | (apply d4 E9; exact (hlg _); refine q8 _ ?_; clear q8 K1) | (apply d4 E10; exact (hline _); refine q8 _ ?_; clear q8 K1)) | refine b6 fun K hK => ?_ | ((first | apply b8 | apply b5 | apply d3); try simp only [NB, simprocAttr]))
    all_goals simp only [S1, simprocAttr, ENB, T0]
  have f6 : decide (6 < (l.length : Int)) = false := decide_eq_false (by omega)
  have h1 := fun h => iF nk h49 (by omega) x h
  have h2 := fun h => ob nk h49 (by omega) x h
  have h3 := fun h => dU h49 (by omega) h
  have hc49 := mH (ns := ns) (fl := fl) h49 x
  have hcle := mG ns fl l x
  obtain ⟨c, e, hce⟩ : ∃ c e, u9 ns fl l x = (c, e) := ⟨_, _, rfl⟩
  rw [hce] at h1 h2 hc49 hcle
  simp only at h1 h2 hc49 hcle
  have h4 := fun h => iK hc49 hc49 (by omega) (by omega) h
  rw [decide_eq_true rfl] at h4
  have beqI' : ∀ x : Int, (x == x) = true := fun x => by simp
  refine c8 (rl := []) d7 Tryz.func3 rfl (rs := [.tmp 6]) rfl Tryz.ntmps3 (by simp) ?_
  repeat' (first | ((first | apply b8 | apply s5); (try simp only [NB])) | ((repeat ((fail_if_success (refine hK _ ?_)); clear hK K)); refine hK _ ?_; clear hK K) | ((first | refine b9 fun K1 q8 => ?_ | refine v6 rfl rfl rfl fun K1 q8 => ?_ | refine b7 fun A B hA hB => ?_); simp only [S1, simprocAttr, T0, f6, beqI', d8, e9, List.length_map]; first | refine q8 _ ?_; clear q8 K1 | (refine hB ?_; clear hA hB A B) | (apply d4 E9; exact (hlg _); refine q8 _ ?_; clear q8 K1) | (apply d4 E11; exact (h1 _); refine q8 _ ?_; clear q8 K1) | (apply d4 E14; exact (h4 _); refine q8 _ ?_; clear q8 K1) | (apply d4 E10; exact (hline _); refine q8 _ ?_; clear q8 K1)) | ((first | refine v7 (v := ?_) rfl rfl rfl rfl (by decide) (fun R1 K1 q8 => ?_) ?_ | refine z7 (v := ?_) rfl rfl rfl (by decide) (fun K1 q8 => ?_) ?_); rotate_left; (focus (simp only [S1, simprocAttr, T0, f6, beqI', d8, e9, List.length_map]; first | (exact q8 _ _ _) | (apply j4 E12; exact (h2 _); exact q8 _ _ _) | (apply j4 E13; exact (h3 _); exact q8 _ _ _)))) | (refine s6 rfl rfl rfl ?_) | ((refine A1 (z := ?_) 0 rfl rfl rfl rfl (by decide) rfl ?_ ?_); rotate_left; (focus (simp only [S1, simprocAttr, T0, f6, beqI', d8, e9, List.length_map, O9]; rfl))) | refine b6 fun K hK => ?_ | (refine r4 (es := []) [0, 1, 2, 3, 4, 5, 6] 1 (fs := []) rfl (by kernel_rfl) (by kernel_rfl) ?_) | ((first | apply b5 | apply c9 | apply d3); try simp only [NB, simprocAttr]))
  all_goals simp only [S1, simprocAttr, ENB, T0]
theorem qE (ns : List Nd) (fl : List Fl) {l : List Sv} (h49 : A7 l) (h : Heap) : d5 Tryz.prog gW 8 [G4 ns fl, B1 l] h (fun r h' => r = .b true ∧ h' = h) := by
  have hline := fun h => iL h
  have hlg := fun h => fD (G := gW) ns fl h
  cases hl : bl ns fl with
  | true =>
    rw [hl] at hlg
    refine c8 (rl := []) d7 Tryz.func8 rfl (rs := [.tmp 4]) rfl Tryz.ntmps8 (by simp) ?_
    repeat' (first | ((repeat ((fail_if_success (refine hK _ ?_)); clear hK K)); refine hK _ ?_; clear hK K) | ((first | refine b9 fun K1 q8 => ?_ | refine b7 fun A B hA hB => ?_); simp only [S1, simprocAttr, T0, List.length_map]; first | refine q8 _ ?_; clear q8 K1 | (refine hA ?_; clear hA hB A B) | (apply d4 E9; exact (hlg _); refine q8 _ ?_; clear q8 K1) | (apply d4 E10; exact (hline _); refine q8 _ ?_; clear q8 K1)) | refine b6 fun K hK => ?_ | ((first | apply b8 | apply b5 | apply d3); try simp only [NB, simprocAttr]))
    all_goals simp only [S1, simprocAttr, ENB, T0]
  | false =>
  rw [hl] at hlg
  have nk := mM hl
  by_cases h6 : l.length ≤ 6
  case neg =>
    have f6 : decide (6 < (l.length : Int)) = true := decide_eq_true (by omega)
    refine c8 (rl := []) d7 Tryz.func8 rfl (rs := [.tmp 4]) rfl Tryz.ntmps8 (by simp) ?_
    repeat' (first | ((repeat ((fail_if_success (refine hK _ ?_)); clear hK K)); refine hK _ ?_; clear hK K) | ((first | refine b9 fun K1 q8 => ?_ | refine b7 fun A B hA hB => ?_); simp only [S1, simprocAttr, T0, f6, List.length_map]; first | refine q8 _ ?_; clear q8 K1 | (refine hA ?_; clear hA hB A B) | (apply d4 E9; exact (hlg _); refine q8 _ ?_; clear q8 K1) | (apply d4 E10; exact (hline _); refine q8 _ ?_; clear q8 K1)) | refine b6 fun K hK => ?_ | ((first | apply b8 | apply b5 | apply d3); try simp only [NB, simprocAttr]))
    all_goals simp only [S1, simprocAttr, ENB, T0]
  have f6 : decide (6 < (l.length : Int)) = false := decide_eq_false (by omega)
  have h1 := fun h => qo nk h49 (by omega) h
  have h2 := fun h => oa nk h49 (by omega) h
  have h3 := fun h => dU h49 (by omega) h
  have hc49 := vd (ns := ns) (fl := fl) h49
  have hcle := vc ns fl l
  obtain ⟨c, e, hce⟩ : ∃ c e, L3 ns fl l = (c, e) := ⟨_, _, rfl⟩
  rw [hce] at h1 h2 hc49 hcle
  simp only at h1 h2 hc49 hcle
  have h4 := fun h => iK hc49 hc49 (by omega) (by omega) h
  rw [decide_eq_true rfl] at h4
  have h5 := fun h => bj nk hc49 hcle h
  have h7 := fun h => dj nk hc49 hcle h
  have h8 := fun h => bj nk h49 (by omega) h
  have h9 := fun h => dj nk h49 (by omega) h
  have b1 := gJ (B8 ns fl c)
  have b2 := ap ns fl c
  have b3 := gJ (B8 ns fl l)
  have b4 := ap ns fl l
  have ha := fun h => iI (G := gW) (I3 (B8 ns fl c)) (I3 (B8 ns fl c)) (by omega) (by omega) h
  have hb := fun h => iI (G := gW) (I3 (B8 ns fl l)) (I3 (B8 ns fl l)) (by omega) (by omega) h
  rw [decide_eq_true rfl] at ha hb
  clear b1 b2 b3 b4
  have xO : ∀ x : Int, (x != x) = false := fun x => by simp
  generalize I3 (B8 ns fl c) = A at *
  generalize I3 (B8 ns fl l) = B at *
  refine c8 (rl := []) d7 Tryz.func8 rfl (rs := [.tmp 4]) rfl Tryz.ntmps8 (by simp) ?_
  repeat' (first | ((first | apply b8 | apply i5 | apply s5); (try simp only [NB])) | ((repeat ((fail_if_success (refine hK _ ?_)); clear hK K)); refine hK _ ?_; clear hK K) | ((first | refine b9 fun K1 q8 => ?_ | refine j9 fun K1 q8 => ?_ | refine v6 rfl rfl rfl fun K1 q8 => ?_ | refine b7 fun A B hA hB => ?_); simp only [S1, simprocAttr, T0, f6, xO, d8, e9, List.length_map]; first | refine q8 _ ?_; clear q8 K1 | (refine hB ?_; clear hA hB A B) | (apply d4 E9; exact (hlg _); refine q8 _ ?_; clear q8 K1) | (apply d4 E27; exact (h1 _); refine q8 _ ?_; clear q8 K1) | (apply j4 E13; exact (h3 _); refine q8 _ ?_; clear q8 K1) | (apply d4 E14; exact (h4 _); refine q8 _ ?_; clear q8 K1) | (apply j4 E19; exact (h5 _); refine q8 _ ?_; clear q8 K1) | (apply j4 E17; exact (h7 _); refine q8 _ ?_; clear q8 K1) | (apply j4 E19; exact (h8 _); refine q8 _ ?_; clear q8 K1) | (apply j4 E17; exact (h9 _); refine q8 _ ?_; clear q8 K1) | (apply j4 E18; exact (ha _); refine q8 _ ?_; clear q8 K1) | (apply j4 E18; exact (hb _); refine q8 _ ?_; clear q8 K1) | (apply j4 E10; exact (hline _); refine q8 _ ?_; clear q8 K1)) | ((first | refine v7 (v := ?_) rfl rfl rfl rfl (by decide) (fun R1 K1 q8 => ?_) ?_ | refine z7 (v := ?_) rfl rfl rfl (by decide) (fun K1 q8 => ?_) ?_); rotate_left; (focus (simp only [S1, simprocAttr, T0, f6, xO, d8, e9, List.length_map]; first | (exact q8 _ _ _) | (apply j4 E28; exact (h2 _); exact q8 _ _ _) | (apply j4 E13; exact (h3 _); exact q8 _ _ _)))) | (refine s6 rfl rfl rfl ?_) | ((refine A1 (z := ?_) 0 rfl rfl rfl rfl (by decide) rfl ?_ ?_); rotate_left; (focus (simp only [S1, simprocAttr, T0, f6, xO, d8, e9, List.length_map, O9]; rfl))) | refine b6 fun K hK => ?_ | (refine r4 (es := []) [0, 1, 2, 3, 4, 5] 1 (fs := []) rfl (by kernel_rfl) (by kernel_rfl) ?_) | ((first | apply b5 | refine i6 ?_ | apply c9 | apply d3); try simp only [NB, simprocAttr]))
  all_goals simp only [S1, simprocAttr, ENB, T0]
theorem trailafter_given (xss : List (List PV)) (hl : xss.length = [25, 26, 28].length) (ht : ∀ (j : Nat) t xs, [25, 26, 28][j]? = some t → xss[j]? = some xs → ∃ fuel, Ty Tryz.prog fuel t xs) :
    d5 Tryz.prog gW 3 (List.zipWith (ke Tryz.prog) [25, 26, 28] xss) [] fun r h' => r = .b true ∧ h' = [] := by
  match xss, hl, ht with
  | [x0, x1, x2], _, ht =>
    obtain ⟨_, h0⟩ := ht 0 25 x0 rfl rfl
    obtain ⟨_, h1⟩ := ht 1 26 x1 rfl rfl
    obtain ⟨_, h2⟩ := ht 2 28 x2 rfl rfl
    obtain ⟨ns, fl, e0⟩ := tb h0
    obtain ⟨l, h49, e1⟩ := tz h1
    obtain ⟨x, e2⟩ := zX h2
    simp only [List.zipWith_cons_cons, List.zipWith_nil_left, e0, e1, e2]
    exact sy ns fl h49 x []
theorem trailcloses_given (xss : List (List PV)) (hl : xss.length = [25, 26].length) (ht : ∀ (j : Nat) t xs, [25, 26][j]? = some t → xss[j]? = some xs → ∃ fuel, Ty Tryz.prog fuel t xs) :
    d5 Tryz.prog gW 8 (List.zipWith (ke Tryz.prog) [25, 26] xss) [] fun r h' => r = .b true ∧ h' = [] := by
  match xss, hl, ht with
  | [x0, x1], _, ht =>
    obtain ⟨_, h0⟩ := ht 0 25 x0 rfl rfl
    obtain ⟨_, h1⟩ := ht 1 26 x1 rfl rfl
    obtain ⟨ns, fl, e0⟩ := tb h0
    obtain ⟨l, h49, e1⟩ := tz h1
    simp only [List.zipWith_cons_cons, List.zipWith_nil_left, e0, e1]
    exact qE ns fl h49 []
end
end Go.Proofs.YtbbmfemplmelhaaGreatDoor.AM
