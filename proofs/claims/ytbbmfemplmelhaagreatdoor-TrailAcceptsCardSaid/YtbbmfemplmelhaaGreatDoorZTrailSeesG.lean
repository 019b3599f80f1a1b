/- Proved here, in parts, for one law: contracts of the functions that the laws call, and the plain facts behind them. Conditions: none. -/
import Derived.Test.YtbbmfemplmelhaaGreatDoorZTrailSeesF
import Derived.Shelf.SlSortCmp.NoneTotal
set_option linter.unusedVariables false
set_option linter.unusedSimpArgs false
set_option linter.defProp false
set_option maxRecDepth 4000
set_option maxHeartbeats 4000000
namespace Go.Proofs.YtbbmfemplmelhaaGreatDoor.AM
open Go Go.Proofs
section
open Go Go.Proofs Go.Sort
def iC := And.intro T2 (And.intro T3 (And.intro T4 (And.intro T25 (And.intro T26 (And.intro T28 (And.intro T31 (And.intro T41 (And.intro T44 (And.intro T57 (And.intro T58 (And.intro T89 T92)))))))))))
attribute [local irreducible] awp n9 k3 l8 o6 n5
theorem qL (l : List Lb) : (l.map uL).flatMap (·.map AV.i) = cLs l := by
  unfold cLs
  induction l with
  | nil => rfl
  | cons x l ih => rw [List.map_cons, List.flatMap_cons, ih, List.flatMap_cons, List.map_append]
theorem qM {G : Nat → Option (List PV)} {l : List Lb} (hn : l.length ≤ 5000000) (hr : ∀ x ∈ l, Sm x.1 ∧ Sm x.2.1 ∧ Sm x.2.2) {h : Heap} {b g : Nat} (hb : h[b]? = some (some ⟨g, cLs l⟩)) :
    d5 Tryz.prog G 39 [.ref b g 0 3 l.length, .fn 40 []] h (fun r h' => r = .undef ∧ h' = bA h b g (ck l)) := by
  by_cases hne : l = []
  · subst hne
    have hs : ck [] = [] := rfl
    rw [hs, mM hb]
    intro ι w vs hS hv
    obtain ⟨hl, hv⟩ := hv
    have hl2 : vs.size = 2 := by simpa using hl.symm
    obtain ⟨v0, v1, rfl⟩ : ∃ v0 v1, vs = #[v0, v1] := by
      obtain ⟨l⟩ := vs
      match l, hl2 with
      | [a, b], _ => exact ⟨a, b, rfl⟩
    have h0 := hv 0 _ v0 rfl rfl
    obtain ⟨A, c, rfl, _⟩ := h0.ref_inv ⟨_, hb, rfl⟩
    refine (AnyF.slices_SortFunc_none Tryz.sortIv A c v1 w).mono ?_
    rintro e w' ⟨rfl, rfl⟩
    exact ⟨_, .undef, h, ι, rfl, ⟨rfl, rfl⟩, hS, .tup _ _ rfl (fun i x v hx => by simp at hx), Evo.refl (Nat.le_refl _)⟩
  have hcm : ∀ x y : Rec 3, d5 Tryz.prog G 40 [.agg (C7 x), .agg (C7 y)] [] fun r h' => r = .i (tv x.1 y.1) := by
    intro x y
    obtain ⟨a, i, p, e1⟩ := uM x
    obtain ⟨c, j, q, e2⟩ := uM y
    have hx : C7 x = [.i a, .i i, .i p] := by unfold C7; rw [e1]; rfl
    have hy : C7 y = [.i c, .i j, .i q] := by unfold C7; rw [e2]; rfl
    rw [hx, hy, e1, e2]
    intro ι w vs hS hv
    refine (kT (G := G) (a, i, p) (c, j, q) [] ι w vs hS hv).mono ?_
    rintro e w' ⟨v, r, h', ι', q1, ⟨q2, _⟩, q3⟩
    exact ⟨v, r, h', ι', q1, q2, q3⟩
  have key := se (G := G) (k := 3) (by omega) BH tv uN hcm (h := h) (b := b) (gg := g) (off := 0) (pre := []) (post := []) (rows := l.map uL) (out := (ck l).map uL)
    (by rw [qL]; simpa using hb) rfl (by simpa using hne) (by rw [List.length_map]; omega)
    (fun r hr' => by
      obtain ⟨a, ha, rfl⟩ := List.mem_map.mp hr'
      refine ⟨rfl, fun n hn => ?_⟩
      obtain ⟨h1, h2, h3⟩ := hr a ha
      simp only [uL, List.mem_cons, List.not_mem_nil, or_false] at hn
      rcases hn with rfl | rfl | rfl
      · exact gF h1
      · exact gF h2
      · exact gF h3)
    ((aW l).map _) (by
      rw [List.pairwise_map]
      refine (gw l).imp fun {a b} hab e => hab ?_
      exact kE.mp e) (fun x y hx hy a1 a2 => by
      obtain ⟨a, _, rfl⟩ := List.mem_map.mp hx
      obtain ⟨c, _, rfl⟩ := List.mem_map.mp hy
      rw [sj (x := a) (y := c) a1 a2])
  rw [List.length_map] at key
  intro ι w vs hS hv
  refine (key ι w vs hS hv).mono ?_
  rintro e w' ⟨v, r, h', ι', q1, ⟨q2, q3⟩, q4⟩
  refine ⟨v, r, h', ι', q1, ⟨q2, ?_⟩, q4⟩
  rw [q3, qL]
  simp [bA]
theorem oy {ns : List Nd} {fl : List Fl} (nk : NetOk ns fl) {l : List Sv} (h49 : D1 l) (hl : l.length ≤ 1500) (h : Heap) :
    d5 Tryz.prog gW 19 [G7 ns fl, H0 l] h (fun r h' => r = aLs (iq (L6 ns fl l)) ∧ h' = h) := by
  have hzl : (zS.map AV.i).length = 49 := by rw [List.length_map]; rfl
  have hem : (zS.map AV.i).isEmpty = false := rfl
  refine c8 (rl := []) e9 Tryz.func19 rfl (rs := [.tmp 4]) rfl Tryz.ntmps19 (by simp) ?_
  refine b6 fun K hK => ?_
  repeat' (first | (apply b8; (try simp only [NB]); ((repeat ((fail_if_success (refine hK _ ?_)); clear hK K)); refine hK _ ?_; clear hK K)) | (refine b9 fun K1 q6 => ?_; simp only [S1, simprocAttr, iC]; refine q6 _ ?_; clear q6 K1) | (apply b5; try simp only [NB, simprocAttr]; (try ((repeat ((fail_if_success (refine hK _ ?_)); clear hK K)); refine hK _ ?_; clear hK K))))
  refine b6 fun K hK => ?_
  repeat' (first | (apply b8; (try simp only [NB]); ((repeat ((fail_if_success (refine hK _ ?_)); clear hK K)); refine hK _ ?_; clear hK K)) | (refine b9 fun K1 q6 => ?_; simp only [S1, simprocAttr, iC]; refine q6 _ ?_; clear q6 K1) | (apply b5; try simp only [NB, simprocAttr]; (try ((repeat ((fail_if_success (refine hK _ ?_)); clear hK K)); refine hK _ ?_; clear hK K))))
  repeat' (first | ((repeat ((fail_if_success (refine hK _ ?_)); clear hK K)); refine hK _ ?_; clear hK K) | (refine b9 fun K1 q6 => ?_; simp only [S1, simprocAttr, iC, List.length_map]; refine q6 _ ?_; clear q6 K1) | refine b6 fun K hK => ?_ | ((first | apply b8 | apply b5 | apply c7); try simp only [NB, simprocAttr]))
  refine F0 l.length 39 (fun j => [(12, .i j), (11, .i l.length), (10, H0 l), (5, .ref (h.length + 1) (L6 ns fl (l.take j)).length 0 3 (L6 ns fl (l.take j)).length), (2, .ptr h.length 0 0)])
    (fun j => [some ⟨0, x8 ns fl⟩, some ⟨(L6 ns fl (l.take j)).length, cLs (L6 ns fl (l.take j))⟩]) (fun j => True) ?_ trivial fun j hj hp K hK => ?_
  · refine (o8.adopt 5 3 rfl).trans (Sub.ghost ⟨rfl, ⟨[], by simp [cLs, L6]⟩, ?_, ⟨trivial, trivial, trivial⟩, trivial, trivial⟩)
    simp only [K4, s7, G5, frL, List.length_cons, List.length_nil]
    simp [L6]
  rcases Nat.lt_or_ge j l.length with hlt | hge
  · obtain ⟨s, hx⟩ : ∃ k, l[j]? = some k := ⟨_, List.getElem?_eq_getElem hlt⟩
    have hs : s.length = 49 := h49 s (List.mem_of_getElem? hx)
    have hxr : (l.map eSt)[j]? = some (s.map (PV.int .i64)) := by rw [List.getElem?_map, hx]; rfl
    have jl : (j : Int) < (l.length : Int) := by omega
    have j0 : (0 : Int) ≤ (j : Int) := by omega
    have hnx : IntKind.i64.wrap ((j : Int) + 1) = ((j + 1 : Nat) : Int) := by rw [IntWalk.i64_in _ (by omega)]; omega
    have s49 : (s.map AV.i).take 49 = s.map AV.i := List.take_of_length_le (by rw [List.length_map, hs]; exact Nat.le_refl _)
    have hso : w9 (zS.map AV.i) 0 (s.map AV.i) = s.map AV.i := l7 (n := 49) (by rw [List.length_map, hs]) _ hzl
    have hsm := x9 s
    have hne := K6 hs
    have hst := fun h => iy nk hs h
    have hto := I0 (ns := ns) (fl := fl) hs
    have hln := M4 (ns := ns) (fl := fl) (S := s)
    have es := sD (ns := ns) (fl := fl) hx
    have hol := kW ns fl (l.take j)
    rw [List.length_take] at hol
    have hol : (L6 ns fl (l.take j)).length ≤ 3750000 := by omega
    generalize L6 ns fl (l.take j) = o at *
    generalize n7 ns fl s = sl at *
    repeat' (first | ((repeat ((fail_if_success (refine hK _ ?_)); clear hK K)); refine hK _ ?_; clear hK K) | ((first | refine b9 fun K1 q6 => ?_ | refine b7 fun A B hA hB => ?_); simp only [S1, simprocAttr, iC, jl, j0, hnx, hxr, hs, hzl, hem, s49, hso, hsm, hne, TSz, i6, h9, j3, d8, d7, d9, List.length_map]; first | refine q6 _ ?_; clear q6 K1 | (refine hA ?_; clear hA hB A B) | (apply d4 E38; exact (hst _); refine q6 _ ?_; clear q6 K1)) | refine b6 fun K hK => ?_ | ((first | apply b8 | apply b5 | apply c7 | apply c9); try simp only [NB, simprocAttr]))
    refine p8 sl.length 39 (fun i => [(20, .i i), (19, .i sl.length), (18, Af sl), (12, .i j), (11, .i l.length), (10, H0 l), (5, .ref (h.length + 1) (o ++ P6 (sl.take i)).length 0 3 (o ++ P6 (sl.take i)).length), (2, .ptr h.length 0 0)])
      (fun i => [some ⟨0, x8 ns fl⟩, some ⟨(o ++ P6 (sl.take i)).length, cLs (o ++ P6 (sl.take i))⟩]) (fun i => True) ?_ trivial fun i hi hp2 K hK => ?_
    · have e0 : o ++ P6 (sl.take 0) = o := by simp [P6]
      simp only [e0]
      refine ⟨rfl, ⟨_, rfl⟩, ?_, ⟨trivial, trivial, trivial⟩, U9 _ _, trivial⟩
      simp only [S1, simprocAttr, KNB] <;> (try and_intros) <;> (try assumption) <;> (try trivial) <;> (try omega)
    rcases Nat.lt_or_ge i sl.length with hlt2 | hge2
    · obtain ⟨y, hy⟩ : ∃ y, sl[i]? = some y := ⟨_, List.getElem?_eq_getElem hlt2⟩
      have hxy : (sl.map eMv)[i]? = some [.int .i64 y.node, .int .i64 y.arg, .int .i64 y.lk, .int .i64 y.ln, .int .i64 y.la] := by rw [List.getElem?_map, hy]; rfl
      have e2 := sC hy
      have hle := qH sl i
      have jl2 : (i : Int) < (sl.length : Int) := by omega
      have j02 : (0 : Int) ≤ (i : Int) := by omega
      have hnx2 : IntKind.i64.wrap ((i : Int) + 1) = ((i + 1 : Nat) : Int) := by rw [IntWalk.i64_in _ (by omega)]; omega
      have e3 : o ++ P6 (sl.take (i + 1)) = o ++ P6 (sl.take i) ++ if y.lk = 0 then [] else [P2 y] := by rw [e2, List.append_assoc]
      have hcap : (o ++ P6 (sl.take i)).length + 1 ≤ j7 := by rw [List.length_append]; unfold j7; omega
      generalize o ++ P6 (sl.take i) = acc at *
      have hacc := bc acc
      by_cases hc : y.lk = 0
      · have f0 : (y.lk != 0) = false := by simp [hc]
        rw [if_pos hc, List.append_nil] at e3
        repeat' (first | ((repeat ((fail_if_success (refine hK _ ?_)); clear hK K)); refine hK _ ?_; clear hK K) | ((first | refine b9 fun K1 q6 => ?_ | refine b7 fun A B hA hB => ?_); simp only [S1, simprocAttr, iC, jl2, j02, hnx2, hxy, f0, d7, d9, List.length_map]; first | refine q6 _ ?_; clear q6 K1 | ((first | refine hA ?_ | refine hB ?_); clear hA hB A B)) | refine b6 fun K hK => ?_ | ((first | apply b8 | apply b5 | apply c7 | apply c9); try simp only [NB, simprocAttr]))
        all_goals refine ⟨hlt2, trivial, ?_⟩
        all_goals simp only [e3]
        all_goals refine ⟨rfl, ⟨_, rfl⟩, ?_, ⟨trivial, trivial, trivial⟩, U9 _ _, trivial⟩
        all_goals simp only [S1, simprocAttr, KNB] <;> (try and_intros) <;> (try assumption) <;> (try trivial) <;> (try omega)
      · have f0 : (y.lk != 0) = true := by simp [hc]
        rw [if_neg hc] at e3
        have esn : cLs (acc ++ [P2 y]) = cLs acc ++ [.i y.lk, .i y.ln, .i y.la] := qG acc (P2 y)
        repeat' (first | ((repeat ((fail_if_success (refine hK _ ?_)); clear hK K)); refine hK _ ?_; clear hK K) | ((first | refine b9 fun K1 q6 => ?_ | refine b7 fun A B hA hB => ?_); simp only [S1, simprocAttr, iC, jl2, j02, hnx2, hxy, f0, hacc, hcap, d7, d9, List.length_map, Nat.mul_one]; first | refine q6 _ ?_; clear q6 K1 | (refine hA ?_; clear hA hB A B)) | refine b6 fun K hK => ?_ | ((first | apply b8 | apply b5 | apply c7 | apply c9); try simp only [NB, simprocAttr]))
        all_goals refine ⟨hlt2, trivial, ?_⟩
        all_goals simp only [e3, esn, List.length_append, List.length_cons, List.length_nil, Nat.zero_add]
        all_goals refine ⟨rfl, ⟨_, rfl⟩, ?_, ⟨trivial, trivial, trivial⟩, (by rw [← esn]; exact U9 _ _), trivial⟩
        all_goals simp only [S1, simprocAttr, KNB] <;> (try and_intros) <;> (try assumption) <;> (try trivial) <;> (try omega)
    · obtain rfl : i = sl.length := by omega
      rw [List.take_length, ← es]
      repeat' (first | ((repeat ((fail_if_success (refine hK _ ?_)); clear hK K)); refine hK _ ?_; clear hK K) | ((first | refine b9 fun K1 q6 => ?_ | refine b7 fun A B hA hB => ?_); simp only [S1, simprocAttr, iC, hnx, Int.lt_irrefl]; first | refine q6 _ ?_; clear q6 K1 | (refine hB ?_; clear hA hB A B)) | refine b6 fun K hK => ?_ | ((first | apply b8 | apply b5 | apply f9); try simp only [NB, simprocAttr]))
      all_goals refine ⟨hlt, trivial, ?_⟩
      all_goals refine ⟨rfl, ⟨_, rfl⟩, ?_, ⟨trivial, trivial, trivial⟩, U9 _ _, trivial⟩
      all_goals simp only [S1, simprocAttr, KNB] <;> (try and_intros) <;> (try assumption) <;> (try trivial) <;> (try omega)
  · obtain rfl : j = l.length := by omega
    rw [List.take_length]
    have hsm := xr (ns := ns) (fl := fl) h49
    have hol := kW ns fl l
    have hol : (L6 ns fl l).length ≤ 3750000 := by omega
    obtain ⟨o, ho⟩ : ∃ o, o = L6 ns fl l := ⟨_, rfl⟩
    rw [← ho] at hsm hol ⊢
    have hget : ∀ (A : Option Blk) (g : Nat) (m : List Lb), (h ++ [A, some ⟨g, cLs m⟩])[h.length + 1]? = some (some ⟨g, cLs m⟩) := fun A g m => by rw [n8]; rfl
    have hput : ∀ (A B : Option Blk) (g : Nat) (m : List Lb), bA (h ++ [A, B]) (h.length + 1) g m = h ++ [A, some ⟨g, cLs m⟩] := fun A B g m => by unfold bA; rw [Q9]; rfl
    have hlen : (ck o).length = o.length := (aW o).length_eq
    have hsrt := qM (G := gW) (l := o) (by omega) hsm (hget (some ⟨0, x8 ns fl⟩) o.length o)
    rw [hput] at hsrt
    have hcmp := lw (G := gW) (l := ck o) (by omega) (hget (some ⟨0, x8 ns fl⟩) o.length (ck o))
    rw [hput, hlen, uK] at hcmp
    repeat' (first | ((repeat ((fail_if_success (refine hK _ ?_)); clear hK K)); refine hK _ ?_; clear hK K) | ((first | refine b9 fun K1 q6 => ?_ | refine b7 fun A B hA hB => ?_); simp only [S1, simprocAttr, iC, Int.lt_irrefl]; first | refine q6 _ ?_; clear q6 K1 | (refine hB ?_; clear hA hB A B) | (apply d4 E39; exact hsrt; refine q6 _ ?_; clear q6 K1) | (apply d4 E41; exact hcmp; refine q6 _ ?_; clear q6 K1)) | refine b6 fun K hK => ?_ | ((first | apply b8 | apply b5 | apply f9 | apply d3); try simp only [NB, simprocAttr]))
    all_goals exact xo (b := h.length + 1) (g := o.length) (l := iq o) (rest := cLs (List.replicate (o.length - (iq o).length) (0, 0, 0))) (.inr rfl) rfl rfl (by simp only [s8, n8, List.getElem?_cons_succ, List.getElem?_cons_zero, if_true, jb]) (by omega) (by simp) (by simp) (by rw [ho])
end
section
def ns0 : List Nd := [⟨1, 0, .mk 0 0 []⟩, ⟨3, 0, .mk 0 0 []⟩, ⟨2, 0, .mk 0 0 []⟩]
def fl0 : List Fl := [⟨0, 1, false, .mk 0 0 []⟩, ⟨1, 2, false, .mk 0 0 []⟩]
theorem AU : P0 (C5 false fl0) 3 0 = [true, true, true] := (dH (by decide) (by decide)).symm.trans (by decide)
theorem AW : P0 (C5 true fl0) 3 2 = [true, true, true] := (dH (by decide) (by decide)).symm.trans (by decide)
theorem yV : (m9 ns0 1).toNat = 0 := by kernel_rfl
theorem yW : (m9 ns0 2).toNat = 2 := by kernel_rfl
theorem Ak : plF 4 (eP ns0 fl0) ns0.length = [] := by
  have h : ∀ i, i < 3 → eP ns0 fl0 i = false := by
    intro i hi
    have hl : ns0.length = 3 := rfl
    unfold eP
    rw [yV, yW, hl, AU, AW]
    match i, hi with
    | 0, _ => rfl
    | 1, _ => rfl
    | 2, _ => rfl
  unfold plF
  rw [List.map_eq_nil_iff, List.filter_eq_nil_iff]
  intro i hi
  rw [h i (by simpa [ns0] using hi)]
  decide
theorem yX : (A9 ns0 fl0).1 = 0 := by
  have p1 : plF 1 (Z3 ns0) ns0.length = [] := by kernel_rfl
  have p2 : plF 2 (Z4 ns0 fl0) fl0.length = [] := by kernel_rfl
  have p3 : G8 ns0 fl0 = [] := by kernel_rfl
  unfold A9 Z5
  rw [if_neg (by decide), if_neg (by rw [p1]; simp), if_neg (by rw [p2]; simp), if_neg (by rw [p3]; simp), Ak]
  rfl
def xt (S : Sv) : List Sp := if (if okS fl0.length S = true then (0 : Int) else 1) ≠ 0 ∨ mdS S ≠ 0 then [] else u0 ns0 fl0 S 3 ++ o7 ns0 S 4
theorem AX (S : Sv) : stC ns0 fl0 S = if okS fl0.length S = true then 0 else 1 := by unfold stC; rw [if_neg (by simpa using yX)]
theorem sE (S : Sv) : n7 ns0 fl0 S = xt S := by
  unfold n7
  rw [AX]
  rfl
def nxC (S : Sv) : List Sv := M5 (xt S) (0, 0, 0)
def jc (l : List Sv) : List Sv × Int := if (B4 nxC 1500 l).length ≤ 1500 then (B4 nxC 1500 l, 0) else ([], 5)
theorem tG (l : List Sv) : u5 ns0 fl0 l = jc l := by
  have e : nxW ns0 fl0 = nxC := funext fun S => by unfold nxW S9 nxC; rw [sE]
  unfold u5 jc
  rw [e]
def Sa0 : Sv := zS.set 0 1
def Sb0 : Sv := (zS.set 1 1).set 40 1
def Sc0 : Sv := (zS.set 40 1).set 48 1
theorem xu : z7 ns0 fl0 = ([Sa0], 0) := by
  have e : (s6 ns0 fl0).1 = Sa0 := by unfold s6; rw [if_neg (by simpa using yX)]; exact (by kernel_rfl : zS.set ((i7 fl0 (m9 ns0 1)).headD 0).toNat 1 = Sa0)
  unfold z7
  rw [if_neg (by simpa using yX), tG, e]
  exact (by kernel_rfl : jc [Sa0] = ([Sa0], 0))
theorem BI : iq (L6 ns0 fl0 [Sa0]) = [(1, 1, 0), (1, 1, 1)] := by
  unfold L6
  simp only [sE]
  kernel_rfl
theorem Al {S : Sv} (h : okS fl0.length S = true) : D2 ns0 fl0 [S] = 0 := by
  unfold D2
  rw [if_neg (by simpa using yX)]
  unfold Q8
  rw [AX, if_pos h]
  rfl
theorem sF {S : Sv} {x : Lb} {r : List Sv × Int} (h : okS fl0.length S = true) (hx : x.1 ≠ 0) (hr : jc ([S].flatMap fun s => M5 (xt s) x) = r) : r9 ns0 fl0 [S] x = r := by
  unfold r9 u9 S9
  rw [if_neg (by simp [Al h]), if_neg hx, tG]
  simp only [sE]
  exact hr
theorem AY : r9 ns0 fl0 [Sa0] (1, 1, 1) = ([Sb0], 0) := sF (by kernel_rfl) (by decide) (by kernel_rfl)
theorem AZ : r9 ns0 fl0 [Sb0] (7, 0, 0) = ([Sc0], 0) := sF (by kernel_rfl) (by decide) (by kernel_rfl)
theorem Ba : r9 ns0 fl0 [Sc0] (7, 0, 0) = ([], 0) := sF (by kernel_rfl) (by decide) (by kernel_rfl)
theorem yY : A4 ns0 fl0 [(1, 1, 1), (7, 0, 0), (7, 0, 0)] = (2, 0) := by
  unfold A4
  rw [xu]
  simp [bz, AY, AZ, Ba]
theorem sG : NetOk ns0 fl0 := by
  have h1 : ∀ k ∈ ns0, k.term = .mk 0 0 [] := by
    intro k hk
    simp only [ns0, List.mem_cons, List.not_mem_nil, or_false] at hk
    rcases hk with rfl | rfl | rfl <;> rfl
  have h2 : ∀ k ∈ fl0, k.cond = .mk 0 0 [] := by
    intro k hk
    simp only [fl0, List.mem_cons, List.not_mem_nil, or_false] at hk
    rcases hk with rfl | rfl <;> rfl
  have h3 : Tm.Ok 30 (.mk 0 0 []) := .mk _ _ (by decide) (fun k hk => by cases hk)
  exact ⟨by decide, by decide, ⟨30, by omega, fun k hk => by rw [h1 k hk]; exact h3⟩, ⟨30, by omega, fun k hk => by rw [h2 k hk]; exact h3⟩⟩
def zi := And.intro T2 (And.intro T3 (And.intro T4 (And.intro T22 (And.intro T23 (And.intro T25 (And.intro T26 (And.intro T28 (And.intro T31 (And.intro T34 (And.intro T41 (And.intro T44 (And.intro T57 (And.intro T58 (And.intro T62 (And.intro T65 (And.intro T73 (And.intro T75 (And.intro T77 (And.intro T80 (And.intro T82 (And.intro T89 T92)))))))))))))))))))))
attribute [local irreducible] awp n9 k3 l8 o6 n5
abbrev yZ : AV := .agg [.p (.sl [[.int .i64 1, .int .i64 0, .int .i64 0, .int .i64 0, .nils], [.int .i64 3, .int .i64 0, .int .i64 0, .int .i64 0, .nils], [.int .i64 2, .int .i64 0, .int .i64 0, .int .i64 0, .nils]]),
  .p (.sl [[.int .i64 0, .int .i64 1, .bool false, .int .i64 0, .int .i64 0, .nils], [.int .i64 1, .int .i64 2, .bool false, .int .i64 0, .int .i64 0, .nils]])]
theorem oz : bP yZ = G7 ns0 fl0 := by simp [R7, bP, nrm, V6, I5, ns0, fl0, eN, eF, Tm.op, Tm.n, Tm.kids]
theorem Am : bP (H0 [Sa0]) = H0 [Sa0] := by
  have h : ∀ l : List Int, V6 (l.map (PV.int .i64)) = l.map (PV.int .i64) := by
    intro l
    induction l with
    | nil => simp [V6]
    | cons x l ih => simp [V6, nrm, ih]
  simp [bP, nrm, I5, eSt, h]
theorem An (l : List Lb) : bP (aLs l) = aLs l := by
  have h : I5 (l.map eL) = l.map eL := by
    induction l with
    | nil => simp [I5]
    | cons x l ih => simp [I5, V6, nrm, eL, ih]
  simp [bP, nrm, h]
theorem iE (h : Heap) : d5 Tryz.prog gW 10 [] h (fun r h' => r = .b true ∧ h' = h) := by
  have s49 : D1 [Sa0] := fun t ht => by rw [List.mem_singleton] at ht; subst ht; rfl
  have hbg : ∀ h, d5 Tryz.prog gW 15 [yZ] h (fun r h' => r = .tup [H0 [Sa0], .i 0] ∧ h' = h) := fun h => by
    refine d5.nrm ?_
    have := iA sG h
    rw [xu] at this
    simpa only [R7, oz] using this
  have hlb : ∀ h, d5 Tryz.prog gW 19 [yZ, H0 [Sa0]] h (fun r h' => r = aLs [(1, 1, 0), (1, 1, 1)] ∧ h' = h) := fun h => by
    refine d5.nrm ?_
    have := oy sG s49 (by decide) h
    rw [BI] at this
    simpa only [R7, oz, Am] using this
  have hac : ∀ h, d5 Tryz.prog gW 20 [yZ, aLs [(1, 1, 1), (7, 0, 0), (7, 0, 0)]] h (fun r h' => r = .tup [.i 2, .i 0] ∧ h' = h) := fun h => by
    refine d5.nrm ?_
    have := Z7 sG (l := [(1, 1, 1), (7, 0, 0), (7, 0, 0)]) (by decide) h
    rw [yY] at this
    simpa only [R7, oz, An] using this
  generalize Sa0 = S at *
  refine c8 (rl := []) e9 Tryz.func10 rfl (rs := [.tmp 0]) rfl Tryz.ntmps10 (by simp) ?_
  repeat' (first | ((repeat ((fail_if_success (refine hK _ ?_)); clear hK K)); refine hK _ ?_; clear hK K) | (refine b9 fun K1 q6 => ?_; simp only [S1, simprocAttr, zi, List.length_map, eL, fx]; first | refine q6 _ ?_; clear q6 K1 | (apply d4 E15; exact (hbg _); refine q6 _ ?_; clear q6 K1) | (apply d4 E19; exact (hlb _); refine q6 _ ?_; clear q6 K1) | (apply d4 E20; exact (hac _); refine q6 _ ?_; clear q6 K1)) | refine b6 fun K hK => ?_ | ((first | apply b8 | apply b5 | apply d3); try simp only [NB, simprocAttr]))
  all_goals simp only [S1, simprocAttr, ENB, zi]
end
section
def dj := And.intro T2 (And.intro T3 (And.intro T4 (And.intro T70 (And.intro T72 (And.intro T73 T75)))))
attribute [local irreducible] awp n9 k3
variable {G : Nat → Option (List PV)}
mutual
def J3 : Tm → Int → Int → Bool × Int
  | .mk _ _ ks, d, n => if n - 1 < 0 ∨ 30 < d ∨ 10 < (ks.length : Int) then (true, n - 1) else A8 ks (d + 1) (n - 1)
def A8 : List Tm → Int → Int → Bool × Int
  | [], _, n => (false, n)
  | k :: r, d, n => if (J3 k d n).1 = true then J3 k d n else A8 r d (J3 k d n).2
end
theorem oA (t : Tm) (d n : Int) : J3 t d n = if n - 1 < 0 ∨ 30 < d ∨ 10 < (t.kids.length : Int) then (true, n - 1) else A8 t.kids (d + 1) (n - 1) := by
  cases t; rw [J3]; rfl
theorem fz : ∀ (a b : List Tm) (d n : Int), A8 (a ++ b) d n = if (A8 a d n).1 = true then A8 a d n else A8 b d (A8 a d n).2
  | [], b, d, n => by simp [A8]
  | k :: r, b, d, n => by
    simp only [List.cons_append, A8]
    by_cases h : (J3 k d n).1 = true
    · simp [h]
    · simp only [h, if_false]
      exact fz r b d _
theorem cL {l : List Tm} {i : Nat} {k : Tm} (hk : l[i]? = some k) {d n : Int} (hp : (A8 (l.take i) d n).1 = false) :
    A8 (l.take (i + 1)) d n = J3 k d (A8 (l.take i) d n).2 := by
  rw [List.take_add_one, hk, fz]
  simp only [hp, Bool.false_eq_true, if_false, Option.toList_some, A8]
  split
  · rfl
  · rename_i h
    have : (J3 k d (A8 (List.take i l) d n).2).1 = false := by simpa using h
    rw [Prod.ext_iff]; exact ⟨this.symm, rfl⟩
theorem gG {l : List Tm} {i : Nat} {k : Tm} (hk : l[i]? = some k) {d n : Int} (hp : (A8 (l.take i) d n).1 = false) (ht : (J3 k d (A8 (l.take i) d n).2).1 = true) :
    A8 l d n = J3 k d (A8 (l.take i) d n).2 := by
  have h := cL hk hp
  conv => lhs; rw [← List.take_append_drop (i + 1) l]
  rw [fz, h, if_pos ht]
theorem xv : ∀ t : Tm, ∀ d n : Int, 0 ≤ n → -1 ≤ (J3 t d n).2 ∧ (J3 t d n).2 ≤ n ∧ ((J3 t d n).1 = false → 0 ≤ (J3 t d n).2) := by
  intro t
  refine Tm.ind (p := fun t => ∀ d n : Int, 0 ≤ n → -1 ≤ (J3 t d n).2 ∧ (J3 t d n).2 ≤ n ∧ ((J3 t d n).1 = false → 0 ≤ (J3 t d n).2)) (fun t ih => ?_) t
  have hs : ∀ l : List Tm, (∀ k ∈ l, k ∈ t.kids) → ∀ d n : Int, 0 ≤ n → -1 ≤ (A8 l d n).2 ∧ (A8 l d n).2 ≤ n ∧ ((A8 l d n).1 = false → 0 ≤ (A8 l d n).2) := by
    intro l
    induction l with
    | nil => intro _ d n hn; simp [A8]; omega
    | cons k r ihr =>
      intro hm d n hn
      have h1 := ih k (hm k (by simp)) d n hn
      simp only [A8]
      split
      · exact h1
      · rename_i h
        have h2 := h1.2.2 (by simpa using h)
        have h3 := ihr (fun x hx => hm x (by simp [hx])) d _ h2
        exact ⟨by omega, by omega, h3.2.2⟩
  intro d n hn
  rw [oA]
  split
  · simp; omega
  · rename_i h
    have := hs t.kids (fun _ h => h) (d + 1) (n - 1) (by omega)
    exact ⟨by omega, by omega, this.2.2⟩
theorem gH {l : List Tm} {d n : Int} (hn : 0 ≤ n) : -1 ≤ (A8 l d n).2 ∧ (A8 l d n).2 ≤ n ∧ ((A8 l d n).1 = false → 0 ≤ (A8 l d n).2) := by
  induction l generalizing n with
  | nil => simp [A8]; omega
  | cons k r ih =>
    have h1 := xv k d n hn
    simp only [A8]
    split
    · exact h1
    · rename_i h
      have h2 := h1.2.2 (by simpa using h)
      have h3 := ih h2
      exact ⟨by omega, by omega, h3.2.2⟩
theorem Ao : ∀ t : Tm, ∀ d n : Int, (J3 t d n).1 = false → 1 ≤ d → Tm.Ok (31 - d).toNat t := by
  intro t
  refine Tm.ind (p := fun t => ∀ d n : Int, (J3 t d n).1 = false → 1 ≤ d → Tm.Ok (31 - d).toNat t) (fun t ih => ?_) t
  intro d n hf hd
  rw [oA] at hf
  split at hf
  · cases hf
  · rename_i h
    have hs : ∀ l : List Tm, ∀ d n : Int, (A8 l d n).1 = false → ∀ k ∈ l, ∃ m, (J3 k d m).1 = false := by
      intro l
      induction l with
      | nil => intro d n _ k hk; simp at hk
      | cons x r ihr =>
        intro d n hf k hk
        simp only [A8] at hf
        split at hf
        · rename_i h2; rw [h2] at hf; cases hf
        · rename_i h2
          rcases List.mem_cons.mp hk with rfl | hk
          · exact ⟨n, by simpa using h2⟩
          · exact ihr _ _ hf k hk
    have e : (31 - d).toNat = (31 - (d + 1)).toNat + 1 := by omega
    rw [e]
    refine .mk _ t (by omega) fun k hk => ?_
    obtain ⟨m, hm⟩ := hs _ _ _ hf k hk
    exact ih k hk _ _ hm (by omega)
theorem oB (t : Tm) : ∀ (d n : Int) (b g : Nat) (h : Heap), 0 ≤ n → n ≤ 3000 → 1 ≤ d → d ≤ 31 → h[b]? = some (rB g n) →
    d5 Tryz.prog G 29 [aT t, .ptr b g 0, .i d] h (fun r h' => r = .b (J3 t d n).1 ∧ h' = y3 h b (rB g (J3 t d n).2)) := by
  refine Tm.ind (p := fun t => ∀ (d n : Int) (b g : Nat) (h : Heap), 0 ≤ n → n ≤ 3000 → 1 ≤ d → d ≤ 31 → h[b]? = some (rB g n) →
    d5 Tryz.prog G 29 [aT t, .ptr b g 0, .i d] h (fun r h' => r = .b (J3 t d n).1 ∧ h' = y3 h b (rB g (J3 t d n).2))) (fun t ih => ?_) t
  intro d n b g h hn hn2 hd hd2 hb
  have hlt : b < h.length := (List.getElem?_eq_some_iff.mp hb).1
  have hself := ya hb
  have hw : IntKind.i64.wrap (n - 1) = n - 1 := IntWalk.i64_in _ (by omega)
  rw [oA]
  refine i3 (rl := []) e9 Tryz.func29 rfl (rs := [.tmp 6]) rfl Tryz.ntmps29 (by simp) ?_
  rw [← hself]
  by_cases hbig : n - 1 < 0 ∨ 30 < d ∨ 10 < (t.kids.length : Int)
  · rw [if_pos hbig]
    have f1 : ((decide (n - 1 < 0) || decide (30 < d)) || decide (10 < (t.kids.length : Int))) = true := by
      simp; omega
    repeat' (first | ((repeat ((fail_if_success (refine hK _ ?_)); clear hK K)); refine hK _ ?_; clear hK K) | ((first | refine b9 fun K1 q6 => ?_ | refine b7 fun A B hA hB => ?_); simp only [S1, simprocAttr, dj, f1, hw, List.length_map, dK hlt, jV hlt, bX, dL hlt, cA, cB, B3]; first | refine q6 _ ?_; clear q6 K1 | (refine hA ?_; clear hA hB A B) | (refine l6 (v := ?_) (fun hg q8 => ?_) ?_; rotate_left; (focus (try ((try simp only [BN] at hg); simp only [S1, simprocAttr, dj, f1, hw, List.length_map, dK hlt, jV hlt, bX, dL hlt, cA, cB, B3, hg] at q8 ⊢)); exact q8); refine q6 _ ?_; clear q6 K1)) | refine b6 fun K hK => ?_ | ((first | apply b8 | apply b5 | apply d3); try simp only [NB, simprocAttr]))
    all_goals simp only [A0, y7, Q3, Q2, I4, F8, E6, G4, pur, L4, B3, nQ, jW, ww, S1, simprocAttr, dj, Nat.le_add_right, Nat.le_refl]
    all_goals first | exact O4 | exact ⟨O4, rfl⟩ | exact ⟨O4, rfl, rfl⟩
  · rw [if_neg hbig]
    have f1 : ((decide (n - 1 < 0) || decide (30 < d)) || decide (10 < (t.kids.length : Int))) = false := by
      simp; omega
    have hkl : t.kids.length ≤ 100 := by omega
    have hm0 : 0 ≤ n - 1 := by omega
    have hd3 : IntKind.i64.wrap (d + 1) = d + 1 := IntWalk.i64_in _ (by omega)
    let m := fun i => (A8 (t.kids.take i) (d + 1) (n - 1)).2
    refine b6 fun K hK => ?_
    repeat' (first | ((repeat ((fail_if_success (refine hK _ ?_)); clear hK K)); refine hK _ ?_; clear hK K) | ((first | refine b9 fun K1 q6 => ?_ | refine b7 fun A B hA hB => ?_); simp only [S1, simprocAttr, dj, f1, hw, List.length_map, dK hlt, jV hlt, bX, dL hlt, cA, cB, B3]; first | refine q6 _ ?_; clear q6 K1 | (refine hB ?_; clear hA hB A B) | (refine l6 (v := ?_) (fun hg q8 => ?_) ?_; rotate_left; (focus (try ((try simp only [BN] at hg); simp only [S1, simprocAttr, dj, f1, hw, List.length_map, dK hlt, jV hlt, bX, dL hlt, cA, cB, B3, hg] at q8 ⊢)); exact q8); refine q6 _ ?_; clear q6 K1)) | refine b6 fun K hK => ?_ | ((first | apply b8 | apply b5 | apply c7 | apply c9); try simp only [NB, simprocAttr]))
    refine R5 t.kids.length 45 (fun i => y3 h b (rB g (m i))) (fun i => [(35, .i i), (34, .i t.kids.length), (33, .p (.sl (t.kids.map eT))), (1, .ptr b g 0), (2, .i d)]) (fun i => []) (fun i => (A8 (t.kids.take i) (d + 1) (n - 1)).1 = false)
      (fun i => ⟨by rw [B3, B3], ti⟩) ?_ (by simp [A8]) fun i hi hp K hK => ?_
    · have e0 : m 0 = n - 1 := by simp [m, A8]
      simp only [e0]
      refine ⟨rfl, ⟨_, rfl⟩, ?_, ?_⟩
      · simp [K4, s7, G5, B3]; omega
      · simp [B9]
    rcases Nat.lt_or_ge i t.kids.length with hlti | hge
    · obtain ⟨k, hx⟩ : ∃ k, t.kids[i]? = some k := ⟨_, List.getElem?_eq_getElem hlti⟩
      have hmem := List.mem_of_getElem? hx
      have hmi : 0 ≤ m i ∧ m i ≤ n - 1 := by
        have := gH (l := t.kids.take i) (d := d + 1) hm0
        exact ⟨this.2.2 hp, this.2.1⟩
      have hr : ∀ L : Heap, d5 Tryz.prog G 29 [aT k, .ptr b g 0, .i (d + 1)] (y3 h b (rB g (m i)) ++ L) (fun r h' => r = .b (J3 k (d + 1) (m i)).1 ∧ h' = y3 h b (rB g (J3 k (d + 1) (m i)).2) ++ L) := fun L => by
        have := ih k hmem (d + 1) (m i) b g (y3 h b (rB g (m i)) ++ L) hmi.1 (by omega) (by omega) (by omega) (dK hlt L)
        rwa [zN L hlt] at this
      cases hb1 : (J3 k (d + 1) (m i)).1 with
      | false =>
        rw [hb1] at hr
        have hs := cL hx hp
        repeat' (first | ((repeat ((fail_if_success (refine hK _ ?_)); clear hK K)); refine hK _ ?_; clear hK K) | ((first | refine b9 fun K1 q6 => ?_ | refine b7 fun A B hA hB => ?_); simp only [S1, simprocAttr, dj, dD hx, cu hlti, ag hkl hlti, p9, hd3, List.length_map, dK hlt, jV hlt, bX, dL hlt, cA, cB, B3, tg, th]; first | refine q6 _ ?_; clear q6 K1 | ((first | refine hA ?_ | refine hB ?_); clear hA hB A B) | (apply d4 E29; exact (hr _); refine q6 _ ?_; clear q6 K1)) | refine b6 fun K hK => ?_ | ((first | apply b8 | apply b5 | apply c7 | apply c9); try simp only [NB, simprocAttr]))
        refine ⟨hlti, by rw [hs]; exact hb1, ?_⟩
        have em : m (i + 1) = (J3 k (d + 1) (m i)).2 := by simp only [m, hs]
        rw [em]
        refine ⟨rfl, ⟨_, rfl⟩, ?_, ?_⟩
        · simp [K4, s7, G5, frL, B3]; omega
        · simp [B9]
      | true =>
        rw [hb1] at hr
        have hs := gG hx hp hb1
        repeat' (first | ((repeat ((fail_if_success (refine hK _ ?_)); clear hK K)); refine hK _ ?_; clear hK K) | ((first | refine b9 fun K1 q6 => ?_ | refine b7 fun A B hA hB => ?_); simp only [S1, simprocAttr, dj, dD hx, cu hlti, ag hkl hlti, p9, hd3, List.length_map, dK hlt, jV hlt, bX, dL hlt, cA, cB, B3, tg, th]; first | refine q6 _ ?_; clear q6 K1 | (refine hA ?_; clear hA hB A B) | (apply d4 E29; exact (hr _); refine q6 _ ?_; clear q6 K1)) | refine b6 fun K hK => ?_ | ((first | apply b8 | apply b5 | apply c7 | apply c9 | apply d3); try simp only [NB, simprocAttr]))
        rw [hs, hb1]
        simp only [A0, y7, Q3, Q2, I4, F8, E6, G4, pur, L4, B3, nQ, jW, ww, S1, simprocAttr, dj, Nat.le_add_right, Nat.le_refl]
        first | exact O4 | exact ⟨O4, rfl⟩ | exact ⟨O4, rfl, rfl⟩
    · obtain rfl : i = t.kids.length := by omega
      repeat' (first | ((repeat ((fail_if_success (refine hK _ ?_)); clear hK K)); refine hK _ ?_; clear hK K) | ((first | refine b9 fun K1 q6 => ?_ | refine b7 fun A B hA hB => ?_); simp only [S1, simprocAttr, dj, iU]; first | refine q6 _ ?_; clear q6 K1 | (refine hB ?_; clear hA hB A B)) | refine b6 fun K hK => ?_ | ((first | apply b8 | apply b5 | apply f9 | apply d3); try simp only [NB, simprocAttr]))
      have e : t.kids.take t.kids.length = t.kids := List.take_length
      rw [e] at hp
      have em : m t.kids.length = (A8 t.kids (d + 1) (n - 1)).2 := by simp only [m, e]
      rw [em, hp]
      simp only [A0, y7, Q3, Q2, I4, F8, E6, G4, pur, L4, B3, nQ, jW, ww, S1, simprocAttr, dj, Nat.le_add_right, Nat.le_refl]
      first | exact O4 | exact ⟨O4, rfl⟩ | exact ⟨O4, rfl, rfl⟩
end
section
def Y8 := And.intro T2 (And.intro T3 (And.intro T4 (And.intro T22 (And.intro T23 (And.intro T25 (And.intro T70 (And.intro T72 (And.intro T73 (And.intro T75 (And.intro T77 T80))))))))))
attribute [local irreducible] awp n9 k3 l8 o6 n5
variable {G : Nat → Option (List PV)}
theorem xw {l : List Tm} : ∀ {d n : Int}, 1 ≤ d → (A8 l d n).1 = false → ∀ k ∈ l, Tm.Ok (31 - d).toNat k := by
  induction l with
  | nil => intro d n _ _ k hk; simp at hk
  | cons x r ih =>
    intro d n hd hf k hk
    simp only [A8] at hf
    split at hf
    · rename_i h2; rw [h2] at hf; cases hf
    · rename_i h2
      rcases List.mem_cons.mp hk with rfl | hk
      · exact Ao _ _ _ (by simpa using h2) hd
      · exact ih hd hf k hk
def Y9 (ns : List Nd) : Nat := ns.countP fun k => k.kind == 6
theorem ve {ns : List Nd} {j : Nat} {k : Nd} (h : ns[j]? = some k) : Y9 (ns.take (j + 1)) = Y9 (ns.take j) + if k.kind = 6 then 1 else 0 := by
  unfold Y9
  rw [List.take_add_one, h, List.countP_append]
  by_cases e : k.kind = 6 <;> simp [e]
theorem za (ns : List Nd) : Y9 ns ≤ ns.length := List.countP_le_length
def bd (ns : List Nd) (fl : List Fl) : Bool := (decide (25 < (ns.length : Int)) || decide (41 < (fl.length : Int))) || ((A8 (O5 ns fl) 1 400).1 || decide (4 < (Y9 ns : Int)))
theorem mN {ns : List Nd} {fl : List Fl} (h : bd ns fl = false) : NetOk ns fl := by
  unfold bd at h
  simp only [Bool.or_eq_false_iff, decide_eq_false_iff_not] at h
  obtain ⟨⟨h1, h2⟩, h3, h4⟩ := h
  have ha := xw (by omega) h3
  refine ⟨by omega, by omega, ⟨30, by omega, fun k hk => ha _ ?_⟩, ⟨30, by omega, fun k hk => ha _ ?_⟩⟩
  · unfold O5; exact List.mem_append_left _ (List.mem_map.mpr ⟨k, hk, rfl⟩)
  · unfold O5; exact List.mem_append_right _ (List.mem_map.mpr ⟨k, hk, rfl⟩)
theorem qN (k : Tm) (n : Int) (hn : 0 ≤ n) (hn2 : n ≤ 3000) (h : Heap) (A : Option Blk) (L : Heap) :
    d5 Tryz.prog G 29 [aT k, .ptr (h.length + 1) 0 0, .i 1] (h ++ (A :: some ⟨0, [.i n]⟩ :: L)) (fun r h' => r = .b (J3 k 1 n).1 ∧ h' = h ++ (A :: some ⟨0, [.i (J3 k 1 n).2]⟩ :: L)) := by
  have := oB (G := G) k 1 n (h.length + 1) 0 (h ++ (A :: some ⟨0, [.i n]⟩ :: L)) hn hn2 (by omega) (by omega) (by simp [n8])
  simpa only [y3, Q9, List.set_cons_succ, List.set_cons_zero] using this
theorem fA (ns : List Nd) (fl : List Fl) (h : Heap) : d5 Tryz.prog G 9 [G7 ns fl] h (fun r h' => r = .b (bd ns fl) ∧ h' = h) := by
  cases hsz : (decide (25 < (ns.length : Int)) || decide (41 < (fl.length : Int))) with
  | true =>
    have e : bd ns fl = true := by unfold bd; rw [hsz]; rfl
    rw [e]
    refine c8 (rl := []) e9 Tryz.func9 rfl (rs := [.tmp 2]) rfl Tryz.ntmps9 (by simp) ?_
    repeat' (first | ((repeat ((fail_if_success (refine hK _ ?_)); clear hK K)); refine hK _ ?_; clear hK K) | ((first | refine b9 fun K1 q6 => ?_ | refine b7 fun A B hA hB => ?_); simp only [S1, simprocAttr, Y8, List.length_map, hsz]; first | refine q6 _ ?_; clear q6 K1 | (refine hA ?_; clear hA hB A B) | (refine l6 (v := ?_) (fun hg q8 => ?_) ?_; rotate_left; (focus (try ((try simp only [BN] at hg); simp only [S1, simprocAttr, Y8, List.length_map, hsz, hg] at q8 ⊢)); exact q8); refine q6 _ ?_; clear q6 K1)) | refine b6 fun K hK => ?_ | ((first | apply b8 | apply b5 | apply d3); try simp only [NB, simprocAttr]))
    all_goals simp only [S1, simprocAttr, ENB, Y8]
  | false =>
    have e : bd ns fl = ((A8 (O5 ns fl) 1 400).1 || decide (4 < (Y9 ns : Int))) := by unfold bd; rw [hsz]; rfl
    have hn : ns.length ≤ 100 := by simp at hsz; omega
    have hl : fl.length ≤ 100 := by simp at hsz; omega
    rw [e]
    let m := fun j => (A8 ((ns.map (·.term)).take j) 1 400)
    let m2 := fun j => (A8 (ns.map (·.term) ++ (fl.map (·.cond)).take j) 1 400)
    refine c8 (rl := []) e9 Tryz.func9 rfl (rs := [.tmp 2]) rfl Tryz.ntmps9 (by simp) ?_
    repeat' (first | ((repeat ((fail_if_success (refine hK _ ?_)); clear hK K)); refine hK _ ?_; clear hK K) | ((first | refine b9 fun K1 q6 => ?_ | refine b7 fun A B hA hB => ?_); simp only [S1, simprocAttr, Y8, List.length_map, hsz]; first | refine q6 _ ?_; clear q6 K1 | (refine hB ?_; clear hA hB A B) | (refine l6 (v := ?_) (fun hg q8 => ?_) ?_; rotate_left; (focus (try ((try simp only [BN] at hg); simp only [S1, simprocAttr, Y8, List.length_map, hsz, hg] at q8 ⊢)); exact q8); refine q6 _ ?_; clear q6 K1)) | refine b6 fun K hK => ?_ | ((first | apply b8 | apply b5 | apply c7 | apply c9); try simp only [NB, simprocAttr]))
    refine p8 ns.length 52 (fun j => [(24, .i j), (23, .i ns.length), (22, .p (.sl (ns.map eN))), (4, .i (Y9 (ns.take j))), (3, .ptr (h.length + 1) 0 0), (1, .ptr h.length 0 0)])
      (fun j => [some ⟨0, x8 ns fl⟩, some ⟨0, [.i (m j).2]⟩]) (fun j => (m j).1 = false) ?_ (by simp [m, A8]) fun j hj hp K hK => ?_
    · have e0 : (m 0).2 = 400 := by simp [m, A8]
      simp only [e0]
      (refine ⟨rfl, (by first | exact ⟨_, rfl⟩ | exact ⟨[], by simp⟩), ?_, ?_⟩ <;> simp only [S1, simprocAttr, KNB] <;> (try and_intros) <;> (try assumption) <;> (try trivial) <;> (try omega))
    rcases Nat.lt_or_ge j ns.length with hlt | hge
    · obtain ⟨k, hx⟩ : ∃ k, ns[j]? = some k := ⟨_, List.getElem?_eq_getElem hlt⟩
      have hx2 : (ns.map (·.term))[j]? = some k.term := by simp [hx]
      have hr := gH (l := (ns.map (·.term)).take j) (d := 1) (n := 400) (by omega)
      have hd := fun A L => qN (G := G) k.term (m j).2 (hr.2.2 hp) (by have := hr.2.1; show (A8 _ _ _).2 ≤ 3000; omega) h A L
      have hal := za (ns.take j)
      rw [List.length_take] at hal
      have hna : IntKind.i64.wrap ((Y9 (ns.take j) : Int) + 1) = ((Y9 (ns.take j) + 1 : Nat) : Int) := by rw [IntWalk.i64_in _ (by omega)]; omega
      have h6 := ve hx
      rcases (show ((k.kind == 6) = true ∧ Y9 (ns.take (j + 1)) = Y9 (ns.take j) + 1) ∨ ((k.kind == 6) = false ∧ Y9 (ns.take (j + 1)) = Y9 (ns.take j)) by
        by_cases e : k.kind = 6
        · rw [if_pos e] at h6; exact .inl ⟨by simp [e], h6⟩
        · rw [if_neg e] at h6; exact .inr ⟨by simp [e], h6⟩) with ⟨e6, ea⟩ | ⟨e6, ea⟩
      all_goals
        cases hq : (J3 k.term 1 (m j).2).1 with
        | false =>
          have hs := cL hx2 hp
          rw [hq] at hd
          repeat' (first | ((repeat ((fail_if_success (refine hK _ ?_)); clear hK K)); refine hK _ ?_; clear hK K) | ((first | refine b9 fun K1 q6 => ?_ | refine b7 fun A B hA hB => ?_); simp only [S1, simprocAttr, Y8, e6, hna, I2 hx, W9 hlt, K5 hn hlt, eN, List.length_map]; first | refine q6 _ ?_; clear q6 K1 | ((first | refine hA ?_ | refine hB ?_); clear hA hB A B) | (apply d4 E29; exact (hd _ _); refine q6 _ ?_; clear q6 K1)) | refine b6 fun K hK => ?_ | ((first | apply b8 | apply b5 | apply c7 | apply c9); try simp only [NB, simprocAttr]))
          refine ⟨hlt, by show (A8 _ _ _).1 = false; rw [hs]; exact hq, ?_⟩
          have em : m (j + 1) = J3 k.term 1 (m j).2 := hs
          rw [em, ea]
          (refine ⟨rfl, (by first | exact ⟨_, rfl⟩ | exact ⟨[], by simp⟩), ?_, ?_⟩ <;> simp only [S1, simprocAttr, KNB] <;> (try and_intros) <;> (try assumption) <;> (try trivial) <;> (try omega))
        | true =>
          have hs : (A8 (O5 ns fl) 1 400).1 = true := by
            unfold O5
            rw [fz, gG hx2 hp hq, if_pos hq]; exact hq
          rw [hq] at hd
          repeat' (first | ((repeat ((fail_if_success (refine hK _ ?_)); clear hK K)); refine hK _ ?_; clear hK K) | ((first | refine b9 fun K1 q6 => ?_ | refine b7 fun A B hA hB => ?_); simp only [S1, simprocAttr, Y8, e6, hna, I2 hx, W9 hlt, K5 hn hlt, eN, List.length_map]; first | refine q6 _ ?_; clear q6 K1 | ((first | refine hA ?_ | refine hB ?_); clear hA hB A B) | (apply d4 E29; exact (hd _ _); refine q6 _ ?_; clear q6 K1)) | refine b6 fun K hK => ?_ | ((first | apply b8 | apply b5 | apply c7 | apply c9 | apply d3); try simp only [NB, simprocAttr]))
          all_goals simp only [S1, simprocAttr, ENB, Y8]
          all_goals (rw [hs]; first | done | rfl)
    obtain rfl : j = ns.length := by omega
    have ef : (ns.map (·.term)).take ns.length = ns.map (·.term) := List.take_of_length_le (by simp)
    have ean : ns.take ns.length = ns := List.take_length
    have hp0 : (A8 (ns.map (·.term)) 1 400).1 = false := by have := hp; simp only [m, ef] at this; exact this
    have m0 : m2 0 = m ns.length := by simp only [m, m2, ef, List.take_zero, List.append_nil]
    rw [ean]
    repeat' (first | ((repeat ((fail_if_success (refine hK _ ?_)); clear hK K)); refine hK _ ?_; clear hK K) | ((first | refine b9 fun K1 q6 => ?_ | refine b7 fun A B hA hB => ?_); simp only [S1, simprocAttr, Y8, dG, List.length_map]; first | refine q6 _ ?_; clear q6 K1 | (refine hB ?_; clear hA hB A B)) | refine b6 fun K hK => ?_ | ((first | apply b8 | apply b5 | apply c7 | apply f9); try simp only [NB, simprocAttr]))
    refine p8 fl.length 52 (fun j => [(41, .i j), (40, .i fl.length), (39, .p (.sl (fl.map eF))), (4, .i (Y9 ns)), (3, .ptr (h.length + 1) 0 0), (1, .ptr h.length 0 0)])
      (fun j => [some ⟨0, x8 ns fl⟩, some ⟨0, [.i (m2 j).2]⟩]) (fun j => (m2 j).1 = false) ?_ (by rw [m0]; exact hp) fun j hj hp K hK => ?_
    · simp only [m0]
      (refine ⟨rfl, (by first | exact ⟨_, rfl⟩ | exact ⟨[], by simp⟩), ?_, ?_⟩ <;> simp only [S1, simprocAttr, KNB] <;> (try and_intros) <;> (try assumption) <;> (try trivial) <;> (try omega))
    rcases Nat.lt_or_ge j fl.length with hlt | hge
    · obtain ⟨k, hx⟩ : ∃ k, fl[j]? = some k := ⟨_, List.getElem?_eq_getElem hlt⟩
      have hx2 : (O5 ns fl)[ns.length + j]? = some k.cond := by
        unfold O5
        rw [List.getElem?_append_right (by simp)]
        simp [hx]
      have et : ∀ i, i ≤ fl.length → (O5 ns fl).take (ns.length + i) = ns.map (·.term) ++ (fl.map (·.cond)).take i := by
        intro i hi
        unfold O5
        have : ns.length = (ns.map (·.term)).length := by simp
        rw [this, List.take_length_add_append]
      have hp' : (A8 ((O5 ns fl).take (ns.length + j)) 1 400).1 = false := by rw [et j hj]; exact hp
      have em2 : (A8 ((O5 ns fl).take (ns.length + j)) 1 400) = m2 j := by rw [et j hj]
      have hr := gH (l := ns.map (·.term) ++ (fl.map (·.cond)).take j) (d := 1) (n := 400) (by omega)
      have hd := fun A L => qN (G := G) k.cond (m2 j).2 (hr.2.2 hp) (by have := hr.2.1; show (A8 _ _ _).2 ≤ 3000; omega) h A L
      cases hq : (J3 k.cond 1 (m2 j).2).1 with
      | false =>
        have hs := cL hx2 hp'
        rw [em2] at hs
        have em : m2 (j + 1) = J3 k.cond 1 (m2 j).2 := by
          rw [← hs, Nat.add_assoc, et (j + 1) hlt]
        rw [hq] at hd
        repeat' (first | ((repeat ((fail_if_success (refine hK _ ?_)); clear hK K)); refine hK _ ?_; clear hK K) | ((first | refine b9 fun K1 q6 => ?_ | refine b7 fun A B hA hB => ?_); simp only [S1, simprocAttr, Y8, U6 hx, cN hlt, T5 hl hlt, eF, List.length_map]; first | refine q6 _ ?_; clear q6 K1 | ((first | refine hA ?_ | refine hB ?_); clear hA hB A B) | (apply d4 E29; exact (hd _ _); refine q6 _ ?_; clear q6 K1)) | refine b6 fun K hK => ?_ | ((first | apply b8 | apply b5 | apply c7 | apply c9); try simp only [NB, simprocAttr]))
        refine ⟨hlt, by rw [em]; exact hq, ?_⟩
        rw [em]
        (refine ⟨rfl, (by first | exact ⟨_, rfl⟩ | exact ⟨[], by simp⟩), ?_, ?_⟩ <;> simp only [S1, simprocAttr, KNB] <;> (try and_intros) <;> (try assumption) <;> (try trivial) <;> (try omega))
      | true =>
        have hs : (A8 (O5 ns fl) 1 400).1 = true := by
          rw [gG hx2 hp' (by rw [em2]; exact hq), em2]; exact hq
        rw [hq] at hd
        repeat' (first | ((repeat ((fail_if_success (refine hK _ ?_)); clear hK K)); refine hK _ ?_; clear hK K) | ((first | refine b9 fun K1 q6 => ?_ | refine b7 fun A B hA hB => ?_); simp only [S1, simprocAttr, Y8, U6 hx, cN hlt, T5 hl hlt, eF, List.length_map]; first | refine q6 _ ?_; clear q6 K1 | (refine hA ?_; clear hA hB A B) | (apply d4 E29; exact (hd _ _); refine q6 _ ?_; clear q6 K1)) | refine b6 fun K hK => ?_ | ((first | apply b8 | apply b5 | apply c7 | apply c9 | apply d3); try simp only [NB, simprocAttr]))
        all_goals simp only [S1, simprocAttr, ENB, Y8]
        all_goals (rw [hs]; first | done | rfl)
    obtain rfl : j = fl.length := by omega
    have ef2 : (fl.map (·.cond)).take fl.length = fl.map (·.cond) := List.take_of_length_le (by simp)
    have hs : (A8 (O5 ns fl) 1 400).1 = false := by have := hp; simp only [m2, ef2] at this; exact this
    repeat' (first | ((repeat ((fail_if_success (refine hK _ ?_)); clear hK K)); refine hK _ ?_; clear hK K) | ((first | refine b9 fun K1 q6 => ?_ | refine b7 fun A B hA hB => ?_); simp only [S1, simprocAttr, Y8, rz]; first | refine q6 _ ?_; clear q6 K1 | (refine hB ?_; clear hA hB A B)) | refine b6 fun K hK => ?_ | ((first | apply b8 | apply b5 | apply f9 | apply d3); try simp only [NB, simprocAttr]))
    all_goals simp only [S1, simprocAttr, ENB, Y8]
    all_goals (rw [hs]; first | done | rfl)
end
section
def mO := And.intro T2 (And.intro T3 (And.intro T4 (And.intro T25 (And.intro T26 (And.intro T28 (And.intro T31 (And.intro T41 (And.intro T44 (And.intro T57 (And.intro T58 T82))))))))))
attribute [local irreducible] awp n9 k3 l8 o6 n5
theorem xx {fuel : Nat} {xs : List PV} (h : Ty Tryz.prog fuel 28 xs) : ∃ x : Lb, xs = eL x := by
  obtain ⟨m, rows, e, hl, rfl, hf⟩ := ai T28 h
  match rows, hl with
  | [r0, r1, r2], _ =>
    have h0 : Ty Tryz.prog m 3 r0 := hf 0 _ r0 rfl rfl
    have h1 : Ty Tryz.prog m 3 r1 := hf 1 _ r1 rfl rfl
    have h2 : Ty Tryz.prog m 3 r2 := hf 2 _ r2 rfl rfl
    obtain ⟨o, _, rfl⟩ := Z6 T3 h0
    obtain ⟨n, _, rfl⟩ := Z6 T3 h1
    obtain ⟨q, _, rfl⟩ := Z6 T3 h2
    exact ⟨(o, n, q), by simp [eL]⟩
theorem zb {fuel : Nat} {xs : List PV} (h : Ty Tryz.prog fuel 44 xs) : ∃ l : List Lb, jY Tryz.prog 44 xs = aLs l := by
  obtain ⟨m, rows, _, rfl, hr⟩ := bZ T44 h
  obtain ⟨l, rfl⟩ := iY (fun row hrow => xx hrow) rows hr
  exact ⟨l, by rw [nS T44]; simp [TI.isAgg]⟩
theorem oC (ns : List Nd) (fl : List Fl) (l : List Lb) (h : Heap) : d5 Tryz.prog gW 5 [G7 ns fl, aLs l] h (fun r h' => r = .b true ∧ h' = h) := by
  have hline := fun h => iE h
  have hlg := fun h => fA (G := gW) ns fl h
  cases hl : bd ns fl with
  | true =>
    rw [hl] at hlg
    refine c8 (rl := []) e9 Tryz.func5 rfl (rs := [.tmp 4]) rfl Tryz.ntmps5 (by simp) ?_
    repeat' (first | ((repeat ((fail_if_success (refine hK _ ?_)); clear hK K)); refine hK _ ?_; clear hK K) | ((first | refine b9 fun K1 q6 => ?_ | refine b7 fun A B hA hB => ?_); simp only [S1, simprocAttr, mO, List.length_map]; first | refine q6 _ ?_; clear q6 K1 | (refine hA ?_; clear hA hB A B) | (apply d4 E9; exact (hlg _); refine q6 _ ?_; clear q6 K1) | (apply d4 E10; exact (hline _); refine q6 _ ?_; clear q6 K1)) | refine b6 fun K hK => ?_ | ((first | apply b8 | apply b5 | apply d3); try simp only [NB, simprocAttr]))
    all_goals simp only [S1, simprocAttr, ENB, mO]
  | false =>
  rw [hl] at hlg
  have nk := mN hl
  by_cases h12 : l.length ≤ 12
  case neg =>
    have f12 : decide (12 < (l.length : Int)) = true := decide_eq_true (by omega)
    refine c8 (rl := []) e9 Tryz.func5 rfl (rs := [.tmp 4]) rfl Tryz.ntmps5 (by simp) ?_
    repeat' (first | ((repeat ((fail_if_success (refine hK _ ?_)); clear hK K)); refine hK _ ?_; clear hK K) | ((first | refine b9 fun K1 q6 => ?_ | refine b7 fun A B hA hB => ?_); simp only [S1, simprocAttr, mO, f12, List.length_map]; first | refine q6 _ ?_; clear q6 K1 | (refine hA ?_; clear hA hB A B) | (apply d4 E9; exact (hlg _); refine q6 _ ?_; clear q6 K1) | (apply d4 E10; exact (hline _); refine q6 _ ?_; clear q6 K1)) | refine b6 fun K hK => ?_ | ((first | apply b8 | apply b5 | apply d3); try simp only [NB, simprocAttr]))
    all_goals simp only [S1, simprocAttr, ENB, mO]
  have f12 : decide (12 < (l.length : Int)) = false := decide_eq_false (by omega)
  have h1 := fun h => Z7 nk (l := l) (by omega) h
  have h2 := fun h => kR nk (l := l) (by omega) h
  have beqI' : ∀ x : Int, (x == x) = true := fun x => by simp
  refine c8 (rl := []) e9 Tryz.func5 rfl (rs := [.tmp 4]) rfl Tryz.ntmps5 (by simp) ?_
  repeat' (first | ((repeat ((fail_if_success (refine hK _ ?_)); clear hK K)); refine hK _ ?_; clear hK K) | ((first | refine b9 fun K1 q6 => ?_ | refine b7 fun A B hA hB => ?_); simp only [S1, simprocAttr, mO, f12, beqI', List.length_map]; first | refine q6 _ ?_; clear q6 K1 | (refine hB ?_; clear hA hB A B) | (apply d4 E9; exact (hlg _); refine q6 _ ?_; clear q6 K1) | (apply d4 E20; exact (h1 _); refine q6 _ ?_; clear q6 K1) | (apply d4 E21; exact (h2 _); refine q6 _ ?_; clear q6 K1) | (apply d4 E10; exact (hline _); refine q6 _ ?_; clear q6 K1)) | refine b6 fun K hK => ?_ | ((first | apply b8 | apply b5 | apply c9 | apply d3); try simp only [NB, simprocAttr]))
  all_goals simp only [S1, simprocAttr, ENB, mO]
theorem trailaccepts_given (xss : List (List PV)) (hl : xss.length = [25, 44].length) (ht : ∀ (j : Nat) t xs, [25, 44][j]? = some t → xss[j]? = some xs → ∃ fuel, Ty Tryz.prog fuel t xs) :
    d5 Tryz.prog gW 5 (List.zipWith (jY Tryz.prog) [25, 44] xss) [] fun r h' => r = .b true ∧ h' = [] := by
  match xss, hl, ht with
  | [x0, x1], _, ht =>
    obtain ⟨_, h0⟩ := ht 0 25 x0 rfl rfl
    obtain ⟨_, h1⟩ := ht 1 44 x1 rfl rfl
    obtain ⟨ns, fl, e0⟩ := tl h0
    obtain ⟨l, e1⟩ := zb h1
    simp only [List.zipWith_cons_cons, List.zipWith_nil_left, e0, e1]
    exact oC ns fl l []
end
section
def LbH (y : Sp) : Prop := y.lk = 0 → y.ln = 0 ∧ y.la = 0
theorem tH {n a : Int} {S : List Int} : LbH ⟨n, a, 0, 0, 0, S⟩ := fun _ => ⟨rfl, rfl⟩
theorem fB {n a k l c : Int} {S : List Int} (h : k ≠ 0) : LbH ⟨n, a, k, l, c, S⟩ := fun e => absurd e h
theorem J4 {S : List Int} {x : Sp} {fr to : List Int} (hx : LbH x) : ∀ y ∈ m8 S x fr to, LbH y := by
  intro y hy
  unfold m8 at hy
  split at hy
  · cases hy
  · split at hy
    · cases hy
    · rw [List.mem_singleton] at hy; subst hy; exact hx
theorem mP {ns : List Nd} {fl : List Fl} {S : List Int} {node arg c : Int} (fr : List Int) : ∀ y ∈ r5 ns fl S node arg c fr, LbH y := by
  intro y hy
  unfold r5 at hy
  split at hy
  · split at hy
    · cases hy
    · exact J4 (fB (by decide)) y hy
  · exact J4 (fB (by decide)) y hy
theorem xy {ns : List Nd} {fl : List Fl} {S : List Int} {i : Nat} {k : Nd} : ∀ y ∈ m7 ns fl S i k, LbH y := by
  intro y hy
  unfold m7 at hy
  split at hy
  · unfold ci at hy
    split at hy
    · exact J4 (fB (by decide)) y hy
    · exact J4 tH y hy
  split at hy
  · unfold N5 at hy
    split at hy
    · cases hy
    split at hy
    · rcases List.mem_append.mp hy with hy | hy
      · exact J4 (fB (by decide)) y hy
      · exact J4 (fB (by decide)) y hy
    split at hy
    · rw [List.mem_singleton] at hy; subst hy
      exact fB (by decide)
    · exact J4 (fB (by decide)) y hy
  split at hy
  · unfold O6 at hy
    split at hy
    · obtain ⟨f, _, hy⟩ := List.mem_flatMap.mp hy
      exact J4 tH y hy
    split at hy
    · cases hy
    split at hy
    · rw [List.mem_singleton] at hy; subst hy
      exact fB (by decide)
    · exact J4 tH y hy
  split at hy
  · exact J4 tH y hy
  split at hy
  · obtain ⟨f, hf, hy⟩ := List.mem_flatMap.mp hy
    exact mP _ y hy
  split at hy
  · exact mP _ y hy
  · cases hy
theorem mQ {ns : List Nd} {fl : List Fl} {S : List Int} : ∀ j, ∀ y ∈ u0 ns fl S j, LbH y
  | 0, y, hy => by cases hy
  | j + 1, y, hy => by
    unfold u0 at hy
    rcases List.mem_append.mp hy with hy | hy
    · exact mQ j y hy
    · split at hy
      · exact xy y hy
      · cases hy
theorem mR {ns : List Nd} {S : List Int} : ∀ m, ∀ y ∈ o7 ns S m, LbH y
  | 0, y, hy => by cases hy
  | m + 1, y, hy => by
    unfold o7 at hy
    rcases List.mem_append.mp hy with hy | hy
    · exact mR m y hy
    · unfold G1 at hy
      split at hy
      · exact J4 (fB (by decide)) y hy
      · cases hy
theorem vf {ns : List Nd} {fl : List Fl} {S : List Int} : ∀ y ∈ n7 ns fl S, LbH y := by
  intro y hy
  unfold n7 at hy
  split at hy
  · cases hy
  · rcases List.mem_append.mp hy with hy | hy
    · exact mQ _ y hy
    · exact mR _ y hy
def OkV (ns : List Nd) (fl : List Fl) (s : Sv) : Prop := s.length = 49 ∧ stC ns fl s = 0
def xz (ns : List Nd) (fl : List Fl) (c : List Sv) : Prop := (∀ s ∈ c, OkV ns fl s) ∧ ∀ s ∈ c, ∀ t ∈ nxW ns fl s, t ∈ c
theorem xA {ns : List Nd} {fl : List Fl} {s : Sv} {x : Lb} (hs : OkV ns fl s) : ∀ t ∈ S9 ns fl s x, OkV ns fl t := by
  intro t ht
  unfold S9 M5 at ht
  obtain ⟨y, hy, rfl⟩ := List.mem_map.mp ht
  have hy := (List.mem_filter.mp hy).1
  exact ⟨I0 hs.1 y hy, (cl hs.1 hs.2 hy).1⟩
theorem iF {ns : List Nd} {fl : List Fl} {l : List Sv} (hl : ∀ s ∈ l, OkV ns fl s) : u5 ns fl l = ([], 5) ∨ ∃ c, u5 ns fl l = (c, 0) ∧ xz ns fl c ∧ ∀ s ∈ l, s ∈ c := by
  unfold u5
  split
  · rename_i h
    refine .inr ⟨_, rfl, ⟨?_, lq h⟩, fun s hs => sf s hs⟩
    unfold B4
    refine dO (P := OkV ns fl) (fun s hs t ht => xA hs t ht) _ _ _ fun s hs => ?_
    rcases (O7 _ _).mp hs with hs | hs
    · cases hs
    · exact hl s hs
  · exact .inl rfl
theorem sH {ns : List Nd} {fl : List Fl} (hn : (A9 ns fl).1 = 0) : ∀ {c : List Sv}, (∀ s ∈ c, OkV ns fl s) → D2 ns fl c = 0 := by
  have key : ∀ c : List Sv, (∀ s ∈ c, OkV ns fl s) → Q8 ns fl c = 0 := by
    intro c
    induction c with
    | nil => intro _; rfl
    | cons s c ih =>
      intro h
      unfold Q8
      rw [if_pos (h s (by simp)).2]
      exact ih fun t ht => h t (by simp [ht])
  intro c hc
  unfold D2
  rw [if_neg (by simpa using hn)]
  exact key c hc
def dl (ns : List Nd) (fl : List Fl) (S : Sv) (L : List Lb) : Prop :=
  OkV ns fl S ∧ ((∀ rest, A4 ns fl (L ++ rest) = (0, 5)) ∨ ∃ c, xz ns fl c ∧ S ∈ c ∧ ∀ rest, A4 ns fl (L ++ rest) = bz ns fl rest L.length c)
theorem sI {ns : List Nd} {fl : List Fl} (hn : (A9 ns fl).1 = 0) : dl ns fl (s6 ns fl).1 [] := by
  have h2 : (s6 ns fl).2 = 0 := by unfold s6; rw [if_neg (by simpa using hn)]
  have hok : OkV ns fl (s6 ns fl).1 := ⟨cK ns fl, (qw h2).1.2.1⟩
  have hb : z7 ns fl = u5 ns fl [(s6 ns fl).1] := by unfold z7; rw [if_neg (by simpa using hn)]
  refine ⟨hok, ?_⟩
  rcases iF (ns := ns) (fl := fl) (l := [(s6 ns fl).1]) (fun s hs => by rw [List.mem_singleton] at hs; subst hs; exact hok) with h | ⟨c, h, g, hs⟩
  · left
    intro rest
    unfold A4
    rw [hb, h]; rfl
  · right
    refine ⟨c, g, hs _ (by simp), fun rest => ?_⟩
    unfold A4
    rw [hb, h]; rfl
theorem xC {ns : List Nd} {fl : List Fl} {S : Sv} {L : List Lb} (h : dl ns fl S L) {y : Sp} (hy : y ∈ n7 ns fl S) (h0 : y.lk = 0) : dl ns fl y.to L := by
  obtain ⟨hok, h⟩ := h
  refine ⟨⟨I0 hok.1 y hy, (cl hok.1 hok.2 hy).1⟩, ?_⟩
  rcases h with h | ⟨c, g, hs, h⟩
  · exact .inl h
  · refine .inr ⟨c, g, g.2 S hs _ ?_, h⟩
    obtain ⟨e1, e2⟩ := vf y hy h0
    show y.to ∈ S9 ns fl S (0, 0, 0)
    unfold S9 M5
    refine List.mem_map.mpr ⟨y, List.mem_filter.mpr ⟨hy, ?_⟩, rfl⟩
    unfold P2
    rw [h0, e1, e2]; simp
theorem xD {ns : List Nd} {fl : List Fl} {S : Sv} {L : List Lb} (h : dl ns fl S L) {y : Sp} (hy : y ∈ n7 ns fl S) (h0 : y.lk ≠ 0) : dl ns fl y.to (L ++ [P2 y]) := by
  obtain ⟨hok, h⟩ := h
  refine ⟨⟨I0 hok.1 y hy, (cl hok.1 hok.2 hy).1⟩, ?_⟩
  rcases h with h | ⟨c, g, hs, h⟩
  · left
    intro rest
    rw [List.append_assoc]; exact h _
  · have hn := (W5 hok.2).1
    have hw := sH hn g.1
    have hx : (P2 y).1 ≠ 0 := h0
    have hin : y.to ∈ u9 ns fl c (P2 y) := by
      unfold u9
      refine List.mem_flatMap.mpr ⟨S, hs, ?_⟩
      unfold S9 M5
      exact List.mem_map.mpr ⟨y, List.mem_filter.mpr ⟨hy, by simp⟩, rfl⟩
    have ha : r9 ns fl c (P2 y) = u5 ns fl (u9 ns fl c (P2 y)) := by
      unfold r9
      rw [if_neg (by simpa using hw), if_neg hx]
    have hg : ∀ s ∈ u9 ns fl c (P2 y), OkV ns fl s := by
      intro s hs
      unfold u9 at hs
      obtain ⟨t, ht, hs⟩ := List.mem_flatMap.mp hs
      exact xA (g.1 t ht) s hs
    rcases iF hg with e | ⟨c', e, g', hs'⟩
    · left
      intro rest
      rw [List.append_assoc, h]
      show bz ns fl (P2 y :: rest) _ _ = _
      unfold bz
      rw [if_neg hx, ha, e, if_pos (by decide)]
    · right
      refine ⟨c', g', hs' _ hin, fun rest => ?_⟩
      have hne : c' ≠ [] := fun e => by have := hs' _ hin; rw [e] at this; cases this
      rw [List.append_assoc, h, List.length_append]
      show bz ns fl (P2 y :: rest) _ _ = _
      conv => lhs; unfold bz
      rw [if_neg hx, ha, e, if_neg (by simp), if_neg hne]
      rfl
theorem xE {ns : List Nd} {fl : List Fl} {S : Sv} {L : List Lb} (h : dl ns fl S L) : A4 ns fl L = (0, 5) ∨ A4 ns fl L = ((L.length : Int), 0) := by
  rcases h.2 with h | ⟨c, _, _, h⟩
  · have := h []; rw [List.append_nil] at this; exact .inl this
  · have := h []; rw [List.append_nil] at this; exact .inr this
def P7 := And.intro T2 (And.intro T3 (And.intro T4 (And.intro T25 (And.intro T26 (And.intro T28 (And.intro T31 (And.intro T34 (And.intro T41 (And.intro T44 (And.intro T55 (And.intro T57 (And.intro T58 (And.intro T60 (And.intro T62 (And.intro T65 T82)))))))))))))))
attribute [local irreducible] awp n9 k3 l8 o6 n5
theorem vg {P : Program} {G : Nat → Option (List PV)} {rl : List String} {h : Heap} {σ : Type} {x y : Code} {Q : Exit → St → Prop} {s : St} (f : σ → St) (p : σ → Prop)
    (h1 : ∀ K : St → Prop, (∀ s', (∃ q, p q ∧ o8 P G h s' (f q)) → K s') → awp P G rl h x (M7 K Q) s) (h2 : ∀ q, p q → awp P G rl h y Q (f q)) : awp P G rl h (.seq x y) Q s :=
  nj (fun t => ∃ q, p q ∧ t = f q) (h1 _ fun s' ⟨q, hq, hs⟩ => ⟨_, hs, q, hq, rfl⟩) fun t ⟨q, hq, e⟩ => by subst e; exact h2 q hq
theorem xF (L : List Lb) : cLs L = ((L.map eL).flatMap id).map AV.p ++ [] := by
  rw [List.append_nil]
  unfold cLs
  induction L with
  | nil => rfl
  | cons x l ih => rw [List.flatMap_cons, List.map_append, ih, List.map_cons, List.flatMap_cons, List.map_append]; rfl
structure Qsn where
  j : Nat
  S : Sv
  L : List Lb
theorem vh (ns : List Nd) (fl : List Fl) (picks : List Int) (h : Heap) : d5 Tryz.prog gW 6 [G7 ns fl, aI picks] h (fun r h' => r = .b true ∧ h' = h) := by
  have hline := fun h => iE h
  have hlg := fun h => fA (G := gW) ns fl h
  cases hl : bd ns fl with
  | true =>
    rw [hl] at hlg
    refine c8 (rl := []) e9 Tryz.func6 rfl (rs := [.tmp 4]) rfl Tryz.ntmps6 (by simp) ?_
    repeat' (first | ((repeat ((fail_if_success (refine hK _ ?_)); clear hK K)); refine hK _ ?_; clear hK K) | ((first | refine b9 fun K1 q6 => ?_ | refine b7 fun A B hA hB => ?_); simp only [S1, simprocAttr, P7, List.length_map]; first | refine q6 _ ?_; clear q6 K1 | (refine hA ?_; clear hA hB A B) | (apply d4 E9; exact (hlg _); refine q6 _ ?_; clear q6 K1) | (apply d4 E10; exact (hline _); refine q6 _ ?_; clear q6 K1)) | refine b6 fun K hK => ?_ | ((first | apply b8 | apply b5 | apply d3); try simp only [NB, simprocAttr]))
    all_goals simp only [S1, simprocAttr, ENB, P7]
  | false =>
  rw [hl] at hlg
  have nk := mN hl
  have hck := fun h => O2 (G := gW) ns fl nk h
  by_cases h16 : picks.length ≤ 16
  case neg =>
    have f16 : decide (16 < (picks.length : Int)) = true := decide_eq_true (by omega)
    refine c8 (rl := []) e9 Tryz.func6 rfl (rs := [.tmp 4]) rfl Tryz.ntmps6 (by simp) ?_
    repeat' (first | ((repeat ((fail_if_success (refine hK _ ?_)); clear hK K)); refine hK _ ?_; clear hK K) | ((first | refine b9 fun K1 q6 => ?_ | refine b7 fun A B hA hB => ?_); simp only [S1, simprocAttr, P7, f16, List.length_map]; first | refine q6 _ ?_; clear q6 K1 | (refine hA ?_; clear hA hB A B) | (apply d4 E9; exact (hlg _); refine q6 _ ?_; clear q6 K1) | (apply d4 E10; exact (hline _); refine q6 _ ?_; clear q6 K1)) | refine b6 fun K hK => ?_ | ((first | apply b8 | apply b5 | apply d3); try simp only [NB, simprocAttr]))
    all_goals simp only [S1, simprocAttr, ENB, P7]
  have f16 : decide (16 < (picks.length : Int)) = false := decide_eq_false (by omega)
  by_cases h0 : (A9 ns fl).1 = 0
  case neg =>
    have f0 : ((A9 ns fl).1 != 0) = true := by simp [h0]
    refine c8 (rl := []) e9 Tryz.func6 rfl (rs := [.tmp 4]) rfl Tryz.ntmps6 (by simp) ?_
    repeat' (first | ((repeat ((fail_if_success (refine hK _ ?_)); clear hK K)); refine hK _ ?_; clear hK K) | ((first | refine b9 fun K1 q6 => ?_ | refine b7 fun A B hA hB => ?_); simp only [S1, simprocAttr, P7, f16, f0, d7, d9, List.length_map]; first | refine q6 _ ?_; clear q6 K1 | (refine hA ?_; clear hA hB A B) | (apply d4 E9; exact (hlg _); refine q6 _ ?_; clear q6 K1) | (apply d4 E22; exact (hck _); refine q6 _ ?_; clear q6 K1) | (apply d4 E10; exact (hline _); refine q6 _ ?_; clear q6 K1)) | refine b6 fun K hK => ?_ | ((first | apply b8 | apply b5 | apply d3); try simp only [NB, simprocAttr]))
    all_goals simp only [S1, simprocAttr, ENB, P7]
  have f0 : ((A9 ns fl).1 != 0) = false := by simp [h0]
  have hst := fun h => fw nk h0 h
  have hseen := sI (ns := ns) (fl := fl) h0
  have hS0 := hseen.1.1
  have hzl : (zS.map AV.i).length = 49 := by rw [List.length_map]; rfl
  have hem : (zS.map AV.i).isEmpty = false := rfl
  generalize (s6 ns fl).1 = S0 at *
  have hso : w9 (zS.map AV.i) 0 (S0.map AV.i) = S0.map AV.i := l7 (n := 49) (by rw [List.length_map, hS0]) _ hzl
  have hne0 := K6 hS0
  refine c8 (rl := []) e9 Tryz.func6 rfl (rs := [.tmp 4]) rfl Tryz.ntmps6 (by simp) ?_
  repeat' (first | (apply b8; (try simp only [NB]); ((repeat ((fail_if_success (refine hK _ ?_)); clear hK K)); refine hK _ ?_; clear hK K)) | (refine b9 fun K1 q6 => ?_; simp only [S1, simprocAttr, P7]; refine q6 _ ?_; clear q6 K1) | (refine b6 (x := Code.region _ _ _) fun K hK => ?_) | (apply b5; try simp only [NB, simprocAttr]; (try ((repeat ((fail_if_success (refine hK _ ?_)); clear hK K)); refine hK _ ?_; clear hK K))))
  refine b6 fun K hK => ?_
  repeat' (first | (apply b8; (try simp only [NB]); ((repeat ((fail_if_success (refine hK _ ?_)); clear hK K)); refine hK _ ?_; clear hK K)) | ((first | refine b9 fun K1 q6 => ?_ | refine b7 fun A B hA hB => ?_); simp only [S1, simprocAttr, P7, f16, f0, hso, hS0, hne0, hem, TRz, i6, h9, j3, d8, d7, d9, List.length_map]; first | refine q6 _ ?_; clear q6 K1 | (refine hB ?_; clear hA hB A B) | (apply d4 E9; exact (hlg _); refine q6 _ ?_; clear q6 K1) | (apply d4 E22; exact (hck _); refine q6 _ ?_; clear q6 K1) | (apply d4 E23; exact (hst _); refine q6 _ ?_; clear q6 K1)) | (refine b6 (x := Code.region _ _ _) fun K hK => ?_) | ((first | apply b5 | apply c9); try simp only [NB, simprocAttr]; (try ((repeat ((fail_if_success (refine hK _ ?_)); clear hK K)); refine hK _ ?_; clear hK K))))
  refine vg (σ := Qsn) (fun q => ⟨frL [(6, aLs q.L), (2, .ptr h.length 0 0)], 89, h ++ [some ⟨0, x8 ns fl⟩]⟩) (fun q => dl ns fl q.S q.L ∧ q.L.length ≤ 16) (fun K hK => ?_) ?_
  · repeat' (first | ((repeat ((fail_if_success (refine hK _ ?_)); clear hK K)); refine hK _ ?_; clear hK K) | (refine b9 fun K1 q6 => ?_; simp only [S1, simprocAttr, P7, List.length_map]; refine q6 _ ?_; clear q6 K1) | refine b6 fun K hK => ?_ | ((first | apply b8 | apply b5 | apply c7); try simp only [NB, simprocAttr]))
    refine dI (σ := Qsn) (fun q => picks.length - q.j) 89 (fun q => [(31, .i q.j), (30, .i picks.length), (29, aI picks), (5, .ptr (h.length + 1) 0 0), (6, .ref (h.length + 2) q.L.length 0 3 q.L.length), (2, .ptr h.length 0 0)])
      (fun q => [some ⟨0, x8 ns fl⟩, some ⟨0, q.S.map AV.i⟩, some ⟨q.L.length, cLs q.L⟩]) (fun q => q.j ≤ picks.length ∧ dl ns fl q.S q.L ∧ q.L.length ≤ q.j) ⟨0, S0, []⟩ ?_ ⟨Nat.zero_le _, hseen, Nat.le_refl _⟩ fun q hq K hK => ?_
    · refine (o8.adopt 6 3 rfl).trans (Sub.ghost ⟨rfl, ⟨[], by simp [cLs]; exact hso⟩, ?_, ⟨trivial, trivial, trivial⟩, g9 _ _, trivial, trivial⟩)
      simp only [K4, s7, G5, frL, List.length_cons, List.length_nil]
      simp
    clear hseen hst hso hne0 hS0
    obtain ⟨j, S, L⟩ := q
    obtain ⟨hj, hsn, hLj⟩ := hq
    simp only at hj hsn hLj hK ⊢
    have hS : S.length = 49 := hsn.1.1
    have t49' : (S.map AV.i).take 49 = S.map AV.i := List.take_of_length_le (by rw [List.length_map, hS]; exact Nat.le_refl _)
    have hne := K6 hS
    rcases Nat.lt_or_ge j picks.length with hlt | hge
    · obtain ⟨p, hpj⟩ : ∃ p, picks[j]? = some p := ⟨_, List.getElem?_eq_getElem hlt⟩
      have hmv := fun h => fb nk hS h
      have hto := I0 (ns := ns) (fl := fl) hS
      have hln := M4 (ns := ns) (fl := fl) (S := S)
      have hv1 : ∀ y ∈ n7 ns fl S, y.lk = 0 → dl ns fl y.to L := fun y hy h0 => xC hsn hy h0
      have hv2 : ∀ y ∈ n7 ns fl S, y.lk ≠ 0 → dl ns fl y.to (L ++ [P2 y]) := fun y hy h0 => xD hsn hy h0
      generalize n7 ns fl S = sl at *
      have hnx := H3 (l := picks) (by omega) hlt
      by_cases hp0 : p < 0
      · have fp : decide (p < 0) = true := decide_eq_true hp0
        repeat' (first | ((repeat ((fail_if_success (refine hK _ ?_)); clear hK K)); refine hK _ ?_; clear hK K) | ((first | refine b9 fun K1 q6 => ?_ | refine b7 fun A B hA hB => ?_); simp only [S1, simprocAttr, P7, F5 hpj, O1 hlt, hnx, fp, hS, t49', hne, TRz, i6, h9, j3, d8, d7, d9, List.length_map]; first | refine q6 _ ?_; clear q6 K1 | (refine hA ?_; clear hA hB A B) | (apply d4 E24; exact (hmv _); refine q6 _ ?_; clear q6 K1)) | refine b6 fun K hK => ?_ | ((first | apply b8 | apply b5 | apply c7 | apply f9 | apply c9); try simp only [NB, simprocAttr]))
        all_goals refine ⟨⟨j + 1, S, L⟩, by simp only; omega, ⟨hlt, hsn, by simp only; omega⟩, ?_⟩
        all_goals refine ⟨rfl, ⟨_, rfl⟩, ?_, ⟨trivial, trivial, trivial⟩, g9 _ _, U9 _ _, trivial⟩
        all_goals simp only [S1, simprocAttr, KNB] <;> (try and_intros) <;> (try assumption) <;> (try trivial) <;> (try omega)
      have fp : decide (p < 0) = false := decide_eq_false hp0
      by_cases hsl : sl = []
      · subst hsl
        repeat' (first | ((repeat ((fail_if_success (refine hK _ ?_)); clear hK K)); refine hK _ ?_; clear hK K) | ((first | refine b9 fun K1 q6 => ?_ | refine b7 fun A B hA hB => ?_); simp only [S1, simprocAttr, P7, F5 hpj, O1 hlt, hnx, fp, hS, t49', hne, TRz, i6, h9, j3, d8, d7, d9, List.length_map]; first | refine q6 _ ?_; clear q6 K1 | (refine hA ?_; clear hA hB A B) | (apply d4 E24; exact (hmv _); refine q6 _ ?_; clear q6 K1)) | refine b6 fun K hK => ?_ | ((first | apply b8 | apply b5 | apply c7 | apply f9 | apply c9); try simp only [NB, simprocAttr]))
        all_goals refine ⟨⟨j + 1, S, L⟩, by simp only; omega, ⟨hlt, hsn, by simp only; omega⟩, ?_⟩
        all_goals refine ⟨rfl, ⟨_, rfl⟩, ?_, ⟨trivial, trivial, trivial⟩, g9 _ _, U9 _ _, trivial⟩
        all_goals simp only [S1, simprocAttr, KNB] <;> (try and_intros) <;> (try assumption) <;> (try trivial) <;> (try omega)
      have hpos : 0 < sl.length := List.length_pos_iff.mpr hsl
      have fl0 : ((sl.length : Int) == 0) = false := by simp; omega
      have fl0' : ((sl.length : Int) = 0) = False := by simp; omega
      obtain ⟨n, rfl⟩ := Int.eq_ofNat_of_zero_le (by omega : 0 ≤ p)
      obtain ⟨r, hmlt, hmod⟩ : ∃ r : Nat, r < sl.length ∧ Int.tmod (n : Int) (sl.length : Int) = (r : Int) := ⟨n % sl.length, Nat.mod_lt _ hpos, rfl⟩
      have hinr : inR .i64 (r : Int) = true := by
        unfold inR
        simp only [Bool.and_eq_true, decide_eq_true_eq]
        refine ⟨?_, ?_⟩
        · show (-9223372036854775808 : Int) ≤ _; omega
        · show _ ≤ (9223372036854775807 : Int); omega
      have r0 : (0 : Int) ≤ (r : Int) := by omega
      obtain ⟨y, hy⟩ : ∃ y, sl[r]? = some y := ⟨_, List.getElem?_eq_getElem hmlt⟩
      have hm := List.mem_of_getElem? hy
      have hxy : (sl.map eSp)[r]? = some ((cSp y).map (PV.int .i64)) := by rw [List.getElem?_map, hy]; rfl
      have hyl := hto y hm
      have y54 : (cSp y).length = 54 := E4 hyl
      have ymm := (x9 (cSp y)).trans (nP y)
      have yov := D3 hyl
      have yt49 : (y.to.map AV.i).take 49 = y.to.map AV.i := List.take_of_length_le (by rw [List.length_map, hyl]; exact Nat.le_refl _)
      have hys : w9 (S.map AV.i) 0 (y.to.map AV.i) = y.to.map AV.i := l7 (n := 49) (by rw [List.length_map, hyl]) _ (by rw [List.length_map, hS])
      have hey : (y.to.map AV.i).isEmpty = false := K6 hyl
      have hcap : L.length + 1 ≤ j7 := by unfold j7; omega
      have hacc := bc L
      by_cases hc : y.lk = 0
      · have fk : (y.lk != 0) = false := by simp [hc]
        have hsn' := hv1 y hm hc
        repeat' (first | ((repeat ((fail_if_success (refine hK _ ?_)); clear hK K)); refine hK _ ?_; clear hK K) | ((first | refine b9 fun K1 q6 => ?_ | refine b7 fun A B hA hB => ?_); simp only [S1, simprocAttr, P7, F5 hpj, O1 hlt, hnx, fp, fl0, fl0', hmod, hinr, r0, hxy, hS, t49', hne, hyl, y54, ymm, yov, yt49, hys, hey, fk, TRz, i6, h9, j3, d8, d7, d9, List.length_map]; first | refine q6 _ ?_; clear q6 K1 | ((first | refine hA ?_ | refine hB ?_); clear hA hB A B) | (apply d4 E24; exact (hmv _); refine q6 _ ?_; clear q6 K1)) | refine b6 fun K hK => ?_ | ((first | apply b8 | apply b5 | apply c7 | apply c9); try simp only [NB, simprocAttr]))
        all_goals refine ⟨⟨j + 1, y.to, L⟩, by simp only; omega, ⟨hlt, hsn', by simp only; omega⟩, ?_⟩
        all_goals refine ⟨rfl, ⟨_, rfl⟩, ?_, ⟨trivial, trivial, trivial⟩, g9 _ _, U9 _ _, trivial⟩
        all_goals simp only [S1, simprocAttr, KNB] <;> (try and_intros) <;> (try assumption) <;> (try trivial) <;> (try omega)
      · have fk : (y.lk != 0) = true := by simp [hc]
        have hsn' := hv2 y hm hc
        have esn : cLs (L ++ [P2 y]) = cLs L ++ [.i y.lk, .i y.ln, .i y.la] := qG L (P2 y)
        have eln : (L ++ [P2 y]).length = L.length + 1 := by simp
        repeat' (first | ((repeat ((fail_if_success (refine hK _ ?_)); clear hK K)); refine hK _ ?_; clear hK K) | ((first | refine b9 fun K1 q6 => ?_ | refine b7 fun A B hA hB => ?_); simp only [S1, simprocAttr, P7, F5 hpj, O1 hlt, hnx, fp, fl0, fl0', hmod, hinr, r0, hxy, hS, t49', hne, hyl, y54, ymm, yov, yt49, hys, hey, fk, hcap, hacc, TRz, i6, h9, j3, d8, d7, d9, List.length_map, Nat.mul_one]; first | refine q6 _ ?_; clear q6 K1 | ((first | refine hA ?_ | refine hB ?_); clear hA hB A B) | (apply d4 E24; exact (hmv _); refine q6 _ ?_; clear q6 K1)) | refine b6 fun K hK => ?_ | ((first | apply b8 | apply b5 | apply c7 | apply c9); try simp only [NB, simprocAttr]))
        all_goals refine ⟨⟨j + 1, y.to, L ++ [P2 y]⟩, by simp only; omega, ⟨hlt, hsn', by simp only [eln]; omega⟩, ?_⟩
        all_goals simp only [esn, eln]
        all_goals refine ⟨rfl, ⟨_, rfl⟩, ?_, ⟨trivial, trivial, trivial⟩, g9 _ _, (by rw [← esn]; exact U9 _ _), trivial⟩
        all_goals simp only [S1, simprocAttr, KNB] <;> (try and_intros) <;> (try assumption) <;> (try trivial) <;> (try omega)
    · obtain rfl : j = picks.length := by omega
      repeat' (first | ((repeat ((fail_if_success (refine hK _ ?_)); clear hK K)); refine hK _ ?_; clear hK K) | ((first | refine b9 fun K1 q6 => ?_ | refine b7 fun A B hA hB => ?_); simp only [S1, simprocAttr, P7, I1]; first | refine q6 _ ?_; clear q6 K1 | (refine hB ?_; clear hA hB A B)) | refine b6 fun K hK => ?_ | ((first | apply b8 | apply b5 | apply f9); try simp only [NB, simprocAttr]))
      all_goals refine ⟨⟨0, S, L⟩, ⟨hsn, by simp only; omega⟩, ?_⟩
      have hbz : ∀ A B C : Option Blk, (h ++ [A, B, C])[h.length + 2]? = some C := fun A B C => by rw [n8]; rfl
      have hsz : ∀ A B C : Option Blk, (h ++ [A, B, C]).set (h.length + 2) none = h ++ ([A] ++ [B, none]) := fun A B C => by rw [Q9]; rfl
      have hcz := xF L
      all_goals refine (o8.freeze (k := 6) (b := h.length + 2) (sz := 3) (n := L.length) (rows := L.map eL) (bk := ⟨L.length, cLs L⟩) (rest := []) rfl (hbz _ _ _) (List.length_map ..).symm (fun r hr => by obtain ⟨x, _, rfl⟩ := List.mem_map.mp hr; rfl) (by omega) hcz).trans (Sub.ghost ⟨rfl, ⟨_, hsz _ _ _⟩, ?_, ⟨trivial, trivial, trivial⟩, trivial⟩)
      all_goals simp only [S1, simprocAttr, KNB] <;> (try and_intros) <;> (try assumption) <;> (try trivial) <;> (try omega)
  · rintro ⟨j, S, L⟩ ⟨hsn, hL⟩
    simp only at hsn hL ⊢
    have hac := fun h => Z7 nk (l := L) (by omega) h
    rcases xE hsn with e | e
    · rw [e] at hac
      repeat' (first | ((repeat ((fail_if_success (refine hK _ ?_)); clear hK K)); refine hK _ ?_; clear hK K) | (refine b9 fun K1 q6 => ?_; simp only [S1, simprocAttr, P7, List.length_map, d7, d9]; first | refine q6 _ ?_; clear q6 K1 | (apply d4 E20; exact (hac _); refine q6 _ ?_; clear q6 K1) | (apply d4 E10; exact (hline _); refine q6 _ ?_; clear q6 K1)) | refine b6 fun K hK => ?_ | ((first | apply b8 | apply b5 | apply d3); try simp only [NB, simprocAttr]))
      all_goals simp only [S1, simprocAttr, ENB, P7]
    · rw [e] at hac
      have beqI' : ∀ x : Int, (x == x) = true := fun x => by simp
      repeat' (first | ((repeat ((fail_if_success (refine hK _ ?_)); clear hK K)); refine hK _ ?_; clear hK K) | (refine b9 fun K1 q6 => ?_; simp only [S1, simprocAttr, P7, beqI', List.length_map, d7, d9]; first | refine q6 _ ?_; clear q6 K1 | (apply d4 E20; exact (hac _); refine q6 _ ?_; clear q6 K1) | (apply d4 E10; exact (hline _); refine q6 _ ?_; clear q6 K1)) | refine b6 fun K hK => ?_ | ((first | apply b8 | apply b5 | apply d3); try simp only [NB, simprocAttr]))
      all_goals simp only [S1, simprocAttr, ENB, P7]
theorem trailsees_given (xss : List (List PV)) (hl : xss.length = [25, 41].length) (ht : ∀ (j : Nat) t xs, [25, 41][j]? = some t → xss[j]? = some xs → ∃ fuel, Ty Tryz.prog fuel t xs) :
    d5 Tryz.prog gW 6 (List.zipWith (jY Tryz.prog) [25, 41] xss) [] fun r h' => r = .b true ∧ h' = [] := by
  match xss, hl, ht with
  | [x0, x1], _, ht =>
    obtain ⟨_, h0⟩ := ht 0 25 x0 rfl rfl
    obtain ⟨_, h1⟩ := ht 1 41 x1 rfl rfl
    obtain ⟨ns, fl, e0⟩ := tl h0
    obtain ⟨l, e1⟩ := xl h1
    simp only [List.zipWith_cons_cons, List.zipWith_nil_left, e0, e1]
    exact vh ns fl l []
end
end Go.Proofs.YtbbmfemplmelhaaGreatDoor.AM
