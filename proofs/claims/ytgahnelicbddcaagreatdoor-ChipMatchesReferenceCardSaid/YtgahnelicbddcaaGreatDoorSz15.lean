/- Part of a proof of the given statements of this seat (SxChPc, SxChTb, SyStr, SxChLa, SxChLb, SxChLc, SyCut, SxChLd, SxChLe, SxChLf, SxChLg, SxChLh, SxChLi, SxChLj, SxChLk): no conditions beyond those typed here. -/
import Derived.Test.YtgahnelicbddcaaGreatDoorSz14
import Derived.Test.YtgahnelicbddcaaGreatDoorSz05
import Derived.Shelf.LaysM
import Derived.Shelf.Strings.Builder1
import Derived.Test.YtgahnelicbddcaaGreatDoorProg
import Derived.Lib.ItoaNum
import Derived.Lib.ItoaLen
import Derived.Lib.AtoiErrMem
import Derived.Lib.AtoiAll
import Derived.Test.YtgahnelicbddcaaGreatDoorSz12
import Derived.Test.YtgahnelicbddcaaGreatDoorSz04
import Derived.WalkKit
import Derived.Deep.LoopGhost
import Derived.Deep.RegionHeld3
import Derived.Shelf.Strings.BuilderK
import Derived.Test.YtgahnelicbddcaaGreatDoorSz08
import Derived.Lib.SplitLaws
set_option linter.unusedVariables false
set_option linter.unusedSimpArgs false
set_option linter.unusedSectionVars false

namespace Go.Proofs.YtgahnelicbddcaaGreatDoor
open Go.Sx
set_option maxRecDepth 100000

theorem allA_0 (w h t p x y : Int) : allA w h t p x y 0 (fun a b => DV.x (.int .i64 (List.getD [] a (0 : Int)))) = allL w h t p x y t.toNat := by unfold allA lsOf; simp
theorem cloDA_0 (w h t p i x y : Int) : cloDA w h t p i x y 0 (fun a b => DV.x (.int .i64 (List.getD [] a (0 : Int)))) = cloD w h t p i x y := by unfold cloDA lsOf; simp
theorem cloNA_0 (w h t p i x y : Int) : cloNA w h t p i x y 0 (fun a b => DV.x (.int .i64 (List.getD [] a (0 : Int)))) = cloN w h t p i x y := by unfold cloNA lsOf; simp
theorem lsOf_0 : lsOf 0 (fun a b => DV.x (.int .i64 (List.getD [] a (0 : Int)))) = [] := rfl
theorem cloDA_cell (w h t p i x y : Int) (L : List Int) : cloDA w h t p i x y L.length (cellL L) = L ++ cloD w h t p i x y := by unfold cloDA; rw [lsOf_cellL]
theorem cloNA_cell (w h t p i x y : Int) (L : List Int) : cloNA w h t p i x y L.length (cellL L) = L ++ cloN w h t p i x y := by unfold cloNA; rw [lsOf_cellL]
def finQ (S : List Int) : Nat → Nat → DV := fun i _ => .x (.int .i64 (S.getD (0 + i) 0))
theorem fin_leaf {n : Int} {L R : List Int} (hR : sbL n L = R) : Tree.sat Tryz.prog (.need (0 + (sbL n L).length ≤ (sbL n L).length) (.ret (.d (.ro (sbL n L).length 1 (finQ (sbL n L)))))) (fun r' => leSV 0 [] [] r' (ivL R)) := by
  subst hR
  refine ⟨by omega, ?_⟩
  unfold ivL
  simp only [Tree.sat, leSV, leD]
  refine ⟨trivial, trivial, fun i j hi hj => ?_⟩
  unfold finQ; rw [Nat.zero_add]
section
variable (w h t p n : Int)
theorem LDr_e1 : LDr_q1 w h t p n = cellL (allL w h t p (gX w h t p n) (gY w h t p n) t.toNat) := by show cellL (allA _ _ _ _ _ _ 0 _) = _; rw [allA_0]
theorem LDr_e2 : LDr_q2 w h t p n = cellL (allL w h t p (gX w h t p n) (gY w h t p n) t.toNat ++ ndL w h t p 1 (gX w h t p n) (w64 (gY w h t p n - 1)) 0) := by show cellL (addL _ _ _ _ _ _ _ _ _ _) = _; rw [allA_0, LDr_e1, addL_cell]
theorem LDr_e3 : LDr_q3 w h t p n = finQ (sbL n (allL w h t p (gX w h t p n) (gY w h t p n) t.toNat ++ ndL w h t p 1 (gX w h t p n) (w64 (gY w h t p n - 1)) 0)) := by show finQ (sbL n (lsOf (addL _ _ _ _ _ _ _ _ _ _).length _)) = _; rw [allA_0, LDr_e1, addL_cell, LDr_e2, lsOf_cellL]
theorem LDr_e4 : LDr_q4 w h t p n = finQ (sbL n (allL w h t p (gX w h t p n) (gY w h t p n) t.toNat)) := by show finQ (sbL n (lsOf _ _)) = _; rw [allA_0, LDr_e1, lsOf_cellL]
theorem LDr_e5 : LDr_q5 w h t p n = cellL (allL w h t p (w64 (w - 1)) (gY w h t p n) t.toNat) := by show cellL (allA _ _ _ _ _ _ 0 _) = _; rw [allA_0]
theorem LDr_e6 : LDr_q6 w h t p n = finQ (sbL n (allL w h t p (w64 (w - 1)) (gY w h t p n) t.toNat)) := by show finQ (sbL n (lsOf _ _)) = _; rw [allA_0, LDr_e5, lsOf_cellL]
theorem LDr_e8 : LDr_q8 w h t p n = cellL (cloD w h t p (gI w h t p n) (gX w h t p n) (gY w h t p n)) := by show cellL (cloDA _ _ _ _ _ _ _ 0 _) = _; rw [cloDA_0]
theorem LDr_e9 : LDr_q9 w h t p n = cellL (cloD w h t p (gI w h t p n) (gX w h t p n) (gY w h t p n) ++ cloD w h t p (gI w h t p n) (w64 (gX w h t p n + 1)) (gY w h t p n)) := by show cellL (cloDA _ _ _ _ _ _ _ _ _) = _; rw [cloDA_0, LDr_e8, cloDA_cell]
theorem LDr_e10 : LDr_q10 w h t p n = finQ (sbL n (cloD w h t p (gI w h t p n) (gX w h t p n) (gY w h t p n) ++ cloD w h t p (gI w h t p n) (w64 (gX w h t p n + 1)) (gY w h t p n))) := by show finQ (sbL n (lsOf (cloDA _ _ _ _ _ _ _ _ _).length _)) = _; rw [cloDA_0, LDr_e8, cloDA_cell, LDr_e9, lsOf_cellL]
theorem LDr_e11 : LDr_q11 w h t p n = finQ (sbL n (cloD w h t p (gI w h t p n) (gX w h t p n) (gY w h t p n))) := by show finQ (sbL n (lsOf _ _)) = _; rw [cloDA_0, LDr_e8, lsOf_cellL]
theorem LDr_e12 : LDr_q12 w h t p n = cellL (cloD w h t p (gI w h t p n) (gX w h t p n) (gY w h t p n) ++ cloD w h t p (gI w h t p n) (gX w h t p n) (w64 (gY w h t p n + 1))) := by show cellL (cloDA _ _ _ _ _ _ _ _ _) = _; rw [cloDA_0, LDr_e8, cloDA_cell]
theorem LDr_e13 : LDr_q13 w h t p n = finQ (sbL n (cloD w h t p (gI w h t p n) (gX w h t p n) (gY w h t p n) ++ cloD w h t p (gI w h t p n) (gX w h t p n) (w64 (gY w h t p n + 1)))) := by show finQ (sbL n (lsOf (cloDA _ _ _ _ _ _ _ _ _).length _)) = _; rw [cloDA_0, LDr_e8, cloDA_cell, LDr_e12, lsOf_cellL]
end
section
variable (w h t p n : Int)
theorem LDv_e1 : LDv_q1 w h t p n = cellL (allL w h t p (gX w h t p n) (gY w h t p n) t.toNat) := by show cellL (allA _ _ _ _ _ _ 0 _) = _; rw [allA_0]
theorem LDv_e2 : LDv_q2 w h t p n = cellL (allL w h t p (gX w h t p n) (gY w h t p n) t.toNat ++ ndL w h t p 3 (gX w h t p n) (w64 (gY w h t p n + 1)) 3) := by show cellL (addL _ _ _ _ _ _ _ _ _ _) = _; rw [allA_0, LDv_e1, addL_cell]
theorem LDv_e3 : LDv_q3 w h t p n = finQ (sbL n (allL w h t p (gX w h t p n) (gY w h t p n) t.toNat ++ ndL w h t p 3 (gX w h t p n) (w64 (gY w h t p n + 1)) 3)) := by show finQ (sbL n (lsOf (addL _ _ _ _ _ _ _ _ _ _).length _)) = _; rw [allA_0, LDv_e1, addL_cell, LDv_e2, lsOf_cellL]
theorem LDv_e4 : LDv_q4 w h t p n = finQ (sbL n (allL w h t p (gX w h t p n) (gY w h t p n) t.toNat)) := by show finQ (sbL n (lsOf _ _)) = _; rw [allA_0, LDv_e1, lsOf_cellL]
theorem LDv_e5 : LDv_q5 w h t p n = cellL (allL w h t p 0 (gY w h t p n) t.toNat) := by show cellL (allA _ _ _ _ _ _ 0 _) = _; rw [allA_0]
theorem LDv_e6 : LDv_q6 w h t p n = finQ (sbL n (allL w h t p 0 (gY w h t p n) t.toNat)) := by show finQ (sbL n (lsOf _ _)) = _; rw [allA_0, LDv_e5, lsOf_cellL]
theorem LDv_e8 : LDv_q8 w h t p n = cellL (cloN w h t p (gI w h t p n) (gX w h t p n) (gY w h t p n)) := by show cellL (cloNA _ _ _ _ _ _ _ 0 _) = _; rw [cloNA_0]
theorem LDv_e9 : LDv_q9 w h t p n = cellL (cloN w h t p (gI w h t p n) (gX w h t p n) (gY w h t p n) ++ cloN w h t p (gI w h t p n) (w64 (gX w h t p n + 1)) (gY w h t p n)) := by show cellL (cloNA _ _ _ _ _ _ _ _ _) = _; rw [cloNA_0, LDv_e8, cloNA_cell]
theorem LDv_e10 : LDv_q10 w h t p n = finQ (sbL n (cloN w h t p (gI w h t p n) (gX w h t p n) (gY w h t p n) ++ cloN w h t p (gI w h t p n) (w64 (gX w h t p n + 1)) (gY w h t p n))) := by show finQ (sbL n (lsOf (cloNA _ _ _ _ _ _ _ _ _).length _)) = _; rw [cloNA_0, LDv_e8, cloNA_cell, LDv_e9, lsOf_cellL]
theorem LDv_e11 : LDv_q11 w h t p n = finQ (sbL n (cloN w h t p (gI w h t p n) (gX w h t p n) (gY w h t p n))) := by show finQ (sbL n (lsOf _ _)) = _; rw [cloNA_0, LDv_e8, lsOf_cellL]
theorem LDv_e12 : LDv_q12 w h t p n = cellL (cloN w h t p (gI w h t p n) (gX w h t p n) (gY w h t p n) ++ cloN w h t p (gI w h t p n) (gX w h t p n) (w64 (gY w h t p n + 1))) := by show cellL (cloNA _ _ _ _ _ _ _ _ _) = _; rw [cloNA_0, LDv_e8, cloNA_cell]
theorem LDv_e13 : LDv_q13 w h t p n = finQ (sbL n (cloN w h t p (gI w h t p n) (gX w h t p n) (gY w h t p n) ++ cloN w h t p (gI w h t p n) (gX w h t p n) (w64 (gY w h t p n + 1)))) := by show finQ (sbL n (lsOf (cloNA _ _ _ _ _ _ _ _ _).length _)) = _; rw [cloNA_0, LDv_e8, cloNA_cell, LDv_e12, lsOf_cellL]
end
theorem sb_nil (n : Int) : sbL n [] = [] := List.eq_nil_iff_forall_not_mem.2 fun a ha => absurd (((sb_spec n []).2 a).1 ha).1 List.not_mem_nil
theorem nil_leaf : Tree.sat Tryz.prog (.ret (SV.d (DV.ro 0 1 fun i j => DV.x (.int .i64 (List.getD [] (0 + i) (0 : Int)))))) (fun r' => leSV 0 [] [] r' (ivL [])) := by
  unfold ivL
  simp only [Tree.sat, leSV, leD]
  exact ⟨rfl, trivial, fun i j hi => absurd hi (Nat.not_lt_zero _)⟩
theorem dr_sat {w h t p n : Int} {m : Nat} {c : Nat → Nat → DV} (hg : okG w h t p) (hn : i64B n) : Sat Tryz.prog (TE .nil 29 [gridV w h t p (.d (.ro m 1 c)), iv n]) (fun r' => leSV 0 [] [] r' (ivL (refD w h t p n))) := by
  constructor
  rw [LDr_eq]; unfold LDr
  have hsm := gXY_sm (n := n) hg
  have hw := hg.1
  have hh := hg.2.1
  have ht := hg.2.2.1
  have aX := hsm.1
  refine ⟨hg, hn, fun hE => ?_, fun hE => ?_⟩
  · have : refD w h t p n = [] := by unfold refD; rw [if_neg (by simpa using hE)]
    rw [this]; exact ⟨rfl, rfl⟩
  have hE : gE w h t p n = 0 := by simpa using hE
  have law := drv_law hg hE
  obtain ⟨n0, n1⟩ := gE_0.1 hE
  have hf := (ndF hg n0 n1).ok
  have hm := emod_B (i := gI w h t p n) hh.1
  have w1 : w64 (gX w h t p n + 1) = gX w h t p n + 1 := w64_of (by omega) (by omega)
  have w2 : w64 (gY w h t p n + 1) = gY w h t p n + 1 := w64_of (by omega) (by omega)
  have w3 : w64 (gY w h t p n - 1) = gY w h t p n - 1 := w64_of (by omega) (by omega)
  have w4 : w64 (w - 1) = w - 1 := w64_of (by omega) (by omega)
  have la : ∀ x y : Int, (allL w h t p x y t.toNat).length ≤ 32 := fun x y => by have := allL_len w h t p x y t.toNat; omega
  have lc : ∀ i x y : Int, (cloD w h t p i x y).length ≤ 71 := fun i x y => cloD_len w h t p i x y
  have ln : ∀ k x y i : Int, (ndL w h t p k x y i).length ≤ 1 := fun k x y i => ndL_len w h t p k x y i
  have i0 : IntRow 0 fun a b => DV.x (.int .i64 (List.getD [] a (0 : Int))) := fun i hi => rfl
  unfold drvL at law
  unfold LDr_q7
  simp only [LDr_e1, LDr_e2, LDr_e3, LDr_e4, LDr_e5, LDr_e6, LDr_e8, LDr_e9, LDr_e10, LDr_e11, LDr_e12, LDr_e13, allA_0, cloDA_0, addL_cell, cloDA_cell, lsOf_cellL, lsOf_0, w1, w2, w3, w4]
  have hre : ∀ x : Int, 0 ≤ x ∧ x ≤ 8 → ∀ y : Int, 0 ≤ y ∧ y ≤ 8 → tilB x y := fun x hx y hy => ⟨hx, hy⟩
  refine ⟨fun h3 => ?_, fun h3 => ⟨fun h7 => ?_, fun h7 => ⟨fun h4 => ⟨fun _ => ?_, fun h4' => by rw [h4] at h4'; cases h4'⟩, fun h4 => ⟨fun h5 => ?_, fun h5 => ?_⟩⟩⟩⟩
  · have h3 : gK w h t p n = 3 := by simpa using h3
    simp only [h3, if_true] at law
    refine ⟨⟨hg, hsm⟩, ⟨trivial, by omega, i0⟩, fun h6 => ?_, fun h6 => ?_⟩
    · have h6 : gI w h t p n = 3 := by simpa using h6
      rw [if_pos h6] at law
      exact ⟨hg, ⟨trivial, by have := la (gX w h t p n) (gY w h t p n); omega, intRow_cellL _ _⟩, ⟨trivial, by rw [List.length_append]; have := la (gX w h t p n) (gY w h t p n); have := ln 1 (gX w h t p n) (gY w h t p n - 1) 0; omega, intRow_cellL _ _⟩, fin_leaf law⟩
    · have h6 : gI w h t p n ≠ 3 := by simpa using h6
      rw [if_neg h6, List.append_nil] at law
      exact ⟨⟨trivial, by have := la (gX w h t p n) (gY w h t p n); omega, intRow_cellL _ _⟩, fin_leaf law⟩
  · have h7 : gK w h t p n = 7 := by simpa using h7
    simp only [h7, Int.reduceEq, if_true, if_false] at law
    refine ⟨⟨hg, ⟨by omega, by omega⟩, hsm.2⟩, ⟨trivial, by omega, i0⟩, ⟨trivial, by have := la (w - 1) (gY w h t p n); omega, intRow_cellL _ _⟩, fin_leaf law⟩
  · have h4 : gK w h t p n = 4 := by simpa using h4
    simp only [h4, Int.reduceEq, if_true, if_false] at law
    refine ⟨⟨hg, hre _ (by omega) _ (by omega)⟩, ⟨⟨trivial, trivial, trivial, trivial, trivial, trivial⟩, trivial, by omega, i0⟩, fun _ => ⟨fun h6 => ?_, fun h6 => ?_⟩, fun h6 => by rw [h4] at h6; simp at h6⟩
    · simp only [Bool.and_eq_true, decide_eq_true_eq] at h6
      rw [if_pos h6] at law
      exact ⟨⟨hg, hre _ (by omega) _ (by omega)⟩, ⟨⟨trivial, trivial, trivial, trivial, trivial, trivial⟩, trivial, by have := lc (gI w h t p n) (gX w h t p n) (gY w h t p n); omega, intRow_cellL _ _⟩,
        ⟨trivial, by rw [List.length_append]; have := lc (gI w h t p n) (gX w h t p n) (gY w h t p n); have := lc (gI w h t p n) (gX w h t p n + 1) (gY w h t p n); omega, intRow_cellL _ _⟩, fin_leaf law⟩
    · have h6 : ¬ (gX w h t p n + 1 < w ∧ gY w h t p n < h) := by simpa using h6
      rw [if_neg h6, List.append_nil] at law
      exact ⟨⟨trivial, by have := lc (gI w h t p n) (gX w h t p n) (gY w h t p n); omega, intRow_cellL _ _⟩, fin_leaf law⟩
  · have h5 : gK w h t p n = 5 := by simpa using h5
    simp only [h5, Int.reduceEq, if_true, if_false] at law
    refine ⟨⟨hg, hre _ (by omega) _ (by omega)⟩, ⟨⟨trivial, trivial, trivial, trivial, trivial, trivial⟩, trivial, by omega, i0⟩, fun h6 => by rw [h5] at h6; simp at h6, fun _ => ⟨fun h6 => ?_, fun h6 => ?_⟩⟩
    · simp only [Bool.and_eq_true, decide_eq_true_eq] at h6
      rw [if_pos h6] at law
      exact ⟨⟨hg, hre _ (by omega) _ (by omega)⟩, ⟨⟨trivial, trivial, trivial, trivial, trivial, trivial⟩, trivial, by have := lc (gI w h t p n) (gX w h t p n) (gY w h t p n); omega, intRow_cellL _ _⟩,
        ⟨trivial, by rw [List.length_append]; have := lc (gI w h t p n) (gX w h t p n) (gY w h t p n); have := lc (gI w h t p n) (gX w h t p n) (gY w h t p n + 1); omega, intRow_cellL _ _⟩, fin_leaf law⟩
    · have h6 : ¬ (gX w h t p n < w ∧ gY w h t p n + 1 < h) := by simpa using h6
      rw [if_neg h6, List.append_nil] at law
      exact ⟨⟨trivial, by have := lc (gI w h t p n) (gX w h t p n) (gY w h t p n); omega, intRow_cellL _ _⟩, fin_leaf law⟩
  · have k3 : gK w h t p n ≠ 3 := by simpa using h3
    have k7 : gK w h t p n ≠ 7 := by simpa using h7
    have k4 : gK w h t p n ≠ 4 := by simpa using h4
    have k5 : gK w h t p n ≠ 5 := by simpa using h5
    rw [if_neg k3, if_neg k7, if_neg k4, if_neg k5] at law
    have e0 : refD w h t p n = [] := by rw [← law]; exact sb_nil n
    rw [e0]
    exact ⟨⟨trivial, by omega, i0⟩, by omega, nil_leaf⟩
theorem dv_sat {w h t p n : Int} {m : Nat} {c : Nat → Nat → DV} (hg : okG w h t p) (hn : i64B n) : Sat Tryz.prog (TE .nil 31 [gridV w h t p (.d (.ro m 1 c)), iv n]) (fun r' => leSV 0 [] [] r' (ivL (refN w h t p n))) := by
  constructor
  rw [LDv_eq]; unfold LDv
  have hsm := gXY_sm (n := n) hg
  have hw := hg.1
  have hh := hg.2.1
  have ht := hg.2.2.1
  have aX := hsm.1
  refine ⟨hg, hn, fun hE => ?_, fun hE => ?_⟩
  · have : refN w h t p n = [] := by unfold refN; rw [if_neg (by simpa using hE)]
    rw [this]; exact ⟨rfl, rfl⟩
  have hE : gE w h t p n = 0 := by simpa using hE
  have law := dvn_law hg hE
  obtain ⟨n0, n1⟩ := gE_0.1 hE
  have hf := (ndF hg n0 n1).ok
  have hm := emod_B (i := gI w h t p n) hh.1
  have w1 : w64 (gX w h t p n + 1) = gX w h t p n + 1 := w64_of (by omega) (by omega)
  have w2 : w64 (gY w h t p n + 1) = gY w h t p n + 1 := w64_of (by omega) (by omega)
  have w3 : w64 (gY w h t p n - 1) = gY w h t p n - 1 := w64_of (by omega) (by omega)
  have w4 : w64 (w - 1) = w - 1 := w64_of (by omega) (by omega)
  have la : ∀ x y : Int, (allL w h t p x y t.toNat).length ≤ 32 := fun x y => by have := allL_len w h t p x y t.toNat; omega
  have lc : ∀ i x y : Int, (cloN w h t p i x y).length ≤ 73 := fun i x y => cloN_len w h t p i x y
  have ln : ∀ k x y i : Int, (ndL w h t p k x y i).length ≤ 1 := fun k x y i => ndL_len w h t p k x y i
  have i0 : IntRow 0 fun a b => DV.x (.int .i64 (List.getD [] a (0 : Int))) := fun i hi => rfl
  unfold dvnL at law
  unfold LDv_q7
  simp only [LDv_e1, LDv_e2, LDv_e3, LDv_e4, LDv_e5, LDv_e6, LDv_e8, LDv_e9, LDv_e10, LDv_e11, LDv_e12, LDv_e13, allA_0, cloNA_0, addL_cell, cloNA_cell, lsOf_cellL, lsOf_0, w1, w2, w3, w4]
  have hre : ∀ x : Int, 0 ≤ x ∧ x ≤ 8 → ∀ y : Int, 0 ≤ y ∧ y ≤ 8 → tilB x y := fun x hx y hy => ⟨hx, hy⟩
  refine ⟨fun h1 => ?_, fun h1 => ⟨fun h2 => ?_, fun h2 => ⟨fun h6 => ?_, fun h6 => ⟨fun h4 => ⟨fun _ => ?_, fun h4' => by rw [h4] at h4'; cases h4'⟩, fun h4 => ⟨fun h5 => ?_, fun h5 => ?_⟩⟩⟩⟩⟩
  · have h1 : gK w h t p n = 1 := by simpa using h1
    simp only [h1, if_true] at law
    exact ⟨⟨hg, hsm⟩, ⟨trivial, by omega, i0⟩, hg, ⟨trivial, by have := la (gX w h t p n) (gY w h t p n); omega, intRow_cellL _ _⟩, ⟨trivial, by rw [List.length_append]; have := la (gX w h t p n) (gY w h t p n); have := ln 3 (gX w h t p n) (gY w h t p n + 1) 3; omega, intRow_cellL _ _⟩, fin_leaf law⟩
  · have h2 : gK w h t p n = 2 := by simpa using h2
    simp only [h2, Int.reduceEq, if_true, if_false] at law
    exact ⟨⟨hg, hsm⟩, ⟨trivial, by omega, i0⟩, ⟨trivial, by have := la (gX w h t p n) (gY w h t p n); omega, intRow_cellL _ _⟩, fin_leaf law⟩
  · have h6 : gK w h t p n = 6 := by simpa using h6
    simp only [h6, Int.reduceEq, if_true, if_false] at law
    exact ⟨⟨hg, ⟨by omega, by omega⟩, hsm.2⟩, ⟨trivial, by omega, i0⟩, ⟨trivial, by have := la 0 (gY w h t p n); omega, intRow_cellL _ _⟩, fin_leaf law⟩
  · have h4 : gK w h t p n = 4 := by simpa using h4
    simp only [h4, Int.reduceEq, if_true, if_false] at law
    refine ⟨⟨hg, hre _ (by omega) _ (by omega)⟩, ⟨⟨trivial, trivial, trivial, trivial, trivial, trivial⟩, trivial, by omega, i0⟩, fun _ => ⟨fun h6 => ?_, fun h6 => ?_⟩, fun h6 => by rw [h4] at h6; simp at h6⟩
    · simp only [Bool.and_eq_true, decide_eq_true_eq] at h6
      rw [if_pos h6] at law
      exact ⟨⟨hg, hre _ (by omega) _ (by omega)⟩, ⟨⟨trivial, trivial, trivial, trivial, trivial, trivial⟩, trivial, by have := lc (gI w h t p n) (gX w h t p n) (gY w h t p n); omega, intRow_cellL _ _⟩,
        ⟨trivial, by rw [List.length_append]; have := lc (gI w h t p n) (gX w h t p n) (gY w h t p n); have := lc (gI w h t p n) (gX w h t p n + 1) (gY w h t p n); omega, intRow_cellL _ _⟩, fin_leaf law⟩
    · have h6 : ¬ (gX w h t p n + 1 < w ∧ gY w h t p n < h) := by simpa using h6
      rw [if_neg h6, List.append_nil] at law
      exact ⟨⟨trivial, by have := lc (gI w h t p n) (gX w h t p n) (gY w h t p n); omega, intRow_cellL _ _⟩, fin_leaf law⟩
  · have h5 : gK w h t p n = 5 := by simpa using h5
    simp only [h5, Int.reduceEq, if_true, if_false] at law
    refine ⟨⟨hg, hre _ (by omega) _ (by omega)⟩, ⟨⟨trivial, trivial, trivial, trivial, trivial, trivial⟩, trivial, by omega, i0⟩, fun h6 => by rw [h5] at h6; simp at h6, fun _ => ⟨fun h6 => ?_, fun h6 => ?_⟩⟩
    · simp only [Bool.and_eq_true, decide_eq_true_eq] at h6
      rw [if_pos h6] at law
      exact ⟨⟨hg, hre _ (by omega) _ (by omega)⟩, ⟨⟨trivial, trivial, trivial, trivial, trivial, trivial⟩, trivial, by have := lc (gI w h t p n) (gX w h t p n) (gY w h t p n); omega, intRow_cellL _ _⟩,
        ⟨trivial, by rw [List.length_append]; have := lc (gI w h t p n) (gX w h t p n) (gY w h t p n); have := lc (gI w h t p n) (gX w h t p n) (gY w h t p n + 1); omega, intRow_cellL _ _⟩, fin_leaf law⟩
    · have h6 : ¬ (gX w h t p n < w ∧ gY w h t p n + 1 < h) := by simpa using h6
      rw [if_neg h6, List.append_nil] at law
      exact ⟨⟨trivial, by have := lc (gI w h t p n) (gX w h t p n) (gY w h t p n); omega, intRow_cellL _ _⟩, fin_leaf law⟩
  · have k1 : gK w h t p n ≠ 1 := by simpa using h1
    have k2 : gK w h t p n ≠ 2 := by simpa using h2
    have k6 : gK w h t p n ≠ 6 := by simpa using h6
    have k4 : gK w h t p n ≠ 4 := by simpa using h4
    have k5 : gK w h t p n ≠ 5 := by simpa using h5
    rw [if_neg k1, if_neg k2, if_neg k6, if_neg k4, if_neg k5] at law
    have e0 : refN w h t p n = [] := by rw [← law]; exact sb_nil n
    rw [e0]
    exact ⟨⟨trivial, by omega, i0⟩, by omega, nil_leaf⟩
noncomputable def cDr : Ctr := fun ss => match ss with
  | [.agg [.d (.x (.int .i64 w)), .d (.x (.int .i64 h)), .d (.x (.int .i64 t)), .d (.x (.int .i64 p)), .d (.ro m 1 c)], .d (.x (.int .i64 n))] => .nd (okG w h t p) (.need (i64B n) (.ret (ivL (refD w h t p n))))
  | _ => .fail
noncomputable def cDv : Ctr := fun ss => match ss with
  | [.agg [.d (.x (.int .i64 w)), .d (.x (.int .i64 h)), .d (.x (.int .i64 t)), .d (.x (.int .i64 p)), .d (.ro m 1 c)], .d (.x (.int .i64 n))] => .nd (okG w h t p) (.need (i64B n) (.ret (ivL (refN w h t p n))))
  | _ => .fail
theorem grid_le {w h t p n : Int} {m : Nat} {c : Nat → Nat → DV} : leSVs 0 [] [] [.agg [iv w, iv h, iv t, iv p, .d (.ro m 1 c)], iv n] [.agg [iv w, iv h, iv t, iv p, .d (.ro m 1 c)], iv n] := by
  simp [leSVs, leSV, iv, leD]
theorem cDr_ok : CtrOK Tryz.prog 29 cDr := by
  refine ctrOK_leR CE_ok DE_ok (by kernel_rfl) (by kernel_rfl) fun ss r hr => ?_
  unfold cDr at hr
  split at hr
  · rename_i w h t p m c n
    obtain ⟨h1, h2, rfl⟩ := hr
    have k0 := dr_sat h1 h2 (m := m) (c := c)
    refine ⟨_, 200, .nil, grid_le, ?_⟩
    exact k0
  · exact hr.elim
theorem cDv_ok : CtrOK Tryz.prog 31 cDv := by
  refine ctrOK_leR CE_ok DE_ok (by kernel_rfl) (by kernel_rfl) fun ss r hr => ?_
  unfold cDv at hr
  split at hr
  · rename_i w h t p m c n
    obtain ⟨h1, h2, rfl⟩ := hr
    have k0 := dv_sat h1 h2 (m := m) (c := c)
    refine ⟨_, 200, .nil, grid_le, ?_⟩
    exact k0
  · exact hr.elim
end Go.Proofs.YtgahnelicbddcaaGreatDoor

namespace Go.Proofs
open Go.Shelf
def Tryz.lays166_ren : Go.Shelf.Ren := ⟨fun | 166 => 42 | 240 => 71 | 276 => 87 | n => n, fun | 0 => 0 | 3 => 3 | 4 => 4 | 5 => 5 | 9 => 9 | 20 => 20 | 37 => 22 | 70 => 78 | 72 => 80 | 75 => 82 | 80 => 87 | 164 => 121 | n => n, fun | n => n⟩
theorem Tryz.lays166 : Go.Proofs.Lays.n166 Tryz.prog Tryz.lays166_ren := {
  mixed := by kernel_rfl
  f166 := Tryz.func42.trans (congrArg some (by kernel_rfl))
  f240 := Tryz.func71.trans (congrArg some (by kernel_rfl))
  f276 := Tryz.func87.trans (congrArg some (by kernel_rfl))
  t0 := Tryz.underlying0
  a0 := Tryz.isAgg0
  z0 := Tryz.sizeOf0
  v0 := Tryz.zeroValue0
  t3 := Tryz.underlying3
  a3 := Tryz.isAgg3
  z3 := Tryz.sizeOf3
  v3 := Tryz.zeroValue3
  t4 := Tryz.underlying4
  a4 := Tryz.isAgg4
  z4 := Tryz.sizeOf4
  v4 := Tryz.zeroValue4
  t9 := Tryz.underlying9
  a9 := Tryz.isAgg9
  z9 := Tryz.sizeOf9
  v9 := Tryz.zeroValue9
  t20 := Tryz.underlying20
  a20 := Tryz.isAgg20
  z20 := Tryz.sizeOf20
  v20 := Tryz.zeroValue20
  t37 := Tryz.underlying22
  a37 := Tryz.isAgg22
  z37 := Tryz.sizeOf22
  v37 := Tryz.zeroValue22
  t70 := Tryz.underlying78
  a70 := Tryz.isAgg78
  z70 := Tryz.sizeOf78
  v70 := Tryz.zeroValue78
  t72 := Tryz.underlying80
  a72 := Tryz.isAgg80
  z72 := Tryz.sizeOf80
  v72 := Tryz.zeroValue80
  t75 := Tryz.underlying82
  a75 := Tryz.isAgg82
  z75 := Tryz.sizeOf82
  v75 := Tryz.zeroValue82
  t164 := Tryz.underlying121
  a164 := Tryz.isAgg121
  z164 := Tryz.sizeOf121
  v164 := Tryz.zeroValue121 }
def Tryz.lays167_ren : Go.Shelf.Ren := ⟨fun | 167 => 44 | 240 => 71 | 276 => 87 | n => n, fun | 0 => 0 | 4 => 4 | 5 => 5 | 9 => 9 | 20 => 20 | 37 => 22 | 70 => 78 | 72 => 80 | 75 => 82 | 80 => 87 | 164 => 121 | n => n, fun | n => n⟩
theorem Tryz.lays167 : Go.Proofs.Lays.n167 Tryz.prog Tryz.lays167_ren := {
  mixed := by kernel_rfl
  f167 := Tryz.func44.trans (congrArg some (by kernel_rfl))
  f240 := Tryz.func71.trans (congrArg some (by kernel_rfl))
  f276 := Tryz.func87.trans (congrArg some (by kernel_rfl))
  t0 := Tryz.underlying0
  a0 := Tryz.isAgg0
  z0 := Tryz.sizeOf0
  v0 := Tryz.zeroValue0
  t4 := Tryz.underlying4
  a4 := Tryz.isAgg4
  z4 := Tryz.sizeOf4
  v4 := Tryz.zeroValue4
  t5 := Tryz.underlying5
  a5 := Tryz.isAgg5
  z5 := Tryz.sizeOf5
  v5 := Tryz.zeroValue5
  t9 := Tryz.underlying9
  a9 := Tryz.isAgg9
  z9 := Tryz.sizeOf9
  v9 := Tryz.zeroValue9
  t20 := Tryz.underlying20
  a20 := Tryz.isAgg20
  z20 := Tryz.sizeOf20
  v20 := Tryz.zeroValue20
  t37 := Tryz.underlying22
  a37 := Tryz.isAgg22
  z37 := Tryz.sizeOf22
  v37 := Tryz.zeroValue22
  t70 := Tryz.underlying78
  a70 := Tryz.isAgg78
  z70 := Tryz.sizeOf78
  v70 := Tryz.zeroValue78
  t72 := Tryz.underlying80
  a72 := Tryz.isAgg80
  z72 := Tryz.sizeOf80
  v72 := Tryz.zeroValue80
  t75 := Tryz.underlying82
  a75 := Tryz.isAgg82
  z75 := Tryz.sizeOf82
  v75 := Tryz.zeroValue82
  t164 := Tryz.underlying121
  a164 := Tryz.isAgg121
  z164 := Tryz.sizeOf121
  v164 := Tryz.zeroValue121 }

def Tryz.lays169_ren : Go.Shelf.Ren := ⟨fun | 169 => 45 | n => n, fun | 70 => 78 | 9 => 9 | 0 => 0 | 72 => 80 | 37 => 22 | 127 => 111 | 3 => 3 | 5 => 5 | n => n, fun | n => n⟩
theorem Tryz.lays169 : Go.Proofs.Lays.n169 Tryz.prog Tryz.lays169_ren := {
  mixed := by kernel_rfl
  f169 := Tryz.func45.trans (congrArg some (by kernel_rfl))
  t0 := Tryz.underlying0
  a0 := Tryz.isAgg0
  z0 := Tryz.sizeOf0
  v0 := Tryz.zeroValue0
  t3 := Tryz.underlying3
  a3 := Tryz.isAgg3
  z3 := Tryz.sizeOf3
  v3 := Tryz.zeroValue3
  t9 := Tryz.underlying9
  a9 := Tryz.isAgg9
  z9 := Tryz.sizeOf9
  v9 := Tryz.zeroValue9
  t37 := Tryz.underlying22
  a37 := Tryz.isAgg22
  z37 := Tryz.sizeOf22
  v37 := Tryz.zeroValue22
  t70 := Tryz.underlying78
  a70 := Tryz.isAgg78
  z70 := Tryz.sizeOf78
  v70 := Tryz.zeroValue78
  t72 := Tryz.underlying80
  a72 := Tryz.isAgg80
  z72 := Tryz.sizeOf80
  v72 := Tryz.zeroValue80
  t127 := Tryz.underlying111
  a127 := Tryz.isAgg111
  z127 := Tryz.sizeOf111
  v127 := Tryz.zeroValue111 }
theorem Tryz.Builder_Extra_166 : Builder.Extra Tryz.prog Tryz.lays166_ren := {
  sizeBuilder := by kernel_rfl
  liesBuilder := by kernel_rfl
  t5 := Tryz.underlying5
  a5 := Tryz.isAgg5
  z5 := Tryz.sizeOf5
  v5 := Tryz.zeroValue5
  infoByte := by kernel_rfl
  cellsByte := by kernel_rfl
  sizeByte := by kernel_rfl
  neB5 := by decide }
theorem Tryz.Builder_Extra_167 : Builder.Extra Tryz.prog Tryz.lays167_ren := {
  sizeBuilder := by kernel_rfl
  liesBuilder := by kernel_rfl
  t5 := Tryz.underlying5
  a5 := Tryz.isAgg5
  z5 := Tryz.sizeOf5
  v5 := Tryz.zeroValue5
  infoByte := by kernel_rfl
  cellsByte := by kernel_rfl
  sizeByte := by kernel_rfl
  neB5 := by decide }
theorem Tryz.Builder_Extra_169 : Builder.Extra Tryz.prog Tryz.lays169_ren := {
  sizeBuilder := by kernel_rfl
  liesBuilder := by kernel_rfl
  t5 := Tryz.underlying5
  a5 := Tryz.isAgg5
  z5 := Tryz.sizeOf5
  v5 := Tryz.zeroValue5
  infoByte := by kernel_rfl
  cellsByte := by kernel_rfl
  sizeByte := by kernel_rfl
  neB5 := by decide }
open Go.RowKit in
theorem Tryz.Builder_WriteByte (B b : Nat) (bs : List Value) (c : Int) (w : World) (h : Lib.IsBuilder 80 5 B b bs w) (hlen : bs.length + 1 ≤ 140737488355328) (hBw : B ≤ w.heap.size) :
    Calls Tryz.prog 44 #[.pointer (some ⟨b, 0, none⟩), .int .u8 c] w fun e w' => e = .returned .nilIface ∧ (Lib.BuilderAt 80 5 B b (.pointer (some ⟨b, 0, none⟩)) (bs ++ [.int .u8 c]) w' ∧ Below B w w') := Any.Builder_WriteByte Tryz.lays167 Tryz.Builder_Extra_167 B b bs c w h hlen hBw
open Go.RowKit in
theorem Tryz.Builder_WriteString (B b : Nat) (bs : List Value) (s : ByteArray) (w : World) (h : Lib.IsBuilder 80 5 B b bs w) (hlen : bs.length + s.size ≤ 140737488355328) (hBw : B ≤ w.heap.size) :
    Calls Tryz.prog 42 #[.pointer (some ⟨b, 0, none⟩), .string s] w fun e w' => e = .returned (.tuple #[.int .i64 s.size, .nilIface]) ∧ (Lib.BuilderAt 80 5 B b (.pointer (some ⟨b, 0, none⟩)) (bs ++ Lib.strCells s) w' ∧ Below B w w') := Any.Builder_WriteString Tryz.lays166 Tryz.Builder_Extra_166 B b bs s w h hlen hBw
open Go.RowKit in
theorem Tryz.Builder_String_any (B b : Nat) (l : List UInt8) (w : World) (h : Lib.IsBuilder 80 5 B b (Lib.byteCells l) w) (hBw : B ≤ w.heap.size) :
    Calls Tryz.prog 45 #[.pointer (some ⟨b, 0, none⟩)] w fun e w' => e = .returned (.string ⟨l.toArray⟩) ∧ Below B w w' := Any.Builder_String_any Tryz.lays169 Tryz.Builder_Extra_169 B b l w h hBw
end Go.Proofs

namespace Go.Sx
open Go.RowKit Go.Sort
theorem strB_append (a b : List UInt8) : strB a ++ strB b = strB (a ++ b) := by
  unfold strB
  apply ByteArray.ext
  simp
theorem strB_size (a : List UInt8) : (strB a).size = a.length := by unfold strB; simp [ByteArray.size]
theorem strB_list (l : List UInt8) : Array.toList (ByteArray.data (strB l)) = l := by unfold strB; rfl
theorem strB_of (s : ByteArray) : strB s.data.toList = s := by unfold strB; rfl
theorem strEq_list (a b : List UInt8) : strEq (strB a) (strB b) = (a == b) := by unfold strEq; rw [strB_list, strB_list]
theorem strB_extract (l : List UInt8) (i j : Nat) : (strB l).extract i j = strB ((l.take j).drop i) := by
  apply ByteArray.ext
  apply Array.ext'
  rw [ByteArray.data_extract]
  unfold strB
  simp [List.extract, List.drop_take]
theorem arr_getD (a : Array UInt8) (i : Nat) : Array.getD a i 0 = a.toList.getD i 0 := by
  rw [Array.getD_eq_getD_getElem?, List.getD_eq_getElem?_getD, Array.getElem?_toList]
theorem strB_at (l : List UInt8) (i : Nat) : Array.getD (ByteArray.data (strB l)) i 0 = l.getD i 0 := by rw [arr_getD, strB_list]
theorem below_grow (w : World) (k : Nat) (os : Array Obj) : Below w.heap.size w (grow (w.drewN k) os) :=
  ⟨rfl, rfl, rfl, by simp [grow, World.drewN], fun i hi => by
    have h1 : i < (w.heap).size := hi
    simp [grow, World.drewN, Array.getElem?_append, h1]⟩
theorem rep_err {w : World} {F : Nat → Prop} {v : Value} {t : TypeId} {N : Nat} (h : v = .iface t (.pointer (some ⟨N, 0, none⟩))) : Rep w emp F v (.ifc t (.rop 0 fun _ => .x undef)) := by
  subst h
  exact .ifc _ _ _ (.rop N 0 0 _ (fun _ => undef) (fun h => (h rfl).elim) (fun j hj => by omega) (fun j hj => by omega) (fun j hj => by omega))

def decF : Nat → Nat → List UInt8
  | 0, _ => [48]
  | f + 1, u => if u < 10 then [UInt8.ofNat (48 + u)] else decF f (u / 10) ++ [UInt8.ofNat (48 + u % 10)]
theorem decF_eq : ∀ (f u : Nat), u < 10 ^ f → decF f u = Lib.decDigits u
  | 0, u, h => by simp at h; subst h; rw [Lib.decDigits]; rfl
  | f + 1, u, h => by
    rw [Lib.decDigits]
    unfold decF
    by_cases h1 : u < 10
    · rw [if_pos h1, dif_pos h1]
    · rw [if_neg h1, dif_neg h1, decF_eq f (u / 10) (by rw [Nat.pow_succ] at h; omega)]
def itoaC (n : Int) : List UInt8 := if n < 0 then 45 :: decF 19 n.natAbs else decF 19 n.toNat
theorem itoaC_eq {n : Int} (h0 : -9223372036854775808 ≤ n) (h1 : n ≤ 9223372036854775807) : itoaC n = Lib.itoa n := by
  unfold itoaC Lib.itoa
  rw [decF_eq 19 n.natAbs (by have : (10 : Nat) ^ 19 = 10000000000000000000 := by decide
                              omega), decF_eq 19 n.toNat (by have : (10 : Nat) ^ 19 = 10000000000000000000 := by decide
                                                             omega)]
theorem itoaC_len {n : Int} (h0 : -9223372036854775808 ≤ n) (h1 : n ≤ 9223372036854775807) : (itoaC n).length ≤ 21 := by
  rw [itoaC_eq h0 h1]; exact Lib.itoa_length_le n h0 h1
def atoiV (l : List UInt8) : Int := match Lib.atoiAll l with
  | .ok v => v
  | .range => Lib.atoiSat l
  | _ => 0
def atoiOK (l : List UInt8) : Bool := match Lib.atoiAll l with
  | .ok _ => true
  | _ => false
theorem chr_nat {k : Nat} (h : k < 10) : (UInt8.ofNat (48 + k)).toNat = 48 + k := by
  rw [UInt8.toNat_ofNat']; omega
theorem decF_dig : ∀ (m u : Nat) (x : UInt8), x ∈ decF m u → 48 ≤ x.toNat ∧ x.toNat ≤ 57
  | 0, u, x, h => by
    unfold decF at h
    rw [List.mem_singleton] at h; subst h; decide
  | m + 1, u, x, h => by
    unfold decF at h
    split at h
    · rw [List.mem_singleton] at h; subst h; rw [chr_nat (by omega)]; omega
    · rw [List.mem_append, List.mem_singleton] at h
      rcases h with h | h
      · exact decF_dig m _ x h
      · subst h; rw [chr_nat (by omega)]; omega
theorem decF_ne : ∀ (m u : Nat), decF m u ≠ []
  | 0, u => by unfold decF; simp
  | m + 1, u => by
    unfold decF; split
    · simp
    · simp
theorem decF_pos : ∀ (m u : Nat), u < 10 → 0 < m → decF m u = [UInt8.ofNat (48 + u)]
  | m + 1, u, h, _ => by unfold decF; rw [if_pos h]
theorem decF_step {m u : Nat} (h : ¬ u < 10) : decF (m + 1) u = decF m (u / 10) ++ [UInt8.ofNat (48 + u % 10)] := by
  conv => lhs; unfold decF
  rw [if_neg h]
theorem parse_dec : ∀ (m u : Nat) (r : List UInt8), u < 10 ^ m → u ≤ 4611686018427387904 → Lib.parseUint10 0 (decF m u ++ r) = Lib.parseUint10 u r
  | 0, u, r, h, h2 => by
    have : u = 0 := by simpa using h
    subst this; unfold decF; simp [Lib.parseUint10]
  | m + 1, u, r, h, h2 => by
    by_cases h1 : u < 10
    · rw [decF_pos (m + 1) u h1 (by omega)]
      simp only [List.cons_append, List.nil_append, Lib.parseUint10]
      rw [chr_nat h1, if_pos (by omega), if_neg (by omega), if_neg (by omega)]
      congr 1; omega
    · rw [decF_step h1, List.append_assoc, parse_dec m (u / 10) _ (by rw [Nat.pow_succ] at h; omega) (by omega)]
      simp only [List.cons_append, List.nil_append, Lib.parseUint10]
      rw [chr_nat (by omega), if_pos (by omega), if_neg (by omega), if_neg (by omega)]
      congr 1; omega
theorem ten19 : (10 : Nat) ^ 19 = 10000000000000000000 := by decide
theorem mag_dec {u : Nat} (h : u ≤ 4611686018427387904) : Lib.parseMag (decF 19 u) = .ok u := by
  unfold Lib.parseMag
  rw [if_neg (decF_ne 19 u)]
  have := parse_dec 19 u [] (by rw [ten19]; omega) h
  rw [List.append_nil] at this
  rw [this]; rfl
theorem atoi_dec {u : Nat} (h : u ≤ 4611686018427387904) : Lib.atoiAll (decF 19 u) = .ok u := by
  have hm := mag_dec h
  rcases hd : decF 19 u with _ | ⟨c, r⟩
  · exact absurd hd (decF_ne _ _)
  · have hc := decF_dig 19 u c (by rw [hd]; simp)
    unfold Lib.atoiAll
    simp only []
    rw [if_neg (by omega), ← hd, hm]
    have h45 : ¬ (c.toNat = 45) := by omega
    simp only [h45, not_false_eq_true, true_and, if_false, false_and]
    rw [if_neg (by omega)]
end Go.Sx

namespace Go.Proofs.YtgahnelicbddcaaGreatDoor
open Go.Sx Go.RowKit Go.Sort Go.Lib
set_option maxRecDepth 100000

def numT (L : List Int) : List UInt8 := L.flatMap fun n => 32 :: itoaC n
theorem numT_len : ∀ {L : List Int}, (∀ n ∈ L, -9223372036854775808 ≤ n ∧ n ≤ 9223372036854775807) → (numT L).length ≤ 22 * L.length
  | [], _ => by simp [numT]
  | n :: L, hb => by
    have h1 := numT_len (L := L) fun m hm => hb m (List.mem_cons_of_mem _ hm)
    have h2 := itoaC_len (hb n List.mem_cons_self).1 (hb n List.mem_cons_self).2
    unfold numT at h1 ⊢
    simp only [List.flatMap_cons, List.length_append, List.length_cons]
    omega
theorem numT_snoc (L : List Int) (n : Int) : numT (L ++ [n]) = numT L ++ 32 :: itoaC n := by unfold numT; simp
theorem gPow : Tryz.prog.globalNamed "internal/strconv.uint64pow10" = some 1 := by kernel_rfl
theorem tab_of {W : World} (h : okTab Lib.pow10Tab W.heap[1]?) : Lib.TabIs Tryz.prog W "internal/strconv.uint64pow10" .u64 Lib.pow10Tab := by
  obtain ⟨e, fr, ho⟩ := h
  unfold Lib.TabIs World.var?
  rw [gPow]
  simp only [Option.bind_some, ho]
theorem tab_lt {W : World} (h : okTab Lib.pow10Tab W.heap[1]?) : 1 < W.heap.size := by
  obtain ⟨e, fr, ho⟩ := h
  exact (Array.getElem?_eq_some_iff.1 ho).1
theorem tab_below {w W : World} (h : okTab Lib.pow10Tab w.heap[1]?) (hb : Below w.heap.size w W) : okTab Lib.pow10Tab W.heap[1]? := by
  rw [hb.block 1 (tab_lt h)]; exact h
def IntsAt (w : World) (v : Value) (L : List Int) : Prop := ∃ a cap, v = .slice a L.length cap ∧ (L ≠ [] → ∃ b off, a = some ⟨b, off, none⟩ ∧ b < w.heap.size ∧ ∀ j, j < L.length → w.cell? ⟨b, off + j, none⟩ = some (.int .i64 (L.getD j 0)))
theorem IntsAt.below {w W : World} {v : Value} {L : List Int} (h : IntsAt w v L) (hb : Below w.heap.size w W) : IntsAt W v L := by
  obtain ⟨a, cap, rfl, h1⟩ := h
  refine ⟨a, cap, rfl, fun hL => ?_⟩
  obtain ⟨b, off, h2, h3, h4⟩ := h1 hL
  exact ⟨b, off, h2, Nat.lt_of_lt_of_le h3 hb.size, fun j hj => by rw [hb.cell (p := ⟨b, off + j, none⟩) h3]; exact h4 j hj⟩
theorem strCells_strB (l : List UInt8) : Lib.strCells (strB l) = Lib.byteCells l := by rw [Lib.strCells_eq]; rfl
theorem byteCells_app (a b : List UInt8) : Lib.byteCells a ++ Lib.byteCells b = Lib.byteCells (a ++ b) := by unfold Lib.byteCells; simp
theorem byteCells_len (a : List UInt8) : (Lib.byteCells a).length = a.length := by unfold Lib.byteCells; simp
theorem builder_below {B b : Nat} {bs : List Value} {w W : World} (h : Lib.IsBuilder 80 5 B b bs w) (hb : Below w.heap.size w W) : Lib.IsBuilder 80 5 B b bs W := by
  have key : ∀ p, Lib.BuilderAt 80 5 B b p bs w → Lib.BuilderAt 80 5 B b p bs W := by
    rintro p ⟨h1, v, h2, h3, h4⟩
    have lt : ∀ {k : Nat} {o : Obj}, w.heap[k]? = some o → W.heap[k]? = some o := fun {k o} hk => by rw [hb.block k (Array.getElem?_eq_some_iff.1 hk).1]; exact hk
    refine ⟨h1, v, lt h2, ⟨h3.1, ?_⟩, h4⟩
    rcases h3.2 with h5 | ⟨g, cap, cur, a1, a2, a3, a4⟩
    · exact .inl h5
    · exact .inr ⟨g, cap, cur, a1, a2, lt a3, a4⟩
  exact h.imp (key _) (key _)
set_option maxHeartbeats 1000000 in
theorem list_calls (v : Value) (L : List Int) (w : World) (hv : IntsAt w v L) (hb : ∀ n ∈ L, -9223372036854775808 ≤ n ∧ n ≤ 9223372036854775807) (hl : L.length ≤ 1000000) (ht : okTab Lib.pow10Tab w.heap[1]?) :
    Calls Tryz.prog 43 #[v] w fun e w' => e = .returned (.string (strB (numT L))) ∧ Below w.heap.size w w' := by
  have h0 : Lib.IsBuilder 80 5 w.heap.size w.heap.size [] (w.alloc (.cells #[.pointer none, .slice none 0 0] 80)) := Lib.fresh_isBuilder 80 5 w
  have b0 : Below w.heap.size w (w.alloc (.cells #[.pointer none, .slice none 0 0] 80)) := (Below.refl _ w).alloc (Nat.le_refl _) _
  obtain ⟨a, cap, rfl, hc⟩ := hv
  have cIt : ∀ (n : Int) (W : World), -9223372036854775808 ≤ n → n ≤ 9223372036854775807 → Below w.heap.size w W → Calls Tryz.prog 72 #[.int .i64 n] W fun e w' => e = .returned (.string (strB (itoaC n))) ∧ Below W.heap.size W w' := by
    intro n W h1 h2 hW
    refine (Tryz.strconv_Itoa n h1 h2 W (tab_of (tab_below ht hW))).mono ?_
    rintro e' w' ⟨rfl, k, os, rfl⟩
    rw [itoaC_eq h1 h2]
    exact ⟨rfl, below_grow W k os⟩
  obtain ⟨N, hN⟩ : ∃ N, L.length = N := ⟨_, rfl⟩
  rw [hN]
  go_enter Tryz.func43, Tryz.ntmps43
  go_wp2
  go_loopg [5, 8] N (fun gg _ s8 wr => ∃ kk : Nat, kk ≤ N ∧ N - kk ≤ gg ∧ s8 = .int .i64 kk ∧ Below w.heap.size w wr ∧ Lib.IsBuilder 80 5 w.heap.size w.heap.size (Lib.byteCells (numT (L.take kk))) wr)
  case atStart => exact ⟨0, Nat.zero_le _, by omega, rfl, b0, by simpa [numT, Lib.byteCells] using h0⟩
  case round =>
    obtain ⟨kk, hkk, hg, rfl, hbw, hB⟩ := hrel
    by_cases hlt : kk < N
    · have hltz : (kk : Int) < (N : Int) := by omega
      obtain ⟨b, off, rfl, hbl, hcl⟩ := hc (by intro h; rw [h] at hN; simp at hN; omega)
      have hcell0 : w.cell? ⟨b, off + kk, none⟩ = some (.int .i64 (L.getD kk 0)) := hcl kk (by omega)
      have hmem : L.getD kk 0 ∈ L := by
        have hk' : kk < L.length := by omega
        rw [List.getD_eq_getElem?_getD, List.getElem?_eq_getElem hk']; exact List.getElem_mem hk'
      have hx := hb _ hmem
      have htk : L.take (kk + 1) = L.take kk ++ [L.getD kk 0] := by
        have hk' : kk < L.length := by omega
        rw [List.take_add_one, List.getElem?_eq_getElem hk', List.getD_eq_getElem?_getD, List.getElem?_eq_getElem hk']; rfl
      have hlen : (numT (L.take kk)).length ≤ 22 * 1000000 := by
        have h1 := numT_len (L := L.take kk) fun n hn => hb n (List.mem_of_mem_take hn)
        rw [List.length_take] at h1; omega
      have hln2 := itoaC_len hx.1 hx.2
      generalize L.getD kk 0 = x at hcell0 hx htk hln2
      clear hc hcl hmem
      generalize hT : numT (L.take kk) = T at hB hlen
      have A : Aside (L.take (kk + 1) = L.take kk ++ [x] ∧ numT (L.take kk) = T) := ⟨htk, hT⟩
      clear htk hT
      have hcell : wr.cell? ⟨b, off + kk, none⟩ = some (.int .i64 x) := (hbw.cell (p := ⟨b, off + kk, none⟩) hbl).trans hcell0
      obtain ⟨y, hy⟩ : ∃ y, strB (itoaC x) = y := ⟨_, rfl⟩
      have hys : y.size ≤ 21 := by rw [← hy, strB_size]; exact hln2
      have hcI := cIt x wr hx.1 hx.2 hbw
      rw [hy] at hcI
      obtain ⟨z, hz⟩ : ∃ z, strB (32 :: itoaC x) = z := ⟨_, rfl⟩
      have hadd : ∀ w1, (Op.stringOp .add ⟨#[32]⟩ y).run Tryz.prog w1 = .ok (.string z) w1 := by
        intro w1
        rw [run_string_add_sum w1 _ _ (by show 1 + _ ≤ _; omega), ← hy, ← hz]
        exact congrArg (fun s => Result.ok (Value.string s) w1) (strB_append [32] (itoaC x))
      have hno : ¬ (1 + y.size > 9223372036854775807) := by omega
      have hzs : z.size ≤ 22 := by rw [← hz, strB_size, List.length_cons]; omega
      have hzc : Lib.strCells z = Lib.byteCells (32 :: itoaC x) := by rw [← hz, strCells_strB]
      clear hz
      go_wp2_with (go_at_call 72; refine hcI.mono ?_; rintro e w1 ⟨rfl, hb1⟩)
      have hB1 := builder_below hB hb1
      go_wp2_with (go_at_call 42; refine (Tryz.Builder_WriteString w.heap.size w.heap.size (Lib.byteCells T) z w1 hB1 (by rw [byteCells_len]; omega) (Nat.le_trans hbw.size hb1.size)).mono ?_; rintro e w2 ⟨rfl, hB2, hb2⟩)
      go_roundg (N - (kk + 1))
      case measure => omega
      case rel =>
        refine ⟨kk + 1, by omega, by omega, by go_num, (hbw.trans (hb1.mono hbw.size)).trans hb2, ?_⟩
        rw [A.out.1, numT_snoc, A.out.2, ← byteCells_app, ← hzc]
        exact .inr hB2
    · have hltz : ¬ (kk : Int) < (N : Int) := by omega
      obtain rfl : kk = N := by omega
      have hT : L.take kk = L := by rw [← hN]; exact List.take_length
      rw [hT] at hB
      clear hc hT
      go_wp2_with (go_at_call 45; refine (Tryz.Builder_String_any w.heap.size w.heap.size (numT L) wr hB hbw.size).mono ?_; rintro e w1 ⟨rfl, hb1⟩)
      go_ret
      exact ⟨rfl, hbw.trans hb1⟩
end Go.Proofs.YtgahnelicbddcaaGreatDoor

namespace Go.Proofs.YtgahnelicbddcaaGreatDoor
open Go.Sx Go.RowKit Go.Sort Go.Lib
set_option maxRecDepth 100000

theorem TryzF.Builder_WriteByte (B b : Nat) (bs : List Value) (c : Int) (w : World) (h : Lib.IsBuilderF 80 5 B b bs w) (hlen : bs.length + 1 ≤ 140737488355328) (hBw : B ≤ w.heap.size) :
    Calls Tryz.prog 44 #[.pointer (some ⟨b, 0, none⟩), .int .u8 c] w fun e w' => e = .returned .nilIface ∧ (Lib.BuilderAtF 80 5 B b (.pointer (some ⟨b, 0, none⟩)) (bs ++ [.int .u8 c]) w' ∧ Below B w w' ∧ Lib.OthersKept 5 (some b) w w') := Any.Builder_WriteByte_k Tryz.lays167 Tryz.Builder_Extra_167 B b bs c w h hlen hBw
theorem TryzF.Builder_WriteString (B b : Nat) (bs : List Value) (s : ByteArray) (w : World) (h : Lib.IsBuilderF 80 5 B b bs w) (hlen : bs.length + s.size ≤ 140737488355328) (hBw : B ≤ w.heap.size) :
    Calls Tryz.prog 42 #[.pointer (some ⟨b, 0, none⟩), .string s] w fun e w' => e = .returned (.tuple #[.int .i64 s.size, .nilIface]) ∧ (Lib.BuilderAtF 80 5 B b (.pointer (some ⟨b, 0, none⟩)) (bs ++ Lib.strCells s) w' ∧ Below B w w' ∧ Lib.OthersKept 5 (some b) w w') := Any.Builder_WriteString_k Tryz.lays166 Tryz.Builder_Extra_166 B b bs s w h hlen hBw
theorem TryzF.Builder_String_any (B b : Nat) (l : List UInt8) (w : World) (h : Lib.IsBuilderF 80 5 B b (Lib.byteCells l) w) (hBw : B ≤ w.heap.size) :
    Calls Tryz.prog 45 #[.pointer (some ⟨b, 0, none⟩)] w fun e w' => e = .returned (.string ⟨l.toArray⟩) ∧ (Lib.IsBuilderF 80 5 B b (Lib.byteCells l) w' ∧ Below B w w' ∧ Lib.OthersKept 5 (some b) w w') := Any.Builder_String_any_k Tryz.lays169 Tryz.Builder_Extra_169 B b l w h hBw
theorem builderF_below {B b : Nat} {bs : List Value} {w W : World} (h : Lib.IsBuilderF 80 5 B b bs w) (hb : Below w.heap.size w W) : Lib.IsBuilderF 80 5 B b bs W := by
  have key : ∀ p, Lib.BuilderAtF 80 5 B b p bs w → Lib.BuilderAtF 80 5 B b p bs W := by
    rintro p ⟨h1, v, h2, h3, h4⟩
    have lt : ∀ {k : Nat} {o : Obj}, w.heap[k]? = some o → W.heap[k]? = some o := fun {k o} hk => by rw [hb.block k (Array.getElem?_eq_some_iff.1 hk).1]; exact hk
    refine ⟨h1, v, lt h2, ⟨h3.1, ?_⟩, h4⟩
    rcases h3.2 with h5 | ⟨g, cap, cur, fz, a1, a2, a3, a4⟩
    · exact .inl h5
    · exact .inr ⟨g, cap, cur, fz, a1, a2, lt a3, a4⟩
  exact h.imp (key _) (key _)
def letB (k : Int) : UInt8 := [46, 76, 77].getD k.toNat 0
def rowT (w : Nat) (K : List Int) (y : Nat) : List UInt8 := ((K.drop (y * w)).take w).map letB ++ [10]
def rowsT (w : Nat) (K : List Int) : Nat → List UInt8
  | 0 => []
  | y + 1 => rowT w K y ++ rowsT w K y
def sTil : List UInt8 := [115, 108, 111, 116, 32, 116, 105, 108, 101, 115]
def sNod : List UInt8 := [32, 110, 111, 100, 101, 115]
def sGrd : List UInt8 := [103, 114, 105, 100]
def slotT (s : List Int × List Int) : List UInt8 := sTil ++ (numT s.1 ++ (sNod ++ (numT s.2 ++ [10])))
def headT (w h t p : Int) : List UInt8 := sGrd ++ (numT [w, h, t, p] ++ [10])
def txtT (w h t p : Int) (K : List Int) (S : List (List Int × List Int)) : List UInt8 := headT w h t p ++ (rowsT w.toNat K h.toNat ++ S.flatMap slotT)
def SlotsAt (w : World) (v : Value) (S : List (List Int × List Int)) : Prop := ∃ a cap, v = .slice a S.length cap ∧ (S ≠ [] → ∃ b off, a = some ⟨b, off, none⟩ ∧ b < w.heap.size ∧
  ∀ j, j < S.length → ∃ v1 v2, w.cell? ⟨b, off + j * 2, none⟩ = some v1 ∧ w.cell? ⟨b, off + j * 2 + 1, none⟩ = some v2 ∧ IntsAt w v1 (S.getD j ([], [])).1 ∧ IntsAt w v2 (S.getD j ([], [])).2)
structure StrIs (z : ByteArray) (l : List UInt8) (n : Nat) : Prop where
  eq : strB l = z
  le : z.size ≤ n
theorem StrIs.mk' {l : List UInt8} {n : Nat} (h : l.length ≤ n) : ∃ z, StrIs z l n := ⟨strB l, rfl, by rw [strB_size]; exact h⟩
theorem StrIs.add {x y z : ByteArray} {a b c : List UInt8} {n m k : Nat} (hx : StrIs x a n) (hy : StrIs y b m) (hz : StrIs z c k) (hc : a ++ b = c) (hn : n + m ≤ 9223372036854775807) (w : World) : (Op.stringOp .add x y).run Tryz.prog w = .ok (.string z) w := by
  have h1 := hx.le; have h2 := hy.le
  rw [run_string_add_sum w _ _ (by omega), ← hx.eq, ← hy.eq, strB_append, hc, hz.eq]
theorem StrIs.cells {z : ByteArray} {l : List UInt8} {n : Nat} (h : StrIs z l n) : Lib.strCells z = Lib.byteCells l := by rw [← h.eq, strCells_strB]
structure TxtF (w wr : World) (W H : Nat) (kv sv : Value) : Prop where
  below : Below w.heap.size w wr
  g0 : wr.cell? ⟨w.heap.size + 1, 0, none⟩ = some (.int .i64 W)
  g1 : wr.cell? ⟨w.heap.size + 1, 1, none⟩ = some (.int .i64 H)
  g4 : wr.cell? ⟨w.heap.size + 1, 4, none⟩ = some kv
  c5 : wr.cell? ⟨w.heap.size, 5, none⟩ = some sv
  sz : w.heap.size + 1 + 1 < wr.heap.size
theorem TxtF.next {w wr w' : World} {W H : Nat} {kv sv : Value} (h : TxtF w wr W H kv sv) (hb : Below (w.heap.size + 1 + 1) wr w') : TxtF w w' W H kv sv := by
  have hc : ∀ b o v, b < w.heap.size + 1 + 1 → wr.cell? ⟨b, o, none⟩ = some v → w'.cell? ⟨b, o, none⟩ = some v := fun b o v hlt hv => by rw [hb.cell (p := ⟨b, o, none⟩) hlt]; exact hv
  exact ⟨h.below.trans (hb.mono (by omega)), hc _ _ _ (by omega) h.g0, hc _ _ _ (by omega) h.g1, hc _ _ _ (by omega) h.g4, hc _ _ _ (by omega) h.c5, Nat.lt_of_lt_of_le h.sz hb.size⟩
theorem heap4 (w : World) (a b c d : Obj) : let W := (((w.alloc a).alloc b).alloc c).alloc d
    W.heap[w.heap.size]? = some a ∧ W.heap[w.heap.size + 1]? = some b ∧ W.heap[w.heap.size + 1 + 1]? = some c ∧ W.heap[w.heap.size + 1 + 1 + 1]? = some d := by
  simp only [World.alloc, Array.getElem?_push, Array.size_push]
  refine ⟨?_, ?_, ?_, ?_⟩
  · rw [if_neg (by omega), if_neg (by omega), if_neg (by omega), if_pos trivial]
  · rw [if_neg (by omega), if_neg (by omega), if_pos trivial]
  · rw [if_neg (by omega), if_pos trivial]
  · rw [if_pos trivial]
theorem rowT_len (w : Nat) (K : List Int) (y : Nat) : (rowT w K y).length ≤ w + 1 := by
  unfold rowT
  rw [List.length_append, List.length_map]
  have := List.length_take_le w (K.drop (y * w))
  simp; omega
theorem rowsT_len (w : Nat) (K : List Int) : ∀ y, (rowsT w K y).length ≤ (w + 1) * y
  | 0 => by simp [rowsT]
  | y + 1 => by
    unfold rowsT
    rw [List.length_append, Nat.mul_add]
    have := rowT_len w K y
    have := rowsT_len w K y
    omega
theorem headT_len {w h t p : Int} (hn : ∀ n ∈ [w, h, t, p], -9223372036854775808 ≤ n ∧ n ≤ 9223372036854775807) : (headT w h t p).length ≤ 93 := by
  have h1 := numT_len hn
  unfold headT
  simp only [List.length_append]
  have : sGrd.length = 4 := rfl
  have : [w, h, t, p].length = 4 := rfl
  have : [(10 : UInt8)].length = 1 := rfl
  omega
theorem D_len {D : List UInt8} {W H T P y : Nat} {K : List Int} (hWH : (1 ≤ W ∧ W ≤ 8) ∧ (1 ≤ H ∧ H ≤ 8) ∧ T ≤ 1000 ∧ P ≤ 1000) (h : D ++ rowsT W K y = headT W H T P ++ rowsT W K H) : D.length ≤ 1000 := by
  have h1 := congrArg List.length h
  rw [List.length_append, List.length_append] at h1
  have h2 := rowsT_len W K H
  have h3 : (W + 1) * H ≤ 9 * 8 := Nat.mul_le_mul (by omega) (by omega)
  have h4 : (headT W H T P).length ≤ 93 := headT_len (by
    intro n hn
    simp only [List.mem_cons, List.not_mem_nil, or_false] at hn
    omega)
  omega
theorem take_map {K : List Int} {m kk : Nat} (h : m + kk < K.length) : ((K.drop m).take (kk + 1)).map letB = ((K.drop m).take kk).map letB ++ [letB (K.getD (m + kk) 0)] := by
  rw [List.take_add_one, List.getElem?_drop, List.getElem?_eq_getElem h, List.map_append, List.getD_eq_getElem?_getD, List.getElem?_eq_getElem h]; rfl
theorem row_nums {y W H kc : Nat} {yi Wi : Int} (hyi : yi = ((y + 1 : Nat) : Int) - 1) (hWi : (W : Int) = Wi) (hy : y < H) (hW : 1 ≤ W ∧ W ≤ 8) (hH : 1 ≤ H ∧ H ≤ 8) (hkc : W * H ≤ kc) :
    ∃ m0 m1 : Nat, (m0 = y * W ∧ m1 ≤ W * H) ∧ m1 - m0 = W ∧ m0 + W = m1 ∧ wrap64 (yi * Wi) = (m0 : Int) ∧ wrap64 ((yi + 1) * Wi) = (m1 : Int) ∧ ¬ (kc = m0) ∧ (m1 : Int) ≤ kc ∧ m1 ≤ kc ∧ (m0 : Int) ≤ m1 ∧ yi ≥ 0 ∧ yi ≤ 7 := by
  have hyW : (y + 1) * W ≤ H * W := Nat.mul_le_mul_right _ (by omega)
  have hHW : W * H ≤ 8 * 8 := Nat.mul_le_mul (by omega) (by omega)
  rw [Nat.mul_comm H W] at hyW
  have hm1 : (y + 1) * W = y * W + W := by rw [Nat.add_mul]; omega
  obtain rfl : yi = (y : Int) := by omega
  subst hWi
  refine ⟨y * W, y * W + W, ⟨rfl, by omega⟩, by omega, rfl, ?_, ?_, by omega, by omega, by omega, by omega, by omega, by omega⟩
  · rw [← Int.natCast_mul]; unfold wrap64; omega
  · rw [show ((y : Int) + 1) * W = (((y + 1) * W : Nat) : Int) by simp, hm1]; unfold wrap64; omega
theorem row_end {W m0 N2 y : Nat} {D Z : List UInt8} {K : List Int} (hW : W ≤ 8) (hDl : D.length ≤ 1000) (e1 : N2 = W) (e2 : m0 = y * W) (A : D ++ rowsT W K (y + 1) = Z) :
    Lib.byteCells ((D ++ ((K.drop m0).take N2).map letB) ++ [10]) = Lib.byteCells (D ++ rowT W K y) ∧ (Lib.byteCells (D ++ ((K.drop m0).take N2).map letB)).length + 1 ≤ 140737488355328 ∧ (D ++ rowT W K y) ++ rowsT W K y = Z := by
  subst e1; subst e2
  refine ⟨?_, ?_, ?_⟩
  · unfold rowT; rw [List.append_assoc]
  · rw [byteCells_len, List.length_append, List.length_map]
    have := List.length_take_le N2 (K.drop (y * N2))
    omega
  · unfold rowsT at A; rw [List.append_assoc]; exact A
theorem row_dec2 {y : Nat} {yi : Int} (h : yi = ((y + 1 : Nat) : Int) - 1) : yi - 1 = (y : Int) - 1 := by omega
theorem inc1 (k : Nat) : Value.int .i64 ((k : Int) + 1) = .int .i64 ((k + 1 : Nat) : Int) := by simp
theorem row_inc {kk N2 W : Nat} (h : kk < N2) (e : N2 = W) (hW : W ≤ 8) : wrap64 ((kk : Int) + 1) = ((kk + 1 : Nat) : Int) := by unfold wrap64; omega
theorem text_byte {w wr : World} {W H : Nat} {kv sv : Value} {X Y : List UInt8} (F : TxtF w wr W H kv sv) (hB : Lib.IsBuilderF 80 5 (w.heap.size + 1 + 1) (w.heap.size + 1 + 1) (Lib.byteCells X) wr) (hlen : (Lib.byteCells X).length + 1 ≤ 140737488355328) (u : UInt8) (e : Lib.byteCells (X ++ [u]) = Lib.byteCells Y) :
    Calls Tryz.prog 44 #[.pointer (some ⟨w.heap.size + 1 + 1, 0, none⟩), .int .u8 (u.toNat : Int)] wr fun e w' => e = .returned .nilIface ∧ TxtF w w' W H kv sv ∧ Lib.IsBuilderF 80 5 (w.heap.size + 1 + 1) (w.heap.size + 1 + 1) (Lib.byteCells Y) w' := by
  have hsz := F.sz
  refine (TryzF.Builder_WriteByte (w.heap.size + 1 + 1) (w.heap.size + 1 + 1) (Lib.byteCells X) (u.toNat : Int) wr hB hlen (by omega)).mono ?_
  rintro e w' ⟨rfl, h1, h2, _⟩
  refine ⟨rfl, F.next h2, .inr ?_⟩
  rw [← e, ← byteCells_app]
  exact h1
theorem row_inc2 {j n : Nat} (h : j < n) (h2 : n ≤ 1000) : wrap64 ((j : Int) + 1) = ((j + 1 : Nat) : Int) := by unfold wrap64; omega
theorem row_zero {yi : Int} (h : yi = ((0 : Nat) : Int) - 1) : yi = -1 := by omega
theorem flat_snoc {S : List (List Int × List Int)} {j : Nat} {L1 L2 : List Int} (D : List UInt8) (h : S.take (j + 1) = S.take j ++ [(L1, L2)]) : D ++ (S.take (j + 1)).flatMap slotT = (D ++ (S.take j).flatMap slotT) ++ slotT (L1, L2) := by
  rw [h, List.flatMap_append, List.append_assoc]; simp
structure SlotAt (w : World) (sb so j : Nat) (a1 a2 : Option Addr) (d1 d2 : Nat) (L1 L2 : List Int) : Prop where
  lt : sb < w.heap.size
  c1 : w.cell? ⟨sb, so + j * 2, none⟩ = some (.slice a1 L1.length d1)
  c2 : w.cell? ⟨sb, so + j * 2 + 1, none⟩ = some (.slice a2 L2.length d2)
  i1 : IntsAt w (.slice a1 L1.length d1) L1
  i2 : IntsAt w (.slice a2 L2.length d2) L2
  b1 : L1.length ≤ 100000 ∧ ∀ n ∈ L1, -9223372036854775808 ≤ n ∧ n ≤ 9223372036854775807
  b2 : L2.length ≤ 100000 ∧ ∀ n ∈ L2, -9223372036854775808 ≤ n ∧ n ≤ 9223372036854775807
theorem slot_at {w : World} {sa : Option Addr} {sn sc j : Nat} {S : List (List Int × List Int)} (h : SlotsAt w (.slice sa sn sc) S) (hS : S.length = sn) (hj : j < sn)
    (hb : ∀ s ∈ S, (s.1.length ≤ 100000 ∧ ∀ n ∈ s.1, -9223372036854775808 ≤ n ∧ n ≤ 9223372036854775807) ∧ (s.2.length ≤ 100000 ∧ ∀ n ∈ s.2, -9223372036854775808 ≤ n ∧ n ≤ 9223372036854775807)) :
    ∃ sb so a1 a2 d1 d2 L1 L2, sa = some ⟨sb, so, none⟩ ∧ S.take (j + 1) = S.take j ++ [(L1, L2)] ∧ SlotAt w sb so j a1 a2 d1 d2 L1 L2 := by
  obtain ⟨a, cap, e1, e2⟩ := h
  simp only [Value.slice.injEq] at e1
  obtain ⟨rfl, _, _⟩ := e1
  have hjl : j < S.length := by omega
  obtain ⟨b, off, e3, e4, e5⟩ := e2 (by intro e; rw [e] at hjl; simp at hjl)
  obtain ⟨v1, v2, h1, h2, h3, h4⟩ := e5 j hjl
  have hg : S.getD j ([], []) = S[j] := by rw [List.getD_eq_getElem?_getD, List.getElem?_eq_getElem hjl]; rfl
  rw [hg] at h3 h4
  have hm := hb _ (List.getElem_mem hjl)
  obtain ⟨a1, d1, rfl, h3'⟩ := h3
  obtain ⟨a2, d2, rfl, h4'⟩ := h4
  exact ⟨b, off, a1, a2, d1, d2, S[j].1, S[j].2, e3, by rw [List.take_add_one, List.getElem?_eq_getElem hjl]; rfl, e4, h1, h2, ⟨a1, d1, rfl, h3'⟩, ⟨a2, d2, rfl, h4'⟩, hm.1, hm.2⟩
theorem slot_strs {w : World} {sb so j : Nat} {a1 a2 : Option Addr} {d1 d2 : Nat} {L1 L2 : List Int} (h : SlotAt w sb so j a1 a2 d1 d2 L1 L2) :
    ∃ y1 y2 s1 s2 s3 s4, strB (numT L1) = y1 ∧ strB (numT L2) = y2 ∧ Lib.strCells s4 = Lib.byteCells (slotT (L1, L2)) ∧ s4.size ≤ 4400017 ∧
      ((∀ w, (Op.stringOp .add ⟨#[115, 108, 111, 116, 32, 116, 105, 108, 101, 115]⟩ y1).run Tryz.prog w = .ok (.string s1) w) ∧
      (∀ w, (Op.stringOp .add s1 ⟨#[32, 110, 111, 100, 101, 115]⟩).run Tryz.prog w = .ok (.string s2) w) ∧
      (∀ w, (Op.stringOp .add s2 y2).run Tryz.prog w = .ok (.string s3) w) ∧
      (∀ w, (Op.stringOp .add s3 ⟨#[10]⟩).run Tryz.prog w = .ok (.string s4) w)) ∧
      (¬ (10 + y1.size > 9223372036854775807) ∧ ¬ (s1.size + 6 > 9223372036854775807) ∧ ¬ (s2.size + y2.size > 9223372036854775807) ∧ ¬ (s3.size + 1 > 9223372036854775807)) := by
  have l1 := numT_len h.b1.2
  have l2 := numT_len h.b2.2
  have k1 := h.b1.1
  have k2 := h.b2.1
  have hT : sTil.length = 10 := rfl
  have hN : sNod.length = 6 := rfl
  obtain ⟨y1, hy1⟩ := StrIs.mk' (l := numT L1) (n := 2200000) (by omega)
  obtain ⟨y2, hy2⟩ := StrIs.mk' (l := numT L2) (n := 2200000) (by omega)
  obtain ⟨s1, hs1⟩ := StrIs.mk' (l := sTil ++ numT L1) (n := 2200010) (by rw [List.length_append]; omega)
  obtain ⟨s2, hs2⟩ := StrIs.mk' (l := (sTil ++ numT L1) ++ sNod) (n := 2200016) (by simp only [List.length_append]; omega)
  obtain ⟨s3, hs3⟩ := StrIs.mk' (l := ((sTil ++ numT L1) ++ sNod) ++ numT L2) (n := 4400016) (by simp only [List.length_append]; omega)
  obtain ⟨s4, hs4⟩ := StrIs.mk' (l := slotT (L1, L2)) (n := 4400017) (by unfold slotT; simp only [List.length_append]; have : [(10 : UInt8)].length = 1 := rfl; omega)
  have b1 := hy1.le; have b2 := hy2.le; have b3 := hs1.le; have b4 := hs2.le; have b5 := hs3.le; have b6 := hs4.le
  exact ⟨y1, y2, s1, s2, s3, s4, hy1.eq, hy2.eq, hs4.cells, hs4.le,
    ⟨fun w => StrIs.add (x := ⟨#[115, 108, 111, 116, 32, 116, 105, 108, 101, 115]⟩) (a := sTil) (n := 10) ⟨rfl, Nat.le_refl _⟩ hy1 hs1 rfl (by omega) w,
    fun w => StrIs.add (y := ⟨#[32, 110, 111, 100, 101, 115]⟩) (b := sNod) (m := 6) hs1 ⟨rfl, Nat.le_refl _⟩ hs2 rfl (by omega) w,
    fun w => StrIs.add hs2 hy2 hs3 rfl (by omega) w,
    fun w => StrIs.add (y := ⟨#[10]⟩) (b := [10]) (m := 1) hs3 ⟨rfl, Nat.le_refl _⟩ hs4 (by unfold slotT; simp only [List.append_assoc]) (by omega) w⟩,
    by omega, by omega, by omega, by omega⟩
theorem slots_len {S : List (List Int × List Int)} (hb : ∀ s ∈ S, (s.1.length ≤ 100000 ∧ ∀ n ∈ s.1, -9223372036854775808 ≤ n ∧ n ≤ 9223372036854775807) ∧ (s.2.length ≤ 100000 ∧ ∀ n ∈ s.2, -9223372036854775808 ≤ n ∧ n ≤ 9223372036854775807)) : (S.flatMap slotT).length ≤ 4400017 * S.length := by
  induction S with
  | nil => simp
  | cons s S ih =>
    have h1 := ih fun x hx => hb x (List.mem_cons_of_mem _ hx)
    have h2 := hb s List.mem_cons_self
    have l1 := numT_len h2.1.2
    have l2 := numT_len h2.2.2
    have hT : sTil.length = 10 := rfl
    have hN : sNod.length = 6 := rfl
    rw [List.flatMap_cons, List.length_append, List.length_cons]
    have : (slotT s).length = 10 + ((numT s.1).length + (6 + ((numT s.2).length + 1))) := by unfold slotT; simp only [List.length_append, List.length_cons, List.length_nil]; omega
    omega
theorem alloc_new (w : World) (o : Obj) : (w.alloc o).drew.heap[w.heap.size]? = some o := by show (w.heap.push o)[w.heap.size]? = some o; rw [Array.getElem?_push, if_pos rfl]
theorem alloc_lt (w : World) (o : Obj) : w.heap.size < (w.alloc o).drew.heap.size := by show w.heap.size < (w.heap.push o).size; rw [Array.size_push]; omega
structure SlotH (w : World) (W H kc sc : Nat) (ka sa : Option Addr) (sn : Nat) (X : List UInt8) (B : Nat) (a1 a2 : Option Addr) (l1 l2 d1 d2 : Nat) (w' : World) : Prop where
  F : TxtF w w' W H (.slice ka (W * H) kc) (.slice sa sn sc)
  hB : Lib.IsBuilderF 80 5 (w.heap.size + 1 + 1) (w.heap.size + 1 + 1) (Lib.byteCells X) w'
  le : w.heap.size + 1 + 1 < B
  lt : B < w'.heap.size
  blk : w'.heap[B]? = some (.cells #[.slice a1 l1 d1, .slice a2 l2 d2] 45)
theorem SlotH.c1 {w : World} {W H kc sc : Nat} {ka sa : Option Addr} {sn : Nat} {X : List UInt8} {B : Nat} {a1 a2 : Option Addr} {l1 l2 d1 d2 : Nat} {w' : World} (h : SlotH w W H kc sc ka sa sn X B a1 a2 l1 l2 d1 d2 w') : w'.cell? ⟨B, 0, none⟩ = some (.slice a1 l1 d1) := by rw [Lib.cell_of_heap h.blk]; rfl
theorem SlotH.c2 {w : World} {W H kc sc : Nat} {ka sa : Option Addr} {sn : Nat} {X : List UInt8} {B : Nat} {a1 a2 : Option Addr} {l1 l2 d1 d2 : Nat} {w' : World} (h : SlotH w W H kc sc ka sa sn X B a1 a2 l1 l2 d1 d2 w') : w'.cell? ⟨B, 1, none⟩ = some (.slice a2 l2 d2) := by rw [Lib.cell_of_heap h.blk]; rfl
theorem SlotH.mk0 {w : World} {W H kc sc : Nat} {ka sa : Option Addr} {sn : Nat} {X : List UInt8} {a1 a2 : Option Addr} {l1 l2 d1 d2 : Nat} {wr : World} (F : TxtF w wr W H (.slice ka (W * H) kc) (.slice sa sn sc)) (hB : Lib.IsBuilderF 80 5 (w.heap.size + 1 + 1) (w.heap.size + 1 + 1) (Lib.byteCells X) wr) :
    SlotH w W H kc sc ka sa sn X wr.heap.size a1 a2 l1 l2 d1 d2 (wr.alloc (.cells #[.slice a1 l1 d1, .slice a2 l2 d2] 45)).drew := by
  have hb : Below wr.heap.size wr (wr.alloc (.cells #[.slice a1 l1 d1, .slice a2 l2 d2] 45)).drew := ((Below.refl _ _).alloc (Nat.le_refl _) _).drew
  have hh : (wr.alloc (.cells #[.slice a1 l1 d1, .slice a2 l2 d2] 45)).drew.heap[wr.heap.size]? = some (.cells #[.slice a1 l1 d1, .slice a2 l2 d2] 45) := alloc_new wr _
  have := F.sz
  exact ⟨F.next (hb.mono (by omega)), builderF_below hB hb, by omega, alloc_lt wr _, hh⟩
theorem SlotH.next {w : World} {W H kc sc : Nat} {ka sa : Option Addr} {sn : Nat} {X : List UInt8} {B : Nat} {a1 a2 : Option Addr} {l1 l2 d1 d2 : Nat} {w2 w3 : World} (h : SlotH w W H kc sc ka sa sn X B a1 a2 l1 l2 d1 d2 w2) (hb : Below w2.heap.size w2 w3) : SlotH w W H kc sc ka sa sn X B a1 a2 l1 l2 d1 d2 w3 := by
  have := h.lt
  have := h.le
  exact ⟨h.F.next (hb.mono (by omega)), builderF_below h.hB hb, h.le, Nat.lt_of_lt_of_le h.lt hb.size, by rw [hb.block _ h.lt]; exact h.blk⟩
section
variable {w w2 : World} {W H kc sc : Nat} {ka sa : Option Addr} {sn : Nat} {X : List UInt8} {B : Nat}
theorem slot_c1 {sb so j : Nat} {a1 a2 : Option Addr} {d1 d2 : Nat} {L1 L2 : List Int} {y1 : ByteArray} (HS : SlotAt w sb so j a1 a2 d1 d2 L1 L2) (ht : okTab Lib.pow10Tab w.heap[1]?) (hy : strB (numT L1) = y1) (hw2 : SlotH w W H kc sc ka sa sn X B a1 a2 L1.length L2.length d1 d2 w2) :
    Calls Tryz.prog 43 #[.slice a1 L1.length d1] w2 fun e w' => e = .returned (.string y1) ∧ SlotH w W H kc sc ka sa sn X B a1 a2 L1.length L2.length d1 d2 w' ∧ w'.cell? ⟨B, 0, none⟩ = some (.slice a1 L1.length d1) ∧ w'.cell? ⟨B, 1, none⟩ = some (.slice a2 L2.length d2) := by
  subst hy
  refine (list_calls _ L1 w2 (HS.i1.below hw2.F.below) HS.b1.2 (by have := HS.b1.1; omega) (tab_below ht hw2.F.below)).mono ?_
  rintro e w' ⟨rfl, hb⟩
  have h := hw2.next hb
  exact ⟨rfl, h, h.c1, h.c2⟩
theorem slot_c2 {sb so j : Nat} {a1 a2 : Option Addr} {d1 d2 : Nat} {L1 L2 : List Int} {y2 : ByteArray} (HS : SlotAt w sb so j a1 a2 d1 d2 L1 L2) (ht : okTab Lib.pow10Tab w.heap[1]?) (hy : strB (numT L2) = y2) (hw2 : SlotH w W H kc sc ka sa sn X B a1 a2 L1.length L2.length d1 d2 w2) :
    Calls Tryz.prog 43 #[.slice a2 L2.length d2] w2 fun e w' => e = .returned (.string y2) ∧ SlotH w W H kc sc ka sa sn X B a1 a2 L1.length L2.length d1 d2 w' ∧ w'.cell? ⟨B, 0, none⟩ = some (.slice a1 L1.length d1) ∧ w'.cell? ⟨B, 1, none⟩ = some (.slice a2 L2.length d2) := by
  subst hy
  refine (list_calls _ L2 w2 (HS.i2.below hw2.F.below) HS.b2.2 (by have := HS.b2.1; omega) (tab_below ht hw2.F.below)).mono ?_
  rintro e w' ⟨rfl, hb⟩
  have h := hw2.next hb
  exact ⟨rfl, h, h.c1, h.c2⟩
theorem slot_c3 {a1 a2 : Option Addr} {l1 l2 d1 d2 : Nat} {s4 : ByteArray} {Y U : List UInt8} (hc : Lib.strCells s4 = Lib.byteCells U) (hl : s4.size ≤ 4400017) (hX : (Lib.byteCells X).length ≤ 4500000000) (hY : Y = X ++ U)
    (hw2 : SlotH w W H kc sc ka sa sn X B a1 a2 l1 l2 d1 d2 w2) :
    Calls Tryz.prog 42 #[.pointer (some ⟨w.heap.size + 1 + 1, 0, none⟩), .string s4] w2 fun e w' => e = .returned (.tuple #[.int .i64 s4.size, .nilIface]) ∧ TxtF w w' W H (.slice ka (W * H) kc) (.slice sa sn sc) ∧ Lib.IsBuilderF 80 5 (w.heap.size + 1 + 1) (w.heap.size + 1 + 1) (Lib.byteCells Y) w' ∧
      w'.cell? ⟨B, 0, none⟩ = some (.slice a1 l1 d1) ∧ w'.cell? ⟨B, 1, none⟩ = some (.slice a2 l2 d2) := by
  subst hY
  have h1 := hw2.le
  have h2 := hw2.lt
  refine (TryzF.Builder_WriteString (w.heap.size + 1 + 1) (w.heap.size + 1 + 1) (Lib.byteCells X) s4 w2 hw2.hB (by omega) (by omega)).mono ?_
  rintro e w' ⟨rfl, hB, hb, hk⟩
  have hblk : w'.heap[B]? = some (.cells #[.slice a1 l1 d1, .slice a2 l2 d2] 45) := hk B _ hw2.blk (by simp only [ne_eq, Option.some.injEq]; omega) (by intro c fz h; cases h)
  refine ⟨rfl, hw2.F.next hb, ?_, by rw [Lib.cell_of_heap hblk]; rfl, by rw [Lib.cell_of_heap hblk]; rfl⟩
  rw [← byteCells_app, ← hc]; exact .inr hB
end
theorem txt_end {w wr : World} {j sn : Nat} {W H T P : Nat} {K : List Int} {D : List UInt8} {S : List (List Int × List Int)} (hj : j = sn) (hS : S.length = sn) (hD : D = headT W H T P ++ rowsT W K H)
    (hB : Lib.IsBuilderF 80 5 (w.heap.size + 1 + 1) (w.heap.size + 1 + 1) (Lib.byteCells (D ++ (S.take j).flatMap slotT)) wr) : Lib.IsBuilderF 80 5 (w.heap.size + 1 + 1) (w.heap.size + 1 + 1) (Lib.byteCells (txtT W H T P K S)) wr := by
  subst hj; subst hD
  rw [← hS, List.take_length] at hB
  unfold txtT
  rw [Int.toNat_natCast, Int.toNat_natCast]
  rw [List.append_assoc] at hB
  exact hB
theorem text_len {D : List UInt8} {S : List (List Int × List Int)} {sn : Nat} (hD : D.length ≤ 1000) (hS : S.length = sn) (h2 : sn ≤ 1000)
    (hb : ∀ s ∈ S, (s.1.length ≤ 100000 ∧ ∀ n ∈ s.1, -9223372036854775808 ≤ n ∧ n ≤ 9223372036854775807) ∧ (s.2.length ≤ 100000 ∧ ∀ n ∈ s.2, -9223372036854775808 ≤ n ∧ n ≤ 9223372036854775807)) (j : Nat) :
    (Lib.byteCells (D ++ (S.take j).flatMap slotT)).length ≤ 4500000000 := by
  rw [byteCells_len, List.length_append]
  have h1 := slots_len (S := S.take j) fun s hs => hb s (List.mem_of_mem_take hs)
  have h2 : (S.take j).length ≤ 1000 := by rw [List.length_take]; omega
  have h3 : 4400017 * (S.take j).length ≤ 4400017 * 1000 := Nat.mul_le_mul_left _ h2
  omega
set_option maxHeartbeats 2000000 in
theorem text_calls (W H T P sn sc kc : Nat) (ka sa : Option Addr) (K : List Int) (S : List (List Int × List Int)) (w : World) (ht : okTab Lib.pow10Tab w.heap[1]?)
    (hk : IntsAt w (.slice ka (W * H) kc) K) (hkc : W * H ≤ kc) (hK : K.length = W * H) (hK2 : ∀ k ∈ K, 0 ≤ k ∧ k ≤ 2) (hWH : (1 ≤ W ∧ W ≤ 8) ∧ (1 ≤ H ∧ H ≤ 8) ∧ T ≤ 1000 ∧ P ≤ 1000)
    (hs : SlotsAt w (.slice sa sn sc) S) (hS : S.length = sn) (hS2 : sn ≤ 1000) (hS3 : ∀ s ∈ S, (s.1.length ≤ 100000 ∧ ∀ n ∈ s.1, -9223372036854775808 ≤ n ∧ n ≤ 9223372036854775807) ∧ (s.2.length ≤ 100000 ∧ ∀ n ∈ s.2, -9223372036854775808 ≤ n ∧ n ≤ 9223372036854775807)) :
    Calls Tryz.prog 16 #[.agg #[.int .i64 W, .int .i64 H, .int .i64 T, .int .i64 P, .slice ka (W * H) kc, .slice sa sn sc]] w fun e w' => e = .returned (.string (strB (txtT W H T P K S))) ∧ Below w.heap.size w w' := by
  have hB0 : ∀ w2 : World, Lib.IsBuilderF 80 5 w2.heap.size w2.heap.size [] (w2.alloc (.cells #[.pointer none, .slice none 0 0] 80)) := fun w2 => .of (Lib.fresh_isBuilder 80 5 w2)
  have hnum : ∀ n ∈ [(W : Int), (H : Int), (T : Int), (P : Int)], -9223372036854775808 ≤ n ∧ n ≤ 9223372036854775807 := by
    intro n hn
    simp only [List.mem_cons, List.not_mem_nil, or_false] at hn
    omega
  have hnl := numT_len hnum
  obtain ⟨z0, hz0⟩ := StrIs.mk' (l := numT [(W : Int), (H : Int), (T : Int), (P : Int)]) (n := 88) hnl
  obtain ⟨z1, hz1⟩ := StrIs.mk' (l := sGrd ++ numT [(W : Int), (H : Int), (T : Int), (P : Int)]) (n := 92) (by rw [List.length_append]; have : sGrd.length = 4 := rfl; have : [(W : Int), (H : Int), (T : Int), (P : Int)].length = 4 := rfl; omega)
  obtain ⟨z2, hz2⟩ := StrIs.mk' (l := headT W H T P) (n := 93) (by unfold headT; simp only [List.length_append]; have : sGrd.length = 4 := rfl; have : [(W : Int), (H : Int), (T : Int), (P : Int)].length = 4 := rfl; have : [(10 : UInt8)].length = 1 := rfl; omega)
  have hl0 : ∀ (w2 : World) (bs : Nat), okTab Lib.pow10Tab w2.heap[1]? → (∀ j, j < 4 → w2.cell? ⟨bs, j, none⟩ = some (.int .i64 ([(W : Int), (H : Int), (T : Int), (P : Int)].getD j 0))) → bs < w2.heap.size →
      Calls Tryz.prog 43 #[.slice (some ⟨bs, 0, none⟩) 4 4] w2 fun e w' => e = .returned (.string z0) ∧ Below w2.heap.size w2 w' := by
    intro w2 bs ht2 hc hb
    rw [← hz0.eq]
    exact list_calls _ _ w2 ⟨_, 4, rfl, fun _ => ⟨bs, 0, rfl, hb, fun j hj => by rw [Nat.zero_add]; exact hc j hj⟩⟩ hnum (by simp) ht2
  have ha1 := fun w2 => StrIs.add (x := ⟨#[103, 114, 105, 100]⟩) (a := sGrd) (n := 4) ⟨rfl, Nat.le_refl _⟩ hz0 hz1 rfl (by omega) w2
  have ha2 := fun w2 => StrIs.add (y := ⟨#[10]⟩) (b := [10]) (m := 1) hz1 ⟨rfl, Nat.le_refl _⟩ hz2 (by unfold headT; rw [List.append_assoc]) (by omega) w2
  have n1 : ¬ (4 + z0.size > 9223372036854775807) := by have := hz0.le; omega
  have n2 : ¬ (z1.size + 1 > 9223372036854775807) := by have := hz1.le; omega
  go_enter Tryz.func16, Tryz.ntmps16
  go_wp2_with (go_at_call 43; refine (hl0 _ _ ?h1 ?h2 ?h3).mono ?_)
  case h1 => exact tab_below ht ((((( Below.refl _ w).alloc (Nat.le_refl _) _).alloc (by simp) _).alloc (by simp; omega) _).alloc (by simp; omega) _)
  case h2 =>
    intro j hj
    have h4 := (heap4 w (.cells #[.int .i64 W, .int .i64 H, .int .i64 T, .int .i64 P, .slice ka (W * H) kc, .slice sa sn sc] 49) (.cells #[.int .i64 W, .int .i64 H, .int .i64 T, .int .i64 P, .slice ka (W * H) kc] 29) (.cells #[.pointer none, .slice none 0 0] 80) (.cells #[.int .i64 W, .int .i64 H, .int .i64 T, .int .i64 P] 3)).2.2.2
    rw [Lib.cell_of_heap h4]
    have : j = 0 ∨ j = 1 ∨ j = 2 ∨ j = 3 := by omega
    rcases this with rfl | rfl | rfl | rfl <;> rfl
  case h3 => simp
  rintro e w5 ⟨rfl, hb5⟩
  have hh := heap4 w (.cells #[.int .i64 W, .int .i64 H, .int .i64 T, .int .i64 P, .slice ka (W * H) kc, .slice sa sn sc] 49) (.cells #[.int .i64 W, .int .i64 H, .int .i64 T, .int .i64 P, .slice ka (W * H) kc] 29) (.cells #[.pointer none, .slice none 0 0] 80) (.cells #[.int .i64 W, .int .i64 H, .int .i64 T, .int .i64 P] 3)
  have hbA : Below w.heap.size w w5 := ((((( Below.refl _ w).alloc (Nat.le_refl _) _).alloc (by simp) _).alloc (by simp; omega) _).alloc (by simp; omega) _).trans (hb5.mono (by simp; omega))
  have hsz : w.heap.size + 1 + 1 + 1 + 1 ≤ w5.heap.size := by have := hb5.size; simpa using this
  have hk5 : ∀ k : Nat, k < w.heap.size + 1 + 1 + 1 → ∀ o, ((((w.alloc (.cells #[.int .i64 W, .int .i64 H, .int .i64 T, .int .i64 P, .slice ka (W * H) kc, .slice sa sn sc] 49)).alloc (.cells #[.int .i64 W, .int .i64 H, .int .i64 T, .int .i64 P, .slice ka (W * H) kc] 29)).alloc (.cells #[.pointer none, .slice none 0 0] 80)).alloc (.cells #[.int .i64 W, .int .i64 H, .int .i64 T, .int .i64 P] 3)).heap[k]? = some o → w5.heap[k]? = some o :=
    fun k hk o ho => by rw [hb5.block k (by simp; omega)]; exact ho
  have F5 : TxtF w w5 W H (.slice ka (W * H) kc) (.slice sa sn sc) := by
    refine ⟨hbA, ?_, ?_, ?_, ?_, by omega⟩
    · rw [Lib.cell_of_heap (hk5 _ (by omega) _ hh.2.1)]; rfl
    · rw [Lib.cell_of_heap (hk5 _ (by omega) _ hh.2.1)]; rfl
    · rw [Lib.cell_of_heap (hk5 _ (by omega) _ hh.2.1)]; rfl
    · rw [Lib.cell_of_heap (hk5 _ (by omega) _ hh.1)]; rfl
  have hB5 : Lib.IsBuilderF 80 5 (w.heap.size + 1 + 1) (w.heap.size + 1 + 1) [] w5 := .of (.inl ⟨Nat.le_refl _, _, hk5 _ (by omega) _ hh.2.2.1, ⟨rfl, .inl ⟨rfl, rfl⟩⟩, by simp [Value.ownBlock]⟩)
  clear hb5 hh hk5 hl0 hB0
  have hl2 := hz2.le
  have hc2 := hz2.cells
  clear hz0 hz1 hz2
  go_wp2_with (go_at_call 42; refine (TryzF.Builder_WriteString (w.heap.size + 1 + 1) (w.heap.size + 1 + 1) [] z2 w5 hB5 ?h4 ?h5).mono ?_)
  case h4 => simp; omega
  case h5 => omega
  rintro e w6 ⟨rfl, hB6, hb6, _⟩
  have F6 := F5.next hb6
  rw [List.nil_append, hc2] at hB6
  have c1 := F6.g1
  have hH1 : (1 : Int) ≤ H ∧ (H : Int) ≤ 8 := by omega
  obtain ⟨kb, ko, rfl, hkb, hkcell⟩ : ∃ kb ko, ka = some ⟨kb, ko, none⟩ ∧ kb < w.heap.size ∧ ∀ j, j < W * H → w.cell? ⟨kb, ko + j, none⟩ = some (.int .i64 (K.getD j 0)) := by
    obtain ⟨a, cap, e1, e2⟩ := hk
    have hpos : 0 < W * H := Nat.mul_pos hWH.1.1 hWH.2.1.1
    obtain ⟨b, off, e3, e4, e5⟩ := e2 (by intro e; rw [e] at hK; simp at hK; omega)
    simp only [Value.slice.injEq] at e1
    exact ⟨b, off, by rw [e1.1, e3], e4, fun j hj => e5 j (by omega)⟩
  have AK : Aside (K.length = W * H ∧ (∀ k ∈ K, 0 ≤ k ∧ k ≤ 2) ∧ ∀ j, j < W * H → w.cell? ⟨kb, ko + j, none⟩ = some (.int .i64 (K.getD j 0))) := ⟨hK, hK2, hkcell⟩
  have AS : Aside (SlotsAt w (.slice sa sn sc) S ∧ S.length = sn ∧ ∀ s ∈ S, (s.1.length ≤ 100000 ∧ ∀ n ∈ s.1, -9223372036854775808 ≤ n ∧ n ≤ 9223372036854775807) ∧ (s.2.length ≤ 100000 ∧ ∀ n ∈ s.2, -9223372036854775808 ≤ n ∧ n ≤ 9223372036854775807)) := ⟨hs, hS, hS3⟩
  have A0 : Aside (okTab Lib.pow10Tab w.heap[1]?) := ht
  have hBb : Lib.IsBuilderF 80 5 (w.heap.size + 1 + 1) (w.heap.size + 1 + 1) (Lib.byteCells (headT W H T P)) w6 := .inr hB6
  clear hK hK2 hk hkcell hs hS hS3 ht hnum hnl ha1 ha2 n1 n2 hB5 hB6 F5 hbA hsz hl2 hc2 hb6
  go_wp2
  go_loopg [5] H (fun gg s5 wr => ∃ (yi : Int) (yy : Nat) (D : List UInt8), yy ≤ gg ∧ yy ≤ H ∧ s5 = .int .i64 yi ∧ Aside (yi = (yy : Int) - 1) ∧ TxtF w wr W H (.slice (some ⟨kb, ko, none⟩) (W * H) kc) (.slice sa sn sc) ∧ Lib.IsBuilderF 80 5 (w.heap.size + 1 + 1) (w.heap.size + 1 + 1) (Lib.byteCells D) wr ∧ Aside (D ++ rowsT W K yy = headT W H T P ++ rowsT W K H))
  case atStart =>
    exact ⟨(H : Int) - 1, H, headT W H T P, Nat.le_refl _, Nat.le_refl _, rfl, rfl, F6, hBb, rfl⟩
  case round =>
    obtain ⟨yi, yy, D, hg, hyH, rfl, Ay, F, hB, A⟩ := hrel
    cases yy with
    | zero =>
      have c1 := F.g1
      have c5 := F.c5
      have hge : ¬ (yi ≥ 0) := by rw [row_zero Ay.out]; omega
      have A2 : Aside (D = headT W H T P ++ rowsT W K H) := by have := A.out; rw [show rowsT W K 0 = [] from rfl, List.append_nil] at this; exact this
      have AD : Aside (D.length ≤ 1000) := D_len hWH A.out
      clear A
      go_wp2
      go_loopg [57] sn (fun g2 s57 wr2 => ∃ j : Nat, j ≤ sn ∧ sn - j ≤ g2 ∧ s57 = .int .i64 j ∧ TxtF w wr2 W H (.slice (some ⟨kb, ko, none⟩) (W * H) kc) (.slice sa sn sc) ∧ Lib.IsBuilderF 80 5 (w.heap.size + 1 + 1) (w.heap.size + 1 + 1) (Lib.byteCells (D ++ (S.take j).flatMap slotT)) wr2)
      case atStart => exact ⟨0, Nat.zero_le _, by omega, rfl, F, by simpa using hB⟩
      case round =>
        obtain ⟨j, hj, hg2, rfl, F2, hB2⟩ := hrel
        by_cases hlt : j < sn
        · have hltz : (j : Int) < (sn : Int) := by omega
          obtain ⟨sb, so, a1, a2, d1, d2, L1, L2, rfl, htk, HS⟩ := slot_at AS.out.1 AS.out.2.1 hlt AS.out.2.2
          obtain ⟨y1, y2, s1, s2, s3, s4, hy1, hy2, hc4, hl4, ⟨ad1, ad2, ad3, ad4⟩, n1, n2, n3, n4⟩ := slot_strs HS
          have hw8 : Aside (wrap64 ((j : Int) + 1) = ((j + 1 : Nat) : Int)) := row_inc2 hlt hS2
          have hk1 : wr.cell? ⟨sb, so + j * 2, none⟩ = some (.slice a1 L1.length d1) := (F2.below.cell (p := ⟨sb, so + j * 2, none⟩) HS.lt).trans HS.c1
          have hk2 : wr.cell? ⟨sb, so + j * 2 + 1, none⟩ = some (.slice a2 L2.length d2) := (F2.below.cell (p := ⟨sb, so + j * 2 + 1, none⟩) HS.lt).trans HS.c2
          have hH0 : SlotH w W H kc sc (some ⟨kb, ko, none⟩) (some ⟨sb, so, none⟩) sn (D ++ (S.take j).flatMap slotT) wr.heap.size a1 a2 L1.length L2.length d1 d2 (wr.alloc (.cells #[.slice a1 L1.length d1, .slice a2 L2.length d2] 45)).drew := SlotH.mk0 F2 hB2
          have hL1 := fun w2 hw2 => slot_c1 HS A0.out hy1 (w2 := w2) (sc := sc) (sn := sn) (X := D ++ (S.take j).flatMap slotT) (kc := kc) (ka := some ⟨kb, ko, none⟩) (sa := some ⟨sb, so, none⟩) (W := W) (H := H) (B := wr.heap.size) hw2
          have hL2 := fun w2 hw2 => slot_c2 HS A0.out hy2 (w2 := w2) (sc := sc) (sn := sn) (X := D ++ (S.take j).flatMap slotT) (kc := kc) (ka := some ⟨kb, ko, none⟩) (sa := some ⟨sb, so, none⟩) (W := W) (H := H) (B := wr.heap.size) hw2
          have hC := fun w2 hw2 => slot_c3 hc4 hl4 (text_len AD.out AS.out.2.1 hS2 AS.out.2.2 j) (flat_snoc D htk) (w2 := w2) (w := w) (B := wr.heap.size) (a1 := a1) (a2 := a2) (l1 := L1.length) (l2 := L2.length) (d1 := d1) (d2 := d2) (sc := sc) (sn := sn) (kc := kc) (ka := some ⟨kb, ko, none⟩) (sa := some ⟨sb, so, none⟩) (W := W) (H := H) hw2
          have hD1 := hH0.c1
          have hD2 := hH0.c2
          clear htk hy1 hy2 hc4 hl4 HS
          go_wp2
          go_region_held3 (fun w' => w'.cell? ⟨wr.heap.size, 0, none⟩ = some (.slice a1 L1.length d1) ∧ w'.cell? ⟨wr.heap.size, 1, none⟩ = some (.slice a2 L2.length d2)) (first | go_keep) (first | ((go_at_call 43; with_reducible refine (hL1 _ hH0).mono ?_); rintro e w3 ⟨rfl, h3, h4, h5⟩) | ((go_at_call 43; with_reducible refine (hL2 _ h3).mono ?_); rintro e w4 ⟨rfl, h6, h7, h8⟩) | ((go_at_call 42; with_reducible refine (hC _ h6).mono ?_); rintro e w5 ⟨rfl, h9, h10, h11, h12⟩))
          clear h3 h4 h5 h6 h7 h8 h11 h12 hH0 hL1 hL2 hC hD1 hD2 hk1 hk2 F2 hB2 ad1 ad2 ad3 ad4 n1 n2 n3 n4
          go_wp2
          go_roundg (sn - (j + 1))
          case measure => omega
          case rel => exact ⟨j + 1, by omega, by omega, by first | exact inc1 j | rw [hw8.out], h9, h10⟩
        · have hltz : ¬ ((j : Int) < (sn : Int)) := by omega
          have hBe := txt_end (by omega) AS.out.2.1 A2.out hB2
          have hsz := F2.sz
          clear hB2 A2
          go_wp2_with (go_at_call 45; refine (TryzF.Builder_String_any (w.heap.size + 1 + 1) (w.heap.size + 1 + 1) (txtT W H T P K S) wr hBe (by omega)).mono ?_; rintro e w3 ⟨rfl, _, hb3, _⟩)
          go_ret
          exact ⟨rfl, F2.below.trans (hb3.mono (by omega))⟩
    | succ y =>
      have c1 := F.g1
      have c0 := F.g0
      have c4 := F.g4
      have hDl := D_len hWH A.out
      generalize hWi : (W : Int) = Wi at *
      obtain ⟨m0, m1, hm0, hm1, hm2, e0, e1, hne, hle1, hle2, hle3, hge, hy7⟩ := row_nums (y := y) (W := W) (H := H) (kc := kc) Ay.out hWi (by omega) hWH.1 hWH.2.1 hkc
      have AW : Aside ((m0 = y * W ∧ m1 ≤ W * H) ∧ m1 - m0 = W ∧ m0 + W = m1 ∧ (W : Int) = Wi) := ⟨hm0, hm1, hm2, hWi⟩
      clear hm0 hm1 hm2 hWi
      go_wp2
      simp only [e0, e1]
      generalize m1 - m0 = N2 at *
      clear e0 e1
      have AN : Aside (N2 = W) := AW.out.2.1
      go_loopg [7, 45] N2 (fun g2 _ s45 wr2 => ∃ kk : Nat, kk ≤ N2 ∧ N2 - kk ≤ g2 ∧ s45 = .int .i64 kk ∧ TxtF w wr2 W H (.slice (some ⟨kb, ko, none⟩) (W * H) kc) (.slice sa sn sc) ∧ Lib.IsBuilderF 80 5 (w.heap.size + 1 + 1) (w.heap.size + 1 + 1) (Lib.byteCells (D ++ ((K.drop m0).take kk).map letB)) wr2)
      case atStart => exact ⟨0, Nat.zero_le _, by omega, rfl, F, by simpa using hB⟩
      case round =>
        obtain ⟨kk, hkk, hg2, rfl, F2, hB2⟩ := hrel
        by_cases hlt : kk < N2
        · have hltz : (kk : Int) < (N2 : Int) := by omega
          have hw8 : Aside (wrap64 ((kk : Int) + 1) = ((kk + 1 : Nat) : Int)) := row_inc hlt AN.out hWH.1.2
          have hin : m0 + kk < K.length := by
            have e2 := AN.out; have e3 := AW.out.2.2.1; have e4 := AK.out.1; have e5 := AW.out.1.2
            omega
          have hcell : wr.cell? ⟨kb, ko + m0 + kk, none⟩ = some (.int .i64 (K.getD (m0 + kk) 0)) := by
            rw [F2.below.cell (p := ⟨kb, ko + m0 + kk, none⟩) hkb, Nat.add_assoc]
            exact AK.out.2.2 (m0 + kk) (by rw [← AK.out.1]; exact hin)
          have hkr : 0 ≤ K.getD (m0 + kk) 0 ∧ K.getD (m0 + kk) 0 ≤ 2 := by
            refine AK.out.2.1 _ ?_
            rw [List.getD_eq_getElem?_getD, List.getElem?_eq_getElem hin]; exact List.getElem_mem hin
          have htm := take_map hin
          have hTl : (((K.drop m0).take kk).map letB).length ≤ 1000 := by
            rw [List.length_map]
            have := List.length_take_le kk (K.drop m0)
            have := AN.out
            omega
          generalize K.getD (m0 + kk) 0 = kv at hcell hkr htm
          have AT : Aside (((K.drop m0).take (kk + 1)).map letB = ((K.drop m0).take kk).map letB ++ [letB kv]) := htm
          clear htm hin
          have hsz := F2.sz
          have hlen : (Lib.byteCells (D ++ ((K.drop m0).take kk).map letB)).length + 1 ≤ 140737488355328 := by rw [byteCells_len, List.length_append]; omega
          have h3 : kv = 0 ∨ kv = 1 ∨ kv = 2 := by omega
          clear hkr hDl hTl
          obtain ⟨u, hu⟩ : ∃ u : UInt8, letB kv = u := ⟨_, rfl⟩
          have hcs : Calls Tryz.prog 44 #[.pointer (some ⟨w.heap.size + 1 + 1, 0, none⟩), .int .u8 (u.toNat : Int)] wr fun e w' => e = .returned .nilIface ∧ TxtF w w' W H (.slice (some ⟨kb, ko, none⟩) (W * H) kc) (.slice sa sn sc) ∧ Lib.IsBuilderF 80 5 (w.heap.size + 1 + 1) (w.heap.size + 1 + 1) (Lib.byteCells (D ++ ((K.drop m0).take (kk + 1)).map letB)) w' := by
            refine (TryzF.Builder_WriteByte (w.heap.size + 1 + 1) (w.heap.size + 1 + 1) (Lib.byteCells (D ++ ((K.drop m0).take kk).map letB)) (u.toNat : Int) wr hB2 hlen (by omega)).mono ?_
            rintro e w' ⟨rfl, h1, h2, _⟩
            refine ⟨rfl, F2.next h2, .inr ?_⟩
            rw [AT.out, hu, ← List.append_assoc, ← byteCells_app]
            exact h1
          clear hlen AT hB2
          rcases h3 with rfl | rfl | rfl
          · have hu2 : (u.toNat : Int) = 46 := by rw [← hu]; rfl
            rw [hu2] at hcs
            clear hu hu2
            go_wp2_with (go_at_call 44; refine hcs.mono ?_; rintro e w3 ⟨rfl, F3, hB3⟩)
            go_roundg (N2 - (kk + 1))
            case measure => omega
            case rel => exact ⟨kk + 1, by omega, by omega, by first | exact inc1 kk | rw [hw8.out], F3, hB3⟩
          · have hu2 : (u.toNat : Int) = 76 := by rw [← hu]; rfl
            rw [hu2] at hcs
            clear hu hu2
            go_wp2_with (go_at_call 44; refine hcs.mono ?_; rintro e w3 ⟨rfl, F3, hB3⟩)
            go_roundg (N2 - (kk + 1))
            case measure => omega
            case rel => exact ⟨kk + 1, by omega, by omega, by first | exact inc1 kk | rw [hw8.out], F3, hB3⟩
          · have hu2 : (u.toNat : Int) = 77 := by rw [← hu]; rfl
            rw [hu2] at hcs
            clear hu hu2
            go_wp2_with (go_at_call 44; refine hcs.mono ?_; rintro e w3 ⟨rfl, F3, hB3⟩)
            go_roundg (N2 - (kk + 1))
            case measure => omega
            case rel => exact ⟨kk + 1, by omega, by omega, by first | exact inc1 kk | rw [hw8.out], F3, hB3⟩
        · have hltz : ¬ ((kk : Int) < (N2 : Int)) := by omega
          obtain rfl : kk = N2 := by omega
          obtain ⟨hrow, hlen, hA2⟩ := row_end hWH.1.2 hDl AN.out AW.out.1.1 A.out
          have hcs : Calls Tryz.prog 44 #[.pointer (some ⟨w.heap.size + 1 + 1, 0, none⟩), .int .u8 10] wr fun e w' => e = .returned .nilIface ∧ TxtF w w' W H (.slice (some ⟨kb, ko, none⟩) (W * H) kc) (.slice sa sn sc) ∧ Lib.IsBuilderF 80 5 (w.heap.size + 1 + 1) (w.heap.size + 1 + 1) (Lib.byteCells (D ++ rowT W K y)) w' := by
            exact text_byte F2 hB2 hlen 10 hrow
          have A2 : Aside ((D ++ rowT W K y) ++ rowsT W K y = headT Wi H T P ++ rowsT W K H) := hA2
          clear hlen hrow hDl hB2 A hA2
          go_wp2_with (go_at_call 44; refine hcs.mono ?_; rintro e w3 ⟨rfl, F3, hB3⟩)
          go_roundg y
          case measure => omega
          case rel => exact ⟨yi - 1, y, D ++ rowT W K y, Nat.le_refl _, by omega, rfl, row_dec2 Ay.out, F3, hB3, A2⟩
end Go.Proofs.YtgahnelicbddcaaGreatDoor

namespace Go.Sx
def intsD : DV → List Int
  | .ro n _ c => lsOf n c
  | .rf n _ c => lsOf n c
  | .x _ => []
def IntsD : DV → Prop
  | .ro n e c => e = 1 ∧ Proofs.IntRow n c
  | .rf n e c => e = 1 ∧ Proofs.IntRow n c
  | .x v => v = .slice none 0 0
def badsD : DV → List (List Int × List Int)
  | .ro n _ c => (List.range n).map fun i => (intsD (c i 0), intsD (c i 1))
  | .rf n _ c => (List.range n).map fun i => (intsD (c i 0), intsD (c i 1))
  | .x _ => []
def BadsD : DV → Prop
  | .ro n e c => e = 2 ∧ ∀ i, i < n → IntsD (c i 0) ∧ IntsD (c i 1)
  | .rf n e c => e = 2 ∧ ∀ i, i < n → IntsD (c i 0) ∧ IntsD (c i 1)
  | .x v => v = .slice none 0 0
def OkTx (w h t p : Int) (K : List Int) (S : List (List Int × List Int)) : Prop :=
  ((1 ≤ w ∧ w ≤ 8) ∧ (1 ≤ h ∧ h ≤ 8) ∧ (0 ≤ t ∧ t ≤ 1000) ∧ (0 ≤ p ∧ p ≤ 1000)) ∧ (K.length = w.toNat * h.toNat ∧ ∀ k ∈ K, 0 ≤ k ∧ k ≤ 2) ∧ S.length ≤ 1000 ∧
  ∀ s ∈ S, (s.1.length ≤ 100000 ∧ ∀ n ∈ s.1, -9223372036854775808 ≤ n ∧ n ≤ 9223372036854775807) ∧ (s.2.length ≤ 100000 ∧ ∀ n ∈ s.2, -9223372036854775808 ≤ n ∧ n ≤ 9223372036854775807)
def _root_.Go.Proofs.TxtOK (w h t p : Int) (kd sd : DV) : Prop := IntsD kd ∧ BadsD sd ∧ OkTx w h t p (intsD kd) (badsD sd)
def _root_.Go.Proofs.TxtRO (w h t p : Int) (m : Nat) (c : Nat → Nat → DV) (k : Nat) (s : Nat → Nat → DV) : Prop := Proofs.TxtOK w h t p (.ro m 1 c) (.ro k 2 s)
theorem repD_ro {w : World} {F : Nat → Prop} {v : Value} {n e : Nat} {c : Nat → Nat → DV} (hF : ∀ b, F b → b < w.heap.size) (h : RepD w F v (.ro n e c)) :
    ∃ a cap, v = .slice a n cap ∧ n ≤ cap ∧ (n ≠ 0 → ∃ b off, a = some ⟨b, off, none⟩ ∧ b < w.heap.size ∧ ∀ i j, i < n → j < e → ∃ u, w.cell? ⟨b, off + (i * e + j), none⟩ = some u ∧ RepD w F u (c i j)) := by
  cases h with
  | nil => exact ⟨none, 0, rfl, Nat.le_refl _, fun h => absurd rfl h⟩
  | z a cap => exact ⟨_, _, rfl, Nat.zero_le _, fun h => absurd rfl h⟩
  | ro b o _ cap _ _ f hb hc hcell hone hrep => exact ⟨_, cap, rfl, hc, fun h => ⟨b, o, rfl, hF _ (hb h), fun i j hi hj => ⟨f i j, hcell i j hi hj, hrep i j hi hj⟩⟩⟩
end Go.Sx
namespace Go.Proofs.YtgahnelicbddcaaGreatDoor
open Go.Sx Go.RowKit Go.Sort Go.Lib
set_option maxRecDepth 100000
theorem ints_row {w : World} {F : Nat → Prop} {v : Value} {n : Nat} {c : Nat → Nat → DV} (hF : ∀ b, F b → b < w.heap.size) (h : RepD w F v (.ro n 1 c)) (hi : IntRow n c) : ∃ a cap, v = .slice a n cap ∧ n ≤ cap ∧ IntsAt w v (lsOf n c) := by
  obtain ⟨a, cap, rfl, hle, h2⟩ := repD_ro hF h
  refine ⟨a, cap, rfl, hle, a, cap, by rw [lsOf_len], fun hne => ?_⟩
  obtain ⟨b, off, rfl, hb, hc⟩ := h2 (by intro e; subst e; exact hne rfl)
  refine ⟨b, off, rfl, hb, fun j hj => ?_⟩
  rw [lsOf_len] at hj
  obtain ⟨u, hu, hr⟩ := hc j 0 hj (by omega)
  rw [Nat.mul_one, Nat.add_zero] at hu
  rw [hu]
  rw [cell_lsOf hi hj] at hr
  cases hr
  rfl
theorem ints_of_rep {w : World} {F : Nat → Prop} {v : Value} {d : DV} (hF : ∀ b, F b → b < w.heap.size) (h : RepD w F v d) (hi : IntsD d) : ∃ a cap, v = .slice a (intsD d).length cap ∧ (intsD d).length ≤ cap ∧ IntsAt w v (intsD d) := by
  cases d with
  | ro n e c =>
    obtain ⟨rfl, hi⟩ := hi
    obtain ⟨a, cap, e1, e2, e3⟩ := ints_row hF h hi
    exact ⟨a, cap, by show v = .slice a (lsOf n c).length cap; rw [lsOf_len]; exact e1, by show (lsOf n c).length ≤ cap; rw [lsOf_len]; exact e2, e3⟩
  | rf n e c =>
    obtain ⟨rfl, hi⟩ := hi
    cases h with
    | rf _ _ _ _ h hc =>
    obtain ⟨a, cap, e1, e2, e3⟩ := ints_row hF h hi
    exact ⟨a, cap, by show v = .slice a (lsOf n c).length cap; rw [lsOf_len]; exact e1, by show (lsOf n c).length ≤ cap; rw [lsOf_len]; exact e2, e3⟩
  | x u =>
    cases h
    have hu : v = .slice none 0 0 := hi
    subst hu
    exact ⟨none, 0, rfl, Nat.le_refl _, none, 0, rfl, fun h => absurd rfl h⟩
theorem bads_row {w : World} {F : Nat → Prop} {v : Value} {n : Nat} {c : Nat → Nat → DV} (hF : ∀ b, F b → b < w.heap.size) (h : RepD w F v (.ro n 2 c)) (hi : ∀ i, i < n → IntsD (c i 0) ∧ IntsD (c i 1)) :
    ∃ a cap, v = .slice a n cap ∧ SlotsAt w v ((List.range n).map fun i => (intsD (c i 0), intsD (c i 1))) := by
  obtain ⟨a, cap, rfl, hle, h2⟩ := repD_ro hF h
  refine ⟨a, cap, rfl, a, cap, by rw [List.length_map, List.length_range], fun hne => ?_⟩
  obtain ⟨b, off, rfl, hb, hc⟩ := h2 (by intro e; subst e; exact hne rfl)
  refine ⟨b, off, rfl, hb, fun j hj => ?_⟩
  rw [List.length_map, List.length_range] at hj
  obtain ⟨u, hu, hr⟩ := hc j 0 hj (by omega)
  obtain ⟨u2, hu2, hr2⟩ := hc j 1 hj (by omega)
  have hg : ((List.range n).map fun i => (intsD (c i 0), intsD (c i 1))).getD j ([], []) = (intsD (c j 0), intsD (c j 1)) := by
    rw [List.getD_eq_getElem?_getD, List.getElem?_map, List.getElem?_range hj]; rfl
  rw [hg]
  obtain ⟨_, _, _, _, k1⟩ := ints_of_rep hF hr (hi j hj).1
  obtain ⟨_, _, _, _, k2⟩ := ints_of_rep hF hr2 (hi j hj).2
  exact ⟨u, u2, by rw [Nat.add_zero] at hu; exact hu, hu2, k1, k2⟩
theorem bads_of_rep {w : World} {F : Nat → Prop} {v : Value} {d : DV} (hF : ∀ b, F b → b < w.heap.size) (h : RepD w F v d) (hi : BadsD d) : ∃ a cap, v = .slice a (badsD d).length cap ∧ SlotsAt w v (badsD d) := by
  cases d with
  | ro n e c =>
    obtain ⟨rfl, hi⟩ := hi
    obtain ⟨a, cap, e1, e3⟩ := bads_row hF h hi
    exact ⟨a, cap, by show v = .slice a ((List.range n).map _).length cap; rw [List.length_map, List.length_range]; exact e1, e3⟩
  | rf n e c =>
    obtain ⟨rfl, hi⟩ := hi
    cases h with
    | rf _ _ _ _ h hc =>
    obtain ⟨a, cap, e1, e3⟩ := bads_row hF h hi
    exact ⟨a, cap, by show v = .slice a ((List.range n).map _).length cap; rw [List.length_map, List.length_range]; exact e1, e3⟩
  | x u =>
    cases h
    have hu : v = .slice none 0 0 := hi
    subst hu
    exact ⟨none, 0, rfl, none, 0, rfl, fun h => absurd rfl h⟩
noncomputable def cTxt : Ctr := fun ss => match ss with
  | [.agg [.d (.x (.int .i64 w)), .d (.x (.int .i64 h)), .d (.x (.int .i64 t)), .d (.x (.int .i64 p)), .d (.ro m 1 c), .d (.ro k 2 s)]] => .need (TxtRO w h t p m c k s) (.ret (strV (txtT w h t p (intsD (.ro m 1 c)) (badsD (.ro k 2 s)))))
  | [.agg [.d (.x (.int .i64 w)), .d (.x (.int .i64 h)), .d (.x (.int .i64 t)), .d (.x (.int .i64 p)), .d kd, .d sd]] => .need (TxtOK w h t p kd sd) (.ret (strV (txtT w h t p (intsD kd) (badsD sd))))
  | _ => .fail
theorem rep_x {w : World} {F : Nat → Prop} {v u : Value} (h : Rep w emp F v (.d (.x u))) : v = u := by cases h with | d h => cases h; rfl
theorem cTxt_one {ss : List SV} {r : SV} (h : (cTxt ss).ev r) : ∃ w h' t p kd sd, ss = [.agg [.d (.x (.int .i64 w)), .d (.x (.int .i64 h')), .d (.x (.int .i64 t)), .d (.x (.int .i64 p)), .d kd, .d sd]] ∧ TxtOK w h' t p kd sd ∧ r = strV (txtT w h' t p (intsD kd) (badsD sd)) := by
  unfold cTxt at h
  split at h
  · exact ⟨_, _, _, _, _, _, rfl, h.1, h.2⟩
  · exact ⟨_, _, _, _, _, _, rfl, h.1, h.2⟩
  · exact h.elim
theorem cTxt_ok : CtrOK Tryz.prog 16 cTxt := by
  refine ctrOK_calls fun ss vs w0 F r hF hgl hr h => ?_
  obtain ⟨w, h', t, p, kd, sd, rfl, ⟨hk, hs, ⟨hwh, hK, hS, hb⟩⟩, rfl⟩ := cTxt_one h
  · obtain ⟨hsz, hel⟩ := hr
    have h0 := hel 0 (by simp)
    have hvs : vs = #[vs.getD 0 undef] := by
      apply Array.ext
      · simpa using hsz
      · intro i hi hi2
        simp at hi2
        subst hi2
        simp [Array.getD, hi]
    rw [hvs]
    generalize vs.getD 0 undef = v at h0
    simp only [List.getD_cons_zero] at h0
    cases h0 with
    | agg cs _ hl hc =>
    have e0 := rep_x (hc 0 (by simp))
    have e1 := rep_x (hc 1 (by simp))
    have e2 := rep_x (hc 2 (by simp))
    have e3 := rep_x (hc 3 (by simp))
    have r4 := hc 4 (by simp)
    have r5 := hc 5 (by simp)
    simp only [List.getD_cons_succ, List.getD_cons_zero] at r4 r5
    have hcs : cs = #[.int .i64 w, .int .i64 h', .int .i64 t, .int .i64 p, cs.getD 4 undef, cs.getD 5 undef] := by
      apply Array.ext
      · simpa using hl
      · intro i hi hi2
        simp at hi2
        have g : cs[i] = cs.getD i undef := by simp [Array.getD, hi]
        rw [g]
        have : i = 0 ∨ i = 1 ∨ i = 2 ∨ i = 3 ∨ i = 4 ∨ i = 5 := by omega
        rcases this with rfl | rfl | rfl | rfl | rfl | rfl
        · exact e0
        · exact e1
        · exact e2
        · exact e3
        · rfl
        · rfl
    rw [hcs]
    generalize cs.getD 4 undef = v4 at r4
    generalize cs.getD 5 undef = v5 at r5
    cases r4 with
    | d r4 =>
    cases r5 with
    | d r5 =>
    obtain ⟨a4, c4, e4, l4, i4⟩ := ints_of_rep hF r4 hk
    obtain ⟨a5, c5, e5, i5⟩ := bads_of_rep hF r5 hs
    obtain ⟨W, rfl⟩ := Int.eq_ofNat_of_zero_le (a := w) (by omega)
    obtain ⟨H, rfl⟩ := Int.eq_ofNat_of_zero_le (a := h') (by omega)
    obtain ⟨T, rfl⟩ := Int.eq_ofNat_of_zero_le (a := t) (by omega)
    obtain ⟨Pn, rfl⟩ := Int.eq_ofNat_of_zero_le (a := p) (by omega)
    have hKl : (intsD kd).length = W * H := by have := hK.1; simpa using this
    rw [hKl] at e4 l4
    subst e4; subst e5
    refine (text_calls W H T Pn (badsD sd).length c5 c4 a4 a5 (intsD kd) (badsD sd) w0 (hgl.one 1 (okTab Lib.pow10Tab) rfl).2 i4 l4 hKl hK.2 ⟨⟨by omega, by omega⟩, ⟨by omega, by omega⟩, by omega, by omega⟩ i5 rfl hS hb).mono ?_
    rintro e w' ⟨rfl, hb'⟩
    exact ⟨_, rfl, hb', .d (.x _)⟩
end Go.Proofs.YtgahnelicbddcaaGreatDoor

namespace Go.Sx
def cutL (c : UInt8) : List UInt8 → List (List UInt8)
  | [] => [[]]
  | b :: t => if b == c then [] :: cutL c t else match cutL c t with
    | [] => [[b]]
    | x :: r => (b :: x) :: r
def strAt (c : Nat → Nat → DV) (i : Nat) : List UInt8 := match c i 0 with
  | .x (.string s) => s.data.toList
  | _ => []
def cellsT (n : Nat) (c : Nat → Nat → DV) : List (List UInt8) := (List.range n).map (strAt c)
def strsV (L : List (List UInt8)) : SV := .d (.ro L.length 1 fun a _ => .x (.string (strB (L.getD a []))))
theorem cutL_split (c : UInt8) : ∀ (l : List UInt8), Lib.splitK [c] 0 (l.count c) l = cutL c l
  | [] => rfl
  | b :: t => by
    have ih := cutL_split c t
    unfold cutL
    by_cases h : b = c
    · subst h
      have hix : Lib.index (b :: t) [b] = 0 := by rw [Lib.index]; simp [List.isPrefixOf]
      rw [List.count_cons_self, Lib.splitK, hix, if_neg (by decide), if_pos (by simp)]
      simp only [Int.toNat_zero, List.length_singleton, Nat.zero_add, List.drop_succ_cons, List.drop_zero, Nat.add_zero, List.take_zero]
      rw [ih]
    · rw [List.count_cons_of_ne (by simpa using h), if_neg (by simpa using h)]
      have hp : ([c] : List UInt8).isPrefixOf (b :: t) = false := by simp [List.isPrefixOf, Ne.symm h]
      have hix : Lib.index (b :: t) [c] = if Lib.index t [c] == -1 then -1 else Lib.index t [c] + 1 := by rw [Lib.index, hp]; simp
      cases hk : t.count c with
      | zero =>
        rw [hk, Lib.splitK] at ih
        rw [← ih]
        rfl
      | succ k =>
        rw [hk] at ih
        have hm : Lib.index t [c] ≠ -1 := by
          intro e
          have h0 := Lib.count_miss e
          rw [Lib.count_one] at h0
          omega
        have hge := Lib.index_ge t [c]
        obtain ⟨j, hj⟩ : ∃ j : Nat, Lib.index t [c] = j := ⟨(Lib.index t [c]).toNat, by omega⟩
        rw [if_neg (by simpa using hm), hj] at hix
        rw [Lib.splitK, hj, if_neg (by simp)] at ih
        rw [← ih, Lib.splitK, hix, if_neg (by simpa using (by omega : ((j : Nat) : Int) + 1 ≠ -1))]
        have e1 : (((j : Nat) : Int) + 1).toNat = j + 1 := by omega
        simp only [e1, Int.toNat_natCast, List.length_singleton, Nat.add_zero, List.take_succ_cons, List.drop_succ_cons]
theorem countB_one (s : ByteArray) (c : UInt8) : Lib.countB s (strB [c]) = s.data.toList.count c := by
  rw [← Lib.count_one]
  rfl
theorem splitB_cut (s : ByteArray) (c : UInt8) : Lib.splitB (strB [c]) 0 (Lib.countB s (strB [c])) s = (cutL c s.data.toList).map strB := by
  have h := Lib.splitB_data (strB [c]) 0 (Lib.countB s (strB [c])) s
  rw [countB_one, strB_list, cutL_split] at h
  rw [countB_one, ← h, List.map_map]
  conv => lhs; rw [← List.map_id (Lib.splitB (strB [c]) 0 (List.count c s.data.toList) s)]
  exact List.map_congr_left fun x _ => (strB_of x).symm
theorem countB_cut (s : ByteArray) (c : UInt8) : Lib.countB s (strB [c]) + 1 = (cutL c s.data.toList).length := by
  have h := Lib.splitB_all (strB [c]) (by rw [strB_size]; simp) 0 _ s rfl
  rw [splitB_cut, List.length_map] at h
  exact h.symm
end Go.Sx

namespace Go.Sx
def _root_.Go.Proofs.OneB (p : ByteArray) : Prop := p = strB [p.data.toList.headD 0]
def _root_.Go.Proofs.StrRow (n : Nat) (c : Nat → Nat → DV) : Prop := ∀ i, i < n → c i 0 = .x (.string (strB (strAt c i)))
end Go.Sx
namespace Go.Proofs.YtgahnelicbddcaaGreatDoor
open Go.Sx Go.RowKit Go.Sort
set_option maxRecDepth 100000
theorem rep_d' {w : World} {F : Nat → Prop} {v : Value} {u : DV} (h : Rep w emp F v (.d u)) : RepD w F v u := by cases h with | d h => exact h
theorem rep_x' {w : World} {F : Nat → Prop} {v u : Value} (h : Rep w emp F v (.d (.x u))) : v = u := by cases h with | d h => cases h; rfl
theorem repd_x' {w : World} {F : Nat → Prop} {v u : Value} (h : RepD w F v (.x u)) : v = u := by cases h; rfl
theorem rep_pair {w : World} {F : Nat → Prop} {a b : Value} {x y : SV} (h1 : Rep w emp F a x) (h2 : Rep w emp F b y) : Rep w emp F (.tuple #[a, b]) (.tup [x, y]) := by
  refine .tup _ _ rfl fun i hi => ?_
  match i, hi with
  | 0, _ => exact h1
  | 1, _ => exact h2
noncomputable def errV : SV := .ifc 157 (.rop 0 fun _ => .x undef)
noncomputable def cAtoi : Ctr := fun ss => match ss with
  | [.d (.x (.string s))] => .need (s.size ≤ 281474976710656) (.ite (atoiOK s.data.toList) (.ret (.tup [iv (atoiV s.data.toList), .d (.x .nilIface)])) (.ret (.tup [iv (atoiV s.data.toList), errV])))
  | _ => .fail
theorem cAtoi_ok : CtrOK Tryz.prog 90 cAtoi := by
  refine ctrOK_calls fun ss vs w F r hF hgl hr h => ?_
  unfold cAtoi at h
  split at h
  · rename_i s
    obtain ⟨h0, h⟩ := h
    rw [repsX [.string s] hr]
    unfold atoiOK atoiV at h
    rcases ha : Lib.atoiAll s.data.toList with v | _ | _
    · rw [ha] at h
      rcases h with ⟨_, rfl⟩ | ⟨h, _⟩
      · refine (Tryz.strconv_Atoi_ok s (by omega) v ha w).mono ?_
        rintro e w' ⟨rfl, hw⟩
        refine ⟨_, rfl, ?_, rep_pair (.d (.x _)) (.d (.x _))⟩
        rcases hw with rfl | ⟨t, rfl⟩
        · exact Below.refl _ _
        · exact Lib.bytesWorld_below _ _ _
      · cases h
    · rw [ha] at h
      rcases h with ⟨h, _⟩ | ⟨_, rfl⟩
      · cases h
      obtain ⟨t, p, hc⟩ := okErr_cell (hgl.one 2 okErr rfl).2
      refine (Any.strconv_Atoi_syntax Tryz.laysC172 s h0 ha _ w hc (.inr ⟨t, p, rfl⟩)).mono ?_
      rintro e w' ⟨N, rfl, _, _, hb⟩
      exact ⟨_, rfl, hb, rep_pair (.d (.x _)) (rep_err rfl)⟩
    · rw [ha] at h
      rcases h with ⟨h, _⟩ | ⟨_, rfl⟩
      · cases h
      obtain ⟨t, p, hc⟩ := okErr_cell (hgl.one 3 okErr rfl).2
      refine (Tryz.strconv_Atoi_range s h0 ha _ w hc (.inr ⟨t, p, rfl⟩)).mono ?_
      rintro e w' ⟨N, rfl, _, _, hb⟩
      exact ⟨_, rfl, hb, rep_pair (.d (.x _)) (rep_err rfl)⟩
  · exact h.elim
noncomputable def cTrim : Ctr := fun ss => match ss with
  | [.d (.x (.string s)), .d (.x (.string p))] => .ret (strV (Lib.trimPrefix s.data.toList p.data.toList))
  | _ => .fail
theorem cTrim_ok : CtrOK Tryz.prog 95 cTrim := by
  refine ctrOK_calls fun ss vs w F r hF hgl hr h => ?_
  unfold cTrim at h
  split at h
  · rename_i s p
    cases h
    rw [repsX [.string s, .string p] hr]
    refine (Tryz.strings_TrimPrefix s p w).mono ?_
    rintro e w' ⟨rfl, rfl⟩
    exact ⟨_, rfl, Below.refl _ _, .d (.x _)⟩
  · exact h.elim
noncomputable def cRune : Ctr := fun ss => match ss with
  | [.d (.x (.string s)), .d (.x (.int .i32 c))] => .need (0 ≤ c ∧ c < 128) (.ret (iv (Lib.indexByte s.data.toList c.toNat.toUInt8)))
  | _ => .fail
theorem cRune_ok : CtrOK Tryz.prog 75 cRune := by
  refine ctrOK_calls fun ss vs w F r hF hgl hr h => ?_
  unfold cRune at h
  split at h
  · rename_i s c
    obtain ⟨h0, rfl⟩ := h
    rw [repsX [.string s, .int .i32 c] hr]
    refine (Tryz.strings_IndexRune_ascii s c w h0.1 h0.2).mono ?_
    rintro e w' ⟨rfl, rfl⟩
    exact ⟨_, rfl, Below.refl _ _, .d (.x _)⟩
  · exact h.elim
noncomputable def cSplit : Ctr := fun ss => match ss with
  | [.d (.x (.string s)), .d (.x (.string p))] => .need (OneB p ∧ s.size ≤ 1000000) (.ret (strsV (cutL (p.data.toList.headD 0) s.data.toList)))
  | _ => .fail
theorem heap_push (w : World) (o : Obj) : (w.alloc o).heap[w.heap.size]? = some o := by show (w.heap.push o)[w.heap.size]? = some o; rw [Array.getElem?_push, if_pos rfl]
theorem heap_lt (w : World) (o : Obj) : w.heap.size < (w.alloc o).heap.size := by show w.heap.size < (w.heap.push o).size; rw [Array.size_push]; omega
theorem rep_strs {w : World} {F : Nat → Prop} {b : Nat} {L : List (List UInt8)} {e : TypeId} (hb : w.heap[b]? = some (.cells ((L.map strB).map Value.string).toArray e (0, 0))) (hF : F b) : Rep w emp F (.slice (some ⟨b, 0, none⟩) L.length L.length) (strsV L) := by
  refine .d (.ro b 0 L.length L.length 1 _ (fun i _ => .string (strB (L.getD i []))) (fun _ => hF) (Nat.le_refl _) ?_ (fun i j hi hj => rfl) fun i j hi hj => .x _)
  intro i j hi hj
  obtain rfl : j = 0 := by omega
  rw [Lib.cell_of_heap hb]
  simp only [Nat.mul_one, Nat.add_zero, Nat.zero_add, List.getElem?_toArray, List.getElem?_map, List.getElem?_eq_getElem hi, List.getD_eq_getElem?_getD]
  rfl
theorem hs_new {w w' : World} {F : Nat → Prop} (hF : ∀ b, F b → b < w.heap.size) (h : Below w.heap.size w w') (hlt : w.heap.size < w'.heap.size) : HS ⟨w, Tk [] emp, F⟩ emp (fun b => F b ∨ b = w.heap.size) [] w' := by
  have h0 := hs_below hF h
  refine ⟨h0.ext, fun b hb => .inl hb, fun b hb => ?_, fun l blk hg => by simp [hget_def] at hg, fun l l' blk blk' b o b' o' _ hg => by simp [hget_def] at hg⟩
  rcases hb with hb | rfl
  · exact h0.fin b hb
  · exact ⟨hlt, .inr (.inr (Nat.le_refl _))⟩
theorem cSplit_ok : CtrOK Tryz.prog 73 cSplit := by
  intro ss vs w F r hF hgl hr h
  unfold cSplit at h
  split at h
  · rename_i s p
    obtain ⟨⟨h0, h1⟩, rfl⟩ := h
    unfold OneB at h0
    generalize hc : p.data.toList.headD 0 = c at h0
    subst h0
    rw [repsX [.string s, .string (strB [c])] hr]
    obtain ⟨m, hm⟩ := okInt_cell (hgl.one 0 okInt rfl).2
    refine (Tryz.strings_Split s (strB [c]) m w (by omega) hm (by rw [strB_size]; simp)).mono ?_
    rintro e w' ⟨rfl, rfl⟩
    rw [countB_cut, splitB_cut]
    exact ⟨_, rfl, emp, fun b => F b ∨ b = w.heap.size, hs_new hF ((Below.refl _ w).alloc (Nat.le_refl _) _) (heap_lt w _), rep_strs (heap_push w _) (.inr rfl), fun l q h => by simp [emp] at h, fun l hl => (hl trivial).elim⟩
  · exact h.elim
noncomputable def cIdx : Ctr := fun ss => match ss with
  | [.d (.ro n 1 c), .d (.x (.string p))] => .need (n ≤ 1000000 ∧ StrRow n c) (.ret (iv (Lib.idxOfS ((cellsT n c).map strB) p)))
  | _ => .fail
theorem cIdx_ok : CtrOK Tryz.prog 96 cIdx := by
  refine ctrOK_calls fun ss vs w F r hF hgl hr h => ?_
  unfold cIdx at h
  split at h
  · rename_i n c p
    obtain ⟨⟨hn, hc⟩, rfl⟩ := h
    obtain ⟨h1, h2⟩ := hr
    have r0 := rep_d' (h2 0 (by simp))
    have e1 : vs.getD 1 undef = .string p := rep_x' (h2 1 (by simp))
    have hvs : vs = #[vs.getD 0 undef, .string p] := by
      rw [← e1]
      apply Array.ext
      · exact h1
      · intro i hi hi2
        simp at hi2
        match i, hi2 with
        | 0, _ => simp [Array.getD, hi]
        | 1, _ => simp [Array.getD, hi]
    rw [hvs]
    generalize vs.getD 0 undef = v at r0
    have key0 : n = 0 → ∀ a cap, v = .slice a 0 cap → Calls Tryz.prog 96 #[v, .string p] w fun e w' => ∃ v, e = .returned v ∧ Below w.heap.size w w' ∧ Rep w' emp F v (iv (Lib.idxOfS ((cellsT n c).map strB) p)) := by
      rintro rfl a cap rfl
      refine (Tryz.slices_Index_string_empty a cap p w).mono ?_
      rintro e w' ⟨rfl, rfl⟩
      exact ⟨_, rfl, Below.refl _ _, .d (.x _)⟩
    cases r0 with
    | nil => exact key0 rfl _ _ rfl
    | z => exact key0 rfl _ _ rfl
    | ro b o _ cap _ _ f hF2 hcap hcell hone hrep =>
      have hl : ((cellsT n c).map strB).length = n := by unfold cellsT; simp
      refine (Tryz.slices_Index_string b o n cap ((cellsT n c).map strB) p w (by omega) (by omega) ?_).mono ?_
      · intro j hj
        rw [hl] at hj
        have hh := hcell j 0 hj (by omega)
        rw [Nat.mul_one, Nat.add_zero] at hh
        have hr := hrep j 0 hj (by omega)
        rw [hc j hj] at hr
        have e : f j 0 = .string (strB (strAt c j)) := repd_x' hr
        rw [hh, e]
        have : ((cellsT n c).map strB).getD j ByteArray.empty = strB (strAt c j) := by
          unfold cellsT
          rw [List.getD_eq_getElem?_getD, List.getElem?_map, List.getElem?_map, List.getElem?_range hj]; rfl
        rw [this]
      · rintro e w' ⟨rfl, rfl⟩
        rw [List.take_of_length_le (by omega)]
        exact ⟨_, rfl, Below.refl _ _, .d (.x _)⟩
  · exact h.elim
end Go.Proofs.YtgahnelicbddcaaGreatDoor

namespace Go.Proofs.YtgahnelicbddcaaGreatDoor
open Go.Sx
set_option maxRecDepth 100000
noncomputable def man5 : FuncId → Option Ctr := fun k => match k with
  | 29 => some cDr
  | 31 => some cDv
  | 16 => some cTxt
  | 90 => some cAtoi
  | 95 => some cTrim
  | 75 => some cRune
  | 73 => some cSplit
  | 96 => some cIdx
  | k => man4 k
theorem man5_ok (k : Nat) (c : Ctr) (h : man5 k = some c) : CtrOK Tryz.prog k c ∧ goodF Tryz.prog k = true := by
  unfold man5 at h
  split at h
  · cases h; exact ⟨cDr_ok, by kernel_rfl⟩
  · cases h; exact ⟨cDv_ok, by kernel_rfl⟩
  · cases h; exact ⟨cTxt_ok, by kernel_rfl⟩
  · cases h; exact ⟨cAtoi_ok, by kernel_rfl⟩
  · cases h; exact ⟨cTrim_ok, by kernel_rfl⟩
  · cases h; exact ⟨cRune_ok, by kernel_rfl⟩
  · cases h; exact ⟨cSplit_ok, by kernel_rfl⟩
  · cases h; exact ⟨cIdx_ok, by kernel_rfl⟩
  · exact man4_ok _ _ h
noncomputable def CX : Ctx := ctxN Tryz.prog man5 (fun k => k == 56 || k == 78 || k == 55 || k == 57) 200 .run 8
theorem CX_ok : CtxOK Tryz.prog CX := ctxN_ok mixed man5_ok 8
noncomputable def XE  : Tr SV :=
 Tr.need (OneB { data := #[(10 : UInt8)] } ∧ 35 ≤ 1000000)
 (Tr.need (((0 : Int) ≤ (3 : Int) ∧ 3 ≤ 4) ∧ True)
 (Tr.need (OneB { data := #[(32 : UInt8)] } ∧ 12 ≤ 1000000)
 (Tr.need (4 ≤ 281474976710656)
 (Tr.need (True ∧ 1 ≤ 1 ∧ 8 ≤ 140737488355328)
 (Tr.need (1 ≤ 281474976710656)
 (Tr.need (1 ≤ 1 ∧ 1 ≤ 1 ∧ 16 ≤ 140737488355328)
 (Tr.need (1 ≤ 281474976710656)
 (Tr.need (2 ≤ 2 ∧ 1 ≤ 1 ∧ 24 ≤ 140737488355328)
 (Tr.need (1 ≤ 281474976710656)
 (Tr.need (3 ≤ 3 ∧ 1 ≤ 1 ∧ 32 ≤ 140737488355328)
 (Tr.need (1 ≤ 281474976710656)
 (Tr.need (4 ≤ 4 ∧ 1 ≤ 1 ∧ 40 ≤ 140737488355328)
 (Tr.need (5 ≤ 5)
 (Tr.need ((0 : Int) ≤ (76 : Int) ∧ (76 : Int) < (128 : Int))
 (Tr.need (True ∧ 1 ≤ 1 ∧ 8 ≤ 140737488355328)
 (Tr.need ((0 : Int) ≤ (77 : Int) ∧ (77 : Int) < (128 : Int))
 (Tr.need (1 ≤ 1 ∧ 1 ≤ 1 ∧ 16 ≤ 140737488355328)
 (Tr.need (True ∧ (0 : Int) ≤ (2 : Int) ∧ 2 ≤ 3)
 (Tr.need (OneB { data := #[(32 : UInt8)] } ∧ 8 ≤ 1000000)
 (Tr.need
 (3 ≤ 1000000 ∧
 StrRow 3 fun a x => DV.x (.string (strB (List.getD [[], [(49 : UInt8)], [(110 : UInt8), (111 : UInt8), (100 : UInt8), (101 : UInt8), (115 : UInt8)]] a []))))
 (Tr.need (((0 : Int) ≤ (2 : Int) ∧ 2 ≤ 3) ∧ (0 : Int) ≤ (1 : Int) ∧ 1 ≤ 2)
 (Tr.need (1 ≤ 281474976710656)
 (Tr.need (True ∧ 1 ≤ 1 ∧ 8 ≤ 140737488355328)
 (Tr.need (1 ≤ 1)
 (Tr.need (True ∧ (0 : Int) ≤ (3 : Int) ∧ 3 ≤ 3)
 (Tr.need (True ∧ 2 ≤ 2 ∧ 48 ≤ 140737488355328)
 (Tr.need (2 ≤ 2)
 (Tr.need (1 ≤ 1)
 (Tr.need (2 ≤ 2)
 (Tr.need (1 ≤ 1)
 (Tr.need
 (TxtRO (2 : Int) (1 : Int) (1 : Int) (1 : Int) 2
 (fun i j =>
 selD (decide (0 + i < 1)) (DV.x (.int .i64 (1 : Int)))
 (dsAt [DV.x (.int .i64 (2 : Int))] (0 + (0 + (0 + i - 1)) * 1 + j)))
 1 fun i j =>
 bif decide (0 + i < 0) then DV.x (.tuple { toList := [] })
 else
 dsAt [DV.ro 1 1 fun i j => DV.x (.int .i64 (1 : Int)), DV.x (.slice none 0 0)]
 (0 + (0 + (0 + i - 0)) * 2 + j))
 (Tr.need (2 ≤ 2)
 (Tr.need (1 ≤ 1)
 (Tr.need (2 ≤ 2)
 (Tr.need (2 ≤ 2)
 (Tr.need (2 ≤ 2)
 (Tr.need (2 ≤ 2)
 (Tr.need (2 ≤ 2)
 (Tr.need (2 ≤ 2)
 (Tr.need (2 ≤ 2)
 (Tr.need (2 ≤ 2)
 (Tr.need (2 ≤ 2)
 (Tr.need (2 ≤ 2)
 (Tr.need (2 ≤ 2)
 (Tr.need (i64B (6 : Int))
 (Tr.need (8 ≤ 8)
 (Tr.need (i64B (17 : Int))
 (Tr.need (3 ≤ 3)
 (Tr.need (1 ≤ 1)
 (Tr.need
 (TxtRO (2 : Int) (1 : Int) (1 : Int) (1 : Int) 2
 (fun i j =>
 dsAt [DV.x (.int .i64 (1 : Int)), DV.x (.int .i64 (2 : Int))] (0 + (0 + i) * 1 + j))
 1 fun i j =>
 dsAt
 [DV.ro 1 1 fun i j => dsAt [DV.x (.int .i64 (1 : Int))] (0 + (0 + i) * 1 + j),
 DV.x (.slice none 0 0)]
 (i * 2 + j))
 (Tr.need (1 ≤ 1)
 (Tr.need (i64B (14 : Int))
 (Tr.need (i64B (18 : Int))
 (Tr.need (OneB { data := #[(10 : UInt8)] } ∧ 0 ≤ 1000000)
 (Tr.need (((0 : Int) ≤ (0 : Int) ∧ 0 ≤ 1) ∧ True)
 (Tr.ret (bv true)))))))))))))))))))))))))))))))))))))))))))))))))))))))))

theorem XE_eq  : autoC Tryz.prog CX 200 9 .run [] = XE  := by kernel_rfl


end Go.Proofs.YtgahnelicbddcaaGreatDoor

namespace Go.Proofs.YtgahnelicbddcaaGreatDoor
open Go.Sx
set_option maxRecDepth 100000
theorem sat_step {p : Prop} {t : Tr SV} {r : SV} (h1 : p) (h2 : t.ev r) : (Tr.need p t).ev r := ⟨h1, h2⟩
theorem txtRO_of {w h t p : Int} {m k : Nat} {c s : Nat → Nat → DV} {K : List Int} {S : List (List Int × List Int)} (h1 : IntRow m c) (h2 : ∀ i, i < k → IntsD (s i 0) ∧ IntsD (s i 1)) (h3 : lsOf m c = K) (h4 : badsD (.ro k 2 s) = S) (h5 : OkTx w h t p K S) : TxtRO w h t p m c k s :=
  ⟨⟨rfl, h1⟩, ⟨rfl, h2⟩, by show OkTx w h t p (lsOf m c) (badsD (.ro k 2 s)); rw [h3, h4]; exact h5⟩
theorem okTx_ex : OkTx 2 1 1 1 [1, 2] [([1], [])] := by
  refine ⟨by decide, by decide, by decide, fun s hs => ?_⟩
  rw [List.mem_singleton.1 hs]
  refine ⟨⟨by decide, by decide⟩, by decide, by decide⟩
theorem ex_ok : (autoC Tryz.prog CX 200 9 .run []).ev (bv true) := by
  rw [XE_eq]; unfold XE
  repeat' (first
    | exact rfl
    | refine sat_step (by decide) ?_
    | refine sat_step ⟨rfl, by decide⟩ ?_
    | refine sat_step (show i64B _ from ⟨by decide, by decide⟩) ?_
    | refine sat_step ⟨by decide, fun i hi => by
        match i, hi with
        | 0, _ => rfl
        | 1, _ => rfl
        | 2, _ => rfl
        | k + 3, h => exact absurd h (by omega)⟩ ?_
    | refine sat_step (txtRO_of (K := [1, 2]) (S := [([1], [])]) (fun i hi => by
        match i, hi with
        | 0, _ => rfl
        | 1, _ => rfl
        | k + 2, h => exact absurd h (by omega)) (fun i hi => by
        match i, hi with
        | 0, _ => exact ⟨⟨rfl, fun i hi => by
            match i, hi with
            | 0, _ => rfl
            | k + 1, h => exact absurd h (by omega)⟩, rfl⟩
        | k + 1, h => exact absurd h (by omega)) rfl rfl okTx_ex) ?_)
noncomputable def cEx : Ctr := fun ss => match ss with
  | [] => .ret (bv true)
  | _ => .fail
theorem cEx_ok : CtrOK Tryz.prog 9 cEx := (autoC_ok CX_ok mixed 200 9 .run).mono fun ss r h => by
  unfold cEx at h
  split at h
  · simp only [Tr.ev] at h; subst h; exact ex_ok
  · exact h.elim
end Go.Proofs.YtgahnelicbddcaaGreatDoor

namespace Go.Proofs.YtgahnelicbddcaaGreatDoor
open Go.Sx
set_option maxRecDepth 100000
noncomputable def byT (m : Nat) (c : Nat → Int) : SV := .d (.ro m 1 fun i _ => .x (.int .u8 (c i)))
noncomputable def tKi (n : Int) (m : Nat) (c : Nat → Int) : Tree SV := T0 .nil 37 [iv n, byT m c]
noncomputable def LKi (n : Int) (m : Nat) (c : Nat → Int) : Tree SV :=
  .code (codeC (sub [] (tKi n m c))) (codeS (sub [] (tKi n m c))) (codeK (sub [] (tKi n m c)))

theorem LKi_eq (n : Int) (m : Nat) (c : Nat → Int) : tKi n m c = LKi n m c := by kernel_rfl

noncomputable def invKi (n : Int) (m : Nat) (c : Nat → Int) (L : List Int) (j : Int) : AS := ⟨[.ok (iv n), .ok (byT m c), .unk, .unk, .unk, .ok (.row 1 0 0 L.length 1), .ok (iv j)] ++ List.replicate 30 .unk, [none, some (lB L)], 2, .nil⟩
noncomputable def bodyKi : Code := loopN (bodyOf Tryz.prog 37) 0
noncomputable def BKi_q1 (m : Nat) (j : Int) : Bool :=
  decide (j < (↑m : Int))
noncomputable def BKi_q2 (c : Nat → Int) (i : Nat) (x : Nat) : DV :=
  DV.x (.int .u8 (c i))
noncomputable def BKi_q3 (c : Nat → Int) (L : List Int) (j : Int) (a : Nat) (b : Nat) : DV :=
  selD (decide (a < List.length L)) (DV.x (.int .i64 (List.getD L (0 + a) (0 : Int))))
  (dsAt [DV.x (.int .i64 (w64 (Int.tmod (c (Int.toNat j)) (8 : Int))))] (0 + (0 + (a - List.length L)) * 1 + b))
noncomputable def BKi_q4 (L : List Int) (a : Nat) (b : Nat) : DV :=
  selD (decide (a < List.length L)) (DV.x (.int .i64 (List.getD L (0 + a) (0 : Int)))) (dsAt [DV.x (.int .i64 (2 : Int))] (0 + (0 + (a - List.length L)) * 1 + b))
noncomputable def BKi_q5 (L : List Int) (i : Nat) (x : Nat) : DV :=
  DV.x (.int .i64 (List.getD L i (0 : Int)))
noncomputable def BKi (n : Int) (m : Nat) (c : Nat → Int) (L : List Int) (j : Int) : Tree (Ex × AS) :=
 .ite (decide (j < n))
 (.need (BKi_q1 m j = true → (0 : Int) ≤ j ∧ j < (↑m : Int))
 (.need (BKi_q1 m j = true → (8 : Int) ≠ (0 : Int))
 (.ite (BKi_q1 m j && decide (Int.tmod (c (Int.toNat j)) (8 : Int) < (2 : Int)))
 (.need ((0 : Int) ≤ j ∧ j < (↑m : Int))
 (.need ((8 : Int) ≠ (0 : Int))
 (.need (0 + List.length L ≤ List.length L ∧ 1 ≤ 1 ∧ (List.length L + 1) * 8 ≤ 140737488355328)
 (.ret
 (.normal,
 {
 tm :=
 [.ok (iv n), .ok (SV.d (DV.ro m 1 (BKi_q2 c))), .unk, .unk, .unk, .ok (SV.row 1 0 0 (List.length L + 1) 1),
 .ok (iv (w64 (j + (1 : Int)))), .unk, .unk, .unk, .unk, .unk, .unk, .unk, .unk, .unk, .unk, .unk, .unk, .unk, .unk, .unk, .unk, .unk, .unk, .unk, .unk, .unk, .unk,
 .unk, .unk, .unk, .unk, .unk, .unk, .unk, .unk],
 hp := [none, some (.row (List.length L + 1) 1 (BKi_q3 c L j))], next := 2, hint := .nil })))))
 (.need (0 + List.length L ≤ List.length L ∧ 1 ≤ 1 ∧ (List.length L + 1) * 8 ≤ 140737488355328)
 (.ret
 (.normal,
 {
 tm :=
 [.ok (iv n), .ok (SV.d (DV.ro m 1 (BKi_q2 c))), .unk, .unk, .unk, .ok (SV.row 1 0 0 (List.length L + 1) 1), .ok (iv (w64 (j + (1 : Int)))),
 .unk, .unk, .unk, .unk, .unk, .unk, .unk, .unk, .unk, .unk, .unk, .unk, .unk, .unk, .unk, .unk, .unk, .unk, .unk, .unk, .unk, .unk, .unk, .unk, .unk, .unk, .unk,
 .unk, .unk, .unk],
 hp := [none, some (.row (List.length L + 1) 1 (BKi_q4 L))], next := 2, hint := .nil }))))))
 (.ret
 (.exit 0,
 {
 tm :=
 [.ok (iv n), .ok (SV.d (DV.ro m 1 (BKi_q2 c))), .unk, .unk, .unk, .ok (SV.row 1 0 0 (List.length L) 1), .ok (iv j), .unk, .unk, .unk, .unk, .unk,
 .unk, .unk, .unk, .unk, .unk, .unk, .unk, .unk, .unk, .unk, .unk, .unk, .unk, .unk, .unk, .unk, .unk, .unk, .unk, .unk, .unk, .unk, .unk, .unk, .unk],
 hp := [none, some (.row (List.length L) 1 (BKi_q5 L))], next := 2, hint := .nil }))

theorem BKi_eq (n : Int) (m : Nat) (c : Nat → Int) (L : List Int) (j : Int) : cutT 1 [(.slot 5, 1)] [0, 1, 5, 6] [] 2 .nil (exec Tryz.prog C0 D0 200 bodyKi (invKi n m c L j)) = BKi n m c L j := by kernel_rfl

noncomputable def KKi_q1 (L : List Int) (i : Nat) (j : Nat) : DV :=
  DV.x (.int .i64 (List.getD L (0 + i) (0 : Int)))
noncomputable def KKi (n : Int) (m : Nat) (c : Nat → Int) (L : List Int) (j : Int) : Tree SV :=
  .need (0 + List.length L ≤ List.length L) (.ret (SV.d (DV.ro (List.length L) 1 (KKi_q1 L))))

theorem KKi_eq (n : Int) (m : Nat) (c : Nat → Int) (L : List Int) (j : Int) : codeK (sub [] (tKi n m c)) (.exit 0) (invKi n m c L j) = KKi n m c L j := by kernel_rfl


end Go.Proofs.YtgahnelicbddcaaGreatDoor

namespace Go.Sx
def kiN (m : Nat) (f : Nat → Nat → DV) (a : Nat) : Int := if a < m ∧ intCell (f a 0) % 8 < 2 then intCell (f a 0) % 8 else 2
def kiL (n : Int) (m : Nat) (f : Nat → Nat → DV) : List Int := (List.range n.toNat).map (kiN m f)
def _root_.Go.Proofs.KiOK (n : Int) (m : Nat) (f : Nat → Nat → DV) : Prop := (0 ≤ n ∧ n ≤ 1000) ∧ ∀ a, a < m → f a 0 = .x (.int .u8 (intCell (f a 0))) ∧ 0 ≤ intCell (f a 0) ∧ intCell (f a 0) < 256
theorem kiL_len (n : Int) (m : Nat) (f : Nat → Nat → DV) : (kiL n m f).length = n.toNat := by unfold kiL; simp
theorem kiN_ok (m : Nat) (f : Nat → Nat → DV) (a : Nat) : 0 ≤ kiN m f a ∧ kiN m f a ≤ 2 := by unfold kiN; split <;> omega
theorem kiL_ok {n : Int} {m : Nat} {f : Nat → Nat → DV} {k : Int} (h : k ∈ kiL n m f) : 0 ≤ k ∧ k ≤ 2 := by
  unfold kiL at h
  obtain ⟨a, _, rfl⟩ := List.mem_map.1 h
  exact kiN_ok m f a
end Go.Sx
namespace Go.Proofs.YtgahnelicbddcaaGreatDoor
open Go.Sx
set_option maxRecDepth 100000
theorem ki_snoc (j m : Nat) (f : Nat → Nat → DV) : (List.range (j + 1)).map (kiN m f) = (List.range j).map (kiN m f) ++ [kiN m f j] := by rw [List.range_succ, List.map_append]; rfl
theorem ki_sat {n : Int} {m : Nat} {f : Nat → Nat → DV} (h : KiOK n m f) : Sat Tryz.prog (tKi n m fun a => intCell (f a 0)) (· = ivL (kiL n m f)) := by
  constructor
  rw [LKi_eq]; unfold LKi
  obtain ⟨hn, hb⟩ := h
  obtain ⟨N, rfl⟩ := Int.eq_ofNat_of_zero_le hn.1
  refine code_satS C0_ok D0_ok (n := 200) (n0 := 1) (nx := 2) (roots := [(.slot 5, 1)]) (keep := [0, 1, 5, 6]) (drop := []) (h := .nil) (c := codeC (sub [] (tKi N m fun a => intCell (f a 0)))) (st := codeS (sub [] (tKi N m fun a => intCell (f a 0)))) (k := codeK (sub [] (tKi N m fun a => intCell (f a 0)))) (body := bodyKi) (by kernel_rfl) (by kernel_rfl)
    (fun q s => ∃ j : Nat, q = N - j ∧ j ≤ N ∧ s = invKi N m (fun a => intCell (f a 0)) ((List.range j).map (kiN m f)) j)
    (fun e s => e = .exit 0 ∧ s = invKi N m (fun a => intCell (f a 0)) (kiL N m f) N)
    ⟨_, _, ⟨0, rfl, by omega, rfl⟩, ?_⟩ ?_ ?_
  · refine (entA_sound (s' := ⟨[.ok (iv N), .ok (byT m fun a => intCell (f a 0)), .unk, .unk, .unk, .ok (.row 1 0 0 0 1), .ok (iv 0)] ++ List.replicate 30 .unk, [none, some (.cells [])], 2, .nil⟩) (roots := [(.slot 5, 1)]) (keep := [0, 1, 5, 6]) (drop := [0]) (nx := 2) (h := .nil) (by kernel_rfl)).trans ?_
    refine gc_hp rfl rfl ⟨.inl rfl, .inr ⟨_, _, rfl, rfl, .cells rfl fun i j hi hj => ?_⟩, trivial⟩
    exact absurd hi (Nat.not_lt_zero _)
  · rintro q s ⟨j, rfl, hj, rfl⟩
    refine Sat.of_eq (BKi_eq N m _ _ j) ?_
    constructor; unfold BKi
    have hl : ((List.range j).map (kiN m f)).length = j := by simp
    have hm8 : ∀ a, a < m → Int.tmod (intCell (f a 0)) 8 = intCell (f a 0) % 8 := fun a ha => Int.tmod_eq_emod_of_nonneg (hb a ha).2.1
    refine ⟨fun h1 => ⟨fun h2 => ?_, fun _ => by decide, fun h2 => ?_, fun h2 => ?_⟩, fun h1 => ?_⟩
    · unfold BKi_q1 at h2; simp only [decide_eq_true_eq] at h2; exact ⟨by omega, h2⟩
    · unfold BKi_q1 at h2
      simp only [decide_eq_true_eq, Bool.and_eq_true] at h1 h2
      have hjm : j < m := by omega
      refine ⟨⟨by omega, by omega⟩, by decide, ⟨by omega, by omega, by omega⟩, ?_⟩
      rw [w64_of (n := (j : Int) + 1) (by omega) (by omega)]
      refine ⟨N - (j + 1), _, by omega, ⟨j + 1, rfl, by omega, rfl⟩, ?_⟩
      have hk : kiN m f j = w64 (Int.tmod (intCell (f ((j : Int).toNat) 0)) 8) := by
        have h3 := h2.2
        rw [Int.toNat_natCast, hm8 j hjm] at h3 ⊢
        rw [w64_of (by omega) (by omega)]
        unfold kiN; rw [if_pos ⟨hjm, h3⟩]
      rw [ki_snoc]
      generalize (List.range j).map (kiN m f) = L at hl
      refine gc_hp (by rw [List.length_append]; rfl) rfl ⟨.inl rfl, .inr ⟨_, _, rfl, rfl, lB_app fun i hi => ?_⟩, trivial⟩
      rw [hk]
      exact app_sel L _ i hi
    · unfold BKi_q1 at h2
      simp only [decide_eq_true_eq, Bool.and_eq_false_iff, decide_eq_false_iff_not] at h1 h2
      refine ⟨⟨by omega, by omega, by omega⟩, ?_⟩
      rw [w64_of (n := (j : Int) + 1) (by omega) (by omega)]
      refine ⟨N - (j + 1), _, by omega, ⟨j + 1, rfl, by omega, rfl⟩, ?_⟩
      have hk : kiN m f j = 2 := by
        unfold kiN
        rw [if_neg]
        rintro ⟨h3, h4⟩
        rcases h2 with h2 | h2
        · omega
        · rw [Int.toNat_natCast, hm8 j h3] at h2; omega
      rw [ki_snoc, hk]
      generalize (List.range j).map (kiN m f) = L at hl
      refine gc_hp (by rw [List.length_append]; rfl) rfl ⟨.inl rfl, .inr ⟨_, _, rfl, rfl, lB_app fun i hi => ?_⟩, trivial⟩
      exact app_sel L _ i hi
    · simp only [decide_eq_false_iff_not] at h1
      obtain rfl : j = N := by omega
      refine ⟨_, ⟨rfl, ?_⟩, Gc.refl _ _⟩
      have e : kiL j m f = (List.range j).map (kiN m f) := by unfold kiL; rw [Int.toNat_natCast]
      rw [e]; rfl
  · rintro e s ⟨rfl, rfl⟩
    refine Sat.of_eq (KKi_eq N m _ _ _) ⟨⟨by omega, ?_⟩⟩
    show SV.d _ = ivL _
    have : KKi_q1 (kiL N m f) = fun i _ => .x (.int .i64 ((kiL N m f).getD i 0)) := by
      funext i j; unfold KKi_q1; rw [Nat.zero_add]
    rw [this]; rfl
noncomputable def cKi : Ctr := fun ss => match ss with
  | [.d (.x (.int .i64 n)), .d (.ro m 1 f)] => .need (KiOK n m f) (.ret (ivL (kiL n m f)))
  | _ => .fail
theorem cKi_ok : CtrOK Tryz.prog 37 cKi := by
  refine ctrOK_leS C0_ok D0_ok (by kernel_rfl) (by kernel_rfl) fun ss r hr => ?_
  unfold cKi at hr
  split at hr
  · rename_i n m f
    obtain ⟨h1, rfl⟩ := hr
    have k0 := ki_sat h1
    refine ⟨_, 200, .nil, ?_, k0⟩
    refine ⟨rfl, ⟨rfl, rfl, fun i j hi hj => ?_⟩, by simp only [leSVs]⟩
    obtain rfl : j = 0 := by omega
    exact (h1.2 i hi).1
  · exact hr.elim
end Go.Proofs.YtgahnelicbddcaaGreatDoor

namespace Go.Proofs.YtgahnelicbddcaaGreatDoor
open Go.Sx
set_option maxRecDepth 100000
noncomputable def man6 : FuncId → Option Ctr := fun k => match k with
  | 9 => some cEx
  | 37 => some cKi
  | k => man5 k
theorem man6_ok (k : Nat) (c : Ctr) (h : man6 k = some c) : CtrOK Tryz.prog k c ∧ goodF Tryz.prog k = true := by
  unfold man6 at h
  split at h
  · cases h; exact ⟨cEx_ok, by kernel_rfl⟩
  · cases h; exact ⟨cKi_ok, by kernel_rfl⟩
  · exact man5_ok _ _ h
noncomputable def CL : Ctx := ctxN Tryz.prog man6 (fun k => k == 56 || k == 78 || k == 55 || k == 57) 200 .run 8
theorem CL_ok : CtxOK Tryz.prog CL := ctxN_ok mixed man6_ok 8
noncomputable def DL : Dr := fun _ => drawn Tryz.prog CL
theorem DL_ok : DrOK Tryz.prog CL DL := drawn_ok CL_ok mixed
noncomputable def TL (h : Hint) (k : Nat) (args : List SV) : Tree SV := fnT Tryz.prog CL DL 200 (fnOf Tryz.prog k) (bodyOf Tryz.prog k) args h
noncomputable def u8V (n : Int) : SV := .d (.x (.int .u8 n))
noncomputable def rawV (w h t p : Int) (m : Nat) (c : Nat → Int) : SV := .agg [u8V w, u8V h, u8V t, u8V p, byT m c]
noncomputable def LAn_q1 (c : Nat → Int) (i : Nat) (x : Nat) : DV :=
  DV.x (.int .u8 (c i))
noncomputable def LAn_q2 (w : Int) (h : Int) (m : Nat) (c : Nat → Int) (i : Nat) (x : Nat) : DV :=
  DV.x (.int .i64 (List.getD (kiL (w64 (w64 ((1 : Int) + w64 (Int.tmod w (8 : Int))) * w64 ((1 : Int) + w64 (Int.tmod h (8 : Int))))) m (LAn_q1 c)) i (0 : Int)))
noncomputable def LAn (w h t p : Int) (m : Nat) (c : Nat → Int) : Tree SV :=
  .need (KiOK (w64 (w64 ((1 : Int) + w64 (Int.tmod w (8 : Int))) * w64 ((1 : Int) + w64 (Int.tmod h (8 : Int))))) m (LAn_q1 c))
  (.ret
   (SV.agg
   [iv (w64 ((1 : Int) + w64 (Int.tmod w (8 : Int)))), iv (w64 ((1 : Int) + w64 (Int.tmod h (8 : Int)))), iv (w64 ((1 : Int) + w64 (Int.tmod t (8 : Int)))), iv (w64 (Int.tmod p (65 : Int))),
   SV.d (DV.ro (List.length (kiL (w64 (w64 ((1 : Int) + w64 (Int.tmod w (8 : Int))) * w64 ((1 : Int) + w64 (Int.tmod h (8 : Int))))) m (LAn_q1 c))) 1 (LAn_q2 w h m c))]))

theorem LAn_eq (w h t p : Int) (m : Nat) (c : Nat → Int) : TL .run 10 [rawV w h t p m c] = LAn w h t p m c := by kernel_rfl

end Go.Proofs.YtgahnelicbddcaaGreatDoor

namespace Go.Sx
def anN (a b x : Int) : Int := a + x % b
def _root_.Go.Proofs.RawOK (w h t p : Int) (m : Nat) (f : Nat → Nat → DV) : Prop :=
  ((0 ≤ w ∧ w < 256) ∧ (0 ≤ h ∧ h < 256) ∧ (0 ≤ t ∧ t < 256) ∧ (0 ≤ p ∧ p < 256)) ∧ ∀ a, a < m → f a 0 = .x (.int .u8 (intCell (f a 0))) ∧ 0 ≤ intCell (f a 0) ∧ intCell (f a 0) < 256
def anK (a b w h : Int) (m : Nat) (f : Nat → Nat → DV) : List Int := kiL (anN a b w * anN a b h) m f
end Go.Sx
namespace Go.Proofs.YtgahnelicbddcaaGreatDoor
open Go.Sx
set_option maxRecDepth 100000
theorem anN_eq {a b x : Int} (ha : 0 ≤ a ∧ a ≤ 100) (hb : 0 < b ∧ b ≤ 100) (hx : 0 ≤ x ∧ x < 256) : w64 (a + w64 (Int.tmod x b)) = anN a b x := by
  have h1 := Int.emod_nonneg x (b := b) (by omega)
  have h2 := Int.emod_lt_of_pos x hb.1
  rw [Int.tmod_eq_emod_of_nonneg hx.1, w64_of (n := x % b) (by omega) (by omega), w64_of (by omega) (by omega)]
  rfl
theorem anN_eq0 {b x : Int} (hb : 0 < b ∧ b ≤ 100) (hx : 0 ≤ x ∧ x < 256) : w64 (Int.tmod x b) = anN 0 b x := by
  have h1 := Int.emod_nonneg x (b := b) (by omega)
  have h2 := Int.emod_lt_of_pos x hb.1
  rw [Int.tmod_eq_emod_of_nonneg hx.1, w64_of (n := x % b) (by omega) (by omega)]
  show _ = 0 + _; omega
theorem anN_ok {a b x : Int} (hb : 0 < b) : a ≤ anN a b x ∧ anN a b x < a + b := by
  have h1 := Int.emod_nonneg x (b := b) (by omega)
  have h2 := Int.emod_lt_of_pos x hb
  unfold anN; omega
theorem anM_ok {a b w h : Int} (ha : 0 ≤ a) (hb : 0 < b) (hab : a + b ≤ 20) : 0 ≤ anN a b w * anN a b h ∧ anN a b w * anN a b h ≤ 400 := by
  have h1 := anN_ok (a := a) (x := w) hb
  have h2 := anN_ok (a := a) (x := h) hb
  refine ⟨Int.mul_nonneg (by omega) (by omega), ?_⟩
  have := Int.mul_le_mul (show anN a b w ≤ 20 by omega) (show anN a b h ≤ 20 by omega) (by omega) (by decide)
  omega
theorem anW {a b w h : Int} (ha : 0 ≤ a ∧ a ≤ 10) (hb : 0 < b ∧ b ≤ 10) : w64 (anN a b w * anN a b h) = anN a b w * anN a b h := by
  have := anM_ok (a := a) (b := b) (w := w) (h := h) ha.1 hb.1 (by omega)
  exact w64_of (by omega) (by omega)
theorem anKi {a b w h : Int} {m : Nat} {f : Nat → Nat → DV} (ha : 0 ≤ a ∧ a ≤ 10) (hb : 0 < b ∧ b ≤ 10) (hf : ∀ a, a < m → f a 0 = .x (.int .u8 (intCell (f a 0))) ∧ 0 ≤ intCell (f a 0) ∧ intCell (f a 0) < 256) : KiOK (anN a b w * anN a b h) m f := by
  have := anM_ok (a := a) (b := b) (w := w) (h := h) ha.1 hb.1 (by omega)
  exact ⟨by omega, hf⟩
noncomputable def anyV (w h t p : Int) (m : Nat) (f : Nat → Nat → DV) : SV := .agg [iv (anN 1 8 w), iv (anN 1 8 h), iv (anN 1 8 t), iv (anN 0 65 p), ivL (anK 1 8 w h m f)]
theorem an_sat {w h t p : Int} {m : Nat} {f : Nat → Nat → DV} (hr : RawOK w h t p m f) : Sat Tryz.prog (TL .run 10 [rawV w h t p m fun a => intCell (f a 0)]) (· = anyV w h t p m f) := by
  refine Sat.of_eq (LAn_eq w h t p m _) ⟨?_⟩
  obtain ⟨⟨h1, h2, h3, h4⟩, hf⟩ := hr
  unfold LAn
  unfold LAn_q2
  have e : LAn_q1 (fun a => intCell (f a 0)) = fun i _ => .x (.int .u8 (intCell (f i 0))) := by funext i j; rfl
  rw [e, anN_eq (by omega) (by omega) h1, anN_eq (by omega) (by omega) h2, anN_eq (by omega) (by omega) h3, anN_eq0 (by omega) h4, anW (by omega) (by omega)]
  have hk : kiL (anN 1 8 w * anN 1 8 h) m (fun i _ => .x (.int .u8 (intCell (f i 0)))) = anK 1 8 w h m f := rfl
  rw [hk]
  exact ⟨anKi (by omega) (by omega) fun a ha => ⟨rfl, (hf a ha).2⟩, rfl⟩
noncomputable def cAny : Ctr := fun ss => match ss with
  | [.agg [.d (.x (.int .u8 w)), .d (.x (.int .u8 h)), .d (.x (.int .u8 t)), .d (.x (.int .u8 p)), .d (.ro m 1 f)]] => .need (RawOK w h t p m f) (.ret (anyV w h t p m f))
  | _ => .fail
theorem raw_le {w h t p : Int} {m : Nat} {f : Nat → Nat → DV} (hr : RawOK w h t p m f) : leSVs 0 [] [] [.agg [u8V w, u8V h, u8V t, u8V p, .d (.ro m 1 f)]] [rawV w h t p m fun a => intCell (f a 0)] := by
  unfold rawV byT u8V
  simp only [leSVs, leSV, leD, and_true, true_and]
  intro i j hi hj
  obtain rfl : j = 0 := by omega
  exact (hr.2 i hi).1
theorem cAny_ok : CtrOK Tryz.prog 10 cAny := by
  refine ctrOK_leS CL_ok DL_ok (by kernel_rfl) (by kernel_rfl) fun ss r hr => ?_
  unfold cAny at hr
  split at hr
  · obtain ⟨h1, rfl⟩ := hr
    have k0 := an_sat h1
    exact ⟨_, 200, .run, raw_le h1, k0⟩
  · exact hr.elim
end Go.Proofs.YtgahnelicbddcaaGreatDoor

namespace Go.Proofs.YtgahnelicbddcaaGreatDoor
open Go.Sx
set_option maxRecDepth 100000
noncomputable def rawF (w h t p : Int) (m : Nat) (f : Nat → Nat → DV) : SV := .agg [u8V w, u8V h, u8V t, u8V p, .d (.ro m 1 f)]
end Go.Proofs.YtgahnelicbddcaaGreatDoor

