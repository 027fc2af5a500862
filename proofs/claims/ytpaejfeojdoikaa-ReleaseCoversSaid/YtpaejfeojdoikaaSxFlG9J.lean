/- Part of a proof of the given statements of this seat (SxFlSf, SxFlG9): no conditions beyond those typed here. -/
import Derived.Test.YtpaejfeojdoikaaSy11
import Derived.Test.YtpaejfeojdoikaaRows
import Derived.Test.YtpaejfeojdoikaaChecked
set_option linter.unusedVariables false
set_option linter.unusedSimpArgs false

namespace Go.Proofs.Ytpaejfeojdoikaa
open Go.Sx
set_option maxRecDepth 100000

/-! ### ReleaseCovers -/
theorem bxP_of (a0 a1 a2 a3 b0 b1 b2 b3 c0 c1 c2 c3 : Int) : bxP [iv a0, iv a1, iv a2, iv a3, iv b0, iv b1, iv b2, iv b3, iv c0, iv c1, iv c2, iv c3] := ⟨a0, a1, a2, a3, b0, b1, b2, b3, c0, c1, c2, c3, rfl⟩
theorem md_of {n d : Int} {D M : Nat} (hd : 1 ≤ d) (hD : 0 < D) (hdv : d.toNat ∣ D) (hn : n.natAbs ≤ M * d.toNat) (h1 : D ≤ 4611686018427387904) (h2 : M * D ≤ 4611686018427387904) : mdQ n d = ratOf n d ∧ Sm D M (ratOf n d) := by
  have hs := Sm.ratOf (n := n) hd hD hdv hn
  have hf := hs.fits h1 h2
  have eq : qR n d = ratOf n d := by unfold qR; rw [if_neg (by omega)]
  exact ⟨by rw [mdQ_of (by omega) (by rw [eq]; exact hf), eq], hs⟩
theorem wiB_in {a b x y l h : Rat} (h1 : x ≤ a) (h2 : a ≤ b) (h3 : b ≤ y) (hw : wiB x y l h = true) : wiB a b l h = true := by
  unfold wiB at hw ⊢
  simp only [Bool.and_eq_true, decide_eq_true_eq] at hw ⊢
  exact ⟨⟨by grind, by grind⟩, by grind, by grind⟩
theorem wiB_own {a b l h : Rat} (h1 : l ≤ a) (h2 : a ≤ b) (h3 : b ≤ h) : wiB a b l h = true := by
  unfold wiB
  simp only [Bool.and_eq_true, decide_eq_true_eq]
  exact ⟨⟨by grind, by grind⟩, by grind, by grind⟩
theorem cvQ_iff {l0 h0 l1 h1 l2 h2 per x0 y0 x1 y1 x2 y2 p : Rat} : cvQ l0 h0 l1 h1 l2 h2 per x0 y0 x1 y1 x2 y2 p = true ↔ (x0 ≤ y0 ∧ x1 ≤ y1 ∧ x2 ≤ y2) ∧ (wiB x0 y0 l0 h0 = true ∧ wiB x1 y1 l1 h1 = true ∧ wiB x2 y2 l2 h2 = true) ∧ per ≤ p := by
  unfold cvQ
  simp only [Bool.and_eq_true, decide_eq_true_eq]
  constructor
  · rintro ⟨⟨⟨⟨a, b⟩, c⟩, ⟨d, e⟩, f⟩, g⟩; exact ⟨⟨a, b, c⟩, ⟨d, e, f⟩, g⟩
  · rintro ⟨⟨a, b, c⟩, ⟨d, e, f⟩, g⟩; exact ⟨⟨⟨⟨a, b⟩, c⟩, ⟨d, e⟩, f⟩, g⟩

set_option maxHeartbeats 2000000 in
theorem law9 {n1 n2 : Nat} {d1 d2 : Nat → Nat → DV} (hb1 : Byt n1 d1) (hb2 : Byt n2 d2) {k0 k1 k2 k3 k4 k5 k6 k7 : Int}
    (g0 : 0 ≤ k0 ∧ k0 < 256) (g1 : 0 ≤ k1 ∧ k1 < 256) (g2 : 0 ≤ k2 ∧ k2 < 256) (g3 : 0 ≤ k3 ∧ k3 < 256) (g4 : 0 ≤ k4 ∧ k4 < 256) (g5 : 0 ≤ k5 ∧ k5 < 256) (g6 : 0 ≤ k6 ∧ k6 < 256) (g7 : 0 ≤ k7 ∧ k7 < 256) :
    LawU 9 [.d (.ro n1 1 d1), .d (.ro n2 1 d2), .agg [.d (.x (.int .u8 k0)), .d (.x (.int .u8 k1)), .d (.x (.int .u8 k2)), .d (.x (.int .u8 k3)), .d (.x (.int .u8 k4)), .d (.x (.int .u8 k5)), .d (.x (.int .u8 k6)), .d (.x (.int .u8 k7))]] := by
  refine ⟨.nil, ?_⟩
  rw [L9r_eq]; unfold L9r
  obtain ⟨e1, fP, sP⟩ := ct_per hb1
  have sl1 := fun j => loQ_sm hb1 j
  have sh1 := fun j => hiQ_sm hb1 j
  have sl2 := fun j => loQ_sm hb2 j
  have sh2 := fun j => hiQ_sm hb2 j
  have fl1 := fun j => (sl1 j).fits (by decide) (by decide)
  have fh1 := fun j => (sh1 j).fits (by decide) (by decide)
  have fl2 := fun j => (sl2 j).fits (by decide) (by decide)
  have fh2 := fun j => (sh2 j).fits (by decide) (by decide)
  have o1 := fun j => loQ_le (n := n1) (c := intCell d1) j
  have o2 := fun j => loQ_le (n := n2) (c := intCell d2) j
  have hr : (ctR n1 (intCell d1)).fn ≤ 1000000 := by have : (ctR n1 (intCell d1)).fn < 4 := ct_fn (byt_ro hb1); omega
  have w6 : w64 k6 = k6 := w64_of (by omega) (by omega)
  have w7 : w64 (1 + w64 k7) = 1 + k7 := by rw [w64_of (n := k7) (by omega) (by omega), w64_of (by omega) (by omega)]
  obtain ⟨m6, s6⟩ := md_of (n := k6) (d := 7) (D := 7) (M := 256) (by decide) (by decide) (by decide) (by omega) (by decide) (by decide)
  obtain ⟨m7, s7⟩ := md_of (n := 1 + k7) (d := 300) (D := 300) (M := 256) (by decide) (by decide) (by decide) (by omega) (by decide) (by decide)
  have q17 : L9r_q17 ctR n1 d1 = ratOf (1 + at8 n1 (intCell d1) 2) (1 + at8 n1 (intCell d1) 3 % 6) := (ratOf_rat _).trans e1
  have q18 : L9r_q18 k0 k1 k2 k3 k4 k5 k6 k7 = ratOf k6 7 := by show mdQ (w64 k6) 7 = _; rw [w6, m6]
  have q19 : L9r_q19 k0 k1 k2 k3 k4 k5 k6 k7 = ratOf k6 7 := (ratOf_rat _).trans q18
  have q61 : L9r_q61 k0 k1 k2 k3 k4 k5 k6 k7 = ratOf (1 + k7) 300 := by show mdQ (w64 (1 + w64 k7)) 300 = _; rw [w7, m7]
  have q62 : L9r_q62 k0 k1 k2 k3 k4 k5 k6 k7 = ratOf (1 + k7) 300 := (ratOf_rat _).trans q61
  have q8 : L9r_q8 k6 = ratOf k6 7 := by unfold L9r_q8; rw [w6, m6]
  have q9 : L9r_q9 k7 = ratOf (1 + k7) 300 := by unfold L9r_q9; rw [w7, m7]
  have f6 : fitsR (ratOf k6 7) := s6.fits (by decide) (by decide)
  have f7 : fitsR (ratOf (1 + k7) 300) := s7.fits (by decide) (by decide)
  have hq22 : L9r_q22 n2 d2 = loQ n2 (intCell d2) 0 := ratOf_rat _
  have hq23 : L9r_q23 n2 d2 = hiQ n2 (intCell d2) 0 := ratOf_rat _
  have hq26 : L9r_q26 n2 d2 = loQ n2 (intCell d2) 1 := ratOf_rat _
  have hq27 : L9r_q27 n2 d2 = hiQ n2 (intCell d2) 1 := ratOf_rat _
  have hq30 : L9r_q30 n2 d2 = loQ n2 (intCell d2) 2 := ratOf_rat _
  have hq31 : L9r_q31 n2 d2 = hiQ n2 (intCell d2) 2 := ratOf_rat _
  have hq42 : L9r_q42 ctR n1 d1 = loQ n1 (intCell d1) 0 := ratOf_rat _
  have hq43 : L9r_q43 ctR n1 d1 = hiQ n1 (intCell d1) 0 := ratOf_rat _
  have hq46 : L9r_q46 ctR n1 d1 = loQ n1 (intCell d1) 1 := ratOf_rat _
  have hq47 : L9r_q47 ctR n1 d1 = hiQ n1 (intCell d1) 1 := ratOf_rat _
  have hq50 : L9r_q50 ctR n1 d1 = loQ n1 (intCell d1) 2 := ratOf_rat _
  have hq51 : L9r_q51 ctR n1 d1 = hiQ n1 (intCell d1) 2 := ratOf_rat _
  have hvP : VF (Rel.pn (ctR n1 (intCell d1))) (Rel.pd (ctR n1 (intCell d1))) := VF.of (q := mdQ (w64 (1 + at8 n1 (intCell d1) 2)) (w64 (1 + Int.tmod (at8 n1 (intCell d1) 3) 6))) (by rw [e1]; exact fP)
  have I2 : ∀ j, SInt (loQ n2 (intCell d2) j).num (loQ n2 (intCell d2) j).den (hiQ n2 (intCell d2) j).num (hiQ n2 (intCell d2) j).den := fun j => ⟨VF.of (fl2 j), VF.of (fh2 j), by rw [ratOf_rat]; exact sl2 j, by rw [ratOf_rat]; exact sh2 j⟩
  have I1 : ∀ j, SInt (loQ n1 (intCell d1) j).num (loQ n1 (intCell d1) j).den (hiQ n1 (intCell d1) j).num (hiQ n1 (intCell d1) j).den := fun j => ⟨VF.of (fl1 j), VF.of (fh1 j), by rw [ratOf_rat]; exact sl1 j, by rw [ratOf_rat]; exact sh1 j⟩
  have pR : relP (relL (ctR n1 (intCell d1))) := relP_L hr
  have gg : ((0 ≤ k0 ∧ k0 < 256) ∧ (0 ≤ k1 ∧ k1 < 256) ∧ 0 ≤ k2 ∧ k2 < 256) ∧ (0 ≤ k3 ∧ k3 < 256) ∧ (0 ≤ k4 ∧ k4 < 256) ∧ 0 ≤ k5 ∧ k5 < 256 := ⟨⟨g0, g1, g2⟩, g3, g4, g5⟩
  have i6 : I64 (w64 k6) := by rw [w6]; exact ⟨by omega, by omega⟩
  have i7 : I64 (w64 (1 + w64 k7)) := by rw [w7]; exact ⟨by omega, by omega⟩
  -- the values of the calls
  have sP' : Sm 2100 256 (ratOf (1 + at8 n1 (intCell d1) 2) (1 + at8 n1 (intCell d1) 3 % 6)) := sP.le (by decide) (by decide) (by decide)
  have q20 : L9r_q20 ctR n1 d1 k0 k1 k2 k3 k4 k5 k6 k7 = ratOf (1 + at8 n1 (intCell d1) 2) (1 + at8 n1 (intCell d1) 3 % 6) + ratOf k6 7 := by unfold L9r_q20; rw [q17, q19]
  have q63 : L9r_q63 ctR n1 d1 k0 k1 k2 k3 k4 k5 k6 k7 = ratOf (1 + at8 n1 (intCell d1) 2) (1 + at8 n1 (intCell d1) 3 % 6) - ratOf (1 + k7) 300 := by unfold L9r_q63; rw [q17, q62]
  have f20 : fitsR (L9r_q20 ctR n1 d1 k0 k1 k2 k3 k4 k5 k6 k7) := by rw [q20]; exact (sP'.add (s6.le (D' := 2100) (M' := 256) (by decide) (by decide) (by decide))).fits (by decide) (by decide)
  have f63 : fitsR (L9r_q63 ctR n1 d1 k0 k1 k2 k3 k4 k5 k6 k7) := by rw [q63]; exact (sP'.sub (s7.le (D' := 2100) (M' := 256) (by decide) (by decide) (by decide))).fits (by decide) (by decide)
  have V := fun {x0 y0 x1 y1 x2 y2 p : Rat} f0 g0 f1 g1 f2 g2 fp => cvL_of (x0 := x0) (y0 := y0) (x1 := x1) (y1 := y1) (x2 := x2) (y2 := y2) (p := p) hb1 f0 g0 f1 g1 f2 g2 fp (l := relL (ctR n1 (intCell d1))) (relR_L _)
  have pf2 := fun j {k l : Int} (hk : 0 ≤ k) (hl : 0 ≤ l) => ptL_sm (sl2 j) (sh2 j) hk hl
  have pf1 := fun j {k l : Int} (hk : 0 ≤ k) (hl : 0 ≤ l) => ptL_sm (sl1 j) (sh1 j) hk hl
  have FT2 := fun {q : Rat} (h : PtQ q) => h.fits (by decide) (by decide)
  have v21 := V (fl2 0) (fh2 0) (fl2 1) (fh2 1) (fl2 2) (fh2 2) f20
  have vP := V (fl2 0) (fh2 0) (fl2 1) (fh2 1) (fl2 2) (fh2 2) (p := mdQ (w64 (1 + at8 n1 (intCell d1) 2)) (w64 (1 + Int.tmod (at8 n1 (intCell d1) 3) 6))) (by rw [e1]; exact fP)
  have vpart := V (FT2 (pf2 0 g0.1 g3.1).1) (FT2 (pf2 0 g0.1 g3.1).2) (FT2 (pf2 1 g1.1 g4.1).1) (FT2 (pf2 1 g1.1 g4.1).2) (FT2 (pf2 2 g2.1 g5.1).1) (FT2 (pf2 2 g2.1 g5.1).2) f20
  have vown := V (FT2 (pf1 0 g0.1 g3.1).1) (FT2 (pf1 0 g0.1 g3.1).2) (FT2 (pf1 1 g1.1 g4.1).1) (FT2 (pf1 1 g1.1 g4.1).2) (FT2 (pf1 2 g2.1 g5.1).1) (FT2 (pf1 2 g2.1 g5.1).2) f20
  have vshort := V (FT2 (pf1 0 g0.1 g3.1).1) (FT2 (pf1 0 g0.1 g3.1).2) (FT2 (pf1 1 g1.1 g4.1).1) (FT2 (pf1 1 g1.1 g4.1).2) (FT2 (pf1 2 g2.1 g5.1).1) (FT2 (pf1 2 g2.1 g5.1).2) f63
  have vself := V (fl1 0) (fh1 0) (fl1 1) (fh1 1) (fl1 2) (fh1 2) (p := mdQ (w64 (1 + at8 n1 (intCell d1) 2)) (w64 (1 + Int.tmod (at8 n1 (intCell d1) 3) 6))) (by rw [e1]; exact fP)
  rw [e1] at vP vself
  have hL : (0 : Rat) ≤ ratOf k6 7 := by
    have e := ratOf_mul (n := k6) (d := 7) (by decide)
    have hd' : (0 : Rat) < ((7 : Int) : Rat) := Rat.intCast_lt_intCast.2 (by decide)
    refine Rat.le_of_mul_le_mul_right ?_ hd'
    rw [e, Rat.zero_mul]
    exact Rat.intCast_le_intCast.2 g6.1
  have hS : (0 : Rat) < ratOf (1 + k7) 300 := by
    have e := ratOf_mul (n := 1 + k7) (d := 300) (by decide)
    have hd' : (0 : Rat) ≤ ((300 : Int) : Rat) := Rat.intCast_le_intCast.2 (by decide)
    refine Rat.lt_of_mul_lt_mul_right ?_ hd'
    rw [e, Rat.zero_mul]
    exact Rat.intCast_lt_intCast.2 (show (0 : Int) < 1 + k7 by omega)
  rw [q20] at v21 vpart vown
  rw [q63] at vshort
  generalize hP : ratOf (1 + at8 n1 (intCell d1) 2) (1 + at8 n1 (intCell d1) 3 % 6) = P at *
  obtain ⟨a1, a2, a3⟩ := ptL_in (o2 0) g0.1 g3.1
  obtain ⟨a4, a5, a6⟩ := ptL_in (o2 1) g1.1 g4.1
  obtain ⟨a7, a8, a9⟩ := ptL_in (o2 2) g2.1 g5.1
  obtain ⟨c1, c2, c3⟩ := ptL_in (o1 0) g0.1 g3.1
  obtain ⟨c4, c5, c6⟩ := ptL_in (o1 1) g1.1 g4.1
  obtain ⟨c7, c8, c9⟩ := ptL_in (o1 2) g2.1 g5.1
  have b21 : L9r_q21 ctR cvL n1 d1 n2 d2 k0 k1 k2 k3 k4 k5 k6 k7 = cvQ (loQ n1 (intCell d1) 0) (hiQ n1 (intCell d1) 0) (loQ n1 (intCell d1) 1) (hiQ n1 (intCell d1) 1) (loQ n1 (intCell d1) 2) (hiQ n1 (intCell d1) 2) P (loQ n2 (intCell d2) 0) (hiQ n2 (intCell d2) 0) (loQ n2 (intCell d2) 1) (hiQ n2 (intCell d2) 1) (loQ n2 (intCell d2) 2) (hiQ n2 (intCell d2) 2) (P + ratOf k6 7) := by
    unfold L9r_q21
    rw [rN_of f20, rD_of f20, q20]
    exact v21
  have b41 : L9r_q41 ctR cvL n1 d1 = true := by
    refine Eq.trans (show _ = cvL (relL (ctR n1 (intCell d1))) _ (mdQ (w64 (1 + at8 n1 (intCell d1) 2)) (w64 (1 + Int.tmod (at8 n1 (intCell d1) 3) 6))).num (mdQ (w64 (1 + at8 n1 (intCell d1) 2)) (w64 (1 + Int.tmod (at8 n1 (intCell d1) 3) 6))).den from rfl) ?_
    rw [e1]
    refine vself.trans (cvQ_iff.2 ⟨⟨o1 0, o1 1, o1 2⟩, ⟨wiB_own Rat.le_refl (o1 0) Rat.le_refl, wiB_own Rat.le_refl (o1 1) Rat.le_refl, wiB_own Rat.le_refl (o1 2) Rat.le_refl⟩, Rat.le_refl⟩)
  have hq34 : L9r_q34 n2 d2 k0 k1 k2 k3 k4 k5 k6 k7 = ptL (loQ n2 (intCell d2) 0) (hiQ n2 (intCell d2) 0) k0 k3 := by unfold L9r_q34; rw [hq22, hq23]; rfl
  have hq35 : L9r_q35 n2 d2 k0 k1 k2 k3 k4 k5 k6 k7 = ptH (loQ n2 (intCell d2) 0) (hiQ n2 (intCell d2) 0) k0 k3 := by unfold L9r_q35; rw [hq22, hq23]; rfl
  have hq36 : L9r_q36 n2 d2 k0 k1 k2 k3 k4 k5 k6 k7 = ptL (loQ n2 (intCell d2) 1) (hiQ n2 (intCell d2) 1) k1 k4 := by unfold L9r_q36; rw [hq26, hq27]; rfl
  have hq37 : L9r_q37 n2 d2 k0 k1 k2 k3 k4 k5 k6 k7 = ptH (loQ n2 (intCell d2) 1) (hiQ n2 (intCell d2) 1) k1 k4 := by unfold L9r_q37; rw [hq26, hq27]; rfl
  have hq38 : L9r_q38 n2 d2 k0 k1 k2 k3 k4 k5 k6 k7 = ptL (loQ n2 (intCell d2) 2) (hiQ n2 (intCell d2) 2) k2 k5 := by unfold L9r_q38; rw [hq30, hq31]; rfl
  have hq39 : L9r_q39 n2 d2 k0 k1 k2 k3 k4 k5 k6 k7 = ptH (loQ n2 (intCell d2) 2) (hiQ n2 (intCell d2) 2) k2 k5 := by unfold L9r_q39; rw [hq30, hq31]; rfl
  have hq54 : L9r_q54 ctR n1 d1 k0 k1 k2 k3 k4 k5 k6 k7 = ptL (loQ n1 (intCell d1) 0) (hiQ n1 (intCell d1) 0) k0 k3 := by unfold L9r_q54; rw [hq42, hq43]; rfl
  have hq55 : L9r_q55 ctR n1 d1 k0 k1 k2 k3 k4 k5 k6 k7 = ptH (loQ n1 (intCell d1) 0) (hiQ n1 (intCell d1) 0) k0 k3 := by unfold L9r_q55; rw [hq42, hq43]; rfl
  have hq56 : L9r_q56 ctR n1 d1 k0 k1 k2 k3 k4 k5 k6 k7 = ptL (loQ n1 (intCell d1) 1) (hiQ n1 (intCell d1) 1) k1 k4 := by unfold L9r_q56; rw [hq46, hq47]; rfl
  have hq57 : L9r_q57 ctR n1 d1 k0 k1 k2 k3 k4 k5 k6 k7 = ptH (loQ n1 (intCell d1) 1) (hiQ n1 (intCell d1) 1) k1 k4 := by unfold L9r_q57; rw [hq46, hq47]; rfl
  have hq58 : L9r_q58 ctR n1 d1 k0 k1 k2 k3 k4 k5 k6 k7 = ptL (loQ n1 (intCell d1) 2) (hiQ n1 (intCell d1) 2) k2 k5 := by unfold L9r_q58; rw [hq50, hq51]; rfl
  have hq59 : L9r_q59 ctR n1 d1 k0 k1 k2 k3 k4 k5 k6 k7 = ptH (loQ n1 (intCell d1) 2) (hiQ n1 (intCell d1) 2) k2 k5 := by unfold L9r_q59; rw [hq50, hq51]; rfl
  have b40 : L9r_q40 ctR cvL n1 d1 n2 d2 k0 k1 k2 k3 k4 k5 k6 k7 = false := by
    unfold L9r_q40
    rw [b21, hq34, hq35, hq36, hq37, hq38, hq39, rN_of f20, rD_of f20, q20]
    refine Eq.trans (show _ = (_ && !cvL (relL (ctR n1 (intCell d1))) _ _ _) from rfl) ?_
    rw [vpart]
    rw [Bool.eq_false_iff]
    intro h
    simp only [Bool.and_eq_true, Bool.not_eq_true'] at h
    obtain ⟨h1, h2⟩ := h
    obtain ⟨_, ⟨t1, t2, t3⟩, t4⟩ := cvQ_iff.1 h1
    rw [cvQ_iff.2 ⟨⟨a2, a5, a8⟩, ⟨wiB_in a1 a2 a3 t1, wiB_in a4 a5 a6 t2, wiB_in a7 a8 a9 t3⟩, t4⟩] at h2
    cases h2
  have b60 : L9r_q60 ctR cvL n1 d1 k0 k1 k2 k3 k4 k5 k6 k7 = true := by
    unfold L9r_q60
    rw [b41, hq54, hq55, hq56, hq57, hq58, hq59, rN_of f20, rD_of f20, q20]
    refine Eq.trans (show _ = (true && cvL (relL (ctR n1 (intCell d1))) _ _ _) from rfl) ?_
    rw [vown, Bool.true_and]
    exact cvQ_iff.2 ⟨⟨c2, c5, c8⟩, ⟨wiB_own c1 c2 c3, wiB_own c4 c5 c6, wiB_own c7 c8 c9⟩, by grind⟩
  refine ⟨fun h => absurd h (by decide), fun _ => ?_⟩
  refine ⟨hb1, hb2, by decide, by decide, by decide, by decide, by decide, by decide, by decide, by decide, by decide, by decide, by decide, by decide, ⟨⟨I2 0, I2 1, I2 2⟩, gg⟩, by decide, by decide, by decide, by decide, by decide, by decide, by decide, by decide, by decide, by decide, by decide, by decide, ⟨⟨I1 0, I1 1, I1 2⟩, gg⟩, by decide, by decide, ⟨i6, by decide, by decide⟩, ⟨hvP, by rw [q8]; exact VF.of f6⟩, by decide, by decide, ⟨i7, by decide, by decide⟩, ⟨hvP, by rw [q9]; exact VF.of f7⟩, ⟨pR, bxP_of _ _ _ _ _ _ _ _ _ _ _ _⟩, fun _ => ⟨pR, bxP_of _ _ _ _ _ _ _ _ _ _ _ _⟩, fun _ => ⟨pR, bxP_of _ _ _ _ _ _ _ _ _ _ _ _⟩, fun _ => ⟨pR, bxP_of _ _ _ _ _ _ _ _ _ _ _ _⟩, fun h => ?_, fun _ => ⟨⟨pR, bxP_of _ _ _ _ _ _ _ _ _ _ _ _⟩, fun _ => ⟨pR, bxP_of _ _ _ _ _ _ _ _ _ _ _ _⟩, fun _ => ⟨pR, bxP_of _ _ _ _ _ _ _ _ _ _ _ _⟩, ?_⟩⟩
  · exfalso
    rw [b40, b21, Bool.false_or] at h
    have h : (!(cvL (relL (ctR n1 (intCell d1))) [iv (loQ n2 (intCell d2) 0).num, iv (loQ n2 (intCell d2) 0).den, iv (hiQ n2 (intCell d2) 0).num, iv (hiQ n2 (intCell d2) 0).den, iv (loQ n2 (intCell d2) 1).num, iv (loQ n2 (intCell d2) 1).den, iv (hiQ n2 (intCell d2) 1).num, iv (hiQ n2 (intCell d2) 1).den, iv (loQ n2 (intCell d2) 2).num, iv (loQ n2 (intCell d2) 2).den, iv (hiQ n2 (intCell d2) 2).num, iv (hiQ n2 (intCell d2) 2).den] (mdQ (w64 (1 + at8 n1 (intCell d1) 2)) (w64 (1 + Int.tmod (at8 n1 (intCell d1) 3) 6))).num (mdQ (w64 (1 + at8 n1 (intCell d1) 2)) (w64 (1 + Int.tmod (at8 n1 (intCell d1) 3) 6))).den == cvQ (loQ n1 (intCell d1) 0) (hiQ n1 (intCell d1) 0) (loQ n1 (intCell d1) 1) (hiQ n1 (intCell d1) 1) (loQ n1 (intCell d1) 2) (hiQ n1 (intCell d1) 2) P (loQ n2 (intCell d2) 0) (hiQ n2 (intCell d2) 0) (loQ n2 (intCell d2) 1) (hiQ n2 (intCell d2) 1) (loQ n2 (intCell d2) 2) (hiQ n2 (intCell d2) 2) (P + ratOf k6 7))) = true := h
    rw [e1, vP] at h
    have : cvQ (loQ n1 (intCell d1) 0) (hiQ n1 (intCell d1) 0) (loQ n1 (intCell d1) 1) (hiQ n1 (intCell d1) 1) (loQ n1 (intCell d1) 2) (hiQ n1 (intCell d1) 2) P (loQ n2 (intCell d2) 0) (hiQ n2 (intCell d2) 0) (loQ n2 (intCell d2) 1) (hiQ n2 (intCell d2) 1) (loQ n2 (intCell d2) 2) (hiQ n2 (intCell d2) 2) (P + ratOf k6 7) = cvQ (loQ n1 (intCell d1) 0) (hiQ n1 (intCell d1) 0) (loQ n1 (intCell d1) 1) (hiQ n1 (intCell d1) 1) (loQ n1 (intCell d1) 2) (hiQ n1 (intCell d1) 2) P (loQ n2 (intCell d2) 0) (hiQ n2 (intCell d2) 0) (loQ n2 (intCell d2) 1) (hiQ n2 (intCell d2) 1) (loQ n2 (intCell d2) 2) (hiQ n2 (intCell d2) 2) P := by
      rw [Bool.eq_iff_iff, cvQ_iff, cvQ_iff]
      exact ⟨fun h => ⟨h.1, h.2.1, Rat.le_refl⟩, fun h => ⟨h.1, h.2.1, by grind⟩⟩
    rw [this] at h
    simp at h
  · refine bv_true ?_
    rw [b60, hq54, hq55, hq56, hq57, hq58, hq59, rN_of f63, rD_of f63, q63]
    refine Eq.trans (show _ = (true && !cvL (relL (ctR n1 (intCell d1))) _ _ _ && true) from rfl) ?_
    rw [vshort, Bool.true_and, Bool.and_true, Bool.not_eq_true', Bool.eq_false_iff]
    intro h
    have := (cvQ_iff.1 h).2.2
    grind

theorem releaseCovers_ok : ∃ c : Ctr, CtrOK Try.prog 9 c ∧ ∀ ss, okArgs Try.prog 6 [22, 22, 83] ss → (c ss).ev (bv true) := by
  refine law_ctrU (by kernel_rfl) (by kernel_rfl) fun ss hs => ?_
  obtain ⟨e1, r1, rfl, g1, e2, r2, rfl, g2, e3, r3, rfl, g3, rfl⟩ := hs
  obtain ⟨n1, d1, hb1, rfl⟩ := okBytes g1
  obtain ⟨n2, d2, hb2, rfl⟩ := okBytes g2
  obtain ⟨ks, hk, rfl, hks⟩ := okArr (m := 8) (by kernel_rfl) g3
  match ks, hk with
  | [k0, k1, k2, k3, k4, k5, k6, k7], _ =>
    have k := law9 hb1 hb2 (hks k0 (by simp)) (hks k1 (by simp)) (hks k2 (by simp)) (hks k3 (by simp)) (hks k4 (by simp)) (hks k5 (by simp)) (hks k6 (by simp)) (hks k7 (by simp))
    refine ⟨[.d (.ro n1 1 d1), .d (.ro n2 1 d2), .agg [.d (.x (.int .u8 k0)), .d (.x (.int .u8 k1)), .d (.x (.int .u8 k2)), .d (.x (.int .u8 k3)), .d (.x (.int .u8 k4)), .d (.x (.int .u8 k5)), .d (.x (.int .u8 k6)), .d (.x (.int .u8 k7))]], ?_, ?_⟩
    · have f1 : svT Try.prog 22 [.ro n1 1 d1] = .d (.ro n1 1 d1) := by rfl
      have f2 : svT Try.prog 22 [.ro n2 1 d2] = .d (.ro n2 1 d2) := by rfl
      have f3 : svT Try.prog 83 ([k0, k1, k2, k3, k4, k5, k6, k7].map u8d) = .agg [.d (.x (.int .u8 k0)), .d (.x (.int .u8 k1)), .d (.x (.int .u8 k2)), .d (.x (.int .u8 k3)), .d (.x (.int .u8 k4)), .d (.x (.int .u8 k5)), .d (.x (.int .u8 k6)), .d (.x (.int .u8 k7))] := by rfl
      rw [f1, f2, f3]
      simp [leSVs, leSV, leD]
    · exact k
end Go.Proofs.Ytpaejfeojdoikaa

namespace Go.Proofs.Ytpaejfeojdoikaa
open Go.ChangeShapes Go.WideShapes Go.ChangeAt Go.RowKit Go.Sx

theorem own : ownKnob Try.prog.godebug = none := by kernel_rfl
theorem laidOut : laidOutB Try.prog = true := by kernel_rfl

set_option maxRecDepth 100000 in
theorem lifted (os : Os) (started : os.Started) (H : Type) (enc : TypeId × Value → H) :
    ReturnsInHanded {} Try.checked os 9 .any (Rows.releaseCoversSpec.pre6 enc Try.prog Try.f9 Rows.releaseCoversRow.domain false) (Rows.releaseCoversSpec.post enc Try.prog Try.f9 false true false false) := by
  refine returnsInHanded_of_change (C := Try.checked) own started (by kernel_rfl) Try.func9
    (ChangeSpec.witness6 (enc := enc) (C := Try.checked) false ⟨#[], #[.slice none 0 0, .slice none 0 0, .agg #[.int .u8 0, .int .u8 0, .int .u8 0, .int .u8 0, .int .u8 0, .int .u8 0, .int .u8 0, .int .u8 0]], []⟩ 8 (by kernel_rfl) (by kernel_rfl) (by kernel_rfl) (by kernel_rfl)) ?_
  intro W base args ds gs before hval0 hW hcnd _
  have hval : ∀ (j : Nat) t v, Try.f9.params[j]? = some t → args[j]? = some v → Value.okWide Try.prog W .any base t v := hval0
  have hW' := hW
  obtain ⟨p, q, hA0, hV, rfl, hfz, hnd⟩ := hW
  have hA : DataW.TrodAll enc Try.prog W 0 (fun _ => true) true Try.f9.params.toList args.toList ds p := hA0
  rw [Try.params9] at hA hval
  obtain ⟨rfl, rfl⟩ := trodVars_none hV
  obtain ⟨v0, vs0, d0, ds0, p0, q0, hargs, rfl, e0, h0, r0⟩ := trodAll_cons hA
  obtain ⟨v1, vs1, d1, ds1, p1, q1, e1_1, rfl, e2_1, h1, r1⟩ := trodAll_cons r0
  obtain ⟨v2, vs2, d2, ds2, p2, q2, e1_2, rfl, e2_2, h2, r2⟩ := trodAll_cons r1
  obtain ⟨e3, rfl, e4⟩ := trodAll_nil r2
  obtain ⟨c, hc, hev⟩ := releaseCovers_ok
  have hlt := trodAll_lt hA
  obtain ⟨ss, o1, o2, o3⟩ := open_args (F := fun b => ∃ x ∈ p, x.block = b) (n := 6) (r := .any) (base := base) (by kernel_rfl) hA (fun j t v a b => hval j t v (by simpa using a) (by simpa using b)) (fun q hq => ⟨q, hq, rfl⟩)
  refine (law_of hc (F := fun b => ∃ x ∈ p, x.block = b) (fun b ⟨x, hx, e⟩ => e ▸ hlt x hx) (ss := ss) ⟨by simpa using o2, fun i hi => by simpa [List.getD, Array.getD_eq_getD_getElem?] using o3 i hi⟩ (hev ss o1)).mono fun e W' ⟨he, bel⟩ => ?_
  subst he
  have hback := trodAll_below laidOut bel (by kernel_rfl) hA
  exact ⟨_, rfl, _, _, _, [], _, [], hW', trodAll_mk1 (shut_bool Try.underlying4 _), hback, rfl, bel.frame _, fun h => by cases h⟩

theorem over : Rows.releaseCoversRow.holds Try.pinned (OpenSpec.ofChange Rows.releaseCoversSpec) :=
  OpenClaim.holds_of_wide 9 Try.f9 rfl rfl rfl rfl rfl rfl rfl ⟨rfl, rfl, rfl, rfl, rfl⟩ rfl rfl rfl rfl rfl (by kernel_rfl) Try.func9 (by kernel_rfl)
    (of_decide_eq_true (by kernel_rfl)) (by unfold Func.isWrapper; first | (rw [if_pos (by decide +kernel)]; kernel_rfl) | (rw [if_neg (by decide +kernel)]; exact ⟨rfl, rfl⟩))
    (fun os started H enc _ => lifted os started H enc)

theorem releaseCovers_holds : Rows.ReleaseCoversSaid := over
#print axioms releaseCovers_holds
end Go.Proofs.Ytpaejfeojdoikaa

