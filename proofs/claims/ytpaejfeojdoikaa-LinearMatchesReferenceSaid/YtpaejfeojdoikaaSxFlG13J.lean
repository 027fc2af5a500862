/- Part of a proof of the given statements of this seat (SxFlWx, SxFlYa, SxFlYb, SxFlYc, SxFlYd, SxFlG13): no conditions beyond those typed here. -/
import Derived.Test.YtpaejfeojdoikaaSy10
import Derived.Test.YtpaejfeojdoikaaRows
import Derived.Test.YtpaejfeojdoikaaChecked
set_option linter.unusedVariables false
set_option linter.unusedSimpArgs false

namespace Go.Proofs.Ytpaejfeojdoikaa
open Go.Sx
set_option maxRecDepth 100000

theorem lv_add {k t v a k' t' v' a' p q r : Rat} : lv (k + k') (t + t') (v + v') (a + a') p q r = lv k t v a p q r + lv k' t' v' a' p q r := by
  unfold lv; rw [Rat.add_mul, Rat.add_mul, Rat.add_mul]; grind

theorem law12 {n m : Nat} {c d : Nat → Nat → DV} (hc : Byt n c) (hd : Byt m d) {b0 b1 b2 b3 b4 b5 b6 b7 b8 b9 b10 b11 b12 b13 b14 b15 : Int} (g : ∀ k ∈ [b0, b1, b2, b3, b4, b5, b6, b7, b8, b9, b10, b11, b12, b13, b14, b15], 0 ≤ k ∧ k < 256) :
    LawI 12 [.d (.ro n 1 c), .d (.ro m 1 d), .agg [u8 b0, u8 b1, u8 b2, u8 b3, u8 b4, u8 b5, u8 b6, u8 b7, u8 b8, u8 b9, u8 b10, u8 b11, u8 b12, u8 b13, u8 b14, u8 b15]] := by
  refine ⟨.nil, ?_⟩
  rw [L12_eq]; unfold L12
  have hb : Byt 12 (L12_q1 b0 b1 b2 b3 b4 b5 b6 b7 b8 b9 b10 b11 b12 b13 b14 b15) := by
    refine ⟨by decide, fun i hi => ?_⟩
    match i, hi with
    | 0, _ => exact ⟨b0, rfl, g _ (by simp)⟩
    | 1, _ => exact ⟨b1, rfl, g _ (by simp)⟩
    | 2, _ => exact ⟨b2, rfl, g _ (by simp)⟩
    | 3, _ => exact ⟨b3, rfl, g _ (by simp)⟩
    | 4, _ => exact ⟨b4, rfl, g _ (by simp)⟩
    | 5, _ => exact ⟨b5, rfl, g _ (by simp)⟩
    | 6, _ => exact ⟨b6, rfl, g _ (by simp)⟩
    | 7, _ => exact ⟨b7, rfl, g _ (by simp)⟩
    | 8, _ => exact ⟨b8, rfl, g _ (by simp)⟩
    | 9, _ => exact ⟨b9, rfl, g _ (by simp)⟩
    | 10, _ => exact ⟨b10, rfl, g _ (by simp)⟩
    | 11, _ => exact ⟨b11, rfl, g _ (by simp)⟩
  have g12 : 0 ≤ b12 ∧ b12 < 256 := g _ (by simp)
  have g13 : 0 ≤ b13 ∧ b13 < 256 := g _ (by simp)
  have g14 : 0 ≤ b14 ∧ b14 < 256 := g _ (by simp)
  have e1 : L12_q2 c = intCell c := rfl
  have e6 : L12_q7 d = intCell d := rfl
  have e12 : L12_q12 b0 b1 b2 b3 b4 b5 b6 b7 b8 b9 b10 b11 b12 b13 b14 b15 = intCell (L12_q1 b0 b1 b2 b3 b4 b5 b6 b7 b8 b9 b10 b11 b12 b13 b14 b15) := rfl
  have sK := linQ_sm hc 0
  have sT := linQ_sm hc 1
  have sV := linQ_sm hc 2
  have sA := linQ_sm hc 3
  have tK := linQ_sm hd 0
  have tT := linQ_sm hd 1
  have tV := linQ_sm hd 2
  have tA := linQ_sm hd 3
  have sl0 := loQ_sm hb 0
  have sl1 := loQ_sm hb 1
  have sl2 := loQ_sm hb 2
  have sh0 := hiQ_sm hb 0
  have sh1 := hiQ_sm hb 1
  have sh2 := hiQ_sm hb 2
  have o0 := loQ_le (n := 12) (c := intCell (L12_q1 b0 b1 b2 b3 b4 b5 b6 b7 b8 b9 b10 b11 b12 b13 b14 b15)) 0
  have o1 := loQ_le (n := 12) (c := intCell (L12_q1 b0 b1 b2 b3 b4 b5 b6 b7 b8 b9 b10 b11 b12 b13 b14 b15)) 1
  have o2 := loQ_le (n := 12) (c := intCell (L12_q1 b0 b1 b2 b3 b4 b5 b6 b7 b8 b9 b10 b11 b12 b13 b14 b15)) 2
  have hsum : sumR 2 (L12_q71 n m c d) = addO (linQ n (intCell c) 0) (linQ n (intCell c) 1) (linQ n (intCell c) 2) (linQ n (intCell c) 3) (linQ m (intCell d) 0) (linQ m (intCell d) 1) (linQ m (intCell d) 2) (linQ m (intCell d) 3) := by
    show addO (ratOf (linQ n (intCell c) 0).num (linQ n (intCell c) 0).den) (ratOf (linQ n (intCell c) 1).num (linQ n (intCell c) 1).den) (ratOf (linQ n (intCell c) 2).num (linQ n (intCell c) 2).den) (ratOf (linQ n (intCell c) 3).num (linQ n (intCell c) 3).den)
      (ratOf (linQ m (intCell d) 0).num (linQ m (intCell d) 0).den) (ratOf (linQ m (intCell d) 1).num (linQ m (intCell d) 1).den) (ratOf (linQ m (intCell d) 2).num (linQ m (intCell d) 2).den) (ratOf (linQ m (intCell d) 3).num (linQ m (intCell d) 3).den) = _
    simp only [ratOf_rat]
  have hsum2 : sumR 2 (L12_q76 n m c d) = addO (linQ n (intCell c) 0) (linQ n (intCell c) 1) (linQ n (intCell c) 2) (linQ n (intCell c) 3) (linQ m (intCell d) 0) (linQ m (intCell d) 1) (linQ m (intCell d) 2) (linQ m (intCell d) 3) := by
    show addO (ratOf (linQ n (intCell c) 0).num (linQ n (intCell c) 0).den) (ratOf (linQ n (intCell c) 1).num (linQ n (intCell c) 1).den) (ratOf (linQ n (intCell c) 2).num (linQ n (intCell c) 2).den) (ratOf (linQ n (intCell c) 3).num (linQ n (intCell c) 3).den)
      (ratOf (linQ m (intCell d) 0).num (linQ m (intCell d) 0).den) (ratOf (linQ m (intCell d) 1).num (linQ m (intCell d) 1).den) (ratOf (linQ m (intCell d) 2).num (linQ m (intCell d) 2).den) (ratOf (linQ m (intCell d) 3).num (linQ m (intCell d) 3).den) = _
    simp only [ratOf_rat]
  have hrow : ∀ (i : Nat), i < 2 → VRow (cellI (L12_q71 n m c d) i) ∧ ∀ (j : Nat), j < 8 → L12_q71 n m c d i j = DV.x (Value.int IntKind.i64 (cellI (L12_q71 n m c d) i j)) := by
    intro i hi
    match i, hi with
    | 0, _ =>
      refine ⟨⟨sK.cf.vf, sT.cf.vf, sV.cf.vf, sA.cf.vf⟩, fun j hj => ?_⟩
      match j, hj with
      | 0, _ => rfl
      | 1, _ => rfl
      | 2, _ => rfl
      | 3, _ => rfl
      | 4, _ => rfl
      | 5, _ => rfl
      | 6, _ => rfl
      | 7, _ => rfl
    | 1, _ =>
      refine ⟨⟨tK.cf.vf, tT.cf.vf, tV.cf.vf, tA.cf.vf⟩, fun j hj => ?_⟩
      match j, hj with
      | 0, _ => rfl
      | 1, _ => rfl
      | 2, _ => rfl
      | 3, _ => rfl
      | 4, _ => rfl
      | 5, _ => rfl
      | 6, _ => rfl
      | 7, _ => rfl
  simp only [L12_q3, L12_q4, L12_q5, L12_q6, L12_q8, L12_q9, L12_q10, L12_q11, L12_q13, L12_q14, L12_q15, L12_q16, L12_q17, L12_q18, L12_q19, L12_q20, L12_q21, L12_q22, L12_q23, L12_q24, L12_q25, L12_q26, L12_q27, L12_q28, L12_q29, L12_q30, L12_q31, L12_q32, L12_q33, L12_q34, L12_q35, L12_q36, L12_q37, L12_q38, L12_q39, L12_q40, L12_q41, L12_q42, L12_q43, L12_q44, L12_q45, L12_q46, L12_q47, L12_q48, L12_q49, L12_q50, L12_q51, L12_q52, L12_q53, L12_q54, L12_q55, L12_q56, L12_q57, L12_q58, L12_q59, L12_q60, L12_q61, L12_q62, L12_q63, L12_q64, L12_q65, L12_q66, L12_q67, L12_q68, L12_q69, L12_q70, L12_q72, L12_q73, L12_q74, L12_q75, L12_q77, L12_q78, L12_q79, L12_q80, L12_q81, L12_q82, L12_q83, L12_q84, L12_q85, L12_q86, L12_q87, e1, e6, e12, ratOf_rat]
  generalize linQ n (intCell c) 0 = K at *
  generalize linQ n (intCell c) 1 = T at *
  generalize linQ n (intCell c) 2 = V at *
  generalize linQ n (intCell c) 3 = A at *
  generalize linQ m (intCell d) 0 = K' at *
  generalize linQ m (intCell d) 1 = T' at *
  generalize linQ m (intCell d) 2 = V' at *
  generalize linQ m (intCell d) 3 = A' at *
  generalize loQ 12 (intCell (L12_q1 b0 b1 b2 b3 b4 b5 b6 b7 b8 b9 b10 b11 b12 b13 b14 b15)) 0 = l0 at *
  generalize loQ 12 (intCell (L12_q1 b0 b1 b2 b3 b4 b5 b6 b7 b8 b9 b10 b11 b12 b13 b14 b15)) 1 = l1 at *
  generalize loQ 12 (intCell (L12_q1 b0 b1 b2 b3 b4 b5 b6 b7 b8 b9 b10 b11 b12 b13 b14 b15)) 2 = l2 at *
  generalize hiQ 12 (intCell (L12_q1 b0 b1 b2 b3 b4 b5 b6 b7 b8 b9 b10 b11 b12 b13 b14 b15)) 0 = h0 at *
  generalize hiQ 12 (intCell (L12_q1 b0 b1 b2 b3 b4 b5 b6 b7 b8 b9 b10 b11 b12 b13 b14 b15)) 1 = h1 at *
  generalize hiQ 12 (intCell (L12_q1 b0 b1 b2 b3 b4 b5 b6 b7 b8 b9 b10 b11 b12 b13 b14 b15)) 2 = h2 at *
  have B : BxQ l0 h0 l1 h1 l2 h2 := ⟨sl0.pt, sh0.pt, sl1.pt, sh1.pt, sl2.pt, sh2.pt, o0, o1, o2⟩
  have sm : ∀ {p q : Rat}, Sm 60 20 p → Sm 60 20 q → CfQ (p + q) := fun a b => (a.add b).le (by decide) (by decide) (by decide)
  have cK := sm sK tK; have cT := sm sT tT; have cV := sm sV tV; have cA := sm sA tA
  have hS : addO K T V A K' T' V' A' = some (K + K', T + T', V + V', A + A') := by
    unfold addO; rw [fit_of (CfQ.fits cK), fit_of (CfQ.fits cT), fit_of (CfQ.fits cV), fit_of (CfQ.fits cA)]; rfl
  have hS' : addO K' T' V' A' K T V A = some (K + K', T + T', V + V', A + A') := by
    rw [← hS]; unfold addO; rw [Rat.add_comm K', Rat.add_comm T', Rat.add_comm V', Rat.add_comm A']
  have hR := rg_val sK.cf sT.cf sV.cf sA.cf B
  have fR := rgV_fits sK.cf sT.cf sV.cf sA.cf B
  have oR := rgV_le (k := K) (t := T) (v := V) (a := A) B
  have hR' := rg_val tK.cf tT.cf tV.cf tA.cf B
  have fR' := rgV_fits tK.cf tT.cf tV.cf tA.cf B
  have oR' := rgV_le (k := K') (t := T') (v := V') (a := A') B
  have hR'' := rg_val cK cT cV cA B
  have fR'' := rgV_fits cK cT cV cA B
  have oR'' := rgV_le (k := K + K') (t := T + T') (v := V + V') (a := A + A') B
  have pp0 := btw_sm sl0 sh0 g12.1; have pp1 := btw_sm sl1 sh1 g13.1; have pp2 := btw_sm sl2 sh2 g14.1
  have aP := at_val sK.cf sT.cf sV.cf sA.cf pp0 pp1 pp2
  have fP := lv_fits sK.cf sT.cf sV.cf sA.cf pp0 pp1 pp2
  have aP' := at_val tK.cf tT.cf tV.cf tA.cf pp0 pp1 pp2
  have fP' := lv_fits tK.cf tT.cf tV.cf tA.cf pp0 pp1 pp2
  have aP'' := at_val cK cT cV cA pp0 pp1 pp2
  have fP'' := lv_fits cK cT cV cA pp0 pp1 pp2
  rw [lv_add] at aP'' fP''
  have inR : ∀ u, rgV K T V A l0 h0 l1 h1 l2 h2 false + rgV K' T' V' A' l0 h0 l1 h1 l2 h2 false ≤ rgV (K + K') (T + T') (V + V') (A + A') l0 h0 l1 h1 l2 h2 u ∧ rgV (K + K') (T + T') (V + V') (A + A') l0 h0 l1 h1 l2 h2 u ≤ rgV K T V A l0 h0 l1 h1 l2 h2 true + rgV K' T' V' A' l0 h0 l1 h1 l2 h2 true := fun u => by
    have i0 := crn_in (t := T + T') o0 u
    have i1 := crn_in (t := V + V') o1 u
    have i2 := crn_in (t := A + A') o2 u
    have x := lv_in (k := K) (t := T) (v := V) (a := A) i0.1 i0.2 i1.1 i1.2 i2.1 i2.2
    have y := lv_in (k := K') (t := T') (v := V') (a := A') i0.1 i0.2 i1.1 i1.2 i2.1 i2.2
    have e : rgV (K + K') (T + T') (V + V') (A + A') l0 h0 l1 h1 l2 h2 u = _ := lv_add
    rw [e]
    exact ⟨by grind, by grind⟩
  obtain ⟨u1, u2⟩ := inR false
  obtain ⟨u3, u4⟩ := inR true
  have rs : ∀ {k t v a : Rat}, CfQ k → CfQ t → CfQ v → CfQ a → ∀ u, Sm 1728000 144800 (rgV k t v a l0 h0 l1 h1 l2 h2 u) := fun a b c d u => (lv_sm a b c d (crn_sm B.a0 B.b0) (crn_sm B.a1 B.b1) (crn_sm B.a2 B.b2)).2.2
  have fl : ∀ u, fitsR (rgV K T V A l0 h0 l1 h1 l2 h2 u + rgV K' T' V' A' l0 h0 l1 h1 l2 h2 u) := fun u => ((rs sK.cf sT.cf sV.cf sA.cf u).add (rs tK.cf tT.cf tV.cf tA.cf u)).fits (by decide) (by decide)
  have hP : plsO (rgV K T V A l0 h0 l1 h1 l2 h2 false) (rgV K T V A l0 h0 l1 h1 l2 h2 true) (rgV K' T' V' A' l0 h0 l1 h1 l2 h2 false) (rgV K' T' V' A' l0 h0 l1 h1 l2 h2 true) = some (rgV K T V A l0 h0 l1 h1 l2 h2 false + rgV K' T' V' A' l0 h0 l1 h1 l2 h2 false, rgV K T V A l0 h0 l1 h1 l2 h2 true + rgV K' T' V' A' l0 h0 l1 h1 l2 h2 true) := by
    unfold plsO; rw [fit_of (fl false), fit_of (fl true)]; rfl
  have vm : ∀ {q : Rat}, CfQ q → vB q.num q.den = true := fun h => vB_of (CfQ.fits h)
  have vl : VL K.num K.den T.num T.den V.num V.den A.num A.den := ⟨sK.cf.vf, sT.cf.vf, sV.cf.vf, sA.cf.vf⟩
  have vl' : VL K'.num K'.den T'.num T'.den V'.num V'.den A'.num A'.den := ⟨tK.cf.vf, tT.cf.vf, tV.cf.vf, tA.cf.vf⟩
  have vb : VBox K.num K.den T.num T.den V.num V.den A.num A.den l0.num l0.den h0.num h0.den l1.num l1.den h1.num h1.den l2.num l2.den h2.num h2.den :=
    ⟨sK.cf.vf, sT.cf.vf, sV.cf.vf, sA.cf.vf, sl0.pt.vf, sh0.pt.vf, sl1.pt.vf, sh1.pt.vf, sl2.pt.vf, sh2.pt.vf⟩
  have vb' : VBox K'.num K'.den T'.num T'.den V'.num V'.den A'.num A'.den l0.num l0.den h0.num h0.den l1.num l1.den h1.num h1.den l2.num l2.den h2.num h2.den :=
    ⟨tK.cf.vf, tT.cf.vf, tV.cf.vf, tA.cf.vf, sl0.pt.vf, sh0.pt.vf, sl1.pt.vf, sh1.pt.vf, sl2.pt.vf, sh2.pt.vf⟩
  have vb'' : VBox (K + K').num (K + K').den (T + T').num (T + T').den (V + V').num (V + V').den (A + A').num (A + A').den l0.num l0.den h0.num h0.den l1.num l1.den h1.num h1.den l2.num l2.den h2.num h2.den :=
    ⟨cK.vf, cT.vf, cV.vf, cA.vf, sl0.pt.vf, sh0.pt.vf, sl1.pt.vf, sh1.pt.vf, sl2.pt.vf, sh2.pt.vf⟩
  have i0 : SInt l0.num l0.den h0.num h0.den := ⟨sl0.pt.vf, sh0.pt.vf, by rwa [ratOf_rat], by rwa [ratOf_rat]⟩
  have i1 : SInt l1.num l1.den h1.num h1.den := ⟨sl1.pt.vf, sh1.pt.vf, by rwa [ratOf_rat], by rwa [ratOf_rat]⟩
  have i2 : SInt l2.num l2.den h2.num h2.den := ⟨sl2.pt.vf, sh2.pt.vf, by rwa [ratOf_rat], by rwa [ratOf_rat]⟩
  have vp0 := PtQ.vf pp0; have vp1 := PtQ.vf pp1; have vp2 := PtQ.vf pp2
  have lsum : rgV K T V A l0 h0 l1 h1 l2 h2 false + rgV K' T' V' A' l0 h0 l1 h1 l2 h2 false ≤ rgV K T V A l0 h0 l1 h1 l2 h2 true + rgV K' T' V' A' l0 h0 l1 h1 l2 h2 true := by grind
  simp only [Int.reduceLE, Int.reduceLT, Nat.reduceLT, Nat.reduceLeDiff, Int.reduceEq, Int.le_refl, ne_eq, not_false_eq_true, Int.reduceToNat, Nat.zero_lt_succ, Nat.le_refl, List.length_cons, List.length_nil, Nat.reduceAdd, hsum, hsum2, hS, hS', hR, hR', hR'', aP, aP', aP'', hP, k0_some, k1_some, k2_some, k3_some, oE_some, oN_some, oD_some, lN_some, lD_some, hN_some, hD_some, zero_ne, zero_eq, ratOf_rat,
    vB_of (fR false), vB_of (fR true), vB_of (fR' false), vB_of (fR' true), vB_of (fR'' false), vB_of (fR'' true), vB_of fP, vB_of fP', vB_of fP'', vB_of (fl false), vB_of (fl true), vm cK, vm cT, vm cV, vm cA, feq2, rN_of fP'', rD_of fP'', rE_of fP'', hrow, hb,
    decide_eq_true oR, decide_eq_true oR', decide_eq_true oR'', decide_eq_true u1, decide_eq_true u2, decide_eq_true u3, decide_eq_true u4, decide_eq_true lsum,
    Bool.true_and, Bool.and_true, Bool.not_true, Bool.or_false, Bool.false_or, sat_need, sat_ite, sat_ret, bv_inj, reduceCtorEq, false_imp_iff, true_imp_iff, true_and, and_true, true_or, forall_const, vb, vb', vb'', vl, vl', i0, i1, i2, g12, g13, g14, vp0, vp1, vp2, sK.cf.vf, sT.cf.vf, sV.cf.vf, sA.cf.vf, tK.cf.vf, tT.cf.vf, tV.cf.vf, tA.cf.vf, cK.vf, cT.vf, cV.vf, cA.vf, VF.of (fR false), VF.of (fR true), VF.of (fR' false), VF.of (fR' true), VF.of (fR'' false), VF.of (fR'' true), VF.of (fl false), VF.of (fl true), VF.of fP, VF.of fP', VF.of fP'', hc, hd, and_self, beq_self_eq_true, decide_true, implies_true]
  exact hrow

theorem linearSums_ok : ∃ c : Ctr, CtrOK Try.prog 12 c ∧ ∀ ss, okArgs Try.prog 6 [22, 22, 131] ss → (c ss).ev (bv true) := by
  refine law_ctrI (by kernel_rfl) (by kernel_rfl) fun ss h => ?_
  obtain ⟨d1, _, rfl, h1, d2, _, rfl, h2, d3, _, rfl, h3, rfl⟩ := h
  obtain ⟨n, c, hc, rfl⟩ := okBytes h1
  obtain ⟨m, d, hd, rfl⟩ := okBytes h2
  obtain ⟨ks, e1, rfl, e3⟩ := okArr Try.underlying131 h3
  match ks, e1 with
  | [b0, b1, b2, b3, b4, b5, b6, b7, b8, b9, b10, b11, b12, b13, b14, b15], _ =>
    have := law12 hc hd e3
    simpa [svT, Try.underlying22, Try.underlying131, u8, u8d] using this

end Go.Proofs.Ytpaejfeojdoikaa

namespace Go.Proofs.Ytpaejfeojdoikaa
open Go.Sx
set_option maxRecDepth 100000

/-! ### MakeIn of any two numbers -/
/-- The quotient of two numbers. -/
def qR (n d : Int) : Rat := if d < 0 then ratOf (-n) (-d) else ratOf n d
theorem qR_half {a b : Int} (hb : b ≠ 0) (h1 : a % 2 = 0) (h2 : b % 2 = 0) : qR (a / 2) (b / 2) = qR a b := by
  unfold qR
  by_cases h : b < 0
  · rw [if_pos h, if_pos (by omega), ← ratOf_half (a := -a) (b := -b) (by omega) (by omega) (by omega)]
    congr 1 <;> omega
  · rw [if_neg h, if_neg (by omega)]
    exact ratOf_half (by omega) h1 h2
theorem qR_zero {b : Int} : qR 0 b = 0 := by
  unfold qR; split <;> (unfold ratOf; exact Rat.zero_mkRat _)
/-- Numerator and denominator of a quotient. -/
theorem qR_parts {a b : Int} (hb : b ≠ 0) : (qR a b).num.natAbs = a.natAbs / a.natAbs.gcd b.natAbs ∧ (qR a b).den = b.natAbs / a.natAbs.gcd b.natAbs ∧ ((decide (a < 0) != decide (b < 0)) = true → (qR a b).num ≤ 0) ∧ ((decide (a < 0) != decide (b < 0)) = false → 0 ≤ (qR a b).num) := by
  have key : ∀ {n d : Int}, 0 < d → (ratOf n d).num.natAbs = n.natAbs / n.natAbs.gcd d.natAbs ∧ (ratOf n d).den = d.natAbs / n.natAbs.gcd d.natAbs ∧ (n ≤ 0 → (ratOf n d).num ≤ 0) ∧ (0 ≤ n → 0 ≤ (ratOf n d).num) := by
    intro n d hd
    obtain ⟨r1, r2⟩ := ratOf_red (n := n) hd rfl
    have e : d.toNat = d.natAbs := by omega
    rw [e] at r1 r2
    refine ⟨by rw [r1, Int.natAbs_tdiv]; rfl, ?_, fun h => ?_, fun h => ?_⟩
    · have hd0 : 0 ≤ d := by omega
      rw [Int.tdiv_eq_ediv_of_nonneg hd0] at r2
      obtain ⟨D, rfl⟩ := Int.eq_ofNat_of_zero_le hd0
      rw [Int.natAbs_natCast] at *
      rw [← Int.natCast_ediv] at r2
      omega
    · rw [r1]
      have := Int.tdiv_nonneg (a := -n) (b := ((n.natAbs.gcd d.natAbs : Nat) : Int)) (by omega) (by omega)
      rw [Int.neg_tdiv] at this; omega
    · rw [r1]; exact Int.tdiv_nonneg h (Int.natCast_nonneg _)
  unfold qR
  by_cases h : b < 0
  · rw [if_pos h]
    obtain ⟨k1, k2, k3, k4⟩ := key (n := -a) (d := -b) (by omega)
    rw [Int.natAbs_neg, Int.natAbs_neg] at k1 k2
    refine ⟨k1, k2, fun hx => k3 ?_, fun hx => k4 ?_⟩
    · simp only [h, decide_true, bne_iff_ne, ne_eq, decide_eq_true_eq] at hx
      simp at hx; omega
    · simp only [h, decide_true] at hx
      simp at hx; omega
  · rw [if_neg h]
    obtain ⟨k1, k2, k3, k4⟩ := key (n := a) (d := b) (by omega)
    refine ⟨k1, k2, fun hx => k3 ?_, fun hx => k4 ?_⟩
    · simp only [h, decide_false] at hx
      simp at hx; omega
    · simp only [h, decide_false] at hx
      simp at hx; omega

theorem odd_gcd {n : Nat} (h : n % 2 = 1) : (9223372036854775808 : Nat).gcd n = 1 := by
  rw [show (9223372036854775808 : Nat) = 2 ^ 63 by decide]
  have : Nat.Coprime 2 n := by
    unfold Nat.Coprime
    rw [Nat.gcd_rec, h]; decide
  exact Nat.Coprime.pow_left 63 this

abbrev I64 (n : Int) : Prop := -9223372036854775808 ≤ n ∧ n ≤ 9223372036854775807
theorem makeG_sat {n d : Int} (hn : I64 n) (hd : I64 d) (h0 : d ≠ 0) : Sat Try.prog (tMake n d) (· = .agg [iv (rN (qR n d)), iv (rD (qR n d)), iv (rE (qR n d))]) := by
  constructor
  rw [LMake_eq]; unfold LMake
  refine ⟨fun hc => by simp only [beq_iff_eq] at hc; omega, fun hc => ?_⟩
  refine code_satS C1_ok D1_ok (n := 200) (n0 := 1) (nx := 1) (roots := []) (keep := [4, 5, 6]) (drop := []) (h := .nil) (c := codeC (sub [1] (tMake n d))) (st := codeS (sub [1] (tMake n d))) (k := codeK (sub [1] (tMake n d))) (body := bodyMake) (by kernel_rfl) (by kernel_rfl)
    (fun q s => ∃ a b : Int, q = b.natAbs ∧ I64 a ∧ I64 b ∧ b ≠ 0 ∧ qR a b = qR n d ∧ s = invMake a b)
    (fun e s => ∃ a b : Int, e = .exit 0 ∧ I64 a ∧ I64 b ∧ b ≠ 0 ∧ (a ≠ 0 → ¬ (a % 2 = 0 ∧ b % 2 = 0)) ∧ qR a b = qR n d ∧ s = invMake a b)
    ⟨_, _, ⟨n, d, rfl, hn, hd, h0, rfl, rfl⟩, ?_⟩ ?_ ?_
  · exact entA_sound (roots := []) (keep := [4, 5, 6]) (drop := []) (nx := 1) (h := .nil) (by kernel_rfl)
  · rintro q s ⟨a, b, hq, ha, hb, hb0, he, rfl⟩
    refine Sat.of_eq (BMake_eq a b) ?_
    constructor
    unfold BMake
    refine ⟨by decide, fun _ => by decide, fun hc => ?_, fun hc => ?_⟩
    · simp only [Bool.and_eq_true, beq_iff_eq, bne_iff_ne, ne_eq, tmod2] at hc
      obtain ⟨⟨h1, h2⟩, h3⟩ := hc
      rw [tdiv2 h1, tdiv2 h2, w64_of (n := a / 2) (by omega) (by omega), w64_of (n := b / 2) (by omega) (by omega)]
      exact ⟨by decide, by decide, (b / 2).natAbs, _, by omega, ⟨a / 2, b / 2, rfl, by omega, by omega, by omega, by rw [qR_half hb0 h1 h2, he], rfl⟩, Gc.refl _ _⟩
    · refine ⟨_, ⟨a, b, rfl, ha, hb, hb0, fun hx ⟨h1, h2⟩ => ?_, he, rfl⟩, Gc.refl _ _⟩
      have : (Int.tmod a 2 == 0 && Int.tmod b 2 == 0 && a != 0) = true := by
        simp only [Bool.and_eq_true, beq_iff_eq, bne_iff_ne, ne_eq, tmod2]; exact ⟨⟨h1, h2⟩, hx⟩
      rw [this] at hc; cases hc
  · rintro e s ⟨a, b, rfl, ha, hb, hb0, hev, he, rfl⟩
    refine Sat.of_eq (KMake_eq n d a b) ⟨?_⟩
    unfold KMake
    rw [← he]
    have hg : ((Int.gcd (a.natAbs : Int) (b.natAbs : Int) : Nat) : Int) = ((a.natAbs.gcd b.natAbs : Nat) : Int) := by rw [Int.gcd_natCast_natCast]
    have hgp : 0 < a.natAbs.gcd b.natAbs := Nat.gcd_pos_of_pos_right _ (by omega)
    obtain ⟨r1, r2, r3, r4⟩ := qR_parts (a := a) hb0
    have ga := Nat.div_le_self a.natAbs (a.natAbs.gcd b.natAbs)
    have gb := Nat.div_le_self b.natAbs (a.natAbs.gcd b.natAbs)
    refine ⟨fun hz => ?_, fun hz => ?_⟩
    · have hz : a = 0 := by simpa using hz
      subst hz
      rw [qR_zero, r_zero.1, r_zero.2.1, r_zero.2.2]; exact rfl
    have hz : a ≠ 0 := by simpa using hz
    have hev := hev hz
    refine ⟨fun hl => ?_, fun hl => ?_⟩
    · have hnf : ¬ fitsR (qR a b) := by
        rintro ⟨f1, f2⟩
        rw [r1] at f1; rw [r2] at f2
        simp only [Bool.or_eq_true, beq_iff_eq] at hl
        rcases hl with rfl | rfl
        · have hb2 : b.natAbs % 2 = 1 := by omega
          rw [show (-9223372036854775808 : Int).natAbs = 9223372036854775808 by decide, odd_gcd hb2] at f1
          omega
        · have ha2 : a.natAbs % 2 = 1 := by omega
          rw [show (-9223372036854775808 : Int).natAbs = 9223372036854775808 by decide, Nat.gcd_comm, odd_gcd ha2] at f2
          omega
      rw [rN_no hnf, rD_no hnf, rE_no hnf]; exact rfl
    · simp only [Bool.or_eq_false_iff, beq_eq_false_iff_ne, ne_eq] at hl
      rw [hg, Int.toNat_natCast]
      refine ⟨by omega, by omega, by omega, ⟨by omega, by omega, by omega⟩, ⟨by omega, by omega, by omega⟩, fun hm => ?_, fun hm => ?_⟩
      · have hnf : ¬ fitsR (qR a b) := by
          rintro ⟨f1, f2⟩
          simp only [Bool.or_eq_true, decide_eq_true_eq] at hm
          omega
        rw [rN_no hnf, rD_no hnf, rE_no hnf]; exact rfl
      · have hf : fitsR (qR a b) := by
          simp only [Bool.or_eq_false_iff, decide_eq_false_iff_not] at hm
          exact ⟨by omega, by omega⟩
        rw [rN_of hf, rD_of hf, rE_of hf]
        have hxor : (!decide (a < 0) == decide (b < 0)) = (decide (a < 0) != decide (b < 0)) := by cases decide (a < 0) <;> cases decide (b < 0) <;> rfl
        refine ⟨fun hs => ?_, fun hs => ?_⟩
        · rw [hxor] at hs
          have := r3 hs
          rw [w64_of (by omega) (by omega)]
          simp only [Tree.sat]
          rw [← r1, ← r2, show (0 : Int) - ((qR a b).num.natAbs : Int) = (qR a b).num by omega]
        · rw [hxor] at hs
          have := r4 hs
          simp only [Tree.sat]
          rw [← r1, ← r2, show ((qR a b).num.natAbs : Int) = (qR a b).num by omega]

noncomputable def cMakeG : Ctr := fun ss => match ss with
  | [.d (.x (.int .i64 n)), .d (.x (.int .i64 d))] => .need (I64 n ∧ I64 d)
      (.ret (.agg [iv (if d = 0 then 0 else rN (qR n d)), iv (if d = 0 then 0 else rD (qR n d)), iv (if d = 0 then 3 else rE (qR n d))]))
  | _ => .fail
theorem cMakeG_ok : CtrOK Try.prog 116 cMakeG := by
  refine ctrOK_leS C1_ok D1_ok (by kernel_rfl) (by kernel_rfl) fun ss r h => ?_
  unfold cMakeG at h
  split at h
  · rename_i n d
    obtain ⟨⟨h1, h2⟩, rfl⟩ := h
    by_cases h0 : d = 0
    · subst h0
      refine ⟨[iv n, iv 0], 200, .nil, by simp [leSVs, leSV, iv, leD], Sat.of_eq (LMake_eq n 0) ⟨?_⟩⟩
      unfold LMake
      exact ⟨fun _ => rfl, fun h => (by cases h)⟩
    · rw [if_neg h0, if_neg h0, if_neg h0]
      exact ⟨[iv n, iv d], 200, .nil, by simp [leSVs, leSV, iv, leD], makeG_sat h1 h2 h0⟩
  · exact h.elim

end Go.Proofs.Ytpaejfeojdoikaa

namespace Go.Proofs.Ytpaejfeojdoikaa
open Go.Sx
set_option maxRecDepth 100000

noncomputable def manJ : FuncId → Option Ctr := fun k => match k with
  | 116 => some cMakeG
  | _ => none
theorem manJ_ok (k : Nat) (c : Ctr) (h : manJ k = some c) : CtrOK Try.prog k c ∧ goodF Try.prog k = true := by
  unfold manJ at h
  split at h
  · cases h; exact ⟨cMakeG_ok, by kernel_rfl⟩
  · cases h
noncomputable def CJ : Ctx := ctxN Try.prog manJ (fun _ => false) 200 .nil 6
theorem CJ_ok : CtxOK Try.prog CJ := ctxN_ok mixed manJ_ok 6
noncomputable def DJ : Dr := fun _ => drawn Try.prog CJ
theorem DJ_ok : DrOK Try.prog CJ DJ := drawn_ok CJ_ok mixed
noncomputable def TJ (h : Hint) (k : Nat) (args : List SV) : Tree SV := fnT Try.prog CJ DJ 200 (fnOf Try.prog k) (bodyOf Try.prog k) args h

noncomputable def LMdA (n d : Int) : Tree SV :=
  .need (I64 n ∧ I64 d) (.code (codeC (sub [(0 : Nat)] (TJ .nil (41 : Nat) [iv n, iv d]))) (codeS (sub [(0 : Nat)] (TJ .nil (41 : Nat) [iv n, iv d]))) (codeK (sub [(0 : Nat)] (TJ .nil (41 : Nat) [iv n, iv d]))))

theorem LMdA_eq (n d : Int) : TJ .nil 41 [iv n, iv d] = LMdA n d := by kernel_rfl

noncomputable def tMd (n d : Int) : Tree SV := TJ .nil 41 [iv n, iv d]
noncomputable def invMd (n d x y z : Int) : AS := ⟨[.ok (iv n), .ok (iv d), .unk, .unk, .ok (.ptr 0 0), .ok (.ptr 1 0)] ++ List.replicate 17 .unk, [some (.cells [iv 0, iv 0]), some (.cells [iv x, iv y, iv z]), none], 3, .nil⟩
noncomputable def bodyMd : Code := loopN (bodyOf Try.prog 41) 0
noncomputable def BMdA (n d x y z : Int) : Tree (Ex × AS) :=
  .ite (z != (0 : Int))
  (.need ((2 : Int) ≠ (0 : Int))
   (.need ((2 : Int) ≠ (0 : Int))
   (.ite (w64 (Int.tdiv d (2 : Int)) == (0 : Int))
   (.need (I64 (w64 (Int.tdiv n (2 : Int))) ∧ I64 (1 : Int))
   (.ret
   (.normal,
   {
   tm :=
   [.ok (iv (w64 (Int.tdiv n (2 : Int)))), .ok (iv (1 : Int)), .unk, .unk, .ok (SV.ptr 0 0), .ok (SV.ptr 1 0), .unk, .unk, .unk, .unk, .unk, .unk, .unk,
   .unk, .unk, .unk, .unk, .unk, .unk, .unk, .unk, .unk, .unk],
   hp :=
   [some (.cells [iv (0 : Int), iv (0 : Int)]),
   some (.cells [iv (rN (qR (w64 (Int.tdiv n (2 : Int))) (1 : Int))), iv (rD (qR (w64 (Int.tdiv n (2 : Int))) (1 : Int))), iv (rE (qR (w64 (Int.tdiv n (2 : Int))) (1 : Int)))]), none],
   next := 3, hint := .nil })))
   (.need (I64 (w64 (Int.tdiv n (2 : Int))) ∧ I64 (w64 (Int.tdiv d (2 : Int))))
   (.ret
   (.normal,
   {
   tm :=
   [.ok (iv (w64 (Int.tdiv n (2 : Int)))), .ok (iv (w64 (Int.tdiv d (2 : Int)))), .unk, .unk, .ok (SV.ptr 0 0), .ok (SV.ptr 1 0), .unk, .unk, .unk, .unk, .unk,
   .unk, .unk, .unk, .unk, .unk, .unk, .unk, .unk, .unk, .unk, .unk, .unk],
   hp :=
   [some (.cells [iv (0 : Int), iv (0 : Int)]),
   some
   (.cells
   [iv (if w64 (Int.tdiv d (2 : Int)) = (0 : Int) then (0 : Int) else rN (qR (w64 (Int.tdiv n (2 : Int))) (w64 (Int.tdiv d (2 : Int))))),
   iv (if w64 (Int.tdiv d (2 : Int)) = (0 : Int) then (0 : Int) else rD (qR (w64 (Int.tdiv n (2 : Int))) (w64 (Int.tdiv d (2 : Int))))),
   iv (if w64 (Int.tdiv d (2 : Int)) = (0 : Int) then (3 : Int) else rE (qR (w64 (Int.tdiv n (2 : Int))) (w64 (Int.tdiv d (2 : Int)))))]),
   none],
   next := 3, hint := .nil }))))))
  (.ret
   (.exit 0,
   {
   tm :=
   [.ok (iv n), .ok (iv d), .unk, .unk, .ok (SV.ptr 0 0), .ok (SV.ptr 1 0), .unk, .unk, .unk, .unk, .unk, .unk, .unk, .unk, .unk, .unk, .unk, .unk, .unk,
   .unk, .unk, .unk, .unk],
   hp := [some (.cells [iv (0 : Int), iv (0 : Int)]), some (.cells [iv x, iv y, iv z]), none], next := 3, hint := .nil }))

theorem BMdA_eq (n d x y z : Int) : cutT 3 [] [0, 1, 4, 5] [2] 3 .nil (exec Try.prog CJ DJ 200 bodyMd (invMd n d x y z)) = BMdA n d x y z := by kernel_rfl

noncomputable def KMdA (n d a b x y z : Int) : Tree SV :=
  .ret (SV.agg [iv x, iv y])

theorem KMdA_eq (n d a b x y z : Int) : codeK (sub [0] (tMd n d)) (.exit 0) (invMd a b x y z) = KMdA n d a b x y z := by kernel_rfl


/-- What the reference makes of two numbers: halved until they fit. -/
def nxD (d : Int) : Int := if Int.tdiv d 2 = 0 then 1 else Int.tdiv d 2
noncomputable def mdF : Nat → Int → Int → Rat
  | 0, _, _ => 0
  | k + 1, n, d => if d ≠ 0 ∧ fitsR (qR n d) then qR n d else mdF k (Int.tdiv n 2) (nxD d)
def mdM (n d : Int) : Nat := n.natAbs + d.natAbs + if d = 0 then 2 else 0
noncomputable def mdQ (n d : Int) : Rat := mdF (mdM n d + 1) n d
theorem mdF_fits : ∀ (k : Nat) (n d : Int), fitsR (mdF k n d)
  | 0, n, d => by unfold mdF; decide +kernel
  | k + 1, n, d => by
    unfold mdF; split
    · rename_i h; exact h.2
    · exact mdF_fits k _ _
theorem mdQ_fits (n d : Int) : fitsR (mdQ n d) := mdF_fits _ _ _
theorem mdQ_of {n d : Int} (h0 : d ≠ 0) (h : fitsR (qR n d)) : mdQ n d = qR n d := by unfold mdQ mdF; rw [if_pos ⟨h0, h⟩]
theorem fits_zero : fitsR 0 := by decide +kernel
theorem md_step {n d : Int} (h : ¬ (d ≠ 0 ∧ fitsR (qR n d))) : mdM (Int.tdiv n 2) (nxD d) < mdM n d := by
  have hn : (Int.tdiv n 2).natAbs = n.natAbs / 2 := by rw [Int.natAbs_tdiv]; rfl
  have hd : (Int.tdiv d 2).natAbs = d.natAbs / 2 := by rw [Int.natAbs_tdiv]; rfl
  unfold mdM nxD
  by_cases h0 : d = 0
  · subst h0
    rw [if_pos (by decide), if_neg (by decide), if_pos rfl]; omega
  · have hn0 : n ≠ 0 := by
      rintro rfl
      exact h ⟨h0, by rw [qR_zero]; exact fits_zero⟩
    have e1 : (1 : Int).natAbs = 1 := rfl
    (repeat' split) <;> omega

def mdC (n d : Int) (x y z : Int) : Prop := x = (if d = 0 then 0 else rN (qR n d)) ∧ y = (if d = 0 then 0 else rD (qR n d)) ∧ z = (if d = 0 then 3 else rE (qR n d))
theorem tdiv2_b {n : Int} (h : I64 n) : I64 (Int.tdiv n 2) ∧ w64 (Int.tdiv n 2) = Int.tdiv n 2 := by
  have hn : (Int.tdiv n 2).natAbs = n.natAbs / 2 := by rw [Int.natAbs_tdiv]; rfl
  have : I64 (Int.tdiv n 2) := ⟨by omega, by omega⟩
  exact ⟨this, w64_of this.1 this.2⟩
theorem madeG_sat {n d : Int} (hn : I64 n) (hd : I64 d) : Sat Try.prog (tMd n d) (· = .agg [iv (mdQ n d).num, iv (mdQ n d).den]) := by
  constructor
  rw [show tMd n d = LMdA n d from LMdA_eq n d]; unfold LMdA
  refine ⟨⟨hn, hd⟩, ?_⟩
  refine code_satS CJ_ok DJ_ok (n := 200) (n0 := 3) (nx := 3) (roots := []) (keep := [0, 1, 4, 5]) (drop := [2]) (h := .nil) (c := codeC (sub [0] (tMd n d))) (st := codeS (sub [0] (tMd n d))) (k := codeK (sub [0] (tMd n d))) (body := bodyMd) (by kernel_rfl) (by kernel_rfl)
    (fun q s => ∃ a b x y z : Int, I64 a ∧ I64 b ∧ mdM a b < q ∧ mdF q a b = mdQ n d ∧ mdC a b x y z ∧ s = invMd a b x y z)
    (fun e s => ∃ a b y z : Int, ∃ r : Rat, e = .exit 0 ∧ mdQ n d = r ∧ s = invMd a b r.num r.den z)
    ⟨_, _, ⟨n, d, _, _, _, hn, hd, Nat.lt_succ_self _, rfl, ⟨rfl, rfl, rfl⟩, rfl⟩, ?_⟩ ?_ ?_
  · exact entA_sound (roots := []) (keep := [0, 1, 4, 5]) (drop := [2]) (nx := 3) (h := .nil) (by kernel_rfl)
  · rintro q s ⟨a, b, x, y, z, ha, hb, hq, he, ⟨rfl, rfl, rfl⟩, rfl⟩
    refine Sat.of_eq (BMdA_eq _ _ _ _ _) ?_
    constructor
    unfold BMdA
    obtain ⟨a1, a2⟩ := tdiv2_b ha
    obtain ⟨b1, b2⟩ := tdiv2_b hb
    have hI1 : I64 1 := ⟨by decide, by decide⟩
    obtain ⟨q, rfl⟩ : ∃ p, q = p + 1 := ⟨q - 1, by omega⟩
    by_cases hok : b ≠ 0 ∧ fitsR (qR a b)
    · have e1 : mdF (q + 1) a b = qR a b := by unfold mdF; rw [if_pos hok]
      rw [e1] at he
      rw [if_neg hok.1, if_neg hok.1, if_neg hok.1, rE_of hok.2, rN_of hok.2, rD_of hok.2]
      exact ⟨fun h => (by cases h), fun _ => ⟨_, ⟨a, b, 0, 0, qR a b, rfl, he.symm, rfl⟩, Gc.refl _ _⟩⟩
    · have e1 : mdF (q + 1) a b = mdF q (Int.tdiv a 2) (nxD b) := by
        show (if b ≠ 0 ∧ fitsR (qR a b) then qR a b else mdF q (Int.tdiv a 2) (nxD b)) = _
        rw [if_neg hok]
      rw [e1] at he
      have hst := md_step hok
      rw [a2, b2]
      refine ⟨fun _ => ⟨by decide, by decide, fun h1 => ?_, fun h1 => ?_⟩, fun h => ?_⟩
      · have h1 : Int.tdiv b 2 = 0 := by simpa using h1
        have h2 : nxD b = 1 := by unfold nxD; rw [if_pos h1]
        rw [h2] at he hst
        exact ⟨⟨a1, hI1⟩, q, _, Nat.lt_succ_self _, ⟨Int.tdiv a 2, 1, _, _, _, a1, hI1, by omega, he, ⟨by rw [if_neg (by decide)], by rw [if_neg (by decide)], by rw [if_neg (by decide)]⟩, rfl⟩, Gc.refl _ _⟩
      · have h1 : Int.tdiv b 2 ≠ 0 := by simpa using h1
        have h2 : nxD b = Int.tdiv b 2 := by unfold nxD; rw [if_neg h1]
        rw [h2] at he hst
        exact ⟨⟨a1, b1⟩, q, _, Nat.lt_succ_self _, ⟨Int.tdiv a 2, Int.tdiv b 2, _, _, _, a1, b1, by omega, he, ⟨rfl, rfl, rfl⟩, rfl⟩, Gc.refl _ _⟩
      · exfalso
        by_cases hb0 : b = 0
        · rw [if_pos hb0] at h; cases h
        · rw [if_neg hb0, rE_no (fun hf => hok ⟨hb0, hf⟩)] at h; cases h
  · rintro e s ⟨a, b, y, z, r, rfl, he, rfl⟩
    refine Sat.of_eq (KMdA_eq n d a b _ _ _) ⟨?_⟩
    unfold KMdA
    rw [he]; exact rfl

noncomputable def cMadeG : Ctr := fun ss => match ss with
  | [.d (.x (.int .i64 n)), .d (.x (.int .i64 d))] => .need (I64 n ∧ I64 d) (.ret (.agg [iv (mdQ n d).num, iv (mdQ n d).den]))
  | _ => .fail
theorem cMadeG_ok : CtrOK Try.prog 41 cMadeG := by
  refine ctrOK_leS CJ_ok DJ_ok (by kernel_rfl) (by kernel_rfl) fun ss r h => ?_
  unfold cMadeG at h
  split at h
  · rename_i n d
    obtain ⟨⟨h1, h2⟩, rfl⟩ := h
    exact ⟨[iv n, iv d], 200, .nil, by simp [leSVs, leSV, iv, leD], madeG_sat h1 h2⟩
  · exact h.elim

end Go.Proofs.Ytpaejfeojdoikaa

namespace Go.Proofs.Ytpaejfeojdoikaa
open Go.Sx
set_option maxRecDepth 100000

theorem cSmlR_ok : CtrOK Try.prog 62 cSmlR := by
  refine ctrOK_leS CI_ok DI_ok (by kernel_rfl) (by kernel_rfl) fun ss r hh => ?_
  unfold cSmlR at hh
  split at hh
  · rename_i n cell
    obtain ⟨⟨rfl, h2⟩, rfl⟩ := hh
    refine ⟨[.d (.ro 3 8 fun i j => .x (.int .i64 (cellI cell i j)))], 200, eachH 3, ?_, Sat.of_eq (LSr3_eq (cellI cell)) ⟨?_⟩⟩
    · simp only [leSVs, leSV, leD, and_true, true_and]
      exact fun i j hi hj => (h2 i hi).2 j hj
    · have x0 := (h2 0 (by omega)).1
      have x1 := (h2 1 (by omega)).1
      have x2 := (h2 2 (by omega)).1
      unfold LSr3
      generalize hc : cellI cell = c at *
      have e5 : LSr3_q5 c = some (ratOf (c 0 0) (c 0 1), ratOf (c 0 2) (c 0 3), ratOf (c 0 4) (c 0 5), ratOf (c 0 6) (c 0 7)) := addO_zero (a := c 0) x0
      have e18 : LSr3_q18 c = add2 (c 0) (c 1) := by
        simp only [LSr3_q1, LSr3_q2, LSr3_q3, LSr3_q4, LSr3_q5, LSr3_q6, LSr3_q7, LSr3_q8, LSr3_q9, LSr3_q10, LSr3_q11, LSr3_q12, LSr3_q13, LSr3_q14, LSr3_q15, LSr3_q16, LSr3_q17, LSr3_q18, LSr3_q19, LSr3_q20, LSr3_q21, LSr3_q22, LSr3_q23, LSr3_q24, LSr3_q25, LSr3_q26, LSr3_q27, LSr3_q28, LSr3_q29, LSr3_q30, LSr3_q31, LSr3_q32, LSr3_q33, LSr3_q34, LSr3_q35] at e5 ⊢
        simp only [e5, k0_some, k1_some, k2_some, k3_some, oN_some, oD_some, ratOf_rat, one_w]
        rfl
      have v0 := VF.of x0.k.fits; have v1 := VF.of x0.t.fits; have v2 := VF.of x0.v.fits; have v3 := VF.of x0.a.fits
      have l0 : VL 0 1 0 1 0 1 0 1 := ⟨by decide +kernel, by decide +kernel, by decide +kernel, by decide +kernel⟩
      unfold sumR
      rw [if_neg (by decide), hc]
      simp only [Int.reduceLE, Int.reduceLT, Nat.reduceLT, Int.reduceEq, Int.le_refl, ne_eq, not_false_eq_true, Int.reduceToNat, Nat.zero_lt_succ, and_self, true_and, and_true, LSr3_q6, LSr3_q7, LSr3_q8, LSr3_q9, LSr3_q19, LSr3_q20, LSr3_q21, LSr3_q22, LSr3_q32, LSr3_q33, LSr3_q34, LSr3_q35, e5, e18, k0_some, k1_some, k2_some, k3_some, oN_some, oD_some, oE_some, one_w, two_w, zero_ne, sat_need, sat_ite, sat_ret, reduceCtorEq, false_imp_iff, true_imp_iff, forall_const]
      refine ⟨⟨l0, x0.vl⟩, ⟨⟨v0, v1, v2, v3⟩, x1.vl⟩, ?_⟩
      cases ho : add2 (c 0) (c 1) with
      | none => simp [oE, k0, k1, k2, k3, oN, oD, addR]
      | some o =>
        obtain ⟨p, q, r, t⟩ := o
        obtain ⟨f0, f1, f2, f3⟩ := addO_fits ho
        have e31 : LSr3_q31 c = addR (some (p, q, r, t)) (c 2) := by
          simp only [LSr3_q31, LSr3_q23, LSr3_q24, LSr3_q25, LSr3_q26, LSr3_q27, LSr3_q28, LSr3_q29, LSr3_q30, LSr3_q19, LSr3_q20, LSr3_q21, LSr3_q22, e18, ho, k0_some, k1_some, k2_some, k3_some, oN_some, oD_some, ratOf_rat, two_w]
          rfl
        simp only [e31, oE_some, k0_some, k1_some, k2_some, k3_some, oN_some, oD_some, zero_ne, reduceCtorEq, false_imp_iff, true_imp_iff, forall_const, true_and]
        refine ⟨⟨⟨VF.of f0, VF.of f1, VF.of f2, VF.of f3⟩, x2.vl⟩, ?_⟩
        generalize addR (some (p, q, r, t)) (c 2) = o
        cases o with
        | none => simp [oE, k0, k1, k2, k3, oN, oD]
        | some o => simp [oE, k0, k1, k2, k3, oN, oD]
  · exact hh.elim

noncomputable def manK : FuncId → Option Ctr := fun k => match k with
  | 41 => some cMadeG
  | 116 => some cMakeG
  | 62 => some cSmlR
  | k => manI k
theorem manK_ok (k : Nat) (c : Ctr) (h : manK k = some c) : CtrOK Try.prog k c ∧ goodF Try.prog k = true := by
  unfold manK at h
  split at h
  · cases h; exact ⟨cMadeG_ok, by kernel_rfl⟩
  · cases h; exact ⟨cMakeG_ok, by kernel_rfl⟩
  · cases h; exact ⟨cSmlR_ok, by kernel_rfl⟩
  · exact manI_ok _ _ h
noncomputable def CK : Ctx := ctxN Try.prog manK (fun _ => false) 200 .nil 6
theorem CK_ok : CtxOK Try.prog CK := ctxN_ok mixed manK_ok 6
noncomputable def DK : Dr := fun _ => drawn Try.prog CK
theorem DK_ok : DrOK Try.prog CK DK := drawn_ok CK_ok mixed
noncomputable def TK (h : Hint) (k : Nat) (args : List SV) : Tree SV := fnT Try.prog CK DK 200 (fnOf Try.prog k) (bodyOf Try.prog k) args h

noncomputable def L13_q1 (a : Nat → Int) : Bool :=
  vB (a 0) (a 1) && vB (a 2) (a 3) && vB (a 4) (a 5) && vB (a 6) (a 7)
noncomputable def L13_q2 (a : Nat → Int) : Bool :=
  viB (a 16) (a 17) (a 18) (a 19) && viB (a 20) (a 21) (a 22) (a 23) && viB (a 24) (a 25) (a 26) (a 27)
noncomputable def L13_q3 (a : Nat → Int) : Rat :=
  ratOf (a 16) (a 17)
noncomputable def L13_q4 (a : Nat → Int) : Rat :=
  ratOf (a 18) (a 19)
noncomputable def L13_q5 (a : Nat → Int) : Bool :=
  vB (a 16) (a 17) && vB (a 18) (a 19) && decide (L13_q3 a ≤ L13_q4 a)
noncomputable def L13_q6 (a : Nat → Int) : Bool :=
  vB (a 8) (a 9) && vB (a 10) (a 11) && vB (a 12) (a 13) && vB (a 14) (a 15)
noncomputable def L13_q7 (a : Nat → Int) : Rat :=
  mdQ (a 48) (a 49)
noncomputable def L13_q8 (a : Nat → Int) : Rat :=
  mdQ (a 50) (a 51)
noncomputable def L13_q9 (a : Nat → Int) : Rat :=
  mdQ (a 52) (a 53)
noncomputable def L13_q10 (a : Nat → Int) : Rat :=
  mdQ (a 54) (a 55)
noncomputable def L13_q11 (a : Nat → Int) : Rat :=
  mdQ (a 56) (a 57)
noncomputable def L13_q12 (a : Nat → Int) : Rat :=
  mdQ (a 58) (a 59)
noncomputable def L13_q13 (a : Nat → Int) : Rat :=
  mdQ (a 40) (a 41)
noncomputable def L13_q14 (a : Nat → Int) : Rat :=
  mdQ (a 42) (a 43)
noncomputable def L13_q15 (a : Nat → Int) : Rat :=
  mdQ (a 44) (a 45)
noncomputable def L13_q16 (a : Nat → Int) : Rat :=
  mdQ (a 46) (a 47)
noncomputable def L13_q17 (c : Nat → Nat → DV) (i : Nat) : Int :=
  intOf1 (c i (0 : Nat))
noncomputable def L13_q18 (n : Nat) (c : Nat → Nat → DV) : Rat :=
  linQ n (L13_q17 c) 0
noncomputable def L13_q19 (n : Nat) (c : Nat → Nat → DV) : Rat :=
  linQ n (L13_q17 c) 1
noncomputable def L13_q20 (n : Nat) (c : Nat → Nat → DV) : Rat :=
  linQ n (L13_q17 c) 2
noncomputable def L13_q21 (n : Nat) (c : Nat → Nat → DV) : Rat :=
  linQ n (L13_q17 c) 3
noncomputable def L13_q22 (a : Nat → Int) : Rat :=
  mdQ
  (List.getD
   ((fun x => a 40 :: x)
   ((fun x => a 41 :: x)
   ((fun x => a 42 :: x)
   ((fun x => a 43 :: x)
   ((fun x => a 44 :: x)
   ((fun x => a 45 :: x)
   ((fun x => a 46 :: x)
   ((fun x => a 47 :: x)
   ((fun x => a 48 :: x)
   ((fun x => a 49 :: x)
   ((fun x => a 50 :: x)
   ((fun x => a 51 :: x)
   ((fun x => a 52 :: x)
   ((fun x => a 53 :: x)
   ((fun x => a 54 :: x)
   ((fun x => a 55 :: x)
   ((fun x => a 56 :: x)
   ((fun x => a 57 :: x)
   ((fun x => a 58 :: x)
   ((fun x => a 59 :: x) ((fun x => a 60 :: x) ((fun x => a 61 :: x) ((fun x => a 62 :: x) ((fun x => a 63 :: x) []))))))))))))))))))))))))
   (Int.toNat (Int.tmod (6 : Int) (24 : Int))) (0 : Int))
  (List.getD
   ((fun x => a 40 :: x)
   ((fun x => a 41 :: x)
   ((fun x => a 42 :: x)
   ((fun x => a 43 :: x)
   ((fun x => a 44 :: x)
   ((fun x => a 45 :: x)
   ((fun x => a 46 :: x)
   ((fun x => a 47 :: x)
   ((fun x => a 48 :: x)
   ((fun x => a 49 :: x)
   ((fun x => a 50 :: x)
   ((fun x => a 51 :: x)
   ((fun x => a 52 :: x)
   ((fun x => a 53 :: x)
   ((fun x => a 54 :: x)
   ((fun x => a 55 :: x)
   ((fun x => a 56 :: x)
   ((fun x => a 57 :: x)
   ((fun x => a 58 :: x)
   ((fun x => a 59 :: x) ((fun x => a 60 :: x) ((fun x => a 61 :: x) ((fun x => a 62 :: x) ((fun x => a 63 :: x) []))))))))))))))))))))))))
   (Int.toNat (Int.tmod (w64 ((6 : Int) + (1 : Int))) (24 : Int))) (0 : Int))
noncomputable def L13_q23 (a : Nat → Int) : Rat :=
  mdQ
  (List.getD
   ((fun x => a 40 :: x)
   ((fun x => a 41 :: x)
   ((fun x => a 42 :: x)
   ((fun x => a 43 :: x)
   ((fun x => a 44 :: x)
   ((fun x => a 45 :: x)
   ((fun x => a 46 :: x)
   ((fun x => a 47 :: x)
   ((fun x => a 48 :: x)
   ((fun x => a 49 :: x)
   ((fun x => a 50 :: x)
   ((fun x => a 51 :: x)
   ((fun x => a 52 :: x)
   ((fun x => a 53 :: x)
   ((fun x => a 54 :: x)
   ((fun x => a 55 :: x)
   ((fun x => a 56 :: x)
   ((fun x => a 57 :: x)
   ((fun x => a 58 :: x)
   ((fun x => a 59 :: x) ((fun x => a 60 :: x) ((fun x => a 61 :: x) ((fun x => a 62 :: x) ((fun x => a 63 :: x) []))))))))))))))))))))))))
   (Int.toNat (Int.tmod (4 : Int) (24 : Int))) (0 : Int))
  (List.getD
   ((fun x => a 40 :: x)
   ((fun x => a 41 :: x)
   ((fun x => a 42 :: x)
   ((fun x => a 43 :: x)
   ((fun x => a 44 :: x)
   ((fun x => a 45 :: x)
   ((fun x => a 46 :: x)
   ((fun x => a 47 :: x)
   ((fun x => a 48 :: x)
   ((fun x => a 49 :: x)
   ((fun x => a 50 :: x)
   ((fun x => a 51 :: x)
   ((fun x => a 52 :: x)
   ((fun x => a 53 :: x)
   ((fun x => a 54 :: x)
   ((fun x => a 55 :: x)
   ((fun x => a 56 :: x)
   ((fun x => a 57 :: x)
   ((fun x => a 58 :: x)
   ((fun x => a 59 :: x) ((fun x => a 60 :: x) ((fun x => a 61 :: x) ((fun x => a 62 :: x) ((fun x => a 63 :: x) []))))))))))))))))))))))))
   (Int.toNat (Int.tmod (w64 ((4 : Int) + (1 : Int))) (24 : Int))) (0 : Int))
noncomputable def L13_q24 (a : Nat → Int) : Rat :=
  mdQ
  (List.getD
   ((fun x => a 40 :: x)
   ((fun x => a 41 :: x)
   ((fun x => a 42 :: x)
   ((fun x => a 43 :: x)
   ((fun x => a 44 :: x)
   ((fun x => a 45 :: x)
   ((fun x => a 46 :: x)
   ((fun x => a 47 :: x)
   ((fun x => a 48 :: x)
   ((fun x => a 49 :: x)
   ((fun x => a 50 :: x)
   ((fun x => a 51 :: x)
   ((fun x => a 52 :: x)
   ((fun x => a 53 :: x)
   ((fun x => a 54 :: x)
   ((fun x => a 55 :: x)
   ((fun x => a 56 :: x)
   ((fun x => a 57 :: x)
   ((fun x => a 58 :: x)
   ((fun x => a 59 :: x) ((fun x => a 60 :: x) ((fun x => a 61 :: x) ((fun x => a 62 :: x) ((fun x => a 63 :: x) []))))))))))))))))))))))))
   (Int.toNat (Int.tmod (2 : Int) (24 : Int))) (0 : Int))
  (List.getD
   ((fun x => a 40 :: x)
   ((fun x => a 41 :: x)
   ((fun x => a 42 :: x)
   ((fun x => a 43 :: x)
   ((fun x => a 44 :: x)
   ((fun x => a 45 :: x)
   ((fun x => a 46 :: x)
   ((fun x => a 47 :: x)
   ((fun x => a 48 :: x)
   ((fun x => a 49 :: x)
   ((fun x => a 50 :: x)
   ((fun x => a 51 :: x)
   ((fun x => a 52 :: x)
   ((fun x => a 53 :: x)
   ((fun x => a 54 :: x)
   ((fun x => a 55 :: x)
   ((fun x => a 56 :: x)
   ((fun x => a 57 :: x)
   ((fun x => a 58 :: x)
   ((fun x => a 59 :: x) ((fun x => a 60 :: x) ((fun x => a 61 :: x) ((fun x => a 62 :: x) ((fun x => a 63 :: x) []))))))))))))))))))))))))
   (Int.toNat (Int.tmod (w64 ((2 : Int) + (1 : Int))) (24 : Int))) (0 : Int))
noncomputable def L13_q25 (a : Nat → Int) : Rat :=
  mdQ
  (List.getD
   ((fun x => a 40 :: x)
   ((fun x => a 41 :: x)
   ((fun x => a 42 :: x)
   ((fun x => a 43 :: x)
   ((fun x => a 44 :: x)
   ((fun x => a 45 :: x)
   ((fun x => a 46 :: x)
   ((fun x => a 47 :: x)
   ((fun x => a 48 :: x)
   ((fun x => a 49 :: x)
   ((fun x => a 50 :: x)
   ((fun x => a 51 :: x)
   ((fun x => a 52 :: x)
   ((fun x => a 53 :: x)
   ((fun x => a 54 :: x)
   ((fun x => a 55 :: x)
   ((fun x => a 56 :: x)
   ((fun x => a 57 :: x)
   ((fun x => a 58 :: x)
   ((fun x => a 59 :: x) ((fun x => a 60 :: x) ((fun x => a 61 :: x) ((fun x => a 62 :: x) ((fun x => a 63 :: x) []))))))))))))))))))))))))
   (Int.toNat (Int.tmod (0 : Int) (24 : Int))) (0 : Int))
  (List.getD
   ((fun x => a 40 :: x)
   ((fun x => a 41 :: x)
   ((fun x => a 42 :: x)
   ((fun x => a 43 :: x)
   ((fun x => a 44 :: x)
   ((fun x => a 45 :: x)
   ((fun x => a 46 :: x)
   ((fun x => a 47 :: x)
   ((fun x => a 48 :: x)
   ((fun x => a 49 :: x)
   ((fun x => a 50 :: x)
   ((fun x => a 51 :: x)
   ((fun x => a 52 :: x)
   ((fun x => a 53 :: x)
   ((fun x => a 54 :: x)
   ((fun x => a 55 :: x)
   ((fun x => a 56 :: x)
   ((fun x => a 57 :: x)
   ((fun x => a 58 :: x)
   ((fun x => a 59 :: x) ((fun x => a 60 :: x) ((fun x => a 61 :: x) ((fun x => a 62 :: x) ((fun x => a 63 :: x) []))))))))))))))))))))))))
   (Int.toNat (Int.tmod (w64 ((0 : Int) + (1 : Int))) (24 : Int))) (0 : Int))
noncomputable def L13_q26 (n : Nat) (c : Nat → Nat → DV) : Rat :=
  linQ n (intCell c) (3 : Nat)
noncomputable def L13_q27 (n : Nat) (c : Nat → Nat → DV) : Rat :=
  linQ n (intCell c) (2 : Nat)
noncomputable def L13_q28 (n : Nat) (c : Nat → Nat → DV) : Rat :=
  linQ n (intCell c) (1 : Nat)
noncomputable def L13_q29 (n : Nat) (c : Nat → Nat → DV) : Rat :=
  linQ n (intCell c) (0 : Nat)
noncomputable def L13_q30 (a : Nat → Int) (n : Nat) (c : Nat → Nat → DV) (i : Nat) (j : Nat) : DV :=
  dsAt
  ((fun x => DV.x (.int .i64 (Rat.num (L13_q25 a))) :: x)
   ((fun x => DV.x (.int .i64 (↑(Rat.den (L13_q25 a)) : Int)) :: x)
   ((fun x => DV.x (.int .i64 (Rat.num (L13_q24 a))) :: x)
   ((fun x => DV.x (.int .i64 (↑(Rat.den (L13_q24 a)) : Int)) :: x)
   ((fun x => DV.x (.int .i64 (Rat.num (L13_q23 a))) :: x)
   ((fun x => DV.x (.int .i64 (↑(Rat.den (L13_q23 a)) : Int)) :: x)
   ((fun x => DV.x (.int .i64 (Rat.num (L13_q22 a))) :: x)
   ((fun x => DV.x (.int .i64 (↑(Rat.den (L13_q22 a)) : Int)) :: x)
   ((fun x => DV.x (.int .i64 (Rat.num (L13_q29 n c))) :: x)
   ((fun x => DV.x (.int .i64 (↑(Rat.den (L13_q29 n c)) : Int)) :: x)
   ((fun x => DV.x (.int .i64 (Rat.num (L13_q28 n c))) :: x)
   ((fun x => DV.x (.int .i64 (↑(Rat.den (L13_q28 n c)) : Int)) :: x)
   ((fun x => DV.x (.int .i64 (Rat.num (L13_q27 n c))) :: x)
   ((fun x => DV.x (.int .i64 (↑(Rat.den (L13_q27 n c)) : Int)) :: x)
   ((fun x => DV.x (.int .i64 (Rat.num (L13_q26 n c))) :: x)
   ((fun x => DV.x (.int .i64 (↑(Rat.den (L13_q26 n c)) : Int)) :: x)
   ((fun x => DV.x (.int .i64 (Rat.num (L13_q25 a))) :: x)
   ((fun x => DV.x (.int .i64 (↑(Rat.den (L13_q25 a)) : Int)) :: x)
   ((fun x => DV.x (.int .i64 (Rat.num (L13_q24 a))) :: x)
   ((fun x => DV.x (.int .i64 (↑(Rat.den (L13_q24 a)) : Int)) :: x)
   ((fun x => DV.x (.int .i64 (Rat.num (L13_q23 a))) :: x)
   ((fun x => DV.x (.int .i64 (↑(Rat.den (L13_q23 a)) : Int)) :: x)
   ((fun x => DV.x (.int .i64 (Rat.num (L13_q22 a))) :: x) ((fun x => DV.x (.int .i64 (↑(Rat.den (L13_q22 a)) : Int)) :: x) []))))))))))))))))))))))))
  ((0 : Nat) + ((0 : Nat) + i) * (fun x => TypeInfo.size x) (Tables.types (Program.toTables Try.prog))[(28 : Nat)] + j)
noncomputable def L13_q31 (a : Nat → Int) : Rat :=
  mdQ (a 60) (a 61)
noncomputable def L13_q32 (a : Nat → Int) : Rat :=
  mdQ (a 62) (a 63)
noncomputable def L13_q33 (a : Nat → Int) : Rat :=
  mdQ (a 41) (a 42)
noncomputable def L13_q34 (a : Nat → Int) : Rat :=
  ratOf (Rat.num (L13_q13 a)) (↑(Rat.den (L13_q13 a)) : Int)
noncomputable def L13_q35 (a : Nat → Int) : Rat :=
  ratOf (Rat.num (L13_q14 a)) (↑(Rat.den (L13_q14 a)) : Int)
noncomputable def L13_q36 (a : Nat → Int) : Rat :=
  ratOf (Rat.num (L13_q15 a)) (↑(Rat.den (L13_q15 a)) : Int)
noncomputable def L13_q37 (a : Nat → Int) : Rat :=
  ratOf (Rat.num (L13_q16 a)) (↑(Rat.den (L13_q16 a)) : Int)
noncomputable def L13_q38 (a : Nat → Int) : Rat :=
  ratOf (Rat.num (L13_q31 a)) (↑(Rat.den (L13_q31 a)) : Int)
noncomputable def L13_q39 (a : Nat → Int) : Rat :=
  ratOf (Rat.num (L13_q32 a)) (↑(Rat.den (L13_q32 a)) : Int)
noncomputable def L13_q40 (a : Nat → Int) : Rat :=
  ratOf (Rat.num (L13_q33 a)) (↑(Rat.den (L13_q33 a)) : Int)
noncomputable def L13_q41 (a : Nat → Int) : Option Rat :=
  atO (L13_q34 a) (L13_q35 a) (L13_q36 a) (L13_q37 a) (L13_q38 a) (L13_q39 a) (L13_q40 a)
noncomputable def L13_q42 (a : Nat → Int) : Bool :=
  !(oN (L13_q41 a) == oN (L13_q41 a) && (oD (L13_q41 a) == oD (L13_q41 a) && true) && (oE (L13_q41 a) == oE (L13_q41 a) && true))
noncomputable def L13_q43 (a : Nat → Int) : Rat :=
  ratOf (Rat.num (L13_q7 a)) (↑(Rat.den (L13_q7 a)) : Int)
noncomputable def L13_q44 (a : Nat → Int) : Rat :=
  ratOf (Rat.num (L13_q8 a)) (↑(Rat.den (L13_q8 a)) : Int)
noncomputable def L13_q45 (a : Nat → Int) : Rat :=
  mn (L13_q43 a) (L13_q44 a)
noncomputable def L13_q46 (a : Nat → Int) : Rat :=
  mx (L13_q43 a) (L13_q44 a)
noncomputable def L13_q47 (a : Nat → Int) : Rat :=
  ratOf (Rat.num (L13_q9 a)) (↑(Rat.den (L13_q9 a)) : Int)
noncomputable def L13_q48 (a : Nat → Int) : Rat :=
  ratOf (Rat.num (L13_q10 a)) (↑(Rat.den (L13_q10 a)) : Int)
noncomputable def L13_q49 (a : Nat → Int) : Rat :=
  mn (L13_q47 a) (L13_q48 a)
noncomputable def L13_q50 (a : Nat → Int) : Rat :=
  mx (L13_q47 a) (L13_q48 a)
noncomputable def L13_q51 (a : Nat → Int) : Rat :=
  ratOf (Rat.num (L13_q11 a)) (↑(Rat.den (L13_q11 a)) : Int)
noncomputable def L13_q52 (a : Nat → Int) : Rat :=
  ratOf (Rat.num (L13_q12 a)) (↑(Rat.den (L13_q12 a)) : Int)
noncomputable def L13_q53 (a : Nat → Int) : Rat :=
  mn (L13_q51 a) (L13_q52 a)
noncomputable def L13_q54 (a : Nat → Int) : Rat :=
  mx (L13_q51 a) (L13_q52 a)
noncomputable def L13_q55 (a : Nat → Int) : Rat :=
  ratOf (Rat.num (L13_q45 a)) (↑(Rat.den (L13_q45 a)) : Int)
noncomputable def L13_q56 (a : Nat → Int) : Rat :=
  ratOf (Rat.num (L13_q46 a)) (↑(Rat.den (L13_q46 a)) : Int)
noncomputable def L13_q57 (a : Nat → Int) : Rat :=
  ratOf (Rat.num (L13_q49 a)) (↑(Rat.den (L13_q49 a)) : Int)
noncomputable def L13_q58 (a : Nat → Int) : Rat :=
  ratOf (Rat.num (L13_q50 a)) (↑(Rat.den (L13_q50 a)) : Int)
noncomputable def L13_q59 (a : Nat → Int) : Rat :=
  ratOf (Rat.num (L13_q53 a)) (↑(Rat.den (L13_q53 a)) : Int)
noncomputable def L13_q60 (a : Nat → Int) : Rat :=
  ratOf (Rat.num (L13_q54 a)) (↑(Rat.den (L13_q54 a)) : Int)
noncomputable def L13_q61 (a : Nat → Int) : Option (Rat × Rat) :=
  rgO (L13_q34 a) (L13_q35 a) (L13_q36 a) (L13_q37 a) (L13_q55 a) (L13_q56 a) (L13_q57 a) (L13_q58 a) (L13_q59 a) (L13_q60 a)
noncomputable def L13_q62 (a : Nat → Int) : Bool :=
  L13_q42 a ||
  !(lN (L13_q61 a) == lN (L13_q61 a) && (lD (L13_q61 a) == lD (L13_q61 a) && true) &&
   (hN (L13_q61 a) == hN (L13_q61 a) && (hD (L13_q61 a) == hD (L13_q61 a) && true) && true) &&
   (oE (L13_q61 a) == oE (L13_q61 a) && true))
noncomputable def L13_q63 (d : Nat → Nat → DV) (i : Nat) : Int :=
  intOf1 (d i (0 : Nat))
noncomputable def L13_q64 (m : Nat) (d : Nat → Nat → DV) : Rat :=
  loQ m (L13_q63 d) 0
noncomputable def L13_q65 (m : Nat) (d : Nat → Nat → DV) : Rat :=
  hiQ m (L13_q63 d) 0
noncomputable def L13_q66 (m : Nat) (d : Nat → Nat → DV) : Rat :=
  loQ m (L13_q63 d) 1
noncomputable def L13_q67 (m : Nat) (d : Nat → Nat → DV) : Rat :=
  hiQ m (L13_q63 d) 1
noncomputable def L13_q68 (m : Nat) (d : Nat → Nat → DV) : Rat :=
  loQ m (L13_q63 d) 2
noncomputable def L13_q69 (m : Nat) (d : Nat → Nat → DV) : Rat :=
  hiQ m (L13_q63 d) 2
noncomputable def L13_q70 (m : Nat) (d : Nat → Nat → DV) : Rat :=
  ratOf (Rat.num (L13_q64 m d)) (↑(Rat.den (L13_q64 m d)) : Int)
noncomputable def L13_q71 (m : Nat) (d : Nat → Nat → DV) : Rat :=
  ratOf (Rat.num (L13_q65 m d)) (↑(Rat.den (L13_q65 m d)) : Int)
noncomputable def L13_q72 (m : Nat) (d : Nat → Nat → DV) : Rat :=
  ratOf (Rat.num (L13_q66 m d)) (↑(Rat.den (L13_q66 m d)) : Int)
noncomputable def L13_q73 (m : Nat) (d : Nat → Nat → DV) : Rat :=
  ratOf (Rat.num (L13_q67 m d)) (↑(Rat.den (L13_q67 m d)) : Int)
noncomputable def L13_q74 (m : Nat) (d : Nat → Nat → DV) : Rat :=
  ratOf (Rat.num (L13_q68 m d)) (↑(Rat.den (L13_q68 m d)) : Int)
noncomputable def L13_q75 (m : Nat) (d : Nat → Nat → DV) : Rat :=
  ratOf (Rat.num (L13_q69 m d)) (↑(Rat.den (L13_q69 m d)) : Int)
noncomputable def L13_q76 (a : Nat → Int) (m : Nat) (d : Nat → Nat → DV) : Option (Rat × Rat) :=
  rgO (L13_q34 a) (L13_q35 a) (L13_q36 a) (L13_q37 a) (L13_q70 m d) (L13_q71 m d) (L13_q72 m d) (L13_q73 m d) (L13_q74 m d)
  (L13_q75 m d)
noncomputable def L13_q77 (a : Nat → Int) (m : Nat) (d : Nat → Nat → DV) : Bool :=
  L13_q62 a ||
  !(lN (L13_q76 a m d) == lN (L13_q76 a m d) && (lD (L13_q76 a m d) == lD (L13_q76 a m d) && true) &&
   (hN (L13_q76 a m d) == hN (L13_q76 a m d) && (hD (L13_q76 a m d) == hD (L13_q76 a m d) && true) && true) &&
   (oE (L13_q76 a m d) == oE (L13_q76 a m d) && true))
noncomputable def L13_q78 (n : Nat) (c : Nat → Nat → DV) : Rat :=
  ratOf (Rat.num (L13_q18 n c)) (↑(Rat.den (L13_q18 n c)) : Int)
noncomputable def L13_q79 (n : Nat) (c : Nat → Nat → DV) : Rat :=
  ratOf (Rat.num (L13_q19 n c)) (↑(Rat.den (L13_q19 n c)) : Int)
noncomputable def L13_q80 (n : Nat) (c : Nat → Nat → DV) : Rat :=
  ratOf (Rat.num (L13_q20 n c)) (↑(Rat.den (L13_q20 n c)) : Int)
noncomputable def L13_q81 (n : Nat) (c : Nat → Nat → DV) : Rat :=
  ratOf (Rat.num (L13_q21 n c)) (↑(Rat.den (L13_q21 n c)) : Int)
noncomputable def L13_q82 (n : Nat) (m : Nat) (c : Nat → Nat → DV) (d : Nat → Nat → DV) : Option (Rat × Rat) :=
  rgO (L13_q78 n c) (L13_q79 n c) (L13_q80 n c) (L13_q81 n c) (L13_q70 m d) (L13_q71 m d) (L13_q72 m d) (L13_q73 m d) (L13_q74 m d)
  (L13_q75 m d)
noncomputable def L13_q83 (a : Nat → Int) (n : Nat) (m : Nat) (c : Nat → Nat → DV) (d : Nat → Nat → DV) : Bool :=
  L13_q77 a m d ||
  !(lN (L13_q82 n m c d) == lN (L13_q82 n m c d) && (lD (L13_q82 n m c d) == lD (L13_q82 n m c d) && true) &&
   (hN (L13_q82 n m c d) == hN (L13_q82 n m c d) && (hD (L13_q82 n m c d) == hD (L13_q82 n m c d) && true) && true) &&
   (oE (L13_q82 n m c d) == oE (L13_q82 n m c d) && true))
noncomputable def L13_q84 (a : Nat → Int) (n : Nat) (c : Nat → Nat → DV) : Option (Rat × Rat × Rat × Rat) :=
  addO (L13_q34 a) (L13_q35 a) (L13_q36 a) (L13_q37 a) (L13_q78 n c) (L13_q79 n c) (L13_q80 n c) (L13_q81 n c)
noncomputable def L13_q85 (a : Nat → Int) (n : Nat) (c : Nat → Nat → DV) : Option Rat :=
  k0 (L13_q84 a n c)
noncomputable def L13_q86 (a : Nat → Int) (n : Nat) (c : Nat → Nat → DV) : Option Rat :=
  k1 (L13_q84 a n c)
noncomputable def L13_q87 (a : Nat → Int) (n : Nat) (c : Nat → Nat → DV) : Option Rat :=
  k2 (L13_q84 a n c)
noncomputable def L13_q88 (a : Nat → Int) (n : Nat) (c : Nat → Nat → DV) : Option Rat :=
  k3 (L13_q84 a n c)
noncomputable def L13_q89 (a : Nat → Int) (n : Nat) (m : Nat) (c : Nat → Nat → DV) (d : Nat → Nat → DV) : Bool :=
  L13_q83 a n m c d ||
  !(oN (L13_q85 a n c) == oN (L13_q85 a n c) && (oD (L13_q85 a n c) == oD (L13_q85 a n c) && true) &&
   (oN (L13_q86 a n c) == oN (L13_q86 a n c) && (oD (L13_q86 a n c) == oD (L13_q86 a n c) && true) &&
   (oN (L13_q87 a n c) == oN (L13_q87 a n c) && (oD (L13_q87 a n c) == oD (L13_q87 a n c) && true) &&
   (oN (L13_q88 a n c) == oN (L13_q88 a n c) && (oD (L13_q88 a n c) == oD (L13_q88 a n c) && true) && true))) &&
   (oE (L13_q84 a n c) == oE (L13_q84 a n c) && true))
noncomputable def L13_q90 (a : Nat → Int) : Option (Rat × Rat × Rat × Rat) :=
  sclO (L13_q34 a) (L13_q35 a) (L13_q36 a) (L13_q37 a) (L13_q38 a)
noncomputable def L13_q91 (a : Nat → Int) : Option Rat :=
  k0 (L13_q90 a)
noncomputable def L13_q92 (a : Nat → Int) : Option Rat :=
  k1 (L13_q90 a)
noncomputable def L13_q93 (a : Nat → Int) : Option Rat :=
  k2 (L13_q90 a)
noncomputable def L13_q94 (a : Nat → Int) : Option Rat :=
  k3 (L13_q90 a)
noncomputable def L13_q95 (a : Nat → Int) (n : Nat) (c : Nat → Nat → DV) (i : Nat) (j : Nat) : DV :=
  dsAt
  [DV.x (.int .i64 (Rat.num (L13_q13 a))), DV.x (.int .i64 (↑(Rat.den (L13_q13 a)) : Int)), DV.x (.int .i64 (Rat.num (L13_q14 a))),
   DV.x (.int .i64 (↑(Rat.den (L13_q14 a)) : Int)), DV.x (.int .i64 (Rat.num (L13_q15 a))), DV.x (.int .i64 (↑(Rat.den (L13_q15 a)) : Int)),
   DV.x (.int .i64 (Rat.num (L13_q16 a))), DV.x (.int .i64 (↑(Rat.den (L13_q16 a)) : Int)), DV.x (.int .i64 (Rat.num (L13_q18 n c))),
   DV.x (.int .i64 (↑(Rat.den (L13_q18 n c)) : Int)), DV.x (.int .i64 (Rat.num (L13_q19 n c))), DV.x (.int .i64 (↑(Rat.den (L13_q19 n c)) : Int)),
   DV.x (.int .i64 (Rat.num (L13_q20 n c))), DV.x (.int .i64 (↑(Rat.den (L13_q20 n c)) : Int)), DV.x (.int .i64 (Rat.num (L13_q21 n c))),
   DV.x (.int .i64 (↑(Rat.den (L13_q21 n c)) : Int)), DV.x (.int .i64 (Rat.num (L13_q13 a))), DV.x (.int .i64 (↑(Rat.den (L13_q13 a)) : Int)),
   DV.x (.int .i64 (Rat.num (L13_q14 a))), DV.x (.int .i64 (↑(Rat.den (L13_q14 a)) : Int)), DV.x (.int .i64 (Rat.num (L13_q15 a))),
   DV.x (.int .i64 (↑(Rat.den (L13_q15 a)) : Int)), DV.x (.int .i64 (Rat.num (L13_q16 a))), DV.x (.int .i64 (↑(Rat.den (L13_q16 a)) : Int))]
  (0 + (0 + i) * 8 + j)
noncomputable def L13_q96 (a : Nat → Int) (n : Nat) (c : Nat → Nat → DV) : Option (Rat × Rat × Rat × Rat) :=
  sumR 3 (L13_q95 a n c)
noncomputable def L13_q97 (a : Nat → Int) (n : Nat) (c : Nat → Nat → DV) : Option Rat :=
  k0 (L13_q96 a n c)
noncomputable def L13_q98 (a : Nat → Int) (n : Nat) (c : Nat → Nat → DV) : Option Rat :=
  k1 (L13_q96 a n c)
noncomputable def L13_q99 (a : Nat → Int) (n : Nat) (c : Nat → Nat → DV) : Option Rat :=
  k2 (L13_q96 a n c)
noncomputable def L13_q100 (a : Nat → Int) (n : Nat) (c : Nat → Nat → DV) : Option Rat :=
  k3 (L13_q96 a n c)
noncomputable def L13_q101 (a : Nat → Int) : Option (Rat × Rat) :=
  plsO (L13_q55 a) (L13_q56 a) (L13_q57 a) (L13_q58 a)
noncomputable def L13_q102 (a : Nat → Int) : Bool :=
  !(lN (L13_q101 a) == lN (L13_q101 a) && (lD (L13_q101 a) == lD (L13_q101 a) && true) &&
   (hN (L13_q101 a) == hN (L13_q101 a) && (hD (L13_q101 a) == hD (L13_q101 a) && true) && true) &&
   (oE (L13_q101 a) == oE (L13_q101 a) && true))
noncomputable def L13_q103 (a : Nat → Int) (m : Nat) (d : Nat → Nat → DV) : Rat :=
  mn (L13_q55 a) (L13_q70 m d)
noncomputable def L13_q104 (a : Nat → Int) (m : Nat) (d : Nat → Nat → DV) : Rat :=
  mx (L13_q56 a) (L13_q71 m d)
noncomputable def L13_q105 (a : Nat → Int) (m : Nat) (d : Nat → Nat → DV) : Bool :=
  L13_q102 a ||
  !(Rat.num (L13_q103 a m d) == Rat.num (L13_q103 a m d) && ((↑(Rat.den (L13_q103 a m d)) : Int) == (↑(Rat.den (L13_q103 a m d)) : Int) && true) &&
   (Rat.num (L13_q104 a m d) == Rat.num (L13_q104 a m d) && ((↑(Rat.den (L13_q104 a m d)) : Int) == (↑(Rat.den (L13_q104 a m d)) : Int) && true) && true))
noncomputable def L13_q106 (a : Nat → Int) : Bool :=
  decide (L13_q55 a ≤ L13_q38 a) && decide (L13_q38 a ≤ L13_q56 a)
noncomputable def L13_q107 (a : Nat → Int) (m : Nat) (d : Nat → Nat → DV) : Bool :=
  L13_q105 a m d || !L13_q106 a == L13_q106 a
noncomputable def L13_q108 (a : Nat → Int) (m : Nat) (d : Nat → Nat → DV) : Bool :=
  decide (L13_q72 m d ≤ L13_q55 a) && decide (L13_q55 a ≤ L13_q73 m d) && (decide (L13_q72 m d ≤ L13_q56 a) && decide (L13_q56 a ≤ L13_q73 m d))
noncomputable def L13_q109 (a : Nat → Int) (m : Nat) (d : Nat → Nat → DV) : Bool :=
  wiB (L13_q55 a) (L13_q56 a) (L13_q70 m d) (L13_q71 m d) && wiB (L13_q57 a) (L13_q58 a) (L13_q72 m d) (L13_q73 m d) &&
  wiB (L13_q59 a) (L13_q60 a) (L13_q74 m d) (L13_q75 m d)
noncomputable def L13_q110 (a : Nat → Int) (m : Nat) (d : Nat → Nat → DV) : Bool :=
  L13_q109 a m d == L13_q109 a m d
noncomputable def L13 (a : Nat → Int) (n m : Nat) (c d : Nat → Nat → DV) : Tree SV :=
  .ite false (.ret (bv false))
  (.ite (!L13_q1 a == L13_q1 a || !L13_q2 a == L13_q2 a || !L13_q5 a == L13_q5 a || !L13_q6 a == L13_q6 a) (.ret (bv false))
   (.need ((24 : Int) ≠ (0 : Int))
   (.need ((0 : Int) ≤ (0 : Int) ∧ (0 : Int) < (24 : Int))
   (.need (0 < 24)
   (.need ((24 : Int) ≠ (0 : Int))
   (.need ((0 : Int) ≤ (1 : Int) ∧ (1 : Int) < (24 : Int))
   (.need (1 < 24)
   (.need (I64 (a 40) ∧ I64 (a 41))
   (.need ((24 : Int) ≠ (0 : Int))
   (.need ((0 : Int) ≤ (2 : Int) ∧ (2 : Int) < (24 : Int))
   (.need (2 < 24)
   (.need ((24 : Int) ≠ (0 : Int))
   (.need ((0 : Int) ≤ (3 : Int) ∧ (3 : Int) < (24 : Int))
   (.need (3 < 24)
   (.need (I64 (a 42) ∧ I64 (a 43))
   (.need ((24 : Int) ≠ (0 : Int))
   (.need ((0 : Int) ≤ (4 : Int) ∧ (4 : Int) < (24 : Int))
   (.need (4 < 24)
   (.need ((24 : Int) ≠ (0 : Int))
   (.need ((0 : Int) ≤ (5 : Int) ∧ (5 : Int) < (24 : Int))
   (.need (5 < 24)
   (.need (I64 (a 44) ∧ I64 (a 45))
   (.need ((24 : Int) ≠ (0 : Int))
   (.need ((0 : Int) ≤ (6 : Int) ∧ (6 : Int) < (24 : Int))
   (.need (6 < 24)
   (.need ((24 : Int) ≠ (0 : Int))
   (.need ((0 : Int) ≤ (7 : Int) ∧ (7 : Int) < (24 : Int))
   (.need (7 < 24)
   (.need (I64 (a 46) ∧ I64 (a 47))
   (.need (Byt n c)
   (.need ((24 : Int) ≠ (0 : Int))
   (.need ((0 : Int) ≤ (8 : Int) ∧ (8 : Int) < (24 : Int))
   (.need (8 < 24)
   (.need ((24 : Int) ≠ (0 : Int))
   (.need ((0 : Int) ≤ (9 : Int) ∧ (9 : Int) < (24 : Int))
   (.need (9 < 24)
   (.need (I64 (a 48) ∧ I64 (a 49))
   (.need ((24 : Int) ≠ (0 : Int))
   (.need ((0 : Int) ≤ (10 : Int) ∧ (10 : Int) < (24 : Int))
   (.need (10 < 24)
   (.need ((24 : Int) ≠ (0 : Int))
   (.need ((0 : Int) ≤ (11 : Int) ∧ (11 : Int) < (24 : Int))
   (.need (11 < 24)
   (.need (I64 (a 50) ∧ I64 (a 51))
   (.need
   (VF (Rat.num (L13_q7 a)) (↑(Rat.den (L13_q7 a)) : Int) ∧
   VF (Rat.num (L13_q8 a)) (↑(Rat.den (L13_q8 a)) : Int))
   (.need
   (VF (Rat.num (L13_q7 a)) (↑(Rat.den (L13_q7 a)) : Int) ∧
   VF (Rat.num (L13_q8 a)) (↑(Rat.den (L13_q8 a)) : Int))
   (.need ((24 : Int) ≠ (0 : Int))
   (.need ((0 : Int) ≤ (12 : Int) ∧ (12 : Int) < (24 : Int))
   (.need (12 < 24)
   (.need ((24 : Int) ≠ (0 : Int))
   (.need ((0 : Int) ≤ (13 : Int) ∧ (13 : Int) < (24 : Int))
   (.need (13 < 24)
   (.need (I64 (a 52) ∧ I64 (a 53))
   (.need ((24 : Int) ≠ (0 : Int))
   (.need ((0 : Int) ≤ (14 : Int) ∧ (14 : Int) < (24 : Int))
   (.need (14 < 24)
   (.need ((24 : Int) ≠ (0 : Int))
   (.need ((0 : Int) ≤ (15 : Int) ∧ (15 : Int) < (24 : Int))
   (.need (15 < 24)
   (.need (I64 (a 54) ∧ I64 (a 55))
   (.need
   (VF (Rat.num (L13_q9 a)) (↑(Rat.den (L13_q9 a)) : Int) ∧
   VF (Rat.num (L13_q10 a)) (↑(Rat.den (L13_q10 a)) : Int))
   (.need
   (VF (Rat.num (L13_q9 a)) (↑(Rat.den (L13_q9 a)) : Int) ∧
   VF (Rat.num (L13_q10 a)) (↑(Rat.den (L13_q10 a)) : Int))
   (.need ((24 : Int) ≠ (0 : Int))
   (.need ((0 : Int) ≤ (16 : Int) ∧ (16 : Int) < (24 : Int))
   (.need (16 < 24)
   (.need ((24 : Int) ≠ (0 : Int))
   (.need ((0 : Int) ≤ (17 : Int) ∧ (17 : Int) < (24 : Int))
   (.need (17 < 24)
   (.need (I64 (a 56) ∧ I64 (a 57))
   (.need ((24 : Int) ≠ (0 : Int))
   (.need ((0 : Int) ≤ (18 : Int) ∧ (18 : Int) < (24 : Int))
   (.need (18 < 24)
   (.need ((24 : Int) ≠ (0 : Int))
   (.need ((0 : Int) ≤ (19 : Int) ∧ (19 : Int) < (24 : Int))
   (.need (19 < 24)
   (.need (I64 (a 58) ∧ I64 (a 59))
   (.need
   (VF (Rat.num (L13_q11 a)) (↑(Rat.den (L13_q11 a)) : Int) ∧
   VF (Rat.num (L13_q12 a)) (↑(Rat.den (L13_q12 a)) : Int))
   (.need
   (VF (Rat.num (L13_q11 a)) (↑(Rat.den (L13_q11 a)) : Int) ∧
   VF (Rat.num (L13_q12 a)) (↑(Rat.den (L13_q12 a)) : Int))
   (.need (Byt m d)
   (.need ((24 : Int) ≠ (0 : Int))
   (.need ((0 : Int) ≤ (20 : Int) ∧ (20 : Int) < (24 : Int))
   (.need (20 < 24)
   (.need ((24 : Int) ≠ (0 : Int))
   (.need ((0 : Int) ≤ (21 : Int) ∧ (21 : Int) < (24 : Int))
   (.need (21 < 24)
   (.need (I64 (a 60) ∧ I64 (a 61))
   (.need ((24 : Int) ≠ (0 : Int))
   (.need ((0 : Int) ≤ (22 : Int) ∧ (22 : Int) < (24 : Int))
   (.need (22 < 24)
   (.need ((24 : Int) ≠ (0 : Int))
   (.need
   ((0 : Int) ≤ (23 : Int) ∧ (23 : Int) < (24 : Int))
   (.need (23 < 24)
   (.need
   (I64 (a 62) ∧ I64 (a 63))
   (.need ((24 : Int) ≠ (0 : Int))
   (.need
   ((0 : Int) ≤ (1 : Int) ∧ (1 : Int) < (24 : Int))
   (.need (1 < 24)
   (.need ((24 : Int) ≠ (0 : Int))
   (.need
   ((0 : Int) ≤ (2 : Int) ∧
   (2 : Int) < (24 : Int))
   (.need (2 < 24)
   (.need
   (I64 (a 41) ∧
   I64 (a 42))
   (.need
   (24 ≤
   List.length
   [iv
   (Rat.num
   (L13_q13 a)),
   iv
   (↑(Rat.den
   (L13_q13
   a)) :
   Int),
   iv
   (Rat.num
   (L13_q14 a)),
   iv
   (↑(Rat.den
   (L13_q14
   a)) :
   Int),
   iv
   (Rat.num
   (L13_q15 a)),
   iv
   (↑(Rat.den
   (L13_q15
   a)) :
   Int),
   iv
   (Rat.num
   (L13_q16 a)),
   iv
   (↑(Rat.den
   (L13_q16
   a)) :
   Int),
   iv
   (Rat.num
   (L13_q18 n c)),
   iv
   (↑(Rat.den
   (L13_q18 n
   c)) :
   Int),
   iv
   (Rat.num
   (L13_q19 n c)),
   iv
   (↑(Rat.den
   (L13_q19 n
   c)) :
   Int),
   iv
   (Rat.num
   (L13_q20 n c)),
   iv
   (↑(Rat.den
   (L13_q20 n
   c)) :
   Int),
   iv
   (Rat.num
   (L13_q21 n c)),
   iv
   (↑(Rat.den
   (L13_q21 n
   c)) :
   Int),
   iv
   (Rat.num
   (L13_q13 a)),
   iv
   (↑(Rat.den
   (L13_q13
   a)) :
   Int),
   iv
   (Rat.num
   (L13_q14 a)),
   iv
   (↑(Rat.den
   (L13_q14
   a)) :
   Int),
   iv
   (Rat.num
   (L13_q15 a)),
   iv
   (↑(Rat.den
   (L13_q15
   a)) :
   Int),
   iv
   (Rat.num
   (L13_q16 a)),
   iv
   (↑(Rat.den
   (L13_q16
   a)) :
   Int)])
   (.need
   ((3 = 2 ∨
   3 = 3) ∧
   ∀ (i : Nat),
   i < (3 : Nat) →
   VRow
   (cellI
   (L13_q30 a
   n c)
   i) ∧
   ∀ (j : Nat),
   j < (8 : Nat) →
   L13_q30 a n
   c i j =
   DV.x
   (.int
   .i64
   (cellI
   (L13_q30
   a n c)
   i j)))
   (.need
   (24 ≤
   List.length
   [iv
   (Rat.num
   (L13_q13
   a)),
   iv
   (↑(Rat.den
   (L13_q13
   a)) :
   Int),
   iv
   (Rat.num
   (L13_q14
   a)),
   iv
   (↑(Rat.den
   (L13_q14
   a)) :
   Int),
   iv
   (Rat.num
   (L13_q15
   a)),
   iv
   (↑(Rat.den
   (L13_q15
   a)) :
   Int),
   iv
   (Rat.num
   (L13_q16
   a)),
   iv
   (↑(Rat.den
   (L13_q16
   a)) :
   Int),
   iv
   (Rat.num
   (L13_q18 n
   c)),
   iv
   (↑(Rat.den
   (L13_q18
   n c)) :
   Int),
   iv
   (Rat.num
   (L13_q19 n
   c)),
   iv
   (↑(Rat.den
   (L13_q19
   n c)) :
   Int),
   iv
   (Rat.num
   (L13_q20 n
   c)),
   iv
   (↑(Rat.den
   (L13_q20
   n c)) :
   Int),
   iv
   (Rat.num
   (L13_q21 n
   c)),
   iv
   (↑(Rat.den
   (L13_q21
   n c)) :
   Int),
   iv
   (Rat.num
   (L13_q13
   a)),
   iv
   (↑(Rat.den
   (L13_q13
   a)) :
   Int),
   iv
   (Rat.num
   (L13_q14
   a)),
   iv
   (↑(Rat.den
   (L13_q14
   a)) :
   Int),
   iv
   (Rat.num
   (L13_q15
   a)),
   iv
   (↑(Rat.den
   (L13_q15
   a)) :
   Int),
   iv
   (Rat.num
   (L13_q16
   a)),
   iv
   (↑(Rat.den
   (L13_q16
   a)) :
   Int)])
   (.need
   (3 = 3 ∧
   ∀ (i : Nat),
   i < (3 : Nat) →
   VRow
   (cellI
   (L13_q30
   a n c)
   i) ∧
   ∀ (j : Nat),
   j < (8 : Nat) →
   L13_q30
   a n c i j =
   DV.x
   (.int
   .i64
   (cellI
   (L13_q30
   a n c)
   i j)))
   (.need
   ((VF
   (Rat.num
   (L13_q13
   a))
   (↑(Rat.den
   (L13_q13
   a)) :
   Int) ∧
   VF
   (Rat.num
   (L13_q14
   a))
   (↑(Rat.den
   (L13_q14
   a)) :
   Int) ∧
   VF
   (Rat.num
   (L13_q15
   a))
   (↑(Rat.den
   (L13_q15
   a)) :
   Int) ∧
   VF
   (Rat.num
   (L13_q16
   a))
   (↑(Rat.den
   (L13_q16
   a)) :
   Int)) ∧
   VF
   (Rat.num
   (L13_q31
   a))
   (↑(Rat.den
   (L13_q31
   a)) :
   Int) ∧
   VF
   (Rat.num
   (L13_q32
   a))
   (↑(Rat.den
   (L13_q32
   a)) :
   Int) ∧
   VF
   (Rat.num
   (L13_q33
   a))
   (↑(Rat.den
   (L13_q33
   a)) :
   Int))
   (.need
   ((VF
   (Rat.num
   (L13_q13
   a))
   (↑(Rat.den
   (L13_q13
   a)) :
   Int) ∧
   VF
   (Rat.num
   (L13_q14
   a))
   (↑(Rat.den
   (L13_q14
   a)) :
   Int) ∧
   VF
   (Rat.num
   (L13_q15
   a))
   (↑(Rat.den
   (L13_q15
   a)) :
   Int) ∧
   VF
   (Rat.num
   (L13_q16
   a))
   (↑(Rat.den
   (L13_q16
   a)) :
   Int)) ∧
   VF
   (Rat.num
   (L13_q31
   a))
   (↑(Rat.den
   (L13_q31
   a)) :
   Int) ∧
   VF
   (Rat.num
   (L13_q32
   a))
   (↑(Rat.den
   (L13_q32
   a)) :
   Int) ∧
   VF
   (Rat.num
   (L13_q33
   a))
   (↑(Rat.den
   (L13_q33
   a)) :
   Int))
   (.need
   (L13_q42 a =
   false →
   VBox
   (Rat.num
   (L13_q13
   a))
   (↑(Rat.den
   (L13_q13
   a)) :
   Int)
   (Rat.num
   (L13_q14
   a))
   (↑(Rat.den
   (L13_q14
   a)) :
   Int)
   (Rat.num
   (L13_q15
   a))
   (↑(Rat.den
   (L13_q15
   a)) :
   Int)
   (Rat.num
   (L13_q16
   a))
   (↑(Rat.den
   (L13_q16
   a)) :
   Int)
   (Rat.num
   (L13_q45
   a))
   (↑(Rat.den
   (L13_q45
   a)) :
   Int)
   (Rat.num
   (L13_q46
   a))
   (↑(Rat.den
   (L13_q46
   a)) :
   Int)
   (Rat.num
   (L13_q49
   a))
   (↑(Rat.den
   (L13_q49
   a)) :
   Int)
   (Rat.num
   (L13_q50
   a))
   (↑(Rat.den
   (L13_q50
   a)) :
   Int)
   (Rat.num
   (L13_q53
   a))
   (↑(Rat.den
   (L13_q53
   a)) :
   Int)
   (Rat.num
   (L13_q54
   a))
   (↑(Rat.den
   (L13_q54
   a)) :
   Int))
   (.need
   (L13_q42
   a =
   false →
   VBox
   (Rat.num
   (L13_q13
   a))
   (↑(Rat.den
   (L13_q13
   a)) :
   Int)
   (Rat.num
   (L13_q14
   a))
   (↑(Rat.den
   (L13_q14
   a)) :
   Int)
   (Rat.num
   (L13_q15
   a))
   (↑(Rat.den
   (L13_q15
   a)) :
   Int)
   (Rat.num
   (L13_q16
   a))
   (↑(Rat.den
   (L13_q16
   a)) :
   Int)
   (Rat.num
   (L13_q45
   a))
   (↑(Rat.den
   (L13_q45
   a)) :
   Int)
   (Rat.num
   (L13_q46
   a))
   (↑(Rat.den
   (L13_q46
   a)) :
   Int)
   (Rat.num
   (L13_q49
   a))
   (↑(Rat.den
   (L13_q49
   a)) :
   Int)
   (Rat.num
   (L13_q50
   a))
   (↑(Rat.den
   (L13_q50
   a)) :
   Int)
   (Rat.num
   (L13_q53
   a))
   (↑(Rat.den
   (L13_q53
   a)) :
   Int)
   (Rat.num
   (L13_q54
   a))
   (↑(Rat.den
   (L13_q54
   a)) :
   Int))
   (.need
   (L13_q62
   a =
   false →
   VBox
   (Rat.num
   (L13_q13
   a))
   (↑(Rat.den
   (L13_q13
   a)) :
   Int)
   (Rat.num
   (L13_q14
   a))
   (↑(Rat.den
   (L13_q14
   a)) :
   Int)
   (Rat.num
   (L13_q15
   a))
   (↑(Rat.den
   (L13_q15
   a)) :
   Int)
   (Rat.num
   (L13_q16
   a))
   (↑(Rat.den
   (L13_q16
   a)) :
   Int)
   (Rat.num
   (L13_q64
   m d))
   (↑(Rat.den
   (L13_q64
   m d)) :
   Int)
   (Rat.num
   (L13_q65
   m d))
   (↑(Rat.den
   (L13_q65
   m d)) :
   Int)
   (Rat.num
   (L13_q66
   m d))
   (↑(Rat.den
   (L13_q66
   m d)) :
   Int)
   (Rat.num
   (L13_q67
   m d))
   (↑(Rat.den
   (L13_q67
   m d)) :
   Int)
   (Rat.num
   (L13_q68
   m d))
   (↑(Rat.den
   (L13_q68
   m d)) :
   Int)
   (Rat.num
   (L13_q69
   m d))
   (↑(Rat.den
   (L13_q69
   m d)) :
   Int))
   (.need
   (L13_q62
   a =
   false →
   VBox
   (Rat.num
   (L13_q13
   a))
   (↑(Rat.den
   (L13_q13
   a)) :
   Int)
   (Rat.num
   (L13_q14
   a))
   (↑(Rat.den
   (L13_q14
   a)) :
   Int)
   (Rat.num
   (L13_q15
   a))
   (↑(Rat.den
   (L13_q15
   a)) :
   Int)
   (Rat.num
   (L13_q16
   a))
   (↑(Rat.den
   (L13_q16
   a)) :
   Int)
   (Rat.num
   (L13_q64
   m d))
   (↑(Rat.den
   (L13_q64
   m
   d)) :
   Int)
   (Rat.num
   (L13_q65
   m d))
   (↑(Rat.den
   (L13_q65
   m
   d)) :
   Int)
   (Rat.num
   (L13_q66
   m d))
   (↑(Rat.den
   (L13_q66
   m
   d)) :
   Int)
   (Rat.num
   (L13_q67
   m d))
   (↑(Rat.den
   (L13_q67
   m
   d)) :
   Int)
   (Rat.num
   (L13_q68
   m d))
   (↑(Rat.den
   (L13_q68
   m
   d)) :
   Int)
   (Rat.num
   (L13_q69
   m d))
   (↑(Rat.den
   (L13_q69
   m
   d)) :
   Int))
   (.need
   (L13_q77
   a m d =
   false →
   VBox
   (Rat.num
   (L13_q18
   n c))
   (↑(Rat.den
   (L13_q18
   n
   c)) :
   Int)
   (Rat.num
   (L13_q19
   n c))
   (↑(Rat.den
   (L13_q19
   n
   c)) :
   Int)
   (Rat.num
   (L13_q20
   n c))
   (↑(Rat.den
   (L13_q20
   n
   c)) :
   Int)
   (Rat.num
   (L13_q21
   n c))
   (↑(Rat.den
   (L13_q21
   n
   c)) :
   Int)
   (Rat.num
   (L13_q64
   m d))
   (↑(Rat.den
   (L13_q64
   m
   d)) :
   Int)
   (Rat.num
   (L13_q65
   m d))
   (↑(Rat.den
   (L13_q65
   m
   d)) :
   Int)
   (Rat.num
   (L13_q66
   m d))
   (↑(Rat.den
   (L13_q66
   m
   d)) :
   Int)
   (Rat.num
   (L13_q67
   m d))
   (↑(Rat.den
   (L13_q67
   m
   d)) :
   Int)
   (Rat.num
   (L13_q68
   m d))
   (↑(Rat.den
   (L13_q68
   m
   d)) :
   Int)
   (Rat.num
   (L13_q69
   m d))
   (↑(Rat.den
   (L13_q69
   m
   d)) :
   Int))
   (.need
   (L13_q77
   a m d =
   false →
   VBox
   (Rat.num
   (L13_q18
   n c))
   (↑(Rat.den
   (L13_q18
   n
   c)) :
   Int)
   (Rat.num
   (L13_q19
   n c))
   (↑(Rat.den
   (L13_q19
   n
   c)) :
   Int)
   (Rat.num
   (L13_q20
   n c))
   (↑(Rat.den
   (L13_q20
   n
   c)) :
   Int)
   (Rat.num
   (L13_q21
   n c))
   (↑(Rat.den
   (L13_q21
   n
   c)) :
   Int)
   (Rat.num
   (L13_q64
   m d))
   (↑(Rat.den
   (L13_q64
   m
   d)) :
   Int)
   (Rat.num
   (L13_q65
   m d))
   (↑(Rat.den
   (L13_q65
   m
   d)) :
   Int)
   (Rat.num
   (L13_q66
   m d))
   (↑(Rat.den
   (L13_q66
   m
   d)) :
   Int)
   (Rat.num
   (L13_q67
   m d))
   (↑(Rat.den
   (L13_q67
   m
   d)) :
   Int)
   (Rat.num
   (L13_q68
   m d))
   (↑(Rat.den
   (L13_q68
   m
   d)) :
   Int)
   (Rat.num
   (L13_q69
   m d))
   (↑(Rat.den
   (L13_q69
   m
   d)) :
   Int))
   (.need
   (L13_q83
   a n m
   c d =
   false →
   VL
   (Rat.num
   (L13_q13
   a))
   (↑(Rat.den
   (L13_q13
   a)) :
   Int)
   (Rat.num
   (L13_q14
   a))
   (↑(Rat.den
   (L13_q14
   a)) :
   Int)
   (Rat.num
   (L13_q15
   a))
   (↑(Rat.den
   (L13_q15
   a)) :
   Int)
   (Rat.num
   (L13_q16
   a))
   (↑(Rat.den
   (L13_q16
   a)) :
   Int) ∧
   VL
   (Rat.num
   (L13_q18
   n
   c))
   (↑(Rat.den
   (L13_q18
   n
   c)) :
   Int)
   (Rat.num
   (L13_q19
   n
   c))
   (↑(Rat.den
   (L13_q19
   n
   c)) :
   Int)
   (Rat.num
   (L13_q20
   n
   c))
   (↑(Rat.den
   (L13_q20
   n
   c)) :
   Int)
   (Rat.num
   (L13_q21
   n
   c))
   (↑(Rat.den
   (L13_q21
   n
   c)) :
   Int))
   (.need
   (L13_q83
   a n
   m c
   d =
   false →
   VL
   (Rat.num
   (L13_q13
   a))
   (↑(Rat.den
   (L13_q13
   a)) :
   Int)
   (Rat.num
   (L13_q14
   a))
   (↑(Rat.den
   (L13_q14
   a)) :
   Int)
   (Rat.num
   (L13_q15
   a))
   (↑(Rat.den
   (L13_q15
   a)) :
   Int)
   (Rat.num
   (L13_q16
   a))
   (↑(Rat.den
   (L13_q16
   a)) :
   Int) ∧
   VL
   (Rat.num
   (L13_q18
   n
   c))
   (↑(Rat.den
   (L13_q18
   n
   c)) :
   Int)
   (Rat.num
   (L13_q19
   n
   c))
   (↑(Rat.den
   (L13_q19
   n
   c)) :
   Int)
   (Rat.num
   (L13_q20
   n
   c))
   (↑(Rat.den
   (L13_q20
   n
   c)) :
   Int)
   (Rat.num
   (L13_q21
   n
   c))
   (↑(Rat.den
   (L13_q21
   n
   c)) :
   Int))
   (.need
   (L13_q89
   a
   n
   m
   c
   d =
   false →
   (0 :
   Int) ≤
   (0 :
   Int) ∧
   (0 :
   Int) <
   (3 :
   Int))
   (.need
   (L13_q89
   a
   n
   m
   c
   d =
   false →
   nat_lit
   0 <
   nat_lit
   3)
   (.need
   (L13_q89
   a
   n
   m
   c
   d =
   false →
   VL
   (Rat.num
   (L13_q13
   a))
   (↑(Rat.den
   (L13_q13
   a)) :
   Int)
   (Rat.num
   (L13_q14
   a))
   (↑(Rat.den
   (L13_q14
   a)) :
   Int)
   (Rat.num
   (L13_q15
   a))
   (↑(Rat.den
   (L13_q15
   a)) :
   Int)
   (Rat.num
   (L13_q16
   a))
   (↑(Rat.den
   (L13_q16
   a)) :
   Int) ∧
   VF
   (Rat.num
   (L13_q31
   a))
   (↑(Rat.den
   (L13_q31
   a)) :
   Int))
   (.need
   (L13_q89
   a
   n
   m
   c
   d =
   false →
   (0 :
   Int) ≤
   (0 :
   Int) ∧
   (0 :
   Int) <
   (3 :
   Int))
   (.need
   (L13_q89
   a
   n
   m
   c
   d =
   false →
   nat_lit
   0 <
   nat_lit
   3)
   (.need
   (L13_q89
   a
   n
   m
   c
   d =
   false →
   VL
   (Rat.num
   (L13_q13
   a))
   (↑(Rat.den
   (L13_q13
   a)) :
   Int)
   (Rat.num
   (L13_q14
   a))
   (↑(Rat.den
   (L13_q14
   a)) :
   Int)
   (Rat.num
   (L13_q15
   a))
   (↑(Rat.den
   (L13_q15
   a)) :
   Int)
   (Rat.num
   (L13_q16
   a))
   (↑(Rat.den
   (L13_q16
   a)) :
   Int) ∧
   VF
   (Rat.num
   (L13_q31
   a))
   (↑(Rat.den
   (L13_q31
   a)) :
   Int))
   (.ite
   (L13_q89
   a
   n
   m
   c
   d ||
   !(oN
   (L13_q91
   a) ==
   oN
   (L13_q91
   a) &&
   (oD
   (L13_q91
   a) ==
   oD
   (L13_q91
   a) &&
   true) &&
   (oN
   (L13_q92
   a) ==
   oN
   (L13_q92
   a) &&
   (oD
   (L13_q92
   a) ==
   oD
   (L13_q92
   a) &&
   true) &&
   (oN
   (L13_q93
   a) ==
   oN
   (L13_q93
   a) &&
   (oD
   (L13_q93
   a) ==
   oD
   (L13_q93
   a) &&
   true) &&
   (oN
   (L13_q94
   a) ==
   oN
   (L13_q94
   a) &&
   (oD
   (L13_q94
   a) ==
   oD
   (L13_q94
   a) &&
   true) &&
   true))) &&
   (oE
   (L13_q90
   a) ==
   oE
   (L13_q90
   a) &&
   true)) ||
   !(oN
   (L13_q97
   a
   n
   c) ==
   oN
   (L13_q97
   a
   n
   c) &&
   (oD
   (L13_q97
   a
   n
   c) ==
   oD
   (L13_q97
   a
   n
   c) &&
   true) &&
   (oN
   (L13_q98
   a
   n
   c) ==
   oN
   (L13_q98
   a
   n
   c) &&
   (oD
   (L13_q98
   a
   n
   c) ==
   oD
   (L13_q98
   a
   n
   c) &&
   true) &&
   (oN
   (L13_q99
   a
   n
   c) ==
   oN
   (L13_q99
   a
   n
   c) &&
   (oD
   (L13_q99
   a
   n
   c) ==
   oD
   (L13_q99
   a
   n
   c) &&
   true) &&
   (oN
   (L13_q100
   a
   n
   c) ==
   oN
   (L13_q100
   a
   n
   c) &&
   (oD
   (L13_q100
   a
   n
   c) ==
   oD
   (L13_q100
   a
   n
   c) &&
   true) &&
   true)))) ||
   oE
   (L13_q96
   a
   n
   c) !=
   oE
   (L13_q96
   a
   n
   c))
   (.ret
   (bv
   false))
   (.need
   (VF
   (Rat.num
   (L13_q45
   a))
   (↑(Rat.den
   (L13_q45
   a)) :
   Int) ∧
   VF
   (Rat.num
   (L13_q46
   a))
   (↑(Rat.den
   (L13_q46
   a)) :
   Int) ∧
   VF
   (Rat.num
   (L13_q49
   a))
   (↑(Rat.den
   (L13_q49
   a)) :
   Int) ∧
   VF
   (Rat.num
   (L13_q50
   a))
   (↑(Rat.den
   (L13_q50
   a)) :
   Int))
   (.need
   (VF
   (Rat.num
   (L13_q45
   a))
   (↑(Rat.den
   (L13_q45
   a)) :
   Int) ∧
   VF
   (Rat.num
   (L13_q46
   a))
   (↑(Rat.den
   (L13_q46
   a)) :
   Int) ∧
   VF
   (Rat.num
   (L13_q49
   a))
   (↑(Rat.den
   (L13_q49
   a)) :
   Int) ∧
   VF
   (Rat.num
   (L13_q50
   a))
   (↑(Rat.den
   (L13_q50
   a)) :
   Int))
   (.need
   (L13_q102
   a =
   false →
   VF
   (Rat.num
   (L13_q45
   a))
   (↑(Rat.den
   (L13_q45
   a)) :
   Int) ∧
   VF
   (Rat.num
   (L13_q64
   m
   d))
   (↑(Rat.den
   (L13_q64
   m
   d)) :
   Int))
   (.need
   (L13_q102
   a =
   false →
   VF
   (Rat.num
   (L13_q46
   a))
   (↑(Rat.den
   (L13_q46
   a)) :
   Int) ∧
   VF
   (Rat.num
   (L13_q65
   m
   d))
   (↑(Rat.den
   (L13_q65
   m
   d)) :
   Int))
   (.need
   (L13_q102
   a =
   false →
   VF
   (Rat.num
   (L13_q45
   a))
   (↑(Rat.den
   (L13_q45
   a)) :
   Int) ∧
   VF
   (Rat.num
   (L13_q64
   m
   d))
   (↑(Rat.den
   (L13_q64
   m
   d)) :
   Int))
   (.need
   (L13_q102
   a =
   false →
   VF
   (Rat.num
   (L13_q46
   a))
   (↑(Rat.den
   (L13_q46
   a)) :
   Int) ∧
   VF
   (Rat.num
   (L13_q65
   m
   d))
   (↑(Rat.den
   (L13_q65
   m
   d)) :
   Int))
   (.need
   (L13_q105
   a
   m
   d =
   false →
   (0 :
   Int) ≤
   (0 :
   Int) ∧
   (0 :
   Int) <
   (3 :
   Int))
   (.need
   (L13_q105
   a
   m
   d =
   false →
   nat_lit
   0 <
   nat_lit
   3)
   (.need
   (L13_q105
   a
   m
   d =
   false →
   VF
   (Rat.num
   (L13_q45
   a))
   (↑(Rat.den
   (L13_q45
   a)) :
   Int) ∧
   VF
   (Rat.num
   (L13_q46
   a))
   (↑(Rat.den
   (L13_q46
   a)) :
   Int) ∧
   VF
   (Rat.num
   (L13_q31
   a))
   (↑(Rat.den
   (L13_q31
   a)) :
   Int))
   (.need
   (L13_q105
   a
   m
   d =
   false →
   (0 :
   Int) ≤
   (0 :
   Int) ∧
   (0 :
   Int) <
   (3 :
   Int))
   (.need
   (L13_q105
   a
   m
   d =
   false →
   nat_lit
   0 <
   nat_lit
   3)
   (.need
   (L13_q105
   a
   m
   d =
   false →
   VF
   (Rat.num
   (L13_q45
   a))
   (↑(Rat.den
   (L13_q45
   a)) :
   Int) ∧
   VF
   (Rat.num
   (L13_q46
   a))
   (↑(Rat.den
   (L13_q46
   a)) :
   Int) ∧
   VF
   (Rat.num
   (L13_q31
   a))
   (↑(Rat.den
   (L13_q31
   a)) :
   Int))
   (.need
   (L13_q107
   a
   m
   d =
   false →
   VF
   (Rat.num
   (L13_q45
   a))
   (↑(Rat.den
   (L13_q45
   a)) :
   Int) ∧
   VF
   (Rat.num
   (L13_q46
   a))
   (↑(Rat.den
   (L13_q46
   a)) :
   Int) ∧
   VF
   (Rat.num
   (L13_q66
   m
   d))
   (↑(Rat.den
   (L13_q66
   m
   d)) :
   Int) ∧
   VF
   (Rat.num
   (L13_q67
   m
   d))
   (↑(Rat.den
   (L13_q67
   m
   d)) :
   Int))
   (.need
   (L13_q107
   a
   m
   d =
   false →
   VF
   (Rat.num
   (L13_q45
   a))
   (↑(Rat.den
   (L13_q45
   a)) :
   Int) ∧
   VF
   (Rat.num
   (L13_q46
   a))
   (↑(Rat.den
   (L13_q46
   a)) :
   Int) ∧
   VF
   (Rat.num
   (L13_q66
   m
   d))
   (↑(Rat.den
   (L13_q66
   m
   d)) :
   Int) ∧
   VF
   (Rat.num
   (L13_q67
   m
   d))
   (↑(Rat.den
   (L13_q67
   m
   d)) :
   Int))
   (.ite
   (L13_q107
   a
   m
   d ||
   !L13_q108
   a
   m
   d ==
   L13_q108
   a
   m
   d)
   (.ret
   (bv
   false))
   (.need
   (VB6
   (Rat.num
   (L13_q45
   a))
   (↑(Rat.den
   (L13_q45
   a)) :
   Int)
   (Rat.num
   (L13_q46
   a))
   (↑(Rat.den
   (L13_q46
   a)) :
   Int)
   (Rat.num
   (L13_q49
   a))
   (↑(Rat.den
   (L13_q49
   a)) :
   Int)
   (Rat.num
   (L13_q50
   a))
   (↑(Rat.den
   (L13_q50
   a)) :
   Int)
   (Rat.num
   (L13_q53
   a))
   (↑(Rat.den
   (L13_q53
   a)) :
   Int)
   (Rat.num
   (L13_q54
   a))
   (↑(Rat.den
   (L13_q54
   a)) :
   Int) ∧
   VB6
   (Rat.num
   (L13_q64
   m
   d))
   (↑(Rat.den
   (L13_q64
   m
   d)) :
   Int)
   (Rat.num
   (L13_q65
   m
   d))
   (↑(Rat.den
   (L13_q65
   m
   d)) :
   Int)
   (Rat.num
   (L13_q66
   m
   d))
   (↑(Rat.den
   (L13_q66
   m
   d)) :
   Int)
   (Rat.num
   (L13_q67
   m
   d))
   (↑(Rat.den
   (L13_q67
   m
   d)) :
   Int)
   (Rat.num
   (L13_q68
   m
   d))
   (↑(Rat.den
   (L13_q68
   m
   d)) :
   Int)
   (Rat.num
   (L13_q69
   m
   d))
   (↑(Rat.den
   (L13_q69
   m
   d)) :
   Int))
   (.need
   (VB6
   (Rat.num
   (L13_q45
   a))
   (↑(Rat.den
   (L13_q45
   a)) :
   Int)
   (Rat.num
   (L13_q46
   a))
   (↑(Rat.den
   (L13_q46
   a)) :
   Int)
   (Rat.num
   (L13_q49
   a))
   (↑(Rat.den
   (L13_q49
   a)) :
   Int)
   (Rat.num
   (L13_q50
   a))
   (↑(Rat.den
   (L13_q50
   a)) :
   Int)
   (Rat.num
   (L13_q53
   a))
   (↑(Rat.den
   (L13_q53
   a)) :
   Int)
   (Rat.num
   (L13_q54
   a))
   (↑(Rat.den
   (L13_q54
   a)) :
   Int) ∧
   VB6
   (Rat.num
   (L13_q64
   m
   d))
   (↑(Rat.den
   (L13_q64
   m
   d)) :
   Int)
   (Rat.num
   (L13_q65
   m
   d))
   (↑(Rat.den
   (L13_q65
   m
   d)) :
   Int)
   (Rat.num
   (L13_q66
   m
   d))
   (↑(Rat.den
   (L13_q66
   m
   d)) :
   Int)
   (Rat.num
   (L13_q67
   m
   d))
   (↑(Rat.den
   (L13_q67
   m
   d)) :
   Int)
   (Rat.num
   (L13_q68
   m
   d))
   (↑(Rat.den
   (L13_q68
   m
   d)) :
   Int)
   (Rat.num
   (L13_q69
   m
   d))
   (↑(Rat.den
   (L13_q69
   m
   d)) :
   Int))
   (.need
   (L13_q110
   a
   m
   d =
   true →
   VB6
   (Rat.num
   (L13_q64
   m
   d))
   (↑(Rat.den
   (L13_q64
   m
   d)) :
   Int)
   (Rat.num
   (L13_q65
   m
   d))
   (↑(Rat.den
   (L13_q65
   m
   d)) :
   Int)
   (Rat.num
   (L13_q66
   m
   d))
   (↑(Rat.den
   (L13_q66
   m
   d)) :
   Int)
   (Rat.num
   (L13_q67
   m
   d))
   (↑(Rat.den
   (L13_q67
   m
   d)) :
   Int)
   (Rat.num
   (L13_q68
   m
   d))
   (↑(Rat.den
   (L13_q68
   m
   d)) :
   Int)
   (Rat.num
   (L13_q69
   m
   d))
   (↑(Rat.den
   (L13_q69
   m
   d)) :
   Int) ∧
   VB6
   (Rat.num
   (L13_q64
   m
   d))
   (↑(Rat.den
   (L13_q64
   m
   d)) :
   Int)
   (Rat.num
   (L13_q65
   m
   d))
   (↑(Rat.den
   (L13_q65
   m
   d)) :
   Int)
   (Rat.num
   (L13_q66
   m
   d))
   (↑(Rat.den
   (L13_q66
   m
   d)) :
   Int)
   (Rat.num
   (L13_q67
   m
   d))
   (↑(Rat.den
   (L13_q67
   m
   d)) :
   Int)
   (Rat.num
   (L13_q68
   m
   d))
   (↑(Rat.den
   (L13_q68
   m
   d)) :
   Int)
   (Rat.num
   (L13_q69
   m
   d))
   (↑(Rat.den
   (L13_q69
   m
   d)) :
   Int))
   (.ret
   (bv
   (L13_q110
   a
   m
   d &&
   (wiB
   (L13_q70
   m
   d)
   (L13_q71
   m
   d)
   (L13_q70
   m
   d)
   (L13_q71
   m
   d) &&
   wiB
   (L13_q72
   m
   d)
   (L13_q73
   m
   d)
   (L13_q72
   m
   d)
   (L13_q73
   m
   d) &&
   wiB
   (L13_q74
   m
   d)
   (L13_q75
   m
   d)
   (L13_q74
   m
   d)
   (L13_q75
   m
   d)) &&
   true))))))))))))))))))))))))))))))))))))))))))))))))))))))))))))))))))))))))))))))))))))))))))))))))))))))))))))))))))))))))))))))))))))))))))))))

theorem L13_eq (a : Nat → Int) (n m : Nat) (c d : Nat → Nat → DV) : TK .nil 13 [.agg ((List.range 70).map fun i => iv (a i)), .d (.ro n 1 c), .d (.ro m 1 d)] = L13 a n m c d := by kernel_rfl


end Go.Proofs.Ytpaejfeojdoikaa

namespace Go.Proofs.Ytpaejfeojdoikaa
open Go.Sx
set_option maxRecDepth 100000

/-! ### Arguments that are numbers alone -/
def i64d (k : Int) : DV := .x (.int .i64 k)
def cntFs (g : TypeId → Option Nat) : List Field → Option Nat
  | [] => some 0
  | f :: fs => (g f.type).bind fun a => (cntFs g fs).map fun b => a + b
def cntI (P : Program) : Nat → TypeId → Option Nat
  | 0, _ => none
  | n + 1, t => match P.underlying t with
    | some (.int .i64) => some 1
    | some (.struct fs) => cntFs (cntI P n) fs.toList
    | some (.array m e) => (cntI P n e).map fun a => m * a
    | _ => none
def IntsOf (c : Nat) (ds : List DV) : Prop := ∃ ks : List Int, ks.length = c ∧ ds = ks.map i64d ∧ ∀ k ∈ ks, I64 k
theorem IntsOf.append {a b : Nat} {x y : List DV} (h : IntsOf a x) (k : IntsOf b y) : IntsOf (a + b) (x ++ y) := by
  obtain ⟨p, rfl, rfl, p3⟩ := h
  obtain ⟨q, rfl, rfl, q3⟩ := k
  exact ⟨p ++ q, by simp, by simp, fun k hk => (List.mem_append.1 hk).elim (p3 k) (q3 k)⟩
theorem wf_i64 {i : Int} (h : (Lit.int .i64 i).wf = true) : I64 i := by
  simp [Lit.wf, IntKind.min, IntKind.max, IntKind.signed, IntKind.bits] at h; exact ⟨by omega, by omega⟩
theorem okFs_ints {g : TypeId → List DV → Prop} {f : TypeId → Option Nat} (hg : ∀ t c ds, f t = some c → g t ds → IntsOf c ds) : ∀ {fs : List Field} {c : Nat} {ds : List DV}, cntFs f fs = some c → okFs g fs ds → IntsOf c ds
  | [], c, ds, h, k => by simp only [cntFs, Option.some.injEq] at h; subst h; obtain rfl := k; exact ⟨[], rfl, rfl, by simp⟩
  | a :: fs, c, ds, h, k => by
    simp only [cntFs, Option.bind_eq_some_iff, Option.map_eq_some_iff] at h
    obtain ⟨x, h1, y, h2, rfl⟩ := h
    obtain ⟨p, q, rfl, k1, k2⟩ := k
    exact (hg _ _ _ h1 k1).append (okFs_ints hg h2 k2)
theorem okAs_ints {g : List DV → Prop} {c : Nat} (hg : ∀ ds, g ds → IntsOf c ds) : ∀ {m : Nat} {ds : List DV}, okAs g m ds → IntsOf (m * c) ds
  | 0, ds, k => by obtain rfl := k; exact ⟨[], by simp, rfl, by simp⟩
  | m + 1, ds, k => by
    obtain ⟨p, q, rfl, k1, k2⟩ := k
    rw [show (m + 1) * c = c + m * c by rw [Nat.add_mul, Nat.one_mul, Nat.add_comm]]
    exact (hg _ k1).append (okAs_ints hg k2)
theorem okT_ints {P : Program} : ∀ {n : Nat} {t : TypeId} {c : Nat} {ds : List DV}, cntI P n t = some c → okT P n t ds → IntsOf c ds
  | 0, t, c, ds, h, k => by simp [cntI] at h
  | n + 1, t, c, ds, h, k => by
    unfold cntI at h
    unfold okT at k
    split at h
    · rename_i hu
      rw [hu] at k
      simp only [Option.some.injEq] at h; subst h
      obtain ⟨i, hi, rfl⟩ := k
      exact ⟨[i], rfl, rfl, fun k hk => by rw [List.mem_singleton.1 hk]; exact wf_i64 hi⟩
    · rename_i fs hu
      rw [hu] at k
      exact okFs_ints (fun t c ds => okT_ints) h k
    · rename_i m e hu
      rw [hu] at k
      rw [Option.map_eq_some_iff] at h
      obtain ⟨x, h1, rfl⟩ := h
      exact okAs_ints (fun ds => okT_ints h1) k
    · cases h

structure LawK (k : Nat) (ss : List SV) : Prop where
  ok : ∃ h, (TK h k ss).sat Try.prog (· = bv true)
theorem law_ctrK {k : Nat} {okA : List SV → Prop} (hf : (Try.prog.funcs[k]?).isSome = true) (hb : (fnOf Try.prog k).body.isSome = true) (h : ∀ ss, okA ss → LawK k ss) :
    ∃ c : Ctr, CtrOK Try.prog k c ∧ ∀ ss, okA ss → (c ss).ev (bv true) := by
  refine ⟨fun ss => .need (okA ss) (.ret (bv true)), ?_, fun ss hs => ⟨hs, rfl⟩⟩
  refine ctrOK_of CK_ok DK_ok (fn := fnOf Try.prog k) (body := bodyOf Try.prog k) (by
    unfold fnOf
    cases hk : Try.prog.funcs[k]? with
    | none => rw [hk] at hf; cases hf
    | some f => rfl) (by
    unfold bodyOf
    cases hk : (fnOf Try.prog k).body with
    | none => rw [hk] at hb; cases hb
    | some f => rfl) fun ss r hr => ?_
  obtain ⟨h1, rfl⟩ := hr
  obtain ⟨hint, h2⟩ := (h ss h1).ok
  exact ⟨200, hint, h2⟩

theorem law13 {a : Nat → Int} {n m : Nat} {c d : Nat → Nat → DV} (ha : ∀ i, i < 70 → I64 (a i)) (hc : Byt n c) (hd : Byt m d) : LawK 13 [.agg ((List.range 70).map fun i => iv (a i)), .d (.ro n 1 c), .d (.ro m 1 d)] := by
  refine ⟨.nil, ?_⟩
  rw [L13_eq]; unfold L13
  have f7 : fitsR (L13_q7 a) := mdQ_fits _ _
  have f8 : fitsR (L13_q8 a) := mdQ_fits _ _
  have f9 : fitsR (L13_q9 a) := mdQ_fits _ _
  have f10 : fitsR (L13_q10 a) := mdQ_fits _ _
  have f11 : fitsR (L13_q11 a) := mdQ_fits _ _
  have f12 : fitsR (L13_q12 a) := mdQ_fits _ _
  have f13 : fitsR (L13_q13 a) := mdQ_fits _ _
  have f14 : fitsR (L13_q14 a) := mdQ_fits _ _
  have f15 : fitsR (L13_q15 a) := mdQ_fits _ _
  have f16 : fitsR (L13_q16 a) := mdQ_fits _ _
  have f31 : fitsR (L13_q31 a) := mdQ_fits _ _
  have f32 : fitsR (L13_q32 a) := mdQ_fits _ _
  have f33 : fitsR (L13_q33 a) := mdQ_fits _ _
  have f18 : fitsR (L13_q18 n c) := linQ_fits hc 0
  have f19 : fitsR (L13_q19 n c) := linQ_fits hc 1
  have f20 : fitsR (L13_q20 n c) := linQ_fits hc 2
  have f21 : fitsR (L13_q21 n c) := linQ_fits hc 3
  have f64 : fitsR (L13_q64 m d) := (loQ_sm hd 0).fits (by decide) (by decide)
  have f65 : fitsR (L13_q65 m d) := (hiQ_sm hd 0).fits (by decide) (by decide)
  have f66 : fitsR (L13_q66 m d) := (loQ_sm hd 1).fits (by decide) (by decide)
  have f67 : fitsR (L13_q67 m d) := (hiQ_sm hd 1).fits (by decide) (by decide)
  have f68 : fitsR (L13_q68 m d) := (loQ_sm hd 2).fits (by decide) (by decide)
  have f69 : fitsR (L13_q69 m d) := (hiQ_sm hd 2).fits (by decide) (by decide)
  have e34 : L13_q34 a = L13_q13 a := ratOf_rat _
  have e35 : L13_q35 a = L13_q14 a := ratOf_rat _
  have e36 : L13_q36 a = L13_q15 a := ratOf_rat _
  have e37 : L13_q37 a = L13_q16 a := ratOf_rat _
  have e38 : L13_q38 a = L13_q31 a := ratOf_rat _
  have e39 : L13_q39 a = L13_q32 a := ratOf_rat _
  have e40 : L13_q40 a = L13_q33 a := ratOf_rat _
  have e43 : L13_q43 a = L13_q7 a := ratOf_rat _
  have e44 : L13_q44 a = L13_q8 a := ratOf_rat _
  have e47 : L13_q47 a = L13_q9 a := ratOf_rat _
  have e48 : L13_q48 a = L13_q10 a := ratOf_rat _
  have e51 : L13_q51 a = L13_q11 a := ratOf_rat _
  have e52 : L13_q52 a = L13_q12 a := ratOf_rat _
  have f45 : fitsR (L13_q45 a) := by unfold L13_q45; rw [e43, e44]; exact mn_fits f7 f8
  have f46 : fitsR (L13_q46 a) := by unfold L13_q46; rw [e43, e44]; exact mx_fits f7 f8
  have f49 : fitsR (L13_q49 a) := by unfold L13_q49; rw [e47, e48]; exact mn_fits f9 f10
  have f50 : fitsR (L13_q50 a) := by unfold L13_q50; rw [e47, e48]; exact mx_fits f9 f10
  have f53 : fitsR (L13_q53 a) := by unfold L13_q53; rw [e51, e52]; exact mn_fits f11 f12
  have f54 : fitsR (L13_q54 a) := by unfold L13_q54; rw [e51, e52]; exact mx_fits f11 f12
  have e55 : L13_q55 a = L13_q45 a := ratOf_rat _
  have e56 : L13_q56 a = L13_q46 a := ratOf_rat _
  have e57 : L13_q57 a = L13_q49 a := ratOf_rat _
  have e58 : L13_q58 a = L13_q50 a := ratOf_rat _
  have e59 : L13_q59 a = L13_q53 a := ratOf_rat _
  have e60 : L13_q60 a = L13_q54 a := ratOf_rat _
  have e70 : L13_q70 m d = L13_q64 m d := ratOf_rat _
  have e71 : L13_q71 m d = L13_q65 m d := ratOf_rat _
  have e72 : L13_q72 m d = L13_q66 m d := ratOf_rat _
  have e73 : L13_q73 m d = L13_q67 m d := ratOf_rat _
  have e74 : L13_q74 m d = L13_q68 m d := ratOf_rat _
  have e75 : L13_q75 m d = L13_q69 m d := ratOf_rat _
  have f103 : fitsR (L13_q103 a m d) := by unfold L13_q103; rw [e55, e70]; exact mn_fits f45 f64
  have f104 : fitsR (L13_q104 a m d) := by unfold L13_q104; rw [e56, e71]; exact mx_fits f46 f65
  have v7 := VF.of f7
  have v8 := VF.of f8
  have v9 := VF.of f9
  have v10 := VF.of f10
  have v11 := VF.of f11
  have v12 := VF.of f12
  have v13 := VF.of f13
  have v14 := VF.of f14
  have v15 := VF.of f15
  have v16 := VF.of f16
  have v31 := VF.of f31
  have v32 := VF.of f32
  have v33 := VF.of f33
  have v18 := VF.of f18
  have v19 := VF.of f19
  have v20 := VF.of f20
  have v21 := VF.of f21
  have v64 := VF.of f64
  have v65 := VF.of f65
  have v66 := VF.of f66
  have v67 := VF.of f67
  have v68 := VF.of f68
  have v69 := VF.of f69
  have v45 := VF.of f45
  have v46 := VF.of f46
  have v49 := VF.of f49
  have v50 := VF.of f50
  have v53 := VF.of f53
  have v54 := VF.of f54
  have v103 := VF.of f103
  have v104 := VF.of f104
  have hrow : ∀ (i : Nat), i < 3 → VRow (cellI (L13_q30 a n c) i) ∧ ∀ (j : Nat), j < 8 → L13_q30 a n c i j = DV.x (Value.int IntKind.i64 (cellI (L13_q30 a n c) i j)) := by
    intro i hi
    have h0 : VRow (cellI (L13_q30 a n c) 0) := ⟨v13, v14, v15, v16⟩
    have h1 : VRow (cellI (L13_q30 a n c) 1) := ⟨v18, v19, v20, v21⟩
    have h2 : VRow (cellI (L13_q30 a n c) 2) := ⟨v13, v14, v15, v16⟩
    match i, hi with
    | 0, _ =>
      refine ⟨h0, fun j hj => ?_⟩
      match j, hj with
      | 0, _ => rfl
      | 1, _ => rfl
      | 2, _ => rfl
      | 3, _ => rfl
      | 4, _ => rfl
      | 5, _ => rfl
      | 6, _ => rfl
      | 7, _ => rfl
    | 1, _ =>
      refine ⟨h1, fun j hj => ?_⟩
      match j, hj with
      | 0, _ => rfl
      | 1, _ => rfl
      | 2, _ => rfl
      | 3, _ => rfl
      | 4, _ => rfl
      | 5, _ => rfl
      | 6, _ => rfl
      | 7, _ => rfl
    | 2, _ =>
      refine ⟨h2, fun j hj => ?_⟩
      match j, hj with
      | 0, _ => rfl
      | 1, _ => rfl
      | 2, _ => rfl
      | 3, _ => rfl
      | 4, _ => rfl
      | 5, _ => rfl
      | 6, _ => rfl
      | 7, _ => rfl
  have l0 : VL (L13_q13 a).num (L13_q13 a).den (L13_q14 a).num (L13_q14 a).den (L13_q15 a).num (L13_q15 a).den (L13_q16 a).num (L13_q16 a).den := ⟨v13, v14, v15, v16⟩
  have l1 : VL (L13_q18 n c).num (L13_q18 n c).den (L13_q19 n c).num (L13_q19 n c).den (L13_q20 n c).num (L13_q20 n c).den (L13_q21 n c).num (L13_q21 n c).den := ⟨v18, v19, v20, v21⟩
  have b0 : VB6 (L13_q45 a).num (L13_q45 a).den (L13_q46 a).num (L13_q46 a).den (L13_q49 a).num (L13_q49 a).den (L13_q50 a).num (L13_q50 a).den (L13_q53 a).num (L13_q53 a).den (L13_q54 a).num (L13_q54 a).den := ⟨v45, v46, v49, v50, v53, v54⟩
  have b1 : VB6 (L13_q64 m d).num (L13_q64 m d).den (L13_q65 m d).num (L13_q65 m d).den (L13_q66 m d).num (L13_q66 m d).den (L13_q67 m d).num (L13_q67 m d).den (L13_q68 m d).num (L13_q68 m d).den (L13_q69 m d).num (L13_q69 m d).den := ⟨v64, v65, v66, v67, v68, v69⟩
  have vb0 : VBox (L13_q13 a).num (L13_q13 a).den (L13_q14 a).num (L13_q14 a).den (L13_q15 a).num (L13_q15 a).den (L13_q16 a).num (L13_q16 a).den (L13_q45 a).num (L13_q45 a).den (L13_q46 a).num (L13_q46 a).den (L13_q49 a).num (L13_q49 a).den (L13_q50 a).num (L13_q50 a).den (L13_q53 a).num (L13_q53 a).den (L13_q54 a).num (L13_q54 a).den := ⟨v13, v14, v15, v16, v45, v46, v49, v50, v53, v54⟩
  have vb1 : VBox (L13_q13 a).num (L13_q13 a).den (L13_q14 a).num (L13_q14 a).den (L13_q15 a).num (L13_q15 a).den (L13_q16 a).num (L13_q16 a).den (L13_q64 m d).num (L13_q64 m d).den (L13_q65 m d).num (L13_q65 m d).den (L13_q66 m d).num (L13_q66 m d).den (L13_q67 m d).num (L13_q67 m d).den (L13_q68 m d).num (L13_q68 m d).den (L13_q69 m d).num (L13_q69 m d).den := ⟨v13, v14, v15, v16, v64, v65, v66, v67, v68, v69⟩
  have vb2 : VBox (L13_q18 n c).num (L13_q18 n c).den (L13_q19 n c).num (L13_q19 n c).den (L13_q20 n c).num (L13_q20 n c).den (L13_q21 n c).num (L13_q21 n c).den (L13_q64 m d).num (L13_q64 m d).den (L13_q65 m d).num (L13_q65 m d).den (L13_q66 m d).num (L13_q66 m d).den (L13_q67 m d).num (L13_q67 m d).den (L13_q68 m d).num (L13_q68 m d).den (L13_q69 m d).num (L13_q69 m d).den := ⟨v18, v19, v20, v21, v64, v65, v66, v67, v68, v69⟩
  have hw : wiB (L13_q70 m d) (L13_q71 m d) (L13_q70 m d) (L13_q71 m d) = true := by rw [e70, e71]; exact wiB_of Rat.le_refl (loQ_le 0) (loQ_le 0) Rat.le_refl
  have hw1 : wiB (L13_q72 m d) (L13_q73 m d) (L13_q72 m d) (L13_q73 m d) = true := by rw [e72, e73]; exact wiB_of Rat.le_refl (loQ_le 1) (loQ_le 1) Rat.le_refl
  have hw2 : wiB (L13_q74 m d) (L13_q75 m d) (L13_q74 m d) (L13_q75 m d) = true := by rw [e74, e75]; exact wiB_of Rat.le_refl (loQ_le 2) (loQ_le 2) Rat.le_refl
  have i40 := ha 40 (by decide)
  have i41 := ha 41 (by decide)
  have i42 := ha 42 (by decide)
  have i43 := ha 43 (by decide)
  have i44 := ha 44 (by decide)
  have i45 := ha 45 (by decide)
  have i46 := ha 46 (by decide)
  have i47 := ha 47 (by decide)
  have i48 := ha 48 (by decide)
  have i49 := ha 49 (by decide)
  have i50 := ha 50 (by decide)
  have i51 := ha 51 (by decide)
  have i52 := ha 52 (by decide)
  have i53 := ha 53 (by decide)
  have i54 := ha 54 (by decide)
  have i55 := ha 55 (by decide)
  have i56 := ha 56 (by decide)
  have i57 := ha 57 (by decide)
  have i58 := ha 58 (by decide)
  have i59 := ha 59 (by decide)
  have i60 := ha 60 (by decide)
  have i61 := ha 61 (by decide)
  have i62 := ha 62 (by decide)
  have i63 := ha 63 (by decide)
  simp only [Int.reduceLE, Int.reduceLT, Nat.reduceLT, Nat.reduceLeDiff, Int.reduceEq, Int.le_refl, ne_eq, not_false_eq_true, Int.reduceToNat, Nat.zero_lt_succ, Nat.le_refl, List.length_cons, List.length_nil, Nat.reduceAdd, L13_q42, L13_q62, L13_q77, L13_q83, L13_q89, L13_q102, L13_q105, L13_q107, L13_q110, beq_self_eq_true, Bool.not_true, Bool.or_false, Bool.true_and, Bool.and_true, hw, hw1, hw2, sat_need, sat_ite, sat_ret, bv_inj, reduceCtorEq, false_imp_iff, true_imp_iff, true_and, and_true, forall_const, or_true, hc, hd, l0, l1, b0, b1, vb0, vb1, vb2, and_self, i40, i41, i42, i43, i44, i45, i46, i47, i48, i49, i50, i51, i52, i53, i54, i55, i56, i57, i58, i59, i60, i61, i62, i63, v7, v8, v9, v10, v11, v12, v13, v14, v15, v16, v31, v32, v33, v18, v19, v20, v21, v64, v65, v66, v67, v68, v69, v45, v46, v49, v50, v53, v54, v103, v104]
  refine ⟨⟨i40, i41⟩, ⟨i42, i43⟩, ⟨i44, i45⟩, ⟨i46, i47⟩, ⟨i48, i49⟩, ⟨i50, i51⟩, ⟨i52, i53⟩, ⟨i54, i55⟩, ⟨i56, i57⟩, ⟨i58, i59⟩, ⟨i60, i61⟩, ⟨i62, i63⟩, ⟨i41, i42⟩, hrow, hrow, ?_⟩
  simp

theorem linearMatchesReference_ok : ∃ c : Ctr, CtrOK Try.prog 13 c ∧ ∀ ss, okArgs Try.prog 6 [139, 22, 22] ss → (c ss).ev (bv true) := by
  refine law_ctrK (by kernel_rfl) (by kernel_rfl) fun ss h => ?_
  obtain ⟨d1, _, rfl, h1, d2, _, rfl, h2, d3, _, rfl, h3, rfl⟩ := h
  obtain ⟨n, c, hc, rfl⟩ := okBytes h2
  obtain ⟨m, d, hd, rfl⟩ := okBytes h3
  obtain ⟨ks, e1, rfl, e3⟩ := okT_ints (c := 70) (by kernel_rfl) h1
  have := law13 (a := fun i => ks.getD i 0) (fun i hi => e3 _ (by rw [List.getD_eq_getElem?_getD, List.getElem?_eq_getElem (by omega)]; exact List.getElem_mem _)) hc hd
  have e : ((List.range 70).map fun i => iv (ks.getD i 0)) = ks.map iv := by
    refine List.ext_getElem (by simp [e1]) fun i h1 h2 => ?_
    simp only [List.getElem_map, List.getElem_range, List.getD_eq_getElem?_getD]
    rw [List.getElem?_eq_getElem (by simpa using h2)]; rfl
  rw [e] at this
  simpa [svT, Try.underlying22, Try.underlying139, i64d, Function.comp_def, show iv = fun x => SV.d (DV.x (Value.int IntKind.i64 x)) from rfl] using this

end Go.Proofs.Ytpaejfeojdoikaa

namespace Go.Proofs.Ytpaejfeojdoikaa
open Go.ChangeShapes Go.WideShapes Go.ChangeAt Go.RowKit Go.Sx

theorem own : ownKnob Try.prog.godebug = none := by kernel_rfl
theorem laidOut : laidOutB Try.prog = true := by kernel_rfl

set_option maxRecDepth 100000 in
theorem lifted (os : Os) (started : os.Started) (H : Type) (enc : TypeId × Value → H) :
    ReturnsInHanded {} Try.checked os 13 .any (Rows.linearMatchesReferenceSpec.pre6 enc Try.prog Try.f13 Rows.linearMatchesReferenceRow.domain false) (Rows.linearMatchesReferenceSpec.post enc Try.prog Try.f13 false true false false) := by
  refine returnsInHanded_of_change (C := Try.checked) own started (by kernel_rfl) Try.func13
    (ChangeSpec.witness6 (enc := enc) (C := Try.checked) false ⟨#[], #[.agg #[.int .i64 0, .int .i64 0, .int .i64 0, .int .i64 0, .int .i64 0, .int .i64 0, .int .i64 0, .int .i64 0, .int .i64 0, .int .i64 0, .int .i64 0, .int .i64 0, .int .i64 0, .int .i64 0, .int .i64 0, .int .i64 0, .int .i64 0, .int .i64 0, .int .i64 0, .int .i64 0, .int .i64 0, .int .i64 0, .int .i64 0, .int .i64 0, .int .i64 0, .int .i64 0, .int .i64 0, .int .i64 0, .int .i64 0, .int .i64 0, .int .i64 0, .int .i64 0, .int .i64 0, .int .i64 0, .int .i64 0, .int .i64 0, .int .i64 0, .int .i64 0, .int .i64 0, .int .i64 0, .int .i64 0, .int .i64 0, .int .i64 0, .int .i64 0, .int .i64 0, .int .i64 0, .int .i64 0, .int .i64 0, .int .i64 0, .int .i64 0, .int .i64 0, .int .i64 0, .int .i64 0, .int .i64 0, .int .i64 0, .int .i64 0, .int .i64 0, .int .i64 0, .int .i64 0, .int .i64 0, .int .i64 0, .int .i64 0, .int .i64 0, .int .i64 0, .int .i64 0, .int .i64 0, .int .i64 0, .int .i64 0, .int .i64 0, .int .i64 0], .slice none 0 0, .slice none 0 0], []⟩ 8 (by kernel_rfl) (by kernel_rfl) (by kernel_rfl) (by kernel_rfl)) ?_
  intro W base args ds gs before hval0 hW hcnd _
  have hval : ∀ (j : Nat) t v, Try.f13.params[j]? = some t → args[j]? = some v → Value.okWide Try.prog W .any base t v := hval0
  have hW' := hW
  obtain ⟨p, q, hA0, hV, rfl, hfz, hnd⟩ := hW
  have hA : DataW.TrodAll enc Try.prog W 0 (fun _ => true) true Try.f13.params.toList args.toList ds p := hA0
  rw [Try.params13] at hA hval
  obtain ⟨rfl, rfl⟩ := trodVars_none hV
  obtain ⟨v0, vs0, d0, ds0, p0, q0, hargs, rfl, e0, h0, r0⟩ := trodAll_cons hA
  obtain ⟨v1, vs1, d1, ds1, p1, q1, e1_1, rfl, e2_1, h1, r1⟩ := trodAll_cons r0
  obtain ⟨v2, vs2, d2, ds2, p2, q2, e1_2, rfl, e2_2, h2, r2⟩ := trodAll_cons r1
  obtain ⟨e3, rfl, e4⟩ := trodAll_nil r2
  obtain ⟨c, hc, hev⟩ := linearMatchesReference_ok
  have hlt := trodAll_lt hA
  obtain ⟨ss, o1, o2, o3⟩ := open_args (F := fun b => ∃ x ∈ p, x.block = b) (n := 6) (r := .any) (base := base) (by kernel_rfl) hA (fun j t v a b => hval j t v (by simpa using a) (by simpa using b)) (fun q hq => ⟨q, hq, rfl⟩)
  refine (law_of hc (F := fun b => ∃ x ∈ p, x.block = b) (fun b ⟨x, hx, e⟩ => e ▸ hlt x hx) (ss := ss) ⟨by simpa using o2, fun i hi => by simpa [List.getD, Array.getD_eq_getD_getElem?] using o3 i hi⟩ (hev ss o1)).mono fun e W' ⟨he, bel⟩ => ?_
  subst he
  have hback := trodAll_below laidOut bel (by kernel_rfl) hA
  exact ⟨_, rfl, _, _, _, [], _, [], hW', trodAll_mk1 (shut_bool Try.underlying4 _), hback, rfl, bel.frame _, fun h => by cases h⟩

theorem over : Rows.linearMatchesReferenceRow.holds Try.pinned (OpenSpec.ofChange Rows.linearMatchesReferenceSpec) :=
  OpenClaim.holds_of_wide 13 Try.f13 rfl rfl rfl rfl rfl rfl rfl ⟨rfl, rfl, rfl, rfl, rfl⟩ rfl rfl rfl rfl rfl (by kernel_rfl) Try.func13 (by kernel_rfl)
    (of_decide_eq_true (by kernel_rfl)) (by unfold Func.isWrapper; first | (rw [if_pos (by decide +kernel)]; kernel_rfl) | (rw [if_neg (by decide +kernel)]; exact ⟨rfl, rfl⟩))
    (fun os started H enc _ => lifted os started H enc)

theorem linearMatchesReference_holds : Rows.LinearMatchesReferenceSaid := over
#print axioms linearMatchesReference_holds
end Go.Proofs.Ytpaejfeojdoikaa

