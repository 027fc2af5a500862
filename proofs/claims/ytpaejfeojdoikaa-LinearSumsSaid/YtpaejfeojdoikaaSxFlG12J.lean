/- Part of a proof of the given statements of this seat (SxFlWx, SxFlG12): no conditions beyond those typed here. -/
import Derived.Test.YtpaejfeojdoikaaSy10
import Derived.Test.YtpaejfeojdoikaaRows
import Derived.Test.YtpaejfeojdoikaaChecked
set_option linter.unusedVariables false
set_option linter.unusedSimpArgs false

namespace Go.Proofs.Ytpaejfeojdoikaa
open Go.Sx
set_option maxRecDepth 100000

theorem lv_add {k t v a k' t' v' a' p q r : Rat} : lv (k + k') (t + t') (v + v') (a + a') p q r = lv k t v a p q r + lv k' t' v' a' p q r := by
  unfold lv; rw [Rat.add_mul, Rat.add_mul, Rat.add_mul]; grind

theorem law12 {n m : Nat} {c d : Nat → Nat → DV} (hc : Byt n c) (hd : Byt m d) {b0 b1 b2 b3 b4 b5 b6 b7 b8 b9 b10 b11 b12 b13 b14 b15 : Int} (g : ∀ k ∈ [b0, b1, b2, b3, b4, b5, b6, b7, b8, b9, b10, b11, b12, b13, b14, b15], 0 ≤ k ∧ k < 256) :
    LawI 12 [.d (.ro n 1 c), .d (.ro m 1 d), .agg [u8 b0, u8 b1, u8 b2, u8 b3, u8 b4, u8 b5, u8 b6, u8 b7, u8 b8, u8 b9, u8 b10, u8 b11, u8 b12, u8 b13, u8 b14, u8 b15]] := by
  refine ⟨.nil, ?_⟩
  rw [L12_eq]; unfold L12
  have hb : Byt 12 (L12_q1 b0 b1 b2 b3 b4 b5 b6 b7 b8 b9 b10 b11 b12 b13 b14 b15) := by
    refine ⟨by decide, fun i hi => ?_⟩
    match i, hi with
    | 0, _ => exact ⟨b0, rfl, g _ (by simp)⟩
    | 1, _ => exact ⟨b1, rfl, g _ (by simp)⟩
    | 2, _ => exact ⟨b2, rfl, g _ (by simp)⟩
    | 3, _ => exact ⟨b3, rfl, g _ (by simp)⟩
    | 4, _ => exact ⟨b4, rfl, g _ (by simp)⟩
    | 5, _ => exact ⟨b5, rfl, g _ (by simp)⟩
    | 6, _ => exact ⟨b6, rfl, g _ (by simp)⟩
    | 7, _ => exact ⟨b7, rfl, g _ (by simp)⟩
    | 8, _ => exact ⟨b8, rfl, g _ (by simp)⟩
    | 9, _ => exact ⟨b9, rfl, g _ (by simp)⟩
    | 10, _ => exact ⟨b10, rfl, g _ (by simp)⟩
    | 11, _ => exact ⟨b11, rfl, g _ (by simp)⟩
  have g12 : 0 ≤ b12 ∧ b12 < 256 := g _ (by simp)
  have g13 : 0 ≤ b13 ∧ b13 < 256 := g _ (by simp)
  have g14 : 0 ≤ b14 ∧ b14 < 256 := g _ (by simp)
  have e1 : L12_q2 c = intCell c := rfl
  have e6 : L12_q7 d = intCell d := rfl
  have e12 : L12_q12 b0 b1 b2 b3 b4 b5 b6 b7 b8 b9 b10 b11 b12 b13 b14 b15 = intCell (L12_q1 b0 b1 b2 b3 b4 b5 b6 b7 b8 b9 b10 b11 b12 b13 b14 b15) := rfl
  have sK := linQ_sm hc 0
  have sT := linQ_sm hc 1
  have sV := linQ_sm hc 2
  have sA := linQ_sm hc 3
  have tK := linQ_sm hd 0
  have tT := linQ_sm hd 1
  have tV := linQ_sm hd 2
  have tA := linQ_sm hd 3
  have sl0 := loQ_sm hb 0
  have sl1 := loQ_sm hb 1
  have sl2 := loQ_sm hb 2
  have sh0 := hiQ_sm hb 0
  have sh1 := hiQ_sm hb 1
  have sh2 := hiQ_sm hb 2
  have o0 := loQ_le (n := 12) (c := intCell (L12_q1 b0 b1 b2 b3 b4 b5 b6 b7 b8 b9 b10 b11 b12 b13 b14 b15)) 0
  have o1 := loQ_le (n := 12) (c := intCell (L12_q1 b0 b1 b2 b3 b4 b5 b6 b7 b8 b9 b10 b11 b12 b13 b14 b15)) 1
  have o2 := loQ_le (n := 12) (c := intCell (L12_q1 b0 b1 b2 b3 b4 b5 b6 b7 b8 b9 b10 b11 b12 b13 b14 b15)) 2
  have hsum : sumR 2 (L12_q71 n m c d) = addO (linQ n (intCell c) 0) (linQ n (intCell c) 1) (linQ n (intCell c) 2) (linQ n (intCell c) 3) (linQ m (intCell d) 0) (linQ m (intCell d) 1) (linQ m (intCell d) 2) (linQ m (intCell d) 3) := by
    show addO (ratOf (linQ n (intCell c) 0).num (linQ n (intCell c) 0).den) (ratOf (linQ n (intCell c) 1).num (linQ n (intCell c) 1).den) (ratOf (linQ n (intCell c) 2).num (linQ n (intCell c) 2).den) (ratOf (linQ n (intCell c) 3).num (linQ n (intCell c) 3).den)
      (ratOf (linQ m (intCell d) 0).num (linQ m (intCell d) 0).den) (ratOf (linQ m (intCell d) 1).num (linQ m (intCell d) 1).den) (ratOf (linQ m (intCell d) 2).num (linQ m (intCell d) 2).den) (ratOf (linQ m (intCell d) 3).num (linQ m (intCell d) 3).den) = _
    simp only [ratOf_rat]
  have hsum2 : sumR 2 (L12_q76 n m c d) = addO (linQ n (intCell c) 0) (linQ n (intCell c) 1) (linQ n (intCell c) 2) (linQ n (intCell c) 3) (linQ m (intCell d) 0) (linQ m (intCell d) 1) (linQ m (intCell d) 2) (linQ m (intCell d) 3) := by
    show addO (ratOf (linQ n (intCell c) 0).num (linQ n (intCell c) 0).den) (ratOf (linQ n (intCell c) 1).num (linQ n (intCell c) 1).den) (ratOf (linQ n (intCell c) 2).num (linQ n (intCell c) 2).den) (ratOf (linQ n (intCell c) 3).num (linQ n (intCell c) 3).den)
      (ratOf (linQ m (intCell d) 0).num (linQ m (intCell d) 0).den) (ratOf (linQ m (intCell d) 1).num (linQ m (intCell d) 1).den) (ratOf (linQ m (intCell d) 2).num (linQ m (intCell d) 2).den) (ratOf (linQ m (intCell d) 3).num (linQ m (intCell d) 3).den) = _
    simp only [ratOf_rat]
  have hrow : ∀ (i : Nat), i < 2 → VRow (cellI (L12_q71 n m c d) i) ∧ ∀ (j : Nat), j < 8 → L12_q71 n m c d i j = DV.x (Value.int IntKind.i64 (cellI (L12_q71 n m c d) i j)) := by
    intro i hi
    match i, hi with
    | 0, _ =>
      refine ⟨⟨sK.cf.vf, sT.cf.vf, sV.cf.vf, sA.cf.vf⟩, fun j hj => ?_⟩
      match j, hj with
      | 0, _ => rfl
      | 1, _ => rfl
      | 2, _ => rfl
      | 3, _ => rfl
      | 4, _ => rfl
      | 5, _ => rfl
      | 6, _ => rfl
      | 7, _ => rfl
    | 1, _ =>
      refine ⟨⟨tK.cf.vf, tT.cf.vf, tV.cf.vf, tA.cf.vf⟩, fun j hj => ?_⟩
      match j, hj with
      | 0, _ => rfl
      | 1, _ => rfl
      | 2, _ => rfl
      | 3, _ => rfl
      | 4, _ => rfl
      | 5, _ => rfl
      | 6, _ => rfl
      | 7, _ => rfl
  simp only [L12_q3, L12_q4, L12_q5, L12_q6, L12_q8, L12_q9, L12_q10, L12_q11, L12_q13, L12_q14, L12_q15, L12_q16, L12_q17, L12_q18, L12_q19, L12_q20, L12_q21, L12_q22, L12_q23, L12_q24, L12_q25, L12_q26, L12_q27, L12_q28, L12_q29, L12_q30, L12_q31, L12_q32, L12_q33, L12_q34, L12_q35, L12_q36, L12_q37, L12_q38, L12_q39, L12_q40, L12_q41, L12_q42, L12_q43, L12_q44, L12_q45, L12_q46, L12_q47, L12_q48, L12_q49, L12_q50, L12_q51, L12_q52, L12_q53, L12_q54, L12_q55, L12_q56, L12_q57, L12_q58, L12_q59, L12_q60, L12_q61, L12_q62, L12_q63, L12_q64, L12_q65, L12_q66, L12_q67, L12_q68, L12_q69, L12_q70, L12_q72, L12_q73, L12_q74, L12_q75, L12_q77, L12_q78, L12_q79, L12_q80, L12_q81, L12_q82, L12_q83, L12_q84, L12_q85, L12_q86, L12_q87, e1, e6, e12, ratOf_rat]
  generalize linQ n (intCell c) 0 = K at *
  generalize linQ n (intCell c) 1 = T at *
  generalize linQ n (intCell c) 2 = V at *
  generalize linQ n (intCell c) 3 = A at *
  generalize linQ m (intCell d) 0 = K' at *
  generalize linQ m (intCell d) 1 = T' at *
  generalize linQ m (intCell d) 2 = V' at *
  generalize linQ m (intCell d) 3 = A' at *
  generalize loQ 12 (intCell (L12_q1 b0 b1 b2 b3 b4 b5 b6 b7 b8 b9 b10 b11 b12 b13 b14 b15)) 0 = l0 at *
  generalize loQ 12 (intCell (L12_q1 b0 b1 b2 b3 b4 b5 b6 b7 b8 b9 b10 b11 b12 b13 b14 b15)) 1 = l1 at *
  generalize loQ 12 (intCell (L12_q1 b0 b1 b2 b3 b4 b5 b6 b7 b8 b9 b10 b11 b12 b13 b14 b15)) 2 = l2 at *
  generalize hiQ 12 (intCell (L12_q1 b0 b1 b2 b3 b4 b5 b6 b7 b8 b9 b10 b11 b12 b13 b14 b15)) 0 = h0 at *
  generalize hiQ 12 (intCell (L12_q1 b0 b1 b2 b3 b4 b5 b6 b7 b8 b9 b10 b11 b12 b13 b14 b15)) 1 = h1 at *
  generalize hiQ 12 (intCell (L12_q1 b0 b1 b2 b3 b4 b5 b6 b7 b8 b9 b10 b11 b12 b13 b14 b15)) 2 = h2 at *
  have B : BxQ l0 h0 l1 h1 l2 h2 := ⟨sl0.pt, sh0.pt, sl1.pt, sh1.pt, sl2.pt, sh2.pt, o0, o1, o2⟩
  have sm : ∀ {p q : Rat}, Sm 60 20 p → Sm 60 20 q → CfQ (p + q) := fun a b => (a.add b).le (by decide) (by decide) (by decide)
  have cK := sm sK tK; have cT := sm sT tT; have cV := sm sV tV; have cA := sm sA tA
  have hS : addO K T V A K' T' V' A' = some (K + K', T + T', V + V', A + A') := by
    unfold addO; rw [fit_of (CfQ.fits cK), fit_of (CfQ.fits cT), fit_of (CfQ.fits cV), fit_of (CfQ.fits cA)]; rfl
  have hS' : addO K' T' V' A' K T V A = some (K + K', T + T', V + V', A + A') := by
    rw [← hS]; unfold addO; rw [Rat.add_comm K', Rat.add_comm T', Rat.add_comm V', Rat.add_comm A']
  have hR := rg_val sK.cf sT.cf sV.cf sA.cf B
  have fR := rgV_fits sK.cf sT.cf sV.cf sA.cf B
  have oR := rgV_le (k := K) (t := T) (v := V) (a := A) B
  have hR' := rg_val tK.cf tT.cf tV.cf tA.cf B
  have fR' := rgV_fits tK.cf tT.cf tV.cf tA.cf B
  have oR' := rgV_le (k := K') (t := T') (v := V') (a := A') B
  have hR'' := rg_val cK cT cV cA B
  have fR'' := rgV_fits cK cT cV cA B
  have oR'' := rgV_le (k := K + K') (t := T + T') (v := V + V') (a := A + A') B
  have pp0 := btw_sm sl0 sh0 g12.1; have pp1 := btw_sm sl1 sh1 g13.1; have pp2 := btw_sm sl2 sh2 g14.1
  have aP := at_val sK.cf sT.cf sV.cf sA.cf pp0 pp1 pp2
  have fP := lv_fits sK.cf sT.cf sV.cf sA.cf pp0 pp1 pp2
  have aP' := at_val tK.cf tT.cf tV.cf tA.cf pp0 pp1 pp2
  have fP' := lv_fits tK.cf tT.cf tV.cf tA.cf pp0 pp1 pp2
  have aP'' := at_val cK cT cV cA pp0 pp1 pp2
  have fP'' := lv_fits cK cT cV cA pp0 pp1 pp2
  rw [lv_add] at aP'' fP''
  have inR : ∀ u, rgV K T V A l0 h0 l1 h1 l2 h2 false + rgV K' T' V' A' l0 h0 l1 h1 l2 h2 false ≤ rgV (K + K') (T + T') (V + V') (A + A') l0 h0 l1 h1 l2 h2 u ∧ rgV (K + K') (T + T') (V + V') (A + A') l0 h0 l1 h1 l2 h2 u ≤ rgV K T V A l0 h0 l1 h1 l2 h2 true + rgV K' T' V' A' l0 h0 l1 h1 l2 h2 true := fun u => by
    have i0 := crn_in (t := T + T') o0 u
    have i1 := crn_in (t := V + V') o1 u
    have i2 := crn_in (t := A + A') o2 u
    have x := lv_in (k := K) (t := T) (v := V) (a := A) i0.1 i0.2 i1.1 i1.2 i2.1 i2.2
    have y := lv_in (k := K') (t := T') (v := V') (a := A') i0.1 i0.2 i1.1 i1.2 i2.1 i2.2
    have e : rgV (K + K') (T + T') (V + V') (A + A') l0 h0 l1 h1 l2 h2 u = _ := lv_add
    rw [e]
    exact ⟨by grind, by grind⟩
  obtain ⟨u1, u2⟩ := inR false
  obtain ⟨u3, u4⟩ := inR true
  have rs : ∀ {k t v a : Rat}, CfQ k → CfQ t → CfQ v → CfQ a → ∀ u, Sm 1728000 144800 (rgV k t v a l0 h0 l1 h1 l2 h2 u) := fun a b c d u => (lv_sm a b c d (crn_sm B.a0 B.b0) (crn_sm B.a1 B.b1) (crn_sm B.a2 B.b2)).2.2
  have fl : ∀ u, fitsR (rgV K T V A l0 h0 l1 h1 l2 h2 u + rgV K' T' V' A' l0 h0 l1 h1 l2 h2 u) := fun u => ((rs sK.cf sT.cf sV.cf sA.cf u).add (rs tK.cf tT.cf tV.cf tA.cf u)).fits (by decide) (by decide)
  have hP : plsO (rgV K T V A l0 h0 l1 h1 l2 h2 false) (rgV K T V A l0 h0 l1 h1 l2 h2 true) (rgV K' T' V' A' l0 h0 l1 h1 l2 h2 false) (rgV K' T' V' A' l0 h0 l1 h1 l2 h2 true) = some (rgV K T V A l0 h0 l1 h1 l2 h2 false + rgV K' T' V' A' l0 h0 l1 h1 l2 h2 false, rgV K T V A l0 h0 l1 h1 l2 h2 true + rgV K' T' V' A' l0 h0 l1 h1 l2 h2 true) := by
    unfold plsO; rw [fit_of (fl false), fit_of (fl true)]; rfl
  have vm : ∀ {q : Rat}, CfQ q → vB q.num q.den = true := fun h => vB_of (CfQ.fits h)
  have vl : VL K.num K.den T.num T.den V.num V.den A.num A.den := ⟨sK.cf.vf, sT.cf.vf, sV.cf.vf, sA.cf.vf⟩
  have vl' : VL K'.num K'.den T'.num T'.den V'.num V'.den A'.num A'.den := ⟨tK.cf.vf, tT.cf.vf, tV.cf.vf, tA.cf.vf⟩
  have vb : VBox K.num K.den T.num T.den V.num V.den A.num A.den l0.num l0.den h0.num h0.den l1.num l1.den h1.num h1.den l2.num l2.den h2.num h2.den :=
    ⟨sK.cf.vf, sT.cf.vf, sV.cf.vf, sA.cf.vf, sl0.pt.vf, sh0.pt.vf, sl1.pt.vf, sh1.pt.vf, sl2.pt.vf, sh2.pt.vf⟩
  have vb' : VBox K'.num K'.den T'.num T'.den V'.num V'.den A'.num A'.den l0.num l0.den h0.num h0.den l1.num l1.den h1.num h1.den l2.num l2.den h2.num h2.den :=
    ⟨tK.cf.vf, tT.cf.vf, tV.cf.vf, tA.cf.vf, sl0.pt.vf, sh0.pt.vf, sl1.pt.vf, sh1.pt.vf, sl2.pt.vf, sh2.pt.vf⟩
  have vb'' : VBox (K + K').num (K + K').den (T + T').num (T + T').den (V + V').num (V + V').den (A + A').num (A + A').den l0.num l0.den h0.num h0.den l1.num l1.den h1.num h1.den l2.num l2.den h2.num h2.den :=
    ⟨cK.vf, cT.vf, cV.vf, cA.vf, sl0.pt.vf, sh0.pt.vf, sl1.pt.vf, sh1.pt.vf, sl2.pt.vf, sh2.pt.vf⟩
  have i0 : SInt l0.num l0.den h0.num h0.den := ⟨sl0.pt.vf, sh0.pt.vf, by rwa [ratOf_rat], by rwa [ratOf_rat]⟩
  have i1 : SInt l1.num l1.den h1.num h1.den := ⟨sl1.pt.vf, sh1.pt.vf, by rwa [ratOf_rat], by rwa [ratOf_rat]⟩
  have i2 : SInt l2.num l2.den h2.num h2.den := ⟨sl2.pt.vf, sh2.pt.vf, by rwa [ratOf_rat], by rwa [ratOf_rat]⟩
  have vp0 := PtQ.vf pp0; have vp1 := PtQ.vf pp1; have vp2 := PtQ.vf pp2
  have lsum : rgV K T V A l0 h0 l1 h1 l2 h2 false + rgV K' T' V' A' l0 h0 l1 h1 l2 h2 false ≤ rgV K T V A l0 h0 l1 h1 l2 h2 true + rgV K' T' V' A' l0 h0 l1 h1 l2 h2 true := by grind
  simp only [Int.reduceLE, Int.reduceLT, Nat.reduceLT, Nat.reduceLeDiff, Int.reduceEq, Int.le_refl, ne_eq, not_false_eq_true, Int.reduceToNat, Nat.zero_lt_succ, Nat.le_refl, List.length_cons, List.length_nil, Nat.reduceAdd, hsum, hsum2, hS, hS', hR, hR', hR'', aP, aP', aP'', hP, k0_some, k1_some, k2_some, k3_some, oE_some, oN_some, oD_some, lN_some, lD_some, hN_some, hD_some, zero_ne, zero_eq, ratOf_rat,
    vB_of (fR false), vB_of (fR true), vB_of (fR' false), vB_of (fR' true), vB_of (fR'' false), vB_of (fR'' true), vB_of fP, vB_of fP', vB_of fP'', vB_of (fl false), vB_of (fl true), vm cK, vm cT, vm cV, vm cA, feq2, rN_of fP'', rD_of fP'', rE_of fP'', hrow, hb,
    decide_eq_true oR, decide_eq_true oR', decide_eq_true oR'', decide_eq_true u1, decide_eq_true u2, decide_eq_true u3, decide_eq_true u4, decide_eq_true lsum,
    Bool.true_and, Bool.and_true, Bool.not_true, Bool.or_false, Bool.false_or, sat_need, sat_ite, sat_ret, bv_inj, reduceCtorEq, false_imp_iff, true_imp_iff, true_and, and_true, true_or, forall_const, vb, vb', vb'', vl, vl', i0, i1, i2, g12, g13, g14, vp0, vp1, vp2, sK.cf.vf, sT.cf.vf, sV.cf.vf, sA.cf.vf, tK.cf.vf, tT.cf.vf, tV.cf.vf, tA.cf.vf, cK.vf, cT.vf, cV.vf, cA.vf, VF.of (fR false), VF.of (fR true), VF.of (fR' false), VF.of (fR' true), VF.of (fR'' false), VF.of (fR'' true), VF.of (fl false), VF.of (fl true), VF.of fP, VF.of fP', VF.of fP'', hc, hd, and_self, beq_self_eq_true, decide_true, implies_true]
  exact hrow

theorem linearSums_ok : ∃ c : Ctr, CtrOK Try.prog 12 c ∧ ∀ ss, okArgs Try.prog 6 [22, 22, 131] ss → (c ss).ev (bv true) := by
  refine law_ctrI (by kernel_rfl) (by kernel_rfl) fun ss h => ?_
  obtain ⟨d1, _, rfl, h1, d2, _, rfl, h2, d3, _, rfl, h3, rfl⟩ := h
  obtain ⟨n, c, hc, rfl⟩ := okBytes h1
  obtain ⟨m, d, hd, rfl⟩ := okBytes h2
  obtain ⟨ks, e1, rfl, e3⟩ := okArr Try.underlying131 h3
  match ks, e1 with
  | [b0, b1, b2, b3, b4, b5, b6, b7, b8, b9, b10, b11, b12, b13, b14, b15], _ =>
    have := law12 hc hd e3
    simpa [svT, Try.underlying22, Try.underlying131, u8, u8d] using this

end Go.Proofs.Ytpaejfeojdoikaa

namespace Go.Proofs.Ytpaejfeojdoikaa
open Go.ChangeShapes Go.WideShapes Go.ChangeAt Go.RowKit Go.Sx

theorem own : ownKnob Try.prog.godebug = none := by kernel_rfl
theorem laidOut : laidOutB Try.prog = true := by kernel_rfl

set_option maxRecDepth 100000 in
theorem lifted (os : Os) (started : os.Started) (H : Type) (enc : TypeId × Value → H) :
    ReturnsInHanded {} Try.checked os 12 .any (Rows.linearSumsSpec.pre6 enc Try.prog Try.f12 Rows.linearSumsRow.domain false) (Rows.linearSumsSpec.post enc Try.prog Try.f12 false true false false) := by
  refine returnsInHanded_of_change (C := Try.checked) own started (by kernel_rfl) Try.func12
    (ChangeSpec.witness6 (enc := enc) (C := Try.checked) false ⟨#[], #[.slice none 0 0, .slice none 0 0, .agg #[.int .u8 0, .int .u8 0, .int .u8 0, .int .u8 0, .int .u8 0, .int .u8 0, .int .u8 0, .int .u8 0, .int .u8 0, .int .u8 0, .int .u8 0, .int .u8 0, .int .u8 0, .int .u8 0, .int .u8 0, .int .u8 0]], []⟩ 8 (by kernel_rfl) (by kernel_rfl) (by kernel_rfl) (by kernel_rfl)) ?_
  intro W base args ds gs before hval0 hW hcnd _
  have hval : ∀ (j : Nat) t v, Try.f12.params[j]? = some t → args[j]? = some v → Value.okWide Try.prog W .any base t v := hval0
  have hW' := hW
  obtain ⟨p, q, hA0, hV, rfl, hfz, hnd⟩ := hW
  have hA : DataW.TrodAll enc Try.prog W 0 (fun _ => true) true Try.f12.params.toList args.toList ds p := hA0
  rw [Try.params12] at hA hval
  obtain ⟨rfl, rfl⟩ := trodVars_none hV
  obtain ⟨v0, vs0, d0, ds0, p0, q0, hargs, rfl, e0, h0, r0⟩ := trodAll_cons hA
  obtain ⟨v1, vs1, d1, ds1, p1, q1, e1_1, rfl, e2_1, h1, r1⟩ := trodAll_cons r0
  obtain ⟨v2, vs2, d2, ds2, p2, q2, e1_2, rfl, e2_2, h2, r2⟩ := trodAll_cons r1
  obtain ⟨e3, rfl, e4⟩ := trodAll_nil r2
  obtain ⟨c, hc, hev⟩ := linearSums_ok
  have hlt := trodAll_lt hA
  obtain ⟨ss, o1, o2, o3⟩ := open_args (F := fun b => ∃ x ∈ p, x.block = b) (n := 6) (r := .any) (base := base) (by kernel_rfl) hA (fun j t v a b => hval j t v (by simpa using a) (by simpa using b)) (fun q hq => ⟨q, hq, rfl⟩)
  refine (law_of hc (F := fun b => ∃ x ∈ p, x.block = b) (fun b ⟨x, hx, e⟩ => e ▸ hlt x hx) (ss := ss) ⟨by simpa using o2, fun i hi => by simpa [List.getD, Array.getD_eq_getD_getElem?] using o3 i hi⟩ (hev ss o1)).mono fun e W' ⟨he, bel⟩ => ?_
  subst he
  have hback := trodAll_below laidOut bel (by kernel_rfl) hA
  exact ⟨_, rfl, _, _, _, [], _, [], hW', trodAll_mk1 (shut_bool Try.underlying4 _), hback, rfl, bel.frame _, fun h => by cases h⟩

theorem over : Rows.linearSumsRow.holds Try.pinned (OpenSpec.ofChange Rows.linearSumsSpec) :=
  OpenClaim.holds_of_wide 12 Try.f12 rfl rfl rfl rfl rfl rfl rfl ⟨rfl, rfl, rfl, rfl, rfl⟩ rfl rfl rfl rfl rfl (by kernel_rfl) Try.func12 (by kernel_rfl)
    (of_decide_eq_true (by kernel_rfl)) (by unfold Func.isWrapper; first | (rw [if_pos (by decide +kernel)]; kernel_rfl) | (rw [if_neg (by decide +kernel)]; exact ⟨rfl, rfl⟩))
    (fun os started H enc _ => lifted os started H enc)

theorem linearSums_holds : Rows.LinearSumsSaid := over
#print axioms linearSums_holds
end Go.Proofs.Ytpaejfeojdoikaa

