/- Part of a proof of the given statements of this seat (SxFlWs, SxFlWt, SxFlWu, SxFlWv, SxFlWw): no conditions beyond those typed here. -/
import Derived.Test.YtpaejfeojdoikaaSy09
set_option linter.unusedVariables false
set_option linter.unusedSimpArgs false

namespace Go.Proofs.Ytpaejfeojdoikaa
open Go.Sx
set_option maxRecDepth 100000

theorem wiB_of {a b c d : Rat} (h1 : c ≤ a) (h2 : a ≤ d) (h3 : c ≤ b) (h4 : b ≤ d) : wiB a b c d = true := by
  unfold wiB; rw [decide_eq_true h1, decide_eq_true h2, decide_eq_true h3, decide_eq_true h4]; rfl
theorem wiB_iff {a b c d : Rat} : wiB a b c d = true ↔ (c ≤ a ∧ a ≤ d) ∧ c ≤ b ∧ b ≤ d := by
  unfold wiB; simp only [Bool.and_eq_true, decide_eq_true_eq]

theorem law4 {n m : Nat} {c d : Nat → Nat → DV} (hc : Byt n c) (hd : Byt m d) {k0 k1 k2 k3 k4 k5 : Int} (g0 : 0 ≤ k0 ∧ k0 < 256) (g1 : 0 ≤ k1 ∧ k1 < 256) (g2 : 0 ≤ k2 ∧ k2 < 256)
    (g3 : 0 ≤ k3 ∧ k3 < 256) (g4 : 0 ≤ k4 ∧ k4 < 256) (g5 : 0 ≤ k5 ∧ k5 < 256) : LawF 4 [.d (.ro n 1 c), .d (.ro m 1 d), .agg [u8 k0, u8 k1, u8 k2, u8 k3, u8 k4, u8 k5]] := by
  refine ⟨.nil, ?_⟩
  rw [L4_eq]; unfold L4
  have e1 : L4_q8 c = intCell c := rfl
  have e6 : L4_q1 d = intCell d := rfl
  have sK := linQ_sm hc 0
  have sT := linQ_sm hc 1
  have sV := linQ_sm hc 2
  have sA := linQ_sm hc 3
  have sl0 := loQ_sm hd 0
  have sl1 := loQ_sm hd 1
  have sl2 := loQ_sm hd 2
  have sh0 := hiQ_sm hd 0
  have sh1 := hiQ_sm hd 1
  have sh2 := hiQ_sm hd 2
  have o0 := loQ_le (n := m) (c := intCell d) 0
  have o1 := loQ_le (n := m) (c := intCell d) 1
  have o2 := loQ_le (n := m) (c := intCell d) 2
  simp only [L4_q1, L4_q2, L4_q3, L4_q4, L4_q5, L4_q6, L4_q7, L4_q8, L4_q9, L4_q10, L4_q11, L4_q12, L4_q13, L4_q14, L4_q15, L4_q16, L4_q17, L4_q18, L4_q19, L4_q20, L4_q21, L4_q22, L4_q23, L4_q24, L4_q25, L4_q26, L4_q27, L4_q28, L4_q29, L4_q30, L4_q31, L4_q32, L4_q33, L4_q34, L4_q35, L4_q36, L4_q37, L4_q38, L4_q39, L4_q40, L4_q41, L4_q42, e1, e6, ratOf_rat]
  generalize linQ n (intCell c) 0 = K at *
  generalize linQ n (intCell c) 1 = T at *
  generalize linQ n (intCell c) 2 = V at *
  generalize linQ n (intCell c) 3 = A at *
  generalize loQ m (intCell d) 0 = l0 at *
  generalize loQ m (intCell d) 1 = l1 at *
  generalize loQ m (intCell d) 2 = l2 at *
  generalize hiQ m (intCell d) 0 = h0 at *
  generalize hiQ m (intCell d) 1 = h1 at *
  generalize hiQ m (intCell d) 2 = h2 at *
  obtain ⟨tl0, th0⟩ := ptL_sm sl0 sh0 g0.1 g3.1
  obtain ⟨tl1, th1⟩ := ptL_sm sl1 sh1 g1.1 g4.1
  obtain ⟨tl2, th2⟩ := ptL_sm sl2 sh2 g2.1 g5.1
  obtain ⟨pa0, pb0, pc0⟩ := ptL_in o0 g0.1 g3.1
  obtain ⟨pa1, pb1, pc1⟩ := ptL_in o1 g1.1 g4.1
  obtain ⟨pa2, pb2, pc2⟩ := ptL_in o2 g2.1 g5.1
  generalize ptL l0 h0 k0 k3 = m0 at *
  generalize ptL l1 h1 k1 k4 = m1 at *
  generalize ptL l2 h2 k2 k5 = m2 at *
  generalize ptH l0 h0 k0 k3 = n0 at *
  generalize ptH l1 h1 k1 k4 = n1 at *
  generalize ptH l2 h2 k2 k5 = n2 at *
  have B : BxQ l0 h0 l1 h1 l2 h2 := ⟨sl0.pt, sh0.pt, sl1.pt, sh1.pt, sl2.pt, sh2.pt, o0, o1, o2⟩
  have B' : BxQ m0 n0 m1 n1 m2 n2 := ⟨tl0, th0, tl1, th1, tl2, th2, pb0, pb1, pb2⟩
  have hR := rg_val sK.cf sT.cf sV.cf sA.cf B
  have fR := rgV_fits sK.cf sT.cf sV.cf sA.cf B
  have oR := rgV_le (k := K) (t := T) (v := V) (a := A) B
  have hR' := rg_val sK.cf sT.cf sV.cf sA.cf B'
  have fR' := rgV_fits sK.cf sT.cf sV.cf sA.cf B'
  have oR' := rgV_le (k := K) (t := T) (v := V) (a := A) B'
  have inR : ∀ u, rgV K T V A l0 h0 l1 h1 l2 h2 false ≤ rgV K T V A m0 n0 m1 n1 m2 n2 u ∧ rgV K T V A m0 n0 m1 n1 m2 n2 u ≤ rgV K T V A l0 h0 l1 h1 l2 h2 true := fun u => by
    have i0 := crn_in (t := T) pb0 u
    have i1 := crn_in (t := V) pb1 u
    have i2 := crn_in (t := A) pb2 u
    exact lv_in (Rat.le_trans pa0 i0.1) (Rat.le_trans i0.2 pc0) (Rat.le_trans pa1 i1.1) (Rat.le_trans i1.2 pc1) (Rat.le_trans pa2 i2.1) (Rat.le_trans i2.2 pc2)
  obtain ⟨u1, u2⟩ := inR false
  obtain ⟨u3, u4⟩ := inR true
  have vb : VBox K.num K.den T.num T.den V.num V.den A.num A.den l0.num l0.den h0.num h0.den l1.num l1.den h1.num h1.den l2.num l2.den h2.num h2.den :=
    ⟨sK.cf.vf, sT.cf.vf, sV.cf.vf, sA.cf.vf, sl0.pt.vf, sh0.pt.vf, sl1.pt.vf, sh1.pt.vf, sl2.pt.vf, sh2.pt.vf⟩
  have vb' : VBox K.num K.den T.num T.den V.num V.den A.num A.den m0.num m0.den n0.num n0.den m1.num m1.den n1.num n1.den m2.num m2.den n2.num n2.den :=
    ⟨sK.cf.vf, sT.cf.vf, sV.cf.vf, sA.cf.vf, tl0.vf, th0.vf, tl1.vf, th1.vf, tl2.vf, th2.vf⟩
  have v6 : VB6 l0.num l0.den h0.num h0.den l1.num l1.den h1.num h1.den l2.num l2.den h2.num h2.den := ⟨sl0.pt.vf, sh0.pt.vf, sl1.pt.vf, sh1.pt.vf, sl2.pt.vf, sh2.pt.vf⟩
  have v6' : VB6 m0.num m0.den n0.num n0.den m1.num m1.den n1.num n1.den m2.num m2.den n2.num n2.den := ⟨tl0.vf, th0.vf, tl1.vf, th1.vf, tl2.vf, th2.vf⟩
  have i0 : SInt l0.num l0.den h0.num h0.den := ⟨sl0.pt.vf, sh0.pt.vf, by rwa [ratOf_rat], by rwa [ratOf_rat]⟩
  have i1 : SInt l1.num l1.den h1.num h1.den := ⟨sl1.pt.vf, sh1.pt.vf, by rwa [ratOf_rat], by rwa [ratOf_rat]⟩
  have i2 : SInt l2.num l2.den h2.num h2.den := ⟨sl2.pt.vf, sh2.pt.vf, by rwa [ratOf_rat], by rwa [ratOf_rat]⟩
  have w0 := wiB_of pa0 (Rat.le_trans pb0 pc0) (Rat.le_trans pa0 pb0) pc0
  have w1 := wiB_of pa1 (Rat.le_trans pb1 pc1) (Rat.le_trans pa1 pb1) pc1
  have w2 := wiB_of pa2 (Rat.le_trans pb2 pc2) (Rat.le_trans pa2 pb2) pc2
  simp only [hR, hR', oE_some, oN_some, oD_some, lN_some, lD_some, hN_some, hD_some, zero_ne, zero_eq, ratOf_rat, vB_of (fR false), vB_of (fR true), vB_of (fR' false), vB_of (fR' true), feq2,
    decide_eq_true oR, decide_eq_true oR', decide_eq_true u1, decide_eq_true u2, decide_eq_true u3, decide_eq_true u4, w0, w1, w2,
    Bool.true_and, Bool.and_true, Bool.not_true, Bool.or_false, Bool.false_or, sat_need, sat_ite, sat_ret, bv_inj, reduceCtorEq, false_imp_iff, true_imp_iff, true_and, forall_const, vb, vb', v6, v6', i0, i1, i2, g0, g1, g2, g3, g4, g5, VF.of (fR false), VF.of (fR true), VF.of (fR' false), VF.of (fR' true), hc, hd, and_self]
  rw [beq_iff_eq, Bool.eq_iff_iff]
  simp only [Bool.and_eq_true, decide_eq_true_eq, wiB_iff]
  refine ⟨fun ⟨⟨⟨⟨a1, a2⟩, a3, a4⟩, ⟨b1, b2⟩, b3, b4⟩, ⟨c1, c2⟩, c3, c4⟩ => ?_, fun ⟨⟨a1, a2⟩, ⟨b1, b2⟩, c1, c2⟩ => ?_⟩
  · exact ⟨⟨Rat.le_antisymm a1 pa0, Rat.le_antisymm pc0 a4⟩, ⟨Rat.le_antisymm b1 pa1, Rat.le_antisymm pc1 b4⟩, Rat.le_antisymm c1 pa2, Rat.le_antisymm pc2 c4⟩
  · subst a1 a2 b1 b2 c1 c2
    exact ⟨⟨⟨⟨Rat.le_refl, o0⟩, o0, Rat.le_refl⟩, ⟨Rat.le_refl, o1⟩, o1, Rat.le_refl⟩, ⟨Rat.le_refl, o2⟩, o2, Rat.le_refl⟩

theorem linearInside_ok : ∃ c : Ctr, CtrOK Try.prog 4 c ∧ ∀ ss, okArgs Try.prog 6 [22, 22, 48] ss → (c ss).ev (bv true) := by
  refine law_ctrF (by kernel_rfl) (by kernel_rfl) fun ss h => ?_
  obtain ⟨d1, _, rfl, h1, d2, _, rfl, h2, d3, _, rfl, h3, rfl⟩ := h
  obtain ⟨n, c, hc, rfl⟩ := okBytes h1
  obtain ⟨m, d, hd, rfl⟩ := okBytes h2
  obtain ⟨ks, e1, rfl, e3⟩ := okArr Try.underlying48 h3
  match ks, e1 with
  | [k0, k1, k2, k3, k4, k5], _ =>
    have := law4 hc hd (e3 k0 (by simp)) (e3 k1 (by simp)) (e3 k2 (by simp)) (e3 k3 (by simp)) (e3 k4 (by simp)) (e3 k5 (by simp))
    simpa [svT, Try.underlying22, Try.underlying48, u8, u8d] using this

end Go.Proofs.Ytpaejfeojdoikaa

namespace Go.Proofs.Ytpaejfeojdoikaa
open Go.Sx
set_option maxRecDepth 100000

noncomputable def inlG (k : Nat) : Bool := k == 134 || k == 135 || k == 163
noncomputable def CG : Ctx := ctxN Try.prog manF inlG 200 .nil 6
theorem CG_ok : CtxOK Try.prog CG := ctxN_ok mixed manF_ok 6
noncomputable def DG : Dr := fun _ => drawn Try.prog CG
theorem DG_ok : DrOK Try.prog CG DG := drawn_ok CG_ok mixed
noncomputable def TG (h : Hint) (k : Nat) (args : List SV) : Tree SV := fnT Try.prog CG DG 200 (fnOf Try.prog k) (bodyOf Try.prog k) args h

def eachH : Nat → Hint
  | 0 => .u (.f .nil)
  | n + 1 => .u (.t (.br .nil (eachH n)))
noncomputable def LLa_q1 (a0 : Int) (a1 : Int) : Rat :=
  ratOf a0 a1
noncomputable def LLa_q2 (b0 : Int) (b1 : Int) : Rat :=
  ratOf b0 b1
noncomputable def LLa_q3 (a0 : Int) (a1 : Int) (b0 : Int) (b1 : Int) : Rat :=
  LLa_q1 a0 a1 + LLa_q2 b0 b1
noncomputable def LLa_q4 (a2 : Int) (a3 : Int) : Rat :=
  ratOf a2 a3
noncomputable def LLa_q5 (b2 : Int) (b3 : Int) : Rat :=
  ratOf b2 b3
noncomputable def LLa_q6 (a2 : Int) (a3 : Int) (b2 : Int) (b3 : Int) : Rat :=
  LLa_q4 a2 a3 + LLa_q5 b2 b3
noncomputable def LLa_q7 (a4 : Int) (a5 : Int) : Rat :=
  ratOf a4 a5
noncomputable def LLa_q8 (b4 : Int) (b5 : Int) : Rat :=
  ratOf b4 b5
noncomputable def LLa_q9 (a4 : Int) (a5 : Int) (b4 : Int) (b5 : Int) : Rat :=
  LLa_q7 a4 a5 + LLa_q8 b4 b5
noncomputable def LLa_q10 (a6 : Int) (a7 : Int) : Rat :=
  ratOf a6 a7
noncomputable def LLa_q11 (b6 : Int) (b7 : Int) : Rat :=
  ratOf b6 b7
noncomputable def LLa_q12 (a6 : Int) (a7 : Int) (b6 : Int) (b7 : Int) : Rat :=
  LLa_q10 a6 a7 + LLa_q11 b6 b7
noncomputable def LLa (a0 a1 a2 a3 a4 a5 a6 a7 b0 b1 b2 b3 b4 b5 b6 b7 : Int) : Tree SV :=
  .need (true = true)
  (.need ((0 : Int) ≤ (0 : Int) ∧ (0 : Int) < (4 : Int))
   (.need (0 < 4)
   (.need ((0 : Int) ≤ (0 : Int) ∧ (0 : Int) < (4 : Int))
   (.need (0 < 4)
   (.need (VF a0 a1 ∧ VF b0 b1)
   (.ite (rE (LLa_q3 a0 a1 b0 b1) != (0 : Int))
   (.ret (SV.tup [SV.agg [iv (0 : Int), iv (0 : Int), iv (0 : Int), iv (0 : Int), iv (0 : Int), iv (0 : Int), iv (0 : Int), iv (0 : Int)], iv (rE (LLa_q3 a0 a1 b0 b1))]))
   (.need ((0 : Int) ≤ (0 : Int) ∧ (0 : Int) < (4 : Int))
   (.need (0 < 4)
   (.need (true = true)
   (.need ((0 : Int) ≤ (1 : Int) ∧ (1 : Int) < (4 : Int))
   (.need (1 < 4)
   (.need ((0 : Int) ≤ (1 : Int) ∧ (1 : Int) < (4 : Int))
   (.need (1 < 4)
   (.need (VF a2 a3 ∧ VF b2 b3)
   (.ite (rE (LLa_q6 a2 a3 b2 b3) != (0 : Int))
   (.ret (SV.tup [SV.agg [iv (0 : Int), iv (0 : Int), iv (0 : Int), iv (0 : Int), iv (0 : Int), iv (0 : Int), iv (0 : Int), iv (0 : Int)], iv (rE (LLa_q6 a2 a3 b2 b3))]))
   (.need ((0 : Int) ≤ (1 : Int) ∧ (1 : Int) < (4 : Int))
   (.need (1 < 4)
   (.need (true = true)
   (.need ((0 : Int) ≤ (2 : Int) ∧ (2 : Int) < (4 : Int))
   (.need (2 < 4)
   (.need ((0 : Int) ≤ (2 : Int) ∧ (2 : Int) < (4 : Int))
   (.need (2 < 4)
   (.need (VF a4 a5 ∧ VF b4 b5)
   (.ite (rE (LLa_q9 a4 a5 b4 b5) != (0 : Int))
   (.ret (SV.tup [SV.agg [iv (0 : Int), iv (0 : Int), iv (0 : Int), iv (0 : Int), iv (0 : Int), iv (0 : Int), iv (0 : Int), iv (0 : Int)], iv (rE (LLa_q9 a4 a5 b4 b5))]))
   (.need ((0 : Int) ≤ (2 : Int) ∧ (2 : Int) < (4 : Int))
   (.need (2 < 4)
   (.need (true = true)
   (.need ((0 : Int) ≤ (3 : Int) ∧ (3 : Int) < (4 : Int))
   (.need (3 < 4)
   (.need ((0 : Int) ≤ (3 : Int) ∧ (3 : Int) < (4 : Int))
   (.need (3 < 4)
   (.need (VF a6 a7 ∧ VF b6 b7)
   (.ite (rE (LLa_q12 a6 a7 b6 b7) != (0 : Int))
   (.ret
   (SV.tup
   [SV.agg [iv (0 : Int), iv (0 : Int), iv (0 : Int), iv (0 : Int), iv (0 : Int), iv (0 : Int), iv (0 : Int), iv (0 : Int)], iv (rE (LLa_q12 a6 a7 b6 b7))]))
   (.need ((0 : Int) ≤ (3 : Int) ∧ (3 : Int) < (4 : Int))
   (.need (3 < 4)
   (.need (false = false)
   (.need ((0 : Int) ≤ (0 : Int) ∧ (0 : Int) < (4 : Int))
   (.need (0 < 4)
   (.need ((0 : Int) ≤ (1 : Int) ∧ (1 : Int) < (4 : Int))
   (.need (1 < 4)
   (.need ((0 : Int) ≤ (2 : Int) ∧ (2 : Int) < (4 : Int))
   (.need (2 < 4)
   (.need ((0 : Int) ≤ (3 : Int) ∧ (3 : Int) < (4 : Int))
   (.need (3 < 4)
   (.ret
   (SV.tup
   [SV.agg
   [iv
   (bif false then rN (LLa_q12 a6 a7 b6 b7)
   else
   bif false then rN (LLa_q9 a4 a5 b4 b5)
   else bif false then rN (LLa_q6 a2 a3 b2 b3) else bif true then rN (LLa_q3 a0 a1 b0 b1) else (0 : Int)),
   iv
   (bif false then rD (LLa_q12 a6 a7 b6 b7)
   else
   bif false then rD (LLa_q9 a4 a5 b4 b5)
   else bif false then rD (LLa_q6 a2 a3 b2 b3) else bif true then rD (LLa_q3 a0 a1 b0 b1) else (0 : Int)),
   iv
   (bif false then rN (LLa_q12 a6 a7 b6 b7)
   else
   bif false then rN (LLa_q9 a4 a5 b4 b5)
   else bif true then rN (LLa_q6 a2 a3 b2 b3) else bif false then rN (LLa_q3 a0 a1 b0 b1) else (0 : Int)),
   iv
   (bif false then rD (LLa_q12 a6 a7 b6 b7)
   else
   bif false then rD (LLa_q9 a4 a5 b4 b5)
   else bif true then rD (LLa_q6 a2 a3 b2 b3) else bif false then rD (LLa_q3 a0 a1 b0 b1) else (0 : Int)),
   iv
   (bif false then rN (LLa_q12 a6 a7 b6 b7)
   else
   bif true then rN (LLa_q9 a4 a5 b4 b5)
   else bif false then rN (LLa_q6 a2 a3 b2 b3) else bif false then rN (LLa_q3 a0 a1 b0 b1) else (0 : Int)),
   iv
   (bif false then rD (LLa_q12 a6 a7 b6 b7)
   else
   bif true then rD (LLa_q9 a4 a5 b4 b5)
   else bif false then rD (LLa_q6 a2 a3 b2 b3) else bif false then rD (LLa_q3 a0 a1 b0 b1) else (0 : Int)),
   iv
   (bif true then rN (LLa_q12 a6 a7 b6 b7)
   else
   bif false then rN (LLa_q9 a4 a5 b4 b5)
   else bif false then rN (LLa_q6 a2 a3 b2 b3) else bif false then rN (LLa_q3 a0 a1 b0 b1) else (0 : Int)),
   iv
   (bif true then rD (LLa_q12 a6 a7 b6 b7)
   else
   bif false then rD (LLa_q9 a4 a5 b4 b5)
   else bif false then rD (LLa_q6 a2 a3 b2 b3) else bif false then rD (LLa_q3 a0 a1 b0 b1) else (0 : Int))],
   iv (0 : Int)]))))))))))))))))))))))))))))))))))))))))))))))

theorem LLa_eq (a0 a1 a2 a3 a4 a5 a6 a7 b0 b1 b2 b3 b4 b5 b6 b7 : Int) : TG (eachH 4) 131 [.agg [iv a0, iv a1, iv a2, iv a3, iv a4, iv a5, iv a6, iv a7], .agg [iv b0, iv b1, iv b2, iv b3, iv b4, iv b5, iv b6, iv b7]] = LLa a0 a1 a2 a3 a4 a5 a6 a7 b0 b1 b2 b3 b4 b5 b6 b7 := by kernel_rfl

noncomputable def LLn (a b c d e f g h i j k l : Int) : Tree SV :=
  .need (true = true)
  (.need ((0 : Int) ≤ (0 : Int) ∧ (0 : Int) < (4 : Int))
   (.need (0 < 4)
   (.ite (c != (0 : Int)) (.ret (SV.agg [iv (0 : Int), iv (0 : Int), iv (0 : Int), iv (0 : Int), iv (0 : Int), iv (0 : Int), iv (0 : Int), iv (0 : Int), iv (2 : Int)]))
   (.need (true = true)
   (.need ((0 : Int) ≤ (1 : Int) ∧ (1 : Int) < (4 : Int))
   (.need (1 < 4)
   (.ite (f != (0 : Int)) (.ret (SV.agg [iv (0 : Int), iv (0 : Int), iv (0 : Int), iv (0 : Int), iv (0 : Int), iv (0 : Int), iv (0 : Int), iv (0 : Int), iv (2 : Int)]))
   (.need (true = true)
   (.need ((0 : Int) ≤ (2 : Int) ∧ (2 : Int) < (4 : Int))
   (.need (2 < 4)
   (.ite (i != (0 : Int)) (.ret (SV.agg [iv (0 : Int), iv (0 : Int), iv (0 : Int), iv (0 : Int), iv (0 : Int), iv (0 : Int), iv (0 : Int), iv (0 : Int), iv (2 : Int)]))
   (.need (true = true)
   (.need ((0 : Int) ≤ (3 : Int) ∧ (3 : Int) < (4 : Int))
   (.need (3 < 4)
   (.ite (l != (0 : Int)) (.ret (SV.agg [iv (0 : Int), iv (0 : Int), iv (0 : Int), iv (0 : Int), iv (0 : Int), iv (0 : Int), iv (0 : Int), iv (0 : Int), iv (2 : Int)]))
   (.need (false = false)
   (.need ((0 : Int) ≤ (0 : Int) ∧ (0 : Int) < (4 : Int))
   (.need (0 < 4)
   (.need ((0 : Int) ≤ (1 : Int) ∧ (1 : Int) < (4 : Int))
   (.need (1 < 4)
   (.need ((0 : Int) ≤ (2 : Int) ∧ (2 : Int) < (4 : Int))
   (.need (2 < 4)
   (.need ((0 : Int) ≤ (3 : Int) ∧ (3 : Int) < (4 : Int))
   (.need (3 < 4) (.ret (SV.agg [iv a, iv b, iv d, iv e, iv g, iv h, iv j, iv k, iv (0 : Int)]))))))))))))))))))))))))))

theorem LLn_eq (a b c d e f g h i j k l : Int) : TG (eachH 4) 139 [.agg [iv a, iv b, iv c, iv d, iv e, iv f, iv g, iv h, iv i, iv j, iv k, iv l]] = LLn a b c d e f g h i j k l := by kernel_rfl

noncomputable def LLs_q1 (a0 : Int) (a1 : Int) : Rat :=
  ratOf a0 a1
noncomputable def LLs_q2 (b0 : Int) (b1 : Int) : Rat :=
  ratOf b0 b1
noncomputable def LLs_q3 (a0 : Int) (a1 : Int) (b0 : Int) (b1 : Int) : Rat :=
  LLs_q1 a0 a1 * LLs_q2 b0 b1
noncomputable def LLs_q4 (a2 : Int) (a3 : Int) : Rat :=
  ratOf a2 a3
noncomputable def LLs_q5 (a2 : Int) (a3 : Int) (b0 : Int) (b1 : Int) : Rat :=
  LLs_q4 a2 a3 * LLs_q2 b0 b1
noncomputable def LLs_q6 (a4 : Int) (a5 : Int) : Rat :=
  ratOf a4 a5
noncomputable def LLs_q7 (a4 : Int) (a5 : Int) (b0 : Int) (b1 : Int) : Rat :=
  LLs_q6 a4 a5 * LLs_q2 b0 b1
noncomputable def LLs_q8 (a6 : Int) (a7 : Int) : Rat :=
  ratOf a6 a7
noncomputable def LLs_q9 (a6 : Int) (a7 : Int) (b0 : Int) (b1 : Int) : Rat :=
  LLs_q8 a6 a7 * LLs_q2 b0 b1
noncomputable def LLs (a0 a1 a2 a3 a4 a5 a6 a7 b0 b1 : Int) : Tree SV :=
  .need (true = true)
  (.need ((0 : Int) ≤ (0 : Int) ∧ (0 : Int) < (4 : Int))
   (.need (0 < 4)
   (.need ((0 : Int) ≤ (0 : Int) ∧ (0 : Int) < (4 : Int))
   (.need (0 < 4)
   (.need (VF a0 a1 ∧ VF b0 b1)
   (.ite (rE (LLs_q3 a0 a1 b0 b1) != (0 : Int))
   (.ret (SV.tup [SV.agg [iv (0 : Int), iv (0 : Int), iv (0 : Int), iv (0 : Int), iv (0 : Int), iv (0 : Int), iv (0 : Int), iv (0 : Int)], iv (rE (LLs_q3 a0 a1 b0 b1))]))
   (.need ((0 : Int) ≤ (0 : Int) ∧ (0 : Int) < (4 : Int))
   (.need (0 < 4)
   (.need (true = true)
   (.need ((0 : Int) ≤ (1 : Int) ∧ (1 : Int) < (4 : Int))
   (.need (1 < 4)
   (.need ((0 : Int) ≤ (1 : Int) ∧ (1 : Int) < (4 : Int))
   (.need (1 < 4)
   (.need (VF a2 a3 ∧ VF b0 b1)
   (.ite (rE (LLs_q5 a2 a3 b0 b1) != (0 : Int))
   (.ret (SV.tup [SV.agg [iv (0 : Int), iv (0 : Int), iv (0 : Int), iv (0 : Int), iv (0 : Int), iv (0 : Int), iv (0 : Int), iv (0 : Int)], iv (rE (LLs_q5 a2 a3 b0 b1))]))
   (.need ((0 : Int) ≤ (1 : Int) ∧ (1 : Int) < (4 : Int))
   (.need (1 < 4)
   (.need (true = true)
   (.need ((0 : Int) ≤ (2 : Int) ∧ (2 : Int) < (4 : Int))
   (.need (2 < 4)
   (.need ((0 : Int) ≤ (2 : Int) ∧ (2 : Int) < (4 : Int))
   (.need (2 < 4)
   (.need (VF a4 a5 ∧ VF b0 b1)
   (.ite (rE (LLs_q7 a4 a5 b0 b1) != (0 : Int))
   (.ret (SV.tup [SV.agg [iv (0 : Int), iv (0 : Int), iv (0 : Int), iv (0 : Int), iv (0 : Int), iv (0 : Int), iv (0 : Int), iv (0 : Int)], iv (rE (LLs_q7 a4 a5 b0 b1))]))
   (.need ((0 : Int) ≤ (2 : Int) ∧ (2 : Int) < (4 : Int))
   (.need (2 < 4)
   (.need (true = true)
   (.need ((0 : Int) ≤ (3 : Int) ∧ (3 : Int) < (4 : Int))
   (.need (3 < 4)
   (.need ((0 : Int) ≤ (3 : Int) ∧ (3 : Int) < (4 : Int))
   (.need (3 < 4)
   (.need (VF a6 a7 ∧ VF b0 b1)
   (.ite (rE (LLs_q9 a6 a7 b0 b1) != (0 : Int))
   (.ret
   (SV.tup
   [SV.agg [iv (0 : Int), iv (0 : Int), iv (0 : Int), iv (0 : Int), iv (0 : Int), iv (0 : Int), iv (0 : Int), iv (0 : Int)], iv (rE (LLs_q9 a6 a7 b0 b1))]))
   (.need ((0 : Int) ≤ (3 : Int) ∧ (3 : Int) < (4 : Int))
   (.need (3 < 4)
   (.need (false = false)
   (.need ((0 : Int) ≤ (0 : Int) ∧ (0 : Int) < (4 : Int))
   (.need (0 < 4)
   (.need ((0 : Int) ≤ (1 : Int) ∧ (1 : Int) < (4 : Int))
   (.need (1 < 4)
   (.need ((0 : Int) ≤ (2 : Int) ∧ (2 : Int) < (4 : Int))
   (.need (2 < 4)
   (.need ((0 : Int) ≤ (3 : Int) ∧ (3 : Int) < (4 : Int))
   (.need (3 < 4)
   (.ret
   (SV.tup
   [SV.agg
   [iv
   (bif false then rN (LLs_q9 a6 a7 b0 b1)
   else
   bif false then rN (LLs_q7 a4 a5 b0 b1)
   else bif false then rN (LLs_q5 a2 a3 b0 b1) else bif true then rN (LLs_q3 a0 a1 b0 b1) else (0 : Int)),
   iv
   (bif false then rD (LLs_q9 a6 a7 b0 b1)
   else
   bif false then rD (LLs_q7 a4 a5 b0 b1)
   else bif false then rD (LLs_q5 a2 a3 b0 b1) else bif true then rD (LLs_q3 a0 a1 b0 b1) else (0 : Int)),
   iv
   (bif false then rN (LLs_q9 a6 a7 b0 b1)
   else
   bif false then rN (LLs_q7 a4 a5 b0 b1)
   else bif true then rN (LLs_q5 a2 a3 b0 b1) else bif false then rN (LLs_q3 a0 a1 b0 b1) else (0 : Int)),
   iv
   (bif false then rD (LLs_q9 a6 a7 b0 b1)
   else
   bif false then rD (LLs_q7 a4 a5 b0 b1)
   else bif true then rD (LLs_q5 a2 a3 b0 b1) else bif false then rD (LLs_q3 a0 a1 b0 b1) else (0 : Int)),
   iv
   (bif false then rN (LLs_q9 a6 a7 b0 b1)
   else
   bif true then rN (LLs_q7 a4 a5 b0 b1)
   else bif false then rN (LLs_q5 a2 a3 b0 b1) else bif false then rN (LLs_q3 a0 a1 b0 b1) else (0 : Int)),
   iv
   (bif false then rD (LLs_q9 a6 a7 b0 b1)
   else
   bif true then rD (LLs_q7 a4 a5 b0 b1)
   else bif false then rD (LLs_q5 a2 a3 b0 b1) else bif false then rD (LLs_q3 a0 a1 b0 b1) else (0 : Int)),
   iv
   (bif true then rN (LLs_q9 a6 a7 b0 b1)
   else
   bif false then rN (LLs_q7 a4 a5 b0 b1)
   else bif false then rN (LLs_q5 a2 a3 b0 b1) else bif false then rN (LLs_q3 a0 a1 b0 b1) else (0 : Int)),
   iv
   (bif true then rD (LLs_q9 a6 a7 b0 b1)
   else
   bif false then rD (LLs_q7 a4 a5 b0 b1)
   else bif false then rD (LLs_q5 a2 a3 b0 b1) else bif false then rD (LLs_q3 a0 a1 b0 b1) else (0 : Int))],
   iv (0 : Int)]))))))))))))))))))))))))))))))))))))))))))))))

theorem LLs_eq (a0 a1 a2 a3 a4 a5 a6 a7 b0 b1 : Int) : TG (eachH 4) 117 [.agg [iv a0, iv a1, iv a2, iv a3, iv a4, iv a5, iv a6, iv a7], .agg [iv b0, iv b1]] = LLs a0 a1 a2 a3 a4 a5 a6 a7 b0 b1 := by kernel_rfl

noncomputable def LVa (a0 a1 a2 a3 a4 a5 a6 a7 : Int) : Tree SV :=
  .need (True ∧ True)
  (.need (true = true)
   (.need ((0 : Int) ≤ (0 : Int) ∧ (0 : Int) < (4 : Int))
   (.need (0 < 4)
   (.ite (!vB a0 a1) (.ret (bv false))
   (.need (true = true)
   (.need ((0 : Int) ≤ (1 : Int) ∧ (1 : Int) < (4 : Int))
   (.need (1 < 4)
   (.ite (!vB a2 a3) (.ret (bv false))
   (.need (true = true)
   (.need ((0 : Int) ≤ (2 : Int) ∧ (2 : Int) < (4 : Int))
   (.need (2 < 4)
   (.ite (!vB a4 a5) (.ret (bv false))
   (.need (true = true)
   (.need ((0 : Int) ≤ (3 : Int) ∧ (3 : Int) < (4 : Int)) (.need (3 < 4) (.ite (!vB a6 a7) (.ret (bv false)) (.need (false = false) (.ret (bv true)))))))))))))))))))

theorem LVa_eq (a0 a1 a2 a3 a4 a5 a6 a7 : Int) : TG (eachH 4) 57 [.agg [iv a0, iv a1, iv a2, iv a3, iv a4, iv a5, iv a6, iv a7]] = LVa a0 a1 a2 a3 a4 a5 a6 a7 := by kernel_rfl

noncomputable def LVaR (a0 a1 a2 a3 a4 a5 a6 a7 : Int) : Tree SV :=
  .ret (bv (vB a0 a1 && vB a2 a3 && vB a4 a5 && vB a6 a7))

theorem LVaR_eq (a0 a1 a2 a3 a4 a5 a6 a7 : Int) : TG .nil 46 [.agg [iv a0, iv a1, iv a2, iv a3, iv a4, iv a5, iv a6, iv a7]] = LVaR a0 a1 a2 a3 a4 a5 a6 a7 := by kernel_rfl

noncomputable def LVx_q1 (a0 : Int) (a1 : Int) : Rat :=
  ratOf a0 a1
noncomputable def LVx_q2 (a2 : Int) (a3 : Int) : Rat :=
  ratOf a2 a3
noncomputable def LVx_q3 (b0 : Int) (b1 : Int) : Rat :=
  ratOf b0 b1
noncomputable def LVx_q4 (b2 : Int) (b3 : Int) : Rat :=
  ratOf b2 b3
noncomputable def LVx_q5 (c0 : Int) (c1 : Int) : Rat :=
  ratOf c0 c1
noncomputable def LVx_q6 (c2 : Int) (c3 : Int) : Rat :=
  ratOf c2 c3
noncomputable def LVx (a0 a1 a2 a3 b0 b1 b2 b3 c0 c1 c2 c3 : Int) : Tree SV :=
  .need (True ∧ True)
  (.need (true = true)
   (.need ((0 : Int) ≤ (0 : Int) ∧ (0 : Int) < (3 : Int))
   (.need (0 < 3)
   (.ite (!(vB a0 a1 && vB a2 a3 && decide (LVx_q1 a0 a1 ≤ LVx_q2 a2 a3))) (.ret (bv false))
   (.need (true = true)
   (.need ((0 : Int) ≤ (1 : Int) ∧ (1 : Int) < (3 : Int))
   (.need (1 < 3)
   (.ite (!(vB b0 b1 && vB b2 b3 && decide (LVx_q3 b0 b1 ≤ LVx_q4 b2 b3))) (.ret (bv false))
   (.need (true = true)
   (.need ((0 : Int) ≤ (2 : Int) ∧ (2 : Int) < (3 : Int))
   (.need (2 < 3) (.ite (!(vB c0 c1 && vB c2 c3 && decide (LVx_q5 c0 c1 ≤ LVx_q6 c2 c3))) (.ret (bv false)) (.need (false = false) (.ret (bv true)))))))))))))))

theorem LVx_eq (a0 a1 a2 a3 b0 b1 b2 b3 c0 c1 c2 c3 : Int) : TG (eachH 3) 58 [.agg [iv a0, iv a1, iv a2, iv a3, iv b0, iv b1, iv b2, iv b3, iv c0, iv c1, iv c2, iv c3]] = LVx a0 a1 a2 a3 b0 b1 b2 b3 c0 c1 c2 c3 := by kernel_rfl

noncomputable def LVxR_q1 (a0 : Int) (a1 : Int) : Rat :=
  ratOf a0 a1
noncomputable def LVxR_q2 (a2 : Int) (a3 : Int) : Rat :=
  ratOf a2 a3
noncomputable def LVxR_q3 (b0 : Int) (b1 : Int) : Rat :=
  ratOf b0 b1
noncomputable def LVxR_q4 (b2 : Int) (b3 : Int) : Rat :=
  ratOf b2 b3
noncomputable def LVxR_q5 (c0 : Int) (c1 : Int) : Rat :=
  ratOf c0 c1
noncomputable def LVxR_q6 (c2 : Int) (c3 : Int) : Rat :=
  ratOf c2 c3
noncomputable def LVxR (a0 a1 a2 a3 b0 b1 b2 b3 c0 c1 c2 c3 : Int) : Tree SV :=
  .ret
  (bv
   (vB a0 a1 && vB a2 a3 && decide (LVxR_q1 a0 a1 ≤ LVxR_q2 a2 a3) && (vB b0 b1 && vB b2 b3 && decide (LVxR_q3 b0 b1 ≤ LVxR_q4 b2 b3)) &&
   (vB c0 c1 && vB c2 c3 && decide (LVxR_q5 c0 c1 ≤ LVxR_q6 c2 c3))))

theorem LVxR_eq (a0 a1 a2 a3 b0 b1 b2 b3 c0 c1 c2 c3 : Int) : TG .nil 59 [.agg [iv a0, iv a1, iv a2, iv a3, iv b0, iv b1, iv b2, iv b3, iv c0, iv c1, iv c2, iv c3]] = LVxR a0 a1 a2 a3 b0 b1 b2 b3 c0 c1 c2 c3 := by kernel_rfl


end Go.Proofs.Ytpaejfeojdoikaa

namespace Go.Proofs.Ytpaejfeojdoikaa
open Go.Sx
set_option maxRecDepth 100000

/-! ### Functions of four coefficients -/
noncomputable def quad : Option Rat → Option Rat → Option Rat → Option Rat → Option (Rat × Rat × Rat × Rat)
  | some a, some b, some c, some d => some (a, b, c, d)
  | _, _, _, _ => none
noncomputable def k0 (o : Option (Rat × Rat × Rat × Rat)) : Option Rat := o.map fun x => x.1
noncomputable def k1 (o : Option (Rat × Rat × Rat × Rat)) : Option Rat := o.map fun x => x.2.1
noncomputable def k2 (o : Option (Rat × Rat × Rat × Rat)) : Option Rat := o.map fun x => x.2.2.1
noncomputable def k3 (o : Option (Rat × Rat × Rat × Rat)) : Option Rat := o.map fun x => x.2.2.2
noncomputable def lnI (b : Bool) (x : Int) : Int := bif b then x else 0
structure VL (a0 a1 a2 a3 a4 a5 a6 a7 : Int) : Prop where
  k : VF a0 a1
  t : VF a2 a3
  v : VF a4 a5
  a : VF a6 a7

noncomputable def cLn : Ctr := fun ss => match ss with
  | [.agg l] => match intsOf .i64 l with
    | some [a, b, c, d, e, f, g, h, i, j, k, l] => .ret (.agg [iv (lnI (c == 0 && f == 0 && i == 0 && l == 0) a), iv (lnI (c == 0 && f == 0 && i == 0 && l == 0) b), iv (lnI (c == 0 && f == 0 && i == 0 && l == 0) d), iv (lnI (c == 0 && f == 0 && i == 0 && l == 0) e),
        iv (lnI (c == 0 && f == 0 && i == 0 && l == 0) g), iv (lnI (c == 0 && f == 0 && i == 0 && l == 0) h), iv (lnI (c == 0 && f == 0 && i == 0 && l == 0) j), iv (lnI (c == 0 && f == 0 && i == 0 && l == 0) k), iv (bif (c == 0 && f == 0 && i == 0 && l == 0) then 0 else 2)])
    | _ => .fail
  | _ => .fail
theorem ne0 {a : Int} {b : Bool} : ((a != 0) = b) = ((a == 0) = !b) := by
  apply propext; cases h : (a == 0) <;> cases b <;> simp [bne, h]
theorem cLn_ok : CtrOK Try.prog 139 cLn := by
  refine ctrOK_leS CG_ok DG_ok (by kernel_rfl) (by kernel_rfl) fun ss r hh => ?_
  unfold cLn at hh
  split at hh
  · split at hh
    · rename_i a b c d e f g h i j k l e1
      obtain rfl := hh
      rw [intsOf_eq e1]
      refine ⟨_, 200, eachH 4, by simp [leSVs, leSV, iv, leD], Sat.of_eq (LLn_eq a b c d e f g h i j k l) ⟨?_⟩⟩
      unfold LLn
      simp only [sat_need, sat_ite, sat_ret, ne0]
      cases h1 : (c == 0) <;> cases h2 : (f == 0) <;> cases h3 : (i == 0) <;> cases h4 : (l == 0) <;> simp [lnI]
    · exact hh.elim
  · exact hh.elim

noncomputable def cVal : Ctr := fun ss => match ss with
  | [.agg l] => match intsOf .i64 l with
    | some [a0, a1, a2, a3, a4, a5, a6, a7] => .ret (bv (vB a0 a1 && vB a2 a3 && vB a4 a5 && vB a6 a7))
    | _ => .fail
  | _ => .fail
theorem cVal_ok : CtrOK Try.prog 57 cVal := by
  refine ctrOK_leS CG_ok DG_ok (by kernel_rfl) (by kernel_rfl) fun ss r hh => ?_
  unfold cVal at hh
  split at hh
  · split at hh
    · rename_i a0 a1 a2 a3 a4 a5 a6 a7 e1
      obtain rfl := hh
      rw [intsOf_eq e1]
      refine ⟨_, 200, eachH 4, by simp [leSVs, leSV, iv, leD], Sat.of_eq (LVa_eq a0 a1 a2 a3 a4 a5 a6 a7) ⟨?_⟩⟩
      unfold LVa
      simp only [sat_need, sat_ite, sat_ret]
      cases h1 : vB a0 a1 <;> cases h2 : vB a2 a3 <;> cases h3 : vB a4 a5 <;> cases h4 : vB a6 a7 <;> simp
    · exact hh.elim
  · exact hh.elim
theorem cValR'_ok : CtrOK Try.prog 46 cVal := by
  refine ctrOK_leS CG_ok DG_ok (by kernel_rfl) (by kernel_rfl) fun ss r hh => ?_
  unfold cVal at hh
  split at hh
  · split at hh
    · rename_i a0 a1 a2 a3 a4 a5 a6 a7 e1
      obtain rfl := hh
      rw [intsOf_eq e1]
      exact ⟨_, 200, .nil, by simp [leSVs, leSV, iv, leD], Sat.of_eq (LVaR_eq a0 a1 a2 a3 a4 a5 a6 a7) ⟨rfl⟩⟩
    · exact hh.elim
  · exact hh.elim
noncomputable def viB (a b c d : Int) : Bool := vB a b && vB c d && decide (ratOf a b ≤ ratOf c d)
noncomputable def cVbx : Ctr := fun ss => match ss with
  | [.agg l] => match intsOf .i64 l with
    | some [a0, a1, a2, a3, b0, b1, b2, b3, c0, c1, c2, c3] => .ret (bv (viB a0 a1 a2 a3 && viB b0 b1 b2 b3 && viB c0 c1 c2 c3))
    | _ => .fail
  | _ => .fail
theorem cVbx_ok : CtrOK Try.prog 58 cVbx := by
  refine ctrOK_leS CG_ok DG_ok (by kernel_rfl) (by kernel_rfl) fun ss r hh => ?_
  unfold cVbx at hh
  split at hh
  · split at hh
    · rename_i a0 a1 a2 a3 b0 b1 b2 b3 c0 c1 c2 c3 e1
      obtain rfl := hh
      rw [intsOf_eq e1]
      refine ⟨_, 200, eachH 3, by simp [leSVs, leSV, iv, leD], Sat.of_eq (LVx_eq a0 a1 a2 a3 b0 b1 b2 b3 c0 c1 c2 c3) ⟨?_⟩⟩
      unfold LVx
      simp only [sat_need, sat_ite, sat_ret]
      rw [show viB a0 a1 a2 a3 = (vB a0 a1 && vB a2 a3 && decide (LVx_q1 a0 a1 ≤ LVx_q2 a2 a3)) from rfl, show viB b0 b1 b2 b3 = (vB b0 b1 && vB b2 b3 && decide (LVx_q3 b0 b1 ≤ LVx_q4 b2 b3)) from rfl, show viB c0 c1 c2 c3 = (vB c0 c1 && vB c2 c3 && decide (LVx_q5 c0 c1 ≤ LVx_q6 c2 c3)) from rfl]
      generalize (vB a0 a1 && vB a2 a3 && decide (LVx_q1 a0 a1 ≤ LVx_q2 a2 a3)) = x
      generalize (vB b0 b1 && vB b2 b3 && decide (LVx_q3 b0 b1 ≤ LVx_q4 b2 b3)) = y
      generalize (vB c0 c1 && vB c2 c3 && decide (LVx_q5 c0 c1 ≤ LVx_q6 c2 c3)) = z
      cases x <;> cases y <;> cases z <;> simp
    · exact hh.elim
  · exact hh.elim
theorem cVbxR_ok : CtrOK Try.prog 59 cVbx := by
  refine ctrOK_leS CG_ok DG_ok (by kernel_rfl) (by kernel_rfl) fun ss r hh => ?_
  unfold cVbx at hh
  split at hh
  · split at hh
    · rename_i a0 a1 a2 a3 b0 b1 b2 b3 c0 c1 c2 c3 e1
      obtain rfl := hh
      rw [intsOf_eq e1]
      exact ⟨_, 200, .nil, by simp [leSVs, leSV, iv, leD], Sat.of_eq (LVxR_eq a0 a1 a2 a3 b0 b1 b2 b3 c0 c1 c2 c3) ⟨rfl⟩⟩
    · exact hh.elim
  · exact hh.elim

/-- The sum of two functions, and a multiple of one. -/
noncomputable def addO (a b c d e f g h : Rat) : Option (Rat × Rat × Rat × Rat) := quad (fit (a + e)) (fit (b + f)) (fit (c + g)) (fit (d + h))
noncomputable def sclO (a b c d e : Rat) : Option (Rat × Rat × Rat × Rat) := quad (fit (a * e)) (fit (b * e)) (fit (c * e)) (fit (d * e))
noncomputable def lineL (o : Option (Rat × Rat × Rat × Rat)) : List SV := [iv (oN (k0 o)), iv (oD (k0 o)), iv (oN (k1 o)), iv (oD (k1 o)), iv (oN (k2 o)), iv (oD (k2 o)), iv (oN (k3 o)), iv (oD (k3 o))]
theorem quad_no {a b c d : Option Rat} (h : a = none ∨ b = none ∨ c = none ∨ d = none) : quad a b c d = none := by
  rcases h with rfl | rfl | rfl | rfl
  · rfl
  · cases a <;> rfl
  · cases a <;> cases b <;> rfl
  · cases a <;> cases b <;> cases c <;> rfl

noncomputable def cLa : Ctr := fun ss => match ss with
  | [.agg l, .agg m] => match intsOf .i64 l, intsOf .i64 m with
    | some [a0, a1, a2, a3, a4, a5, a6, a7], some [b0, b1, b2, b3, b4, b5, b6, b7] => .need (VL a0 a1 a2 a3 a4 a5 a6 a7 ∧ VL b0 b1 b2 b3 b4 b5 b6 b7)
      (.ret (.tup [.agg [iv (oN (k0 (addO (ratOf a0 a1) (ratOf a2 a3) (ratOf a4 a5) (ratOf a6 a7) (ratOf b0 b1) (ratOf b2 b3) (ratOf b4 b5) (ratOf b6 b7)))), iv (oD (k0 (addO (ratOf a0 a1) (ratOf a2 a3) (ratOf a4 a5) (ratOf a6 a7) (ratOf b0 b1) (ratOf b2 b3) (ratOf b4 b5) (ratOf b6 b7)))),
        iv (oN (k1 (addO (ratOf a0 a1) (ratOf a2 a3) (ratOf a4 a5) (ratOf a6 a7) (ratOf b0 b1) (ratOf b2 b3) (ratOf b4 b5) (ratOf b6 b7)))), iv (oD (k1 (addO (ratOf a0 a1) (ratOf a2 a3) (ratOf a4 a5) (ratOf a6 a7) (ratOf b0 b1) (ratOf b2 b3) (ratOf b4 b5) (ratOf b6 b7)))),
        iv (oN (k2 (addO (ratOf a0 a1) (ratOf a2 a3) (ratOf a4 a5) (ratOf a6 a7) (ratOf b0 b1) (ratOf b2 b3) (ratOf b4 b5) (ratOf b6 b7)))), iv (oD (k2 (addO (ratOf a0 a1) (ratOf a2 a3) (ratOf a4 a5) (ratOf a6 a7) (ratOf b0 b1) (ratOf b2 b3) (ratOf b4 b5) (ratOf b6 b7)))),
        iv (oN (k3 (addO (ratOf a0 a1) (ratOf a2 a3) (ratOf a4 a5) (ratOf a6 a7) (ratOf b0 b1) (ratOf b2 b3) (ratOf b4 b5) (ratOf b6 b7)))), iv (oD (k3 (addO (ratOf a0 a1) (ratOf a2 a3) (ratOf a4 a5) (ratOf a6 a7) (ratOf b0 b1) (ratOf b2 b3) (ratOf b4 b5) (ratOf b6 b7))))],
        iv (oE (addO (ratOf a0 a1) (ratOf a2 a3) (ratOf a4 a5) (ratOf a6 a7) (ratOf b0 b1) (ratOf b2 b3) (ratOf b4 b5) (ratOf b6 b7)))]))
    | _, _ => .fail
  | _ => .fail
theorem rE_iff {r : Rat} : ((rE r != 0) = true) = ¬ fitsR r := by
  apply propext; by_cases h : fitsR r
  · simp [rE_of h, h]
  · simp [rE_no h, h]
theorem rE_iff' {r : Rat} : ((rE r != 0) = false) = fitsR r := by
  apply propext; by_cases h : fitsR r
  · simp [rE_of h, h]
  · simp [rE_no h, h]
theorem cLa_ok : CtrOK Try.prog 131 cLa := by
  refine ctrOK_leS CG_ok DG_ok (by kernel_rfl) (by kernel_rfl) fun ss r hh => ?_
  unfold cLa at hh
  split at hh
  · split at hh
    · rename_i a0 a1 a2 a3 a4 a5 a6 a7 b0 b1 b2 b3 b4 b5 b6 b7 e1 e2
      obtain ⟨⟨x, y⟩, rfl⟩ := hh
      rw [intsOf_eq e1, intsOf_eq e2]
      refine ⟨_, 200, eachH 4, by simp [leSVs, leSV, iv, leD], Sat.of_eq (LLa_eq a0 a1 a2 a3 a4 a5 a6 a7 b0 b1 b2 b3 b4 b5 b6 b7) ⟨?_⟩⟩
      unfold LLa
      simp only [LLa_q1, LLa_q2, LLa_q3, LLa_q4, LLa_q5, LLa_q6, LLa_q7, LLa_q8, LLa_q9, LLa_q10, LLa_q11, LLa_q12]
      unfold addO
      have vk := x.k; have vt := x.t; have vv := x.v; have va := x.a
      have wk := y.k; have wt := y.t; have wv := y.v; have wa := y.a
      generalize ratOf a0 a1 + ratOf b0 b1 = p
      generalize ratOf a2 a3 + ratOf b2 b3 = q
      generalize ratOf a4 a5 + ratOf b4 b5 = r
      generalize ratOf a6 a7 + ratOf b6 b7 = s
      simp only [sat_need, sat_ite, sat_ret, rE_iff, rE_iff', vk, vt, vv, va, wk, wt, wv, wa, true_and, and_true]
      by_cases h0 : fitsR p <;> by_cases h1 : fitsR q <;> by_cases h2 : fitsR r <;> by_cases h3 : fitsR s <;> simp [fit, rN, rD, rE, quad, k0, k1, k2, k3, oN, oD, oE, h0, h1, h2, h3]
    · exact hh.elim
  · exact hh.elim
noncomputable def cLs : Ctr := fun ss => match ss with
  | [.agg l, .agg [.d (.x (.int .i64 b0)), .d (.x (.int .i64 b1))]] => match intsOf .i64 l with
    | some [a0, a1, a2, a3, a4, a5, a6, a7] => .need (VL a0 a1 a2 a3 a4 a5 a6 a7 ∧ VF b0 b1)
      (.ret (.tup [.agg [iv (oN (k0 (sclO (ratOf a0 a1) (ratOf a2 a3) (ratOf a4 a5) (ratOf a6 a7) (ratOf b0 b1)))), iv (oD (k0 (sclO (ratOf a0 a1) (ratOf a2 a3) (ratOf a4 a5) (ratOf a6 a7) (ratOf b0 b1)))),
        iv (oN (k1 (sclO (ratOf a0 a1) (ratOf a2 a3) (ratOf a4 a5) (ratOf a6 a7) (ratOf b0 b1)))), iv (oD (k1 (sclO (ratOf a0 a1) (ratOf a2 a3) (ratOf a4 a5) (ratOf a6 a7) (ratOf b0 b1)))),
        iv (oN (k2 (sclO (ratOf a0 a1) (ratOf a2 a3) (ratOf a4 a5) (ratOf a6 a7) (ratOf b0 b1)))), iv (oD (k2 (sclO (ratOf a0 a1) (ratOf a2 a3) (ratOf a4 a5) (ratOf a6 a7) (ratOf b0 b1)))),
        iv (oN (k3 (sclO (ratOf a0 a1) (ratOf a2 a3) (ratOf a4 a5) (ratOf a6 a7) (ratOf b0 b1)))), iv (oD (k3 (sclO (ratOf a0 a1) (ratOf a2 a3) (ratOf a4 a5) (ratOf a6 a7) (ratOf b0 b1))))],
        iv (oE (sclO (ratOf a0 a1) (ratOf a2 a3) (ratOf a4 a5) (ratOf a6 a7) (ratOf b0 b1)))]))
    | _ => .fail
  | _ => .fail
theorem cLs_ok : CtrOK Try.prog 117 cLs := by
  refine ctrOK_leS CG_ok DG_ok (by kernel_rfl) (by kernel_rfl) fun ss r hh => ?_
  unfold cLs at hh
  split at hh
  · rename_i b0 b1
    split at hh
    · rename_i a0 a1 a2 a3 a4 a5 a6 a7 e1
      obtain ⟨⟨x, wk⟩, rfl⟩ := hh
      rw [intsOf_eq e1]
      refine ⟨[_, .agg [iv b0, iv b1]], 200, eachH 4, by simp [leSVs, leSV, iv, leD], Sat.of_eq (LLs_eq a0 a1 a2 a3 a4 a5 a6 a7 b0 b1) ⟨?_⟩⟩
      unfold LLs
      simp only [LLs_q1, LLs_q2, LLs_q3, LLs_q4, LLs_q5, LLs_q6, LLs_q7, LLs_q8, LLs_q9]
      unfold sclO
      have vk := x.k; have vt := x.t; have vv := x.v; have va := x.a
      generalize ratOf a0 a1 * ratOf b0 b1 = p
      generalize ratOf a2 a3 * ratOf b0 b1 = q
      generalize ratOf a4 a5 * ratOf b0 b1 = r
      generalize ratOf a6 a7 * ratOf b0 b1 = s
      simp only [sat_need, sat_ite, sat_ret, rE_iff, rE_iff', vk, vt, vv, va, wk, true_and, and_true]
      by_cases h0 : fitsR p <;> by_cases h1 : fitsR q <;> by_cases h2 : fitsR r <;> by_cases h3 : fitsR s <;> simp [fit, rN, rD, rE, quad, k0, k1, k2, k3, oN, oD, oE, h0, h1, h2, h3]
    · exact hh.elim
  · exact hh.elim

noncomputable def manH : FuncId → Option Ctr := fun k => match k with
  | 139 => some cLn
  | 57 => some cVal
  | 46 => some cVal
  | 58 => some cVbx
  | 59 => some cVbx
  | 131 => some cLa
  | 117 => some cLs
  | k => manF k
theorem manH_ok (k : Nat) (c : Ctr) (h : manH k = some c) : CtrOK Try.prog k c ∧ goodF Try.prog k = true := by
  unfold manH at h
  split at h
  · cases h; exact ⟨cLn_ok, by kernel_rfl⟩
  · cases h; exact ⟨cVal_ok, by kernel_rfl⟩
  · cases h; exact ⟨cValR'_ok, by kernel_rfl⟩
  · cases h; exact ⟨cVbx_ok, by kernel_rfl⟩
  · cases h; exact ⟨cVbxR_ok, by kernel_rfl⟩
  · cases h; exact ⟨cLa_ok, by kernel_rfl⟩
  · cases h; exact ⟨cLs_ok, by kernel_rfl⟩
  · exact manF_ok _ _ h
noncomputable def CH : Ctx := ctxN Try.prog manH (fun _ => false) 200 .nil 6
theorem CH_ok : CtxOK Try.prog CH := ctxN_ok mixed manH_ok 6
noncomputable def DH : Dr := fun _ => drawn Try.prog CH
theorem DH_ok : DrOK Try.prog CH DH := drawn_ok CH_ok mixed
noncomputable def TH (h : Hint) (k : Nat) (args : List SV) : Tree SV := fnT Try.prog CH DH 200 (fnOf Try.prog k) (bodyOf Try.prog k) args h

noncomputable def LSm2_q1 (c : Nat → Nat → Int) : Rat :=
  ratOf (c (Int.toNat (0 : Int)) 0) (c (Int.toNat (0 : Int)) 1)
noncomputable def LSm2_q2 (c : Nat → Nat → Int) : Rat :=
  ratOf (c (Int.toNat (0 : Int)) 2) (c (Int.toNat (0 : Int)) 3)
noncomputable def LSm2_q3 (c : Nat → Nat → Int) : Rat :=
  ratOf (c (Int.toNat (0 : Int)) 4) (c (Int.toNat (0 : Int)) 5)
noncomputable def LSm2_q4 (c : Nat → Nat → Int) : Rat :=
  ratOf (c (Int.toNat (0 : Int)) 6) (c (Int.toNat (0 : Int)) 7)
noncomputable def LSm2_q5 (c : Nat → Nat → Int) : Option (Rat × Rat × Rat × Rat) :=
  addO (ratOf (List.getD [(0 : Int), (0 : Int), (0 : Int), (0 : Int)] (Int.toNat (0 : Int)) (0 : Int)) (List.getD [(1 : Int), (1 : Int), (1 : Int), (1 : Int)] (Int.toNat (0 : Int)) (0 : Int)))
  (ratOf (List.getD [(0 : Int), (0 : Int), (0 : Int), (0 : Int)] (Int.toNat (1 : Int)) (0 : Int)) (List.getD [(1 : Int), (1 : Int), (1 : Int), (1 : Int)] (Int.toNat (1 : Int)) (0 : Int)))
  (ratOf (List.getD [(0 : Int), (0 : Int), (0 : Int), (0 : Int)] (Int.toNat (2 : Int)) (0 : Int)) (List.getD [(1 : Int), (1 : Int), (1 : Int), (1 : Int)] (Int.toNat (2 : Int)) (0 : Int)))
  (ratOf (List.getD [(0 : Int), (0 : Int), (0 : Int), (0 : Int)] (Int.toNat (3 : Int)) (0 : Int)) (List.getD [(1 : Int), (1 : Int), (1 : Int), (1 : Int)] (Int.toNat (3 : Int)) (0 : Int))) (LSm2_q1 c) (LSm2_q2 c)
  (LSm2_q3 c) (LSm2_q4 c)
noncomputable def LSm2_q6 (c : Nat → Nat → Int) : Option Rat :=
  k0 (LSm2_q5 c)
noncomputable def LSm2_q7 (c : Nat → Nat → Int) : Option Rat :=
  k1 (LSm2_q5 c)
noncomputable def LSm2_q8 (c : Nat → Nat → Int) : Option Rat :=
  k2 (LSm2_q5 c)
noncomputable def LSm2_q9 (c : Nat → Nat → Int) : Option Rat :=
  k3 (LSm2_q5 c)
noncomputable def LSm2_q10 (c : Nat → Nat → Int) : Rat :=
  ratOf (oN (LSm2_q6 c)) (oD (LSm2_q6 c))
noncomputable def LSm2_q11 (c : Nat → Nat → Int) : Rat :=
  ratOf (oN (LSm2_q7 c)) (oD (LSm2_q7 c))
noncomputable def LSm2_q12 (c : Nat → Nat → Int) : Rat :=
  ratOf (oN (LSm2_q8 c)) (oD (LSm2_q8 c))
noncomputable def LSm2_q13 (c : Nat → Nat → Int) : Rat :=
  ratOf (oN (LSm2_q9 c)) (oD (LSm2_q9 c))
noncomputable def LSm2_q14 (c : Nat → Nat → Int) : Rat :=
  ratOf (c (Int.toNat (w64 ((0 : Int) + (1 : Int)))) 0) (c (Int.toNat (w64 ((0 : Int) + (1 : Int)))) 1)
noncomputable def LSm2_q15 (c : Nat → Nat → Int) : Rat :=
  ratOf (c (Int.toNat (w64 ((0 : Int) + (1 : Int)))) 2) (c (Int.toNat (w64 ((0 : Int) + (1 : Int)))) 3)
noncomputable def LSm2_q16 (c : Nat → Nat → Int) : Rat :=
  ratOf (c (Int.toNat (w64 ((0 : Int) + (1 : Int)))) 4) (c (Int.toNat (w64 ((0 : Int) + (1 : Int)))) 5)
noncomputable def LSm2_q17 (c : Nat → Nat → Int) : Rat :=
  ratOf (c (Int.toNat (w64 ((0 : Int) + (1 : Int)))) 6) (c (Int.toNat (w64 ((0 : Int) + (1 : Int)))) 7)
noncomputable def LSm2_q18 (c : Nat → Nat → Int) : Option (Rat × Rat × Rat × Rat) :=
  addO (LSm2_q10 c) (LSm2_q11 c) (LSm2_q12 c) (LSm2_q13 c) (LSm2_q14 c) (LSm2_q15 c) (LSm2_q16 c) (LSm2_q17 c)
noncomputable def LSm2_q19 (c : Nat → Nat → Int) : Option Rat :=
  k0 (LSm2_q18 c)
noncomputable def LSm2_q20 (c : Nat → Nat → Int) : Option Rat :=
  k1 (LSm2_q18 c)
noncomputable def LSm2_q21 (c : Nat → Nat → Int) : Option Rat :=
  k2 (LSm2_q18 c)
noncomputable def LSm2_q22 (c : Nat → Nat → Int) : Option Rat :=
  k3 (LSm2_q18 c)
noncomputable def LSm2 (c : Nat → Nat → Int) : Tree SV :=
  .need ((0 : Int) ≤ (0 : Int) ∧ (0 : Int) < (4 : Int))
  (.need (0 < 4)
   (.need ((0 : Int) ≤ (1 : Int) ∧ (1 : Int) < (4 : Int))
   (.need (1 < 4)
   (.need ((0 : Int) ≤ (2 : Int) ∧ (2 : Int) < (4 : Int))
   (.need (2 < 4)
   (.need ((0 : Int) ≤ (3 : Int) ∧ (3 : Int) < (4 : Int))
   (.need (3 < 4)
   (.need (true = true)
   (.need ((0 : Int) ≤ (0 : Int) ∧ (0 : Int) < (2 : Int))
   (.need
   (VL (0 : Int) (1 : Int) (0 : Int) (1 : Int) (0 : Int) (1 : Int) (0 : Int) (1 : Int) ∧
   VL (c (Int.toNat (0 : Int)) 0) (c (Int.toNat (0 : Int)) 1) (c (Int.toNat (0 : Int)) 2) (c (Int.toNat (0 : Int)) 3) (c (Int.toNat (0 : Int)) 4)
   (c (Int.toNat (0 : Int)) 5) (c (Int.toNat (0 : Int)) 6) (c (Int.toNat (0 : Int)) 7))
   (.ite (oE (LSm2_q5 c) != (0 : Int))
   (.ret (SV.tup [SV.agg [iv (0 : Int), iv (0 : Int), iv (0 : Int), iv (0 : Int), iv (0 : Int), iv (0 : Int), iv (0 : Int), iv (0 : Int)], iv (oE (LSm2_q5 c))]))
   (.need (true = true)
   (.need ((0 : Int) ≤ (1 : Int) ∧ (1 : Int) < (2 : Int))
   (.need
   (VL (oN (LSm2_q6 c)) (oD (LSm2_q6 c)) (oN (LSm2_q7 c)) (oD (LSm2_q7 c)) (oN (LSm2_q8 c)) (oD (LSm2_q8 c)) (oN (LSm2_q9 c))
   (oD (LSm2_q9 c)) ∧
   VL (c (Int.toNat (w64 ((0 : Int) + (1 : Int)))) 0) (c (Int.toNat (w64 ((0 : Int) + (1 : Int)))) 1) (c (Int.toNat (w64 ((0 : Int) + (1 : Int)))) 2)
   (c (Int.toNat (w64 ((0 : Int) + (1 : Int)))) 3) (c (Int.toNat (w64 ((0 : Int) + (1 : Int)))) 4) (c (Int.toNat (w64 ((0 : Int) + (1 : Int)))) 5)
   (c (Int.toNat (w64 ((0 : Int) + (1 : Int)))) 6) (c (Int.toNat (w64 ((0 : Int) + (1 : Int)))) 7))
   (.ite (oE (LSm2_q18 c) != (0 : Int))
   (.ret (SV.tup [SV.agg [iv (0 : Int), iv (0 : Int), iv (0 : Int), iv (0 : Int), iv (0 : Int), iv (0 : Int), iv (0 : Int), iv (0 : Int)], iv (oE (LSm2_q18 c))]))
   (.need (false = false)
   (.ret
   (SV.tup
   [SV.agg
   [iv (oN (LSm2_q19 c)), iv (oD (LSm2_q19 c)), iv (oN (LSm2_q20 c)), iv (oD (LSm2_q20 c)), iv (oN (LSm2_q21 c)), iv (oD (LSm2_q21 c)),
   iv (oN (LSm2_q22 c)), iv (oD (LSm2_q22 c))],
   iv (0 : Int)]))))))))))))))))))

theorem LSm2_eq (c : Nat → Nat → Int) : TH (eachH 2) 56 [.d (.ro 2 8 fun i j => .x (.int .i64 (c i j)))] = LSm2 c := by kernel_rfl

noncomputable def LSm3_q1 (c : Nat → Nat → Int) : Rat :=
  ratOf (c (Int.toNat (0 : Int)) 0) (c (Int.toNat (0 : Int)) 1)
noncomputable def LSm3_q2 (c : Nat → Nat → Int) : Rat :=
  ratOf (c (Int.toNat (0 : Int)) 2) (c (Int.toNat (0 : Int)) 3)
noncomputable def LSm3_q3 (c : Nat → Nat → Int) : Rat :=
  ratOf (c (Int.toNat (0 : Int)) 4) (c (Int.toNat (0 : Int)) 5)
noncomputable def LSm3_q4 (c : Nat → Nat → Int) : Rat :=
  ratOf (c (Int.toNat (0 : Int)) 6) (c (Int.toNat (0 : Int)) 7)
noncomputable def LSm3_q5 (c : Nat → Nat → Int) : Option (Rat × Rat × Rat × Rat) :=
  addO (ratOf (List.getD [(0 : Int), (0 : Int), (0 : Int), (0 : Int)] (Int.toNat (0 : Int)) (0 : Int)) (List.getD [(1 : Int), (1 : Int), (1 : Int), (1 : Int)] (Int.toNat (0 : Int)) (0 : Int)))
  (ratOf (List.getD [(0 : Int), (0 : Int), (0 : Int), (0 : Int)] (Int.toNat (1 : Int)) (0 : Int)) (List.getD [(1 : Int), (1 : Int), (1 : Int), (1 : Int)] (Int.toNat (1 : Int)) (0 : Int)))
  (ratOf (List.getD [(0 : Int), (0 : Int), (0 : Int), (0 : Int)] (Int.toNat (2 : Int)) (0 : Int)) (List.getD [(1 : Int), (1 : Int), (1 : Int), (1 : Int)] (Int.toNat (2 : Int)) (0 : Int)))
  (ratOf (List.getD [(0 : Int), (0 : Int), (0 : Int), (0 : Int)] (Int.toNat (3 : Int)) (0 : Int)) (List.getD [(1 : Int), (1 : Int), (1 : Int), (1 : Int)] (Int.toNat (3 : Int)) (0 : Int))) (LSm3_q1 c) (LSm3_q2 c)
  (LSm3_q3 c) (LSm3_q4 c)
noncomputable def LSm3_q6 (c : Nat → Nat → Int) : Option Rat :=
  k0 (LSm3_q5 c)
noncomputable def LSm3_q7 (c : Nat → Nat → Int) : Option Rat :=
  k1 (LSm3_q5 c)
noncomputable def LSm3_q8 (c : Nat → Nat → Int) : Option Rat :=
  k2 (LSm3_q5 c)
noncomputable def LSm3_q9 (c : Nat → Nat → Int) : Option Rat :=
  k3 (LSm3_q5 c)
noncomputable def LSm3_q10 (c : Nat → Nat → Int) : Rat :=
  ratOf (oN (LSm3_q6 c)) (oD (LSm3_q6 c))
noncomputable def LSm3_q11 (c : Nat → Nat → Int) : Rat :=
  ratOf (oN (LSm3_q7 c)) (oD (LSm3_q7 c))
noncomputable def LSm3_q12 (c : Nat → Nat → Int) : Rat :=
  ratOf (oN (LSm3_q8 c)) (oD (LSm3_q8 c))
noncomputable def LSm3_q13 (c : Nat → Nat → Int) : Rat :=
  ratOf (oN (LSm3_q9 c)) (oD (LSm3_q9 c))
noncomputable def LSm3_q14 (c : Nat → Nat → Int) : Rat :=
  ratOf (c (Int.toNat (w64 ((0 : Int) + (1 : Int)))) 0) (c (Int.toNat (w64 ((0 : Int) + (1 : Int)))) 1)
noncomputable def LSm3_q15 (c : Nat → Nat → Int) : Rat :=
  ratOf (c (Int.toNat (w64 ((0 : Int) + (1 : Int)))) 2) (c (Int.toNat (w64 ((0 : Int) + (1 : Int)))) 3)
noncomputable def LSm3_q16 (c : Nat → Nat → Int) : Rat :=
  ratOf (c (Int.toNat (w64 ((0 : Int) + (1 : Int)))) 4) (c (Int.toNat (w64 ((0 : Int) + (1 : Int)))) 5)
noncomputable def LSm3_q17 (c : Nat → Nat → Int) : Rat :=
  ratOf (c (Int.toNat (w64 ((0 : Int) + (1 : Int)))) 6) (c (Int.toNat (w64 ((0 : Int) + (1 : Int)))) 7)
noncomputable def LSm3_q18 (c : Nat → Nat → Int) : Option (Rat × Rat × Rat × Rat) :=
  addO (LSm3_q10 c) (LSm3_q11 c) (LSm3_q12 c) (LSm3_q13 c) (LSm3_q14 c) (LSm3_q15 c) (LSm3_q16 c) (LSm3_q17 c)
noncomputable def LSm3_q19 (c : Nat → Nat → Int) : Option Rat :=
  k0 (LSm3_q18 c)
noncomputable def LSm3_q20 (c : Nat → Nat → Int) : Option Rat :=
  k1 (LSm3_q18 c)
noncomputable def LSm3_q21 (c : Nat → Nat → Int) : Option Rat :=
  k2 (LSm3_q18 c)
noncomputable def LSm3_q22 (c : Nat → Nat → Int) : Option Rat :=
  k3 (LSm3_q18 c)
noncomputable def LSm3_q23 (c : Nat → Nat → Int) : Rat :=
  ratOf (oN (LSm3_q19 c)) (oD (LSm3_q19 c))
noncomputable def LSm3_q24 (c : Nat → Nat → Int) : Rat :=
  ratOf (oN (LSm3_q20 c)) (oD (LSm3_q20 c))
noncomputable def LSm3_q25 (c : Nat → Nat → Int) : Rat :=
  ratOf (oN (LSm3_q21 c)) (oD (LSm3_q21 c))
noncomputable def LSm3_q26 (c : Nat → Nat → Int) : Rat :=
  ratOf (oN (LSm3_q22 c)) (oD (LSm3_q22 c))
noncomputable def LSm3_q27 (c : Nat → Nat → Int) : Rat :=
  ratOf (c (Int.toNat (w64 (w64 ((0 : Int) + (1 : Int)) + (1 : Int)))) 0) (c (Int.toNat (w64 (w64 ((0 : Int) + (1 : Int)) + (1 : Int)))) 1)
noncomputable def LSm3_q28 (c : Nat → Nat → Int) : Rat :=
  ratOf (c (Int.toNat (w64 (w64 ((0 : Int) + (1 : Int)) + (1 : Int)))) 2) (c (Int.toNat (w64 (w64 ((0 : Int) + (1 : Int)) + (1 : Int)))) 3)
noncomputable def LSm3_q29 (c : Nat → Nat → Int) : Rat :=
  ratOf (c (Int.toNat (w64 (w64 ((0 : Int) + (1 : Int)) + (1 : Int)))) 4) (c (Int.toNat (w64 (w64 ((0 : Int) + (1 : Int)) + (1 : Int)))) 5)
noncomputable def LSm3_q30 (c : Nat → Nat → Int) : Rat :=
  ratOf (c (Int.toNat (w64 (w64 ((0 : Int) + (1 : Int)) + (1 : Int)))) 6) (c (Int.toNat (w64 (w64 ((0 : Int) + (1 : Int)) + (1 : Int)))) 7)
noncomputable def LSm3_q31 (c : Nat → Nat → Int) : Option (Rat × Rat × Rat × Rat) :=
  addO (LSm3_q23 c) (LSm3_q24 c) (LSm3_q25 c) (LSm3_q26 c) (LSm3_q27 c) (LSm3_q28 c) (LSm3_q29 c) (LSm3_q30 c)
noncomputable def LSm3_q32 (c : Nat → Nat → Int) : Option Rat :=
  k0 (LSm3_q31 c)
noncomputable def LSm3_q33 (c : Nat → Nat → Int) : Option Rat :=
  k1 (LSm3_q31 c)
noncomputable def LSm3_q34 (c : Nat → Nat → Int) : Option Rat :=
  k2 (LSm3_q31 c)
noncomputable def LSm3_q35 (c : Nat → Nat → Int) : Option Rat :=
  k3 (LSm3_q31 c)
noncomputable def LSm3 (c : Nat → Nat → Int) : Tree SV :=
  .need ((0 : Int) ≤ (0 : Int) ∧ (0 : Int) < (4 : Int))
  (.need (0 < 4)
   (.need ((0 : Int) ≤ (1 : Int) ∧ (1 : Int) < (4 : Int))
   (.need (1 < 4)
   (.need ((0 : Int) ≤ (2 : Int) ∧ (2 : Int) < (4 : Int))
   (.need (2 < 4)
   (.need ((0 : Int) ≤ (3 : Int) ∧ (3 : Int) < (4 : Int))
   (.need (3 < 4)
   (.need (true = true)
   (.need ((0 : Int) ≤ (0 : Int) ∧ (0 : Int) < (3 : Int))
   (.need
   (VL (0 : Int) (1 : Int) (0 : Int) (1 : Int) (0 : Int) (1 : Int) (0 : Int) (1 : Int) ∧
   VL (c (Int.toNat (0 : Int)) 0) (c (Int.toNat (0 : Int)) 1) (c (Int.toNat (0 : Int)) 2) (c (Int.toNat (0 : Int)) 3) (c (Int.toNat (0 : Int)) 4)
   (c (Int.toNat (0 : Int)) 5) (c (Int.toNat (0 : Int)) 6) (c (Int.toNat (0 : Int)) 7))
   (.ite (oE (LSm3_q5 c) != (0 : Int))
   (.ret (SV.tup [SV.agg [iv (0 : Int), iv (0 : Int), iv (0 : Int), iv (0 : Int), iv (0 : Int), iv (0 : Int), iv (0 : Int), iv (0 : Int)], iv (oE (LSm3_q5 c))]))
   (.need (true = true)
   (.need ((0 : Int) ≤ (1 : Int) ∧ (1 : Int) < (3 : Int))
   (.need
   (VL (oN (LSm3_q6 c)) (oD (LSm3_q6 c)) (oN (LSm3_q7 c)) (oD (LSm3_q7 c)) (oN (LSm3_q8 c)) (oD (LSm3_q8 c)) (oN (LSm3_q9 c))
   (oD (LSm3_q9 c)) ∧
   VL (c (Int.toNat (w64 ((0 : Int) + (1 : Int)))) 0) (c (Int.toNat (w64 ((0 : Int) + (1 : Int)))) 1) (c (Int.toNat (w64 ((0 : Int) + (1 : Int)))) 2)
   (c (Int.toNat (w64 ((0 : Int) + (1 : Int)))) 3) (c (Int.toNat (w64 ((0 : Int) + (1 : Int)))) 4) (c (Int.toNat (w64 ((0 : Int) + (1 : Int)))) 5)
   (c (Int.toNat (w64 ((0 : Int) + (1 : Int)))) 6) (c (Int.toNat (w64 ((0 : Int) + (1 : Int)))) 7))
   (.ite (oE (LSm3_q18 c) != (0 : Int))
   (.ret (SV.tup [SV.agg [iv (0 : Int), iv (0 : Int), iv (0 : Int), iv (0 : Int), iv (0 : Int), iv (0 : Int), iv (0 : Int), iv (0 : Int)], iv (oE (LSm3_q18 c))]))
   (.need (true = true)
   (.need ((0 : Int) ≤ (2 : Int) ∧ (2 : Int) < (3 : Int))
   (.need
   (VL (oN (LSm3_q19 c)) (oD (LSm3_q19 c)) (oN (LSm3_q20 c)) (oD (LSm3_q20 c)) (oN (LSm3_q21 c)) (oD (LSm3_q21 c))
   (oN (LSm3_q22 c)) (oD (LSm3_q22 c)) ∧
   VL (c (Int.toNat (w64 (w64 ((0 : Int) + (1 : Int)) + (1 : Int)))) 0) (c (Int.toNat (w64 (w64 ((0 : Int) + (1 : Int)) + (1 : Int)))) 1)
   (c (Int.toNat (w64 (w64 ((0 : Int) + (1 : Int)) + (1 : Int)))) 2) (c (Int.toNat (w64 (w64 ((0 : Int) + (1 : Int)) + (1 : Int)))) 3)
   (c (Int.toNat (w64 (w64 ((0 : Int) + (1 : Int)) + (1 : Int)))) 4) (c (Int.toNat (w64 (w64 ((0 : Int) + (1 : Int)) + (1 : Int)))) 5)
   (c (Int.toNat (w64 (w64 ((0 : Int) + (1 : Int)) + (1 : Int)))) 6) (c (Int.toNat (w64 (w64 ((0 : Int) + (1 : Int)) + (1 : Int)))) 7))
   (.ite (oE (LSm3_q31 c) != (0 : Int))
   (.ret (SV.tup [SV.agg [iv (0 : Int), iv (0 : Int), iv (0 : Int), iv (0 : Int), iv (0 : Int), iv (0 : Int), iv (0 : Int), iv (0 : Int)], iv (oE (LSm3_q31 c))]))
   (.need (false = false)
   (.ret
   (SV.tup
   [SV.agg
   [iv (oN (LSm3_q32 c)), iv (oD (LSm3_q32 c)), iv (oN (LSm3_q33 c)), iv (oD (LSm3_q33 c)), iv (oN (LSm3_q34 c)),
   iv (oD (LSm3_q34 c)), iv (oN (LSm3_q35 c)), iv (oD (LSm3_q35 c))],
   iv (0 : Int)]))))))))))))))))))))))

theorem LSm3_eq (c : Nat → Nat → Int) : TH (eachH 3) 56 [.d (.ro 3 8 fun i j => .x (.int .i64 (c i j)))] = LSm3 c := by kernel_rfl

noncomputable def LAdQ_q1 (a0 : Int) (a1 : Int) : Rat :=
  ratOf a0 a1
noncomputable def LAdQ_q2 (b0 : Int) (b1 : Int) : Rat :=
  ratOf b0 b1
noncomputable def LAdQ_q3 (a0 : Int) (a1 : Int) (b0 : Int) (b1 : Int) : Rat :=
  LAdQ_q1 a0 a1 + LAdQ_q2 b0 b1
noncomputable def LAdQ_q4 (a2 : Int) (a3 : Int) : Rat :=
  ratOf a2 a3
noncomputable def LAdQ_q5 (b2 : Int) (b3 : Int) : Rat :=
  ratOf b2 b3
noncomputable def LAdQ_q6 (a2 : Int) (a3 : Int) (b2 : Int) (b3 : Int) : Rat :=
  LAdQ_q4 a2 a3 + LAdQ_q5 b2 b3
noncomputable def LAdQ_q7 (a4 : Int) (a5 : Int) : Rat :=
  ratOf a4 a5
noncomputable def LAdQ_q8 (b4 : Int) (b5 : Int) : Rat :=
  ratOf b4 b5
noncomputable def LAdQ_q9 (a4 : Int) (a5 : Int) (b4 : Int) (b5 : Int) : Rat :=
  LAdQ_q7 a4 a5 + LAdQ_q8 b4 b5
noncomputable def LAdQ_q10 (a6 : Int) (a7 : Int) : Rat :=
  ratOf a6 a7
noncomputable def LAdQ_q11 (b6 : Int) (b7 : Int) : Rat :=
  ratOf b6 b7
noncomputable def LAdQ_q12 (a6 : Int) (a7 : Int) (b6 : Int) (b7 : Int) : Rat :=
  LAdQ_q10 a6 a7 + LAdQ_q11 b6 b7
noncomputable def LAdQ_q13 (a0 : Int) (a1 : Int) (a2 : Int) (a3 : Int) (a4 : Int) (a5 : Int) (a6 : Int) (a7 : Int) (b0 : Int) (b1 : Int) (b2 : Int) (b3 : Int) (b4 : Int) (b5 : Int) (b6 : Int) (b7 : Int) : Bool :=
  rE (LAdQ_q3 a0 a1 b0 b1) == (0 : Int) && rE (LAdQ_q6 a2 a3 b2 b3) == (0 : Int) && rE (LAdQ_q9 a4 a5 b4 b5) == (0 : Int) && rE (LAdQ_q12 a6 a7 b6 b7) == (0 : Int)
noncomputable def LAdQ (a0 a1 a2 a3 a4 a5 a6 a7 b0 b1 b2 b3 b4 b5 b6 b7 : Int) : Tree SV :=
  .need (VF a0 a1 ∧ VF b0 b1)
  (.need (VF a2 a3 ∧ VF b2 b3)
   (.need (VF a4 a5 ∧ VF b4 b5)
   (.need (VF a6 a7 ∧ VF b6 b7)
   (.ret
   (SV.agg
   [iv (lnI (LAdQ_q13 a0 a1 a2 a3 a4 a5 a6 a7 b0 b1 b2 b3 b4 b5 b6 b7) (rN (LAdQ_q3 a0 a1 b0 b1))),
   iv (lnI (LAdQ_q13 a0 a1 a2 a3 a4 a5 a6 a7 b0 b1 b2 b3 b4 b5 b6 b7) (rD (LAdQ_q3 a0 a1 b0 b1))),
   iv (lnI (LAdQ_q13 a0 a1 a2 a3 a4 a5 a6 a7 b0 b1 b2 b3 b4 b5 b6 b7) (rN (LAdQ_q6 a2 a3 b2 b3))),
   iv (lnI (LAdQ_q13 a0 a1 a2 a3 a4 a5 a6 a7 b0 b1 b2 b3 b4 b5 b6 b7) (rD (LAdQ_q6 a2 a3 b2 b3))),
   iv (lnI (LAdQ_q13 a0 a1 a2 a3 a4 a5 a6 a7 b0 b1 b2 b3 b4 b5 b6 b7) (rN (LAdQ_q9 a4 a5 b4 b5))),
   iv (lnI (LAdQ_q13 a0 a1 a2 a3 a4 a5 a6 a7 b0 b1 b2 b3 b4 b5 b6 b7) (rD (LAdQ_q9 a4 a5 b4 b5))),
   iv (lnI (LAdQ_q13 a0 a1 a2 a3 a4 a5 a6 a7 b0 b1 b2 b3 b4 b5 b6 b7) (rN (LAdQ_q12 a6 a7 b6 b7))),
   iv (lnI (LAdQ_q13 a0 a1 a2 a3 a4 a5 a6 a7 b0 b1 b2 b3 b4 b5 b6 b7) (rD (LAdQ_q12 a6 a7 b6 b7))),
   iv (bif LAdQ_q13 a0 a1 a2 a3 a4 a5 a6 a7 b0 b1 b2 b3 b4 b5 b6 b7 then (0 : Int) else (2 : Int))])))))

theorem LAdQ_eq (a0 a1 a2 a3 a4 a5 a6 a7 b0 b1 b2 b3 b4 b5 b6 b7 : Int) : TH .nil 65 [.agg [iv a0, iv a1, iv a2, iv a3, iv a4, iv a5, iv a6, iv a7], .agg [iv b0, iv b1, iv b2, iv b3, iv b4, iv b5, iv b6, iv b7]] = LAdQ a0 a1 a2 a3 a4 a5 a6 a7 b0 b1 b2 b3 b4 b5 b6 b7 := by kernel_rfl

noncomputable def LScQ_q1 (a0 : Int) (a1 : Int) : Rat :=
  ratOf a0 a1
noncomputable def LScQ_q2 (b0 : Int) (b1 : Int) : Rat :=
  ratOf b0 b1
noncomputable def LScQ_q3 (a0 : Int) (a1 : Int) (b0 : Int) (b1 : Int) : Rat :=
  LScQ_q1 a0 a1 * LScQ_q2 b0 b1
noncomputable def LScQ_q4 (a2 : Int) (a3 : Int) : Rat :=
  ratOf a2 a3
noncomputable def LScQ_q5 (a2 : Int) (a3 : Int) (b0 : Int) (b1 : Int) : Rat :=
  LScQ_q4 a2 a3 * LScQ_q2 b0 b1
noncomputable def LScQ_q6 (a4 : Int) (a5 : Int) : Rat :=
  ratOf a4 a5
noncomputable def LScQ_q7 (a4 : Int) (a5 : Int) (b0 : Int) (b1 : Int) : Rat :=
  LScQ_q6 a4 a5 * LScQ_q2 b0 b1
noncomputable def LScQ_q8 (a6 : Int) (a7 : Int) : Rat :=
  ratOf a6 a7
noncomputable def LScQ_q9 (a6 : Int) (a7 : Int) (b0 : Int) (b1 : Int) : Rat :=
  LScQ_q8 a6 a7 * LScQ_q2 b0 b1
noncomputable def LScQ_q10 (a0 : Int) (a1 : Int) (a2 : Int) (a3 : Int) (a4 : Int) (a5 : Int) (a6 : Int) (a7 : Int) (b0 : Int) (b1 : Int) : Bool :=
  rE (LScQ_q3 a0 a1 b0 b1) == (0 : Int) && rE (LScQ_q5 a2 a3 b0 b1) == (0 : Int) && rE (LScQ_q7 a4 a5 b0 b1) == (0 : Int) && rE (LScQ_q9 a6 a7 b0 b1) == (0 : Int)
noncomputable def LScQ (a0 a1 a2 a3 a4 a5 a6 a7 b0 b1 : Int) : Tree SV :=
  .need (VF a0 a1 ∧ VF b0 b1)
  (.need (VF a2 a3 ∧ VF b0 b1)
   (.need (VF a4 a5 ∧ VF b0 b1)
   (.need (VF a6 a7 ∧ VF b0 b1)
   (.ret
   (SV.agg
   [iv (lnI (LScQ_q10 a0 a1 a2 a3 a4 a5 a6 a7 b0 b1) (rN (LScQ_q3 a0 a1 b0 b1))), iv (lnI (LScQ_q10 a0 a1 a2 a3 a4 a5 a6 a7 b0 b1) (rD (LScQ_q3 a0 a1 b0 b1))),
   iv (lnI (LScQ_q10 a0 a1 a2 a3 a4 a5 a6 a7 b0 b1) (rN (LScQ_q5 a2 a3 b0 b1))), iv (lnI (LScQ_q10 a0 a1 a2 a3 a4 a5 a6 a7 b0 b1) (rD (LScQ_q5 a2 a3 b0 b1))),
   iv (lnI (LScQ_q10 a0 a1 a2 a3 a4 a5 a6 a7 b0 b1) (rN (LScQ_q7 a4 a5 b0 b1))), iv (lnI (LScQ_q10 a0 a1 a2 a3 a4 a5 a6 a7 b0 b1) (rD (LScQ_q7 a4 a5 b0 b1))),
   iv (lnI (LScQ_q10 a0 a1 a2 a3 a4 a5 a6 a7 b0 b1) (rN (LScQ_q9 a6 a7 b0 b1))), iv (lnI (LScQ_q10 a0 a1 a2 a3 a4 a5 a6 a7 b0 b1) (rD (LScQ_q9 a6 a7 b0 b1))),
   iv (bif LScQ_q10 a0 a1 a2 a3 a4 a5 a6 a7 b0 b1 then (0 : Int) else (2 : Int))])))))

theorem LScQ_eq (a0 a1 a2 a3 a4 a5 a6 a7 b0 b1 : Int) : TH .nil 66 [.agg [iv a0, iv a1, iv a2, iv a3, iv a4, iv a5, iv a6, iv a7], .agg [iv b0, iv b1]] = LScQ a0 a1 a2 a3 a4 a5 a6 a7 b0 b1 := by kernel_rfl


end Go.Proofs.Ytpaejfeojdoikaa

namespace Go.Proofs.Ytpaejfeojdoikaa
open Go.Sx
set_option maxRecDepth 100000

theorem rE_beq {r : Rat} : (rE r == 0) = decide (fitsR r) := by
  by_cases h : fitsR r
  · simp [rE_of h, h]
  · simp [rE_no h, h]
noncomputable def cLaR : Ctr := fun ss => match ss with
  | [.agg l, .agg m] => match intsOf .i64 l, intsOf .i64 m with
    | some [a0, a1, a2, a3, a4, a5, a6, a7], some [b0, b1, b2, b3, b4, b5, b6, b7] => .need (VL a0 a1 a2 a3 a4 a5 a6 a7 ∧ VL b0 b1 b2 b3 b4 b5 b6 b7)
      (.ret (.agg [iv (oN (k0 (addO (ratOf a0 a1) (ratOf a2 a3) (ratOf a4 a5) (ratOf a6 a7) (ratOf b0 b1) (ratOf b2 b3) (ratOf b4 b5) (ratOf b6 b7)))), iv (oD (k0 (addO (ratOf a0 a1) (ratOf a2 a3) (ratOf a4 a5) (ratOf a6 a7) (ratOf b0 b1) (ratOf b2 b3) (ratOf b4 b5) (ratOf b6 b7)))),
        iv (oN (k1 (addO (ratOf a0 a1) (ratOf a2 a3) (ratOf a4 a5) (ratOf a6 a7) (ratOf b0 b1) (ratOf b2 b3) (ratOf b4 b5) (ratOf b6 b7)))), iv (oD (k1 (addO (ratOf a0 a1) (ratOf a2 a3) (ratOf a4 a5) (ratOf a6 a7) (ratOf b0 b1) (ratOf b2 b3) (ratOf b4 b5) (ratOf b6 b7)))),
        iv (oN (k2 (addO (ratOf a0 a1) (ratOf a2 a3) (ratOf a4 a5) (ratOf a6 a7) (ratOf b0 b1) (ratOf b2 b3) (ratOf b4 b5) (ratOf b6 b7)))), iv (oD (k2 (addO (ratOf a0 a1) (ratOf a2 a3) (ratOf a4 a5) (ratOf a6 a7) (ratOf b0 b1) (ratOf b2 b3) (ratOf b4 b5) (ratOf b6 b7)))),
        iv (oN (k3 (addO (ratOf a0 a1) (ratOf a2 a3) (ratOf a4 a5) (ratOf a6 a7) (ratOf b0 b1) (ratOf b2 b3) (ratOf b4 b5) (ratOf b6 b7)))), iv (oD (k3 (addO (ratOf a0 a1) (ratOf a2 a3) (ratOf a4 a5) (ratOf a6 a7) (ratOf b0 b1) (ratOf b2 b3) (ratOf b4 b5) (ratOf b6 b7)))),
        iv (oE (addO (ratOf a0 a1) (ratOf a2 a3) (ratOf a4 a5) (ratOf a6 a7) (ratOf b0 b1) (ratOf b2 b3) (ratOf b4 b5) (ratOf b6 b7)))]))
    | _, _ => .fail
  | _ => .fail
theorem cLaR_ok : CtrOK Try.prog 65 cLaR := by
  refine ctrOK_leS CH_ok DH_ok (by kernel_rfl) (by kernel_rfl) fun ss r hh => ?_
  unfold cLaR at hh
  split at hh
  · split at hh
    · rename_i a0 a1 a2 a3 a4 a5 a6 a7 b0 b1 b2 b3 b4 b5 b6 b7 e1 e2
      obtain ⟨⟨x, y⟩, rfl⟩ := hh
      rw [intsOf_eq e1, intsOf_eq e2]
      refine ⟨_, 200, .nil, by simp [leSVs, leSV, iv, leD], Sat.of_eq (LAdQ_eq a0 a1 a2 a3 a4 a5 a6 a7 b0 b1 b2 b3 b4 b5 b6 b7) ⟨?_⟩⟩
      unfold LAdQ
      simp only [LAdQ_q1, LAdQ_q2, LAdQ_q3, LAdQ_q4, LAdQ_q5, LAdQ_q6, LAdQ_q7, LAdQ_q8, LAdQ_q9, LAdQ_q10, LAdQ_q11, LAdQ_q12, LAdQ_q13]
      unfold addO
      refine ⟨⟨x.k, y.k⟩, ⟨x.t, y.t⟩, ⟨x.v, y.v⟩, ⟨x.a, y.a⟩, ?_⟩
      generalize ratOf a0 a1 + ratOf b0 b1 = p
      generalize ratOf a2 a3 + ratOf b2 b3 = q
      generalize ratOf a4 a5 + ratOf b4 b5 = r
      generalize ratOf a6 a7 + ratOf b6 b7 = s
      simp only [sat_ret, rE_beq]
      by_cases h0 : fitsR p <;> by_cases h1 : fitsR q <;> by_cases h2 : fitsR r <;> by_cases h3 : fitsR s <;> simp [fit, rN, rD, rE, lnI, quad, k0, k1, k2, k3, oN, oD, oE, h0, h1, h2, h3]
    · exact hh.elim
  · exact hh.elim
noncomputable def cLsR : Ctr := fun ss => match ss with
  | [.agg l, .agg [.d (.x (.int .i64 b0)), .d (.x (.int .i64 b1))]] => match intsOf .i64 l with
    | some [a0, a1, a2, a3, a4, a5, a6, a7] => .need (VL a0 a1 a2 a3 a4 a5 a6 a7 ∧ VF b0 b1)
      (.ret (.agg [iv (oN (k0 (sclO (ratOf a0 a1) (ratOf a2 a3) (ratOf a4 a5) (ratOf a6 a7) (ratOf b0 b1)))), iv (oD (k0 (sclO (ratOf a0 a1) (ratOf a2 a3) (ratOf a4 a5) (ratOf a6 a7) (ratOf b0 b1)))),
        iv (oN (k1 (sclO (ratOf a0 a1) (ratOf a2 a3) (ratOf a4 a5) (ratOf a6 a7) (ratOf b0 b1)))), iv (oD (k1 (sclO (ratOf a0 a1) (ratOf a2 a3) (ratOf a4 a5) (ratOf a6 a7) (ratOf b0 b1)))),
        iv (oN (k2 (sclO (ratOf a0 a1) (ratOf a2 a3) (ratOf a4 a5) (ratOf a6 a7) (ratOf b0 b1)))), iv (oD (k2 (sclO (ratOf a0 a1) (ratOf a2 a3) (ratOf a4 a5) (ratOf a6 a7) (ratOf b0 b1)))),
        iv (oN (k3 (sclO (ratOf a0 a1) (ratOf a2 a3) (ratOf a4 a5) (ratOf a6 a7) (ratOf b0 b1)))), iv (oD (k3 (sclO (ratOf a0 a1) (ratOf a2 a3) (ratOf a4 a5) (ratOf a6 a7) (ratOf b0 b1)))),
        iv (oE (sclO (ratOf a0 a1) (ratOf a2 a3) (ratOf a4 a5) (ratOf a6 a7) (ratOf b0 b1)))]))
    | _ => .fail
  | _ => .fail
theorem cLsR_ok : CtrOK Try.prog 66 cLsR := by
  refine ctrOK_leS CH_ok DH_ok (by kernel_rfl) (by kernel_rfl) fun ss r hh => ?_
  unfold cLsR at hh
  split at hh
  · rename_i b0 b1
    split at hh
    · rename_i a0 a1 a2 a3 a4 a5 a6 a7 e1
      obtain ⟨⟨x, wk⟩, rfl⟩ := hh
      rw [intsOf_eq e1]
      refine ⟨[_, .agg [iv b0, iv b1]], 200, .nil, by simp [leSVs, leSV, iv, leD], Sat.of_eq (LScQ_eq a0 a1 a2 a3 a4 a5 a6 a7 b0 b1) ⟨?_⟩⟩
      unfold LScQ
      simp only [LScQ_q1, LScQ_q2, LScQ_q3, LScQ_q4, LScQ_q5, LScQ_q6, LScQ_q7, LScQ_q8, LScQ_q9, LScQ_q10]
      unfold sclO
      refine ⟨⟨x.k, wk⟩, ⟨x.t, wk⟩, ⟨x.v, wk⟩, ⟨x.a, wk⟩, ?_⟩
      generalize ratOf a0 a1 * ratOf b0 b1 = p
      generalize ratOf a2 a3 * ratOf b0 b1 = q
      generalize ratOf a4 a5 * ratOf b0 b1 = r
      generalize ratOf a6 a7 * ratOf b0 b1 = s
      simp only [sat_ret, rE_beq]
      by_cases h0 : fitsR p <;> by_cases h1 : fitsR q <;> by_cases h2 : fitsR r <;> by_cases h3 : fitsR s <;> simp [fit, rN, rD, rE, lnI, quad, k0, k1, k2, k3, oN, oD, oE, h0, h1, h2, h3]
    · exact hh.elim
  · exact hh.elim

/-! ### Sums of lists of functions -/
structure VRow (c : Nat → Int) : Prop where
  k : VF (c 0) (c 1)
  t : VF (c 2) (c 3)
  v : VF (c 4) (c 5)
  a : VF (c 6) (c 7)
theorem VRow.vl {c : Nat → Int} (h : VRow c) : VL (c 0) (c 1) (c 2) (c 3) (c 4) (c 5) (c 6) (c 7) := ⟨h.k, h.t, h.v, h.a⟩
noncomputable def add2 (c d : Nat → Int) : Option (Rat × Rat × Rat × Rat) := addO (ratOf (c 0) (c 1)) (ratOf (c 2) (c 3)) (ratOf (c 4) (c 5)) (ratOf (c 6) (c 7)) (ratOf (d 0) (d 1)) (ratOf (d 2) (d 3)) (ratOf (d 4) (d 5)) (ratOf (d 6) (d 7))
noncomputable def addR : Option (Rat × Rat × Rat × Rat) → (Nat → Int) → Option (Rat × Rat × Rat × Rat)
  | some (p, q, r, s), d => addO p q r s (ratOf (d 0) (d 1)) (ratOf (d 2) (d 3)) (ratOf (d 4) (d 5)) (ratOf (d 6) (d 7))
  | none, _ => none
theorem addO_zero {a b : Nat → Int} (x : VRow b) : addO (ratOf 0 1) (ratOf 0 1) (ratOf 0 1) (ratOf 0 1) (ratOf (b 0) (b 1)) (ratOf (b 2) (b 3)) (ratOf (b 4) (b 5)) (ratOf (b 6) (b 7)) = some (ratOf (b 0) (b 1), ratOf (b 2) (b 3), ratOf (b 4) (b 5), ratOf (b 6) (b 7)) := by
  unfold addO
  rw [show ratOf 0 1 = 0 by decide +kernel, Rat.zero_add, Rat.zero_add, Rat.zero_add, Rat.zero_add, fit_of x.k.fits, fit_of x.t.fits, fit_of x.v.fits, fit_of x.a.fits]
  rfl
theorem k0_some {a b c d : Rat} : k0 (some (a, b, c, d)) = some a := rfl
theorem k1_some {a b c d : Rat} : k1 (some (a, b, c, d)) = some b := rfl
theorem k2_some {a b c d : Rat} : k2 (some (a, b, c, d)) = some c := rfl
theorem k3_some {a b c d : Rat} : k3 (some (a, b, c, d)) = some d := rfl
theorem one_w : Int.toNat (w64 ((0 : Int) + (1 : Int))) = 1 := by decide +kernel
theorem two_w : Int.toNat (w64 (w64 ((0 : Int) + (1 : Int)) + (1 : Int))) = 2 := by decide +kernel
theorem addO_fits {a b c d e f g h p q r s : Rat} (k : addO a b c d e f g h = some (p, q, r, s)) : fitsR p ∧ fitsR q ∧ fitsR r ∧ fitsR s := by
  unfold addO at k
  by_cases h0 : fitsR (a + e) <;> by_cases h1 : fitsR (b + f) <;> by_cases h2 : fitsR (c + g) <;> by_cases h3 : fitsR (d + h) <;> simp [fit, quad, h0, h1, h2, h3] at k
  obtain ⟨rfl, rfl, rfl, rfl⟩ := k
  exact ⟨h0, h1, h2, h3⟩
def cellI (cell : Nat → Nat → DV) (i j : Nat) : Int := intOf1 (cell i j)
noncomputable def sumR (n : Nat) (cell : Nat → Nat → DV) : Option (Rat × Rat × Rat × Rat) :=
  if n = 2 then add2 (cellI cell 0) (cellI cell 1) else addR (add2 (cellI cell 0) (cellI cell 1)) (cellI cell 2)
noncomputable def cSml : Ctr := fun ss => match ss with
  | [.d (.ro n 8 cell)] => .need ((n = 2 ∨ n = 3) ∧ (∀ i, i < n → VRow (cellI cell i) ∧ ∀ j, j < 8 → cell i j = .x (.int .i64 (cellI cell i j))))
      (.ret (.tup [.agg [iv (oN (k0 (sumR n cell))), iv (oD (k0 (sumR n cell))), iv (oN (k1 (sumR n cell))), iv (oD (k1 (sumR n cell))), iv (oN (k2 (sumR n cell))), iv (oD (k2 (sumR n cell))), iv (oN (k3 (sumR n cell))), iv (oD (k3 (sumR n cell)))], iv (oE (sumR n cell))]))
  | _ => .fail
noncomputable def cSmlR : Ctr := fun ss => match ss with
  | [.d (.ro n 8 cell)] => .need (n = 3 ∧ (∀ i, i < n → VRow (cellI cell i) ∧ ∀ j, j < 8 → cell i j = .x (.int .i64 (cellI cell i j))))
      (.ret (.agg [iv (oN (k0 (sumR n cell))), iv (oD (k0 (sumR n cell))), iv (oN (k1 (sumR n cell))), iv (oD (k1 (sumR n cell))), iv (oN (k2 (sumR n cell))), iv (oD (k2 (sumR n cell))), iv (oN (k3 (sumR n cell))), iv (oD (k3 (sumR n cell))), iv (oE (sumR n cell))]))
  | _ => .fail
theorem cSml_ok : CtrOK Try.prog 56 cSml := by
  refine ctrOK_leS CH_ok DH_ok (by kernel_rfl) (by kernel_rfl) fun ss r hh => ?_
  unfold cSml at hh
  split at hh
  · rename_i n cell
    obtain ⟨⟨h1, h2⟩, rfl⟩ := hh
    rcases h1 with rfl | rfl
    · refine ⟨[.d (.ro 2 8 fun i j => .x (.int .i64 (cellI cell i j)))], 200, eachH 2, ?_, Sat.of_eq (LSm2_eq (cellI cell)) ⟨?_⟩⟩
      · simp only [leSVs, leSV, leD, and_true, true_and]
        exact fun i j hi hj => (h2 i hi).2 j hj
      · have x0 := (h2 0 (by omega)).1
        have x1 := (h2 1 (by omega)).1
        unfold LSm2
        generalize hc : cellI cell = c at *
        have e5 : LSm2_q5 c = some (ratOf (c 0 0) (c 0 1), ratOf (c 0 2) (c 0 3), ratOf (c 0 4) (c 0 5), ratOf (c 0 6) (c 0 7)) := addO_zero (a := c 0) x0
        have e18 : LSm2_q18 c = add2 (c 0) (c 1) := by
          simp only [LSm2_q1, LSm2_q2, LSm2_q3, LSm2_q4, LSm2_q5, LSm2_q6, LSm2_q7, LSm2_q8, LSm2_q9, LSm2_q10, LSm2_q11, LSm2_q12, LSm2_q13, LSm2_q14, LSm2_q15, LSm2_q16, LSm2_q17, LSm2_q18, LSm2_q19, LSm2_q20, LSm2_q21, LSm2_q22] at e5 ⊢
          simp only [e5, k0_some, k1_some, k2_some, k3_some, oN_some, oD_some, ratOf_rat, one_w]
          rfl
        have v0 := VF.of x0.k.fits; have v1 := VF.of x0.t.fits; have v2 := VF.of x0.v.fits; have v3 := VF.of x0.a.fits
        have l0 : VL 0 1 0 1 0 1 0 1 := ⟨by decide +kernel, by decide +kernel, by decide +kernel, by decide +kernel⟩
        simp only [Int.reduceLE, Int.reduceLT, Nat.reduceLT, Int.reduceEq, Int.le_refl, ne_eq, not_false_eq_true, Int.reduceToNat, Nat.zero_lt_succ, and_self, true_and, and_true, LSm2_q6, LSm2_q7, LSm2_q8, LSm2_q9, LSm2_q19, LSm2_q20, LSm2_q21, LSm2_q22, e5, e18, k0_some, k1_some, k2_some, k3_some, oN_some, oD_some, oE_some, one_w, zero_ne, sat_need, sat_ite, sat_ret, reduceCtorEq, false_imp_iff, true_imp_iff, true_and, forall_const]
        unfold sumR
        rw [if_pos rfl, hc]
        refine ⟨⟨l0, x0.vl⟩, ⟨⟨v0, v1, v2, v3⟩, x1.vl⟩, ?_⟩
        generalize add2 (c 0) (c 1) = o
        cases o with
        | none => simp [oE, k0, k1, k2, k3, oN, oD]
        | some o => simp [oE, k0, k1, k2, k3, oN, oD]
    · refine ⟨[.d (.ro 3 8 fun i j => .x (.int .i64 (cellI cell i j)))], 200, eachH 3, ?_, Sat.of_eq (LSm3_eq (cellI cell)) ⟨?_⟩⟩
      · simp only [leSVs, leSV, leD, and_true, true_and]
        exact fun i j hi hj => (h2 i hi).2 j hj
      · have x0 := (h2 0 (by omega)).1
        have x1 := (h2 1 (by omega)).1
        have x2 := (h2 2 (by omega)).1
        unfold LSm3
        generalize hc : cellI cell = c at *
        have e5 : LSm3_q5 c = some (ratOf (c 0 0) (c 0 1), ratOf (c 0 2) (c 0 3), ratOf (c 0 4) (c 0 5), ratOf (c 0 6) (c 0 7)) := addO_zero (a := c 0) x0
        have e18 : LSm3_q18 c = add2 (c 0) (c 1) := by
          simp only [LSm3_q1, LSm3_q2, LSm3_q3, LSm3_q4, LSm3_q5, LSm3_q6, LSm3_q7, LSm3_q8, LSm3_q9, LSm3_q10, LSm3_q11, LSm3_q12, LSm3_q13, LSm3_q14, LSm3_q15, LSm3_q16, LSm3_q17, LSm3_q18, LSm3_q19, LSm3_q20, LSm3_q21, LSm3_q22, LSm3_q23, LSm3_q24, LSm3_q25, LSm3_q26, LSm3_q27, LSm3_q28, LSm3_q29, LSm3_q30, LSm3_q31, LSm3_q32, LSm3_q33, LSm3_q34, LSm3_q35] at e5 ⊢
          simp only [e5, k0_some, k1_some, k2_some, k3_some, oN_some, oD_some, ratOf_rat, one_w]
          rfl
        have v0 := VF.of x0.k.fits; have v1 := VF.of x0.t.fits; have v2 := VF.of x0.v.fits; have v3 := VF.of x0.a.fits
        have l0 : VL 0 1 0 1 0 1 0 1 := ⟨by decide +kernel, by decide +kernel, by decide +kernel, by decide +kernel⟩
        unfold sumR
        rw [if_neg (by decide), hc]
        simp only [Int.reduceLE, Int.reduceLT, Nat.reduceLT, Int.reduceEq, Int.le_refl, ne_eq, not_false_eq_true, Int.reduceToNat, Nat.zero_lt_succ, and_self, true_and, and_true, LSm3_q6, LSm3_q7, LSm3_q8, LSm3_q9, LSm3_q19, LSm3_q20, LSm3_q21, LSm3_q22, LSm3_q32, LSm3_q33, LSm3_q34, LSm3_q35, e5, e18, k0_some, k1_some, k2_some, k3_some, oN_some, oD_some, oE_some, one_w, two_w, zero_ne, sat_need, sat_ite, sat_ret, reduceCtorEq, false_imp_iff, true_imp_iff, forall_const]
        refine ⟨⟨l0, x0.vl⟩, ⟨⟨v0, v1, v2, v3⟩, x1.vl⟩, ?_⟩
        cases ho : add2 (c 0) (c 1) with
        | none => simp [oE, k0, k1, k2, k3, oN, oD, addR]
        | some o =>
          obtain ⟨p, q, r, t⟩ := o
          obtain ⟨f0, f1, f2, f3⟩ := addO_fits ho
          have e31 : LSm3_q31 c = addR (some (p, q, r, t)) (c 2) := by
            simp only [LSm3_q31, LSm3_q23, LSm3_q24, LSm3_q25, LSm3_q26, LSm3_q27, LSm3_q28, LSm3_q29, LSm3_q30, LSm3_q19, LSm3_q20, LSm3_q21, LSm3_q22, e18, ho, k0_some, k1_some, k2_some, k3_some, oN_some, oD_some, ratOf_rat, two_w]
            rfl
          simp only [e31, oE_some, k0_some, k1_some, k2_some, k3_some, oN_some, oD_some, zero_ne, reduceCtorEq, false_imp_iff, true_imp_iff, forall_const, true_and]
          refine ⟨⟨⟨VF.of f0, VF.of f1, VF.of f2, VF.of f3⟩, x2.vl⟩, ?_⟩
          generalize addR (some (p, q, r, t)) (c 2) = o
          cases o with
          | none => simp [oE, k0, k1, k2, k3, oN, oD]
          | some o => simp [oE, k0, k1, k2, k3, oN, oD]
  · exact hh.elim
noncomputable def manI : FuncId → Option Ctr := fun k => match k with
  | 65 => some cLaR
  | 66 => some cLsR
  | 56 => some cSml
  | k => manH k
theorem manI_ok (k : Nat) (c : Ctr) (h : manI k = some c) : CtrOK Try.prog k c ∧ goodF Try.prog k = true := by
  unfold manI at h
  split at h
  · cases h; exact ⟨cLaR_ok, by kernel_rfl⟩
  · cases h; exact ⟨cLsR_ok, by kernel_rfl⟩
  · cases h; exact ⟨cSml_ok, by kernel_rfl⟩
  · exact manH_ok _ _ h
noncomputable def CI : Ctx := ctxN Try.prog manI (fun _ => false) 200 .nil 6
theorem CI_ok : CtxOK Try.prog CI := ctxN_ok mixed manI_ok 6
noncomputable def DI : Dr := fun _ => drawn Try.prog CI
theorem DI_ok : DrOK Try.prog CI DI := drawn_ok CI_ok mixed
noncomputable def TI (h : Hint) (k : Nat) (args : List SV) : Tree SV := fnT Try.prog CI DI 200 (fnOf Try.prog k) (bodyOf Try.prog k) args h

noncomputable def LSr3_q1 (c : Nat → Nat → Int) : Rat :=
  ratOf (c (Int.toNat (0 : Int)) 0) (c (Int.toNat (0 : Int)) 1)
noncomputable def LSr3_q2 (c : Nat → Nat → Int) : Rat :=
  ratOf (c (Int.toNat (0 : Int)) 2) (c (Int.toNat (0 : Int)) 3)
noncomputable def LSr3_q3 (c : Nat → Nat → Int) : Rat :=
  ratOf (c (Int.toNat (0 : Int)) 4) (c (Int.toNat (0 : Int)) 5)
noncomputable def LSr3_q4 (c : Nat → Nat → Int) : Rat :=
  ratOf (c (Int.toNat (0 : Int)) 6) (c (Int.toNat (0 : Int)) 7)
noncomputable def LSr3_q5 (c : Nat → Nat → Int) : Option (Rat × Rat × Rat × Rat) :=
  addO (ratOf (0 : Int) (1 : Int)) (ratOf (0 : Int) (1 : Int)) (ratOf (0 : Int) (1 : Int)) (ratOf (0 : Int) (1 : Int)) (LSr3_q1 c) (LSr3_q2 c) (LSr3_q3 c) (LSr3_q4 c)
noncomputable def LSr3_q6 (c : Nat → Nat → Int) : Option Rat :=
  k0 (LSr3_q5 c)
noncomputable def LSr3_q7 (c : Nat → Nat → Int) : Option Rat :=
  k1 (LSr3_q5 c)
noncomputable def LSr3_q8 (c : Nat → Nat → Int) : Option Rat :=
  k2 (LSr3_q5 c)
noncomputable def LSr3_q9 (c : Nat → Nat → Int) : Option Rat :=
  k3 (LSr3_q5 c)
noncomputable def LSr3_q10 (c : Nat → Nat → Int) : Rat :=
  ratOf (oN (LSr3_q6 c)) (oD (LSr3_q6 c))
noncomputable def LSr3_q11 (c : Nat → Nat → Int) : Rat :=
  ratOf (oN (LSr3_q7 c)) (oD (LSr3_q7 c))
noncomputable def LSr3_q12 (c : Nat → Nat → Int) : Rat :=
  ratOf (oN (LSr3_q8 c)) (oD (LSr3_q8 c))
noncomputable def LSr3_q13 (c : Nat → Nat → Int) : Rat :=
  ratOf (oN (LSr3_q9 c)) (oD (LSr3_q9 c))
noncomputable def LSr3_q14 (c : Nat → Nat → Int) : Rat :=
  ratOf (c (Int.toNat (w64 ((0 : Int) + (1 : Int)))) 0) (c (Int.toNat (w64 ((0 : Int) + (1 : Int)))) 1)
noncomputable def LSr3_q15 (c : Nat → Nat → Int) : Rat :=
  ratOf (c (Int.toNat (w64 ((0 : Int) + (1 : Int)))) 2) (c (Int.toNat (w64 ((0 : Int) + (1 : Int)))) 3)
noncomputable def LSr3_q16 (c : Nat → Nat → Int) : Rat :=
  ratOf (c (Int.toNat (w64 ((0 : Int) + (1 : Int)))) 4) (c (Int.toNat (w64 ((0 : Int) + (1 : Int)))) 5)
noncomputable def LSr3_q17 (c : Nat → Nat → Int) : Rat :=
  ratOf (c (Int.toNat (w64 ((0 : Int) + (1 : Int)))) 6) (c (Int.toNat (w64 ((0 : Int) + (1 : Int)))) 7)
noncomputable def LSr3_q18 (c : Nat → Nat → Int) : Option (Rat × Rat × Rat × Rat) :=
  addO (LSr3_q10 c) (LSr3_q11 c) (LSr3_q12 c) (LSr3_q13 c) (LSr3_q14 c) (LSr3_q15 c) (LSr3_q16 c) (LSr3_q17 c)
noncomputable def LSr3_q19 (c : Nat → Nat → Int) : Option Rat :=
  k0 (LSr3_q18 c)
noncomputable def LSr3_q20 (c : Nat → Nat → Int) : Option Rat :=
  k1 (LSr3_q18 c)
noncomputable def LSr3_q21 (c : Nat → Nat → Int) : Option Rat :=
  k2 (LSr3_q18 c)
noncomputable def LSr3_q22 (c : Nat → Nat → Int) : Option Rat :=
  k3 (LSr3_q18 c)
noncomputable def LSr3_q23 (c : Nat → Nat → Int) : Rat :=
  ratOf (oN (LSr3_q19 c)) (oD (LSr3_q19 c))
noncomputable def LSr3_q24 (c : Nat → Nat → Int) : Rat :=
  ratOf (oN (LSr3_q20 c)) (oD (LSr3_q20 c))
noncomputable def LSr3_q25 (c : Nat → Nat → Int) : Rat :=
  ratOf (oN (LSr3_q21 c)) (oD (LSr3_q21 c))
noncomputable def LSr3_q26 (c : Nat → Nat → Int) : Rat :=
  ratOf (oN (LSr3_q22 c)) (oD (LSr3_q22 c))
noncomputable def LSr3_q27 (c : Nat → Nat → Int) : Rat :=
  ratOf (c (Int.toNat (w64 (w64 ((0 : Int) + (1 : Int)) + (1 : Int)))) 0) (c (Int.toNat (w64 (w64 ((0 : Int) + (1 : Int)) + (1 : Int)))) 1)
noncomputable def LSr3_q28 (c : Nat → Nat → Int) : Rat :=
  ratOf (c (Int.toNat (w64 (w64 ((0 : Int) + (1 : Int)) + (1 : Int)))) 2) (c (Int.toNat (w64 (w64 ((0 : Int) + (1 : Int)) + (1 : Int)))) 3)
noncomputable def LSr3_q29 (c : Nat → Nat → Int) : Rat :=
  ratOf (c (Int.toNat (w64 (w64 ((0 : Int) + (1 : Int)) + (1 : Int)))) 4) (c (Int.toNat (w64 (w64 ((0 : Int) + (1 : Int)) + (1 : Int)))) 5)
noncomputable def LSr3_q30 (c : Nat → Nat → Int) : Rat :=
  ratOf (c (Int.toNat (w64 (w64 ((0 : Int) + (1 : Int)) + (1 : Int)))) 6) (c (Int.toNat (w64 (w64 ((0 : Int) + (1 : Int)) + (1 : Int)))) 7)
noncomputable def LSr3_q31 (c : Nat → Nat → Int) : Option (Rat × Rat × Rat × Rat) :=
  addO (LSr3_q23 c) (LSr3_q24 c) (LSr3_q25 c) (LSr3_q26 c) (LSr3_q27 c) (LSr3_q28 c) (LSr3_q29 c) (LSr3_q30 c)
noncomputable def LSr3_q32 (c : Nat → Nat → Int) : Option Rat :=
  k0 (LSr3_q31 c)
noncomputable def LSr3_q33 (c : Nat → Nat → Int) : Option Rat :=
  k1 (LSr3_q31 c)
noncomputable def LSr3_q34 (c : Nat → Nat → Int) : Option Rat :=
  k2 (LSr3_q31 c)
noncomputable def LSr3_q35 (c : Nat → Nat → Int) : Option Rat :=
  k3 (LSr3_q31 c)
noncomputable def LSr3 (c : Nat → Nat → Int) : Tree SV :=
  .need (true = true)
  (.need ((0 : Int) ≤ (0 : Int) ∧ (0 : Int) < (3 : Int))
   (.need
   (VL (0 : Int) (1 : Int) (0 : Int) (1 : Int) (0 : Int) (1 : Int) (0 : Int) (1 : Int) ∧
   VL (c (Int.toNat (0 : Int)) 0) (c (Int.toNat (0 : Int)) 1) (c (Int.toNat (0 : Int)) 2) (c (Int.toNat (0 : Int)) 3) (c (Int.toNat (0 : Int)) 4) (c (Int.toNat (0 : Int)) 5)
   (c (Int.toNat (0 : Int)) 6) (c (Int.toNat (0 : Int)) 7))
   (.ite (oE (LSr3_q5 c) != (0 : Int))
   (.ret
   (SV.agg
   [iv (oN (LSr3_q6 c)), iv (oD (LSr3_q6 c)), iv (oN (LSr3_q7 c)), iv (oD (LSr3_q7 c)), iv (oN (LSr3_q8 c)), iv (oD (LSr3_q8 c)), iv (oN (LSr3_q9 c)),
   iv (oD (LSr3_q9 c)), iv (oE (LSr3_q5 c))]))
   (.need (true = true)
   (.need ((0 : Int) ≤ (1 : Int) ∧ (1 : Int) < (3 : Int))
   (.need
   (VL (oN (LSr3_q6 c)) (oD (LSr3_q6 c)) (oN (LSr3_q7 c)) (oD (LSr3_q7 c)) (oN (LSr3_q8 c)) (oD (LSr3_q8 c)) (oN (LSr3_q9 c))
   (oD (LSr3_q9 c)) ∧
   VL (c (Int.toNat (w64 ((0 : Int) + (1 : Int)))) 0) (c (Int.toNat (w64 ((0 : Int) + (1 : Int)))) 1) (c (Int.toNat (w64 ((0 : Int) + (1 : Int)))) 2)
   (c (Int.toNat (w64 ((0 : Int) + (1 : Int)))) 3) (c (Int.toNat (w64 ((0 : Int) + (1 : Int)))) 4) (c (Int.toNat (w64 ((0 : Int) + (1 : Int)))) 5)
   (c (Int.toNat (w64 ((0 : Int) + (1 : Int)))) 6) (c (Int.toNat (w64 ((0 : Int) + (1 : Int)))) 7))
   (.ite (oE (LSr3_q18 c) != (0 : Int))
   (.ret
   (SV.agg
   [iv (oN (LSr3_q19 c)), iv (oD (LSr3_q19 c)), iv (oN (LSr3_q20 c)), iv (oD (LSr3_q20 c)), iv (oN (LSr3_q21 c)), iv (oD (LSr3_q21 c)),
   iv (oN (LSr3_q22 c)), iv (oD (LSr3_q22 c)), iv (oE (LSr3_q18 c))]))
   (.need (true = true)
   (.need ((0 : Int) ≤ (2 : Int) ∧ (2 : Int) < (3 : Int))
   (.need
   (VL (oN (LSr3_q19 c)) (oD (LSr3_q19 c)) (oN (LSr3_q20 c)) (oD (LSr3_q20 c)) (oN (LSr3_q21 c)) (oD (LSr3_q21 c)) (oN (LSr3_q22 c))
   (oD (LSr3_q22 c)) ∧
   VL (c (Int.toNat (w64 (w64 ((0 : Int) + (1 : Int)) + (1 : Int)))) 0) (c (Int.toNat (w64 (w64 ((0 : Int) + (1 : Int)) + (1 : Int)))) 1)
   (c (Int.toNat (w64 (w64 ((0 : Int) + (1 : Int)) + (1 : Int)))) 2) (c (Int.toNat (w64 (w64 ((0 : Int) + (1 : Int)) + (1 : Int)))) 3)
   (c (Int.toNat (w64 (w64 ((0 : Int) + (1 : Int)) + (1 : Int)))) 4) (c (Int.toNat (w64 (w64 ((0 : Int) + (1 : Int)) + (1 : Int)))) 5)
   (c (Int.toNat (w64 (w64 ((0 : Int) + (1 : Int)) + (1 : Int)))) 6) (c (Int.toNat (w64 (w64 ((0 : Int) + (1 : Int)) + (1 : Int)))) 7))
   (.ite (oE (LSr3_q31 c) != (0 : Int))
   (.ret
   (SV.agg
   [iv (oN (LSr3_q32 c)), iv (oD (LSr3_q32 c)), iv (oN (LSr3_q33 c)), iv (oD (LSr3_q33 c)), iv (oN (LSr3_q34 c)), iv (oD (LSr3_q34 c)),
   iv (oN (LSr3_q35 c)), iv (oD (LSr3_q35 c)), iv (oE (LSr3_q31 c))]))
   (.need (false = false)
   (.ret
   (SV.agg
   [iv (oN (LSr3_q32 c)), iv (oD (LSr3_q32 c)), iv (oN (LSr3_q33 c)), iv (oD (LSr3_q33 c)), iv (oN (LSr3_q34 c)), iv (oD (LSr3_q34 c)),
   iv (oN (LSr3_q35 c)), iv (oD (LSr3_q35 c)), iv (oE (LSr3_q31 c))]))))))))))))))

theorem LSr3_eq (c : Nat → Nat → Int) : TI (eachH 3) 62 [.d (.ro 3 8 fun i j => .x (.int .i64 (c i j)))] = LSr3 c := by kernel_rfl

noncomputable def L10_q1 (c : Nat → Nat → DV) (i : Nat) : Int :=
  intOf1 (c i (0 : Nat))
noncomputable def L10_q2 (n : Nat) (c : Nat → Nat → DV) : Rat :=
  linQ n (L10_q1 c) 0
noncomputable def L10_q3 (n : Nat) (c : Nat → Nat → DV) : Rat :=
  linQ n (L10_q1 c) 1
noncomputable def L10_q4 (n : Nat) (c : Nat → Nat → DV) : Rat :=
  linQ n (L10_q1 c) 2
noncomputable def L10_q5 (n : Nat) (c : Nat → Nat → DV) : Rat :=
  linQ n (L10_q1 c) 3
noncomputable def L10_q6 (k0 : Int) (k1 : Int) : Rat :=
  ratOf (w64 (Int.tmod k0 (41 : Int))) (w64 ((1 : Int) + w64 (Int.tmod k1 (6 : Int))))
noncomputable def L10_q7 (n : Nat) (c : Nat → Nat → DV) : Rat :=
  ratOf (Rat.num (L10_q2 n c)) (↑(Rat.den (L10_q2 n c)) : Int)
noncomputable def L10_q8 (n : Nat) (c : Nat → Nat → DV) : Rat :=
  ratOf (Rat.num (L10_q3 n c)) (↑(Rat.den (L10_q3 n c)) : Int)
noncomputable def L10_q9 (n : Nat) (c : Nat → Nat → DV) : Rat :=
  ratOf (Rat.num (L10_q4 n c)) (↑(Rat.den (L10_q4 n c)) : Int)
noncomputable def L10_q10 (n : Nat) (c : Nat → Nat → DV) : Rat :=
  ratOf (Rat.num (L10_q5 n c)) (↑(Rat.den (L10_q5 n c)) : Int)
noncomputable def L10_q11 (k0 : Int) (k1 : Int) : Rat :=
  ratOf (Rat.num (L10_q6 k0 k1)) (↑(Rat.den (L10_q6 k0 k1)) : Int)
noncomputable def L10_q12 (n : Nat) (c : Nat → Nat → DV) (k0 : Int) (k1 : Int) : Option (Rat × Rat × Rat × Rat) :=
  sclO (L10_q7 n c) (L10_q8 n c) (L10_q9 n c) (L10_q10 n c) (L10_q11 k0 k1)
noncomputable def L10_q13 (n : Nat) (c : Nat → Nat → DV) (k0 : Int) (k1 : Int) : Option Rat :=
  Ytpaejfeojdoikaa.k0 (L10_q12 n c k0 k1)
noncomputable def L10_q14 (n : Nat) (c : Nat → Nat → DV) (k0 : Int) (k1 : Int) : Option Rat :=
  Ytpaejfeojdoikaa.k1 (L10_q12 n c k0 k1)
noncomputable def L10_q15 (n : Nat) (c : Nat → Nat → DV) (k0 : Int) (k1 : Int) : Option Rat :=
  k2 (L10_q12 n c k0 k1)
noncomputable def L10_q16 (n : Nat) (c : Nat → Nat → DV) (k0 : Int) (k1 : Int) : Option Rat :=
  k3 (L10_q12 n c k0 k1)
noncomputable def L10_q17 (n : Nat) (c : Nat → Nat → DV) : Option (Rat × Rat × Rat × Rat) :=
  sclO (L10_q7 n c) (L10_q8 n c) (L10_q9 n c) (L10_q10 n c) (ratOf (-1 : Int) (1 : Int))
noncomputable def L10_q18 (n : Nat) (c : Nat → Nat → DV) : Option Rat :=
  Ytpaejfeojdoikaa.k0 (L10_q17 n c)
noncomputable def L10_q19 (n : Nat) (c : Nat → Nat → DV) : Option Rat :=
  Ytpaejfeojdoikaa.k1 (L10_q17 n c)
noncomputable def L10_q20 (n : Nat) (c : Nat → Nat → DV) : Option Rat :=
  k2 (L10_q17 n c)
noncomputable def L10_q21 (n : Nat) (c : Nat → Nat → DV) : Option Rat :=
  k3 (L10_q17 n c)
noncomputable def L10_q22 (d : Nat → Nat → DV) (i : Nat) : Int :=
  intOf1 (d i (0 : Nat))
noncomputable def L10_q23 (m : Nat) (d : Nat → Nat → DV) : Rat :=
  loQ m (L10_q22 d) 0
noncomputable def L10_q24 (m : Nat) (d : Nat → Nat → DV) : Rat :=
  hiQ m (L10_q22 d) 0
noncomputable def L10_q25 (m : Nat) (d : Nat → Nat → DV) : Rat :=
  loQ m (L10_q22 d) 1
noncomputable def L10_q26 (m : Nat) (d : Nat → Nat → DV) : Rat :=
  hiQ m (L10_q22 d) 1
noncomputable def L10_q27 (m : Nat) (d : Nat → Nat → DV) : Rat :=
  loQ m (L10_q22 d) 2
noncomputable def L10_q28 (m : Nat) (d : Nat → Nat → DV) : Rat :=
  hiQ m (L10_q22 d) 2
noncomputable def L10_q29 (m : Nat) (d : Nat → Nat → DV) : Rat :=
  ratOf (Rat.num (L10_q23 m d)) (↑(Rat.den (L10_q23 m d)) : Int)
noncomputable def L10_q30 (m : Nat) (d : Nat → Nat → DV) : Rat :=
  ratOf (Rat.num (L10_q24 m d)) (↑(Rat.den (L10_q24 m d)) : Int)
noncomputable def L10_q31 (m : Nat) (d : Nat → Nat → DV) : Rat :=
  ratOf (Rat.num (L10_q25 m d)) (↑(Rat.den (L10_q25 m d)) : Int)
noncomputable def L10_q32 (m : Nat) (d : Nat → Nat → DV) : Rat :=
  ratOf (Rat.num (L10_q26 m d)) (↑(Rat.den (L10_q26 m d)) : Int)
noncomputable def L10_q33 (m : Nat) (d : Nat → Nat → DV) : Rat :=
  ratOf (Rat.num (L10_q27 m d)) (↑(Rat.den (L10_q27 m d)) : Int)
noncomputable def L10_q34 (m : Nat) (d : Nat → Nat → DV) : Rat :=
  ratOf (Rat.num (L10_q28 m d)) (↑(Rat.den (L10_q28 m d)) : Int)
noncomputable def L10_q35 (n : Nat) (m : Nat) (c : Nat → Nat → DV) (d : Nat → Nat → DV) : Option (Rat × Rat) :=
  rgO (L10_q7 n c) (L10_q8 n c) (L10_q9 n c) (L10_q10 n c) (L10_q29 m d) (L10_q30 m d) (L10_q31 m d) (L10_q32 m d) (L10_q33 m d)
  (L10_q34 m d)
noncomputable def L10_q36 (n : Nat) (m : Nat) (c : Nat → Nat → DV) (d : Nat → Nat → DV) : Rat :=
  ratOf (lN (L10_q35 n m c d)) (lD (L10_q35 n m c d))
noncomputable def L10_q37 (n : Nat) (m : Nat) (c : Nat → Nat → DV) (d : Nat → Nat → DV) : Rat :=
  ratOf (hN (L10_q35 n m c d)) (hD (L10_q35 n m c d))
noncomputable def L10_q38 (n : Nat) (c : Nat → Nat → DV) (k0 : Int) (k1 : Int) : Rat :=
  ratOf (oN (L10_q13 n c k0 k1)) (oD (L10_q13 n c k0 k1))
noncomputable def L10_q39 (n : Nat) (c : Nat → Nat → DV) (k0 : Int) (k1 : Int) : Rat :=
  ratOf (oN (L10_q14 n c k0 k1)) (oD (L10_q14 n c k0 k1))
noncomputable def L10_q40 (n : Nat) (c : Nat → Nat → DV) (k0 : Int) (k1 : Int) : Rat :=
  ratOf (oN (L10_q15 n c k0 k1)) (oD (L10_q15 n c k0 k1))
noncomputable def L10_q41 (n : Nat) (c : Nat → Nat → DV) (k0 : Int) (k1 : Int) : Rat :=
  ratOf (oN (L10_q16 n c k0 k1)) (oD (L10_q16 n c k0 k1))
noncomputable def L10_q42 (n : Nat) (m : Nat) (c : Nat → Nat → DV) (d : Nat → Nat → DV) (k0 : Int) (k1 : Int) : Option (Rat × Rat) :=
  rgO (L10_q38 n c k0 k1) (L10_q39 n c k0 k1) (L10_q40 n c k0 k1) (L10_q41 n c k0 k1) (L10_q29 m d) (L10_q30 m d) (L10_q31 m d) (L10_q32 m d)
  (L10_q33 m d) (L10_q34 m d)
noncomputable def L10_q43 (n : Nat) (c : Nat → Nat → DV) : Rat :=
  ratOf (oN (L10_q18 n c)) (oD (L10_q18 n c))
noncomputable def L10_q44 (n : Nat) (c : Nat → Nat → DV) : Rat :=
  ratOf (oN (L10_q19 n c)) (oD (L10_q19 n c))
noncomputable def L10_q45 (n : Nat) (c : Nat → Nat → DV) : Rat :=
  ratOf (oN (L10_q20 n c)) (oD (L10_q20 n c))
noncomputable def L10_q46 (n : Nat) (c : Nat → Nat → DV) : Rat :=
  ratOf (oN (L10_q21 n c)) (oD (L10_q21 n c))
noncomputable def L10_q47 (n : Nat) (m : Nat) (c : Nat → Nat → DV) (d : Nat → Nat → DV) : Option (Rat × Rat) :=
  rgO (L10_q43 n c) (L10_q44 n c) (L10_q45 n c) (L10_q46 n c) (L10_q29 m d) (L10_q30 m d) (L10_q31 m d) (L10_q32 m d) (L10_q33 m d)
  (L10_q34 m d)
noncomputable def L10_q48 (n : Nat) (m : Nat) (c : Nat → Nat → DV) (d : Nat → Nat → DV) (k0 : Int) (k1 : Int) : Rat :=
  L10_q36 n m c d * L10_q11 k0 k1
noncomputable def L10_q49 (n : Nat) (m : Nat) (c : Nat → Nat → DV) (d : Nat → Nat → DV) (k0 : Int) (k1 : Int) : Rat :=
  L10_q37 n m c d * L10_q11 k0 k1
noncomputable def L10 (n m : Nat) (c d : Nat → Nat → DV) (k0 k1 : Int) : Tree SV :=
  .ite false (.ret (bv false))
  (.need (Byt n c)
   (.need (Byt m d)
   (.need ((0 : Int) ≤ (0 : Int) ∧ (0 : Int) < (2 : Int))
   (.need (0 < 2)
   (.need ((41 : Int) ≠ (0 : Int))
   (.need ((0 : Int) ≤ (1 : Int) ∧ (1 : Int) < (2 : Int))
   (.need (1 < 2)
   (.need ((6 : Int) ≠ (0 : Int))
   (.need
   (((-4611686018427387904 : Int) ≤ w64 (Int.tmod k0 (41 : Int)) ∧ w64 (Int.tmod k0 (41 : Int)) ≤ (4611686018427387904 : Int)) ∧
   (1 : Int) ≤ w64 ((1 : Int) + w64 (Int.tmod k1 (6 : Int))) ∧ w64 ((1 : Int) + w64 (Int.tmod k1 (6 : Int))) ≤ (4611686018427387904 : Int))
   (.need
   (VL (Rat.num (L10_q2 n c)) (↑(Rat.den (L10_q2 n c)) : Int) (Rat.num (L10_q3 n c)) (↑(Rat.den (L10_q3 n c)) : Int) (Rat.num (L10_q4 n c))
   (↑(Rat.den (L10_q4 n c)) : Int) (Rat.num (L10_q5 n c)) (↑(Rat.den (L10_q5 n c)) : Int) ∧
   VF (Rat.num (L10_q6 k0 k1)) (↑(Rat.den (L10_q6 k0 k1)) : Int))
   (.need
   (VL (Rat.num (L10_q2 n c)) (↑(Rat.den (L10_q2 n c)) : Int) (Rat.num (L10_q3 n c)) (↑(Rat.den (L10_q3 n c)) : Int) (Rat.num (L10_q4 n c))
   (↑(Rat.den (L10_q4 n c)) : Int) (Rat.num (L10_q5 n c)) (↑(Rat.den (L10_q5 n c)) : Int) ∧
   VF (-1 : Int) (1 : Int))
   (.ite
   (!(vB (oN (L10_q13 n c k0 k1)) (oD (L10_q13 n c k0 k1)) && vB (oN (L10_q14 n c k0 k1)) (oD (L10_q14 n c k0 k1)) &&
   vB (oN (L10_q15 n c k0 k1)) (oD (L10_q15 n c k0 k1)) &&
   vB (oN (L10_q16 n c k0 k1)) (oD (L10_q16 n c k0 k1))) ||
   !(vB (oN (L10_q18 n c)) (oD (L10_q18 n c)) && vB (oN (L10_q19 n c)) (oD (L10_q19 n c)) && vB (oN (L10_q20 n c)) (oD (L10_q20 n c)) &&
   vB (oN (L10_q21 n c)) (oD (L10_q21 n c))))
   (.ret (bv false))
   (.need
   (VBox (Rat.num (L10_q2 n c)) (↑(Rat.den (L10_q2 n c)) : Int) (Rat.num (L10_q3 n c)) (↑(Rat.den (L10_q3 n c)) : Int) (Rat.num (L10_q4 n c))
   (↑(Rat.den (L10_q4 n c)) : Int) (Rat.num (L10_q5 n c)) (↑(Rat.den (L10_q5 n c)) : Int) (Rat.num (L10_q23 m d)) (↑(Rat.den (L10_q23 m d)) : Int)
   (Rat.num (L10_q24 m d)) (↑(Rat.den (L10_q24 m d)) : Int) (Rat.num (L10_q25 m d)) (↑(Rat.den (L10_q25 m d)) : Int) (Rat.num (L10_q26 m d))
   (↑(Rat.den (L10_q26 m d)) : Int) (Rat.num (L10_q27 m d)) (↑(Rat.den (L10_q27 m d)) : Int) (Rat.num (L10_q28 m d)) (↑(Rat.den (L10_q28 m d)) : Int))
   (.need
   (VBox (oN (L10_q13 n c k0 k1)) (oD (L10_q13 n c k0 k1)) (oN (L10_q14 n c k0 k1)) (oD (L10_q14 n c k0 k1)) (oN (L10_q15 n c k0 k1))
   (oD (L10_q15 n c k0 k1)) (oN (L10_q16 n c k0 k1)) (oD (L10_q16 n c k0 k1)) (Rat.num (L10_q23 m d)) (↑(Rat.den (L10_q23 m d)) : Int)
   (Rat.num (L10_q24 m d)) (↑(Rat.den (L10_q24 m d)) : Int) (Rat.num (L10_q25 m d)) (↑(Rat.den (L10_q25 m d)) : Int) (Rat.num (L10_q26 m d))
   (↑(Rat.den (L10_q26 m d)) : Int) (Rat.num (L10_q27 m d)) (↑(Rat.den (L10_q27 m d)) : Int) (Rat.num (L10_q28 m d)) (↑(Rat.den (L10_q28 m d)) : Int))
   (.need
   (VBox (oN (L10_q18 n c)) (oD (L10_q18 n c)) (oN (L10_q19 n c)) (oD (L10_q19 n c)) (oN (L10_q20 n c)) (oD (L10_q20 n c))
   (oN (L10_q21 n c)) (oD (L10_q21 n c)) (Rat.num (L10_q23 m d)) (↑(Rat.den (L10_q23 m d)) : Int) (Rat.num (L10_q24 m d))
   (↑(Rat.den (L10_q24 m d)) : Int) (Rat.num (L10_q25 m d)) (↑(Rat.den (L10_q25 m d)) : Int) (Rat.num (L10_q26 m d)) (↑(Rat.den (L10_q26 m d)) : Int)
   (Rat.num (L10_q27 m d)) (↑(Rat.den (L10_q27 m d)) : Int) (Rat.num (L10_q28 m d)) (↑(Rat.den (L10_q28 m d)) : Int))
   (.ite
   (!(vB (lN (L10_q35 n m c d)) (lD (L10_q35 n m c d)) && vB (hN (L10_q35 n m c d)) (hD (L10_q35 n m c d)) &&
   decide (L10_q36 n m c d ≤ L10_q37 n m c d)))
   (.ret (bv false))
   (.need (VF (lN (L10_q35 n m c d)) (lD (L10_q35 n m c d)) ∧ VF (Rat.num (L10_q6 k0 k1)) (↑(Rat.den (L10_q6 k0 k1)) : Int))
   (.need (VF (hN (L10_q35 n m c d)) (hD (L10_q35 n m c d)) ∧ VF (Rat.num (L10_q6 k0 k1)) (↑(Rat.den (L10_q6 k0 k1)) : Int))
   (.ite
   (oE (L10_q12 n c k0 k1) != (0 : Int) || oE (L10_q17 n c) != (0 : Int) || oE (L10_q35 n m c d) != (0 : Int) || oE (L10_q42 n m c d k0 k1) != (0 : Int) ||
   oE (L10_q47 n m c d) != (0 : Int) ||
   rE (L10_q48 n m c d k0 k1) != (0 : Int) ||
   rE (L10_q49 n m c d k0 k1) != (0 : Int))
   (.ret (bv false))
   (.ret
   (bv
   (lN (L10_q42 n m c d k0 k1) == rN (L10_q48 n m c d k0 k1) && (lD (L10_q42 n m c d k0 k1) == rD (L10_q48 n m c d k0 k1) && true) &&
   (hN (L10_q42 n m c d k0 k1) == rN (L10_q49 n m c d k0 k1) && (hD (L10_q42 n m c d k0 k1) == rD (L10_q49 n m c d k0 k1) && true) && true) &&
   (lN (L10_q47 n m c d) == w64 ((0 : Int) - hN (L10_q35 n m c d)) && (lD (L10_q47 n m c d) == hD (L10_q35 n m c d) && true)) &&
   (hN (L10_q47 n m c d) == w64 ((0 : Int) - lN (L10_q35 n m c d)) && (hD (L10_q47 n m c d) == lD (L10_q35 n m c d) && true)) &&
   true))))))))))))))))))))))

theorem L10_eq (n m : Nat) (c d : Nat → Nat → DV) (k0 k1 : Int) : TI .nil 10 [.d (.ro n 1 c), .d (.ro m 1 d), .agg [u8 k0, u8 k1]] = L10 n m c d k0 k1 := by kernel_rfl

noncomputable def L12_q1 (b0 : Int) (b1 : Int) (b2 : Int) (b3 : Int) (b4 : Int) (b5 : Int) (b6 : Int) (b7 : Int) (b8 : Int) (b9 : Int) (b10 : Int) (b11 : Int) (b12 : Int) (b13 : Int) (b14 : Int) (b15 : Int) (i : Nat) (j : Nat) : DV :=
  dsAt
  [DV.x (.int .u8 b0), DV.x (.int .u8 b1), DV.x (.int .u8 b2), DV.x (.int .u8 b3), DV.x (.int .u8 b4), DV.x (.int .u8 b5), DV.x (.int .u8 b6),
   DV.x (.int .u8 b7), DV.x (.int .u8 b8), DV.x (.int .u8 b9), DV.x (.int .u8 b10), DV.x (.int .u8 b11), DV.x (.int .u8 b12), DV.x (.int .u8 b13),
   DV.x (.int .u8 b14), DV.x (.int .u8 b15)]
  (0 + (0 + i) * 1 + j)
noncomputable def L12_q2 (c : Nat → Nat → DV) (i : Nat) : Int :=
  intOf1 (c i (0 : Nat))
noncomputable def L12_q3 (n : Nat) (c : Nat → Nat → DV) : Rat :=
  linQ n (L12_q2 c) 0
noncomputable def L12_q4 (n : Nat) (c : Nat → Nat → DV) : Rat :=
  linQ n (L12_q2 c) 1
noncomputable def L12_q5 (n : Nat) (c : Nat → Nat → DV) : Rat :=
  linQ n (L12_q2 c) 2
noncomputable def L12_q6 (n : Nat) (c : Nat → Nat → DV) : Rat :=
  linQ n (L12_q2 c) 3
noncomputable def L12_q7 (d : Nat → Nat → DV) (i : Nat) : Int :=
  intOf1 (d i (0 : Nat))
noncomputable def L12_q8 (m : Nat) (d : Nat → Nat → DV) : Rat :=
  linQ m (L12_q7 d) 0
noncomputable def L12_q9 (m : Nat) (d : Nat → Nat → DV) : Rat :=
  linQ m (L12_q7 d) 1
noncomputable def L12_q10 (m : Nat) (d : Nat → Nat → DV) : Rat :=
  linQ m (L12_q7 d) 2
noncomputable def L12_q11 (m : Nat) (d : Nat → Nat → DV) : Rat :=
  linQ m (L12_q7 d) 3
noncomputable def L12_q12 (b0 : Int) (b1 : Int) (b2 : Int) (b3 : Int) (b4 : Int) (b5 : Int) (b6 : Int) (b7 : Int) (b8 : Int) (b9 : Int) (b10 : Int) (b11 : Int) (b12 : Int) (b13 : Int) (b14 : Int) (b15 : Int) (i : Nat) : Int :=
  intOf1
  (dsAt
   [DV.x (.int .u8 b0), DV.x (.int .u8 b1), DV.x (.int .u8 b2), DV.x (.int .u8 b3), DV.x (.int .u8 b4), DV.x (.int .u8 b5), DV.x (.int .u8 b6),
   DV.x (.int .u8 b7), DV.x (.int .u8 b8), DV.x (.int .u8 b9), DV.x (.int .u8 b10), DV.x (.int .u8 b11), DV.x (.int .u8 b12), DV.x (.int .u8 b13),
   DV.x (.int .u8 b14), DV.x (.int .u8 b15)]
   (0 + (0 + i) * 1 + 0))
noncomputable def L12_q13 (b0 : Int) (b1 : Int) (b2 : Int) (b3 : Int) (b4 : Int) (b5 : Int) (b6 : Int) (b7 : Int) (b8 : Int) (b9 : Int) (b10 : Int) (b11 : Int) (b12 : Int) (b13 : Int) (b14 : Int) (b15 : Int) : Rat :=
  loQ 12 (L12_q12 b0 b1 b2 b3 b4 b5 b6 b7 b8 b9 b10 b11 b12 b13 b14 b15) 0
noncomputable def L12_q14 (b0 : Int) (b1 : Int) (b2 : Int) (b3 : Int) (b4 : Int) (b5 : Int) (b6 : Int) (b7 : Int) (b8 : Int) (b9 : Int) (b10 : Int) (b11 : Int) (b12 : Int) (b13 : Int) (b14 : Int) (b15 : Int) : Rat :=
  hiQ 12 (L12_q12 b0 b1 b2 b3 b4 b5 b6 b7 b8 b9 b10 b11 b12 b13 b14 b15) 0
noncomputable def L12_q15 (b0 : Int) (b1 : Int) (b2 : Int) (b3 : Int) (b4 : Int) (b5 : Int) (b6 : Int) (b7 : Int) (b8 : Int) (b9 : Int) (b10 : Int) (b11 : Int) (b12 : Int) (b13 : Int) (b14 : Int) (b15 : Int) : Rat :=
  loQ 12 (L12_q12 b0 b1 b2 b3 b4 b5 b6 b7 b8 b9 b10 b11 b12 b13 b14 b15) 1
noncomputable def L12_q16 (b0 : Int) (b1 : Int) (b2 : Int) (b3 : Int) (b4 : Int) (b5 : Int) (b6 : Int) (b7 : Int) (b8 : Int) (b9 : Int) (b10 : Int) (b11 : Int) (b12 : Int) (b13 : Int) (b14 : Int) (b15 : Int) : Rat :=
  hiQ 12 (L12_q12 b0 b1 b2 b3 b4 b5 b6 b7 b8 b9 b10 b11 b12 b13 b14 b15) 1
noncomputable def L12_q17 (b0 : Int) (b1 : Int) (b2 : Int) (b3 : Int) (b4 : Int) (b5 : Int) (b6 : Int) (b7 : Int) (b8 : Int) (b9 : Int) (b10 : Int) (b11 : Int) (b12 : Int) (b13 : Int) (b14 : Int) (b15 : Int) : Rat :=
  loQ 12 (L12_q12 b0 b1 b2 b3 b4 b5 b6 b7 b8 b9 b10 b11 b12 b13 b14 b15) 2
noncomputable def L12_q18 (b0 : Int) (b1 : Int) (b2 : Int) (b3 : Int) (b4 : Int) (b5 : Int) (b6 : Int) (b7 : Int) (b8 : Int) (b9 : Int) (b10 : Int) (b11 : Int) (b12 : Int) (b13 : Int) (b14 : Int) (b15 : Int) : Rat :=
  hiQ 12 (L12_q12 b0 b1 b2 b3 b4 b5 b6 b7 b8 b9 b10 b11 b12 b13 b14 b15) 2
noncomputable def L12_q19 (n : Nat) (c : Nat → Nat → DV) : Rat :=
  ratOf (Rat.num (L12_q3 n c)) (↑(Rat.den (L12_q3 n c)) : Int)
noncomputable def L12_q20 (n : Nat) (c : Nat → Nat → DV) : Rat :=
  ratOf (Rat.num (L12_q4 n c)) (↑(Rat.den (L12_q4 n c)) : Int)
noncomputable def L12_q21 (n : Nat) (c : Nat → Nat → DV) : Rat :=
  ratOf (Rat.num (L12_q5 n c)) (↑(Rat.den (L12_q5 n c)) : Int)
noncomputable def L12_q22 (n : Nat) (c : Nat → Nat → DV) : Rat :=
  ratOf (Rat.num (L12_q6 n c)) (↑(Rat.den (L12_q6 n c)) : Int)
noncomputable def L12_q23 (m : Nat) (d : Nat → Nat → DV) : Rat :=
  ratOf (Rat.num (L12_q8 m d)) (↑(Rat.den (L12_q8 m d)) : Int)
noncomputable def L12_q24 (m : Nat) (d : Nat → Nat → DV) : Rat :=
  ratOf (Rat.num (L12_q9 m d)) (↑(Rat.den (L12_q9 m d)) : Int)
noncomputable def L12_q25 (m : Nat) (d : Nat → Nat → DV) : Rat :=
  ratOf (Rat.num (L12_q10 m d)) (↑(Rat.den (L12_q10 m d)) : Int)
noncomputable def L12_q26 (m : Nat) (d : Nat → Nat → DV) : Rat :=
  ratOf (Rat.num (L12_q11 m d)) (↑(Rat.den (L12_q11 m d)) : Int)
noncomputable def L12_q27 (n : Nat) (m : Nat) (c : Nat → Nat → DV) (d : Nat → Nat → DV) : Option (Rat × Rat × Rat × Rat) :=
  addO (L12_q19 n c) (L12_q20 n c) (L12_q21 n c) (L12_q22 n c) (L12_q23 m d) (L12_q24 m d) (L12_q25 m d) (L12_q26 m d)
noncomputable def L12_q28 (n : Nat) (m : Nat) (c : Nat → Nat → DV) (d : Nat → Nat → DV) : Option Rat :=
  k0 (L12_q27 n m c d)
noncomputable def L12_q29 (n : Nat) (m : Nat) (c : Nat → Nat → DV) (d : Nat → Nat → DV) : Option Rat :=
  k1 (L12_q27 n m c d)
noncomputable def L12_q30 (n : Nat) (m : Nat) (c : Nat → Nat → DV) (d : Nat → Nat → DV) : Option Rat :=
  k2 (L12_q27 n m c d)
noncomputable def L12_q31 (n : Nat) (m : Nat) (c : Nat → Nat → DV) (d : Nat → Nat → DV) : Option Rat :=
  k3 (L12_q27 n m c d)
noncomputable def L12_q32 (b0 : Int) (b1 : Int) (b2 : Int) (b3 : Int) (b4 : Int) (b5 : Int) (b6 : Int) (b7 : Int) (b8 : Int) (b9 : Int) (b10 : Int) (b11 : Int) (b12 : Int) (b13 : Int) (b14 : Int) (b15 : Int) : Rat :=
  ratOf (Rat.num (L12_q13 b0 b1 b2 b3 b4 b5 b6 b7 b8 b9 b10 b11 b12 b13 b14 b15)) (↑(Rat.den (L12_q13 b0 b1 b2 b3 b4 b5 b6 b7 b8 b9 b10 b11 b12 b13 b14 b15)) : Int)
noncomputable def L12_q33 (b0 : Int) (b1 : Int) (b2 : Int) (b3 : Int) (b4 : Int) (b5 : Int) (b6 : Int) (b7 : Int) (b8 : Int) (b9 : Int) (b10 : Int) (b11 : Int) (b12 : Int) (b13 : Int) (b14 : Int) (b15 : Int) : Rat :=
  ratOf (Rat.num (L12_q14 b0 b1 b2 b3 b4 b5 b6 b7 b8 b9 b10 b11 b12 b13 b14 b15)) (↑(Rat.den (L12_q14 b0 b1 b2 b3 b4 b5 b6 b7 b8 b9 b10 b11 b12 b13 b14 b15)) : Int)
noncomputable def L12_q34 (b0 : Int) (b1 : Int) (b2 : Int) (b3 : Int) (b4 : Int) (b5 : Int) (b6 : Int) (b7 : Int) (b8 : Int) (b9 : Int) (b10 : Int) (b11 : Int) (b12 : Int) (b13 : Int) (b14 : Int) (b15 : Int) : Rat :=
  btw (L12_q32 b0 b1 b2 b3 b4 b5 b6 b7 b8 b9 b10 b11 b12 b13 b14 b15) (L12_q33 b0 b1 b2 b3 b4 b5 b6 b7 b8 b9 b10 b11 b12 b13 b14 b15) b12
noncomputable def L12_q35 (b0 : Int) (b1 : Int) (b2 : Int) (b3 : Int) (b4 : Int) (b5 : Int) (b6 : Int) (b7 : Int) (b8 : Int) (b9 : Int) (b10 : Int) (b11 : Int) (b12 : Int) (b13 : Int) (b14 : Int) (b15 : Int) : Rat :=
  ratOf (Rat.num (L12_q15 b0 b1 b2 b3 b4 b5 b6 b7 b8 b9 b10 b11 b12 b13 b14 b15)) (↑(Rat.den (L12_q15 b0 b1 b2 b3 b4 b5 b6 b7 b8 b9 b10 b11 b12 b13 b14 b15)) : Int)
noncomputable def L12_q36 (b0 : Int) (b1 : Int) (b2 : Int) (b3 : Int) (b4 : Int) (b5 : Int) (b6 : Int) (b7 : Int) (b8 : Int) (b9 : Int) (b10 : Int) (b11 : Int) (b12 : Int) (b13 : Int) (b14 : Int) (b15 : Int) : Rat :=
  ratOf (Rat.num (L12_q16 b0 b1 b2 b3 b4 b5 b6 b7 b8 b9 b10 b11 b12 b13 b14 b15)) (↑(Rat.den (L12_q16 b0 b1 b2 b3 b4 b5 b6 b7 b8 b9 b10 b11 b12 b13 b14 b15)) : Int)
noncomputable def L12_q37 (b0 : Int) (b1 : Int) (b2 : Int) (b3 : Int) (b4 : Int) (b5 : Int) (b6 : Int) (b7 : Int) (b8 : Int) (b9 : Int) (b10 : Int) (b11 : Int) (b12 : Int) (b13 : Int) (b14 : Int) (b15 : Int) : Rat :=
  btw (L12_q35 b0 b1 b2 b3 b4 b5 b6 b7 b8 b9 b10 b11 b12 b13 b14 b15) (L12_q36 b0 b1 b2 b3 b4 b5 b6 b7 b8 b9 b10 b11 b12 b13 b14 b15) b13
noncomputable def L12_q38 (b0 : Int) (b1 : Int) (b2 : Int) (b3 : Int) (b4 : Int) (b5 : Int) (b6 : Int) (b7 : Int) (b8 : Int) (b9 : Int) (b10 : Int) (b11 : Int) (b12 : Int) (b13 : Int) (b14 : Int) (b15 : Int) : Rat :=
  ratOf (Rat.num (L12_q17 b0 b1 b2 b3 b4 b5 b6 b7 b8 b9 b10 b11 b12 b13 b14 b15)) (↑(Rat.den (L12_q17 b0 b1 b2 b3 b4 b5 b6 b7 b8 b9 b10 b11 b12 b13 b14 b15)) : Int)
noncomputable def L12_q39 (b0 : Int) (b1 : Int) (b2 : Int) (b3 : Int) (b4 : Int) (b5 : Int) (b6 : Int) (b7 : Int) (b8 : Int) (b9 : Int) (b10 : Int) (b11 : Int) (b12 : Int) (b13 : Int) (b14 : Int) (b15 : Int) : Rat :=
  ratOf (Rat.num (L12_q18 b0 b1 b2 b3 b4 b5 b6 b7 b8 b9 b10 b11 b12 b13 b14 b15)) (↑(Rat.den (L12_q18 b0 b1 b2 b3 b4 b5 b6 b7 b8 b9 b10 b11 b12 b13 b14 b15)) : Int)
noncomputable def L12_q40 (b0 : Int) (b1 : Int) (b2 : Int) (b3 : Int) (b4 : Int) (b5 : Int) (b6 : Int) (b7 : Int) (b8 : Int) (b9 : Int) (b10 : Int) (b11 : Int) (b12 : Int) (b13 : Int) (b14 : Int) (b15 : Int) : Rat :=
  btw (L12_q38 b0 b1 b2 b3 b4 b5 b6 b7 b8 b9 b10 b11 b12 b13 b14 b15) (L12_q39 b0 b1 b2 b3 b4 b5 b6 b7 b8 b9 b10 b11 b12 b13 b14 b15) b14
noncomputable def L12_q41 (b0 : Int) (b1 : Int) (b2 : Int) (b3 : Int) (b4 : Int) (b5 : Int) (b6 : Int) (b7 : Int) (b8 : Int) (b9 : Int) (b10 : Int) (b11 : Int) (b12 : Int) (b13 : Int) (b14 : Int) (b15 : Int) : Rat :=
  ratOf (Rat.num (L12_q34 b0 b1 b2 b3 b4 b5 b6 b7 b8 b9 b10 b11 b12 b13 b14 b15)) (↑(Rat.den (L12_q34 b0 b1 b2 b3 b4 b5 b6 b7 b8 b9 b10 b11 b12 b13 b14 b15)) : Int)
noncomputable def L12_q42 (b0 : Int) (b1 : Int) (b2 : Int) (b3 : Int) (b4 : Int) (b5 : Int) (b6 : Int) (b7 : Int) (b8 : Int) (b9 : Int) (b10 : Int) (b11 : Int) (b12 : Int) (b13 : Int) (b14 : Int) (b15 : Int) : Rat :=
  ratOf (Rat.num (L12_q37 b0 b1 b2 b3 b4 b5 b6 b7 b8 b9 b10 b11 b12 b13 b14 b15)) (↑(Rat.den (L12_q37 b0 b1 b2 b3 b4 b5 b6 b7 b8 b9 b10 b11 b12 b13 b14 b15)) : Int)
noncomputable def L12_q43 (b0 : Int) (b1 : Int) (b2 : Int) (b3 : Int) (b4 : Int) (b5 : Int) (b6 : Int) (b7 : Int) (b8 : Int) (b9 : Int) (b10 : Int) (b11 : Int) (b12 : Int) (b13 : Int) (b14 : Int) (b15 : Int) : Rat :=
  ratOf (Rat.num (L12_q40 b0 b1 b2 b3 b4 b5 b6 b7 b8 b9 b10 b11 b12 b13 b14 b15)) (↑(Rat.den (L12_q40 b0 b1 b2 b3 b4 b5 b6 b7 b8 b9 b10 b11 b12 b13 b14 b15)) : Int)
noncomputable def L12_q44 (n : Nat) (c : Nat → Nat → DV) (b0 : Int) (b1 : Int) (b2 : Int) (b3 : Int) (b4 : Int) (b5 : Int) (b6 : Int) (b7 : Int) (b8 : Int) (b9 : Int) (b10 : Int) (b11 : Int) (b12 : Int) (b13 : Int) (b14 : Int) (b15 : Int) : Option Rat :=
  atO (L12_q19 n c) (L12_q20 n c) (L12_q21 n c) (L12_q22 n c) (L12_q41 b0 b1 b2 b3 b4 b5 b6 b7 b8 b9 b10 b11 b12 b13 b14 b15)
  (L12_q42 b0 b1 b2 b3 b4 b5 b6 b7 b8 b9 b10 b11 b12 b13 b14 b15) (L12_q43 b0 b1 b2 b3 b4 b5 b6 b7 b8 b9 b10 b11 b12 b13 b14 b15)
noncomputable def L12_q45 (m : Nat) (d : Nat → Nat → DV) (b0 : Int) (b1 : Int) (b2 : Int) (b3 : Int) (b4 : Int) (b5 : Int) (b6 : Int) (b7 : Int) (b8 : Int) (b9 : Int) (b10 : Int) (b11 : Int) (b12 : Int) (b13 : Int) (b14 : Int) (b15 : Int) : Option Rat :=
  atO (L12_q23 m d) (L12_q24 m d) (L12_q25 m d) (L12_q26 m d) (L12_q41 b0 b1 b2 b3 b4 b5 b6 b7 b8 b9 b10 b11 b12 b13 b14 b15)
  (L12_q42 b0 b1 b2 b3 b4 b5 b6 b7 b8 b9 b10 b11 b12 b13 b14 b15) (L12_q43 b0 b1 b2 b3 b4 b5 b6 b7 b8 b9 b10 b11 b12 b13 b14 b15)
noncomputable def L12_q46 (n : Nat) (m : Nat) (c : Nat → Nat → DV) (d : Nat → Nat → DV) : Rat :=
  ratOf (oN (L12_q28 n m c d)) (oD (L12_q28 n m c d))
noncomputable def L12_q47 (n : Nat) (m : Nat) (c : Nat → Nat → DV) (d : Nat → Nat → DV) : Rat :=
  ratOf (oN (L12_q29 n m c d)) (oD (L12_q29 n m c d))
noncomputable def L12_q48 (n : Nat) (m : Nat) (c : Nat → Nat → DV) (d : Nat → Nat → DV) : Rat :=
  ratOf (oN (L12_q30 n m c d)) (oD (L12_q30 n m c d))
noncomputable def L12_q49 (n : Nat) (m : Nat) (c : Nat → Nat → DV) (d : Nat → Nat → DV) : Rat :=
  ratOf (oN (L12_q31 n m c d)) (oD (L12_q31 n m c d))
noncomputable def L12_q50 (n : Nat) (m : Nat) (c : Nat → Nat → DV) (d : Nat → Nat → DV) (b0 : Int) (b1 : Int) (b2 : Int) (b3 : Int) (b4 : Int) (b5 : Int) (b6 : Int) (b7 : Int) (b8 : Int) (b9 : Int) (b10 : Int) (b11 : Int) (b12 : Int) (b13 : Int) (b14 : Int) (b15 : Int) : Option Rat :=
  atO (L12_q46 n m c d) (L12_q47 n m c d) (L12_q48 n m c d) (L12_q49 n m c d) (L12_q41 b0 b1 b2 b3 b4 b5 b6 b7 b8 b9 b10 b11 b12 b13 b14 b15)
  (L12_q42 b0 b1 b2 b3 b4 b5 b6 b7 b8 b9 b10 b11 b12 b13 b14 b15) (L12_q43 b0 b1 b2 b3 b4 b5 b6 b7 b8 b9 b10 b11 b12 b13 b14 b15)
noncomputable def L12_q51 (n : Nat) (c : Nat → Nat → DV) (b0 : Int) (b1 : Int) (b2 : Int) (b3 : Int) (b4 : Int) (b5 : Int) (b6 : Int) (b7 : Int) (b8 : Int) (b9 : Int) (b10 : Int) (b11 : Int) (b12 : Int) (b13 : Int) (b14 : Int) (b15 : Int) : Rat :=
  ratOf (oN (L12_q44 n c b0 b1 b2 b3 b4 b5 b6 b7 b8 b9 b10 b11 b12 b13 b14 b15)) (oD (L12_q44 n c b0 b1 b2 b3 b4 b5 b6 b7 b8 b9 b10 b11 b12 b13 b14 b15))
noncomputable def L12_q52 (m : Nat) (d : Nat → Nat → DV) (b0 : Int) (b1 : Int) (b2 : Int) (b3 : Int) (b4 : Int) (b5 : Int) (b6 : Int) (b7 : Int) (b8 : Int) (b9 : Int) (b10 : Int) (b11 : Int) (b12 : Int) (b13 : Int) (b14 : Int) (b15 : Int) : Rat :=
  ratOf (oN (L12_q45 m d b0 b1 b2 b3 b4 b5 b6 b7 b8 b9 b10 b11 b12 b13 b14 b15)) (oD (L12_q45 m d b0 b1 b2 b3 b4 b5 b6 b7 b8 b9 b10 b11 b12 b13 b14 b15))
noncomputable def L12_q53 (n : Nat) (m : Nat) (c : Nat → Nat → DV) (d : Nat → Nat → DV) (b0 : Int) (b1 : Int) (b2 : Int) (b3 : Int) (b4 : Int) (b5 : Int) (b6 : Int) (b7 : Int) (b8 : Int) (b9 : Int) (b10 : Int) (b11 : Int) (b12 : Int) (b13 : Int) (b14 : Int) (b15 : Int) : Rat :=
  L12_q51 n c b0 b1 b2 b3 b4 b5 b6 b7 b8 b9 b10 b11 b12 b13 b14 b15 + L12_q52 m d b0 b1 b2 b3 b4 b5 b6 b7 b8 b9 b10 b11 b12 b13 b14 b15
noncomputable def L12_q54 (n : Nat) (c : Nat → Nat → DV) (b0 : Int) (b1 : Int) (b2 : Int) (b3 : Int) (b4 : Int) (b5 : Int) (b6 : Int) (b7 : Int) (b8 : Int) (b9 : Int) (b10 : Int) (b11 : Int) (b12 : Int) (b13 : Int) (b14 : Int) (b15 : Int) : Option (Rat × Rat) :=
  rgO (L12_q19 n c) (L12_q20 n c) (L12_q21 n c) (L12_q22 n c) (L12_q32 b0 b1 b2 b3 b4 b5 b6 b7 b8 b9 b10 b11 b12 b13 b14 b15)
  (L12_q33 b0 b1 b2 b3 b4 b5 b6 b7 b8 b9 b10 b11 b12 b13 b14 b15) (L12_q35 b0 b1 b2 b3 b4 b5 b6 b7 b8 b9 b10 b11 b12 b13 b14 b15) (L12_q36 b0 b1 b2 b3 b4 b5 b6 b7 b8 b9 b10 b11 b12 b13 b14 b15)
  (L12_q38 b0 b1 b2 b3 b4 b5 b6 b7 b8 b9 b10 b11 b12 b13 b14 b15) (L12_q39 b0 b1 b2 b3 b4 b5 b6 b7 b8 b9 b10 b11 b12 b13 b14 b15)
noncomputable def L12_q55 (n : Nat) (c : Nat → Nat → DV) (b0 : Int) (b1 : Int) (b2 : Int) (b3 : Int) (b4 : Int) (b5 : Int) (b6 : Int) (b7 : Int) (b8 : Int) (b9 : Int) (b10 : Int) (b11 : Int) (b12 : Int) (b13 : Int) (b14 : Int) (b15 : Int) : Rat :=
  ratOf (lN (L12_q54 n c b0 b1 b2 b3 b4 b5 b6 b7 b8 b9 b10 b11 b12 b13 b14 b15)) (lD (L12_q54 n c b0 b1 b2 b3 b4 b5 b6 b7 b8 b9 b10 b11 b12 b13 b14 b15))
noncomputable def L12_q56 (n : Nat) (c : Nat → Nat → DV) (b0 : Int) (b1 : Int) (b2 : Int) (b3 : Int) (b4 : Int) (b5 : Int) (b6 : Int) (b7 : Int) (b8 : Int) (b9 : Int) (b10 : Int) (b11 : Int) (b12 : Int) (b13 : Int) (b14 : Int) (b15 : Int) : Rat :=
  ratOf (hN (L12_q54 n c b0 b1 b2 b3 b4 b5 b6 b7 b8 b9 b10 b11 b12 b13 b14 b15)) (hD (L12_q54 n c b0 b1 b2 b3 b4 b5 b6 b7 b8 b9 b10 b11 b12 b13 b14 b15))
noncomputable def L12_q57 (m : Nat) (d : Nat → Nat → DV) (b0 : Int) (b1 : Int) (b2 : Int) (b3 : Int) (b4 : Int) (b5 : Int) (b6 : Int) (b7 : Int) (b8 : Int) (b9 : Int) (b10 : Int) (b11 : Int) (b12 : Int) (b13 : Int) (b14 : Int) (b15 : Int) : Option (Rat × Rat) :=
  rgO (L12_q23 m d) (L12_q24 m d) (L12_q25 m d) (L12_q26 m d) (L12_q32 b0 b1 b2 b3 b4 b5 b6 b7 b8 b9 b10 b11 b12 b13 b14 b15)
  (L12_q33 b0 b1 b2 b3 b4 b5 b6 b7 b8 b9 b10 b11 b12 b13 b14 b15) (L12_q35 b0 b1 b2 b3 b4 b5 b6 b7 b8 b9 b10 b11 b12 b13 b14 b15) (L12_q36 b0 b1 b2 b3 b4 b5 b6 b7 b8 b9 b10 b11 b12 b13 b14 b15)
  (L12_q38 b0 b1 b2 b3 b4 b5 b6 b7 b8 b9 b10 b11 b12 b13 b14 b15) (L12_q39 b0 b1 b2 b3 b4 b5 b6 b7 b8 b9 b10 b11 b12 b13 b14 b15)
noncomputable def L12_q58 (m : Nat) (d : Nat → Nat → DV) (b0 : Int) (b1 : Int) (b2 : Int) (b3 : Int) (b4 : Int) (b5 : Int) (b6 : Int) (b7 : Int) (b8 : Int) (b9 : Int) (b10 : Int) (b11 : Int) (b12 : Int) (b13 : Int) (b14 : Int) (b15 : Int) : Rat :=
  ratOf (lN (L12_q57 m d b0 b1 b2 b3 b4 b5 b6 b7 b8 b9 b10 b11 b12 b13 b14 b15)) (lD (L12_q57 m d b0 b1 b2 b3 b4 b5 b6 b7 b8 b9 b10 b11 b12 b13 b14 b15))
noncomputable def L12_q59 (m : Nat) (d : Nat → Nat → DV) (b0 : Int) (b1 : Int) (b2 : Int) (b3 : Int) (b4 : Int) (b5 : Int) (b6 : Int) (b7 : Int) (b8 : Int) (b9 : Int) (b10 : Int) (b11 : Int) (b12 : Int) (b13 : Int) (b14 : Int) (b15 : Int) : Rat :=
  ratOf (hN (L12_q57 m d b0 b1 b2 b3 b4 b5 b6 b7 b8 b9 b10 b11 b12 b13 b14 b15)) (hD (L12_q57 m d b0 b1 b2 b3 b4 b5 b6 b7 b8 b9 b10 b11 b12 b13 b14 b15))
noncomputable def L12_q60 (n : Nat) (m : Nat) (c : Nat → Nat → DV) (d : Nat → Nat → DV) (b0 : Int) (b1 : Int) (b2 : Int) (b3 : Int) (b4 : Int) (b5 : Int) (b6 : Int) (b7 : Int) (b8 : Int) (b9 : Int) (b10 : Int) (b11 : Int) (b12 : Int) (b13 : Int) (b14 : Int) (b15 : Int) : Option (Rat × Rat) :=
  rgO (L12_q46 n m c d) (L12_q47 n m c d) (L12_q48 n m c d) (L12_q49 n m c d) (L12_q32 b0 b1 b2 b3 b4 b5 b6 b7 b8 b9 b10 b11 b12 b13 b14 b15)
  (L12_q33 b0 b1 b2 b3 b4 b5 b6 b7 b8 b9 b10 b11 b12 b13 b14 b15) (L12_q35 b0 b1 b2 b3 b4 b5 b6 b7 b8 b9 b10 b11 b12 b13 b14 b15) (L12_q36 b0 b1 b2 b3 b4 b5 b6 b7 b8 b9 b10 b11 b12 b13 b14 b15)
  (L12_q38 b0 b1 b2 b3 b4 b5 b6 b7 b8 b9 b10 b11 b12 b13 b14 b15) (L12_q39 b0 b1 b2 b3 b4 b5 b6 b7 b8 b9 b10 b11 b12 b13 b14 b15)
noncomputable def L12_q61 (n : Nat) (m : Nat) (c : Nat → Nat → DV) (d : Nat → Nat → DV) (b0 : Int) (b1 : Int) (b2 : Int) (b3 : Int) (b4 : Int) (b5 : Int) (b6 : Int) (b7 : Int) (b8 : Int) (b9 : Int) (b10 : Int) (b11 : Int) (b12 : Int) (b13 : Int) (b14 : Int) (b15 : Int) : Rat :=
  ratOf (lN (L12_q60 n m c d b0 b1 b2 b3 b4 b5 b6 b7 b8 b9 b10 b11 b12 b13 b14 b15)) (lD (L12_q60 n m c d b0 b1 b2 b3 b4 b5 b6 b7 b8 b9 b10 b11 b12 b13 b14 b15))
noncomputable def L12_q62 (n : Nat) (m : Nat) (c : Nat → Nat → DV) (d : Nat → Nat → DV) (b0 : Int) (b1 : Int) (b2 : Int) (b3 : Int) (b4 : Int) (b5 : Int) (b6 : Int) (b7 : Int) (b8 : Int) (b9 : Int) (b10 : Int) (b11 : Int) (b12 : Int) (b13 : Int) (b14 : Int) (b15 : Int) : Rat :=
  ratOf (hN (L12_q60 n m c d b0 b1 b2 b3 b4 b5 b6 b7 b8 b9 b10 b11 b12 b13 b14 b15)) (hD (L12_q60 n m c d b0 b1 b2 b3 b4 b5 b6 b7 b8 b9 b10 b11 b12 b13 b14 b15))
noncomputable def L12_q63 (m : Nat) (d : Nat → Nat → DV) : Rat :=
  linQ m (intCell d) (3 : Nat)
noncomputable def L12_q64 (m : Nat) (d : Nat → Nat → DV) : Rat :=
  linQ m (intCell d) (2 : Nat)
noncomputable def L12_q65 (m : Nat) (d : Nat → Nat → DV) : Rat :=
  linQ m (intCell d) (1 : Nat)
noncomputable def L12_q66 (m : Nat) (d : Nat → Nat → DV) : Rat :=
  linQ m (intCell d) (0 : Nat)
noncomputable def L12_q67 (n : Nat) (c : Nat → Nat → DV) : Rat :=
  linQ n (intCell c) (3 : Nat)
noncomputable def L12_q68 (n : Nat) (c : Nat → Nat → DV) : Rat :=
  linQ n (intCell c) (2 : Nat)
noncomputable def L12_q69 (n : Nat) (c : Nat → Nat → DV) : Rat :=
  linQ n (intCell c) (1 : Nat)
noncomputable def L12_q70 (n : Nat) (c : Nat → Nat → DV) : Rat :=
  linQ n (intCell c) (0 : Nat)
noncomputable def L12_q71 (n : Nat) (m : Nat) (c : Nat → Nat → DV) (d : Nat → Nat → DV) (i : Nat) (j : Nat) : DV :=
  dsAt
  ((fun x => DV.x (.int .i64 (Rat.num (L12_q70 n c))) :: x)
   ((fun x => DV.x (.int .i64 (↑(Rat.den (L12_q70 n c)) : Int)) :: x)
   ((fun x => DV.x (.int .i64 (Rat.num (L12_q69 n c))) :: x)
   ((fun x => DV.x (.int .i64 (↑(Rat.den (L12_q69 n c)) : Int)) :: x)
   ((fun x => DV.x (.int .i64 (Rat.num (L12_q68 n c))) :: x)
   ((fun x => DV.x (.int .i64 (↑(Rat.den (L12_q68 n c)) : Int)) :: x)
   ((fun x => DV.x (.int .i64 (Rat.num (L12_q67 n c))) :: x)
   ((fun x => DV.x (.int .i64 (↑(Rat.den (L12_q67 n c)) : Int)) :: x)
   ((fun x => DV.x (.int .i64 (Rat.num (L12_q66 m d))) :: x)
   ((fun x => DV.x (.int .i64 (↑(Rat.den (L12_q66 m d)) : Int)) :: x)
   ((fun x => DV.x (.int .i64 (Rat.num (L12_q65 m d))) :: x)
   ((fun x => DV.x (.int .i64 (↑(Rat.den (L12_q65 m d)) : Int)) :: x)
   ((fun x => DV.x (.int .i64 (Rat.num (L12_q64 m d))) :: x)
   ((fun x => DV.x (.int .i64 (↑(Rat.den (L12_q64 m d)) : Int)) :: x)
   ((fun x => DV.x (.int .i64 (Rat.num (L12_q63 m d))) :: x) ((fun x => DV.x (.int .i64 (↑(Rat.den (L12_q63 m d)) : Int)) :: x) []))))))))))))))))
  ((0 : Nat) + ((0 : Nat) + i) * (fun x => TypeInfo.size x) (Tables.types (Program.toTables Try.prog))[(28 : Nat)] + j)
noncomputable def L12_q72 (n : Nat) (m : Nat) (c : Nat → Nat → DV) (d : Nat → Nat → DV) (b0 : Int) (b1 : Int) (b2 : Int) (b3 : Int) (b4 : Int) (b5 : Int) (b6 : Int) (b7 : Int) (b8 : Int) (b9 : Int) (b10 : Int) (b11 : Int) (b12 : Int) (b13 : Int) (b14 : Int) (b15 : Int) : Option (Rat × Rat) :=
  plsO (L12_q55 n c b0 b1 b2 b3 b4 b5 b6 b7 b8 b9 b10 b11 b12 b13 b14 b15) (L12_q56 n c b0 b1 b2 b3 b4 b5 b6 b7 b8 b9 b10 b11 b12 b13 b14 b15)
  (L12_q58 m d b0 b1 b2 b3 b4 b5 b6 b7 b8 b9 b10 b11 b12 b13 b14 b15) (L12_q59 m d b0 b1 b2 b3 b4 b5 b6 b7 b8 b9 b10 b11 b12 b13 b14 b15)
noncomputable def L12_q73 (n : Nat) (m : Nat) (c : Nat → Nat → DV) (d : Nat → Nat → DV) (b0 : Int) (b1 : Int) (b2 : Int) (b3 : Int) (b4 : Int) (b5 : Int) (b6 : Int) (b7 : Int) (b8 : Int) (b9 : Int) (b10 : Int) (b11 : Int) (b12 : Int) (b13 : Int) (b14 : Int) (b15 : Int) : Rat :=
  ratOf (lN (L12_q72 n m c d b0 b1 b2 b3 b4 b5 b6 b7 b8 b9 b10 b11 b12 b13 b14 b15)) (lD (L12_q72 n m c d b0 b1 b2 b3 b4 b5 b6 b7 b8 b9 b10 b11 b12 b13 b14 b15))
noncomputable def L12_q74 (n : Nat) (m : Nat) (c : Nat → Nat → DV) (d : Nat → Nat → DV) (b0 : Int) (b1 : Int) (b2 : Int) (b3 : Int) (b4 : Int) (b5 : Int) (b6 : Int) (b7 : Int) (b8 : Int) (b9 : Int) (b10 : Int) (b11 : Int) (b12 : Int) (b13 : Int) (b14 : Int) (b15 : Int) : Rat :=
  ratOf (hN (L12_q72 n m c d b0 b1 b2 b3 b4 b5 b6 b7 b8 b9 b10 b11 b12 b13 b14 b15)) (hD (L12_q72 n m c d b0 b1 b2 b3 b4 b5 b6 b7 b8 b9 b10 b11 b12 b13 b14 b15))
noncomputable def L12_q75 (n : Nat) (m : Nat) (c : Nat → Nat → DV) (d : Nat → Nat → DV) (b0 : Int) (b1 : Int) (b2 : Int) (b3 : Int) (b4 : Int) (b5 : Int) (b6 : Int) (b7 : Int) (b8 : Int) (b9 : Int) (b10 : Int) (b11 : Int) (b12 : Int) (b13 : Int) (b14 : Int) (b15 : Int) : Bool :=
  oE (L12_q54 n c b0 b1 b2 b3 b4 b5 b6 b7 b8 b9 b10 b11 b12 b13 b14 b15) == (0 : Int) && oE (L12_q57 m d b0 b1 b2 b3 b4 b5 b6 b7 b8 b9 b10 b11 b12 b13 b14 b15) == (0 : Int) &&
   oE (L12_q60 n m c d b0 b1 b2 b3 b4 b5 b6 b7 b8 b9 b10 b11 b12 b13 b14 b15) == (0 : Int) &&
   oE (L12_q72 n m c d b0 b1 b2 b3 b4 b5 b6 b7 b8 b9 b10 b11 b12 b13 b14 b15) == (0 : Int) &&
  (vB (lN (L12_q72 n m c d b0 b1 b2 b3 b4 b5 b6 b7 b8 b9 b10 b11 b12 b13 b14 b15)) (lD (L12_q72 n m c d b0 b1 b2 b3 b4 b5 b6 b7 b8 b9 b10 b11 b12 b13 b14 b15)) &&
   vB (hN (L12_q72 n m c d b0 b1 b2 b3 b4 b5 b6 b7 b8 b9 b10 b11 b12 b13 b14 b15)) (hD (L12_q72 n m c d b0 b1 b2 b3 b4 b5 b6 b7 b8 b9 b10 b11 b12 b13 b14 b15)) &&
   decide (L12_q73 n m c d b0 b1 b2 b3 b4 b5 b6 b7 b8 b9 b10 b11 b12 b13 b14 b15 ≤ L12_q74 n m c d b0 b1 b2 b3 b4 b5 b6 b7 b8 b9 b10 b11 b12 b13 b14 b15))
noncomputable def L12_q76 (n : Nat) (m : Nat) (c : Nat → Nat → DV) (d : Nat → Nat → DV) (i : Nat) (j : Nat) : DV :=
  dsAt
  [DV.x (.int .i64 (Rat.num (L12_q3 n c))), DV.x (.int .i64 (↑(Rat.den (L12_q3 n c)) : Int)), DV.x (.int .i64 (Rat.num (L12_q4 n c))),
   DV.x (.int .i64 (↑(Rat.den (L12_q4 n c)) : Int)), DV.x (.int .i64 (Rat.num (L12_q5 n c))), DV.x (.int .i64 (↑(Rat.den (L12_q5 n c)) : Int)),
   DV.x (.int .i64 (Rat.num (L12_q6 n c))), DV.x (.int .i64 (↑(Rat.den (L12_q6 n c)) : Int)), DV.x (.int .i64 (Rat.num (L12_q8 m d))),
   DV.x (.int .i64 (↑(Rat.den (L12_q8 m d)) : Int)), DV.x (.int .i64 (Rat.num (L12_q9 m d))), DV.x (.int .i64 (↑(Rat.den (L12_q9 m d)) : Int)),
   DV.x (.int .i64 (Rat.num (L12_q10 m d))), DV.x (.int .i64 (↑(Rat.den (L12_q10 m d)) : Int)), DV.x (.int .i64 (Rat.num (L12_q11 m d))),
   DV.x (.int .i64 (↑(Rat.den (L12_q11 m d)) : Int))]
  (0 + (0 + i) * 8 + j)
noncomputable def L12_q77 (n : Nat) (m : Nat) (c : Nat → Nat → DV) (d : Nat → Nat → DV) : Option (Rat × Rat × Rat × Rat) :=
  sumR 2 (L12_q76 n m c d)
noncomputable def L12_q78 (n : Nat) (m : Nat) (c : Nat → Nat → DV) (d : Nat → Nat → DV) : Option Rat :=
  k0 (L12_q77 n m c d)
noncomputable def L12_q79 (n : Nat) (m : Nat) (c : Nat → Nat → DV) (d : Nat → Nat → DV) : Option Rat :=
  k1 (L12_q77 n m c d)
noncomputable def L12_q80 (n : Nat) (m : Nat) (c : Nat → Nat → DV) (d : Nat → Nat → DV) : Option Rat :=
  k2 (L12_q77 n m c d)
noncomputable def L12_q81 (n : Nat) (m : Nat) (c : Nat → Nat → DV) (d : Nat → Nat → DV) : Option Rat :=
  k3 (L12_q77 n m c d)
noncomputable def L12_q82 (n : Nat) (m : Nat) (c : Nat → Nat → DV) (d : Nat → Nat → DV) (b0 : Int) (b1 : Int) (b2 : Int) (b3 : Int) (b4 : Int) (b5 : Int) (b6 : Int) (b7 : Int) (b8 : Int) (b9 : Int) (b10 : Int) (b11 : Int) (b12 : Int) (b13 : Int) (b14 : Int) (b15 : Int) : Bool :=
  L12_q75 n m c d b0 b1 b2 b3 b4 b5 b6 b7 b8 b9 b10 b11 b12 b13 b14 b15 &&
   (decide (L12_q73 n m c d b0 b1 b2 b3 b4 b5 b6 b7 b8 b9 b10 b11 b12 b13 b14 b15 ≤ L12_q61 n m c d b0 b1 b2 b3 b4 b5 b6 b7 b8 b9 b10 b11 b12 b13 b14 b15) &&
   decide (L12_q61 n m c d b0 b1 b2 b3 b4 b5 b6 b7 b8 b9 b10 b11 b12 b13 b14 b15 ≤ L12_q74 n m c d b0 b1 b2 b3 b4 b5 b6 b7 b8 b9 b10 b11 b12 b13 b14 b15) &&
   (decide (L12_q73 n m c d b0 b1 b2 b3 b4 b5 b6 b7 b8 b9 b10 b11 b12 b13 b14 b15 ≤ L12_q62 n m c d b0 b1 b2 b3 b4 b5 b6 b7 b8 b9 b10 b11 b12 b13 b14 b15) &&
   decide (L12_q62 n m c d b0 b1 b2 b3 b4 b5 b6 b7 b8 b9 b10 b11 b12 b13 b14 b15 ≤ L12_q74 n m c d b0 b1 b2 b3 b4 b5 b6 b7 b8 b9 b10 b11 b12 b13 b14 b15))) &&
   oE (L12_q77 n m c d) == (0 : Int) &&
  (oN (L12_q78 n m c d) == oN (L12_q28 n m c d) && (oD (L12_q78 n m c d) == oD (L12_q28 n m c d) && true) &&
   (oN (L12_q79 n m c d) == oN (L12_q29 n m c d) && (oD (L12_q79 n m c d) == oD (L12_q29 n m c d) && true) &&
   (oN (L12_q80 n m c d) == oN (L12_q30 n m c d) && (oD (L12_q80 n m c d) == oD (L12_q30 n m c d) && true) &&
   (oN (L12_q81 n m c d) == oN (L12_q31 n m c d) && (oD (L12_q81 n m c d) == oD (L12_q31 n m c d) && true) && true))))
noncomputable def L12_q83 (n : Nat) (m : Nat) (c : Nat → Nat → DV) (d : Nat → Nat → DV) : Option (Rat × Rat × Rat × Rat) :=
  addO (L12_q23 m d) (L12_q24 m d) (L12_q25 m d) (L12_q26 m d) (L12_q19 n c) (L12_q20 n c) (L12_q21 n c) (L12_q22 n c)
noncomputable def L12_q84 (n : Nat) (m : Nat) (c : Nat → Nat → DV) (d : Nat → Nat → DV) : Option Rat :=
  k0 (L12_q83 n m c d)
noncomputable def L12_q85 (n : Nat) (m : Nat) (c : Nat → Nat → DV) (d : Nat → Nat → DV) : Option Rat :=
  k1 (L12_q83 n m c d)
noncomputable def L12_q86 (n : Nat) (m : Nat) (c : Nat → Nat → DV) (d : Nat → Nat → DV) : Option Rat :=
  k2 (L12_q83 n m c d)
noncomputable def L12_q87 (n : Nat) (m : Nat) (c : Nat → Nat → DV) (d : Nat → Nat → DV) : Option Rat :=
  k3 (L12_q83 n m c d)
noncomputable def L12 (n m : Nat) (c d : Nat → Nat → DV) (b0 b1 b2 b3 b4 b5 b6 b7 b8 b9 b10 b11 b12 b13 b14 b15 : Int) : Tree SV :=
  .ite false (.ret (bv false))
  (.need (Byt n c)
   (.need (Byt m d)
   (.need (((0 : Int) ≤ (12 : Int) ∧ 12 ≤ 16) ∧ True)
   (.need
   (12 ≤
   List.length
   [SV.d (DV.x (.int .u8 b0)), SV.d (DV.x (.int .u8 b1)), SV.d (DV.x (.int .u8 b2)), SV.d (DV.x (.int .u8 b3)), SV.d (DV.x (.int .u8 b4)),
   SV.d (DV.x (.int .u8 b5)), SV.d (DV.x (.int .u8 b6)), SV.d (DV.x (.int .u8 b7)), SV.d (DV.x (.int .u8 b8)), SV.d (DV.x (.int .u8 b9)),
   SV.d (DV.x (.int .u8 b10)), SV.d (DV.x (.int .u8 b11)), SV.d (DV.x (.int .u8 b12)), SV.d (DV.x (.int .u8 b13)), SV.d (DV.x (.int .u8 b14)),
   SV.d (DV.x (.int .u8 b15))])
   (.need (Byt 12 (L12_q1 b0 b1 b2 b3 b4 b5 b6 b7 b8 b9 b10 b11 b12 b13 b14 b15))
   (.need
   (VL (Rat.num (L12_q3 n c)) (↑(Rat.den (L12_q3 n c)) : Int) (Rat.num (L12_q4 n c)) (↑(Rat.den (L12_q4 n c)) : Int) (Rat.num (L12_q5 n c))
   (↑(Rat.den (L12_q5 n c)) : Int) (Rat.num (L12_q6 n c)) (↑(Rat.den (L12_q6 n c)) : Int) ∧
   VL (Rat.num (L12_q8 m d)) (↑(Rat.den (L12_q8 m d)) : Int) (Rat.num (L12_q9 m d)) (↑(Rat.den (L12_q9 m d)) : Int) (Rat.num (L12_q10 m d))
   (↑(Rat.den (L12_q10 m d)) : Int) (Rat.num (L12_q11 m d)) (↑(Rat.den (L12_q11 m d)) : Int))
   (.need ((0 : Int) ≤ (12 : Int) ∧ (12 : Int) < (16 : Int))
   (.need (12 < 16)
   (.need ((0 : Int) ≤ (13 : Int) ∧ (13 : Int) < (16 : Int))
   (.need (13 < 16)
   (.need ((0 : Int) ≤ (14 : Int) ∧ (14 : Int) < (16 : Int))
   (.need (14 < 16)
   (.need
   ((SInt (Rat.num (L12_q13 b0 b1 b2 b3 b4 b5 b6 b7 b8 b9 b10 b11 b12 b13 b14 b15)) (↑(Rat.den (L12_q13 b0 b1 b2 b3 b4 b5 b6 b7 b8 b9 b10 b11 b12 b13 b14 b15)) : Int)
   (Rat.num (L12_q14 b0 b1 b2 b3 b4 b5 b6 b7 b8 b9 b10 b11 b12 b13 b14 b15)) (↑(Rat.den (L12_q14 b0 b1 b2 b3 b4 b5 b6 b7 b8 b9 b10 b11 b12 b13 b14 b15)) : Int) ∧
   SInt (Rat.num (L12_q15 b0 b1 b2 b3 b4 b5 b6 b7 b8 b9 b10 b11 b12 b13 b14 b15)) (↑(Rat.den (L12_q15 b0 b1 b2 b3 b4 b5 b6 b7 b8 b9 b10 b11 b12 b13 b14 b15)) : Int)
   (Rat.num (L12_q16 b0 b1 b2 b3 b4 b5 b6 b7 b8 b9 b10 b11 b12 b13 b14 b15)) (↑(Rat.den (L12_q16 b0 b1 b2 b3 b4 b5 b6 b7 b8 b9 b10 b11 b12 b13 b14 b15)) : Int) ∧
   SInt (Rat.num (L12_q17 b0 b1 b2 b3 b4 b5 b6 b7 b8 b9 b10 b11 b12 b13 b14 b15)) (↑(Rat.den (L12_q17 b0 b1 b2 b3 b4 b5 b6 b7 b8 b9 b10 b11 b12 b13 b14 b15)) : Int)
   (Rat.num (L12_q18 b0 b1 b2 b3 b4 b5 b6 b7 b8 b9 b10 b11 b12 b13 b14 b15)) (↑(Rat.den (L12_q18 b0 b1 b2 b3 b4 b5 b6 b7 b8 b9 b10 b11 b12 b13 b14 b15)) : Int)) ∧
   ((0 : Int) ≤ b12 ∧ b12 < (256 : Int)) ∧ ((0 : Int) ≤ b13 ∧ b13 < (256 : Int)) ∧ (0 : Int) ≤ b14 ∧ b14 < (256 : Int))
   (.ite
   (oE (L12_q27 n m c d) != (0 : Int) ||
   !(vB (oN (L12_q28 n m c d)) (oD (L12_q28 n m c d)) && vB (oN (L12_q29 n m c d)) (oD (L12_q29 n m c d)) &&
   vB (oN (L12_q30 n m c d)) (oD (L12_q30 n m c d)) &&
   vB (oN (L12_q31 n m c d)) (oD (L12_q31 n m c d))))
   (.ret (bv false))
   (.need
   ((VF (Rat.num (L12_q3 n c)) (↑(Rat.den (L12_q3 n c)) : Int) ∧
   VF (Rat.num (L12_q4 n c)) (↑(Rat.den (L12_q4 n c)) : Int) ∧
   VF (Rat.num (L12_q5 n c)) (↑(Rat.den (L12_q5 n c)) : Int) ∧ VF (Rat.num (L12_q6 n c)) (↑(Rat.den (L12_q6 n c)) : Int)) ∧
   VF (Rat.num (L12_q34 b0 b1 b2 b3 b4 b5 b6 b7 b8 b9 b10 b11 b12 b13 b14 b15)) (↑(Rat.den (L12_q34 b0 b1 b2 b3 b4 b5 b6 b7 b8 b9 b10 b11 b12 b13 b14 b15)) : Int) ∧
   VF (Rat.num (L12_q37 b0 b1 b2 b3 b4 b5 b6 b7 b8 b9 b10 b11 b12 b13 b14 b15)) (↑(Rat.den (L12_q37 b0 b1 b2 b3 b4 b5 b6 b7 b8 b9 b10 b11 b12 b13 b14 b15)) : Int) ∧
   VF (Rat.num (L12_q40 b0 b1 b2 b3 b4 b5 b6 b7 b8 b9 b10 b11 b12 b13 b14 b15)) (↑(Rat.den (L12_q40 b0 b1 b2 b3 b4 b5 b6 b7 b8 b9 b10 b11 b12 b13 b14 b15)) : Int))
   (.need
   ((VF (Rat.num (L12_q8 m d)) (↑(Rat.den (L12_q8 m d)) : Int) ∧
   VF (Rat.num (L12_q9 m d)) (↑(Rat.den (L12_q9 m d)) : Int) ∧
   VF (Rat.num (L12_q10 m d)) (↑(Rat.den (L12_q10 m d)) : Int) ∧ VF (Rat.num (L12_q11 m d)) (↑(Rat.den (L12_q11 m d)) : Int)) ∧
   VF (Rat.num (L12_q34 b0 b1 b2 b3 b4 b5 b6 b7 b8 b9 b10 b11 b12 b13 b14 b15)) (↑(Rat.den (L12_q34 b0 b1 b2 b3 b4 b5 b6 b7 b8 b9 b10 b11 b12 b13 b14 b15)) : Int) ∧
   VF (Rat.num (L12_q37 b0 b1 b2 b3 b4 b5 b6 b7 b8 b9 b10 b11 b12 b13 b14 b15)) (↑(Rat.den (L12_q37 b0 b1 b2 b3 b4 b5 b6 b7 b8 b9 b10 b11 b12 b13 b14 b15)) : Int) ∧
   VF (Rat.num (L12_q40 b0 b1 b2 b3 b4 b5 b6 b7 b8 b9 b10 b11 b12 b13 b14 b15)) (↑(Rat.den (L12_q40 b0 b1 b2 b3 b4 b5 b6 b7 b8 b9 b10 b11 b12 b13 b14 b15)) : Int))
   (.need
   ((VF (oN (L12_q28 n m c d)) (oD (L12_q28 n m c d)) ∧
   VF (oN (L12_q29 n m c d)) (oD (L12_q29 n m c d)) ∧
   VF (oN (L12_q30 n m c d)) (oD (L12_q30 n m c d)) ∧ VF (oN (L12_q31 n m c d)) (oD (L12_q31 n m c d))) ∧
   VF (Rat.num (L12_q34 b0 b1 b2 b3 b4 b5 b6 b7 b8 b9 b10 b11 b12 b13 b14 b15)) (↑(Rat.den (L12_q34 b0 b1 b2 b3 b4 b5 b6 b7 b8 b9 b10 b11 b12 b13 b14 b15)) : Int) ∧
   VF (Rat.num (L12_q37 b0 b1 b2 b3 b4 b5 b6 b7 b8 b9 b10 b11 b12 b13 b14 b15)) (↑(Rat.den (L12_q37 b0 b1 b2 b3 b4 b5 b6 b7 b8 b9 b10 b11 b12 b13 b14 b15)) : Int) ∧
   VF (Rat.num (L12_q40 b0 b1 b2 b3 b4 b5 b6 b7 b8 b9 b10 b11 b12 b13 b14 b15)) (↑(Rat.den (L12_q40 b0 b1 b2 b3 b4 b5 b6 b7 b8 b9 b10 b11 b12 b13 b14 b15)) : Int))
   (.ite
   (!vB (oN (L12_q44 n c b0 b1 b2 b3 b4 b5 b6 b7 b8 b9 b10 b11 b12 b13 b14 b15)) (oD (L12_q44 n c b0 b1 b2 b3 b4 b5 b6 b7 b8 b9 b10 b11 b12 b13 b14 b15)) ||
   !vB (oN (L12_q45 m d b0 b1 b2 b3 b4 b5 b6 b7 b8 b9 b10 b11 b12 b13 b14 b15)) (oD (L12_q45 m d b0 b1 b2 b3 b4 b5 b6 b7 b8 b9 b10 b11 b12 b13 b14 b15)))
   (.ret (bv false))
   (.need
   (VF (oN (L12_q44 n c b0 b1 b2 b3 b4 b5 b6 b7 b8 b9 b10 b11 b12 b13 b14 b15)) (oD (L12_q44 n c b0 b1 b2 b3 b4 b5 b6 b7 b8 b9 b10 b11 b12 b13 b14 b15)) ∧
   VF (oN (L12_q45 m d b0 b1 b2 b3 b4 b5 b6 b7 b8 b9 b10 b11 b12 b13 b14 b15)) (oD (L12_q45 m d b0 b1 b2 b3 b4 b5 b6 b7 b8 b9 b10 b11 b12 b13 b14 b15)))
   (.ite
   (oE (L12_q50 n m c d b0 b1 b2 b3 b4 b5 b6 b7 b8 b9 b10 b11 b12 b13 b14 b15) != (0 : Int) ||
   rE (L12_q53 n m c d b0 b1 b2 b3 b4 b5 b6 b7 b8 b9 b10 b11 b12 b13 b14 b15) != (0 : Int) ||
   !(rN (L12_q53 n m c d b0 b1 b2 b3 b4 b5 b6 b7 b8 b9 b10 b11 b12 b13 b14 b15) == oN (L12_q50 n m c d b0 b1 b2 b3 b4 b5 b6 b7 b8 b9 b10 b11 b12 b13 b14 b15) &&
   (rD (L12_q53 n m c d b0 b1 b2 b3 b4 b5 b6 b7 b8 b9 b10 b11 b12 b13 b14 b15) == oD (L12_q50 n m c d b0 b1 b2 b3 b4 b5 b6 b7 b8 b9 b10 b11 b12 b13 b14 b15) && true)))
   (.ret (bv false))
   (.need
   (VBox (Rat.num (L12_q3 n c)) (↑(Rat.den (L12_q3 n c)) : Int) (Rat.num (L12_q4 n c)) (↑(Rat.den (L12_q4 n c)) : Int) (Rat.num (L12_q5 n c))
   (↑(Rat.den (L12_q5 n c)) : Int) (Rat.num (L12_q6 n c)) (↑(Rat.den (L12_q6 n c)) : Int)
   (Rat.num (L12_q13 b0 b1 b2 b3 b4 b5 b6 b7 b8 b9 b10 b11 b12 b13 b14 b15)) (↑(Rat.den (L12_q13 b0 b1 b2 b3 b4 b5 b6 b7 b8 b9 b10 b11 b12 b13 b14 b15)) : Int)
   (Rat.num (L12_q14 b0 b1 b2 b3 b4 b5 b6 b7 b8 b9 b10 b11 b12 b13 b14 b15)) (↑(Rat.den (L12_q14 b0 b1 b2 b3 b4 b5 b6 b7 b8 b9 b10 b11 b12 b13 b14 b15)) : Int)
   (Rat.num (L12_q15 b0 b1 b2 b3 b4 b5 b6 b7 b8 b9 b10 b11 b12 b13 b14 b15)) (↑(Rat.den (L12_q15 b0 b1 b2 b3 b4 b5 b6 b7 b8 b9 b10 b11 b12 b13 b14 b15)) : Int)
   (Rat.num (L12_q16 b0 b1 b2 b3 b4 b5 b6 b7 b8 b9 b10 b11 b12 b13 b14 b15)) (↑(Rat.den (L12_q16 b0 b1 b2 b3 b4 b5 b6 b7 b8 b9 b10 b11 b12 b13 b14 b15)) : Int)
   (Rat.num (L12_q17 b0 b1 b2 b3 b4 b5 b6 b7 b8 b9 b10 b11 b12 b13 b14 b15)) (↑(Rat.den (L12_q17 b0 b1 b2 b3 b4 b5 b6 b7 b8 b9 b10 b11 b12 b13 b14 b15)) : Int)
   (Rat.num (L12_q18 b0 b1 b2 b3 b4 b5 b6 b7 b8 b9 b10 b11 b12 b13 b14 b15)) (↑(Rat.den (L12_q18 b0 b1 b2 b3 b4 b5 b6 b7 b8 b9 b10 b11 b12 b13 b14 b15)) : Int))
   (.need
   (VBox (Rat.num (L12_q8 m d)) (↑(Rat.den (L12_q8 m d)) : Int) (Rat.num (L12_q9 m d)) (↑(Rat.den (L12_q9 m d)) : Int) (Rat.num (L12_q10 m d))
   (↑(Rat.den (L12_q10 m d)) : Int) (Rat.num (L12_q11 m d)) (↑(Rat.den (L12_q11 m d)) : Int)
   (Rat.num (L12_q13 b0 b1 b2 b3 b4 b5 b6 b7 b8 b9 b10 b11 b12 b13 b14 b15)) (↑(Rat.den (L12_q13 b0 b1 b2 b3 b4 b5 b6 b7 b8 b9 b10 b11 b12 b13 b14 b15)) : Int)
   (Rat.num (L12_q14 b0 b1 b2 b3 b4 b5 b6 b7 b8 b9 b10 b11 b12 b13 b14 b15)) (↑(Rat.den (L12_q14 b0 b1 b2 b3 b4 b5 b6 b7 b8 b9 b10 b11 b12 b13 b14 b15)) : Int)
   (Rat.num (L12_q15 b0 b1 b2 b3 b4 b5 b6 b7 b8 b9 b10 b11 b12 b13 b14 b15)) (↑(Rat.den (L12_q15 b0 b1 b2 b3 b4 b5 b6 b7 b8 b9 b10 b11 b12 b13 b14 b15)) : Int)
   (Rat.num (L12_q16 b0 b1 b2 b3 b4 b5 b6 b7 b8 b9 b10 b11 b12 b13 b14 b15)) (↑(Rat.den (L12_q16 b0 b1 b2 b3 b4 b5 b6 b7 b8 b9 b10 b11 b12 b13 b14 b15)) : Int)
   (Rat.num (L12_q17 b0 b1 b2 b3 b4 b5 b6 b7 b8 b9 b10 b11 b12 b13 b14 b15)) (↑(Rat.den (L12_q17 b0 b1 b2 b3 b4 b5 b6 b7 b8 b9 b10 b11 b12 b13 b14 b15)) : Int)
   (Rat.num (L12_q18 b0 b1 b2 b3 b4 b5 b6 b7 b8 b9 b10 b11 b12 b13 b14 b15)) (↑(Rat.den (L12_q18 b0 b1 b2 b3 b4 b5 b6 b7 b8 b9 b10 b11 b12 b13 b14 b15)) : Int))
   (.need
   (VBox (oN (L12_q28 n m c d)) (oD (L12_q28 n m c d)) (oN (L12_q29 n m c d)) (oD (L12_q29 n m c d)) (oN (L12_q30 n m c d))
   (oD (L12_q30 n m c d)) (oN (L12_q31 n m c d)) (oD (L12_q31 n m c d)) (Rat.num (L12_q13 b0 b1 b2 b3 b4 b5 b6 b7 b8 b9 b10 b11 b12 b13 b14 b15))
   (↑(Rat.den (L12_q13 b0 b1 b2 b3 b4 b5 b6 b7 b8 b9 b10 b11 b12 b13 b14 b15)) : Int) (Rat.num (L12_q14 b0 b1 b2 b3 b4 b5 b6 b7 b8 b9 b10 b11 b12 b13 b14 b15))
   (↑(Rat.den (L12_q14 b0 b1 b2 b3 b4 b5 b6 b7 b8 b9 b10 b11 b12 b13 b14 b15)) : Int) (Rat.num (L12_q15 b0 b1 b2 b3 b4 b5 b6 b7 b8 b9 b10 b11 b12 b13 b14 b15))
   (↑(Rat.den (L12_q15 b0 b1 b2 b3 b4 b5 b6 b7 b8 b9 b10 b11 b12 b13 b14 b15)) : Int) (Rat.num (L12_q16 b0 b1 b2 b3 b4 b5 b6 b7 b8 b9 b10 b11 b12 b13 b14 b15))
   (↑(Rat.den (L12_q16 b0 b1 b2 b3 b4 b5 b6 b7 b8 b9 b10 b11 b12 b13 b14 b15)) : Int) (Rat.num (L12_q17 b0 b1 b2 b3 b4 b5 b6 b7 b8 b9 b10 b11 b12 b13 b14 b15))
   (↑(Rat.den (L12_q17 b0 b1 b2 b3 b4 b5 b6 b7 b8 b9 b10 b11 b12 b13 b14 b15)) : Int) (Rat.num (L12_q18 b0 b1 b2 b3 b4 b5 b6 b7 b8 b9 b10 b11 b12 b13 b14 b15))
   (↑(Rat.den (L12_q18 b0 b1 b2 b3 b4 b5 b6 b7 b8 b9 b10 b11 b12 b13 b14 b15)) : Int))
   (.ite
   (!(vB (lN (L12_q54 n c b0 b1 b2 b3 b4 b5 b6 b7 b8 b9 b10 b11 b12 b13 b14 b15)) (lD (L12_q54 n c b0 b1 b2 b3 b4 b5 b6 b7 b8 b9 b10 b11 b12 b13 b14 b15)) &&
   vB (hN (L12_q54 n c b0 b1 b2 b3 b4 b5 b6 b7 b8 b9 b10 b11 b12 b13 b14 b15)) (hD (L12_q54 n c b0 b1 b2 b3 b4 b5 b6 b7 b8 b9 b10 b11 b12 b13 b14 b15)) &&
   decide (L12_q55 n c b0 b1 b2 b3 b4 b5 b6 b7 b8 b9 b10 b11 b12 b13 b14 b15 ≤ L12_q56 n c b0 b1 b2 b3 b4 b5 b6 b7 b8 b9 b10 b11 b12 b13 b14 b15)) ||
   !(vB (lN (L12_q57 m d b0 b1 b2 b3 b4 b5 b6 b7 b8 b9 b10 b11 b12 b13 b14 b15)) (lD (L12_q57 m d b0 b1 b2 b3 b4 b5 b6 b7 b8 b9 b10 b11 b12 b13 b14 b15)) &&
   vB (hN (L12_q57 m d b0 b1 b2 b3 b4 b5 b6 b7 b8 b9 b10 b11 b12 b13 b14 b15)) (hD (L12_q57 m d b0 b1 b2 b3 b4 b5 b6 b7 b8 b9 b10 b11 b12 b13 b14 b15)) &&
   decide (L12_q58 m d b0 b1 b2 b3 b4 b5 b6 b7 b8 b9 b10 b11 b12 b13 b14 b15 ≤ L12_q59 m d b0 b1 b2 b3 b4 b5 b6 b7 b8 b9 b10 b11 b12 b13 b14 b15)) ||
   !(vB (lN (L12_q60 n m c d b0 b1 b2 b3 b4 b5 b6 b7 b8 b9 b10 b11 b12 b13 b14 b15)) (lD (L12_q60 n m c d b0 b1 b2 b3 b4 b5 b6 b7 b8 b9 b10 b11 b12 b13 b14 b15)) &&
   vB (hN (L12_q60 n m c d b0 b1 b2 b3 b4 b5 b6 b7 b8 b9 b10 b11 b12 b13 b14 b15)) (hD (L12_q60 n m c d b0 b1 b2 b3 b4 b5 b6 b7 b8 b9 b10 b11 b12 b13 b14 b15)) &&
   decide (L12_q61 n m c d b0 b1 b2 b3 b4 b5 b6 b7 b8 b9 b10 b11 b12 b13 b14 b15 ≤ L12_q62 n m c d b0 b1 b2 b3 b4 b5 b6 b7 b8 b9 b10 b11 b12 b13 b14 b15)))
   (.ret (bv false))
   (.need
   (VF (lN (L12_q54 n c b0 b1 b2 b3 b4 b5 b6 b7 b8 b9 b10 b11 b12 b13 b14 b15)) (lD (L12_q54 n c b0 b1 b2 b3 b4 b5 b6 b7 b8 b9 b10 b11 b12 b13 b14 b15)) ∧
   VF (hN (L12_q54 n c b0 b1 b2 b3 b4 b5 b6 b7 b8 b9 b10 b11 b12 b13 b14 b15)) (hD (L12_q54 n c b0 b1 b2 b3 b4 b5 b6 b7 b8 b9 b10 b11 b12 b13 b14 b15)) ∧
   VF (lN (L12_q57 m d b0 b1 b2 b3 b4 b5 b6 b7 b8 b9 b10 b11 b12 b13 b14 b15)) (lD (L12_q57 m d b0 b1 b2 b3 b4 b5 b6 b7 b8 b9 b10 b11 b12 b13 b14 b15)) ∧
   VF (hN (L12_q57 m d b0 b1 b2 b3 b4 b5 b6 b7 b8 b9 b10 b11 b12 b13 b14 b15)) (hD (L12_q57 m d b0 b1 b2 b3 b4 b5 b6 b7 b8 b9 b10 b11 b12 b13 b14 b15)))
   (.need
   (16 ≤
   List.length
   [iv (Rat.num (L12_q3 n c)), iv (↑(Rat.den (L12_q3 n c)) : Int), iv (Rat.num (L12_q4 n c)), iv (↑(Rat.den (L12_q4 n c)) : Int),
   iv (Rat.num (L12_q5 n c)), iv (↑(Rat.den (L12_q5 n c)) : Int), iv (Rat.num (L12_q6 n c)), iv (↑(Rat.den (L12_q6 n c)) : Int),
   iv (Rat.num (L12_q8 m d)), iv (↑(Rat.den (L12_q8 m d)) : Int), iv (Rat.num (L12_q9 m d)), iv (↑(Rat.den (L12_q9 m d)) : Int),
   iv (Rat.num (L12_q10 m d)), iv (↑(Rat.den (L12_q10 m d)) : Int), iv (Rat.num (L12_q11 m d)), iv (↑(Rat.den (L12_q11 m d)) : Int)])
   (.need
   ((2 = 2 ∨ 2 = 3) ∧
   ∀ (i : Nat),
   i < (2 : Nat) →
   VRow (cellI (L12_q71 n m c d) i) ∧ ∀ (j : Nat), j < (8 : Nat) → L12_q71 n m c d i j = DV.x (.int .i64 (cellI (L12_q71 n m c d) i j)))
   (.need
   (L12_q75 n m c d b0 b1 b2 b3 b4 b5 b6 b7 b8 b9 b10 b11 b12 b13 b14 b15 = true →
   VF (lN (L12_q60 n m c d b0 b1 b2 b3 b4 b5 b6 b7 b8 b9 b10 b11 b12 b13 b14 b15)) (lD (L12_q60 n m c d b0 b1 b2 b3 b4 b5 b6 b7 b8 b9 b10 b11 b12 b13 b14 b15)) ∧
   VF (hN (L12_q60 n m c d b0 b1 b2 b3 b4 b5 b6 b7 b8 b9 b10 b11 b12 b13 b14 b15))
   (hD (L12_q60 n m c d b0 b1 b2 b3 b4 b5 b6 b7 b8 b9 b10 b11 b12 b13 b14 b15)) ∧
   VF (lN (L12_q72 n m c d b0 b1 b2 b3 b4 b5 b6 b7 b8 b9 b10 b11 b12 b13 b14 b15))
   (lD (L12_q72 n m c d b0 b1 b2 b3 b4 b5 b6 b7 b8 b9 b10 b11 b12 b13 b14 b15)) ∧
   VF (hN (L12_q72 n m c d b0 b1 b2 b3 b4 b5 b6 b7 b8 b9 b10 b11 b12 b13 b14 b15))
   (hD (L12_q72 n m c d b0 b1 b2 b3 b4 b5 b6 b7 b8 b9 b10 b11 b12 b13 b14 b15)))
   (.need
   (L12_q82 n m c d b0 b1 b2 b3 b4 b5 b6 b7 b8 b9 b10 b11 b12 b13 b14 b15 = true →
   VL (Rat.num (L12_q8 m d)) (↑(Rat.den (L12_q8 m d)) : Int) (Rat.num (L12_q9 m d)) (↑(Rat.den (L12_q9 m d)) : Int)
   (Rat.num (L12_q10 m d)) (↑(Rat.den (L12_q10 m d)) : Int) (Rat.num (L12_q11 m d)) (↑(Rat.den (L12_q11 m d)) : Int) ∧
   VL (Rat.num (L12_q3 n c)) (↑(Rat.den (L12_q3 n c)) : Int) (Rat.num (L12_q4 n c)) (↑(Rat.den (L12_q4 n c)) : Int)
   (Rat.num (L12_q5 n c)) (↑(Rat.den (L12_q5 n c)) : Int) (Rat.num (L12_q6 n c)) (↑(Rat.den (L12_q6 n c)) : Int))
   (.ret
   (bv
   (L12_q82 n m c d b0 b1 b2 b3 b4 b5 b6 b7 b8 b9 b10 b11 b12 b13 b14 b15 &&
   (oN (L12_q84 n m c d) == oN (L12_q28 n m c d) && (oD (L12_q84 n m c d) == oD (L12_q28 n m c d) && true) &&
   (oN (L12_q85 n m c d) == oN (L12_q29 n m c d) && (oD (L12_q85 n m c d) == oD (L12_q29 n m c d) && true) &&
   (oN (L12_q86 n m c d) == oN (L12_q30 n m c d) && (oD (L12_q86 n m c d) == oD (L12_q30 n m c d) && true) &&
   (oN (L12_q87 n m c d) == oN (L12_q31 n m c d) && (oD (L12_q87 n m c d) == oD (L12_q31 n m c d) && true) && true))) &&
   (oE (L12_q83 n m c d) == oE (L12_q27 n m c d) && true)) &&
   true))))))))))))))))))))))))))))))))

theorem L12_eq (n m : Nat) (c d : Nat → Nat → DV) (b0 b1 b2 b3 b4 b5 b6 b7 b8 b9 b10 b11 b12 b13 b14 b15 : Int) : TI .nil 12 [.d (.ro n 1 c), .d (.ro m 1 d), .agg [u8 b0, u8 b1, u8 b2, u8 b3, u8 b4, u8 b5, u8 b6, u8 b7, u8 b8, u8 b9, u8 b10, u8 b11, u8 b12, u8 b13, u8 b14, u8 b15]] = L12 n m c d b0 b1 b2 b3 b4 b5 b6 b7 b8 b9 b10 b11 b12 b13 b14 b15 := by kernel_rfl


end Go.Proofs.Ytpaejfeojdoikaa

namespace Go.Proofs.Ytpaejfeojdoikaa
open Go.Sx
set_option maxRecDepth 100000

structure LawI (k : Nat) (ss : List SV) : Prop where
  ok : ∃ h, (TI h k ss).sat Try.prog (· = bv true)
theorem law_ctrI {k : Nat} {okA : List SV → Prop} (hf : (Try.prog.funcs[k]?).isSome = true) (hb : (fnOf Try.prog k).body.isSome = true) (h : ∀ ss, okA ss → LawI k ss) :
    ∃ c : Ctr, CtrOK Try.prog k c ∧ ∀ ss, okA ss → (c ss).ev (bv true) := by
  refine ⟨fun ss => .need (okA ss) (.ret (bv true)), ?_, fun ss hs => ⟨hs, rfl⟩⟩
  refine ctrOK_of CI_ok DI_ok (fn := fnOf Try.prog k) (body := bodyOf Try.prog k) (by
    unfold fnOf
    cases hk : Try.prog.funcs[k]? with
    | none => rw [hk] at hf; cases hf
    | some f => rfl) (by
    unfold bodyOf
    cases hk : (fnOf Try.prog k).body with
    | none => rw [hk] at hb; cases hb
    | some f => rfl) fun ss r hr => ?_
  obtain ⟨h1, rfl⟩ := hr
  obtain ⟨hint, h2⟩ := (h ss h1).ok
  exact ⟨200, hint, h2⟩

/-! ### Multiples -/
theorem crn_mul {t l h f : Rat} (hf : 0 ≤ f) (u : Bool) : (t * f) * crn (t * f) l h u = (t * crn t l h u) * f := by
  by_cases h0 : f = 0
  · subst h0; rw [Rat.mul_zero, Rat.zero_mul, Rat.mul_zero]
  · have hp : 0 < f := Rat.lt_of_le_of_ne hf (fun e => h0 e.symm)
    have : crn (t * f) l h u = crn t l h u := by
      unfold crn
      rw [num_ge, num_ge]
      have : decide (0 ≤ t * f) = decide (0 ≤ t) := by
        rw [decide_eq_decide]
        constructor
        · intro h1
          have h2 : 0 * f ≤ t * f := by rw [Rat.zero_mul]; exact h1
          exact Rat.le_of_mul_le_mul_right h2 hp
        · intro h1; exact Rat.mul_nonneg h1 hf
      rw [this]
    rw [this, Rat.mul_assoc, Rat.mul_comm f, ← Rat.mul_assoc]
theorem rgV_mul {k t v a l0 h0 l1 h1 l2 h2 f : Rat} (hf : 0 ≤ f) (u : Bool) : rgV (k * f) (t * f) (v * f) (a * f) l0 h0 l1 h1 l2 h2 u = rgV k t v a l0 h0 l1 h1 l2 h2 u * f := by
  unfold rgV lv
  rw [crn_mul hf, crn_mul hf, crn_mul hf, Rat.add_mul, Rat.add_mul, Rat.add_mul]
theorem crn_neg {t l h : Rat} (u : Bool) : (-t) * crn (-t) l h u = -(t * crn t l h (!u)) := by
  by_cases h0 : t = 0
  · subst h0; rw [Rat.neg_zero, Rat.zero_mul, Rat.zero_mul, Rat.neg_zero]
  · have : crn (-t) l h u = crn t l h (!u) := by
      unfold crn
      rw [num_ge, num_ge]
      have : decide (0 ≤ -t) = !decide (0 ≤ t) := by
        by_cases h1 : 0 ≤ t
        · have : ¬ 0 ≤ -t := fun h2 => h0 (by grind)
          simp [h1, this]
        · have : 0 ≤ -t := by grind
          simp [h1, this]
      rw [this]
      cases decide (0 ≤ t) <;> cases u <;> rfl
    rw [this, Rat.neg_mul]
theorem rgV_neg {k t v a l0 h0 l1 h1 l2 h2 : Rat} (u : Bool) : rgV (-k) (-t) (-v) (-a) l0 h0 l1 h1 l2 h2 u = -rgV k t v a l0 h0 l1 h1 l2 h2 (!u) := by
  unfold rgV lv
  rw [crn_neg, crn_neg, crn_neg]
  grind
theorem mul_m1 {q : Rat} : q * ratOf (-1) 1 = -q := by
  rw [show ratOf (-1) 1 = -1 by decide +kernel, Rat.mul_neg, Rat.mul_one]
theorem neg_num64 {q : Rat} (h : fitsR q) : w64 (0 - q.num) = (-q).num := by
  obtain ⟨h1, h2⟩ := h
  rw [Rat.neg_num, w64_of (by omega) (by omega), Int.zero_sub]
theorem _root_.Go.Sx.Sm.cfm {q f : Rat} (h : Sm 60 20 q) (hf : Sm 60 40 f) : CfQ (q * f) := h.mul hf

theorem CfQ.fits {q : Rat} (h : CfQ q) : fitsR q := Sm.fits h (by decide) (by decide)

theorem law10 {n m : Nat} {c d : Nat → Nat → DV} (hc : Byt n c) (hd : Byt m d) {k0 k1 : Int} (g0 : 0 ≤ k0 ∧ k0 < 256) (g1 : 0 ≤ k1 ∧ k1 < 256) : LawI 10 [.d (.ro n 1 c), .d (.ro m 1 d), .agg [u8 k0, u8 k1]] := by
  refine ⟨.nil, ?_⟩
  rw [L10_eq]; unfold L10
  have e1 : L10_q1 c = intCell c := rfl
  have e6 : L10_q22 d = intCell d := rfl
  have sK := linQ_sm hc 0
  have sT := linQ_sm hc 1
  have sV := linQ_sm hc 2
  have sA := linQ_sm hc 3
  have sl0 := loQ_sm hd 0
  have sl1 := loQ_sm hd 1
  have sl2 := loQ_sm hd 2
  have sh0 := hiQ_sm hd 0
  have sh1 := hiQ_sm hd 1
  have sh2 := hiQ_sm hd 2
  have o0 := loQ_le (n := m) (c := intCell d) 0
  have o1 := loQ_le (n := m) (c := intCell d) 1
  have o2 := loQ_le (n := m) (c := intCell d) 2
  have w0 : w64 (Int.tmod k0 41) = k0 % 41 := by rw [tmod_lit g0.1, w64_of (by omega) (by omega)]
  have w1 : w64 (1 + w64 (Int.tmod k1 6)) = 1 + k1 % 6 := by rw [tmod_lit g1.1, w64_of (n := k1 % 6) (by omega) (by omega), w64_of (by omega) (by omega)]
  simp only [L10_q1, L10_q2, L10_q3, L10_q4, L10_q5, L10_q6, L10_q7, L10_q8, L10_q9, L10_q10, L10_q11, L10_q12, L10_q13, L10_q14, L10_q15, L10_q16, L10_q17, L10_q18, L10_q19, L10_q20, L10_q21, L10_q22, L10_q23, L10_q24, L10_q25, L10_q26, L10_q27, L10_q28, L10_q29, L10_q30, L10_q31, L10_q32, L10_q33, L10_q34, L10_q35, L10_q36, L10_q37, L10_q38, L10_q39, L10_q40, L10_q41, L10_q42, L10_q43, L10_q44, L10_q45, L10_q46, L10_q47, L10_q48, L10_q49, e1, e6, ratOf_rat, w0, w1, mul_m1]
  have sF : Sm 60 40 (ratOf (k0 % 41) (1 + k1 % 6)) := by
    refine Sm.ratOf (by omega) (by decide) (dvd60 g1.1) ?_
    have : 1 ≤ (1 + k1 % 6).toNat := by omega
    omega
  have pF : 0 ≤ ratOf (k0 % 41) (1 + k1 % 6) := by
    have e := ratOf_mul (n := k0 % 41) (d := 1 + k1 % 6) (by omega)
    have hd' : (0 : Rat) < ((1 + k1 % 6 : Int) : Rat) := by
      have : ((0 : Int) : Rat) < ((1 + k1 % 6 : Int) : Rat) := Rat.intCast_lt_intCast.2 (by omega)
      exact this
    refine Rat.le_of_mul_le_mul_right ?_ hd'
    rw [e, Rat.zero_mul]
    have : ((0 : Int) : Rat) ≤ ((k0 % 41 : Int) : Rat) := Rat.intCast_le_intCast.2 (by omega)
    exact this
  generalize ratOf (k0 % 41) (1 + k1 % 6) = F at *
  generalize linQ n (intCell c) 0 = K at *
  generalize linQ n (intCell c) 1 = T at *
  generalize linQ n (intCell c) 2 = V at *
  generalize linQ n (intCell c) 3 = A at *
  generalize loQ m (intCell d) 0 = l0 at *
  generalize loQ m (intCell d) 1 = l1 at *
  generalize loQ m (intCell d) 2 = l2 at *
  generalize hiQ m (intCell d) 0 = h0 at *
  generalize hiQ m (intCell d) 1 = h1 at *
  generalize hiQ m (intCell d) 2 = h2 at *
  have B : BxQ l0 h0 l1 h1 l2 h2 := ⟨sl0.pt, sh0.pt, sl1.pt, sh1.pt, sl2.pt, sh2.pt, o0, o1, o2⟩
  have cK := sK.cfm sF; have cT := sT.cfm sF; have cV := sV.cfm sF; have cA := sA.cfm sF
  have hS : sclO K T V A F = some (K * F, T * F, V * F, A * F) := by
    unfold sclO; rw [fit_of (CfQ.fits cK), fit_of (CfQ.fits cT), fit_of (CfQ.fits cV), fit_of (CfQ.fits cA)]; rfl
  have nK := sK.cf.neg; have nT := sT.cf.neg; have nV := sV.cf.neg; have nA := sA.cf.neg
  have hN : sclO K T V A (ratOf (-1) 1) = some (-K, -T, -V, -A) := by
    unfold sclO; rw [mul_m1, mul_m1, mul_m1, mul_m1, fit_of (CfQ.fits nK), fit_of (CfQ.fits nT), fit_of (CfQ.fits nV), fit_of (CfQ.fits nA)]; rfl
  have hR := rg_val sK.cf sT.cf sV.cf sA.cf B
  have fR := rgV_fits sK.cf sT.cf sV.cf sA.cf B
  have oR := rgV_le (k := K) (t := T) (v := V) (a := A) B
  have hR' := rg_val cK cT cV cA B
  have fR' := rgV_fits cK cT cV cA B
  have hR'' := rg_val nK nT nV nA B
  have fR'' := rgV_fits nK nT nV nA B
  have mR : ∀ u, rgV (K * F) (T * F) (V * F) (A * F) l0 h0 l1 h1 l2 h2 u = rgV K T V A l0 h0 l1 h1 l2 h2 u * F := fun u => rgV_mul pF u
  have nR : ∀ u, rgV (-K) (-T) (-V) (-A) l0 h0 l1 h1 l2 h2 u = -rgV K T V A l0 h0 l1 h1 l2 h2 (!u) := fun u => rgV_neg u
  simp only [mR] at hR' fR'
  simp only [nR, Bool.not_false, Bool.not_true] at hR'' fR''
  have vF := VF.of (sF.fits (by decide) (by decide))
  have vl : VL K.num K.den T.num T.den V.num V.den A.num A.den := ⟨sK.cf.vf, sT.cf.vf, sV.cf.vf, sA.cf.vf⟩
  have vb : VBox K.num K.den T.num T.den V.num V.den A.num A.den l0.num l0.den h0.num h0.den l1.num l1.den h1.num h1.den l2.num l2.den h2.num h2.den :=
    ⟨sK.cf.vf, sT.cf.vf, sV.cf.vf, sA.cf.vf, sl0.pt.vf, sh0.pt.vf, sl1.pt.vf, sh1.pt.vf, sl2.pt.vf, sh2.pt.vf⟩
  have vb' : VBox (K * F).num (K * F).den (T * F).num (T * F).den (V * F).num (V * F).den (A * F).num (A * F).den l0.num l0.den h0.num h0.den l1.num l1.den h1.num h1.den l2.num l2.den h2.num h2.den :=
    ⟨cK.vf, cT.vf, cV.vf, cA.vf, sl0.pt.vf, sh0.pt.vf, sl1.pt.vf, sh1.pt.vf, sl2.pt.vf, sh2.pt.vf⟩
  have vb'' : VBox (-K).num (-K).den (-T).num (-T).den (-V).num (-V).den (-A).num (-A).den l0.num l0.den h0.num h0.den l1.num l1.den h1.num h1.den l2.num l2.den h2.num h2.den :=
    ⟨CfQ.vf nK, CfQ.vf nT, CfQ.vf nV, CfQ.vf nA, sl0.pt.vf, sh0.pt.vf, sl1.pt.vf, sh1.pt.vf, sl2.pt.vf, sh2.pt.vf⟩
  have v1 : VF (-1) 1 := by decide +kernel
  have vm : ∀ {q : Rat}, CfQ q → vB q.num q.den = true := fun h => vB_of (CfQ.fits h)
  have f0 := fR' false
  have f1 := fR' true
  simp only [Int.reduceLE, Int.reduceLT, Nat.reduceLT, Int.reduceEq, Int.le_refl, ne_eq, not_false_eq_true, Int.reduceToNat, Nat.zero_lt_succ, hS, hN, hR, hR', hR'', k0_some, k1_some, k2_some, k3_some, oE_some, oN_some, oD_some, lN_some, lD_some, hN_some, hD_some, zero_ne, zero_eq, ratOf_rat, vB_of (fR false), vB_of (fR true), vm cK, vm cT, vm cV, vm cA, vm nK, vm nT, vm nV, vm nA, feq2,
    decide_eq_true oR, rN_of f0, rD_of f0, rE_of f0, rN_of f1, rD_of f1, rE_of f1, neg_num64 (fR false), neg_num64 (fR true),
    Bool.true_and, Bool.and_true, Bool.not_true, Bool.or_false, Bool.false_or, sat_need, sat_ite, sat_ret, bv_inj, reduceCtorEq, false_imp_iff, true_imp_iff, true_and, and_true, forall_const, vb, vb', vb'', vl, vF, v1, VF.of (fR false), VF.of (fR true), hc, hd, and_self, beq_self_eq_true]
  refine ⟨⟨⟨by omega, by omega⟩, by omega, by omega⟩, ?_⟩
  rw [show (rgV K T V A l0 h0 l1 h1 l2 h2 true).den = (-rgV K T V A l0 h0 l1 h1 l2 h2 true).den from (Rat.neg_den _).symm, show (rgV K T V A l0 h0 l1 h1 l2 h2 false).den = (-rgV K T V A l0 h0 l1 h1 l2 h2 false).den from (Rat.neg_den _).symm]
  simp

theorem linearScales_ok : ∃ c : Ctr, CtrOK Try.prog 10 c ∧ ∀ ss, okArgs Try.prog 6 [22, 22, 53] ss → (c ss).ev (bv true) := by
  refine law_ctrI (by kernel_rfl) (by kernel_rfl) fun ss h => ?_
  obtain ⟨d1, _, rfl, h1, d2, _, rfl, h2, d3, _, rfl, h3, rfl⟩ := h
  obtain ⟨n, c, hc, rfl⟩ := okBytes h1
  obtain ⟨m, d, hd, rfl⟩ := okBytes h2
  obtain ⟨ks, e1, rfl, e3⟩ := okArr Try.underlying53 h3
  match ks, e1 with
  | [k0, k1], _ =>
    have := law10 hc hd (e3 k0 (by simp)) (e3 k1 (by simp))
    simpa [svT, Try.underlying22, Try.underlying53, u8, u8d] using this

end Go.Proofs.Ytpaejfeojdoikaa

