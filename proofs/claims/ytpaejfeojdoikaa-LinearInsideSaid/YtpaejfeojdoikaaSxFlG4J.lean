/- Part of a proof of the given statements of this seat (SxFlWs, SxFlG4): no conditions beyond those typed here. -/
import Derived.Test.YtpaejfeojdoikaaSy09
import Derived.Test.YtpaejfeojdoikaaRows
import Derived.Test.YtpaejfeojdoikaaChecked
set_option linter.unusedVariables false
set_option linter.unusedSimpArgs false

namespace Go.Proofs.Ytpaejfeojdoikaa
open Go.Sx
set_option maxRecDepth 100000

theorem wiB_of {a b c d : Rat} (h1 : c ≤ a) (h2 : a ≤ d) (h3 : c ≤ b) (h4 : b ≤ d) : wiB a b c d = true := by
  unfold wiB; rw [decide_eq_true h1, decide_eq_true h2, decide_eq_true h3, decide_eq_true h4]; rfl
theorem wiB_iff {a b c d : Rat} : wiB a b c d = true ↔ (c ≤ a ∧ a ≤ d) ∧ c ≤ b ∧ b ≤ d := by
  unfold wiB; simp only [Bool.and_eq_true, decide_eq_true_eq]

theorem law4 {n m : Nat} {c d : Nat → Nat → DV} (hc : Byt n c) (hd : Byt m d) {k0 k1 k2 k3 k4 k5 : Int} (g0 : 0 ≤ k0 ∧ k0 < 256) (g1 : 0 ≤ k1 ∧ k1 < 256) (g2 : 0 ≤ k2 ∧ k2 < 256)
    (g3 : 0 ≤ k3 ∧ k3 < 256) (g4 : 0 ≤ k4 ∧ k4 < 256) (g5 : 0 ≤ k5 ∧ k5 < 256) : LawF 4 [.d (.ro n 1 c), .d (.ro m 1 d), .agg [u8 k0, u8 k1, u8 k2, u8 k3, u8 k4, u8 k5]] := by
  refine ⟨.nil, ?_⟩
  rw [L4_eq]; unfold L4
  have e1 : L4_q8 c = intCell c := rfl
  have e6 : L4_q1 d = intCell d := rfl
  have sK := linQ_sm hc 0
  have sT := linQ_sm hc 1
  have sV := linQ_sm hc 2
  have sA := linQ_sm hc 3
  have sl0 := loQ_sm hd 0
  have sl1 := loQ_sm hd 1
  have sl2 := loQ_sm hd 2
  have sh0 := hiQ_sm hd 0
  have sh1 := hiQ_sm hd 1
  have sh2 := hiQ_sm hd 2
  have o0 := loQ_le (n := m) (c := intCell d) 0
  have o1 := loQ_le (n := m) (c := intCell d) 1
  have o2 := loQ_le (n := m) (c := intCell d) 2
  simp only [L4_q1, L4_q2, L4_q3, L4_q4, L4_q5, L4_q6, L4_q7, L4_q8, L4_q9, L4_q10, L4_q11, L4_q12, L4_q13, L4_q14, L4_q15, L4_q16, L4_q17, L4_q18, L4_q19, L4_q20, L4_q21, L4_q22, L4_q23, L4_q24, L4_q25, L4_q26, L4_q27, L4_q28, L4_q29, L4_q30, L4_q31, L4_q32, L4_q33, L4_q34, L4_q35, L4_q36, L4_q37, L4_q38, L4_q39, L4_q40, L4_q41, L4_q42, e1, e6, ratOf_rat]
  generalize linQ n (intCell c) 0 = K at *
  generalize linQ n (intCell c) 1 = T at *
  generalize linQ n (intCell c) 2 = V at *
  generalize linQ n (intCell c) 3 = A at *
  generalize loQ m (intCell d) 0 = l0 at *
  generalize loQ m (intCell d) 1 = l1 at *
  generalize loQ m (intCell d) 2 = l2 at *
  generalize hiQ m (intCell d) 0 = h0 at *
  generalize hiQ m (intCell d) 1 = h1 at *
  generalize hiQ m (intCell d) 2 = h2 at *
  obtain ⟨tl0, th0⟩ := ptL_sm sl0 sh0 g0.1 g3.1
  obtain ⟨tl1, th1⟩ := ptL_sm sl1 sh1 g1.1 g4.1
  obtain ⟨tl2, th2⟩ := ptL_sm sl2 sh2 g2.1 g5.1
  obtain ⟨pa0, pb0, pc0⟩ := ptL_in o0 g0.1 g3.1
  obtain ⟨pa1, pb1, pc1⟩ := ptL_in o1 g1.1 g4.1
  obtain ⟨pa2, pb2, pc2⟩ := ptL_in o2 g2.1 g5.1
  generalize ptL l0 h0 k0 k3 = m0 at *
  generalize ptL l1 h1 k1 k4 = m1 at *
  generalize ptL l2 h2 k2 k5 = m2 at *
  generalize ptH l0 h0 k0 k3 = n0 at *
  generalize ptH l1 h1 k1 k4 = n1 at *
  generalize ptH l2 h2 k2 k5 = n2 at *
  have B : BxQ l0 h0 l1 h1 l2 h2 := ⟨sl0.pt, sh0.pt, sl1.pt, sh1.pt, sl2.pt, sh2.pt, o0, o1, o2⟩
  have B' : BxQ m0 n0 m1 n1 m2 n2 := ⟨tl0, th0, tl1, th1, tl2, th2, pb0, pb1, pb2⟩
  have hR := rg_val sK.cf sT.cf sV.cf sA.cf B
  have fR := rgV_fits sK.cf sT.cf sV.cf sA.cf B
  have oR := rgV_le (k := K) (t := T) (v := V) (a := A) B
  have hR' := rg_val sK.cf sT.cf sV.cf sA.cf B'
  have fR' := rgV_fits sK.cf sT.cf sV.cf sA.cf B'
  have oR' := rgV_le (k := K) (t := T) (v := V) (a := A) B'
  have inR : ∀ u, rgV K T V A l0 h0 l1 h1 l2 h2 false ≤ rgV K T V A m0 n0 m1 n1 m2 n2 u ∧ rgV K T V A m0 n0 m1 n1 m2 n2 u ≤ rgV K T V A l0 h0 l1 h1 l2 h2 true := fun u => by
    have i0 := crn_in (t := T) pb0 u
    have i1 := crn_in (t := V) pb1 u
    have i2 := crn_in (t := A) pb2 u
    exact lv_in (Rat.le_trans pa0 i0.1) (Rat.le_trans i0.2 pc0) (Rat.le_trans pa1 i1.1) (Rat.le_trans i1.2 pc1) (Rat.le_trans pa2 i2.1) (Rat.le_trans i2.2 pc2)
  obtain ⟨u1, u2⟩ := inR false
  obtain ⟨u3, u4⟩ := inR true
  have vb : VBox K.num K.den T.num T.den V.num V.den A.num A.den l0.num l0.den h0.num h0.den l1.num l1.den h1.num h1.den l2.num l2.den h2.num h2.den :=
    ⟨sK.cf.vf, sT.cf.vf, sV.cf.vf, sA.cf.vf, sl0.pt.vf, sh0.pt.vf, sl1.pt.vf, sh1.pt.vf, sl2.pt.vf, sh2.pt.vf⟩
  have vb' : VBox K.num K.den T.num T.den V.num V.den A.num A.den m0.num m0.den n0.num n0.den m1.num m1.den n1.num n1.den m2.num m2.den n2.num n2.den :=
    ⟨sK.cf.vf, sT.cf.vf, sV.cf.vf, sA.cf.vf, tl0.vf, th0.vf, tl1.vf, th1.vf, tl2.vf, th2.vf⟩
  have v6 : VB6 l0.num l0.den h0.num h0.den l1.num l1.den h1.num h1.den l2.num l2.den h2.num h2.den := ⟨sl0.pt.vf, sh0.pt.vf, sl1.pt.vf, sh1.pt.vf, sl2.pt.vf, sh2.pt.vf⟩
  have v6' : VB6 m0.num m0.den n0.num n0.den m1.num m1.den n1.num n1.den m2.num m2.den n2.num n2.den := ⟨tl0.vf, th0.vf, tl1.vf, th1.vf, tl2.vf, th2.vf⟩
  have i0 : SInt l0.num l0.den h0.num h0.den := ⟨sl0.pt.vf, sh0.pt.vf, by rwa [ratOf_rat], by rwa [ratOf_rat]⟩
  have i1 : SInt l1.num l1.den h1.num h1.den := ⟨sl1.pt.vf, sh1.pt.vf, by rwa [ratOf_rat], by rwa [ratOf_rat]⟩
  have i2 : SInt l2.num l2.den h2.num h2.den := ⟨sl2.pt.vf, sh2.pt.vf, by rwa [ratOf_rat], by rwa [ratOf_rat]⟩
  have w0 := wiB_of pa0 (Rat.le_trans pb0 pc0) (Rat.le_trans pa0 pb0) pc0
  have w1 := wiB_of pa1 (Rat.le_trans pb1 pc1) (Rat.le_trans pa1 pb1) pc1
  have w2 := wiB_of pa2 (Rat.le_trans pb2 pc2) (Rat.le_trans pa2 pb2) pc2
  simp only [hR, hR', oE_some, oN_some, oD_some, lN_some, lD_some, hN_some, hD_some, zero_ne, zero_eq, ratOf_rat, vB_of (fR false), vB_of (fR true), vB_of (fR' false), vB_of (fR' true), feq2,
    decide_eq_true oR, decide_eq_true oR', decide_eq_true u1, decide_eq_true u2, decide_eq_true u3, decide_eq_true u4, w0, w1, w2,
    Bool.true_and, Bool.and_true, Bool.not_true, Bool.or_false, Bool.false_or, sat_need, sat_ite, sat_ret, bv_inj, reduceCtorEq, false_imp_iff, true_imp_iff, true_and, forall_const, vb, vb', v6, v6', i0, i1, i2, g0, g1, g2, g3, g4, g5, VF.of (fR false), VF.of (fR true), VF.of (fR' false), VF.of (fR' true), hc, hd, and_self]
  rw [beq_iff_eq, Bool.eq_iff_iff]
  simp only [Bool.and_eq_true, decide_eq_true_eq, wiB_iff]
  refine ⟨fun ⟨⟨⟨⟨a1, a2⟩, a3, a4⟩, ⟨b1, b2⟩, b3, b4⟩, ⟨c1, c2⟩, c3, c4⟩ => ?_, fun ⟨⟨a1, a2⟩, ⟨b1, b2⟩, c1, c2⟩ => ?_⟩
  · exact ⟨⟨Rat.le_antisymm a1 pa0, Rat.le_antisymm pc0 a4⟩, ⟨Rat.le_antisymm b1 pa1, Rat.le_antisymm pc1 b4⟩, Rat.le_antisymm c1 pa2, Rat.le_antisymm pc2 c4⟩
  · subst a1 a2 b1 b2 c1 c2
    exact ⟨⟨⟨⟨Rat.le_refl, o0⟩, o0, Rat.le_refl⟩, ⟨Rat.le_refl, o1⟩, o1, Rat.le_refl⟩, ⟨Rat.le_refl, o2⟩, o2, Rat.le_refl⟩

theorem linearInside_ok : ∃ c : Ctr, CtrOK Try.prog 4 c ∧ ∀ ss, okArgs Try.prog 6 [22, 22, 48] ss → (c ss).ev (bv true) := by
  refine law_ctrF (by kernel_rfl) (by kernel_rfl) fun ss h => ?_
  obtain ⟨d1, _, rfl, h1, d2, _, rfl, h2, d3, _, rfl, h3, rfl⟩ := h
  obtain ⟨n, c, hc, rfl⟩ := okBytes h1
  obtain ⟨m, d, hd, rfl⟩ := okBytes h2
  obtain ⟨ks, e1, rfl, e3⟩ := okArr Try.underlying48 h3
  match ks, e1 with
  | [k0, k1, k2, k3, k4, k5], _ =>
    have := law4 hc hd (e3 k0 (by simp)) (e3 k1 (by simp)) (e3 k2 (by simp)) (e3 k3 (by simp)) (e3 k4 (by simp)) (e3 k5 (by simp))
    simpa [svT, Try.underlying22, Try.underlying48, u8, u8d] using this

end Go.Proofs.Ytpaejfeojdoikaa

namespace Go.Proofs.Ytpaejfeojdoikaa
open Go.ChangeShapes Go.WideShapes Go.ChangeAt Go.RowKit Go.Sx

theorem own : ownKnob Try.prog.godebug = none := by kernel_rfl
theorem laidOut : laidOutB Try.prog = true := by kernel_rfl

set_option maxRecDepth 100000 in
theorem lifted (os : Os) (started : os.Started) (H : Type) (enc : TypeId × Value → H) :
    ReturnsInHanded {} Try.checked os 4 .any (Rows.linearInsideSpec.pre6 enc Try.prog Try.f4 Rows.linearInsideRow.domain false) (Rows.linearInsideSpec.post enc Try.prog Try.f4 false true false false) := by
  refine returnsInHanded_of_change (C := Try.checked) own started (by kernel_rfl) Try.func4
    (ChangeSpec.witness6 (enc := enc) (C := Try.checked) false ⟨#[], #[.slice none 0 0, .slice none 0 0, .agg #[.int .u8 0, .int .u8 0, .int .u8 0, .int .u8 0, .int .u8 0, .int .u8 0]], []⟩ 8 (by kernel_rfl) (by kernel_rfl) (by kernel_rfl) (by kernel_rfl)) ?_
  intro W base args ds gs before hval0 hW hcnd _
  have hval : ∀ (j : Nat) t v, Try.f4.params[j]? = some t → args[j]? = some v → Value.okWide Try.prog W .any base t v := hval0
  have hW' := hW
  obtain ⟨p, q, hA0, hV, rfl, hfz, hnd⟩ := hW
  have hA : DataW.TrodAll enc Try.prog W 0 (fun _ => true) true Try.f4.params.toList args.toList ds p := hA0
  rw [Try.params4] at hA hval
  obtain ⟨rfl, rfl⟩ := trodVars_none hV
  obtain ⟨v0, vs0, d0, ds0, p0, q0, hargs, rfl, e0, h0, r0⟩ := trodAll_cons hA
  obtain ⟨v1, vs1, d1, ds1, p1, q1, e1_1, rfl, e2_1, h1, r1⟩ := trodAll_cons r0
  obtain ⟨v2, vs2, d2, ds2, p2, q2, e1_2, rfl, e2_2, h2, r2⟩ := trodAll_cons r1
  obtain ⟨e3, rfl, e4⟩ := trodAll_nil r2
  obtain ⟨c, hc, hev⟩ := linearInside_ok
  have hlt := trodAll_lt hA
  obtain ⟨ss, o1, o2, o3⟩ := open_args (F := fun b => ∃ x ∈ p, x.block = b) (n := 6) (r := .any) (base := base) (by kernel_rfl) hA (fun j t v a b => hval j t v (by simpa using a) (by simpa using b)) (fun q hq => ⟨q, hq, rfl⟩)
  refine (law_of hc (F := fun b => ∃ x ∈ p, x.block = b) (fun b ⟨x, hx, e⟩ => e ▸ hlt x hx) (ss := ss) ⟨by simpa using o2, fun i hi => by simpa [List.getD, Array.getD_eq_getD_getElem?] using o3 i hi⟩ (hev ss o1)).mono fun e W' ⟨he, bel⟩ => ?_
  subst he
  have hback := trodAll_below laidOut bel (by kernel_rfl) hA
  exact ⟨_, rfl, _, _, _, [], _, [], hW', trodAll_mk1 (shut_bool Try.underlying4 _), hback, rfl, bel.frame _, fun h => by cases h⟩

theorem over : Rows.linearInsideRow.holds Try.pinned (OpenSpec.ofChange Rows.linearInsideSpec) :=
  OpenClaim.holds_of_wide 4 Try.f4 rfl rfl rfl rfl rfl rfl rfl ⟨rfl, rfl, rfl, rfl, rfl⟩ rfl rfl rfl rfl rfl (by kernel_rfl) Try.func4 (by kernel_rfl)
    (of_decide_eq_true (by kernel_rfl)) (by unfold Func.isWrapper; first | (rw [if_pos (by decide +kernel)]; kernel_rfl) | (rw [if_neg (by decide +kernel)]; exact ⟨rfl, rfl⟩))
    (fun os started H enc _ => lifted os started H enc)

theorem linearInside_holds : Rows.LinearInsideSaid := over
#print axioms linearInside_holds
end Go.Proofs.Ytpaejfeojdoikaa

