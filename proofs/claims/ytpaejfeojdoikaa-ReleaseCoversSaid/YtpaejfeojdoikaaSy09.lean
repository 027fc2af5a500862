/- Part of a proof of the given statements of this seat (SxFlWl, SxFlWm, SxFlWn, SxFlWo, SxFlWp, SxFlWq, SxFlWr, SxFlWs, SxFlWt, SxFlWu, SxFlWv, SxFlWw, SxFlWx): no conditions beyond those typed here. -/
import Derived.Test.YtpaejfeojdoikaaSy08
set_option linter.unusedVariables false
set_option linter.unusedSimpArgs false

namespace Go.Proofs.Ytpaejfeojdoikaa
open Go.Sx
set_option maxRecDepth 100000

noncomputable def cCont : Ctr := fun ss => match ss with
  | [.agg [.d (.x (.int .i64 a)), .d (.x (.int .i64 b)), .d (.x (.int .i64 c)), .d (.x (.int .i64 d))], .agg [.d (.x (.int .i64 e)), .d (.x (.int .i64 f))]] => .need (VF a b ∧ VF c d ∧ VF e f)
      (.ret (bv (decide (ratOf a b ≤ ratOf e f) && decide (ratOf e f ≤ ratOf c d))))
  | _ => .fail
theorem cCont_ok : CtrOK Try.prog 22 cCont := by
  refine ctrOK_leS CB_ok DB_ok (by kernel_rfl) (by kernel_rfl) fun ss r h => ?_
  unfold cCont at h
  split at h
  · rename_i a b c d e f
    obtain ⟨⟨h1, h2, h3⟩, rfl⟩ := h
    refine ⟨[.agg [iv a, iv b, iv c, iv d], .agg [iv e, iv f]], 200, .nil, by simp [leSVs, leSV, iv, leD], Sat.of_eq (LCt_eq a b c d e f) ⟨?_⟩⟩
    unfold LCt
    rw [cmpR_le, cmpR_le]
    exact ⟨⟨h1, h3⟩, fun _ => ⟨h3, h2⟩, rfl⟩
  · exact h.elim
theorem cContR_ok : CtrOK Try.prog 69 cCont := by
  refine ctrOK_leS CB_ok DB_ok (by kernel_rfl) (by kernel_rfl) fun ss r h => ?_
  unfold cCont at h
  split at h
  · rename_i a b c d e f
    obtain ⟨⟨h1, h2, h3⟩, rfl⟩ := h
    refine ⟨[.agg [iv a, iv b, iv c, iv d], .agg [iv e, iv f]], 200, .nil, by simp [leSVs, leSV, iv, leD], Sat.of_eq (LCtR_eq a b c d e f) ⟨?_⟩⟩
    unfold LCtR
    rw [cmpR_le, cmpR_le]
    exact ⟨⟨h1, h3⟩, fun _ => ⟨h3, h2⟩, rfl⟩
  · exact h.elim

noncomputable def cVi : Ctr := fun ss => match ss with
  | [.agg [.d (.x (.int .i64 a)), .d (.x (.int .i64 b)), .d (.x (.int .i64 c)), .d (.x (.int .i64 d))]] => .ret (bv (vB a b && vB c d && decide (ratOf a b ≤ ratOf c d)))
  | _ => .fail
theorem cVi_ok : CtrOK Try.prog 30 cVi := by
  refine ctrOK_leS CB_ok DB_ok (by kernel_rfl) (by kernel_rfl) fun ss r h => ?_
  unfold cVi at h
  split at h
  · rename_i a b c d
    obtain rfl := h
    refine ⟨[.agg [iv a, iv b, iv c, iv d]], 200, .nil, by simp [leSVs, leSV, iv, leD], Sat.of_eq (LVi_eq a b c d) ⟨?_⟩⟩
    unfold LVi
    rw [cmpR_le]
    refine ⟨fun h => ?_, rfl⟩
    rw [Bool.and_eq_true] at h; exact ⟨vB_iff.1 h.1, vB_iff.1 h.2⟩
  · exact h.elim
theorem cViR_ok : CtrOK Try.prog 20 cVi := by
  refine ctrOK_leS CB_ok DB_ok (by kernel_rfl) (by kernel_rfl) fun ss r h => ?_
  unfold cVi at h
  split at h
  · rename_i a b c d
    obtain rfl := h
    refine ⟨[.agg [iv a, iv b, iv c, iv d]], 200, .nil, by simp [leSVs, leSV, iv, leD], Sat.of_eq (LViR_eq a b c d) ⟨?_⟩⟩
    unfold LViR
    rw [cmpR_le]
    refine ⟨fun h => ?_, rfl⟩
    rw [Bool.and_eq_true] at h; exact ⟨vB_iff.1 h.1, vB_iff.1 h.2⟩
  · exact h.elim

/-- The sum of two intervals. -/
noncomputable def plsO (a b c d : Rat) : Option (Rat × Rat) := pairO (fit (a + c)) (fit (b + d))
noncomputable def cPls : Ctr := fun ss => match ss with
  | [.agg [.d (.x (.int .i64 a)), .d (.x (.int .i64 b)), .d (.x (.int .i64 c)), .d (.x (.int .i64 d))], .agg [.d (.x (.int .i64 e)), .d (.x (.int .i64 f)), .d (.x (.int .i64 g)), .d (.x (.int .i64 h))]] => .need (VF a b ∧ VF c d ∧ VF e f ∧ VF g h)
      (.ret (.tup [.agg [iv (lN (plsO (ratOf a b) (ratOf c d) (ratOf e f) (ratOf g h))), iv (lD (plsO (ratOf a b) (ratOf c d) (ratOf e f) (ratOf g h))), iv (hN (plsO (ratOf a b) (ratOf c d) (ratOf e f) (ratOf g h))), iv (hD (plsO (ratOf a b) (ratOf c d) (ratOf e f) (ratOf g h)))], iv (oE (plsO (ratOf a b) (ratOf c d) (ratOf e f) (ratOf g h)))]))
  | _ => .fail
noncomputable def cPlsR : Ctr := fun ss => match ss with
  | [.agg [.d (.x (.int .i64 a)), .d (.x (.int .i64 b)), .d (.x (.int .i64 c)), .d (.x (.int .i64 d))], .agg [.d (.x (.int .i64 e)), .d (.x (.int .i64 f)), .d (.x (.int .i64 g)), .d (.x (.int .i64 h))]] => .need (VF a b ∧ VF c d ∧ VF e f ∧ VF g h)
      (.ret (.agg [iv (lN (plsO (ratOf a b) (ratOf c d) (ratOf e f) (ratOf g h))), iv (lD (plsO (ratOf a b) (ratOf c d) (ratOf e f) (ratOf g h))), iv (hN (plsO (ratOf a b) (ratOf c d) (ratOf e f) (ratOf g h))), iv (hD (plsO (ratOf a b) (ratOf c d) (ratOf e f) (ratOf g h))), iv (oE (plsO (ratOf a b) (ratOf c d) (ratOf e f) (ratOf g h)))]))
  | _ => .fail
theorem cPls_ok : CtrOK Try.prog 86 cPls := by
  refine ctrOK_leS CB_ok DB_ok (by kernel_rfl) (by kernel_rfl) fun ss r hh => ?_
  unfold cPls at hh
  split at hh
  · rename_i a b c d e f g h
    obtain ⟨⟨h1, h2, h3, h4⟩, rfl⟩ := hh
    refine ⟨[.agg [iv a, iv b, iv c, iv d], .agg [iv e, iv f, iv g, iv h]], 200, .nil, by simp [leSVs, leSV, iv, leD], Sat.of_eq (LPs_eq a b c d e f g h) ⟨?_⟩⟩
    unfold LPs plsO
    generalize ratOf a b + ratOf e f = x
    generalize ratOf c d + ratOf g h = y
    refine ⟨⟨h1, h3⟩, fun k => ?_, fun k => ⟨⟨h2, h4⟩, fun l => ?_, fun l => ?_⟩⟩
    · rw [fit_no (rE_ne k), rE_no (rE_ne k)]; exact rfl
    · rw [fit_of (rE_eq k), fit_no (rE_ne l), rE_no (rE_ne l)]; exact rfl
    · rw [fit_of (rE_eq k), fit_of (rE_eq l), rN_of (rE_eq k), rD_of (rE_eq k), rN_of (rE_eq l), rD_of (rE_eq l)]; exact rfl
  · exact hh.elim
theorem cPlsR_ok : CtrOK Try.prog 67 cPlsR := by
  refine ctrOK_leS CB_ok DB_ok (by kernel_rfl) (by kernel_rfl) fun ss r hh => ?_
  unfold cPlsR at hh
  split at hh
  · rename_i a b c d e f g h
    obtain ⟨⟨h1, h2, h3, h4⟩, rfl⟩ := hh
    refine ⟨[.agg [iv a, iv b, iv c, iv d], .agg [iv e, iv f, iv g, iv h]], 200, .nil, by simp [leSVs, leSV, iv, leD], Sat.of_eq (LPsR_eq a b c d e f g h) ⟨?_⟩⟩
    unfold LPsR plsO
    generalize ratOf a b + ratOf e f = x
    generalize ratOf c d + ratOf g h = y
    refine ⟨⟨h1, h3⟩, ⟨h2, h4⟩, fun k => ?_, fun k => ?_⟩
    · by_cases hx : fitsR x
      · by_cases hy : fitsR y
        · rw [rE_of hx, rE_of hy] at k; simp at k
        · rw [fit_of hx, fit_no hy]; exact rfl
      · rw [fit_no hx]; exact rfl
    · rw [Bool.or_eq_false_iff] at k
      rw [fit_of (rE_eq k.1), fit_of (rE_eq k.2), rN_of (rE_eq k.1), rD_of (rE_eq k.1), rN_of (rE_eq k.2), rD_of (rE_eq k.2)]; exact rfl
  · exact hh.elim

noncomputable def manC : FuncId → Option Ctr := fun k => match k with
  | 14 => some cEx04
  | 22 => some cCont
  | 69 => some cCont
  | 30 => some cVi
  | 20 => some cVi
  | 86 => some cPls
  | 67 => some cPlsR
  | k => manB k
theorem manC_ok (k : Nat) (c : Ctr) (h : manC k = some c) : CtrOK Try.prog k c ∧ goodF Try.prog k = true := by
  unfold manC at h
  split at h
  · cases h; exact ⟨cEx04_ok, by kernel_rfl⟩
  · cases h; exact ⟨cCont_ok, by kernel_rfl⟩
  · cases h; exact ⟨cContR_ok, by kernel_rfl⟩
  · cases h; exact ⟨cVi_ok, by kernel_rfl⟩
  · cases h; exact ⟨cViR_ok, by kernel_rfl⟩
  · cases h; exact ⟨cPls_ok, by kernel_rfl⟩
  · cases h; exact ⟨cPlsR_ok, by kernel_rfl⟩
  · exact manB_ok _ _ h
noncomputable def CC : Ctx := ctxN Try.prog manC (fun _ => false) 200 .nil 6
theorem CC_ok : CtxOK Try.prog CC := ctxN_ok mixed manC_ok 6
noncomputable def DC : Dr := fun _ => drawn Try.prog CC
theorem DC_ok : DrOK Try.prog CC DC := drawn_ok CC_ok mixed
noncomputable def TC (h : Hint) (k : Nat) (args : List SV) : Tree SV := fnT Try.prog CC DC 200 (fnOf Try.prog k) (bodyOf Try.prog k) args h

noncomputable def LWi (a b c d e f g h : Int) : Tree SV :=
  .need (VF e f ∧ VF g h ∧ VF a b)
  (.need ((decide (ratOf e f ≤ ratOf a b) && decide (ratOf a b ≤ ratOf g h)) = true → VF e f ∧ VF g h ∧ VF c d)
    (.ret (bv (decide (ratOf e f ≤ ratOf a b) && decide (ratOf a b ≤ ratOf g h) && (decide (ratOf e f ≤ ratOf c d) && decide (ratOf c d ≤ ratOf g h))))))

theorem LWi_eq (a b c d e f g h : Int) : TC .nil 25 [.agg [iv a, iv b, iv c, iv d], .agg [iv e, iv f, iv g, iv h]] = LWi a b c d e f g h := by kernel_rfl

noncomputable def LWiR (a b c d e f g h : Int) : Tree SV :=
  .need (VF e f ∧ VF g h ∧ VF a b)
  (.need ((decide (ratOf e f ≤ ratOf a b) && decide (ratOf a b ≤ ratOf g h)) = true → VF e f ∧ VF g h ∧ VF c d)
    (.ret (bv (decide (ratOf e f ≤ ratOf a b) && decide (ratOf a b ≤ ratOf g h) && (decide (ratOf e f ≤ ratOf c d) && decide (ratOf c d ≤ ratOf g h))))))

theorem LWiR_eq (a b c d e f g h : Int) : TC .nil 70 [.agg [iv a, iv b, iv c, iv d], .agg [iv e, iv f, iv g, iv h]] = LWiR a b c d e f g h := by kernel_rfl

noncomputable def LBox (n : Nat) (c : Nat → Int) : Tree SV :=
  .need ((Byt n fun i x => DV.x (.int .u8 (c i))) ∧ (0 : Int) ≤ (0 : Int) ∧ (0 : Int) < (1000000 : Int) ∧ (0 : Int) = (0 : Int))
  (.need ((Byt n fun i x => DV.x (.int .u8 (c i))) ∧ (0 : Int) ≤ (4 : Int) ∧ (4 : Int) < (1000000 : Int) ∧ (0 : Int) = (0 : Int))
    (.need ((Byt n fun i x => DV.x (.int .u8 (c i))) ∧ (0 : Int) ≤ (8 : Int) ∧ (8 : Int) < (1000000 : Int) ∧ (0 : Int) = (0 : Int))
      (.ret
        (SV.agg
          [iv (Rat.num (loQ n (fun i => c i) 0)), iv (↑(Rat.den (loQ n (fun i => c i) 0)) : Int), iv (Rat.num (hiQ n (fun i => c i) 0)), iv (↑(Rat.den (hiQ n (fun i => c i) 0)) : Int),
            iv (Rat.num (loQ n (fun i => c i) 1)), iv (↑(Rat.den (loQ n (fun i => c i) 1)) : Int), iv (Rat.num (hiQ n (fun i => c i) 1)), iv (↑(Rat.den (hiQ n (fun i => c i) 1)) : Int),
            iv (Rat.num (loQ n (fun i => c i) 2)), iv (↑(Rat.den (loQ n (fun i => c i) 2)) : Int), iv (Rat.num (hiQ n (fun i => c i) 2)), iv (↑(Rat.den (hiQ n (fun i => c i) 2)) : Int)]))))

theorem LBox_eq (n : Nat) (c : Nat → Int) : TC .nil 16 [ro8 n c] = LBox n c := by kernel_rfl

noncomputable def LPt (a0 a1 a2 a3 b0 b1 b2 b3 c0 c1 c2 c3 k0 k1 k2 : Int) : Tree SV :=
  .need ((0 : Int) ≤ (0 : Int) ∧ (0 : Int) < (3 : Int))
  (.need (0 < 3)
    (.need (VF a0 a1 ∧ VF a2 a3 ∧ Sm (60 : Nat) (20 : Nat) (ratOf a0 a1) ∧ Sm (60 : Nat) (20 : Nat) (ratOf a2 a3) ∧ (0 : Int) ≤ k0 ∧ k0 < (256 : Int))
      (.need ((0 : Int) ≤ (1 : Int) ∧ (1 : Int) < (3 : Int))
        (.need (1 < 3)
          (.need (VF b0 b1 ∧ VF b2 b3 ∧ Sm (60 : Nat) (20 : Nat) (ratOf b0 b1) ∧ Sm (60 : Nat) (20 : Nat) (ratOf b2 b3) ∧ (0 : Int) ≤ k1 ∧ k1 < (256 : Int))
            (.need ((0 : Int) ≤ (2 : Int) ∧ (2 : Int) < (3 : Int))
              (.need (2 < 3)
                (.need (VF c0 c1 ∧ VF c2 c3 ∧ Sm (60 : Nat) (20 : Nat) (ratOf c0 c1) ∧ Sm (60 : Nat) (20 : Nat) (ratOf c2 c3) ∧ (0 : Int) ≤ k2 ∧ k2 < (256 : Int))
                  (.ret
                    (SV.agg
                      [iv (Rat.num (btw (ratOf a0 a1) (ratOf a2 a3) k0)), iv (↑(Rat.den (btw (ratOf a0 a1) (ratOf a2 a3) k0)) : Int), iv (Rat.num (btw (ratOf b0 b1) (ratOf b2 b3) k1)),
                        iv (↑(Rat.den (btw (ratOf b0 b1) (ratOf b2 b3) k1)) : Int), iv (Rat.num (btw (ratOf c0 c1) (ratOf c2 c3) k2)), iv (↑(Rat.den (btw (ratOf c0 c1) (ratOf c2 c3) k2)) : Int)]))))))))))

theorem LPt_eq (a0 a1 a2 a3 b0 b1 b2 b3 c0 c1 c2 c3 k0 k1 k2 : Int) : TC .nil 19 [.agg [iv a0, iv a1, iv a2, iv a3, iv b0, iv b1, iv b2, iv b3, iv c0, iv c1, iv c2, iv c3], .agg [u8 k0, u8 k1, u8 k2]] = LPt a0 a1 a2 a3 b0 b1 b2 b3 c0 c1 c2 c3 k0 k1 k2 := by kernel_rfl


end Go.Proofs.Ytpaejfeojdoikaa

namespace Go.Proofs.Ytpaejfeojdoikaa
open Go.Sx
set_option maxRecDepth 100000

noncomputable def cWi : Ctr := fun ss => match ss with
  | [.agg [.d (.x (.int .i64 a)), .d (.x (.int .i64 b)), .d (.x (.int .i64 c)), .d (.x (.int .i64 d))], .agg [.d (.x (.int .i64 e)), .d (.x (.int .i64 f)), .d (.x (.int .i64 g)), .d (.x (.int .i64 h))]] => .need (VF a b ∧ VF c d ∧ VF e f ∧ VF g h)
      (.ret (bv (decide (ratOf e f ≤ ratOf a b) && decide (ratOf a b ≤ ratOf g h) && (decide (ratOf e f ≤ ratOf c d) && decide (ratOf c d ≤ ratOf g h)))))
  | _ => .fail
theorem cWi_ok : CtrOK Try.prog 25 cWi := by
  refine ctrOK_leS CC_ok DC_ok (by kernel_rfl) (by kernel_rfl) fun ss r hh => ?_
  unfold cWi at hh
  split at hh
  · rename_i a b c d e f g h
    obtain ⟨⟨h1, h2, h3, h4⟩, rfl⟩ := hh
    refine ⟨[.agg [iv a, iv b, iv c, iv d], .agg [iv e, iv f, iv g, iv h]], 200, .nil, by simp [leSVs, leSV, iv, leD], Sat.of_eq (LWi_eq a b c d e f g h) ⟨?_⟩⟩
    unfold LWi
    exact ⟨⟨h3, h4, h1⟩, fun _ => ⟨h3, h4, h2⟩, rfl⟩
  · exact hh.elim
theorem cWiR_ok : CtrOK Try.prog 70 cWi := by
  refine ctrOK_leS CC_ok DC_ok (by kernel_rfl) (by kernel_rfl) fun ss r hh => ?_
  unfold cWi at hh
  split at hh
  · rename_i a b c d e f g h
    obtain ⟨⟨h1, h2, h3, h4⟩, rfl⟩ := hh
    refine ⟨[.agg [iv a, iv b, iv c, iv d], .agg [iv e, iv f, iv g, iv h]], 200, .nil, by simp [leSVs, leSV, iv, leD], Sat.of_eq (LWiR_eq a b c d e f g h) ⟨?_⟩⟩
    unfold LWiR
    exact ⟨⟨h3, h4, h1⟩, fun _ => ⟨h3, h4, h2⟩, rfl⟩
  · exact hh.elim

noncomputable def cBox : Ctr := fun ss => match ss with
  | [.d (.ro n 1 cell)] => .need (Byt n cell) (.ret (.agg [iv (loQ n (intCell cell) 0).num, iv (loQ n (intCell cell) 0).den, iv (hiQ n (intCell cell) 0).num, iv (hiQ n (intCell cell) 0).den,
      iv (loQ n (intCell cell) 1).num, iv (loQ n (intCell cell) 1).den, iv (hiQ n (intCell cell) 1).num, iv (hiQ n (intCell cell) 1).den,
      iv (loQ n (intCell cell) 2).num, iv (loQ n (intCell cell) 2).den, iv (hiQ n (intCell cell) 2).num, iv (hiQ n (intCell cell) 2).den]))
  | _ => .fail
theorem cBox_ok : CtrOK Try.prog 16 cBox := by
  refine ctrOK_leS CC_ok DC_ok (by kernel_rfl) (by kernel_rfl) fun ss r h => ?_
  unfold cBox at h
  split at h
  · rename_i n cell
    obtain ⟨h1, rfl⟩ := h
    refine ⟨[ro8 n (intCell cell)], 200, .nil, ?_, Sat.of_eq (LBox_eq n (intCell cell)) ⟨?_⟩⟩
    · simp only [leSVs, leSV, ro8, leD, and_true, true_and]
      exact le_ro8 h1
    · unfold LBox
      have b := byt_ro h1
      exact ⟨⟨b, by decide⟩, ⟨b, by decide⟩, ⟨b, by decide⟩, rfl⟩
  · exact h.elim

structure SInt (a b c d : Int) : Prop where
  l : VF a b
  h : VF c d
  ls : Sm 60 20 (ratOf a b)
  hs : Sm 60 20 (ratOf c d)
noncomputable def cPt : Ctr := fun ss => match ss with
  | [.agg l, .agg [.d (.x (.int .u8 k0)), .d (.x (.int .u8 k1)), .d (.x (.int .u8 k2))]] => match intsOf .i64 l with
    | some [a0, a1, a2, a3, b0, b1, b2, b3, c0, c1, c2, c3] => .need ((SInt a0 a1 a2 a3 ∧ SInt b0 b1 b2 b3 ∧ SInt c0 c1 c2 c3) ∧ (0 ≤ k0 ∧ k0 < 256) ∧ (0 ≤ k1 ∧ k1 < 256) ∧ (0 ≤ k2 ∧ k2 < 256))
      (.ret (.agg [iv (btw (ratOf a0 a1) (ratOf a2 a3) k0).num, iv (btw (ratOf a0 a1) (ratOf a2 a3) k0).den, iv (btw (ratOf b0 b1) (ratOf b2 b3) k1).num, iv (btw (ratOf b0 b1) (ratOf b2 b3) k1).den, iv (btw (ratOf c0 c1) (ratOf c2 c3) k2).num, iv (btw (ratOf c0 c1) (ratOf c2 c3) k2).den]))
    | _ => .fail
  | _ => .fail
theorem cPt_ok : CtrOK Try.prog 19 cPt := by
  refine ctrOK_leS CC_ok DC_ok (by kernel_rfl) (by kernel_rfl) fun ss r h => ?_
  unfold cPt at h
  split at h
  · rename_i k0 k1 k2
    split at h
    · rename_i a0 a1 a2 a3 b0 b1 b2 b3 c0 c1 c2 c3 e1
      obtain ⟨⟨⟨s0, s1, s2⟩, h0, h1, h2⟩, rfl⟩ := h
      rw [intsOf_eq e1]
      refine ⟨[.agg [iv a0, iv a1, iv a2, iv a3, iv b0, iv b1, iv b2, iv b3, iv c0, iv c1, iv c2, iv c3], .agg [u8 k0, u8 k1, u8 k2]], 200, .nil, by simp [leSVs, leSV, iv, u8, leD], Sat.of_eq (LPt_eq a0 a1 a2 a3 b0 b1 b2 b3 c0 c1 c2 c3 k0 k1 k2) ⟨?_⟩⟩
      unfold LPt
      exact ⟨by decide, by decide, ⟨s0.l, s0.h, s0.ls, s0.hs, h0⟩, by decide, by decide, ⟨s1.l, s1.h, s1.ls, s1.hs, h1⟩, by decide, by decide, ⟨s2.l, s2.h, s2.ls, s2.hs, h2⟩, rfl⟩
    · exact h.elim
  · exact h.elim

noncomputable def manE : FuncId → Option Ctr := fun k => match k with
  | 25 => some cWi
  | 70 => some cWi
  | 16 => some cBox
  | 19 => some cPt
  | k => manC k
theorem manE_ok (k : Nat) (c : Ctr) (h : manE k = some c) : CtrOK Try.prog k c ∧ goodF Try.prog k = true := by
  unfold manE at h
  split at h
  · cases h; exact ⟨cWi_ok, by kernel_rfl⟩
  · cases h; exact ⟨cWiR_ok, by kernel_rfl⟩
  · cases h; exact ⟨cBox_ok, by kernel_rfl⟩
  · cases h; exact ⟨cPt_ok, by kernel_rfl⟩
  · exact manC_ok _ _ h
noncomputable def CE : Ctx := ctxN Try.prog manE (fun _ => false) 200 .nil 6
theorem CE_ok : CtxOK Try.prog CE := ctxN_ok mixed manE_ok 6
noncomputable def DE : Dr := fun _ => drawn Try.prog CE
theorem DE_ok : DrOK Try.prog CE DE := drawn_ok CE_ok mixed
noncomputable def TE (h : Hint) (k : Nat) (args : List SV) : Tree SV := fnT Try.prog CE DE 200 (fnOf Try.prog k) (bodyOf Try.prog k) args h

def inH : Nat → Hint
  | 0 => .u (.f .nil)
  | n + 1 => .u (.t (.br .nil (inH n)))
noncomputable def LIn (a0 a1 a2 a3 b0 b1 b2 b3 c0 c1 c2 c3 d0 d1 d2 d3 e0 e1 e2 e3 f0 f1 f2 f3 : Int) : Tree SV :=
  .need (true = true)
  (.need ((0 : Int) ≤ (0 : Int) ∧ (0 : Int) < (3 : Int))
   (.need (0 < 3)
   (.need ((0 : Int) ≤ (0 : Int) ∧ (0 : Int) < (3 : Int))
   (.need (0 < 3)
   (.need (VF a0 a1 ∧ VF a2 a3 ∧ VF d0 d1 ∧ VF d2 d3)
   (.ite (!(decide (ratOf d0 d1 ≤ ratOf a0 a1) && decide (ratOf a0 a1 ≤ ratOf d2 d3) && (decide (ratOf d0 d1 ≤ ratOf a2 a3) && decide (ratOf a2 a3 ≤ ratOf d2 d3)))) (.ret (bv false))
   (.need (true = true)
   (.need ((0 : Int) ≤ (1 : Int) ∧ (1 : Int) < (3 : Int))
   (.need (1 < 3)
   (.need ((0 : Int) ≤ (1 : Int) ∧ (1 : Int) < (3 : Int))
   (.need (1 < 3)
   (.need (VF b0 b1 ∧ VF b2 b3 ∧ VF e0 e1 ∧ VF e2 e3)
   (.ite (!(decide (ratOf e0 e1 ≤ ratOf b0 b1) && decide (ratOf b0 b1 ≤ ratOf e2 e3) && (decide (ratOf e0 e1 ≤ ratOf b2 b3) && decide (ratOf b2 b3 ≤ ratOf e2 e3)))) (.ret (bv false))
   (.need (true = true)
   (.need ((0 : Int) ≤ (2 : Int) ∧ (2 : Int) < (3 : Int))
   (.need (2 < 3)
   (.need ((0 : Int) ≤ (2 : Int) ∧ (2 : Int) < (3 : Int))
   (.need (2 < 3)
   (.need (VF c0 c1 ∧ VF c2 c3 ∧ VF f0 f1 ∧ VF f2 f3)
   (.ite (!(decide (ratOf f0 f1 ≤ ratOf c0 c1) && decide (ratOf c0 c1 ≤ ratOf f2 f3) && (decide (ratOf f0 f1 ≤ ratOf c2 c3) && decide (ratOf c2 c3 ≤ ratOf f2 f3)))) (.ret (bv false))
   (.need (false = false) (.ret (bv true)))))))))))))))))))))))

theorem LIn_eq (a0 a1 a2 a3 b0 b1 b2 b3 c0 c1 c2 c3 d0 d1 d2 d3 e0 e1 e2 e3 f0 f1 f2 f3 : Int) : TE (inH 3) 24 [.agg [iv a0, iv a1, iv a2, iv a3, iv b0, iv b1, iv b2, iv b3, iv c0, iv c1, iv c2, iv c3], .agg [iv d0, iv d1, iv d2, iv d3, iv e0, iv e1, iv e2, iv e3, iv f0, iv f1, iv f2, iv f3]] = LIn a0 a1 a2 a3 b0 b1 b2 b3 c0 c1 c2 c3 d0 d1 d2 d3 e0 e1 e2 e3 f0 f1 f2 f3 := by kernel_rfl

noncomputable def LInR (a0 a1 a2 a3 b0 b1 b2 b3 c0 c1 c2 c3 d0 d1 d2 d3 e0 e1 e2 e3 f0 f1 f2 f3 : Int) : Tree SV :=
  .need (VF a0 a1 ∧ VF a2 a3 ∧ VF d0 d1 ∧ VF d2 d3)
  (.need ((decide (ratOf d0 d1 ≤ ratOf a0 a1) && decide (ratOf a0 a1 ≤ ratOf d2 d3) && (decide (ratOf d0 d1 ≤ ratOf a2 a3) && decide (ratOf a2 a3 ≤ ratOf d2 d3))) = true → VF b0 b1 ∧ VF b2 b3 ∧ VF e0 e1 ∧ VF e2 e3)
    (.need
      ((decide (ratOf d0 d1 ≤ ratOf a0 a1) && decide (ratOf a0 a1 ≤ ratOf d2 d3) && (decide (ratOf d0 d1 ≤ ratOf a2 a3) && decide (ratOf a2 a3 ≤ ratOf d2 d3)) &&
            (decide (ratOf e0 e1 ≤ ratOf b0 b1) && decide (ratOf b0 b1 ≤ ratOf e2 e3) && (decide (ratOf e0 e1 ≤ ratOf b2 b3) && decide (ratOf b2 b3 ≤ ratOf e2 e3)))) =
          true →
        VF c0 c1 ∧ VF c2 c3 ∧ VF f0 f1 ∧ VF f2 f3)
      (.ret
        (bv
          (decide (ratOf d0 d1 ≤ ratOf a0 a1) && decide (ratOf a0 a1 ≤ ratOf d2 d3) && (decide (ratOf d0 d1 ≤ ratOf a2 a3) && decide (ratOf a2 a3 ≤ ratOf d2 d3)) &&
              (decide (ratOf e0 e1 ≤ ratOf b0 b1) && decide (ratOf b0 b1 ≤ ratOf e2 e3) && (decide (ratOf e0 e1 ≤ ratOf b2 b3) && decide (ratOf b2 b3 ≤ ratOf e2 e3))) &&
            (decide (ratOf f0 f1 ≤ ratOf c0 c1) && decide (ratOf c0 c1 ≤ ratOf f2 f3) && (decide (ratOf f0 f1 ≤ ratOf c2 c3) && decide (ratOf c2 c3 ≤ ratOf f2 f3))))))))

theorem LInR_eq (a0 a1 a2 a3 b0 b1 b2 b3 c0 c1 c2 c3 d0 d1 d2 d3 e0 e1 e2 e3 f0 f1 f2 f3 : Int) : TE .nil 71 [.agg [iv a0, iv a1, iv a2, iv a3, iv b0, iv b1, iv b2, iv b3, iv c0, iv c1, iv c2, iv c3], .agg [iv d0, iv d1, iv d2, iv d3, iv e0, iv e1, iv e2, iv e3, iv f0, iv f1, iv f2, iv f3]] = LInR a0 a1 a2 a3 b0 b1 b2 b3 c0 c1 c2 c3 d0 d1 d2 d3 e0 e1 e2 e3 f0 f1 f2 f3 := by kernel_rfl

noncomputable def LPart (a0 a1 a2 a3 b0 b1 b2 b3 c0 c1 c2 c3 k0 k1 k2 k3 k4 k5 : Int) : Tree SV :=
  .need ((0 : Int) ≤ (0 : Int) ∧ (0 : Int) < (6 : Int))
  (.need (0 < 6)
   (.need ((0 : Int) ≤ (1 : Int) ∧ (1 : Int) < (6 : Int))
   (.need (1 < 6)
   (.need ((0 : Int) ≤ (2 : Int) ∧ (2 : Int) < (6 : Int))
   (.need (2 < 6)
   (.need ((SInt a0 a1 a2 a3 ∧ SInt b0 b1 b2 b3 ∧ SInt c0 c1 c2 c3) ∧ ((0 : Int) ≤ k0 ∧ k0 < (256 : Int)) ∧ ((0 : Int) ≤ k1 ∧ k1 < (256 : Int)) ∧ (0 : Int) ≤ k2 ∧ k2 < (256 : Int))
   (.need ((0 : Int) ≤ (3 : Int) ∧ (3 : Int) < (6 : Int))
   (.need (3 < 6)
   (.need ((0 : Int) ≤ (4 : Int) ∧ (4 : Int) < (6 : Int))
   (.need (4 < 6)
   (.need ((0 : Int) ≤ (5 : Int) ∧ (5 : Int) < (6 : Int))
   (.need (5 < 6)
   (.need ((SInt a0 a1 a2 a3 ∧ SInt b0 b1 b2 b3 ∧ SInt c0 c1 c2 c3) ∧ ((0 : Int) ≤ k3 ∧ k3 < (256 : Int)) ∧ ((0 : Int) ≤ k4 ∧ k4 < (256 : Int)) ∧ (0 : Int) ≤ k5 ∧ k5 < (256 : Int))
   (.need (true = true)
   (.need ((0 : Int) ≤ (0 : Int) ∧ (0 : Int) < (3 : Int))
   (.need (0 < 3)
   (.need ((0 : Int) ≤ (0 : Int) ∧ (0 : Int) < (3 : Int))
   (.need (0 < 3)
   (.need
   (VF (Rat.num (btw (ratOf a0 a1) (ratOf a2 a3) k0)) (↑(Rat.den (btw (ratOf a0 a1) (ratOf a2 a3) k0)) : Int) ∧
   VF (Rat.num (btw (ratOf a0 a1) (ratOf a2 a3) k3)) (↑(Rat.den (btw (ratOf a0 a1) (ratOf a2 a3) k3)) : Int))
   (.need ((0 : Int) ≤ (0 : Int) ∧ (0 : Int) < (3 : Int))
   (.need (0 < 3)
   (.need ((0 : Int) ≤ (0 : Int) ∧ (0 : Int) < (3 : Int))
   (.need (0 < 3)
   (.need
   (VF (Rat.num (btw (ratOf a0 a1) (ratOf a2 a3) k0)) (↑(Rat.den (btw (ratOf a0 a1) (ratOf a2 a3) k0)) : Int) ∧
   VF (Rat.num (btw (ratOf a0 a1) (ratOf a2 a3) k3)) (↑(Rat.den (btw (ratOf a0 a1) (ratOf a2 a3) k3)) : Int))
   (.need
   (0 ≤ 0 ∧
   4 ≤
   List.length
   [iv
   (Rat.num
   (mn (ratOf (Rat.num (btw (ratOf a0 a1) (ratOf a2 a3) k0)) (↑(Rat.den (btw (ratOf a0 a1) (ratOf a2 a3) k0)) : Int))
   (ratOf (Rat.num (btw (ratOf a0 a1) (ratOf a2 a3) k3)) (↑(Rat.den (btw (ratOf a0 a1) (ratOf a2 a3) k3)) : Int)))),
   iv
   (↑(Rat.den
   (mn (ratOf (Rat.num (btw (ratOf a0 a1) (ratOf a2 a3) k0)) (↑(Rat.den (btw (ratOf a0 a1) (ratOf a2 a3) k0)) : Int))
   (ratOf (Rat.num (btw (ratOf a0 a1) (ratOf a2 a3) k3)) (↑(Rat.den (btw (ratOf a0 a1) (ratOf a2 a3) k3)) : Int)))) :
   Int),
   iv
   (Rat.num
   (mx (ratOf (Rat.num (btw (ratOf a0 a1) (ratOf a2 a3) k0)) (↑(Rat.den (btw (ratOf a0 a1) (ratOf a2 a3) k0)) : Int))
   (ratOf (Rat.num (btw (ratOf a0 a1) (ratOf a2 a3) k3)) (↑(Rat.den (btw (ratOf a0 a1) (ratOf a2 a3) k3)) : Int)))),
   iv
   (↑(Rat.den
   (mx (ratOf (Rat.num (btw (ratOf a0 a1) (ratOf a2 a3) k0)) (↑(Rat.den (btw (ratOf a0 a1) (ratOf a2 a3) k0)) : Int))
   (ratOf (Rat.num (btw (ratOf a0 a1) (ratOf a2 a3) k3)) (↑(Rat.den (btw (ratOf a0 a1) (ratOf a2 a3) k3)) : Int)))) :
   Int)] ∧
   32 ≤ 140737488355328)
   (.need (true = true)
   (.need ((0 : Int) ≤ (1 : Int) ∧ (1 : Int) < (3 : Int))
   (.need (1 < 3)
   (.need ((0 : Int) ≤ (1 : Int) ∧ (1 : Int) < (3 : Int))
   (.need (1 < 3)
   (.need
   (VF (Rat.num (btw (ratOf b0 b1) (ratOf b2 b3) k1)) (↑(Rat.den (btw (ratOf b0 b1) (ratOf b2 b3) k1)) : Int) ∧
   VF (Rat.num (btw (ratOf b0 b1) (ratOf b2 b3) k4)) (↑(Rat.den (btw (ratOf b0 b1) (ratOf b2 b3) k4)) : Int))
   (.need ((0 : Int) ≤ (1 : Int) ∧ (1 : Int) < (3 : Int))
   (.need (1 < 3)
   (.need ((0 : Int) ≤ (1 : Int) ∧ (1 : Int) < (3 : Int))
   (.need (1 < 3)
   (.need
   (VF (Rat.num (btw (ratOf b0 b1) (ratOf b2 b3) k1)) (↑(Rat.den (btw (ratOf b0 b1) (ratOf b2 b3) k1)) : Int) ∧
   VF (Rat.num (btw (ratOf b0 b1) (ratOf b2 b3) k4)) (↑(Rat.den (btw (ratOf b0 b1) (ratOf b2 b3) k4)) : Int))
   (.need
   (1 ≤ 1 ∧
   4 ≤
   List.length
   [iv
   (Rat.num
   (mn (ratOf (Rat.num (btw (ratOf b0 b1) (ratOf b2 b3) k1)) (↑(Rat.den (btw (ratOf b0 b1) (ratOf b2 b3) k1)) : Int))
   (ratOf (Rat.num (btw (ratOf b0 b1) (ratOf b2 b3) k4)) (↑(Rat.den (btw (ratOf b0 b1) (ratOf b2 b3) k4)) : Int)))),
   iv
   (↑(Rat.den
   (mn (ratOf (Rat.num (btw (ratOf b0 b1) (ratOf b2 b3) k1)) (↑(Rat.den (btw (ratOf b0 b1) (ratOf b2 b3) k1)) : Int))
   (ratOf (Rat.num (btw (ratOf b0 b1) (ratOf b2 b3) k4)) (↑(Rat.den (btw (ratOf b0 b1) (ratOf b2 b3) k4)) : Int)))) :
   Int),
   iv
   (Rat.num
   (mx (ratOf (Rat.num (btw (ratOf b0 b1) (ratOf b2 b3) k1)) (↑(Rat.den (btw (ratOf b0 b1) (ratOf b2 b3) k1)) : Int))
   (ratOf (Rat.num (btw (ratOf b0 b1) (ratOf b2 b3) k4)) (↑(Rat.den (btw (ratOf b0 b1) (ratOf b2 b3) k4)) : Int)))),
   iv
   (↑(Rat.den
   (mx (ratOf (Rat.num (btw (ratOf b0 b1) (ratOf b2 b3) k1)) (↑(Rat.den (btw (ratOf b0 b1) (ratOf b2 b3) k1)) : Int))
   (ratOf (Rat.num (btw (ratOf b0 b1) (ratOf b2 b3) k4)) (↑(Rat.den (btw (ratOf b0 b1) (ratOf b2 b3) k4)) : Int)))) :
   Int)] ∧
   64 ≤ 140737488355328)
   (.need (true = true)
   (.need ((0 : Int) ≤ (2 : Int) ∧ (2 : Int) < (3 : Int))
   (.need (2 < 3)
   (.need ((0 : Int) ≤ (2 : Int) ∧ (2 : Int) < (3 : Int))
   (.need (2 < 3)
   (.need
   (VF (Rat.num (btw (ratOf c0 c1) (ratOf c2 c3) k2)) (↑(Rat.den (btw (ratOf c0 c1) (ratOf c2 c3) k2)) : Int) ∧
   VF (Rat.num (btw (ratOf c0 c1) (ratOf c2 c3) k5)) (↑(Rat.den (btw (ratOf c0 c1) (ratOf c2 c3) k5)) : Int))
   (.need ((0 : Int) ≤ (2 : Int) ∧ (2 : Int) < (3 : Int))
   (.need (2 < 3)
   (.need ((0 : Int) ≤ (2 : Int) ∧ (2 : Int) < (3 : Int))
   (.need (2 < 3)
   (.need
   (VF (Rat.num (btw (ratOf c0 c1) (ratOf c2 c3) k2)) (↑(Rat.den (btw (ratOf c0 c1) (ratOf c2 c3) k2)) : Int) ∧
   VF (Rat.num (btw (ratOf c0 c1) (ratOf c2 c3) k5)) (↑(Rat.den (btw (ratOf c0 c1) (ratOf c2 c3) k5)) : Int))
   (.need
   (2 ≤ 2 ∧
   4 ≤
   List.length
   [iv
   (Rat.num
   (mn (ratOf (Rat.num (btw (ratOf c0 c1) (ratOf c2 c3) k2)) (↑(Rat.den (btw (ratOf c0 c1) (ratOf c2 c3) k2)) : Int))
   (ratOf (Rat.num (btw (ratOf c0 c1) (ratOf c2 c3) k5)) (↑(Rat.den (btw (ratOf c0 c1) (ratOf c2 c3) k5)) : Int)))),
   iv
   (↑(Rat.den
   (mn (ratOf (Rat.num (btw (ratOf c0 c1) (ratOf c2 c3) k2)) (↑(Rat.den (btw (ratOf c0 c1) (ratOf c2 c3) k2)) : Int))
   (ratOf (Rat.num (btw (ratOf c0 c1) (ratOf c2 c3) k5)) (↑(Rat.den (btw (ratOf c0 c1) (ratOf c2 c3) k5)) : Int)))) :
   Int),
   iv
   (Rat.num
   (mx (ratOf (Rat.num (btw (ratOf c0 c1) (ratOf c2 c3) k2)) (↑(Rat.den (btw (ratOf c0 c1) (ratOf c2 c3) k2)) : Int))
   (ratOf (Rat.num (btw (ratOf c0 c1) (ratOf c2 c3) k5)) (↑(Rat.den (btw (ratOf c0 c1) (ratOf c2 c3) k5)) : Int)))),
   iv
   (↑(Rat.den
   (mx (ratOf (Rat.num (btw (ratOf c0 c1) (ratOf c2 c3) k2)) (↑(Rat.den (btw (ratOf c0 c1) (ratOf c2 c3) k2)) : Int))
   (ratOf (Rat.num (btw (ratOf c0 c1) (ratOf c2 c3) k5)) (↑(Rat.den (btw (ratOf c0 c1) (ratOf c2 c3) k5)) : Int)))) :
   Int)] ∧
   96 ≤ 140737488355328)
   (.need (false = false)
   (.need ((0 : Int) ≤ (0 : Int) ∧ (0 : Int) < (3 : Int))
   (.need (0 < 3)
   (.need ((0 : Int) ≤ (1 : Int) ∧ (1 : Int) < (3 : Int))
   (.need (1 < 3)
   (.need ((0 : Int) ≤ (2 : Int) ∧ (2 : Int) < (3 : Int))
   (.need (2 < 3)
   (.ret
   (SV.agg
   [iv
   (bif true then
   bif true then
   Rat.num
   (mn
   (ratOf (Rat.num (btw (ratOf a0 a1) (ratOf a2 a3) k0)) (↑(Rat.den (btw (ratOf a0 a1) (ratOf a2 a3) k0)) : Int))
   (ratOf (Rat.num (btw (ratOf a0 a1) (ratOf a2 a3) k3))
   (↑(Rat.den (btw (ratOf a0 a1) (ratOf a2 a3) k3)) : Int)))
   else
   Rat.num
   (mn
   (ratOf (Rat.num (btw (ratOf b0 b1) (ratOf b2 b3) k1)) (↑(Rat.den (btw (ratOf b0 b1) (ratOf b2 b3) k1)) : Int))
   (ratOf (Rat.num (btw (ratOf b0 b1) (ratOf b2 b3) k4))
   (↑(Rat.den (btw (ratOf b0 b1) (ratOf b2 b3) k4)) : Int)))
   else
   Rat.num
   (mn (ratOf (Rat.num (btw (ratOf c0 c1) (ratOf c2 c3) k2)) (↑(Rat.den (btw (ratOf c0 c1) (ratOf c2 c3) k2)) : Int))
   (ratOf (Rat.num (btw (ratOf c0 c1) (ratOf c2 c3) k5))
   (↑(Rat.den (btw (ratOf c0 c1) (ratOf c2 c3) k5)) : Int)))),
   iv
   (bif true then
   bif true then
   (↑(Rat.den
   (mn
   (ratOf (Rat.num (btw (ratOf a0 a1) (ratOf a2 a3) k0))
   (↑(Rat.den (btw (ratOf a0 a1) (ratOf a2 a3) k0)) : Int))
   (ratOf (Rat.num (btw (ratOf a0 a1) (ratOf a2 a3) k3))
   (↑(Rat.den (btw (ratOf a0 a1) (ratOf a2 a3) k3)) : Int)))) :
   Int)
   else
   (↑(Rat.den
   (mn
   (ratOf (Rat.num (btw (ratOf b0 b1) (ratOf b2 b3) k1))
   (↑(Rat.den (btw (ratOf b0 b1) (ratOf b2 b3) k1)) : Int))
   (ratOf (Rat.num (btw (ratOf b0 b1) (ratOf b2 b3) k4))
   (↑(Rat.den (btw (ratOf b0 b1) (ratOf b2 b3) k4)) : Int)))) :
   Int)
   else
   (↑(Rat.den
   (mn
   (ratOf (Rat.num (btw (ratOf c0 c1) (ratOf c2 c3) k2))
   (↑(Rat.den (btw (ratOf c0 c1) (ratOf c2 c3) k2)) : Int))
   (ratOf (Rat.num (btw (ratOf c0 c1) (ratOf c2 c3) k5))
   (↑(Rat.den (btw (ratOf c0 c1) (ratOf c2 c3) k5)) : Int)))) :
   Int)),
   iv
   (bif true then
   bif true then
   Rat.num
   (mx
   (ratOf (Rat.num (btw (ratOf a0 a1) (ratOf a2 a3) k0)) (↑(Rat.den (btw (ratOf a0 a1) (ratOf a2 a3) k0)) : Int))
   (ratOf (Rat.num (btw (ratOf a0 a1) (ratOf a2 a3) k3))
   (↑(Rat.den (btw (ratOf a0 a1) (ratOf a2 a3) k3)) : Int)))
   else
   Rat.num
   (mx
   (ratOf (Rat.num (btw (ratOf b0 b1) (ratOf b2 b3) k1)) (↑(Rat.den (btw (ratOf b0 b1) (ratOf b2 b3) k1)) : Int))
   (ratOf (Rat.num (btw (ratOf b0 b1) (ratOf b2 b3) k4))
   (↑(Rat.den (btw (ratOf b0 b1) (ratOf b2 b3) k4)) : Int)))
   else
   Rat.num
   (mx (ratOf (Rat.num (btw (ratOf c0 c1) (ratOf c2 c3) k2)) (↑(Rat.den (btw (ratOf c0 c1) (ratOf c2 c3) k2)) : Int))
   (ratOf (Rat.num (btw (ratOf c0 c1) (ratOf c2 c3) k5))
   (↑(Rat.den (btw (ratOf c0 c1) (ratOf c2 c3) k5)) : Int)))),
   iv
   (bif true then
   bif true then
   (↑(Rat.den
   (mx
   (ratOf (Rat.num (btw (ratOf a0 a1) (ratOf a2 a3) k0))
   (↑(Rat.den (btw (ratOf a0 a1) (ratOf a2 a3) k0)) : Int))
   (ratOf (Rat.num (btw (ratOf a0 a1) (ratOf a2 a3) k3))
   (↑(Rat.den (btw (ratOf a0 a1) (ratOf a2 a3) k3)) : Int)))) :
   Int)
   else
   (↑(Rat.den
   (mx
   (ratOf (Rat.num (btw (ratOf b0 b1) (ratOf b2 b3) k1))
   (↑(Rat.den (btw (ratOf b0 b1) (ratOf b2 b3) k1)) : Int))
   (ratOf (Rat.num (btw (ratOf b0 b1) (ratOf b2 b3) k4))
   (↑(Rat.den (btw (ratOf b0 b1) (ratOf b2 b3) k4)) : Int)))) :
   Int)
   else
   (↑(Rat.den
   (mx
   (ratOf (Rat.num (btw (ratOf c0 c1) (ratOf c2 c3) k2))
   (↑(Rat.den (btw (ratOf c0 c1) (ratOf c2 c3) k2)) : Int))
   (ratOf (Rat.num (btw (ratOf c0 c1) (ratOf c2 c3) k5))
   (↑(Rat.den (btw (ratOf c0 c1) (ratOf c2 c3) k5)) : Int)))) :
   Int)),
   iv
   (bif true then
   Rat.num
   (mn (ratOf (Rat.num (btw (ratOf b0 b1) (ratOf b2 b3) k1)) (↑(Rat.den (btw (ratOf b0 b1) (ratOf b2 b3) k1)) : Int))
   (ratOf (Rat.num (btw (ratOf b0 b1) (ratOf b2 b3) k4)) (↑(Rat.den (btw (ratOf b0 b1) (ratOf b2 b3) k4)) : Int)))
   else
   Rat.num
   (mn (ratOf (Rat.num (btw (ratOf c0 c1) (ratOf c2 c3) k2)) (↑(Rat.den (btw (ratOf c0 c1) (ratOf c2 c3) k2)) : Int))
   (ratOf (Rat.num (btw (ratOf c0 c1) (ratOf c2 c3) k5))
   (↑(Rat.den (btw (ratOf c0 c1) (ratOf c2 c3) k5)) : Int)))),
   iv
   (bif true then
   (↑(Rat.den
   (mn
   (ratOf (Rat.num (btw (ratOf b0 b1) (ratOf b2 b3) k1))
   (↑(Rat.den (btw (ratOf b0 b1) (ratOf b2 b3) k1)) : Int))
   (ratOf (Rat.num (btw (ratOf b0 b1) (ratOf b2 b3) k4))
   (↑(Rat.den (btw (ratOf b0 b1) (ratOf b2 b3) k4)) : Int)))) :
   Int)
   else
   (↑(Rat.den
   (mn
   (ratOf (Rat.num (btw (ratOf c0 c1) (ratOf c2 c3) k2))
   (↑(Rat.den (btw (ratOf c0 c1) (ratOf c2 c3) k2)) : Int))
   (ratOf (Rat.num (btw (ratOf c0 c1) (ratOf c2 c3) k5))
   (↑(Rat.den (btw (ratOf c0 c1) (ratOf c2 c3) k5)) : Int)))) :
   Int)),
   iv
   (bif true then
   Rat.num
   (mx (ratOf (Rat.num (btw (ratOf b0 b1) (ratOf b2 b3) k1)) (↑(Rat.den (btw (ratOf b0 b1) (ratOf b2 b3) k1)) : Int))
   (ratOf (Rat.num (btw (ratOf b0 b1) (ratOf b2 b3) k4)) (↑(Rat.den (btw (ratOf b0 b1) (ratOf b2 b3) k4)) : Int)))
   else
   Rat.num
   (mx (ratOf (Rat.num (btw (ratOf c0 c1) (ratOf c2 c3) k2)) (↑(Rat.den (btw (ratOf c0 c1) (ratOf c2 c3) k2)) : Int))
   (ratOf (Rat.num (btw (ratOf c0 c1) (ratOf c2 c3) k5))
   (↑(Rat.den (btw (ratOf c0 c1) (ratOf c2 c3) k5)) : Int)))),
   iv
   (bif true then
   (↑(Rat.den
   (mx
   (ratOf (Rat.num (btw (ratOf b0 b1) (ratOf b2 b3) k1))
   (↑(Rat.den (btw (ratOf b0 b1) (ratOf b2 b3) k1)) : Int))
   (ratOf (Rat.num (btw (ratOf b0 b1) (ratOf b2 b3) k4))
   (↑(Rat.den (btw (ratOf b0 b1) (ratOf b2 b3) k4)) : Int)))) :
   Int)
   else
   (↑(Rat.den
   (mx
   (ratOf (Rat.num (btw (ratOf c0 c1) (ratOf c2 c3) k2))
   (↑(Rat.den (btw (ratOf c0 c1) (ratOf c2 c3) k2)) : Int))
   (ratOf (Rat.num (btw (ratOf c0 c1) (ratOf c2 c3) k5))
   (↑(Rat.den (btw (ratOf c0 c1) (ratOf c2 c3) k5)) : Int)))) :
   Int)),
   iv
   (Rat.num
   (mn (ratOf (Rat.num (btw (ratOf c0 c1) (ratOf c2 c3) k2)) (↑(Rat.den (btw (ratOf c0 c1) (ratOf c2 c3) k2)) : Int))
   (ratOf (Rat.num (btw (ratOf c0 c1) (ratOf c2 c3) k5)) (↑(Rat.den (btw (ratOf c0 c1) (ratOf c2 c3) k5)) : Int)))),
   iv
   (↑(Rat.den
   (mn
   (ratOf (Rat.num (btw (ratOf c0 c1) (ratOf c2 c3) k2)) (↑(Rat.den (btw (ratOf c0 c1) (ratOf c2 c3) k2)) : Int))
   (ratOf (Rat.num (btw (ratOf c0 c1) (ratOf c2 c3) k5))
   (↑(Rat.den (btw (ratOf c0 c1) (ratOf c2 c3) k5)) : Int)))) :
   Int),
   iv
   (Rat.num
   (mx (ratOf (Rat.num (btw (ratOf c0 c1) (ratOf c2 c3) k2)) (↑(Rat.den (btw (ratOf c0 c1) (ratOf c2 c3) k2)) : Int))
   (ratOf (Rat.num (btw (ratOf c0 c1) (ratOf c2 c3) k5)) (↑(Rat.den (btw (ratOf c0 c1) (ratOf c2 c3) k5)) : Int)))),
   iv
   (↑(Rat.den
   (mx
   (ratOf (Rat.num (btw (ratOf c0 c1) (ratOf c2 c3) k2)) (↑(Rat.den (btw (ratOf c0 c1) (ratOf c2 c3) k2)) : Int))
   (ratOf (Rat.num (btw (ratOf c0 c1) (ratOf c2 c3) k5))
   (↑(Rat.den (btw (ratOf c0 c1) (ratOf c2 c3) k5)) : Int)))) :
   Int)]))))))))))))))))))))))))))))))))))))))))))))))))))))))))))

theorem LPart_eq (a0 a1 a2 a3 b0 b1 b2 b3 c0 c1 c2 c3 k0 k1 k2 k3 k4 k5 : Int) : TE (uN 3 .nil) 23 [.agg [iv a0, iv a1, iv a2, iv a3, iv b0, iv b1, iv b2, iv b3, iv c0, iv c1, iv c2, iv c3], .agg [u8 k0, u8 k1, u8 k2, u8 k3, u8 k4, u8 k5]] = LPart a0 a1 a2 a3 b0 b1 b2 b3 c0 c1 c2 c3 k0 k1 k2 k3 k4 k5 := by kernel_rfl


end Go.Proofs.Ytpaejfeojdoikaa

namespace Go.Proofs.Ytpaejfeojdoikaa
open Go.Sx
set_option maxRecDepth 100000

/-- A box with valid bounds. -/
structure VB6 (a0 a1 a2 a3 b0 b1 b2 b3 c0 c1 c2 c3 : Int) : Prop where
  l0 : VF a0 a1
  h0 : VF a2 a3
  l1 : VF b0 b1
  h1 : VF b2 b3
  l2 : VF c0 c1
  h2 : VF c2 c3
/-- Whether an interval lies within another one. -/
noncomputable def wiB (a b c d : Rat) : Bool := decide (c ≤ a) && decide (a ≤ d) && (decide (c ≤ b) && decide (b ≤ d))
noncomputable def cIn : Ctr := fun ss => match ss with
  | [.agg l, .agg m] => match intsOf .i64 l, intsOf .i64 m with
    | some [a0, a1, a2, a3, b0, b1, b2, b3, c0, c1, c2, c3], some [d0, d1, d2, d3, e0, e1, e2, e3, f0, f1, f2, f3] => .need (VB6 a0 a1 a2 a3 b0 b1 b2 b3 c0 c1 c2 c3 ∧ VB6 d0 d1 d2 d3 e0 e1 e2 e3 f0 f1 f2 f3)
      (.ret (bv (wiB (ratOf a0 a1) (ratOf a2 a3) (ratOf d0 d1) (ratOf d2 d3) && wiB (ratOf b0 b1) (ratOf b2 b3) (ratOf e0 e1) (ratOf e2 e3) && wiB (ratOf c0 c1) (ratOf c2 c3) (ratOf f0 f1) (ratOf f2 f3))))
    | _, _ => .fail
  | _ => .fail
theorem cIn_ok : CtrOK Try.prog 24 cIn := by
  refine ctrOK_leS CE_ok DE_ok (by kernel_rfl) (by kernel_rfl) fun ss r h => ?_
  unfold cIn at h
  split at h
  · split at h
    · rename_i a0 a1 a2 a3 b0 b1 b2 b3 c0 c1 c2 c3 d0 d1 d2 d3 e0 e1 e2 e3 f0 f1 f2 f3 q1 q2
      obtain ⟨⟨x, y⟩, rfl⟩ := h
      rw [intsOf_eq q1, intsOf_eq q2]
      refine ⟨_, 200, inH 3, by simp [leSVs, leSV, iv, bv, leD], Sat.of_eq (LIn_eq a0 a1 a2 a3 b0 b1 b2 b3 c0 c1 c2 c3 d0 d1 d2 d3 e0 e1 e2 e3 f0 f1 f2 f3) ⟨?_⟩⟩
      unfold LIn
      unfold wiB
      refine ⟨rfl, by decide, by decide, by decide, by decide, ⟨x.l0, x.h0, y.l0, y.h0⟩, fun h => ?_, fun h => ⟨rfl, by decide, by decide, by decide, by decide, ⟨x.l1, x.h1, y.l1, y.h1⟩, fun h2 => ?_, fun h2 => ⟨rfl, by decide, by decide, by decide, by decide, ⟨x.l2, x.h2, y.l2, y.h2⟩, fun h3 => ?_, fun h3 => ⟨rfl, ?_⟩⟩⟩⟩
      · rw [Bool.not_eq_true'] at h; rw [h]; exact rfl
      · rw [Bool.not_eq_false'] at h; rw [Bool.not_eq_true'] at h2; rw [h, h2]; exact rfl
      · rw [Bool.not_eq_false'] at h h2; rw [Bool.not_eq_true'] at h3; rw [h, h2, h3]; exact rfl
      · rw [Bool.not_eq_false'] at h h2 h3; rw [h, h2, h3]; exact rfl
    · exact h.elim
  · exact h.elim
theorem cInR_ok : CtrOK Try.prog 71 cIn := by
  refine ctrOK_leS CE_ok DE_ok (by kernel_rfl) (by kernel_rfl) fun ss r h => ?_
  unfold cIn at h
  split at h
  · split at h
    · rename_i a0 a1 a2 a3 b0 b1 b2 b3 c0 c1 c2 c3 d0 d1 d2 d3 e0 e1 e2 e3 f0 f1 f2 f3 q1 q2
      obtain ⟨⟨x, y⟩, rfl⟩ := h
      rw [intsOf_eq q1, intsOf_eq q2]
      refine ⟨_, 200, .nil, by simp [leSVs, leSV, iv, bv, leD], Sat.of_eq (LInR_eq a0 a1 a2 a3 b0 b1 b2 b3 c0 c1 c2 c3 d0 d1 d2 d3 e0 e1 e2 e3 f0 f1 f2 f3) ⟨?_⟩⟩
      unfold LInR
      exact ⟨⟨x.l0, x.h0, y.l0, y.h0⟩, fun _ => ⟨x.l1, x.h1, y.l1, y.h1⟩, fun _ => ⟨x.l2, x.h2, y.l2, y.h2⟩, rfl⟩
    · exact h.elim
  · exact h.elim

/-- The intervals of a part of a box. -/
noncomputable def ptL (a b : Rat) (k l : Int) : Rat := mn (btw a b k) (btw a b l)
noncomputable def ptH (a b : Rat) (k l : Int) : Rat := mx (btw a b k) (btw a b l)
noncomputable def cPart : Ctr := fun ss => match ss with
  | [.agg l, .agg m] => match intsOf .i64 l, intsOf .u8 m with
    | some [a0, a1, a2, a3, b0, b1, b2, b3, c0, c1, c2, c3], some [k0, k1, k2, k3, k4, k5] => .need ((SInt a0 a1 a2 a3 ∧ SInt b0 b1 b2 b3 ∧ SInt c0 c1 c2 c3) ∧ ((0 ≤ k0 ∧ k0 < 256) ∧ (0 ≤ k1 ∧ k1 < 256) ∧ (0 ≤ k2 ∧ k2 < 256)) ∧ (0 ≤ k3 ∧ k3 < 256) ∧ (0 ≤ k4 ∧ k4 < 256) ∧ (0 ≤ k5 ∧ k5 < 256))
      (.ret (.agg [iv (ptL (ratOf a0 a1) (ratOf a2 a3) k0 k3).num, iv (ptL (ratOf a0 a1) (ratOf a2 a3) k0 k3).den, iv (ptH (ratOf a0 a1) (ratOf a2 a3) k0 k3).num, iv (ptH (ratOf a0 a1) (ratOf a2 a3) k0 k3).den,
        iv (ptL (ratOf b0 b1) (ratOf b2 b3) k1 k4).num, iv (ptL (ratOf b0 b1) (ratOf b2 b3) k1 k4).den, iv (ptH (ratOf b0 b1) (ratOf b2 b3) k1 k4).num, iv (ptH (ratOf b0 b1) (ratOf b2 b3) k1 k4).den,
        iv (ptL (ratOf c0 c1) (ratOf c2 c3) k2 k5).num, iv (ptL (ratOf c0 c1) (ratOf c2 c3) k2 k5).den, iv (ptH (ratOf c0 c1) (ratOf c2 c3) k2 k5).num, iv (ptH (ratOf c0 c1) (ratOf c2 c3) k2 k5).den]))
    | _, _ => .fail
  | _ => .fail
theorem len4 (a b c d : SV) : 4 ≤ [a, b, c, d].length := by simp
theorem btw_vf {a b : Int} {c d : Int} (h : SInt a b c d) {k : Int} (hk : 0 ≤ k) : VF (btw (ratOf a b) (ratOf c d) k).num (btw (ratOf a b) (ratOf c d) k).den := VF.of ((btw_sm h.ls h.hs hk).fits (by decide) (by decide))
theorem cPart_ok : CtrOK Try.prog 23 cPart := by
  refine ctrOK_leS CE_ok DE_ok (by kernel_rfl) (by kernel_rfl) fun ss r h => ?_
  unfold cPart at h
  split at h
  · split at h
    · rename_i a0 a1 a2 a3 b0 b1 b2 b3 c0 c1 c2 c3 k0 k1 k2 k3 k4 k5 e1 e2
      obtain ⟨⟨⟨s0, s1, s2⟩, ⟨g0, g1, g2⟩, g3, g4, g5⟩, rfl⟩ := h
      rw [intsOf_eq e1, intsOf_eq e2]
      refine ⟨_, 200, uN 3 .nil, by simp [leSVs, leSV, iv, u8, leD], Sat.of_eq (LPart_eq a0 a1 a2 a3 b0 b1 b2 b3 c0 c1 c2 c3 k0 k1 k2 k3 k4 k5) ⟨?_⟩⟩
      unfold LPart
      have v0 := btw_vf s0 g0.1
      have v1 := btw_vf s1 g1.1
      have v2 := btw_vf s2 g2.1
      have v3 := btw_vf s0 g3.1
      have v4 := btw_vf s1 g4.1
      have v5 := btw_vf s2 g5.1
      simp only [ratOf_rat]
      obtain ⟨g0a, g0b⟩ := g0
      obtain ⟨g1a, g1b⟩ := g1
      obtain ⟨g2a, g2b⟩ := g2
      obtain ⟨g3a, g3b⟩ := g3
      obtain ⟨g4a, g4b⟩ := g4
      obtain ⟨g5a, g5b⟩ := g5
      repeat' (first | assumption | exact rfl | decide | exact len4 _ _ _ _ | (refine ⟨?_, ?_⟩))
    · exact h.elim
  · exact h.elim

noncomputable def manF : FuncId → Option Ctr := fun k => match k with
  | 24 => some cIn
  | 71 => some cIn
  | 23 => some cPart
  | k => manE k
theorem manF_ok (k : Nat) (c : Ctr) (h : manF k = some c) : CtrOK Try.prog k c ∧ goodF Try.prog k = true := by
  unfold manF at h
  split at h
  · cases h; exact ⟨cIn_ok, by kernel_rfl⟩
  · cases h; exact ⟨cInR_ok, by kernel_rfl⟩
  · cases h; exact ⟨cPart_ok, by kernel_rfl⟩
  · exact manE_ok _ _ h
end Go.Proofs.Ytpaejfeojdoikaa

namespace Go.Proofs.Ytpaejfeojdoikaa
open Go.Sx
set_option maxRecDepth 100000

/-! ### Linear functions over rational numbers: plain laws -/

/-- The value of a function at a point. -/
def lv (k t v a p q r : Rat) : Rat := k + t * p + v * q + a * r
/-- A coefficient, and a coordinate, of the sizes met here. -/
abbrev CfQ (q : Rat) : Prop := Sm 3600 800 q
abbrev PtQ (q : Rat) : Prop := Sm 480 60 q
theorem _root_.Go.Sx.Sm.cf {q : Rat} (h : Sm 60 20 q) : CfQ q := h.le (by decide) (by decide) (by decide)
theorem CfQ.vf {q : Rat} (h : CfQ q) : VF q.num q.den := VF.of (h.fits (by decide) (by decide))
theorem PtQ.vf {q : Rat} (h : PtQ q) : VF q.num q.den := VF.of (h.fits (by decide) (by decide))

/-! ### Elements of intervals -/
theorem ratOf_01 {n d : Int} (h0 : 0 ≤ n) (h1 : n ≤ d) (hd : 1 ≤ d) : 0 ≤ ratOf n d ∧ ratOf n d ≤ 1 := by
  have e := ratOf_mul (n := n) hd
  have hd' : (0 : Rat) < (d : Rat) := by
    have : ((0 : Int) : Rat) < (d : Rat) := Rat.intCast_lt_intCast.2 (by omega)
    exact this
  refine ⟨Rat.le_of_mul_le_mul_right ?_ hd', Rat.le_of_mul_le_mul_right ?_ hd'⟩
  · rw [e, Rat.zero_mul]
    have : ((0 : Int) : Rat) ≤ (n : Rat) := Rat.intCast_le_intCast.2 h0
    exact this
  · rw [e, Rat.one_mul]; exact Rat.intCast_le_intCast.2 h1
theorem btw_in {lo hi : Rat} (h : lo ≤ hi) {k : Int} (hk : 0 ≤ k) : lo ≤ btw lo hi k ∧ btw lo hi k ≤ hi := by
  unfold btw
  obtain ⟨a, b⟩ := ratOf_01 (n := k % 9) (d := 8) (by omega) (by omega) (by decide)
  have h1 : 0 ≤ hi - lo := by grind
  have e1 := Rat.mul_le_mul_of_nonneg_left a h1
  have e2 := Rat.mul_le_mul_of_nonneg_left b h1
  rw [Rat.mul_zero] at e1
  rw [Rat.mul_one] at e2
  exact ⟨by grind, by grind⟩
theorem ptL_in {lo hi : Rat} (h : lo ≤ hi) {k l : Int} (hk : 0 ≤ k) (hl : 0 ≤ l) : lo ≤ ptL lo hi k l ∧ ptL lo hi k l ≤ ptH lo hi k l ∧ ptH lo hi k l ≤ hi := by
  unfold ptL ptH
  refine ⟨?_, mn_mx, ?_⟩
  · unfold mn; split
    · exact (btw_in h hl).1
    · exact (btw_in h hk).1
  · unfold mx; split
    · exact (btw_in h hl).2
    · exact (btw_in h hk).2
theorem ptL_sm {lo hi : Rat} (h1 : Sm 60 20 lo) (h2 : Sm 60 20 hi) {k l : Int} (hk : 0 ≤ k) (hl : 0 ≤ l) : PtQ (ptL lo hi k l) ∧ PtQ (ptH lo hi k l) :=
  ⟨(btw_sm h1 h2 hk).mn (btw_sm h1 h2 hl), (btw_sm h1 h2 hk).mx (btw_sm h1 h2 hl)⟩

end Go.Proofs.Ytpaejfeojdoikaa

namespace Go.Proofs.Ytpaejfeojdoikaa
open Go.Sx
set_option maxRecDepth 100000

/-! ### The arguments of the laws -/

theorem wf_u8 {i : Int} (h : (Lit.int .u8 i).wf = true) : 0 ≤ i ∧ i < 256 := by
  simp [Lit.wf, IntKind.min, IntKind.max, IntKind.signed, IntKind.bits] at h; omega
theorem cells5 : Try.prog.cellsOf 5 = 1 := by kernel_rfl

theorem okBytes {ds : List DV} {n : Nat} (h : okT Try.prog (n + 2) 22 ds) : ∃ m cell, Byt m cell ∧ ds = [.ro m 1 cell] := by
  simp [okT, Try.underlying22, Try.underlying5, cells5] at h
  obtain ⟨m, hm, cell, rfl, hc⟩ := h
  refine ⟨m, cell, ⟨hm, fun i hi => ?_⟩, by rfl⟩
  obtain ⟨b, hb, e⟩ := hc i hi
  exact ⟨b, by simpa using e, wf_u8 hb⟩
def u8d (k : Int) : DV := .x (.int .u8 k)
theorem okU8s {n : Nat} : ∀ {m : Nat} {ds : List DV}, okAs (okT Try.prog (n + 1) 5) m ds → ∃ ks : List Int, ks.length = m ∧ ds = ks.map u8d ∧ ∀ k ∈ ks, 0 ≤ k ∧ k < 256
  | 0, ds, h => ⟨[], rfl, h, by simp⟩
  | m + 1, ds, h => by
    obtain ⟨a, b, rfl, h1, h2⟩ := h
    simp [okT, Try.underlying5] at h1
    obtain ⟨i, hi, rfl⟩ := h1
    obtain ⟨ks, e1, rfl, e3⟩ := okU8s h2
    refine ⟨i :: ks, by simp [e1], rfl, fun k hk => ?_⟩
    rcases List.mem_cons.1 hk with rfl | hk
    · exact wf_u8 hi
    · exact e3 k hk

theorem okArr {n m : Nat} {t : TypeId} {ds : List DV} (hu : Try.prog.underlying t = some (.array m 5)) (h : okT Try.prog (n + 2) t ds) : ∃ ks : List Int, ks.length = m ∧ ds = ks.map u8d ∧ ∀ k ∈ ks, 0 ≤ k ∧ k < 256 := by
  unfold okT at h
  rw [hu] at h
  exact okU8s h

theorem vB_of {q : Rat} (h : fitsR q) : vB q.num q.den = true := vB_iff.2 (VF.of h)
theorem bv_true {b : Bool} (h : b = true) : bv b = bv true := by rw [h]

/-! ### LinearIntervals -/

end Go.Proofs.Ytpaejfeojdoikaa

namespace Go.Proofs.Ytpaejfeojdoikaa
open Go.Sx
set_option maxRecDepth 100000

end Go.Proofs.Ytpaejfeojdoikaa

namespace Go.Proofs.Ytpaejfeojdoikaa
open Go.Sx
set_option maxRecDepth 100000

theorem sat_need {α : Type} {P : Program} {p : Prop} {t : Tree α} {Q : α → Prop} : (Tree.need p t).sat P Q = (p ∧ t.sat P Q) := rfl
theorem sat_ite {α : Type} {P : Program} {b : Bool} {t e : Tree α} {Q : α → Prop} : (Tree.ite b t e).sat P Q = ((b = true → t.sat P Q) ∧ (b = false → e.sat P Q)) := rfl
theorem sat_ret {α : Type} {P : Program} {a : α} {Q : α → Prop} : (Tree.ret a).sat P Q = Q a := rfl
theorem oE_some {α : Type} {q : α} : oE (some q) = 0 := rfl
theorem oN_some {q : Rat} : oN (some q) = q.num := rfl
theorem oD_some {q : Rat} : oD (some q) = q.den := rfl
theorem zero_ne : ((0 : Int) != 0) = false := rfl
/-! ### LinearRange -/
end Go.Proofs.Ytpaejfeojdoikaa

namespace Go.Proofs.Ytpaejfeojdoikaa
open Go.Sx
set_option maxRecDepth 100000

end Go.Proofs.Ytpaejfeojdoikaa

namespace Go.Proofs.Ytpaejfeojdoikaa
open Go.Sx
set_option maxRecDepth 100000

noncomputable def inlG (k : Nat) : Bool := k == 134 || k == 135 || k == 163
noncomputable def CG : Ctx := ctxN Try.prog manF inlG 200 .nil 6
theorem CG_ok : CtxOK Try.prog CG := ctxN_ok mixed manF_ok 6
noncomputable def DG : Dr := fun _ => drawn Try.prog CG
theorem DG_ok : DrOK Try.prog CG DG := drawn_ok CG_ok mixed
noncomputable def TG (h : Hint) (k : Nat) (args : List SV) : Tree SV := fnT Try.prog CG DG 200 (fnOf Try.prog k) (bodyOf Try.prog k) args h

def eachH : Nat → Hint
  | 0 => .u (.f .nil)
  | n + 1 => .u (.t (.br .nil (eachH n)))
noncomputable def LLa_q1 (a0 : Int) (a1 : Int) : Rat :=
  ratOf a0 a1
noncomputable def LLa_q2 (b0 : Int) (b1 : Int) : Rat :=
  ratOf b0 b1
noncomputable def LLa_q3 (a0 : Int) (a1 : Int) (b0 : Int) (b1 : Int) : Rat :=
  LLa_q1 a0 a1 + LLa_q2 b0 b1
noncomputable def LLa_q4 (a2 : Int) (a3 : Int) : Rat :=
  ratOf a2 a3
noncomputable def LLa_q5 (b2 : Int) (b3 : Int) : Rat :=
  ratOf b2 b3
noncomputable def LLa_q6 (a2 : Int) (a3 : Int) (b2 : Int) (b3 : Int) : Rat :=
  LLa_q4 a2 a3 + LLa_q5 b2 b3
noncomputable def LLa_q7 (a4 : Int) (a5 : Int) : Rat :=
  ratOf a4 a5
noncomputable def LLa_q8 (b4 : Int) (b5 : Int) : Rat :=
  ratOf b4 b5
noncomputable def LLa_q9 (a4 : Int) (a5 : Int) (b4 : Int) (b5 : Int) : Rat :=
  LLa_q7 a4 a5 + LLa_q8 b4 b5
noncomputable def LLa_q10 (a6 : Int) (a7 : Int) : Rat :=
  ratOf a6 a7
noncomputable def LLa_q11 (b6 : Int) (b7 : Int) : Rat :=
  ratOf b6 b7
noncomputable def LLa_q12 (a6 : Int) (a7 : Int) (b6 : Int) (b7 : Int) : Rat :=
  LLa_q10 a6 a7 + LLa_q11 b6 b7
noncomputable def LLa (a0 a1 a2 a3 a4 a5 a6 a7 b0 b1 b2 b3 b4 b5 b6 b7 : Int) : Tree SV :=
  .need (true = true)
  (.need ((0 : Int) ≤ (0 : Int) ∧ (0 : Int) < (4 : Int))
   (.need (0 < 4)
   (.need ((0 : Int) ≤ (0 : Int) ∧ (0 : Int) < (4 : Int))
   (.need (0 < 4)
   (.need (VF a0 a1 ∧ VF b0 b1)
   (.ite (rE (LLa_q3 a0 a1 b0 b1) != (0 : Int))
   (.ret (SV.tup [SV.agg [iv (0 : Int), iv (0 : Int), iv (0 : Int), iv (0 : Int), iv (0 : Int), iv (0 : Int), iv (0 : Int), iv (0 : Int)], iv (rE (LLa_q3 a0 a1 b0 b1))]))
   (.need ((0 : Int) ≤ (0 : Int) ∧ (0 : Int) < (4 : Int))
   (.need (0 < 4)
   (.need (true = true)
   (.need ((0 : Int) ≤ (1 : Int) ∧ (1 : Int) < (4 : Int))
   (.need (1 < 4)
   (.need ((0 : Int) ≤ (1 : Int) ∧ (1 : Int) < (4 : Int))
   (.need (1 < 4)
   (.need (VF a2 a3 ∧ VF b2 b3)
   (.ite (rE (LLa_q6 a2 a3 b2 b3) != (0 : Int))
   (.ret (SV.tup [SV.agg [iv (0 : Int), iv (0 : Int), iv (0 : Int), iv (0 : Int), iv (0 : Int), iv (0 : Int), iv (0 : Int), iv (0 : Int)], iv (rE (LLa_q6 a2 a3 b2 b3))]))
   (.need ((0 : Int) ≤ (1 : Int) ∧ (1 : Int) < (4 : Int))
   (.need (1 < 4)
   (.need (true = true)
   (.need ((0 : Int) ≤ (2 : Int) ∧ (2 : Int) < (4 : Int))
   (.need (2 < 4)
   (.need ((0 : Int) ≤ (2 : Int) ∧ (2 : Int) < (4 : Int))
   (.need (2 < 4)
   (.need (VF a4 a5 ∧ VF b4 b5)
   (.ite (rE (LLa_q9 a4 a5 b4 b5) != (0 : Int))
   (.ret (SV.tup [SV.agg [iv (0 : Int), iv (0 : Int), iv (0 : Int), iv (0 : Int), iv (0 : Int), iv (0 : Int), iv (0 : Int), iv (0 : Int)], iv (rE (LLa_q9 a4 a5 b4 b5))]))
   (.need ((0 : Int) ≤ (2 : Int) ∧ (2 : Int) < (4 : Int))
   (.need (2 < 4)
   (.need (true = true)
   (.need ((0 : Int) ≤ (3 : Int) ∧ (3 : Int) < (4 : Int))
   (.need (3 < 4)
   (.need ((0 : Int) ≤ (3 : Int) ∧ (3 : Int) < (4 : Int))
   (.need (3 < 4)
   (.need (VF a6 a7 ∧ VF b6 b7)
   (.ite (rE (LLa_q12 a6 a7 b6 b7) != (0 : Int))
   (.ret
   (SV.tup
   [SV.agg [iv (0 : Int), iv (0 : Int), iv (0 : Int), iv (0 : Int), iv (0 : Int), iv (0 : Int), iv (0 : Int), iv (0 : Int)], iv (rE (LLa_q12 a6 a7 b6 b7))]))
   (.need ((0 : Int) ≤ (3 : Int) ∧ (3 : Int) < (4 : Int))
   (.need (3 < 4)
   (.need (false = false)
   (.need ((0 : Int) ≤ (0 : Int) ∧ (0 : Int) < (4 : Int))
   (.need (0 < 4)
   (.need ((0 : Int) ≤ (1 : Int) ∧ (1 : Int) < (4 : Int))
   (.need (1 < 4)
   (.need ((0 : Int) ≤ (2 : Int) ∧ (2 : Int) < (4 : Int))
   (.need (2 < 4)
   (.need ((0 : Int) ≤ (3 : Int) ∧ (3 : Int) < (4 : Int))
   (.need (3 < 4)
   (.ret
   (SV.tup
   [SV.agg
   [iv
   (bif false then rN (LLa_q12 a6 a7 b6 b7)
   else
   bif false then rN (LLa_q9 a4 a5 b4 b5)
   else bif false then rN (LLa_q6 a2 a3 b2 b3) else bif true then rN (LLa_q3 a0 a1 b0 b1) else (0 : Int)),
   iv
   (bif false then rD (LLa_q12 a6 a7 b6 b7)
   else
   bif false then rD (LLa_q9 a4 a5 b4 b5)
   else bif false then rD (LLa_q6 a2 a3 b2 b3) else bif true then rD (LLa_q3 a0 a1 b0 b1) else (0 : Int)),
   iv
   (bif false then rN (LLa_q12 a6 a7 b6 b7)
   else
   bif false then rN (LLa_q9 a4 a5 b4 b5)
   else bif true then rN (LLa_q6 a2 a3 b2 b3) else bif false then rN (LLa_q3 a0 a1 b0 b1) else (0 : Int)),
   iv
   (bif false then rD (LLa_q12 a6 a7 b6 b7)
   else
   bif false then rD (LLa_q9 a4 a5 b4 b5)
   else bif true then rD (LLa_q6 a2 a3 b2 b3) else bif false then rD (LLa_q3 a0 a1 b0 b1) else (0 : Int)),
   iv
   (bif false then rN (LLa_q12 a6 a7 b6 b7)
   else
   bif true then rN (LLa_q9 a4 a5 b4 b5)
   else bif false then rN (LLa_q6 a2 a3 b2 b3) else bif false then rN (LLa_q3 a0 a1 b0 b1) else (0 : Int)),
   iv
   (bif false then rD (LLa_q12 a6 a7 b6 b7)
   else
   bif true then rD (LLa_q9 a4 a5 b4 b5)
   else bif false then rD (LLa_q6 a2 a3 b2 b3) else bif false then rD (LLa_q3 a0 a1 b0 b1) else (0 : Int)),
   iv
   (bif true then rN (LLa_q12 a6 a7 b6 b7)
   else
   bif false then rN (LLa_q9 a4 a5 b4 b5)
   else bif false then rN (LLa_q6 a2 a3 b2 b3) else bif false then rN (LLa_q3 a0 a1 b0 b1) else (0 : Int)),
   iv
   (bif true then rD (LLa_q12 a6 a7 b6 b7)
   else
   bif false then rD (LLa_q9 a4 a5 b4 b5)
   else bif false then rD (LLa_q6 a2 a3 b2 b3) else bif false then rD (LLa_q3 a0 a1 b0 b1) else (0 : Int))],
   iv (0 : Int)]))))))))))))))))))))))))))))))))))))))))))))))

theorem LLa_eq (a0 a1 a2 a3 a4 a5 a6 a7 b0 b1 b2 b3 b4 b5 b6 b7 : Int) : TG (eachH 4) 131 [.agg [iv a0, iv a1, iv a2, iv a3, iv a4, iv a5, iv a6, iv a7], .agg [iv b0, iv b1, iv b2, iv b3, iv b4, iv b5, iv b6, iv b7]] = LLa a0 a1 a2 a3 a4 a5 a6 a7 b0 b1 b2 b3 b4 b5 b6 b7 := by kernel_rfl

noncomputable def LLn (a b c d e f g h i j k l : Int) : Tree SV :=
  .need (true = true)
  (.need ((0 : Int) ≤ (0 : Int) ∧ (0 : Int) < (4 : Int))
   (.need (0 < 4)
   (.ite (c != (0 : Int)) (.ret (SV.agg [iv (0 : Int), iv (0 : Int), iv (0 : Int), iv (0 : Int), iv (0 : Int), iv (0 : Int), iv (0 : Int), iv (0 : Int), iv (2 : Int)]))
   (.need (true = true)
   (.need ((0 : Int) ≤ (1 : Int) ∧ (1 : Int) < (4 : Int))
   (.need (1 < 4)
   (.ite (f != (0 : Int)) (.ret (SV.agg [iv (0 : Int), iv (0 : Int), iv (0 : Int), iv (0 : Int), iv (0 : Int), iv (0 : Int), iv (0 : Int), iv (0 : Int), iv (2 : Int)]))
   (.need (true = true)
   (.need ((0 : Int) ≤ (2 : Int) ∧ (2 : Int) < (4 : Int))
   (.need (2 < 4)
   (.ite (i != (0 : Int)) (.ret (SV.agg [iv (0 : Int), iv (0 : Int), iv (0 : Int), iv (0 : Int), iv (0 : Int), iv (0 : Int), iv (0 : Int), iv (0 : Int), iv (2 : Int)]))
   (.need (true = true)
   (.need ((0 : Int) ≤ (3 : Int) ∧ (3 : Int) < (4 : Int))
   (.need (3 < 4)
   (.ite (l != (0 : Int)) (.ret (SV.agg [iv (0 : Int), iv (0 : Int), iv (0 : Int), iv (0 : Int), iv (0 : Int), iv (0 : Int), iv (0 : Int), iv (0 : Int), iv (2 : Int)]))
   (.need (false = false)
   (.need ((0 : Int) ≤ (0 : Int) ∧ (0 : Int) < (4 : Int))
   (.need (0 < 4)
   (.need ((0 : Int) ≤ (1 : Int) ∧ (1 : Int) < (4 : Int))
   (.need (1 < 4)
   (.need ((0 : Int) ≤ (2 : Int) ∧ (2 : Int) < (4 : Int))
   (.need (2 < 4)
   (.need ((0 : Int) ≤ (3 : Int) ∧ (3 : Int) < (4 : Int))
   (.need (3 < 4) (.ret (SV.agg [iv a, iv b, iv d, iv e, iv g, iv h, iv j, iv k, iv (0 : Int)]))))))))))))))))))))))))))

theorem LLn_eq (a b c d e f g h i j k l : Int) : TG (eachH 4) 139 [.agg [iv a, iv b, iv c, iv d, iv e, iv f, iv g, iv h, iv i, iv j, iv k, iv l]] = LLn a b c d e f g h i j k l := by kernel_rfl

noncomputable def LLs_q1 (a0 : Int) (a1 : Int) : Rat :=
  ratOf a0 a1
noncomputable def LLs_q2 (b0 : Int) (b1 : Int) : Rat :=
  ratOf b0 b1
noncomputable def LLs_q3 (a0 : Int) (a1 : Int) (b0 : Int) (b1 : Int) : Rat :=
  LLs_q1 a0 a1 * LLs_q2 b0 b1
noncomputable def LLs_q4 (a2 : Int) (a3 : Int) : Rat :=
  ratOf a2 a3
noncomputable def LLs_q5 (a2 : Int) (a3 : Int) (b0 : Int) (b1 : Int) : Rat :=
  LLs_q4 a2 a3 * LLs_q2 b0 b1
noncomputable def LLs_q6 (a4 : Int) (a5 : Int) : Rat :=
  ratOf a4 a5
noncomputable def LLs_q7 (a4 : Int) (a5 : Int) (b0 : Int) (b1 : Int) : Rat :=
  LLs_q6 a4 a5 * LLs_q2 b0 b1
noncomputable def LLs_q8 (a6 : Int) (a7 : Int) : Rat :=
  ratOf a6 a7
noncomputable def LLs_q9 (a6 : Int) (a7 : Int) (b0 : Int) (b1 : Int) : Rat :=
  LLs_q8 a6 a7 * LLs_q2 b0 b1
noncomputable def LLs (a0 a1 a2 a3 a4 a5 a6 a7 b0 b1 : Int) : Tree SV :=
  .need (true = true)
  (.need ((0 : Int) ≤ (0 : Int) ∧ (0 : Int) < (4 : Int))
   (.need (0 < 4)
   (.need ((0 : Int) ≤ (0 : Int) ∧ (0 : Int) < (4 : Int))
   (.need (0 < 4)
   (.need (VF a0 a1 ∧ VF b0 b1)
   (.ite (rE (LLs_q3 a0 a1 b0 b1) != (0 : Int))
   (.ret (SV.tup [SV.agg [iv (0 : Int), iv (0 : Int), iv (0 : Int), iv (0 : Int), iv (0 : Int), iv (0 : Int), iv (0 : Int), iv (0 : Int)], iv (rE (LLs_q3 a0 a1 b0 b1))]))
   (.need ((0 : Int) ≤ (0 : Int) ∧ (0 : Int) < (4 : Int))
   (.need (0 < 4)
   (.need (true = true)
   (.need ((0 : Int) ≤ (1 : Int) ∧ (1 : Int) < (4 : Int))
   (.need (1 < 4)
   (.need ((0 : Int) ≤ (1 : Int) ∧ (1 : Int) < (4 : Int))
   (.need (1 < 4)
   (.need (VF a2 a3 ∧ VF b0 b1)
   (.ite (rE (LLs_q5 a2 a3 b0 b1) != (0 : Int))
   (.ret (SV.tup [SV.agg [iv (0 : Int), iv (0 : Int), iv (0 : Int), iv (0 : Int), iv (0 : Int), iv (0 : Int), iv (0 : Int), iv (0 : Int)], iv (rE (LLs_q5 a2 a3 b0 b1))]))
   (.need ((0 : Int) ≤ (1 : Int) ∧ (1 : Int) < (4 : Int))
   (.need (1 < 4)
   (.need (true = true)
   (.need ((0 : Int) ≤ (2 : Int) ∧ (2 : Int) < (4 : Int))
   (.need (2 < 4)
   (.need ((0 : Int) ≤ (2 : Int) ∧ (2 : Int) < (4 : Int))
   (.need (2 < 4)
   (.need (VF a4 a5 ∧ VF b0 b1)
   (.ite (rE (LLs_q7 a4 a5 b0 b1) != (0 : Int))
   (.ret (SV.tup [SV.agg [iv (0 : Int), iv (0 : Int), iv (0 : Int), iv (0 : Int), iv (0 : Int), iv (0 : Int), iv (0 : Int), iv (0 : Int)], iv (rE (LLs_q7 a4 a5 b0 b1))]))
   (.need ((0 : Int) ≤ (2 : Int) ∧ (2 : Int) < (4 : Int))
   (.need (2 < 4)
   (.need (true = true)
   (.need ((0 : Int) ≤ (3 : Int) ∧ (3 : Int) < (4 : Int))
   (.need (3 < 4)
   (.need ((0 : Int) ≤ (3 : Int) ∧ (3 : Int) < (4 : Int))
   (.need (3 < 4)
   (.need (VF a6 a7 ∧ VF b0 b1)
   (.ite (rE (LLs_q9 a6 a7 b0 b1) != (0 : Int))
   (.ret
   (SV.tup
   [SV.agg [iv (0 : Int), iv (0 : Int), iv (0 : Int), iv (0 : Int), iv (0 : Int), iv (0 : Int), iv (0 : Int), iv (0 : Int)], iv (rE (LLs_q9 a6 a7 b0 b1))]))
   (.need ((0 : Int) ≤ (3 : Int) ∧ (3 : Int) < (4 : Int))
   (.need (3 < 4)
   (.need (false = false)
   (.need ((0 : Int) ≤ (0 : Int) ∧ (0 : Int) < (4 : Int))
   (.need (0 < 4)
   (.need ((0 : Int) ≤ (1 : Int) ∧ (1 : Int) < (4 : Int))
   (.need (1 < 4)
   (.need ((0 : Int) ≤ (2 : Int) ∧ (2 : Int) < (4 : Int))
   (.need (2 < 4)
   (.need ((0 : Int) ≤ (3 : Int) ∧ (3 : Int) < (4 : Int))
   (.need (3 < 4)
   (.ret
   (SV.tup
   [SV.agg
   [iv
   (bif false then rN (LLs_q9 a6 a7 b0 b1)
   else
   bif false then rN (LLs_q7 a4 a5 b0 b1)
   else bif false then rN (LLs_q5 a2 a3 b0 b1) else bif true then rN (LLs_q3 a0 a1 b0 b1) else (0 : Int)),
   iv
   (bif false then rD (LLs_q9 a6 a7 b0 b1)
   else
   bif false then rD (LLs_q7 a4 a5 b0 b1)
   else bif false then rD (LLs_q5 a2 a3 b0 b1) else bif true then rD (LLs_q3 a0 a1 b0 b1) else (0 : Int)),
   iv
   (bif false then rN (LLs_q9 a6 a7 b0 b1)
   else
   bif false then rN (LLs_q7 a4 a5 b0 b1)
   else bif true then rN (LLs_q5 a2 a3 b0 b1) else bif false then rN (LLs_q3 a0 a1 b0 b1) else (0 : Int)),
   iv
   (bif false then rD (LLs_q9 a6 a7 b0 b1)
   else
   bif false then rD (LLs_q7 a4 a5 b0 b1)
   else bif true then rD (LLs_q5 a2 a3 b0 b1) else bif false then rD (LLs_q3 a0 a1 b0 b1) else (0 : Int)),
   iv
   (bif false then rN (LLs_q9 a6 a7 b0 b1)
   else
   bif true then rN (LLs_q7 a4 a5 b0 b1)
   else bif false then rN (LLs_q5 a2 a3 b0 b1) else bif false then rN (LLs_q3 a0 a1 b0 b1) else (0 : Int)),
   iv
   (bif false then rD (LLs_q9 a6 a7 b0 b1)
   else
   bif true then rD (LLs_q7 a4 a5 b0 b1)
   else bif false then rD (LLs_q5 a2 a3 b0 b1) else bif false then rD (LLs_q3 a0 a1 b0 b1) else (0 : Int)),
   iv
   (bif true then rN (LLs_q9 a6 a7 b0 b1)
   else
   bif false then rN (LLs_q7 a4 a5 b0 b1)
   else bif false then rN (LLs_q5 a2 a3 b0 b1) else bif false then rN (LLs_q3 a0 a1 b0 b1) else (0 : Int)),
   iv
   (bif true then rD (LLs_q9 a6 a7 b0 b1)
   else
   bif false then rD (LLs_q7 a4 a5 b0 b1)
   else bif false then rD (LLs_q5 a2 a3 b0 b1) else bif false then rD (LLs_q3 a0 a1 b0 b1) else (0 : Int))],
   iv (0 : Int)]))))))))))))))))))))))))))))))))))))))))))))))

theorem LLs_eq (a0 a1 a2 a3 a4 a5 a6 a7 b0 b1 : Int) : TG (eachH 4) 117 [.agg [iv a0, iv a1, iv a2, iv a3, iv a4, iv a5, iv a6, iv a7], .agg [iv b0, iv b1]] = LLs a0 a1 a2 a3 a4 a5 a6 a7 b0 b1 := by kernel_rfl

noncomputable def LVa (a0 a1 a2 a3 a4 a5 a6 a7 : Int) : Tree SV :=
  .need (True ∧ True)
  (.need (true = true)
   (.need ((0 : Int) ≤ (0 : Int) ∧ (0 : Int) < (4 : Int))
   (.need (0 < 4)
   (.ite (!vB a0 a1) (.ret (bv false))
   (.need (true = true)
   (.need ((0 : Int) ≤ (1 : Int) ∧ (1 : Int) < (4 : Int))
   (.need (1 < 4)
   (.ite (!vB a2 a3) (.ret (bv false))
   (.need (true = true)
   (.need ((0 : Int) ≤ (2 : Int) ∧ (2 : Int) < (4 : Int))
   (.need (2 < 4)
   (.ite (!vB a4 a5) (.ret (bv false))
   (.need (true = true)
   (.need ((0 : Int) ≤ (3 : Int) ∧ (3 : Int) < (4 : Int)) (.need (3 < 4) (.ite (!vB a6 a7) (.ret (bv false)) (.need (false = false) (.ret (bv true)))))))))))))))))))

theorem LVa_eq (a0 a1 a2 a3 a4 a5 a6 a7 : Int) : TG (eachH 4) 57 [.agg [iv a0, iv a1, iv a2, iv a3, iv a4, iv a5, iv a6, iv a7]] = LVa a0 a1 a2 a3 a4 a5 a6 a7 := by kernel_rfl

noncomputable def LVaR (a0 a1 a2 a3 a4 a5 a6 a7 : Int) : Tree SV :=
  .ret (bv (vB a0 a1 && vB a2 a3 && vB a4 a5 && vB a6 a7))

theorem LVaR_eq (a0 a1 a2 a3 a4 a5 a6 a7 : Int) : TG .nil 46 [.agg [iv a0, iv a1, iv a2, iv a3, iv a4, iv a5, iv a6, iv a7]] = LVaR a0 a1 a2 a3 a4 a5 a6 a7 := by kernel_rfl

noncomputable def LVx_q1 (a0 : Int) (a1 : Int) : Rat :=
  ratOf a0 a1
noncomputable def LVx_q2 (a2 : Int) (a3 : Int) : Rat :=
  ratOf a2 a3
noncomputable def LVx_q3 (b0 : Int) (b1 : Int) : Rat :=
  ratOf b0 b1
noncomputable def LVx_q4 (b2 : Int) (b3 : Int) : Rat :=
  ratOf b2 b3
noncomputable def LVx_q5 (c0 : Int) (c1 : Int) : Rat :=
  ratOf c0 c1
noncomputable def LVx_q6 (c2 : Int) (c3 : Int) : Rat :=
  ratOf c2 c3
noncomputable def LVx (a0 a1 a2 a3 b0 b1 b2 b3 c0 c1 c2 c3 : Int) : Tree SV :=
  .need (True ∧ True)
  (.need (true = true)
   (.need ((0 : Int) ≤ (0 : Int) ∧ (0 : Int) < (3 : Int))
   (.need (0 < 3)
   (.ite (!(vB a0 a1 && vB a2 a3 && decide (LVx_q1 a0 a1 ≤ LVx_q2 a2 a3))) (.ret (bv false))
   (.need (true = true)
   (.need ((0 : Int) ≤ (1 : Int) ∧ (1 : Int) < (3 : Int))
   (.need (1 < 3)
   (.ite (!(vB b0 b1 && vB b2 b3 && decide (LVx_q3 b0 b1 ≤ LVx_q4 b2 b3))) (.ret (bv false))
   (.need (true = true)
   (.need ((0 : Int) ≤ (2 : Int) ∧ (2 : Int) < (3 : Int))
   (.need (2 < 3) (.ite (!(vB c0 c1 && vB c2 c3 && decide (LVx_q5 c0 c1 ≤ LVx_q6 c2 c3))) (.ret (bv false)) (.need (false = false) (.ret (bv true)))))))))))))))

theorem LVx_eq (a0 a1 a2 a3 b0 b1 b2 b3 c0 c1 c2 c3 : Int) : TG (eachH 3) 58 [.agg [iv a0, iv a1, iv a2, iv a3, iv b0, iv b1, iv b2, iv b3, iv c0, iv c1, iv c2, iv c3]] = LVx a0 a1 a2 a3 b0 b1 b2 b3 c0 c1 c2 c3 := by kernel_rfl

noncomputable def LVxR_q1 (a0 : Int) (a1 : Int) : Rat :=
  ratOf a0 a1
noncomputable def LVxR_q2 (a2 : Int) (a3 : Int) : Rat :=
  ratOf a2 a3
noncomputable def LVxR_q3 (b0 : Int) (b1 : Int) : Rat :=
  ratOf b0 b1
noncomputable def LVxR_q4 (b2 : Int) (b3 : Int) : Rat :=
  ratOf b2 b3
noncomputable def LVxR_q5 (c0 : Int) (c1 : Int) : Rat :=
  ratOf c0 c1
noncomputable def LVxR_q6 (c2 : Int) (c3 : Int) : Rat :=
  ratOf c2 c3
noncomputable def LVxR (a0 a1 a2 a3 b0 b1 b2 b3 c0 c1 c2 c3 : Int) : Tree SV :=
  .ret
  (bv
   (vB a0 a1 && vB a2 a3 && decide (LVxR_q1 a0 a1 ≤ LVxR_q2 a2 a3) && (vB b0 b1 && vB b2 b3 && decide (LVxR_q3 b0 b1 ≤ LVxR_q4 b2 b3)) &&
   (vB c0 c1 && vB c2 c3 && decide (LVxR_q5 c0 c1 ≤ LVxR_q6 c2 c3))))

theorem LVxR_eq (a0 a1 a2 a3 b0 b1 b2 b3 c0 c1 c2 c3 : Int) : TG .nil 59 [.agg [iv a0, iv a1, iv a2, iv a3, iv b0, iv b1, iv b2, iv b3, iv c0, iv c1, iv c2, iv c3]] = LVxR a0 a1 a2 a3 b0 b1 b2 b3 c0 c1 c2 c3 := by kernel_rfl


end Go.Proofs.Ytpaejfeojdoikaa

namespace Go.Proofs.Ytpaejfeojdoikaa
open Go.Sx
set_option maxRecDepth 100000

/-! ### Functions of four coefficients -/
noncomputable def quad : Option Rat → Option Rat → Option Rat → Option Rat → Option (Rat × Rat × Rat × Rat)
  | some a, some b, some c, some d => some (a, b, c, d)
  | _, _, _, _ => none
noncomputable def k0 (o : Option (Rat × Rat × Rat × Rat)) : Option Rat := o.map fun x => x.1
noncomputable def k1 (o : Option (Rat × Rat × Rat × Rat)) : Option Rat := o.map fun x => x.2.1
noncomputable def k2 (o : Option (Rat × Rat × Rat × Rat)) : Option Rat := o.map fun x => x.2.2.1
noncomputable def k3 (o : Option (Rat × Rat × Rat × Rat)) : Option Rat := o.map fun x => x.2.2.2
noncomputable def lnI (b : Bool) (x : Int) : Int := bif b then x else 0
structure VL (a0 a1 a2 a3 a4 a5 a6 a7 : Int) : Prop where
  k : VF a0 a1
  t : VF a2 a3
  v : VF a4 a5
  a : VF a6 a7

noncomputable def cLn : Ctr := fun ss => match ss with
  | [.agg l] => match intsOf .i64 l with
    | some [a, b, c, d, e, f, g, h, i, j, k, l] => .ret (.agg [iv (lnI (c == 0 && f == 0 && i == 0 && l == 0) a), iv (lnI (c == 0 && f == 0 && i == 0 && l == 0) b), iv (lnI (c == 0 && f == 0 && i == 0 && l == 0) d), iv (lnI (c == 0 && f == 0 && i == 0 && l == 0) e),
        iv (lnI (c == 0 && f == 0 && i == 0 && l == 0) g), iv (lnI (c == 0 && f == 0 && i == 0 && l == 0) h), iv (lnI (c == 0 && f == 0 && i == 0 && l == 0) j), iv (lnI (c == 0 && f == 0 && i == 0 && l == 0) k), iv (bif (c == 0 && f == 0 && i == 0 && l == 0) then 0 else 2)])
    | _ => .fail
  | _ => .fail
theorem ne0 {a : Int} {b : Bool} : ((a != 0) = b) = ((a == 0) = !b) := by
  apply propext; cases h : (a == 0) <;> cases b <;> simp [bne, h]
theorem cLn_ok : CtrOK Try.prog 139 cLn := by
  refine ctrOK_leS CG_ok DG_ok (by kernel_rfl) (by kernel_rfl) fun ss r hh => ?_
  unfold cLn at hh
  split at hh
  · split at hh
    · rename_i a b c d e f g h i j k l e1
      obtain rfl := hh
      rw [intsOf_eq e1]
      refine ⟨_, 200, eachH 4, by simp [leSVs, leSV, iv, leD], Sat.of_eq (LLn_eq a b c d e f g h i j k l) ⟨?_⟩⟩
      unfold LLn
      simp only [sat_need, sat_ite, sat_ret, ne0]
      cases h1 : (c == 0) <;> cases h2 : (f == 0) <;> cases h3 : (i == 0) <;> cases h4 : (l == 0) <;> simp [lnI]
    · exact hh.elim
  · exact hh.elim

noncomputable def cVal : Ctr := fun ss => match ss with
  | [.agg l] => match intsOf .i64 l with
    | some [a0, a1, a2, a3, a4, a5, a6, a7] => .ret (bv (vB a0 a1 && vB a2 a3 && vB a4 a5 && vB a6 a7))
    | _ => .fail
  | _ => .fail
theorem cVal_ok : CtrOK Try.prog 57 cVal := by
  refine ctrOK_leS CG_ok DG_ok (by kernel_rfl) (by kernel_rfl) fun ss r hh => ?_
  unfold cVal at hh
  split at hh
  · split at hh
    · rename_i a0 a1 a2 a3 a4 a5 a6 a7 e1
      obtain rfl := hh
      rw [intsOf_eq e1]
      refine ⟨_, 200, eachH 4, by simp [leSVs, leSV, iv, leD], Sat.of_eq (LVa_eq a0 a1 a2 a3 a4 a5 a6 a7) ⟨?_⟩⟩
      unfold LVa
      simp only [sat_need, sat_ite, sat_ret]
      cases h1 : vB a0 a1 <;> cases h2 : vB a2 a3 <;> cases h3 : vB a4 a5 <;> cases h4 : vB a6 a7 <;> simp
    · exact hh.elim
  · exact hh.elim
theorem cValR'_ok : CtrOK Try.prog 46 cVal := by
  refine ctrOK_leS CG_ok DG_ok (by kernel_rfl) (by kernel_rfl) fun ss r hh => ?_
  unfold cVal at hh
  split at hh
  · split at hh
    · rename_i a0 a1 a2 a3 a4 a5 a6 a7 e1
      obtain rfl := hh
      rw [intsOf_eq e1]
      exact ⟨_, 200, .nil, by simp [leSVs, leSV, iv, leD], Sat.of_eq (LVaR_eq a0 a1 a2 a3 a4 a5 a6 a7) ⟨rfl⟩⟩
    · exact hh.elim
  · exact hh.elim
noncomputable def viB (a b c d : Int) : Bool := vB a b && vB c d && decide (ratOf a b ≤ ratOf c d)
noncomputable def cVbx : Ctr := fun ss => match ss with
  | [.agg l] => match intsOf .i64 l with
    | some [a0, a1, a2, a3, b0, b1, b2, b3, c0, c1, c2, c3] => .ret (bv (viB a0 a1 a2 a3 && viB b0 b1 b2 b3 && viB c0 c1 c2 c3))
    | _ => .fail
  | _ => .fail
theorem cVbx_ok : CtrOK Try.prog 58 cVbx := by
  refine ctrOK_leS CG_ok DG_ok (by kernel_rfl) (by kernel_rfl) fun ss r hh => ?_
  unfold cVbx at hh
  split at hh
  · split at hh
    · rename_i a0 a1 a2 a3 b0 b1 b2 b3 c0 c1 c2 c3 e1
      obtain rfl := hh
      rw [intsOf_eq e1]
      refine ⟨_, 200, eachH 3, by simp [leSVs, leSV, iv, leD], Sat.of_eq (LVx_eq a0 a1 a2 a3 b0 b1 b2 b3 c0 c1 c2 c3) ⟨?_⟩⟩
      unfold LVx
      simp only [sat_need, sat_ite, sat_ret]
      rw [show viB a0 a1 a2 a3 = (vB a0 a1 && vB a2 a3 && decide (LVx_q1 a0 a1 ≤ LVx_q2 a2 a3)) from rfl, show viB b0 b1 b2 b3 = (vB b0 b1 && vB b2 b3 && decide (LVx_q3 b0 b1 ≤ LVx_q4 b2 b3)) from rfl, show viB c0 c1 c2 c3 = (vB c0 c1 && vB c2 c3 && decide (LVx_q5 c0 c1 ≤ LVx_q6 c2 c3)) from rfl]
      generalize (vB a0 a1 && vB a2 a3 && decide (LVx_q1 a0 a1 ≤ LVx_q2 a2 a3)) = x
      generalize (vB b0 b1 && vB b2 b3 && decide (LVx_q3 b0 b1 ≤ LVx_q4 b2 b3)) = y
      generalize (vB c0 c1 && vB c2 c3 && decide (LVx_q5 c0 c1 ≤ LVx_q6 c2 c3)) = z
      cases x <;> cases y <;> cases z <;> simp
    · exact hh.elim
  · exact hh.elim
theorem cVbxR_ok : CtrOK Try.prog 59 cVbx := by
  refine ctrOK_leS CG_ok DG_ok (by kernel_rfl) (by kernel_rfl) fun ss r hh => ?_
  unfold cVbx at hh
  split at hh
  · split at hh
    · rename_i a0 a1 a2 a3 b0 b1 b2 b3 c0 c1 c2 c3 e1
      obtain rfl := hh
      rw [intsOf_eq e1]
      exact ⟨_, 200, .nil, by simp [leSVs, leSV, iv, leD], Sat.of_eq (LVxR_eq a0 a1 a2 a3 b0 b1 b2 b3 c0 c1 c2 c3) ⟨rfl⟩⟩
    · exact hh.elim
  · exact hh.elim

/-- The sum of two functions, and a multiple of one. -/
noncomputable def addO (a b c d e f g h : Rat) : Option (Rat × Rat × Rat × Rat) := quad (fit (a + e)) (fit (b + f)) (fit (c + g)) (fit (d + h))
noncomputable def sclO (a b c d e : Rat) : Option (Rat × Rat × Rat × Rat) := quad (fit (a * e)) (fit (b * e)) (fit (c * e)) (fit (d * e))
noncomputable def cLa : Ctr := fun ss => match ss with
  | [.agg l, .agg m] => match intsOf .i64 l, intsOf .i64 m with
    | some [a0, a1, a2, a3, a4, a5, a6, a7], some [b0, b1, b2, b3, b4, b5, b6, b7] => .need (VL a0 a1 a2 a3 a4 a5 a6 a7 ∧ VL b0 b1 b2 b3 b4 b5 b6 b7)
      (.ret (.tup [.agg [iv (oN (k0 (addO (ratOf a0 a1) (ratOf a2 a3) (ratOf a4 a5) (ratOf a6 a7) (ratOf b0 b1) (ratOf b2 b3) (ratOf b4 b5) (ratOf b6 b7)))), iv (oD (k0 (addO (ratOf a0 a1) (ratOf a2 a3) (ratOf a4 a5) (ratOf a6 a7) (ratOf b0 b1) (ratOf b2 b3) (ratOf b4 b5) (ratOf b6 b7)))),
        iv (oN (k1 (addO (ratOf a0 a1) (ratOf a2 a3) (ratOf a4 a5) (ratOf a6 a7) (ratOf b0 b1) (ratOf b2 b3) (ratOf b4 b5) (ratOf b6 b7)))), iv (oD (k1 (addO (ratOf a0 a1) (ratOf a2 a3) (ratOf a4 a5) (ratOf a6 a7) (ratOf b0 b1) (ratOf b2 b3) (ratOf b4 b5) (ratOf b6 b7)))),
        iv (oN (k2 (addO (ratOf a0 a1) (ratOf a2 a3) (ratOf a4 a5) (ratOf a6 a7) (ratOf b0 b1) (ratOf b2 b3) (ratOf b4 b5) (ratOf b6 b7)))), iv (oD (k2 (addO (ratOf a0 a1) (ratOf a2 a3) (ratOf a4 a5) (ratOf a6 a7) (ratOf b0 b1) (ratOf b2 b3) (ratOf b4 b5) (ratOf b6 b7)))),
        iv (oN (k3 (addO (ratOf a0 a1) (ratOf a2 a3) (ratOf a4 a5) (ratOf a6 a7) (ratOf b0 b1) (ratOf b2 b3) (ratOf b4 b5) (ratOf b6 b7)))), iv (oD (k3 (addO (ratOf a0 a1) (ratOf a2 a3) (ratOf a4 a5) (ratOf a6 a7) (ratOf b0 b1) (ratOf b2 b3) (ratOf b4 b5) (ratOf b6 b7))))],
        iv (oE (addO (ratOf a0 a1) (ratOf a2 a3) (ratOf a4 a5) (ratOf a6 a7) (ratOf b0 b1) (ratOf b2 b3) (ratOf b4 b5) (ratOf b6 b7)))]))
    | _, _ => .fail
  | _ => .fail
theorem rE_iff {r : Rat} : ((rE r != 0) = true) = ¬ fitsR r := by
  apply propext; by_cases h : fitsR r
  · simp [rE_of h, h]
  · simp [rE_no h, h]
theorem rE_iff' {r : Rat} : ((rE r != 0) = false) = fitsR r := by
  apply propext; by_cases h : fitsR r
  · simp [rE_of h, h]
  · simp [rE_no h, h]
theorem cLa_ok : CtrOK Try.prog 131 cLa := by
  refine ctrOK_leS CG_ok DG_ok (by kernel_rfl) (by kernel_rfl) fun ss r hh => ?_
  unfold cLa at hh
  split at hh
  · split at hh
    · rename_i a0 a1 a2 a3 a4 a5 a6 a7 b0 b1 b2 b3 b4 b5 b6 b7 e1 e2
      obtain ⟨⟨x, y⟩, rfl⟩ := hh
      rw [intsOf_eq e1, intsOf_eq e2]
      refine ⟨_, 200, eachH 4, by simp [leSVs, leSV, iv, leD], Sat.of_eq (LLa_eq a0 a1 a2 a3 a4 a5 a6 a7 b0 b1 b2 b3 b4 b5 b6 b7) ⟨?_⟩⟩
      unfold LLa
      simp only [LLa_q1, LLa_q2, LLa_q3, LLa_q4, LLa_q5, LLa_q6, LLa_q7, LLa_q8, LLa_q9, LLa_q10, LLa_q11, LLa_q12]
      unfold addO
      have vk := x.k; have vt := x.t; have vv := x.v; have va := x.a
      have wk := y.k; have wt := y.t; have wv := y.v; have wa := y.a
      generalize ratOf a0 a1 + ratOf b0 b1 = p
      generalize ratOf a2 a3 + ratOf b2 b3 = q
      generalize ratOf a4 a5 + ratOf b4 b5 = r
      generalize ratOf a6 a7 + ratOf b6 b7 = s
      simp only [sat_need, sat_ite, sat_ret, rE_iff, rE_iff', vk, vt, vv, va, wk, wt, wv, wa, true_and, and_true]
      by_cases h0 : fitsR p <;> by_cases h1 : fitsR q <;> by_cases h2 : fitsR r <;> by_cases h3 : fitsR s <;> simp [fit, rN, rD, rE, quad, k0, k1, k2, k3, oN, oD, oE, h0, h1, h2, h3]
    · exact hh.elim
  · exact hh.elim
noncomputable def cLs : Ctr := fun ss => match ss with
  | [.agg l, .agg [.d (.x (.int .i64 b0)), .d (.x (.int .i64 b1))]] => match intsOf .i64 l with
    | some [a0, a1, a2, a3, a4, a5, a6, a7] => .need (VL a0 a1 a2 a3 a4 a5 a6 a7 ∧ VF b0 b1)
      (.ret (.tup [.agg [iv (oN (k0 (sclO (ratOf a0 a1) (ratOf a2 a3) (ratOf a4 a5) (ratOf a6 a7) (ratOf b0 b1)))), iv (oD (k0 (sclO (ratOf a0 a1) (ratOf a2 a3) (ratOf a4 a5) (ratOf a6 a7) (ratOf b0 b1)))),
        iv (oN (k1 (sclO (ratOf a0 a1) (ratOf a2 a3) (ratOf a4 a5) (ratOf a6 a7) (ratOf b0 b1)))), iv (oD (k1 (sclO (ratOf a0 a1) (ratOf a2 a3) (ratOf a4 a5) (ratOf a6 a7) (ratOf b0 b1)))),
        iv (oN (k2 (sclO (ratOf a0 a1) (ratOf a2 a3) (ratOf a4 a5) (ratOf a6 a7) (ratOf b0 b1)))), iv (oD (k2 (sclO (ratOf a0 a1) (ratOf a2 a3) (ratOf a4 a5) (ratOf a6 a7) (ratOf b0 b1)))),
        iv (oN (k3 (sclO (ratOf a0 a1) (ratOf a2 a3) (ratOf a4 a5) (ratOf a6 a7) (ratOf b0 b1)))), iv (oD (k3 (sclO (ratOf a0 a1) (ratOf a2 a3) (ratOf a4 a5) (ratOf a6 a7) (ratOf b0 b1))))],
        iv (oE (sclO (ratOf a0 a1) (ratOf a2 a3) (ratOf a4 a5) (ratOf a6 a7) (ratOf b0 b1)))]))
    | _ => .fail
  | _ => .fail
theorem cLs_ok : CtrOK Try.prog 117 cLs := by
  refine ctrOK_leS CG_ok DG_ok (by kernel_rfl) (by kernel_rfl) fun ss r hh => ?_
  unfold cLs at hh
  split at hh
  · rename_i b0 b1
    split at hh
    · rename_i a0 a1 a2 a3 a4 a5 a6 a7 e1
      obtain ⟨⟨x, wk⟩, rfl⟩ := hh
      rw [intsOf_eq e1]
      refine ⟨[_, .agg [iv b0, iv b1]], 200, eachH 4, by simp [leSVs, leSV, iv, leD], Sat.of_eq (LLs_eq a0 a1 a2 a3 a4 a5 a6 a7 b0 b1) ⟨?_⟩⟩
      unfold LLs
      simp only [LLs_q1, LLs_q2, LLs_q3, LLs_q4, LLs_q5, LLs_q6, LLs_q7, LLs_q8, LLs_q9]
      unfold sclO
      have vk := x.k; have vt := x.t; have vv := x.v; have va := x.a
      generalize ratOf a0 a1 * ratOf b0 b1 = p
      generalize ratOf a2 a3 * ratOf b0 b1 = q
      generalize ratOf a4 a5 * ratOf b0 b1 = r
      generalize ratOf a6 a7 * ratOf b0 b1 = s
      simp only [sat_need, sat_ite, sat_ret, rE_iff, rE_iff', vk, vt, vv, va, wk, true_and, and_true]
      by_cases h0 : fitsR p <;> by_cases h1 : fitsR q <;> by_cases h2 : fitsR r <;> by_cases h3 : fitsR s <;> simp [fit, rN, rD, rE, quad, k0, k1, k2, k3, oN, oD, oE, h0, h1, h2, h3]
    · exact hh.elim
  · exact hh.elim

noncomputable def manH : FuncId → Option Ctr := fun k => match k with
  | 139 => some cLn
  | 57 => some cVal
  | 46 => some cVal
  | 58 => some cVbx
  | 59 => some cVbx
  | 131 => some cLa
  | 117 => some cLs
  | k => manF k
theorem manH_ok (k : Nat) (c : Ctr) (h : manH k = some c) : CtrOK Try.prog k c ∧ goodF Try.prog k = true := by
  unfold manH at h
  split at h
  · cases h; exact ⟨cLn_ok, by kernel_rfl⟩
  · cases h; exact ⟨cVal_ok, by kernel_rfl⟩
  · cases h; exact ⟨cValR'_ok, by kernel_rfl⟩
  · cases h; exact ⟨cVbx_ok, by kernel_rfl⟩
  · cases h; exact ⟨cVbxR_ok, by kernel_rfl⟩
  · cases h; exact ⟨cLa_ok, by kernel_rfl⟩
  · cases h; exact ⟨cLs_ok, by kernel_rfl⟩
  · exact manF_ok _ _ h
noncomputable def CH : Ctx := ctxN Try.prog manH (fun _ => false) 200 .nil 6
theorem CH_ok : CtxOK Try.prog CH := ctxN_ok mixed manH_ok 6
noncomputable def DH : Dr := fun _ => drawn Try.prog CH
theorem DH_ok : DrOK Try.prog CH DH := drawn_ok CH_ok mixed
noncomputable def TH (h : Hint) (k : Nat) (args : List SV) : Tree SV := fnT Try.prog CH DH 200 (fnOf Try.prog k) (bodyOf Try.prog k) args h

noncomputable def LSm2_q1 (c : Nat → Nat → Int) : Rat :=
  ratOf (c (Int.toNat (0 : Int)) 0) (c (Int.toNat (0 : Int)) 1)
noncomputable def LSm2_q2 (c : Nat → Nat → Int) : Rat :=
  ratOf (c (Int.toNat (0 : Int)) 2) (c (Int.toNat (0 : Int)) 3)
noncomputable def LSm2_q3 (c : Nat → Nat → Int) : Rat :=
  ratOf (c (Int.toNat (0 : Int)) 4) (c (Int.toNat (0 : Int)) 5)
noncomputable def LSm2_q4 (c : Nat → Nat → Int) : Rat :=
  ratOf (c (Int.toNat (0 : Int)) 6) (c (Int.toNat (0 : Int)) 7)
noncomputable def LSm2_q5 (c : Nat → Nat → Int) : Option (Rat × Rat × Rat × Rat) :=
  addO (ratOf (List.getD [(0 : Int), (0 : Int), (0 : Int), (0 : Int)] (Int.toNat (0 : Int)) (0 : Int)) (List.getD [(1 : Int), (1 : Int), (1 : Int), (1 : Int)] (Int.toNat (0 : Int)) (0 : Int)))
  (ratOf (List.getD [(0 : Int), (0 : Int), (0 : Int), (0 : Int)] (Int.toNat (1 : Int)) (0 : Int)) (List.getD [(1 : Int), (1 : Int), (1 : Int), (1 : Int)] (Int.toNat (1 : Int)) (0 : Int)))
  (ratOf (List.getD [(0 : Int), (0 : Int), (0 : Int), (0 : Int)] (Int.toNat (2 : Int)) (0 : Int)) (List.getD [(1 : Int), (1 : Int), (1 : Int), (1 : Int)] (Int.toNat (2 : Int)) (0 : Int)))
  (ratOf (List.getD [(0 : Int), (0 : Int), (0 : Int), (0 : Int)] (Int.toNat (3 : Int)) (0 : Int)) (List.getD [(1 : Int), (1 : Int), (1 : Int), (1 : Int)] (Int.toNat (3 : Int)) (0 : Int))) (LSm2_q1 c) (LSm2_q2 c)
  (LSm2_q3 c) (LSm2_q4 c)
noncomputable def LSm2_q6 (c : Nat → Nat → Int) : Option Rat :=
  k0 (LSm2_q5 c)
noncomputable def LSm2_q7 (c : Nat → Nat → Int) : Option Rat :=
  k1 (LSm2_q5 c)
noncomputable def LSm2_q8 (c : Nat → Nat → Int) : Option Rat :=
  k2 (LSm2_q5 c)
noncomputable def LSm2_q9 (c : Nat → Nat → Int) : Option Rat :=
  k3 (LSm2_q5 c)
noncomputable def LSm2_q10 (c : Nat → Nat → Int) : Rat :=
  ratOf (oN (LSm2_q6 c)) (oD (LSm2_q6 c))
noncomputable def LSm2_q11 (c : Nat → Nat → Int) : Rat :=
  ratOf (oN (LSm2_q7 c)) (oD (LSm2_q7 c))
noncomputable def LSm2_q12 (c : Nat → Nat → Int) : Rat :=
  ratOf (oN (LSm2_q8 c)) (oD (LSm2_q8 c))
noncomputable def LSm2_q13 (c : Nat → Nat → Int) : Rat :=
  ratOf (oN (LSm2_q9 c)) (oD (LSm2_q9 c))
noncomputable def LSm2_q14 (c : Nat → Nat → Int) : Rat :=
  ratOf (c (Int.toNat (w64 ((0 : Int) + (1 : Int)))) 0) (c (Int.toNat (w64 ((0 : Int) + (1 : Int)))) 1)
noncomputable def LSm2_q15 (c : Nat → Nat → Int) : Rat :=
  ratOf (c (Int.toNat (w64 ((0 : Int) + (1 : Int)))) 2) (c (Int.toNat (w64 ((0 : Int) + (1 : Int)))) 3)
noncomputable def LSm2_q16 (c : Nat → Nat → Int) : Rat :=
  ratOf (c (Int.toNat (w64 ((0 : Int) + (1 : Int)))) 4) (c (Int.toNat (w64 ((0 : Int) + (1 : Int)))) 5)
noncomputable def LSm2_q17 (c : Nat → Nat → Int) : Rat :=
  ratOf (c (Int.toNat (w64 ((0 : Int) + (1 : Int)))) 6) (c (Int.toNat (w64 ((0 : Int) + (1 : Int)))) 7)
noncomputable def LSm2_q18 (c : Nat → Nat → Int) : Option (Rat × Rat × Rat × Rat) :=
  addO (LSm2_q10 c) (LSm2_q11 c) (LSm2_q12 c) (LSm2_q13 c) (LSm2_q14 c) (LSm2_q15 c) (LSm2_q16 c) (LSm2_q17 c)
noncomputable def LSm2_q19 (c : Nat → Nat → Int) : Option Rat :=
  k0 (LSm2_q18 c)
noncomputable def LSm2_q20 (c : Nat → Nat → Int) : Option Rat :=
  k1 (LSm2_q18 c)
noncomputable def LSm2_q21 (c : Nat → Nat → Int) : Option Rat :=
  k2 (LSm2_q18 c)
noncomputable def LSm2_q22 (c : Nat → Nat → Int) : Option Rat :=
  k3 (LSm2_q18 c)
noncomputable def LSm2 (c : Nat → Nat → Int) : Tree SV :=
  .need ((0 : Int) ≤ (0 : Int) ∧ (0 : Int) < (4 : Int))
  (.need (0 < 4)
   (.need ((0 : Int) ≤ (1 : Int) ∧ (1 : Int) < (4 : Int))
   (.need (1 < 4)
   (.need ((0 : Int) ≤ (2 : Int) ∧ (2 : Int) < (4 : Int))
   (.need (2 < 4)
   (.need ((0 : Int) ≤ (3 : Int) ∧ (3 : Int) < (4 : Int))
   (.need (3 < 4)
   (.need (true = true)
   (.need ((0 : Int) ≤ (0 : Int) ∧ (0 : Int) < (2 : Int))
   (.need
   (VL (0 : Int) (1 : Int) (0 : Int) (1 : Int) (0 : Int) (1 : Int) (0 : Int) (1 : Int) ∧
   VL (c (Int.toNat (0 : Int)) 0) (c (Int.toNat (0 : Int)) 1) (c (Int.toNat (0 : Int)) 2) (c (Int.toNat (0 : Int)) 3) (c (Int.toNat (0 : Int)) 4)
   (c (Int.toNat (0 : Int)) 5) (c (Int.toNat (0 : Int)) 6) (c (Int.toNat (0 : Int)) 7))
   (.ite (oE (LSm2_q5 c) != (0 : Int))
   (.ret (SV.tup [SV.agg [iv (0 : Int), iv (0 : Int), iv (0 : Int), iv (0 : Int), iv (0 : Int), iv (0 : Int), iv (0 : Int), iv (0 : Int)], iv (oE (LSm2_q5 c))]))
   (.need (true = true)
   (.need ((0 : Int) ≤ (1 : Int) ∧ (1 : Int) < (2 : Int))
   (.need
   (VL (oN (LSm2_q6 c)) (oD (LSm2_q6 c)) (oN (LSm2_q7 c)) (oD (LSm2_q7 c)) (oN (LSm2_q8 c)) (oD (LSm2_q8 c)) (oN (LSm2_q9 c))
   (oD (LSm2_q9 c)) ∧
   VL (c (Int.toNat (w64 ((0 : Int) + (1 : Int)))) 0) (c (Int.toNat (w64 ((0 : Int) + (1 : Int)))) 1) (c (Int.toNat (w64 ((0 : Int) + (1 : Int)))) 2)
   (c (Int.toNat (w64 ((0 : Int) + (1 : Int)))) 3) (c (Int.toNat (w64 ((0 : Int) + (1 : Int)))) 4) (c (Int.toNat (w64 ((0 : Int) + (1 : Int)))) 5)
   (c (Int.toNat (w64 ((0 : Int) + (1 : Int)))) 6) (c (Int.toNat (w64 ((0 : Int) + (1 : Int)))) 7))
   (.ite (oE (LSm2_q18 c) != (0 : Int))
   (.ret (SV.tup [SV.agg [iv (0 : Int), iv (0 : Int), iv (0 : Int), iv (0 : Int), iv (0 : Int), iv (0 : Int), iv (0 : Int), iv (0 : Int)], iv (oE (LSm2_q18 c))]))
   (.need (false = false)
   (.ret
   (SV.tup
   [SV.agg
   [iv (oN (LSm2_q19 c)), iv (oD (LSm2_q19 c)), iv (oN (LSm2_q20 c)), iv (oD (LSm2_q20 c)), iv (oN (LSm2_q21 c)), iv (oD (LSm2_q21 c)),
   iv (oN (LSm2_q22 c)), iv (oD (LSm2_q22 c))],
   iv (0 : Int)]))))))))))))))))))

theorem LSm2_eq (c : Nat → Nat → Int) : TH (eachH 2) 56 [.d (.ro 2 8 fun i j => .x (.int .i64 (c i j)))] = LSm2 c := by kernel_rfl

noncomputable def LSm3_q1 (c : Nat → Nat → Int) : Rat :=
  ratOf (c (Int.toNat (0 : Int)) 0) (c (Int.toNat (0 : Int)) 1)
noncomputable def LSm3_q2 (c : Nat → Nat → Int) : Rat :=
  ratOf (c (Int.toNat (0 : Int)) 2) (c (Int.toNat (0 : Int)) 3)
noncomputable def LSm3_q3 (c : Nat → Nat → Int) : Rat :=
  ratOf (c (Int.toNat (0 : Int)) 4) (c (Int.toNat (0 : Int)) 5)
noncomputable def LSm3_q4 (c : Nat → Nat → Int) : Rat :=
  ratOf (c (Int.toNat (0 : Int)) 6) (c (Int.toNat (0 : Int)) 7)
noncomputable def LSm3_q5 (c : Nat → Nat → Int) : Option (Rat × Rat × Rat × Rat) :=
  addO (ratOf (List.getD [(0 : Int), (0 : Int), (0 : Int), (0 : Int)] (Int.toNat (0 : Int)) (0 : Int)) (List.getD [(1 : Int), (1 : Int), (1 : Int), (1 : Int)] (Int.toNat (0 : Int)) (0 : Int)))
  (ratOf (List.getD [(0 : Int), (0 : Int), (0 : Int), (0 : Int)] (Int.toNat (1 : Int)) (0 : Int)) (List.getD [(1 : Int), (1 : Int), (1 : Int), (1 : Int)] (Int.toNat (1 : Int)) (0 : Int)))
  (ratOf (List.getD [(0 : Int), (0 : Int), (0 : Int), (0 : Int)] (Int.toNat (2 : Int)) (0 : Int)) (List.getD [(1 : Int), (1 : Int), (1 : Int), (1 : Int)] (Int.toNat (2 : Int)) (0 : Int)))
  (ratOf (List.getD [(0 : Int), (0 : Int), (0 : Int), (0 : Int)] (Int.toNat (3 : Int)) (0 : Int)) (List.getD [(1 : Int), (1 : Int), (1 : Int), (1 : Int)] (Int.toNat (3 : Int)) (0 : Int))) (LSm3_q1 c) (LSm3_q2 c)
  (LSm3_q3 c) (LSm3_q4 c)
noncomputable def LSm3_q6 (c : Nat → Nat → Int) : Option Rat :=
  k0 (LSm3_q5 c)
noncomputable def LSm3_q7 (c : Nat → Nat → Int) : Option Rat :=
  k1 (LSm3_q5 c)
noncomputable def LSm3_q8 (c : Nat → Nat → Int) : Option Rat :=
  k2 (LSm3_q5 c)
noncomputable def LSm3_q9 (c : Nat → Nat → Int) : Option Rat :=
  k3 (LSm3_q5 c)
noncomputable def LSm3_q10 (c : Nat → Nat → Int) : Rat :=
  ratOf (oN (LSm3_q6 c)) (oD (LSm3_q6 c))
noncomputable def LSm3_q11 (c : Nat → Nat → Int) : Rat :=
  ratOf (oN (LSm3_q7 c)) (oD (LSm3_q7 c))
noncomputable def LSm3_q12 (c : Nat → Nat → Int) : Rat :=
  ratOf (oN (LSm3_q8 c)) (oD (LSm3_q8 c))
noncomputable def LSm3_q13 (c : Nat → Nat → Int) : Rat :=
  ratOf (oN (LSm3_q9 c)) (oD (LSm3_q9 c))
noncomputable def LSm3_q14 (c : Nat → Nat → Int) : Rat :=
  ratOf (c (Int.toNat (w64 ((0 : Int) + (1 : Int)))) 0) (c (Int.toNat (w64 ((0 : Int) + (1 : Int)))) 1)
noncomputable def LSm3_q15 (c : Nat → Nat → Int) : Rat :=
  ratOf (c (Int.toNat (w64 ((0 : Int) + (1 : Int)))) 2) (c (Int.toNat (w64 ((0 : Int) + (1 : Int)))) 3)
noncomputable def LSm3_q16 (c : Nat → Nat → Int) : Rat :=
  ratOf (c (Int.toNat (w64 ((0 : Int) + (1 : Int)))) 4) (c (Int.toNat (w64 ((0 : Int) + (1 : Int)))) 5)
noncomputable def LSm3_q17 (c : Nat → Nat → Int) : Rat :=
  ratOf (c (Int.toNat (w64 ((0 : Int) + (1 : Int)))) 6) (c (Int.toNat (w64 ((0 : Int) + (1 : Int)))) 7)
noncomputable def LSm3_q18 (c : Nat → Nat → Int) : Option (Rat × Rat × Rat × Rat) :=
  addO (LSm3_q10 c) (LSm3_q11 c) (LSm3_q12 c) (LSm3_q13 c) (LSm3_q14 c) (LSm3_q15 c) (LSm3_q16 c) (LSm3_q17 c)
noncomputable def LSm3_q19 (c : Nat → Nat → Int) : Option Rat :=
  k0 (LSm3_q18 c)
noncomputable def LSm3_q20 (c : Nat → Nat → Int) : Option Rat :=
  k1 (LSm3_q18 c)
noncomputable def LSm3_q21 (c : Nat → Nat → Int) : Option Rat :=
  k2 (LSm3_q18 c)
noncomputable def LSm3_q22 (c : Nat → Nat → Int) : Option Rat :=
  k3 (LSm3_q18 c)
noncomputable def LSm3_q23 (c : Nat → Nat → Int) : Rat :=
  ratOf (oN (LSm3_q19 c)) (oD (LSm3_q19 c))
noncomputable def LSm3_q24 (c : Nat → Nat → Int) : Rat :=
  ratOf (oN (LSm3_q20 c)) (oD (LSm3_q20 c))
noncomputable def LSm3_q25 (c : Nat → Nat → Int) : Rat :=
  ratOf (oN (LSm3_q21 c)) (oD (LSm3_q21 c))
noncomputable def LSm3_q26 (c : Nat → Nat → Int) : Rat :=
  ratOf (oN (LSm3_q22 c)) (oD (LSm3_q22 c))
noncomputable def LSm3_q27 (c : Nat → Nat → Int) : Rat :=
  ratOf (c (Int.toNat (w64 (w64 ((0 : Int) + (1 : Int)) + (1 : Int)))) 0) (c (Int.toNat (w64 (w64 ((0 : Int) + (1 : Int)) + (1 : Int)))) 1)
noncomputable def LSm3_q28 (c : Nat → Nat → Int) : Rat :=
  ratOf (c (Int.toNat (w64 (w64 ((0 : Int) + (1 : Int)) + (1 : Int)))) 2) (c (Int.toNat (w64 (w64 ((0 : Int) + (1 : Int)) + (1 : Int)))) 3)
noncomputable def LSm3_q29 (c : Nat → Nat → Int) : Rat :=
  ratOf (c (Int.toNat (w64 (w64 ((0 : Int) + (1 : Int)) + (1 : Int)))) 4) (c (Int.toNat (w64 (w64 ((0 : Int) + (1 : Int)) + (1 : Int)))) 5)
noncomputable def LSm3_q30 (c : Nat → Nat → Int) : Rat :=
  ratOf (c (Int.toNat (w64 (w64 ((0 : Int) + (1 : Int)) + (1 : Int)))) 6) (c (Int.toNat (w64 (w64 ((0 : Int) + (1 : Int)) + (1 : Int)))) 7)
noncomputable def LSm3_q31 (c : Nat → Nat → Int) : Option (Rat × Rat × Rat × Rat) :=
  addO (LSm3_q23 c) (LSm3_q24 c) (LSm3_q25 c) (LSm3_q26 c) (LSm3_q27 c) (LSm3_q28 c) (LSm3_q29 c) (LSm3_q30 c)
noncomputable def LSm3_q32 (c : Nat → Nat → Int) : Option Rat :=
  k0 (LSm3_q31 c)
noncomputable def LSm3_q33 (c : Nat → Nat → Int) : Option Rat :=
  k1 (LSm3_q31 c)
noncomputable def LSm3_q34 (c : Nat → Nat → Int) : Option Rat :=
  k2 (LSm3_q31 c)
noncomputable def LSm3_q35 (c : Nat → Nat → Int) : Option Rat :=
  k3 (LSm3_q31 c)
noncomputable def LSm3 (c : Nat → Nat → Int) : Tree SV :=
  .need ((0 : Int) ≤ (0 : Int) ∧ (0 : Int) < (4 : Int))
  (.need (0 < 4)
   (.need ((0 : Int) ≤ (1 : Int) ∧ (1 : Int) < (4 : Int))
   (.need (1 < 4)
   (.need ((0 : Int) ≤ (2 : Int) ∧ (2 : Int) < (4 : Int))
   (.need (2 < 4)
   (.need ((0 : Int) ≤ (3 : Int) ∧ (3 : Int) < (4 : Int))
   (.need (3 < 4)
   (.need (true = true)
   (.need ((0 : Int) ≤ (0 : Int) ∧ (0 : Int) < (3 : Int))
   (.need
   (VL (0 : Int) (1 : Int) (0 : Int) (1 : Int) (0 : Int) (1 : Int) (0 : Int) (1 : Int) ∧
   VL (c (Int.toNat (0 : Int)) 0) (c (Int.toNat (0 : Int)) 1) (c (Int.toNat (0 : Int)) 2) (c (Int.toNat (0 : Int)) 3) (c (Int.toNat (0 : Int)) 4)
   (c (Int.toNat (0 : Int)) 5) (c (Int.toNat (0 : Int)) 6) (c (Int.toNat (0 : Int)) 7))
   (.ite (oE (LSm3_q5 c) != (0 : Int))
   (.ret (SV.tup [SV.agg [iv (0 : Int), iv (0 : Int), iv (0 : Int), iv (0 : Int), iv (0 : Int), iv (0 : Int), iv (0 : Int), iv (0 : Int)], iv (oE (LSm3_q5 c))]))
   (.need (true = true)
   (.need ((0 : Int) ≤ (1 : Int) ∧ (1 : Int) < (3 : Int))
   (.need
   (VL (oN (LSm3_q6 c)) (oD (LSm3_q6 c)) (oN (LSm3_q7 c)) (oD (LSm3_q7 c)) (oN (LSm3_q8 c)) (oD (LSm3_q8 c)) (oN (LSm3_q9 c))
   (oD (LSm3_q9 c)) ∧
   VL (c (Int.toNat (w64 ((0 : Int) + (1 : Int)))) 0) (c (Int.toNat (w64 ((0 : Int) + (1 : Int)))) 1) (c (Int.toNat (w64 ((0 : Int) + (1 : Int)))) 2)
   (c (Int.toNat (w64 ((0 : Int) + (1 : Int)))) 3) (c (Int.toNat (w64 ((0 : Int) + (1 : Int)))) 4) (c (Int.toNat (w64 ((0 : Int) + (1 : Int)))) 5)
   (c (Int.toNat (w64 ((0 : Int) + (1 : Int)))) 6) (c (Int.toNat (w64 ((0 : Int) + (1 : Int)))) 7))
   (.ite (oE (LSm3_q18 c) != (0 : Int))
   (.ret (SV.tup [SV.agg [iv (0 : Int), iv (0 : Int), iv (0 : Int), iv (0 : Int), iv (0 : Int), iv (0 : Int), iv (0 : Int), iv (0 : Int)], iv (oE (LSm3_q18 c))]))
   (.need (true = true)
   (.need ((0 : Int) ≤ (2 : Int) ∧ (2 : Int) < (3 : Int))
   (.need
   (VL (oN (LSm3_q19 c)) (oD (LSm3_q19 c)) (oN (LSm3_q20 c)) (oD (LSm3_q20 c)) (oN (LSm3_q21 c)) (oD (LSm3_q21 c))
   (oN (LSm3_q22 c)) (oD (LSm3_q22 c)) ∧
   VL (c (Int.toNat (w64 (w64 ((0 : Int) + (1 : Int)) + (1 : Int)))) 0) (c (Int.toNat (w64 (w64 ((0 : Int) + (1 : Int)) + (1 : Int)))) 1)
   (c (Int.toNat (w64 (w64 ((0 : Int) + (1 : Int)) + (1 : Int)))) 2) (c (Int.toNat (w64 (w64 ((0 : Int) + (1 : Int)) + (1 : Int)))) 3)
   (c (Int.toNat (w64 (w64 ((0 : Int) + (1 : Int)) + (1 : Int)))) 4) (c (Int.toNat (w64 (w64 ((0 : Int) + (1 : Int)) + (1 : Int)))) 5)
   (c (Int.toNat (w64 (w64 ((0 : Int) + (1 : Int)) + (1 : Int)))) 6) (c (Int.toNat (w64 (w64 ((0 : Int) + (1 : Int)) + (1 : Int)))) 7))
   (.ite (oE (LSm3_q31 c) != (0 : Int))
   (.ret (SV.tup [SV.agg [iv (0 : Int), iv (0 : Int), iv (0 : Int), iv (0 : Int), iv (0 : Int), iv (0 : Int), iv (0 : Int), iv (0 : Int)], iv (oE (LSm3_q31 c))]))
   (.need (false = false)
   (.ret
   (SV.tup
   [SV.agg
   [iv (oN (LSm3_q32 c)), iv (oD (LSm3_q32 c)), iv (oN (LSm3_q33 c)), iv (oD (LSm3_q33 c)), iv (oN (LSm3_q34 c)),
   iv (oD (LSm3_q34 c)), iv (oN (LSm3_q35 c)), iv (oD (LSm3_q35 c))],
   iv (0 : Int)]))))))))))))))))))))))

theorem LSm3_eq (c : Nat → Nat → Int) : TH (eachH 3) 56 [.d (.ro 3 8 fun i j => .x (.int .i64 (c i j)))] = LSm3 c := by kernel_rfl

noncomputable def LAdQ_q1 (a0 : Int) (a1 : Int) : Rat :=
  ratOf a0 a1
noncomputable def LAdQ_q2 (b0 : Int) (b1 : Int) : Rat :=
  ratOf b0 b1
noncomputable def LAdQ_q3 (a0 : Int) (a1 : Int) (b0 : Int) (b1 : Int) : Rat :=
  LAdQ_q1 a0 a1 + LAdQ_q2 b0 b1
noncomputable def LAdQ_q4 (a2 : Int) (a3 : Int) : Rat :=
  ratOf a2 a3
noncomputable def LAdQ_q5 (b2 : Int) (b3 : Int) : Rat :=
  ratOf b2 b3
noncomputable def LAdQ_q6 (a2 : Int) (a3 : Int) (b2 : Int) (b3 : Int) : Rat :=
  LAdQ_q4 a2 a3 + LAdQ_q5 b2 b3
noncomputable def LAdQ_q7 (a4 : Int) (a5 : Int) : Rat :=
  ratOf a4 a5
noncomputable def LAdQ_q8 (b4 : Int) (b5 : Int) : Rat :=
  ratOf b4 b5
noncomputable def LAdQ_q9 (a4 : Int) (a5 : Int) (b4 : Int) (b5 : Int) : Rat :=
  LAdQ_q7 a4 a5 + LAdQ_q8 b4 b5
noncomputable def LAdQ_q10 (a6 : Int) (a7 : Int) : Rat :=
  ratOf a6 a7
noncomputable def LAdQ_q11 (b6 : Int) (b7 : Int) : Rat :=
  ratOf b6 b7
noncomputable def LAdQ_q12 (a6 : Int) (a7 : Int) (b6 : Int) (b7 : Int) : Rat :=
  LAdQ_q10 a6 a7 + LAdQ_q11 b6 b7
noncomputable def LAdQ_q13 (a0 : Int) (a1 : Int) (a2 : Int) (a3 : Int) (a4 : Int) (a5 : Int) (a6 : Int) (a7 : Int) (b0 : Int) (b1 : Int) (b2 : Int) (b3 : Int) (b4 : Int) (b5 : Int) (b6 : Int) (b7 : Int) : Bool :=
  rE (LAdQ_q3 a0 a1 b0 b1) == (0 : Int) && rE (LAdQ_q6 a2 a3 b2 b3) == (0 : Int) && rE (LAdQ_q9 a4 a5 b4 b5) == (0 : Int) && rE (LAdQ_q12 a6 a7 b6 b7) == (0 : Int)
noncomputable def LAdQ (a0 a1 a2 a3 a4 a5 a6 a7 b0 b1 b2 b3 b4 b5 b6 b7 : Int) : Tree SV :=
  .need (VF a0 a1 ∧ VF b0 b1)
  (.need (VF a2 a3 ∧ VF b2 b3)
   (.need (VF a4 a5 ∧ VF b4 b5)
   (.need (VF a6 a7 ∧ VF b6 b7)
   (.ret
   (SV.agg
   [iv (lnI (LAdQ_q13 a0 a1 a2 a3 a4 a5 a6 a7 b0 b1 b2 b3 b4 b5 b6 b7) (rN (LAdQ_q3 a0 a1 b0 b1))),
   iv (lnI (LAdQ_q13 a0 a1 a2 a3 a4 a5 a6 a7 b0 b1 b2 b3 b4 b5 b6 b7) (rD (LAdQ_q3 a0 a1 b0 b1))),
   iv (lnI (LAdQ_q13 a0 a1 a2 a3 a4 a5 a6 a7 b0 b1 b2 b3 b4 b5 b6 b7) (rN (LAdQ_q6 a2 a3 b2 b3))),
   iv (lnI (LAdQ_q13 a0 a1 a2 a3 a4 a5 a6 a7 b0 b1 b2 b3 b4 b5 b6 b7) (rD (LAdQ_q6 a2 a3 b2 b3))),
   iv (lnI (LAdQ_q13 a0 a1 a2 a3 a4 a5 a6 a7 b0 b1 b2 b3 b4 b5 b6 b7) (rN (LAdQ_q9 a4 a5 b4 b5))),
   iv (lnI (LAdQ_q13 a0 a1 a2 a3 a4 a5 a6 a7 b0 b1 b2 b3 b4 b5 b6 b7) (rD (LAdQ_q9 a4 a5 b4 b5))),
   iv (lnI (LAdQ_q13 a0 a1 a2 a3 a4 a5 a6 a7 b0 b1 b2 b3 b4 b5 b6 b7) (rN (LAdQ_q12 a6 a7 b6 b7))),
   iv (lnI (LAdQ_q13 a0 a1 a2 a3 a4 a5 a6 a7 b0 b1 b2 b3 b4 b5 b6 b7) (rD (LAdQ_q12 a6 a7 b6 b7))),
   iv (bif LAdQ_q13 a0 a1 a2 a3 a4 a5 a6 a7 b0 b1 b2 b3 b4 b5 b6 b7 then (0 : Int) else (2 : Int))])))))

theorem LAdQ_eq (a0 a1 a2 a3 a4 a5 a6 a7 b0 b1 b2 b3 b4 b5 b6 b7 : Int) : TH .nil 65 [.agg [iv a0, iv a1, iv a2, iv a3, iv a4, iv a5, iv a6, iv a7], .agg [iv b0, iv b1, iv b2, iv b3, iv b4, iv b5, iv b6, iv b7]] = LAdQ a0 a1 a2 a3 a4 a5 a6 a7 b0 b1 b2 b3 b4 b5 b6 b7 := by kernel_rfl

noncomputable def LScQ_q1 (a0 : Int) (a1 : Int) : Rat :=
  ratOf a0 a1
noncomputable def LScQ_q2 (b0 : Int) (b1 : Int) : Rat :=
  ratOf b0 b1
noncomputable def LScQ_q3 (a0 : Int) (a1 : Int) (b0 : Int) (b1 : Int) : Rat :=
  LScQ_q1 a0 a1 * LScQ_q2 b0 b1
noncomputable def LScQ_q4 (a2 : Int) (a3 : Int) : Rat :=
  ratOf a2 a3
noncomputable def LScQ_q5 (a2 : Int) (a3 : Int) (b0 : Int) (b1 : Int) : Rat :=
  LScQ_q4 a2 a3 * LScQ_q2 b0 b1
noncomputable def LScQ_q6 (a4 : Int) (a5 : Int) : Rat :=
  ratOf a4 a5
noncomputable def LScQ_q7 (a4 : Int) (a5 : Int) (b0 : Int) (b1 : Int) : Rat :=
  LScQ_q6 a4 a5 * LScQ_q2 b0 b1
noncomputable def LScQ_q8 (a6 : Int) (a7 : Int) : Rat :=
  ratOf a6 a7
noncomputable def LScQ_q9 (a6 : Int) (a7 : Int) (b0 : Int) (b1 : Int) : Rat :=
  LScQ_q8 a6 a7 * LScQ_q2 b0 b1
noncomputable def LScQ_q10 (a0 : Int) (a1 : Int) (a2 : Int) (a3 : Int) (a4 : Int) (a5 : Int) (a6 : Int) (a7 : Int) (b0 : Int) (b1 : Int) : Bool :=
  rE (LScQ_q3 a0 a1 b0 b1) == (0 : Int) && rE (LScQ_q5 a2 a3 b0 b1) == (0 : Int) && rE (LScQ_q7 a4 a5 b0 b1) == (0 : Int) && rE (LScQ_q9 a6 a7 b0 b1) == (0 : Int)
noncomputable def LScQ (a0 a1 a2 a3 a4 a5 a6 a7 b0 b1 : Int) : Tree SV :=
  .need (VF a0 a1 ∧ VF b0 b1)
  (.need (VF a2 a3 ∧ VF b0 b1)
   (.need (VF a4 a5 ∧ VF b0 b1)
   (.need (VF a6 a7 ∧ VF b0 b1)
   (.ret
   (SV.agg
   [iv (lnI (LScQ_q10 a0 a1 a2 a3 a4 a5 a6 a7 b0 b1) (rN (LScQ_q3 a0 a1 b0 b1))), iv (lnI (LScQ_q10 a0 a1 a2 a3 a4 a5 a6 a7 b0 b1) (rD (LScQ_q3 a0 a1 b0 b1))),
   iv (lnI (LScQ_q10 a0 a1 a2 a3 a4 a5 a6 a7 b0 b1) (rN (LScQ_q5 a2 a3 b0 b1))), iv (lnI (LScQ_q10 a0 a1 a2 a3 a4 a5 a6 a7 b0 b1) (rD (LScQ_q5 a2 a3 b0 b1))),
   iv (lnI (LScQ_q10 a0 a1 a2 a3 a4 a5 a6 a7 b0 b1) (rN (LScQ_q7 a4 a5 b0 b1))), iv (lnI (LScQ_q10 a0 a1 a2 a3 a4 a5 a6 a7 b0 b1) (rD (LScQ_q7 a4 a5 b0 b1))),
   iv (lnI (LScQ_q10 a0 a1 a2 a3 a4 a5 a6 a7 b0 b1) (rN (LScQ_q9 a6 a7 b0 b1))), iv (lnI (LScQ_q10 a0 a1 a2 a3 a4 a5 a6 a7 b0 b1) (rD (LScQ_q9 a6 a7 b0 b1))),
   iv (bif LScQ_q10 a0 a1 a2 a3 a4 a5 a6 a7 b0 b1 then (0 : Int) else (2 : Int))])))))

theorem LScQ_eq (a0 a1 a2 a3 a4 a5 a6 a7 b0 b1 : Int) : TH .nil 66 [.agg [iv a0, iv a1, iv a2, iv a3, iv a4, iv a5, iv a6, iv a7], .agg [iv b0, iv b1]] = LScQ a0 a1 a2 a3 a4 a5 a6 a7 b0 b1 := by kernel_rfl


end Go.Proofs.Ytpaejfeojdoikaa

namespace Go.Proofs.Ytpaejfeojdoikaa
open Go.Sx
set_option maxRecDepth 100000

theorem rE_beq {r : Rat} : (rE r == 0) = decide (fitsR r) := by
  by_cases h : fitsR r
  · simp [rE_of h, h]
  · simp [rE_no h, h]
noncomputable def cLaR : Ctr := fun ss => match ss with
  | [.agg l, .agg m] => match intsOf .i64 l, intsOf .i64 m with
    | some [a0, a1, a2, a3, a4, a5, a6, a7], some [b0, b1, b2, b3, b4, b5, b6, b7] => .need (VL a0 a1 a2 a3 a4 a5 a6 a7 ∧ VL b0 b1 b2 b3 b4 b5 b6 b7)
      (.ret (.agg [iv (oN (k0 (addO (ratOf a0 a1) (ratOf a2 a3) (ratOf a4 a5) (ratOf a6 a7) (ratOf b0 b1) (ratOf b2 b3) (ratOf b4 b5) (ratOf b6 b7)))), iv (oD (k0 (addO (ratOf a0 a1) (ratOf a2 a3) (ratOf a4 a5) (ratOf a6 a7) (ratOf b0 b1) (ratOf b2 b3) (ratOf b4 b5) (ratOf b6 b7)))),
        iv (oN (k1 (addO (ratOf a0 a1) (ratOf a2 a3) (ratOf a4 a5) (ratOf a6 a7) (ratOf b0 b1) (ratOf b2 b3) (ratOf b4 b5) (ratOf b6 b7)))), iv (oD (k1 (addO (ratOf a0 a1) (ratOf a2 a3) (ratOf a4 a5) (ratOf a6 a7) (ratOf b0 b1) (ratOf b2 b3) (ratOf b4 b5) (ratOf b6 b7)))),
        iv (oN (k2 (addO (ratOf a0 a1) (ratOf a2 a3) (ratOf a4 a5) (ratOf a6 a7) (ratOf b0 b1) (ratOf b2 b3) (ratOf b4 b5) (ratOf b6 b7)))), iv (oD (k2 (addO (ratOf a0 a1) (ratOf a2 a3) (ratOf a4 a5) (ratOf a6 a7) (ratOf b0 b1) (ratOf b2 b3) (ratOf b4 b5) (ratOf b6 b7)))),
        iv (oN (k3 (addO (ratOf a0 a1) (ratOf a2 a3) (ratOf a4 a5) (ratOf a6 a7) (ratOf b0 b1) (ratOf b2 b3) (ratOf b4 b5) (ratOf b6 b7)))), iv (oD (k3 (addO (ratOf a0 a1) (ratOf a2 a3) (ratOf a4 a5) (ratOf a6 a7) (ratOf b0 b1) (ratOf b2 b3) (ratOf b4 b5) (ratOf b6 b7)))),
        iv (oE (addO (ratOf a0 a1) (ratOf a2 a3) (ratOf a4 a5) (ratOf a6 a7) (ratOf b0 b1) (ratOf b2 b3) (ratOf b4 b5) (ratOf b6 b7)))]))
    | _, _ => .fail
  | _ => .fail
theorem cLaR_ok : CtrOK Try.prog 65 cLaR := by
  refine ctrOK_leS CH_ok DH_ok (by kernel_rfl) (by kernel_rfl) fun ss r hh => ?_
  unfold cLaR at hh
  split at hh
  · split at hh
    · rename_i a0 a1 a2 a3 a4 a5 a6 a7 b0 b1 b2 b3 b4 b5 b6 b7 e1 e2
      obtain ⟨⟨x, y⟩, rfl⟩ := hh
      rw [intsOf_eq e1, intsOf_eq e2]
      refine ⟨_, 200, .nil, by simp [leSVs, leSV, iv, leD], Sat.of_eq (LAdQ_eq a0 a1 a2 a3 a4 a5 a6 a7 b0 b1 b2 b3 b4 b5 b6 b7) ⟨?_⟩⟩
      unfold LAdQ
      simp only [LAdQ_q1, LAdQ_q2, LAdQ_q3, LAdQ_q4, LAdQ_q5, LAdQ_q6, LAdQ_q7, LAdQ_q8, LAdQ_q9, LAdQ_q10, LAdQ_q11, LAdQ_q12, LAdQ_q13]
      unfold addO
      refine ⟨⟨x.k, y.k⟩, ⟨x.t, y.t⟩, ⟨x.v, y.v⟩, ⟨x.a, y.a⟩, ?_⟩
      generalize ratOf a0 a1 + ratOf b0 b1 = p
      generalize ratOf a2 a3 + ratOf b2 b3 = q
      generalize ratOf a4 a5 + ratOf b4 b5 = r
      generalize ratOf a6 a7 + ratOf b6 b7 = s
      simp only [sat_ret, rE_beq]
      by_cases h0 : fitsR p <;> by_cases h1 : fitsR q <;> by_cases h2 : fitsR r <;> by_cases h3 : fitsR s <;> simp [fit, rN, rD, rE, lnI, quad, k0, k1, k2, k3, oN, oD, oE, h0, h1, h2, h3]
    · exact hh.elim
  · exact hh.elim
noncomputable def cLsR : Ctr := fun ss => match ss with
  | [.agg l, .agg [.d (.x (.int .i64 b0)), .d (.x (.int .i64 b1))]] => match intsOf .i64 l with
    | some [a0, a1, a2, a3, a4, a5, a6, a7] => .need (VL a0 a1 a2 a3 a4 a5 a6 a7 ∧ VF b0 b1)
      (.ret (.agg [iv (oN (k0 (sclO (ratOf a0 a1) (ratOf a2 a3) (ratOf a4 a5) (ratOf a6 a7) (ratOf b0 b1)))), iv (oD (k0 (sclO (ratOf a0 a1) (ratOf a2 a3) (ratOf a4 a5) (ratOf a6 a7) (ratOf b0 b1)))),
        iv (oN (k1 (sclO (ratOf a0 a1) (ratOf a2 a3) (ratOf a4 a5) (ratOf a6 a7) (ratOf b0 b1)))), iv (oD (k1 (sclO (ratOf a0 a1) (ratOf a2 a3) (ratOf a4 a5) (ratOf a6 a7) (ratOf b0 b1)))),
        iv (oN (k2 (sclO (ratOf a0 a1) (ratOf a2 a3) (ratOf a4 a5) (ratOf a6 a7) (ratOf b0 b1)))), iv (oD (k2 (sclO (ratOf a0 a1) (ratOf a2 a3) (ratOf a4 a5) (ratOf a6 a7) (ratOf b0 b1)))),
        iv (oN (k3 (sclO (ratOf a0 a1) (ratOf a2 a3) (ratOf a4 a5) (ratOf a6 a7) (ratOf b0 b1)))), iv (oD (k3 (sclO (ratOf a0 a1) (ratOf a2 a3) (ratOf a4 a5) (ratOf a6 a7) (ratOf b0 b1)))),
        iv (oE (sclO (ratOf a0 a1) (ratOf a2 a3) (ratOf a4 a5) (ratOf a6 a7) (ratOf b0 b1)))]))
    | _ => .fail
  | _ => .fail
theorem cLsR_ok : CtrOK Try.prog 66 cLsR := by
  refine ctrOK_leS CH_ok DH_ok (by kernel_rfl) (by kernel_rfl) fun ss r hh => ?_
  unfold cLsR at hh
  split at hh
  · rename_i b0 b1
    split at hh
    · rename_i a0 a1 a2 a3 a4 a5 a6 a7 e1
      obtain ⟨⟨x, wk⟩, rfl⟩ := hh
      rw [intsOf_eq e1]
      refine ⟨[_, .agg [iv b0, iv b1]], 200, .nil, by simp [leSVs, leSV, iv, leD], Sat.of_eq (LScQ_eq a0 a1 a2 a3 a4 a5 a6 a7 b0 b1) ⟨?_⟩⟩
      unfold LScQ
      simp only [LScQ_q1, LScQ_q2, LScQ_q3, LScQ_q4, LScQ_q5, LScQ_q6, LScQ_q7, LScQ_q8, LScQ_q9, LScQ_q10]
      unfold sclO
      refine ⟨⟨x.k, wk⟩, ⟨x.t, wk⟩, ⟨x.v, wk⟩, ⟨x.a, wk⟩, ?_⟩
      generalize ratOf a0 a1 * ratOf b0 b1 = p
      generalize ratOf a2 a3 * ratOf b0 b1 = q
      generalize ratOf a4 a5 * ratOf b0 b1 = r
      generalize ratOf a6 a7 * ratOf b0 b1 = s
      simp only [sat_ret, rE_beq]
      by_cases h0 : fitsR p <;> by_cases h1 : fitsR q <;> by_cases h2 : fitsR r <;> by_cases h3 : fitsR s <;> simp [fit, rN, rD, rE, lnI, quad, k0, k1, k2, k3, oN, oD, oE, h0, h1, h2, h3]
    · exact hh.elim
  · exact hh.elim

/-! ### Sums of lists of functions -/
structure VRow (c : Nat → Int) : Prop where
  k : VF (c 0) (c 1)
  t : VF (c 2) (c 3)
  v : VF (c 4) (c 5)
  a : VF (c 6) (c 7)
theorem VRow.vl {c : Nat → Int} (h : VRow c) : VL (c 0) (c 1) (c 2) (c 3) (c 4) (c 5) (c 6) (c 7) := ⟨h.k, h.t, h.v, h.a⟩
noncomputable def add2 (c d : Nat → Int) : Option (Rat × Rat × Rat × Rat) := addO (ratOf (c 0) (c 1)) (ratOf (c 2) (c 3)) (ratOf (c 4) (c 5)) (ratOf (c 6) (c 7)) (ratOf (d 0) (d 1)) (ratOf (d 2) (d 3)) (ratOf (d 4) (d 5)) (ratOf (d 6) (d 7))
noncomputable def addR : Option (Rat × Rat × Rat × Rat) → (Nat → Int) → Option (Rat × Rat × Rat × Rat)
  | some (p, q, r, s), d => addO p q r s (ratOf (d 0) (d 1)) (ratOf (d 2) (d 3)) (ratOf (d 4) (d 5)) (ratOf (d 6) (d 7))
  | none, _ => none
theorem addO_zero {a b : Nat → Int} (x : VRow b) : addO (ratOf 0 1) (ratOf 0 1) (ratOf 0 1) (ratOf 0 1) (ratOf (b 0) (b 1)) (ratOf (b 2) (b 3)) (ratOf (b 4) (b 5)) (ratOf (b 6) (b 7)) = some (ratOf (b 0) (b 1), ratOf (b 2) (b 3), ratOf (b 4) (b 5), ratOf (b 6) (b 7)) := by
  unfold addO
  rw [show ratOf 0 1 = 0 by decide +kernel, Rat.zero_add, Rat.zero_add, Rat.zero_add, Rat.zero_add, fit_of x.k.fits, fit_of x.t.fits, fit_of x.v.fits, fit_of x.a.fits]
  rfl
theorem k0_some {a b c d : Rat} : k0 (some (a, b, c, d)) = some a := rfl
theorem k1_some {a b c d : Rat} : k1 (some (a, b, c, d)) = some b := rfl
theorem k2_some {a b c d : Rat} : k2 (some (a, b, c, d)) = some c := rfl
theorem k3_some {a b c d : Rat} : k3 (some (a, b, c, d)) = some d := rfl
theorem one_w : Int.toNat (w64 ((0 : Int) + (1 : Int))) = 1 := by decide +kernel
theorem two_w : Int.toNat (w64 (w64 ((0 : Int) + (1 : Int)) + (1 : Int))) = 2 := by decide +kernel
theorem addO_fits {a b c d e f g h p q r s : Rat} (k : addO a b c d e f g h = some (p, q, r, s)) : fitsR p ∧ fitsR q ∧ fitsR r ∧ fitsR s := by
  unfold addO at k
  by_cases h0 : fitsR (a + e) <;> by_cases h1 : fitsR (b + f) <;> by_cases h2 : fitsR (c + g) <;> by_cases h3 : fitsR (d + h) <;> simp [fit, quad, h0, h1, h2, h3] at k
  obtain ⟨rfl, rfl, rfl, rfl⟩ := k
  exact ⟨h0, h1, h2, h3⟩
def cellI (cell : Nat → Nat → DV) (i j : Nat) : Int := intOf1 (cell i j)
noncomputable def sumR (n : Nat) (cell : Nat → Nat → DV) : Option (Rat × Rat × Rat × Rat) :=
  if n = 2 then add2 (cellI cell 0) (cellI cell 1) else addR (add2 (cellI cell 0) (cellI cell 1)) (cellI cell 2)
noncomputable def cSml : Ctr := fun ss => match ss with
  | [.d (.ro n 8 cell)] => .need ((n = 2 ∨ n = 3) ∧ (∀ i, i < n → VRow (cellI cell i) ∧ ∀ j, j < 8 → cell i j = .x (.int .i64 (cellI cell i j))))
      (.ret (.tup [.agg [iv (oN (k0 (sumR n cell))), iv (oD (k0 (sumR n cell))), iv (oN (k1 (sumR n cell))), iv (oD (k1 (sumR n cell))), iv (oN (k2 (sumR n cell))), iv (oD (k2 (sumR n cell))), iv (oN (k3 (sumR n cell))), iv (oD (k3 (sumR n cell)))], iv (oE (sumR n cell))]))
  | _ => .fail
noncomputable def cSmlR : Ctr := fun ss => match ss with
  | [.d (.ro n 8 cell)] => .need (n = 3 ∧ (∀ i, i < n → VRow (cellI cell i) ∧ ∀ j, j < 8 → cell i j = .x (.int .i64 (cellI cell i j))))
      (.ret (.agg [iv (oN (k0 (sumR n cell))), iv (oD (k0 (sumR n cell))), iv (oN (k1 (sumR n cell))), iv (oD (k1 (sumR n cell))), iv (oN (k2 (sumR n cell))), iv (oD (k2 (sumR n cell))), iv (oN (k3 (sumR n cell))), iv (oD (k3 (sumR n cell))), iv (oE (sumR n cell))]))
  | _ => .fail
theorem cSml_ok : CtrOK Try.prog 56 cSml := by
  refine ctrOK_leS CH_ok DH_ok (by kernel_rfl) (by kernel_rfl) fun ss r hh => ?_
  unfold cSml at hh
  split at hh
  · rename_i n cell
    obtain ⟨⟨h1, h2⟩, rfl⟩ := hh
    rcases h1 with rfl | rfl
    · refine ⟨[.d (.ro 2 8 fun i j => .x (.int .i64 (cellI cell i j)))], 200, eachH 2, ?_, Sat.of_eq (LSm2_eq (cellI cell)) ⟨?_⟩⟩
      · simp only [leSVs, leSV, leD, and_true, true_and]
        exact fun i j hi hj => (h2 i hi).2 j hj
      · have x0 := (h2 0 (by omega)).1
        have x1 := (h2 1 (by omega)).1
        unfold LSm2
        generalize hc : cellI cell = c at *
        have e5 : LSm2_q5 c = some (ratOf (c 0 0) (c 0 1), ratOf (c 0 2) (c 0 3), ratOf (c 0 4) (c 0 5), ratOf (c 0 6) (c 0 7)) := addO_zero (a := c 0) x0
        have e18 : LSm2_q18 c = add2 (c 0) (c 1) := by
          simp only [LSm2_q1, LSm2_q2, LSm2_q3, LSm2_q4, LSm2_q5, LSm2_q6, LSm2_q7, LSm2_q8, LSm2_q9, LSm2_q10, LSm2_q11, LSm2_q12, LSm2_q13, LSm2_q14, LSm2_q15, LSm2_q16, LSm2_q17, LSm2_q18, LSm2_q19, LSm2_q20, LSm2_q21, LSm2_q22] at e5 ⊢
          simp only [e5, k0_some, k1_some, k2_some, k3_some, oN_some, oD_some, ratOf_rat, one_w]
          rfl
        have v0 := VF.of x0.k.fits; have v1 := VF.of x0.t.fits; have v2 := VF.of x0.v.fits; have v3 := VF.of x0.a.fits
        have l0 : VL 0 1 0 1 0 1 0 1 := ⟨by decide +kernel, by decide +kernel, by decide +kernel, by decide +kernel⟩
        simp only [Int.reduceLE, Int.reduceLT, Nat.reduceLT, Int.reduceEq, Int.le_refl, ne_eq, not_false_eq_true, Int.reduceToNat, Nat.zero_lt_succ, and_self, true_and, and_true, LSm2_q6, LSm2_q7, LSm2_q8, LSm2_q9, LSm2_q19, LSm2_q20, LSm2_q21, LSm2_q22, e5, e18, k0_some, k1_some, k2_some, k3_some, oN_some, oD_some, oE_some, one_w, zero_ne, sat_need, sat_ite, sat_ret, reduceCtorEq, false_imp_iff, true_imp_iff, true_and, forall_const]
        unfold sumR
        rw [if_pos rfl, hc]
        refine ⟨⟨l0, x0.vl⟩, ⟨⟨v0, v1, v2, v3⟩, x1.vl⟩, ?_⟩
        generalize add2 (c 0) (c 1) = o
        cases o with
        | none => simp [oE, k0, k1, k2, k3, oN, oD]
        | some o => simp [oE, k0, k1, k2, k3, oN, oD]
    · refine ⟨[.d (.ro 3 8 fun i j => .x (.int .i64 (cellI cell i j)))], 200, eachH 3, ?_, Sat.of_eq (LSm3_eq (cellI cell)) ⟨?_⟩⟩
      · simp only [leSVs, leSV, leD, and_true, true_and]
        exact fun i j hi hj => (h2 i hi).2 j hj
      · have x0 := (h2 0 (by omega)).1
        have x1 := (h2 1 (by omega)).1
        have x2 := (h2 2 (by omega)).1
        unfold LSm3
        generalize hc : cellI cell = c at *
        have e5 : LSm3_q5 c = some (ratOf (c 0 0) (c 0 1), ratOf (c 0 2) (c 0 3), ratOf (c 0 4) (c 0 5), ratOf (c 0 6) (c 0 7)) := addO_zero (a := c 0) x0
        have e18 : LSm3_q18 c = add2 (c 0) (c 1) := by
          simp only [LSm3_q1, LSm3_q2, LSm3_q3, LSm3_q4, LSm3_q5, LSm3_q6, LSm3_q7, LSm3_q8, LSm3_q9, LSm3_q10, LSm3_q11, LSm3_q12, LSm3_q13, LSm3_q14, LSm3_q15, LSm3_q16, LSm3_q17, LSm3_q18, LSm3_q19, LSm3_q20, LSm3_q21, LSm3_q22, LSm3_q23, LSm3_q24, LSm3_q25, LSm3_q26, LSm3_q27, LSm3_q28, LSm3_q29, LSm3_q30, LSm3_q31, LSm3_q32, LSm3_q33, LSm3_q34, LSm3_q35] at e5 ⊢
          simp only [e5, k0_some, k1_some, k2_some, k3_some, oN_some, oD_some, ratOf_rat, one_w]
          rfl
        have v0 := VF.of x0.k.fits; have v1 := VF.of x0.t.fits; have v2 := VF.of x0.v.fits; have v3 := VF.of x0.a.fits
        have l0 : VL 0 1 0 1 0 1 0 1 := ⟨by decide +kernel, by decide +kernel, by decide +kernel, by decide +kernel⟩
        unfold sumR
        rw [if_neg (by decide), hc]
        simp only [Int.reduceLE, Int.reduceLT, Nat.reduceLT, Int.reduceEq, Int.le_refl, ne_eq, not_false_eq_true, Int.reduceToNat, Nat.zero_lt_succ, and_self, true_and, and_true, LSm3_q6, LSm3_q7, LSm3_q8, LSm3_q9, LSm3_q19, LSm3_q20, LSm3_q21, LSm3_q22, LSm3_q32, LSm3_q33, LSm3_q34, LSm3_q35, e5, e18, k0_some, k1_some, k2_some, k3_some, oN_some, oD_some, oE_some, one_w, two_w, zero_ne, sat_need, sat_ite, sat_ret, reduceCtorEq, false_imp_iff, true_imp_iff, forall_const]
        refine ⟨⟨l0, x0.vl⟩, ⟨⟨v0, v1, v2, v3⟩, x1.vl⟩, ?_⟩
        cases ho : add2 (c 0) (c 1) with
        | none => simp [oE, k0, k1, k2, k3, oN, oD, addR]
        | some o =>
          obtain ⟨p, q, r, t⟩ := o
          obtain ⟨f0, f1, f2, f3⟩ := addO_fits ho
          have e31 : LSm3_q31 c = addR (some (p, q, r, t)) (c 2) := by
            simp only [LSm3_q31, LSm3_q23, LSm3_q24, LSm3_q25, LSm3_q26, LSm3_q27, LSm3_q28, LSm3_q29, LSm3_q30, LSm3_q19, LSm3_q20, LSm3_q21, LSm3_q22, e18, ho, k0_some, k1_some, k2_some, k3_some, oN_some, oD_some, ratOf_rat, two_w]
            rfl
          simp only [e31, oE_some, k0_some, k1_some, k2_some, k3_some, oN_some, oD_some, zero_ne, reduceCtorEq, false_imp_iff, true_imp_iff, forall_const, true_and]
          refine ⟨⟨⟨VF.of f0, VF.of f1, VF.of f2, VF.of f3⟩, x2.vl⟩, ?_⟩
          generalize addR (some (p, q, r, t)) (c 2) = o
          cases o with
          | none => simp [oE, k0, k1, k2, k3, oN, oD]
          | some o => simp [oE, k0, k1, k2, k3, oN, oD]
  · exact hh.elim
noncomputable def manI : FuncId → Option Ctr := fun k => match k with
  | 65 => some cLaR
  | 66 => some cLsR
  | 56 => some cSml
  | k => manH k
theorem manI_ok (k : Nat) (c : Ctr) (h : manI k = some c) : CtrOK Try.prog k c ∧ goodF Try.prog k = true := by
  unfold manI at h
  split at h
  · cases h; exact ⟨cLaR_ok, by kernel_rfl⟩
  · cases h; exact ⟨cLsR_ok, by kernel_rfl⟩
  · cases h; exact ⟨cSml_ok, by kernel_rfl⟩
  · exact manH_ok _ _ h
noncomputable def CI : Ctx := ctxN Try.prog manI (fun _ => false) 200 .nil 6
theorem CI_ok : CtxOK Try.prog CI := ctxN_ok mixed manI_ok 6
noncomputable def DI : Dr := fun _ => drawn Try.prog CI
theorem DI_ok : DrOK Try.prog CI DI := drawn_ok CI_ok mixed
noncomputable def TI (h : Hint) (k : Nat) (args : List SV) : Tree SV := fnT Try.prog CI DI 200 (fnOf Try.prog k) (bodyOf Try.prog k) args h

noncomputable def LSr3_q1 (c : Nat → Nat → Int) : Rat :=
  ratOf (c (Int.toNat (0 : Int)) 0) (c (Int.toNat (0 : Int)) 1)
noncomputable def LSr3_q2 (c : Nat → Nat → Int) : Rat :=
  ratOf (c (Int.toNat (0 : Int)) 2) (c (Int.toNat (0 : Int)) 3)
noncomputable def LSr3_q3 (c : Nat → Nat → Int) : Rat :=
  ratOf (c (Int.toNat (0 : Int)) 4) (c (Int.toNat (0 : Int)) 5)
noncomputable def LSr3_q4 (c : Nat → Nat → Int) : Rat :=
  ratOf (c (Int.toNat (0 : Int)) 6) (c (Int.toNat (0 : Int)) 7)
noncomputable def LSr3_q5 (c : Nat → Nat → Int) : Option (Rat × Rat × Rat × Rat) :=
  addO (ratOf (0 : Int) (1 : Int)) (ratOf (0 : Int) (1 : Int)) (ratOf (0 : Int) (1 : Int)) (ratOf (0 : Int) (1 : Int)) (LSr3_q1 c) (LSr3_q2 c) (LSr3_q3 c) (LSr3_q4 c)
noncomputable def LSr3_q6 (c : Nat → Nat → Int) : Option Rat :=
  k0 (LSr3_q5 c)
noncomputable def LSr3_q7 (c : Nat → Nat → Int) : Option Rat :=
  k1 (LSr3_q5 c)
noncomputable def LSr3_q8 (c : Nat → Nat → Int) : Option Rat :=
  k2 (LSr3_q5 c)
noncomputable def LSr3_q9 (c : Nat → Nat → Int) : Option Rat :=
  k3 (LSr3_q5 c)
noncomputable def LSr3_q10 (c : Nat → Nat → Int) : Rat :=
  ratOf (oN (LSr3_q6 c)) (oD (LSr3_q6 c))
noncomputable def LSr3_q11 (c : Nat → Nat → Int) : Rat :=
  ratOf (oN (LSr3_q7 c)) (oD (LSr3_q7 c))
noncomputable def LSr3_q12 (c : Nat → Nat → Int) : Rat :=
  ratOf (oN (LSr3_q8 c)) (oD (LSr3_q8 c))
noncomputable def LSr3_q13 (c : Nat → Nat → Int) : Rat :=
  ratOf (oN (LSr3_q9 c)) (oD (LSr3_q9 c))
noncomputable def LSr3_q14 (c : Nat → Nat → Int) : Rat :=
  ratOf (c (Int.toNat (w64 ((0 : Int) + (1 : Int)))) 0) (c (Int.toNat (w64 ((0 : Int) + (1 : Int)))) 1)
noncomputable def LSr3_q15 (c : Nat → Nat → Int) : Rat :=
  ratOf (c (Int.toNat (w64 ((0 : Int) + (1 : Int)))) 2) (c (Int.toNat (w64 ((0 : Int) + (1 : Int)))) 3)
noncomputable def LSr3_q16 (c : Nat → Nat → Int) : Rat :=
  ratOf (c (Int.toNat (w64 ((0 : Int) + (1 : Int)))) 4) (c (Int.toNat (w64 ((0 : Int) + (1 : Int)))) 5)
noncomputable def LSr3_q17 (c : Nat → Nat → Int) : Rat :=
  ratOf (c (Int.toNat (w64 ((0 : Int) + (1 : Int)))) 6) (c (Int.toNat (w64 ((0 : Int) + (1 : Int)))) 7)
noncomputable def LSr3_q18 (c : Nat → Nat → Int) : Option (Rat × Rat × Rat × Rat) :=
  addO (LSr3_q10 c) (LSr3_q11 c) (LSr3_q12 c) (LSr3_q13 c) (LSr3_q14 c) (LSr3_q15 c) (LSr3_q16 c) (LSr3_q17 c)
noncomputable def LSr3_q19 (c : Nat → Nat → Int) : Option Rat :=
  k0 (LSr3_q18 c)
noncomputable def LSr3_q20 (c : Nat → Nat → Int) : Option Rat :=
  k1 (LSr3_q18 c)
noncomputable def LSr3_q21 (c : Nat → Nat → Int) : Option Rat :=
  k2 (LSr3_q18 c)
noncomputable def LSr3_q22 (c : Nat → Nat → Int) : Option Rat :=
  k3 (LSr3_q18 c)
noncomputable def LSr3_q23 (c : Nat → Nat → Int) : Rat :=
  ratOf (oN (LSr3_q19 c)) (oD (LSr3_q19 c))
noncomputable def LSr3_q24 (c : Nat → Nat → Int) : Rat :=
  ratOf (oN (LSr3_q20 c)) (oD (LSr3_q20 c))
noncomputable def LSr3_q25 (c : Nat → Nat → Int) : Rat :=
  ratOf (oN (LSr3_q21 c)) (oD (LSr3_q21 c))
noncomputable def LSr3_q26 (c : Nat → Nat → Int) : Rat :=
  ratOf (oN (LSr3_q22 c)) (oD (LSr3_q22 c))
noncomputable def LSr3_q27 (c : Nat → Nat → Int) : Rat :=
  ratOf (c (Int.toNat (w64 (w64 ((0 : Int) + (1 : Int)) + (1 : Int)))) 0) (c (Int.toNat (w64 (w64 ((0 : Int) + (1 : Int)) + (1 : Int)))) 1)
noncomputable def LSr3_q28 (c : Nat → Nat → Int) : Rat :=
  ratOf (c (Int.toNat (w64 (w64 ((0 : Int) + (1 : Int)) + (1 : Int)))) 2) (c (Int.toNat (w64 (w64 ((0 : Int) + (1 : Int)) + (1 : Int)))) 3)
noncomputable def LSr3_q29 (c : Nat → Nat → Int) : Rat :=
  ratOf (c (Int.toNat (w64 (w64 ((0 : Int) + (1 : Int)) + (1 : Int)))) 4) (c (Int.toNat (w64 (w64 ((0 : Int) + (1 : Int)) + (1 : Int)))) 5)
noncomputable def LSr3_q30 (c : Nat → Nat → Int) : Rat :=
  ratOf (c (Int.toNat (w64 (w64 ((0 : Int) + (1 : Int)) + (1 : Int)))) 6) (c (Int.toNat (w64 (w64 ((0 : Int) + (1 : Int)) + (1 : Int)))) 7)
noncomputable def LSr3_q31 (c : Nat → Nat → Int) : Option (Rat × Rat × Rat × Rat) :=
  addO (LSr3_q23 c) (LSr3_q24 c) (LSr3_q25 c) (LSr3_q26 c) (LSr3_q27 c) (LSr3_q28 c) (LSr3_q29 c) (LSr3_q30 c)
noncomputable def LSr3_q32 (c : Nat → Nat → Int) : Option Rat :=
  k0 (LSr3_q31 c)
noncomputable def LSr3_q33 (c : Nat → Nat → Int) : Option Rat :=
  k1 (LSr3_q31 c)
noncomputable def LSr3_q34 (c : Nat → Nat → Int) : Option Rat :=
  k2 (LSr3_q31 c)
noncomputable def LSr3_q35 (c : Nat → Nat → Int) : Option Rat :=
  k3 (LSr3_q31 c)
noncomputable def LSr3 (c : Nat → Nat → Int) : Tree SV :=
  .need (true = true)
  (.need ((0 : Int) ≤ (0 : Int) ∧ (0 : Int) < (3 : Int))
   (.need
   (VL (0 : Int) (1 : Int) (0 : Int) (1 : Int) (0 : Int) (1 : Int) (0 : Int) (1 : Int) ∧
   VL (c (Int.toNat (0 : Int)) 0) (c (Int.toNat (0 : Int)) 1) (c (Int.toNat (0 : Int)) 2) (c (Int.toNat (0 : Int)) 3) (c (Int.toNat (0 : Int)) 4) (c (Int.toNat (0 : Int)) 5)
   (c (Int.toNat (0 : Int)) 6) (c (Int.toNat (0 : Int)) 7))
   (.ite (oE (LSr3_q5 c) != (0 : Int))
   (.ret
   (SV.agg
   [iv (oN (LSr3_q6 c)), iv (oD (LSr3_q6 c)), iv (oN (LSr3_q7 c)), iv (oD (LSr3_q7 c)), iv (oN (LSr3_q8 c)), iv (oD (LSr3_q8 c)), iv (oN (LSr3_q9 c)),
   iv (oD (LSr3_q9 c)), iv (oE (LSr3_q5 c))]))
   (.need (true = true)
   (.need ((0 : Int) ≤ (1 : Int) ∧ (1 : Int) < (3 : Int))
   (.need
   (VL (oN (LSr3_q6 c)) (oD (LSr3_q6 c)) (oN (LSr3_q7 c)) (oD (LSr3_q7 c)) (oN (LSr3_q8 c)) (oD (LSr3_q8 c)) (oN (LSr3_q9 c))
   (oD (LSr3_q9 c)) ∧
   VL (c (Int.toNat (w64 ((0 : Int) + (1 : Int)))) 0) (c (Int.toNat (w64 ((0 : Int) + (1 : Int)))) 1) (c (Int.toNat (w64 ((0 : Int) + (1 : Int)))) 2)
   (c (Int.toNat (w64 ((0 : Int) + (1 : Int)))) 3) (c (Int.toNat (w64 ((0 : Int) + (1 : Int)))) 4) (c (Int.toNat (w64 ((0 : Int) + (1 : Int)))) 5)
   (c (Int.toNat (w64 ((0 : Int) + (1 : Int)))) 6) (c (Int.toNat (w64 ((0 : Int) + (1 : Int)))) 7))
   (.ite (oE (LSr3_q18 c) != (0 : Int))
   (.ret
   (SV.agg
   [iv (oN (LSr3_q19 c)), iv (oD (LSr3_q19 c)), iv (oN (LSr3_q20 c)), iv (oD (LSr3_q20 c)), iv (oN (LSr3_q21 c)), iv (oD (LSr3_q21 c)),
   iv (oN (LSr3_q22 c)), iv (oD (LSr3_q22 c)), iv (oE (LSr3_q18 c))]))
   (.need (true = true)
   (.need ((0 : Int) ≤ (2 : Int) ∧ (2 : Int) < (3 : Int))
   (.need
   (VL (oN (LSr3_q19 c)) (oD (LSr3_q19 c)) (oN (LSr3_q20 c)) (oD (LSr3_q20 c)) (oN (LSr3_q21 c)) (oD (LSr3_q21 c)) (oN (LSr3_q22 c))
   (oD (LSr3_q22 c)) ∧
   VL (c (Int.toNat (w64 (w64 ((0 : Int) + (1 : Int)) + (1 : Int)))) 0) (c (Int.toNat (w64 (w64 ((0 : Int) + (1 : Int)) + (1 : Int)))) 1)
   (c (Int.toNat (w64 (w64 ((0 : Int) + (1 : Int)) + (1 : Int)))) 2) (c (Int.toNat (w64 (w64 ((0 : Int) + (1 : Int)) + (1 : Int)))) 3)
   (c (Int.toNat (w64 (w64 ((0 : Int) + (1 : Int)) + (1 : Int)))) 4) (c (Int.toNat (w64 (w64 ((0 : Int) + (1 : Int)) + (1 : Int)))) 5)
   (c (Int.toNat (w64 (w64 ((0 : Int) + (1 : Int)) + (1 : Int)))) 6) (c (Int.toNat (w64 (w64 ((0 : Int) + (1 : Int)) + (1 : Int)))) 7))
   (.ite (oE (LSr3_q31 c) != (0 : Int))
   (.ret
   (SV.agg
   [iv (oN (LSr3_q32 c)), iv (oD (LSr3_q32 c)), iv (oN (LSr3_q33 c)), iv (oD (LSr3_q33 c)), iv (oN (LSr3_q34 c)), iv (oD (LSr3_q34 c)),
   iv (oN (LSr3_q35 c)), iv (oD (LSr3_q35 c)), iv (oE (LSr3_q31 c))]))
   (.need (false = false)
   (.ret
   (SV.agg
   [iv (oN (LSr3_q32 c)), iv (oD (LSr3_q32 c)), iv (oN (LSr3_q33 c)), iv (oD (LSr3_q33 c)), iv (oN (LSr3_q34 c)), iv (oD (LSr3_q34 c)),
   iv (oN (LSr3_q35 c)), iv (oD (LSr3_q35 c)), iv (oE (LSr3_q31 c))]))))))))))))))

theorem LSr3_eq (c : Nat → Nat → Int) : TI (eachH 3) 62 [.d (.ro 3 8 fun i j => .x (.int .i64 (c i j)))] = LSr3 c := by kernel_rfl

end Go.Proofs.Ytpaejfeojdoikaa

namespace Go.Proofs.Ytpaejfeojdoikaa
open Go.Sx
set_option maxRecDepth 100000

/-! ### Multiples -/
theorem CfQ.fits {q : Rat} (h : CfQ q) : fitsR q := Sm.fits h (by decide) (by decide)

end Go.Proofs.Ytpaejfeojdoikaa

namespace Go.Proofs.Ytpaejfeojdoikaa
open Go.Sx
set_option maxRecDepth 100000

end Go.Proofs.Ytpaejfeojdoikaa

