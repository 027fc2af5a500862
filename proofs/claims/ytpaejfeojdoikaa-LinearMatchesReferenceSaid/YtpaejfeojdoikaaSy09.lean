/- Part of a proof of the given statements of this seat (SxFlWl, SxFlWm, SxFlWn, SxFlWo, SxFlWp, SxFlWq, SxFlWr): no conditions beyond those typed here. -/
import Derived.Test.YtpaejfeojdoikaaSy08
set_option linter.unusedVariables false
set_option linter.unusedSimpArgs false

namespace Go.Proofs.Ytpaejfeojdoikaa
open Go.Sx
set_option maxRecDepth 100000

noncomputable def cCont : Ctr := fun ss => match ss with
  | [.agg [.d (.x (.int .i64 a)), .d (.x (.int .i64 b)), .d (.x (.int .i64 c)), .d (.x (.int .i64 d))], .agg [.d (.x (.int .i64 e)), .d (.x (.int .i64 f))]] => .need (VF a b ∧ VF c d ∧ VF e f)
      (.ret (bv (decide (ratOf a b ≤ ratOf e f) && decide (ratOf e f ≤ ratOf c d))))
  | _ => .fail
theorem cCont_ok : CtrOK Try.prog 22 cCont := by
  refine ctrOK_leS CB_ok DB_ok (by kernel_rfl) (by kernel_rfl) fun ss r h => ?_
  unfold cCont at h
  split at h
  · rename_i a b c d e f
    obtain ⟨⟨h1, h2, h3⟩, rfl⟩ := h
    refine ⟨[.agg [iv a, iv b, iv c, iv d], .agg [iv e, iv f]], 200, .nil, by simp [leSVs, leSV, iv, leD], Sat.of_eq (LCt_eq a b c d e f) ⟨?_⟩⟩
    unfold LCt
    rw [cmpR_le, cmpR_le]
    exact ⟨⟨h1, h3⟩, fun _ => ⟨h3, h2⟩, rfl⟩
  · exact h.elim
theorem cContR_ok : CtrOK Try.prog 69 cCont := by
  refine ctrOK_leS CB_ok DB_ok (by kernel_rfl) (by kernel_rfl) fun ss r h => ?_
  unfold cCont at h
  split at h
  · rename_i a b c d e f
    obtain ⟨⟨h1, h2, h3⟩, rfl⟩ := h
    refine ⟨[.agg [iv a, iv b, iv c, iv d], .agg [iv e, iv f]], 200, .nil, by simp [leSVs, leSV, iv, leD], Sat.of_eq (LCtR_eq a b c d e f) ⟨?_⟩⟩
    unfold LCtR
    rw [cmpR_le, cmpR_le]
    exact ⟨⟨h1, h3⟩, fun _ => ⟨h3, h2⟩, rfl⟩
  · exact h.elim

noncomputable def cVi : Ctr := fun ss => match ss with
  | [.agg [.d (.x (.int .i64 a)), .d (.x (.int .i64 b)), .d (.x (.int .i64 c)), .d (.x (.int .i64 d))]] => .ret (bv (vB a b && vB c d && decide (ratOf a b ≤ ratOf c d)))
  | _ => .fail
theorem cVi_ok : CtrOK Try.prog 30 cVi := by
  refine ctrOK_leS CB_ok DB_ok (by kernel_rfl) (by kernel_rfl) fun ss r h => ?_
  unfold cVi at h
  split at h
  · rename_i a b c d
    obtain rfl := h
    refine ⟨[.agg [iv a, iv b, iv c, iv d]], 200, .nil, by simp [leSVs, leSV, iv, leD], Sat.of_eq (LVi_eq a b c d) ⟨?_⟩⟩
    unfold LVi
    rw [cmpR_le]
    refine ⟨fun h => ?_, rfl⟩
    rw [Bool.and_eq_true] at h; exact ⟨vB_iff.1 h.1, vB_iff.1 h.2⟩
  · exact h.elim
theorem cViR_ok : CtrOK Try.prog 20 cVi := by
  refine ctrOK_leS CB_ok DB_ok (by kernel_rfl) (by kernel_rfl) fun ss r h => ?_
  unfold cVi at h
  split at h
  · rename_i a b c d
    obtain rfl := h
    refine ⟨[.agg [iv a, iv b, iv c, iv d]], 200, .nil, by simp [leSVs, leSV, iv, leD], Sat.of_eq (LViR_eq a b c d) ⟨?_⟩⟩
    unfold LViR
    rw [cmpR_le]
    refine ⟨fun h => ?_, rfl⟩
    rw [Bool.and_eq_true] at h; exact ⟨vB_iff.1 h.1, vB_iff.1 h.2⟩
  · exact h.elim

/-- The sum of two intervals. -/
noncomputable def plsO (a b c d : Rat) : Option (Rat × Rat) := pairO (fit (a + c)) (fit (b + d))
noncomputable def cPls : Ctr := fun ss => match ss with
  | [.agg [.d (.x (.int .i64 a)), .d (.x (.int .i64 b)), .d (.x (.int .i64 c)), .d (.x (.int .i64 d))], .agg [.d (.x (.int .i64 e)), .d (.x (.int .i64 f)), .d (.x (.int .i64 g)), .d (.x (.int .i64 h))]] => .need (VF a b ∧ VF c d ∧ VF e f ∧ VF g h)
      (.ret (.tup [.agg [iv (lN (plsO (ratOf a b) (ratOf c d) (ratOf e f) (ratOf g h))), iv (lD (plsO (ratOf a b) (ratOf c d) (ratOf e f) (ratOf g h))), iv (hN (plsO (ratOf a b) (ratOf c d) (ratOf e f) (ratOf g h))), iv (hD (plsO (ratOf a b) (ratOf c d) (ratOf e f) (ratOf g h)))], iv (oE (plsO (ratOf a b) (ratOf c d) (ratOf e f) (ratOf g h)))]))
  | _ => .fail
noncomputable def cPlsR : Ctr := fun ss => match ss with
  | [.agg [.d (.x (.int .i64 a)), .d (.x (.int .i64 b)), .d (.x (.int .i64 c)), .d (.x (.int .i64 d))], .agg [.d (.x (.int .i64 e)), .d (.x (.int .i64 f)), .d (.x (.int .i64 g)), .d (.x (.int .i64 h))]] => .need (VF a b ∧ VF c d ∧ VF e f ∧ VF g h)
      (.ret (.agg [iv (lN (plsO (ratOf a b) (ratOf c d) (ratOf e f) (ratOf g h))), iv (lD (plsO (ratOf a b) (ratOf c d) (ratOf e f) (ratOf g h))), iv (hN (plsO (ratOf a b) (ratOf c d) (ratOf e f) (ratOf g h))), iv (hD (plsO (ratOf a b) (ratOf c d) (ratOf e f) (ratOf g h))), iv (oE (plsO (ratOf a b) (ratOf c d) (ratOf e f) (ratOf g h)))]))
  | _ => .fail
theorem cPls_ok : CtrOK Try.prog 86 cPls := by
  refine ctrOK_leS CB_ok DB_ok (by kernel_rfl) (by kernel_rfl) fun ss r hh => ?_
  unfold cPls at hh
  split at hh
  · rename_i a b c d e f g h
    obtain ⟨⟨h1, h2, h3, h4⟩, rfl⟩ := hh
    refine ⟨[.agg [iv a, iv b, iv c, iv d], .agg [iv e, iv f, iv g, iv h]], 200, .nil, by simp [leSVs, leSV, iv, leD], Sat.of_eq (LPs_eq a b c d e f g h) ⟨?_⟩⟩
    unfold LPs plsO
    generalize ratOf a b + ratOf e f = x
    generalize ratOf c d + ratOf g h = y
    refine ⟨⟨h1, h3⟩, fun k => ?_, fun k => ⟨⟨h2, h4⟩, fun l => ?_, fun l => ?_⟩⟩
    · rw [fit_no (rE_ne k), rE_no (rE_ne k)]; exact rfl
    · rw [fit_of (rE_eq k), fit_no (rE_ne l), rE_no (rE_ne l)]; exact rfl
    · rw [fit_of (rE_eq k), fit_of (rE_eq l), rN_of (rE_eq k), rD_of (rE_eq k), rN_of (rE_eq l), rD_of (rE_eq l)]; exact rfl
  · exact hh.elim
theorem cPlsR_ok : CtrOK Try.prog 67 cPlsR := by
  refine ctrOK_leS CB_ok DB_ok (by kernel_rfl) (by kernel_rfl) fun ss r hh => ?_
  unfold cPlsR at hh
  split at hh
  · rename_i a b c d e f g h
    obtain ⟨⟨h1, h2, h3, h4⟩, rfl⟩ := hh
    refine ⟨[.agg [iv a, iv b, iv c, iv d], .agg [iv e, iv f, iv g, iv h]], 200, .nil, by simp [leSVs, leSV, iv, leD], Sat.of_eq (LPsR_eq a b c d e f g h) ⟨?_⟩⟩
    unfold LPsR plsO
    generalize ratOf a b + ratOf e f = x
    generalize ratOf c d + ratOf g h = y
    refine ⟨⟨h1, h3⟩, ⟨h2, h4⟩, fun k => ?_, fun k => ?_⟩
    · by_cases hx : fitsR x
      · by_cases hy : fitsR y
        · rw [rE_of hx, rE_of hy] at k; simp at k
        · rw [fit_of hx, fit_no hy]; exact rfl
      · rw [fit_no hx]; exact rfl
    · rw [Bool.or_eq_false_iff] at k
      rw [fit_of (rE_eq k.1), fit_of (rE_eq k.2), rN_of (rE_eq k.1), rD_of (rE_eq k.1), rN_of (rE_eq k.2), rD_of (rE_eq k.2)]; exact rfl
  · exact hh.elim

noncomputable def manC : FuncId → Option Ctr := fun k => match k with
  | 14 => some cEx04
  | 22 => some cCont
  | 69 => some cCont
  | 30 => some cVi
  | 20 => some cVi
  | 86 => some cPls
  | 67 => some cPlsR
  | k => manB k
theorem manC_ok (k : Nat) (c : Ctr) (h : manC k = some c) : CtrOK Try.prog k c ∧ goodF Try.prog k = true := by
  unfold manC at h
  split at h
  · cases h; exact ⟨cEx04_ok, by kernel_rfl⟩
  · cases h; exact ⟨cCont_ok, by kernel_rfl⟩
  · cases h; exact ⟨cContR_ok, by kernel_rfl⟩
  · cases h; exact ⟨cVi_ok, by kernel_rfl⟩
  · cases h; exact ⟨cViR_ok, by kernel_rfl⟩
  · cases h; exact ⟨cPls_ok, by kernel_rfl⟩
  · cases h; exact ⟨cPlsR_ok, by kernel_rfl⟩
  · exact manB_ok _ _ h
noncomputable def CC : Ctx := ctxN Try.prog manC (fun _ => false) 200 .nil 6
theorem CC_ok : CtxOK Try.prog CC := ctxN_ok mixed manC_ok 6
noncomputable def DC : Dr := fun _ => drawn Try.prog CC
theorem DC_ok : DrOK Try.prog CC DC := drawn_ok CC_ok mixed
noncomputable def TC (h : Hint) (k : Nat) (args : List SV) : Tree SV := fnT Try.prog CC DC 200 (fnOf Try.prog k) (bodyOf Try.prog k) args h

noncomputable def LWi (a b c d e f g h : Int) : Tree SV :=
  .need (VF e f ∧ VF g h ∧ VF a b)
  (.need ((decide (ratOf e f ≤ ratOf a b) && decide (ratOf a b ≤ ratOf g h)) = true → VF e f ∧ VF g h ∧ VF c d)
    (.ret (bv (decide (ratOf e f ≤ ratOf a b) && decide (ratOf a b ≤ ratOf g h) && (decide (ratOf e f ≤ ratOf c d) && decide (ratOf c d ≤ ratOf g h))))))

theorem LWi_eq (a b c d e f g h : Int) : TC .nil 25 [.agg [iv a, iv b, iv c, iv d], .agg [iv e, iv f, iv g, iv h]] = LWi a b c d e f g h := by kernel_rfl

noncomputable def LWiR (a b c d e f g h : Int) : Tree SV :=
  .need (VF e f ∧ VF g h ∧ VF a b)
  (.need ((decide (ratOf e f ≤ ratOf a b) && decide (ratOf a b ≤ ratOf g h)) = true → VF e f ∧ VF g h ∧ VF c d)
    (.ret (bv (decide (ratOf e f ≤ ratOf a b) && decide (ratOf a b ≤ ratOf g h) && (decide (ratOf e f ≤ ratOf c d) && decide (ratOf c d ≤ ratOf g h))))))

theorem LWiR_eq (a b c d e f g h : Int) : TC .nil 70 [.agg [iv a, iv b, iv c, iv d], .agg [iv e, iv f, iv g, iv h]] = LWiR a b c d e f g h := by kernel_rfl

noncomputable def LBox (n : Nat) (c : Nat → Int) : Tree SV :=
  .need ((Byt n fun i x => DV.x (.int .u8 (c i))) ∧ (0 : Int) ≤ (0 : Int) ∧ (0 : Int) < (1000000 : Int) ∧ (0 : Int) = (0 : Int))
  (.need ((Byt n fun i x => DV.x (.int .u8 (c i))) ∧ (0 : Int) ≤ (4 : Int) ∧ (4 : Int) < (1000000 : Int) ∧ (0 : Int) = (0 : Int))
    (.need ((Byt n fun i x => DV.x (.int .u8 (c i))) ∧ (0 : Int) ≤ (8 : Int) ∧ (8 : Int) < (1000000 : Int) ∧ (0 : Int) = (0 : Int))
      (.ret
        (SV.agg
          [iv (Rat.num (loQ n (fun i => c i) 0)), iv (↑(Rat.den (loQ n (fun i => c i) 0)) : Int), iv (Rat.num (hiQ n (fun i => c i) 0)), iv (↑(Rat.den (hiQ n (fun i => c i) 0)) : Int),
            iv (Rat.num (loQ n (fun i => c i) 1)), iv (↑(Rat.den (loQ n (fun i => c i) 1)) : Int), iv (Rat.num (hiQ n (fun i => c i) 1)), iv (↑(Rat.den (hiQ n (fun i => c i) 1)) : Int),
            iv (Rat.num (loQ n (fun i => c i) 2)), iv (↑(Rat.den (loQ n (fun i => c i) 2)) : Int), iv (Rat.num (hiQ n (fun i => c i) 2)), iv (↑(Rat.den (hiQ n (fun i => c i) 2)) : Int)]))))

theorem LBox_eq (n : Nat) (c : Nat → Int) : TC .nil 16 [ro8 n c] = LBox n c := by kernel_rfl

noncomputable def LPt (a0 a1 a2 a3 b0 b1 b2 b3 c0 c1 c2 c3 k0 k1 k2 : Int) : Tree SV :=
  .need ((0 : Int) ≤ (0 : Int) ∧ (0 : Int) < (3 : Int))
  (.need (0 < 3)
    (.need (VF a0 a1 ∧ VF a2 a3 ∧ Sm (60 : Nat) (20 : Nat) (ratOf a0 a1) ∧ Sm (60 : Nat) (20 : Nat) (ratOf a2 a3) ∧ (0 : Int) ≤ k0 ∧ k0 < (256 : Int))
      (.need ((0 : Int) ≤ (1 : Int) ∧ (1 : Int) < (3 : Int))
        (.need (1 < 3)
          (.need (VF b0 b1 ∧ VF b2 b3 ∧ Sm (60 : Nat) (20 : Nat) (ratOf b0 b1) ∧ Sm (60 : Nat) (20 : Nat) (ratOf b2 b3) ∧ (0 : Int) ≤ k1 ∧ k1 < (256 : Int))
            (.need ((0 : Int) ≤ (2 : Int) ∧ (2 : Int) < (3 : Int))
              (.need (2 < 3)
                (.need (VF c0 c1 ∧ VF c2 c3 ∧ Sm (60 : Nat) (20 : Nat) (ratOf c0 c1) ∧ Sm (60 : Nat) (20 : Nat) (ratOf c2 c3) ∧ (0 : Int) ≤ k2 ∧ k2 < (256 : Int))
                  (.ret
                    (SV.agg
                      [iv (Rat.num (btw (ratOf a0 a1) (ratOf a2 a3) k0)), iv (↑(Rat.den (btw (ratOf a0 a1) (ratOf a2 a3) k0)) : Int), iv (Rat.num (btw (ratOf b0 b1) (ratOf b2 b3) k1)),
                        iv (↑(Rat.den (btw (ratOf b0 b1) (ratOf b2 b3) k1)) : Int), iv (Rat.num (btw (ratOf c0 c1) (ratOf c2 c3) k2)), iv (↑(Rat.den (btw (ratOf c0 c1) (ratOf c2 c3) k2)) : Int)]))))))))))

theorem LPt_eq (a0 a1 a2 a3 b0 b1 b2 b3 c0 c1 c2 c3 k0 k1 k2 : Int) : TC .nil 19 [.agg [iv a0, iv a1, iv a2, iv a3, iv b0, iv b1, iv b2, iv b3, iv c0, iv c1, iv c2, iv c3], .agg [u8 k0, u8 k1, u8 k2]] = LPt a0 a1 a2 a3 b0 b1 b2 b3 c0 c1 c2 c3 k0 k1 k2 := by kernel_rfl


end Go.Proofs.Ytpaejfeojdoikaa

namespace Go.Proofs.Ytpaejfeojdoikaa
open Go.Sx
set_option maxRecDepth 100000

noncomputable def cWi : Ctr := fun ss => match ss with
  | [.agg [.d (.x (.int .i64 a)), .d (.x (.int .i64 b)), .d (.x (.int .i64 c)), .d (.x (.int .i64 d))], .agg [.d (.x (.int .i64 e)), .d (.x (.int .i64 f)), .d (.x (.int .i64 g)), .d (.x (.int .i64 h))]] => .need (VF a b ∧ VF c d ∧ VF e f ∧ VF g h)
      (.ret (bv (decide (ratOf e f ≤ ratOf a b) && decide (ratOf a b ≤ ratOf g h) && (decide (ratOf e f ≤ ratOf c d) && decide (ratOf c d ≤ ratOf g h)))))
  | _ => .fail
theorem cWi_ok : CtrOK Try.prog 25 cWi := by
  refine ctrOK_leS CC_ok DC_ok (by kernel_rfl) (by kernel_rfl) fun ss r hh => ?_
  unfold cWi at hh
  split at hh
  · rename_i a b c d e f g h
    obtain ⟨⟨h1, h2, h3, h4⟩, rfl⟩ := hh
    refine ⟨[.agg [iv a, iv b, iv c, iv d], .agg [iv e, iv f, iv g, iv h]], 200, .nil, by simp [leSVs, leSV, iv, leD], Sat.of_eq (LWi_eq a b c d e f g h) ⟨?_⟩⟩
    unfold LWi
    exact ⟨⟨h3, h4, h1⟩, fun _ => ⟨h3, h4, h2⟩, rfl⟩
  · exact hh.elim
theorem cWiR_ok : CtrOK Try.prog 70 cWi := by
  refine ctrOK_leS CC_ok DC_ok (by kernel_rfl) (by kernel_rfl) fun ss r hh => ?_
  unfold cWi at hh
  split at hh
  · rename_i a b c d e f g h
    obtain ⟨⟨h1, h2, h3, h4⟩, rfl⟩ := hh
    refine ⟨[.agg [iv a, iv b, iv c, iv d], .agg [iv e, iv f, iv g, iv h]], 200, .nil, by simp [leSVs, leSV, iv, leD], Sat.of_eq (LWiR_eq a b c d e f g h) ⟨?_⟩⟩
    unfold LWiR
    exact ⟨⟨h3, h4, h1⟩, fun _ => ⟨h3, h4, h2⟩, rfl⟩
  · exact hh.elim

noncomputable def cBox : Ctr := fun ss => match ss with
  | [.d (.ro n 1 cell)] => .need (Byt n cell) (.ret (.agg [iv (loQ n (intCell cell) 0).num, iv (loQ n (intCell cell) 0).den, iv (hiQ n (intCell cell) 0).num, iv (hiQ n (intCell cell) 0).den,
      iv (loQ n (intCell cell) 1).num, iv (loQ n (intCell cell) 1).den, iv (hiQ n (intCell cell) 1).num, iv (hiQ n (intCell cell) 1).den,
      iv (loQ n (intCell cell) 2).num, iv (loQ n (intCell cell) 2).den, iv (hiQ n (intCell cell) 2).num, iv (hiQ n (intCell cell) 2).den]))
  | _ => .fail
theorem cBox_ok : CtrOK Try.prog 16 cBox := by
  refine ctrOK_leS CC_ok DC_ok (by kernel_rfl) (by kernel_rfl) fun ss r h => ?_
  unfold cBox at h
  split at h
  · rename_i n cell
    obtain ⟨h1, rfl⟩ := h
    refine ⟨[ro8 n (intCell cell)], 200, .nil, ?_, Sat.of_eq (LBox_eq n (intCell cell)) ⟨?_⟩⟩
    · simp only [leSVs, leSV, ro8, leD, and_true, true_and]
      exact le_ro8 h1
    · unfold LBox
      have b := byt_ro h1
      exact ⟨⟨b, by decide⟩, ⟨b, by decide⟩, ⟨b, by decide⟩, rfl⟩
  · exact h.elim

structure SInt (a b c d : Int) : Prop where
  l : VF a b
  h : VF c d
  ls : Sm 60 20 (ratOf a b)
  hs : Sm 60 20 (ratOf c d)
noncomputable def cPt : Ctr := fun ss => match ss with
  | [.agg l, .agg [.d (.x (.int .u8 k0)), .d (.x (.int .u8 k1)), .d (.x (.int .u8 k2))]] => match intsOf .i64 l with
    | some [a0, a1, a2, a3, b0, b1, b2, b3, c0, c1, c2, c3] => .need ((SInt a0 a1 a2 a3 ∧ SInt b0 b1 b2 b3 ∧ SInt c0 c1 c2 c3) ∧ (0 ≤ k0 ∧ k0 < 256) ∧ (0 ≤ k1 ∧ k1 < 256) ∧ (0 ≤ k2 ∧ k2 < 256))
      (.ret (.agg [iv (btw (ratOf a0 a1) (ratOf a2 a3) k0).num, iv (btw (ratOf a0 a1) (ratOf a2 a3) k0).den, iv (btw (ratOf b0 b1) (ratOf b2 b3) k1).num, iv (btw (ratOf b0 b1) (ratOf b2 b3) k1).den, iv (btw (ratOf c0 c1) (ratOf c2 c3) k2).num, iv (btw (ratOf c0 c1) (ratOf c2 c3) k2).den]))
    | _ => .fail
  | _ => .fail
theorem cPt_ok : CtrOK Try.prog 19 cPt := by
  refine ctrOK_leS CC_ok DC_ok (by kernel_rfl) (by kernel_rfl) fun ss r h => ?_
  unfold cPt at h
  split at h
  · rename_i k0 k1 k2
    split at h
    · rename_i a0 a1 a2 a3 b0 b1 b2 b3 c0 c1 c2 c3 e1
      obtain ⟨⟨⟨s0, s1, s2⟩, h0, h1, h2⟩, rfl⟩ := h
      rw [intsOf_eq e1]
      refine ⟨[.agg [iv a0, iv a1, iv a2, iv a3, iv b0, iv b1, iv b2, iv b3, iv c0, iv c1, iv c2, iv c3], .agg [u8 k0, u8 k1, u8 k2]], 200, .nil, by simp [leSVs, leSV, iv, u8, leD], Sat.of_eq (LPt_eq a0 a1 a2 a3 b0 b1 b2 b3 c0 c1 c2 c3 k0 k1 k2) ⟨?_⟩⟩
      unfold LPt
      exact ⟨by decide, by decide, ⟨s0.l, s0.h, s0.ls, s0.hs, h0⟩, by decide, by decide, ⟨s1.l, s1.h, s1.ls, s1.hs, h1⟩, by decide, by decide, ⟨s2.l, s2.h, s2.ls, s2.hs, h2⟩, rfl⟩
    · exact h.elim
  · exact h.elim

noncomputable def manE : FuncId → Option Ctr := fun k => match k with
  | 25 => some cWi
  | 70 => some cWi
  | 16 => some cBox
  | 19 => some cPt
  | k => manC k
theorem manE_ok (k : Nat) (c : Ctr) (h : manE k = some c) : CtrOK Try.prog k c ∧ goodF Try.prog k = true := by
  unfold manE at h
  split at h
  · cases h; exact ⟨cWi_ok, by kernel_rfl⟩
  · cases h; exact ⟨cWiR_ok, by kernel_rfl⟩
  · cases h; exact ⟨cBox_ok, by kernel_rfl⟩
  · cases h; exact ⟨cPt_ok, by kernel_rfl⟩
  · exact manC_ok _ _ h
noncomputable def CE : Ctx := ctxN Try.prog manE (fun _ => false) 200 .nil 6
theorem CE_ok : CtxOK Try.prog CE := ctxN_ok mixed manE_ok 6
noncomputable def DE : Dr := fun _ => drawn Try.prog CE
theorem DE_ok : DrOK Try.prog CE DE := drawn_ok CE_ok mixed
noncomputable def TE (h : Hint) (k : Nat) (args : List SV) : Tree SV := fnT Try.prog CE DE 200 (fnOf Try.prog k) (bodyOf Try.prog k) args h

def inH : Nat → Hint
  | 0 => .u (.f .nil)
  | n + 1 => .u (.t (.br .nil (inH n)))
noncomputable def LIn (a0 a1 a2 a3 b0 b1 b2 b3 c0 c1 c2 c3 d0 d1 d2 d3 e0 e1 e2 e3 f0 f1 f2 f3 : Int) : Tree SV :=
  .need (true = true)
  (.need ((0 : Int) ≤ (0 : Int) ∧ (0 : Int) < (3 : Int))
   (.need (0 < 3)
   (.need ((0 : Int) ≤ (0 : Int) ∧ (0 : Int) < (3 : Int))
   (.need (0 < 3)
   (.need (VF a0 a1 ∧ VF a2 a3 ∧ VF d0 d1 ∧ VF d2 d3)
   (.ite (!(decide (ratOf d0 d1 ≤ ratOf a0 a1) && decide (ratOf a0 a1 ≤ ratOf d2 d3) && (decide (ratOf d0 d1 ≤ ratOf a2 a3) && decide (ratOf a2 a3 ≤ ratOf d2 d3)))) (.ret (bv false))
   (.need (true = true)
   (.need ((0 : Int) ≤ (1 : Int) ∧ (1 : Int) < (3 : Int))
   (.need (1 < 3)
   (.need ((0 : Int) ≤ (1 : Int) ∧ (1 : Int) < (3 : Int))
   (.need (1 < 3)
   (.need (VF b0 b1 ∧ VF b2 b3 ∧ VF e0 e1 ∧ VF e2 e3)
   (.ite (!(decide (ratOf e0 e1 ≤ ratOf b0 b1) && decide (ratOf b0 b1 ≤ ratOf e2 e3) && (decide (ratOf e0 e1 ≤ ratOf b2 b3) && decide (ratOf b2 b3 ≤ ratOf e2 e3)))) (.ret (bv false))
   (.need (true = true)
   (.need ((0 : Int) ≤ (2 : Int) ∧ (2 : Int) < (3 : Int))
   (.need (2 < 3)
   (.need ((0 : Int) ≤ (2 : Int) ∧ (2 : Int) < (3 : Int))
   (.need (2 < 3)
   (.need (VF c0 c1 ∧ VF c2 c3 ∧ VF f0 f1 ∧ VF f2 f3)
   (.ite (!(decide (ratOf f0 f1 ≤ ratOf c0 c1) && decide (ratOf c0 c1 ≤ ratOf f2 f3) && (decide (ratOf f0 f1 ≤ ratOf c2 c3) && decide (ratOf c2 c3 ≤ ratOf f2 f3)))) (.ret (bv false))
   (.need (false = false) (.ret (bv true)))))))))))))))))))))))

theorem LIn_eq (a0 a1 a2 a3 b0 b1 b2 b3 c0 c1 c2 c3 d0 d1 d2 d3 e0 e1 e2 e3 f0 f1 f2 f3 : Int) : TE (inH 3) 24 [.agg [iv a0, iv a1, iv a2, iv a3, iv b0, iv b1, iv b2, iv b3, iv c0, iv c1, iv c2, iv c3], .agg [iv d0, iv d1, iv d2, iv d3, iv e0, iv e1, iv e2, iv e3, iv f0, iv f1, iv f2, iv f3]] = LIn a0 a1 a2 a3 b0 b1 b2 b3 c0 c1 c2 c3 d0 d1 d2 d3 e0 e1 e2 e3 f0 f1 f2 f3 := by kernel_rfl

noncomputable def LInR (a0 a1 a2 a3 b0 b1 b2 b3 c0 c1 c2 c3 d0 d1 d2 d3 e0 e1 e2 e3 f0 f1 f2 f3 : Int) : Tree SV :=
  .need (VF a0 a1 ∧ VF a2 a3 ∧ VF d0 d1 ∧ VF d2 d3)
  (.need ((decide (ratOf d0 d1 ≤ ratOf a0 a1) && decide (ratOf a0 a1 ≤ ratOf d2 d3) && (decide (ratOf d0 d1 ≤ ratOf a2 a3) && decide (ratOf a2 a3 ≤ ratOf d2 d3))) = true → VF b0 b1 ∧ VF b2 b3 ∧ VF e0 e1 ∧ VF e2 e3)
    (.need
      ((decide (ratOf d0 d1 ≤ ratOf a0 a1) && decide (ratOf a0 a1 ≤ ratOf d2 d3) && (decide (ratOf d0 d1 ≤ ratOf a2 a3) && decide (ratOf a2 a3 ≤ ratOf d2 d3)) &&
            (decide (ratOf e0 e1 ≤ ratOf b0 b1) && decide (ratOf b0 b1 ≤ ratOf e2 e3) && (decide (ratOf e0 e1 ≤ ratOf b2 b3) && decide (ratOf b2 b3 ≤ ratOf e2 e3)))) =
          true →
        VF c0 c1 ∧ VF c2 c3 ∧ VF f0 f1 ∧ VF f2 f3)
      (.ret
        (bv
          (decide (ratOf d0 d1 ≤ ratOf a0 a1) && decide (ratOf a0 a1 ≤ ratOf d2 d3) && (decide (ratOf d0 d1 ≤ ratOf a2 a3) && decide (ratOf a2 a3 ≤ ratOf d2 d3)) &&
              (decide (ratOf e0 e1 ≤ ratOf b0 b1) && decide (ratOf b0 b1 ≤ ratOf e2 e3) && (decide (ratOf e0 e1 ≤ ratOf b2 b3) && decide (ratOf b2 b3 ≤ ratOf e2 e3))) &&
            (decide (ratOf f0 f1 ≤ ratOf c0 c1) && decide (ratOf c0 c1 ≤ ratOf f2 f3) && (decide (ratOf f0 f1 ≤ ratOf c2 c3) && decide (ratOf c2 c3 ≤ ratOf f2 f3))))))))

theorem LInR_eq (a0 a1 a2 a3 b0 b1 b2 b3 c0 c1 c2 c3 d0 d1 d2 d3 e0 e1 e2 e3 f0 f1 f2 f3 : Int) : TE .nil 71 [.agg [iv a0, iv a1, iv a2, iv a3, iv b0, iv b1, iv b2, iv b3, iv c0, iv c1, iv c2, iv c3], .agg [iv d0, iv d1, iv d2, iv d3, iv e0, iv e1, iv e2, iv e3, iv f0, iv f1, iv f2, iv f3]] = LInR a0 a1 a2 a3 b0 b1 b2 b3 c0 c1 c2 c3 d0 d1 d2 d3 e0 e1 e2 e3 f0 f1 f2 f3 := by kernel_rfl

noncomputable def LPart (a0 a1 a2 a3 b0 b1 b2 b3 c0 c1 c2 c3 k0 k1 k2 k3 k4 k5 : Int) : Tree SV :=
  .need ((0 : Int) ≤ (0 : Int) ∧ (0 : Int) < (6 : Int))
  (.need (0 < 6)
   (.need ((0 : Int) ≤ (1 : Int) ∧ (1 : Int) < (6 : Int))
   (.need (1 < 6)
   (.need ((0 : Int) ≤ (2 : Int) ∧ (2 : Int) < (6 : Int))
   (.need (2 < 6)
   (.need ((SInt a0 a1 a2 a3 ∧ SInt b0 b1 b2 b3 ∧ SInt c0 c1 c2 c3) ∧ ((0 : Int) ≤ k0 ∧ k0 < (256 : Int)) ∧ ((0 : Int) ≤ k1 ∧ k1 < (256 : Int)) ∧ (0 : Int) ≤ k2 ∧ k2 < (256 : Int))
   (.need ((0 : Int) ≤ (3 : Int) ∧ (3 : Int) < (6 : Int))
   (.need (3 < 6)
   (.need ((0 : Int) ≤ (4 : Int) ∧ (4 : Int) < (6 : Int))
   (.need (4 < 6)
   (.need ((0 : Int) ≤ (5 : Int) ∧ (5 : Int) < (6 : Int))
   (.need (5 < 6)
   (.need ((SInt a0 a1 a2 a3 ∧ SInt b0 b1 b2 b3 ∧ SInt c0 c1 c2 c3) ∧ ((0 : Int) ≤ k3 ∧ k3 < (256 : Int)) ∧ ((0 : Int) ≤ k4 ∧ k4 < (256 : Int)) ∧ (0 : Int) ≤ k5 ∧ k5 < (256 : Int))
   (.need (true = true)
   (.need ((0 : Int) ≤ (0 : Int) ∧ (0 : Int) < (3 : Int))
   (.need (0 < 3)
   (.need ((0 : Int) ≤ (0 : Int) ∧ (0 : Int) < (3 : Int))
   (.need (0 < 3)
   (.need
   (VF (Rat.num (btw (ratOf a0 a1) (ratOf a2 a3) k0)) (↑(Rat.den (btw (ratOf a0 a1) (ratOf a2 a3) k0)) : Int) ∧
   VF (Rat.num (btw (ratOf a0 a1) (ratOf a2 a3) k3)) (↑(Rat.den (btw (ratOf a0 a1) (ratOf a2 a3) k3)) : Int))
   (.need ((0 : Int) ≤ (0 : Int) ∧ (0 : Int) < (3 : Int))
   (.need (0 < 3)
   (.need ((0 : Int) ≤ (0 : Int) ∧ (0 : Int) < (3 : Int))
   (.need (0 < 3)
   (.need
   (VF (Rat.num (btw (ratOf a0 a1) (ratOf a2 a3) k0)) (↑(Rat.den (btw (ratOf a0 a1) (ratOf a2 a3) k0)) : Int) ∧
   VF (Rat.num (btw (ratOf a0 a1) (ratOf a2 a3) k3)) (↑(Rat.den (btw (ratOf a0 a1) (ratOf a2 a3) k3)) : Int))
   (.need
   (0 ≤ 0 ∧
   4 ≤
   List.length
   [iv
   (Rat.num
   (mn (ratOf (Rat.num (btw (ratOf a0 a1) (ratOf a2 a3) k0)) (↑(Rat.den (btw (ratOf a0 a1) (ratOf a2 a3) k0)) : Int))
   (ratOf (Rat.num (btw (ratOf a0 a1) (ratOf a2 a3) k3)) (↑(Rat.den (btw (ratOf a0 a1) (ratOf a2 a3) k3)) : Int)))),
   iv
   (↑(Rat.den
   (mn (ratOf (Rat.num (btw (ratOf a0 a1) (ratOf a2 a3) k0)) (↑(Rat.den (btw (ratOf a0 a1) (ratOf a2 a3) k0)) : Int))
   (ratOf (Rat.num (btw (ratOf a0 a1) (ratOf a2 a3) k3)) (↑(Rat.den (btw (ratOf a0 a1) (ratOf a2 a3) k3)) : Int)))) :
   Int),
   iv
   (Rat.num
   (mx (ratOf (Rat.num (btw (ratOf a0 a1) (ratOf a2 a3) k0)) (↑(Rat.den (btw (ratOf a0 a1) (ratOf a2 a3) k0)) : Int))
   (ratOf (Rat.num (btw (ratOf a0 a1) (ratOf a2 a3) k3)) (↑(Rat.den (btw (ratOf a0 a1) (ratOf a2 a3) k3)) : Int)))),
   iv
   (↑(Rat.den
   (mx (ratOf (Rat.num (btw (ratOf a0 a1) (ratOf a2 a3) k0)) (↑(Rat.den (btw (ratOf a0 a1) (ratOf a2 a3) k0)) : Int))
   (ratOf (Rat.num (btw (ratOf a0 a1) (ratOf a2 a3) k3)) (↑(Rat.den (btw (ratOf a0 a1) (ratOf a2 a3) k3)) : Int)))) :
   Int)] ∧
   32 ≤ 140737488355328)
   (.need (true = true)
   (.need ((0 : Int) ≤ (1 : Int) ∧ (1 : Int) < (3 : Int))
   (.need (1 < 3)
   (.need ((0 : Int) ≤ (1 : Int) ∧ (1 : Int) < (3 : Int))
   (.need (1 < 3)
   (.need
   (VF (Rat.num (btw (ratOf b0 b1) (ratOf b2 b3) k1)) (↑(Rat.den (btw (ratOf b0 b1) (ratOf b2 b3) k1)) : Int) ∧
   VF (Rat.num (btw (ratOf b0 b1) (ratOf b2 b3) k4)) (↑(Rat.den (btw (ratOf b0 b1) (ratOf b2 b3) k4)) : Int))
   (.need ((0 : Int) ≤ (1 : Int) ∧ (1 : Int) < (3 : Int))
   (.need (1 < 3)
   (.need ((0 : Int) ≤ (1 : Int) ∧ (1 : Int) < (3 : Int))
   (.need (1 < 3)
   (.need
   (VF (Rat.num (btw (ratOf b0 b1) (ratOf b2 b3) k1)) (↑(Rat.den (btw (ratOf b0 b1) (ratOf b2 b3) k1)) : Int) ∧
   VF (Rat.num (btw (ratOf b0 b1) (ratOf b2 b3) k4)) (↑(Rat.den (btw (ratOf b0 b1) (ratOf b2 b3) k4)) : Int))
   (.need
   (1 ≤ 1 ∧
   4 ≤
   List.length
   [iv
   (Rat.num
   (mn (ratOf (Rat.num (btw (ratOf b0 b1) (ratOf b2 b3) k1)) (↑(Rat.den (btw (ratOf b0 b1) (ratOf b2 b3) k1)) : Int))
   (ratOf (Rat.num (btw (ratOf b0 b1) (ratOf b2 b3) k4)) (↑(Rat.den (btw (ratOf b0 b1) (ratOf b2 b3) k4)) : Int)))),
   iv
   (↑(Rat.den
   (mn (ratOf (Rat.num (btw (ratOf b0 b1) (ratOf b2 b3) k1)) (↑(Rat.den (btw (ratOf b0 b1) (ratOf b2 b3) k1)) : Int))
   (ratOf (Rat.num (btw (ratOf b0 b1) (ratOf b2 b3) k4)) (↑(Rat.den (btw (ratOf b0 b1) (ratOf b2 b3) k4)) : Int)))) :
   Int),
   iv
   (Rat.num
   (mx (ratOf (Rat.num (btw (ratOf b0 b1) (ratOf b2 b3) k1)) (↑(Rat.den (btw (ratOf b0 b1) (ratOf b2 b3) k1)) : Int))
   (ratOf (Rat.num (btw (ratOf b0 b1) (ratOf b2 b3) k4)) (↑(Rat.den (btw (ratOf b0 b1) (ratOf b2 b3) k4)) : Int)))),
   iv
   (↑(Rat.den
   (mx (ratOf (Rat.num (btw (ratOf b0 b1) (ratOf b2 b3) k1)) (↑(Rat.den (btw (ratOf b0 b1) (ratOf b2 b3) k1)) : Int))
   (ratOf (Rat.num (btw (ratOf b0 b1) (ratOf b2 b3) k4)) (↑(Rat.den (btw (ratOf b0 b1) (ratOf b2 b3) k4)) : Int)))) :
   Int)] ∧
   64 ≤ 140737488355328)
   (.need (true = true)
   (.need ((0 : Int) ≤ (2 : Int) ∧ (2 : Int) < (3 : Int))
   (.need (2 < 3)
   (.need ((0 : Int) ≤ (2 : Int) ∧ (2 : Int) < (3 : Int))
   (.need (2 < 3)
   (.need
   (VF (Rat.num (btw (ratOf c0 c1) (ratOf c2 c3) k2)) (↑(Rat.den (btw (ratOf c0 c1) (ratOf c2 c3) k2)) : Int) ∧
   VF (Rat.num (btw (ratOf c0 c1) (ratOf c2 c3) k5)) (↑(Rat.den (btw (ratOf c0 c1) (ratOf c2 c3) k5)) : Int))
   (.need ((0 : Int) ≤ (2 : Int) ∧ (2 : Int) < (3 : Int))
   (.need (2 < 3)
   (.need ((0 : Int) ≤ (2 : Int) ∧ (2 : Int) < (3 : Int))
   (.need (2 < 3)
   (.need
   (VF (Rat.num (btw (ratOf c0 c1) (ratOf c2 c3) k2)) (↑(Rat.den (btw (ratOf c0 c1) (ratOf c2 c3) k2)) : Int) ∧
   VF (Rat.num (btw (ratOf c0 c1) (ratOf c2 c3) k5)) (↑(Rat.den (btw (ratOf c0 c1) (ratOf c2 c3) k5)) : Int))
   (.need
   (2 ≤ 2 ∧
   4 ≤
   List.length
   [iv
   (Rat.num
   (mn (ratOf (Rat.num (btw (ratOf c0 c1) (ratOf c2 c3) k2)) (↑(Rat.den (btw (ratOf c0 c1) (ratOf c2 c3) k2)) : Int))
   (ratOf (Rat.num (btw (ratOf c0 c1) (ratOf c2 c3) k5)) (↑(Rat.den (btw (ratOf c0 c1) (ratOf c2 c3) k5)) : Int)))),
   iv
   (↑(Rat.den
   (mn (ratOf (Rat.num (btw (ratOf c0 c1) (ratOf c2 c3) k2)) (↑(Rat.den (btw (ratOf c0 c1) (ratOf c2 c3) k2)) : Int))
   (ratOf (Rat.num (btw (ratOf c0 c1) (ratOf c2 c3) k5)) (↑(Rat.den (btw (ratOf c0 c1) (ratOf c2 c3) k5)) : Int)))) :
   Int),
   iv
   (Rat.num
   (mx (ratOf (Rat.num (btw (ratOf c0 c1) (ratOf c2 c3) k2)) (↑(Rat.den (btw (ratOf c0 c1) (ratOf c2 c3) k2)) : Int))
   (ratOf (Rat.num (btw (ratOf c0 c1) (ratOf c2 c3) k5)) (↑(Rat.den (btw (ratOf c0 c1) (ratOf c2 c3) k5)) : Int)))),
   iv
   (↑(Rat.den
   (mx (ratOf (Rat.num (btw (ratOf c0 c1) (ratOf c2 c3) k2)) (↑(Rat.den (btw (ratOf c0 c1) (ratOf c2 c3) k2)) : Int))
   (ratOf (Rat.num (btw (ratOf c0 c1) (ratOf c2 c3) k5)) (↑(Rat.den (btw (ratOf c0 c1) (ratOf c2 c3) k5)) : Int)))) :
   Int)] ∧
   96 ≤ 140737488355328)
   (.need (false = false)
   (.need ((0 : Int) ≤ (0 : Int) ∧ (0 : Int) < (3 : Int))
   (.need (0 < 3)
   (.need ((0 : Int) ≤ (1 : Int) ∧ (1 : Int) < (3 : Int))
   (.need (1 < 3)
   (.need ((0 : Int) ≤ (2 : Int) ∧ (2 : Int) < (3 : Int))
   (.need (2 < 3)
   (.ret
   (SV.agg
   [iv
   (bif true then
   bif true then
   Rat.num
   (mn
   (ratOf (Rat.num (btw (ratOf a0 a1) (ratOf a2 a3) k0)) (↑(Rat.den (btw (ratOf a0 a1) (ratOf a2 a3) k0)) : Int))
   (ratOf (Rat.num (btw (ratOf a0 a1) (ratOf a2 a3) k3))
   (↑(Rat.den (btw (ratOf a0 a1) (ratOf a2 a3) k3)) : Int)))
   else
   Rat.num
   (mn
   (ratOf (Rat.num (btw (ratOf b0 b1) (ratOf b2 b3) k1)) (↑(Rat.den (btw (ratOf b0 b1) (ratOf b2 b3) k1)) : Int))
   (ratOf (Rat.num (btw (ratOf b0 b1) (ratOf b2 b3) k4))
   (↑(Rat.den (btw (ratOf b0 b1) (ratOf b2 b3) k4)) : Int)))
   else
   Rat.num
   (mn (ratOf (Rat.num (btw (ratOf c0 c1) (ratOf c2 c3) k2)) (↑(Rat.den (btw (ratOf c0 c1) (ratOf c2 c3) k2)) : Int))
   (ratOf (Rat.num (btw (ratOf c0 c1) (ratOf c2 c3) k5))
   (↑(Rat.den (btw (ratOf c0 c1) (ratOf c2 c3) k5)) : Int)))),
   iv
   (bif true then
   bif true then
   (↑(Rat.den
   (mn
   (ratOf (Rat.num (btw (ratOf a0 a1) (ratOf a2 a3) k0))
   (↑(Rat.den (btw (ratOf a0 a1) (ratOf a2 a3) k0)) : Int))
   (ratOf (Rat.num (btw (ratOf a0 a1) (ratOf a2 a3) k3))
   (↑(Rat.den (btw (ratOf a0 a1) (ratOf a2 a3) k3)) : Int)))) :
   Int)
   else
   (↑(Rat.den
   (mn
   (ratOf (Rat.num (btw (ratOf b0 b1) (ratOf b2 b3) k1))
   (↑(Rat.den (btw (ratOf b0 b1) (ratOf b2 b3) k1)) : Int))
   (ratOf (Rat.num (btw (ratOf b0 b1) (ratOf b2 b3) k4))
   (↑(Rat.den (btw (ratOf b0 b1) (ratOf b2 b3) k4)) : Int)))) :
   Int)
   else
   (↑(Rat.den
   (mn
   (ratOf (Rat.num (btw (ratOf c0 c1) (ratOf c2 c3) k2))
   (↑(Rat.den (btw (ratOf c0 c1) (ratOf c2 c3) k2)) : Int))
   (ratOf (Rat.num (btw (ratOf c0 c1) (ratOf c2 c3) k5))
   (↑(Rat.den (btw (ratOf c0 c1) (ratOf c2 c3) k5)) : Int)))) :
   Int)),
   iv
   (bif true then
   bif true then
   Rat.num
   (mx
   (ratOf (Rat.num (btw (ratOf a0 a1) (ratOf a2 a3) k0)) (↑(Rat.den (btw (ratOf a0 a1) (ratOf a2 a3) k0)) : Int))
   (ratOf (Rat.num (btw (ratOf a0 a1) (ratOf a2 a3) k3))
   (↑(Rat.den (btw (ratOf a0 a1) (ratOf a2 a3) k3)) : Int)))
   else
   Rat.num
   (mx
   (ratOf (Rat.num (btw (ratOf b0 b1) (ratOf b2 b3) k1)) (↑(Rat.den (btw (ratOf b0 b1) (ratOf b2 b3) k1)) : Int))
   (ratOf (Rat.num (btw (ratOf b0 b1) (ratOf b2 b3) k4))
   (↑(Rat.den (btw (ratOf b0 b1) (ratOf b2 b3) k4)) : Int)))
   else
   Rat.num
   (mx (ratOf (Rat.num (btw (ratOf c0 c1) (ratOf c2 c3) k2)) (↑(Rat.den (btw (ratOf c0 c1) (ratOf c2 c3) k2)) : Int))
   (ratOf (Rat.num (btw (ratOf c0 c1) (ratOf c2 c3) k5))
   (↑(Rat.den (btw (ratOf c0 c1) (ratOf c2 c3) k5)) : Int)))),
   iv
   (bif true then
   bif true then
   (↑(Rat.den
   (mx
   (ratOf (Rat.num (btw (ratOf a0 a1) (ratOf a2 a3) k0))
   (↑(Rat.den (btw (ratOf a0 a1) (ratOf a2 a3) k0)) : Int))
   (ratOf (Rat.num (btw (ratOf a0 a1) (ratOf a2 a3) k3))
   (↑(Rat.den (btw (ratOf a0 a1) (ratOf a2 a3) k3)) : Int)))) :
   Int)
   else
   (↑(Rat.den
   (mx
   (ratOf (Rat.num (btw (ratOf b0 b1) (ratOf b2 b3) k1))
   (↑(Rat.den (btw (ratOf b0 b1) (ratOf b2 b3) k1)) : Int))
   (ratOf (Rat.num (btw (ratOf b0 b1) (ratOf b2 b3) k4))
   (↑(Rat.den (btw (ratOf b0 b1) (ratOf b2 b3) k4)) : Int)))) :
   Int)
   else
   (↑(Rat.den
   (mx
   (ratOf (Rat.num (btw (ratOf c0 c1) (ratOf c2 c3) k2))
   (↑(Rat.den (btw (ratOf c0 c1) (ratOf c2 c3) k2)) : Int))
   (ratOf (Rat.num (btw (ratOf c0 c1) (ratOf c2 c3) k5))
   (↑(Rat.den (btw (ratOf c0 c1) (ratOf c2 c3) k5)) : Int)))) :
   Int)),
   iv
   (bif true then
   Rat.num
   (mn (ratOf (Rat.num (btw (ratOf b0 b1) (ratOf b2 b3) k1)) (↑(Rat.den (btw (ratOf b0 b1) (ratOf b2 b3) k1)) : Int))
   (ratOf (Rat.num (btw (ratOf b0 b1) (ratOf b2 b3) k4)) (↑(Rat.den (btw (ratOf b0 b1) (ratOf b2 b3) k4)) : Int)))
   else
   Rat.num
   (mn (ratOf (Rat.num (btw (ratOf c0 c1) (ratOf c2 c3) k2)) (↑(Rat.den (btw (ratOf c0 c1) (ratOf c2 c3) k2)) : Int))
   (ratOf (Rat.num (btw (ratOf c0 c1) (ratOf c2 c3) k5))
   (↑(Rat.den (btw (ratOf c0 c1) (ratOf c2 c3) k5)) : Int)))),
   iv
   (bif true then
   (↑(Rat.den
   (mn
   (ratOf (Rat.num (btw (ratOf b0 b1) (ratOf b2 b3) k1))
   (↑(Rat.den (btw (ratOf b0 b1) (ratOf b2 b3) k1)) : Int))
   (ratOf (Rat.num (btw (ratOf b0 b1) (ratOf b2 b3) k4))
   (↑(Rat.den (btw (ratOf b0 b1) (ratOf b2 b3) k4)) : Int)))) :
   Int)
   else
   (↑(Rat.den
   (mn
   (ratOf (Rat.num (btw (ratOf c0 c1) (ratOf c2 c3) k2))
   (↑(Rat.den (btw (ratOf c0 c1) (ratOf c2 c3) k2)) : Int))
   (ratOf (Rat.num (btw (ratOf c0 c1) (ratOf c2 c3) k5))
   (↑(Rat.den (btw (ratOf c0 c1) (ratOf c2 c3) k5)) : Int)))) :
   Int)),
   iv
   (bif true then
   Rat.num
   (mx (ratOf (Rat.num (btw (ratOf b0 b1) (ratOf b2 b3) k1)) (↑(Rat.den (btw (ratOf b0 b1) (ratOf b2 b3) k1)) : Int))
   (ratOf (Rat.num (btw (ratOf b0 b1) (ratOf b2 b3) k4)) (↑(Rat.den (btw (ratOf b0 b1) (ratOf b2 b3) k4)) : Int)))
   else
   Rat.num
   (mx (ratOf (Rat.num (btw (ratOf c0 c1) (ratOf c2 c3) k2)) (↑(Rat.den (btw (ratOf c0 c1) (ratOf c2 c3) k2)) : Int))
   (ratOf (Rat.num (btw (ratOf c0 c1) (ratOf c2 c3) k5))
   (↑(Rat.den (btw (ratOf c0 c1) (ratOf c2 c3) k5)) : Int)))),
   iv
   (bif true then
   (↑(Rat.den
   (mx
   (ratOf (Rat.num (btw (ratOf b0 b1) (ratOf b2 b3) k1))
   (↑(Rat.den (btw (ratOf b0 b1) (ratOf b2 b3) k1)) : Int))
   (ratOf (Rat.num (btw (ratOf b0 b1) (ratOf b2 b3) k4))
   (↑(Rat.den (btw (ratOf b0 b1) (ratOf b2 b3) k4)) : Int)))) :
   Int)
   else
   (↑(Rat.den
   (mx
   (ratOf (Rat.num (btw (ratOf c0 c1) (ratOf c2 c3) k2))
   (↑(Rat.den (btw (ratOf c0 c1) (ratOf c2 c3) k2)) : Int))
   (ratOf (Rat.num (btw (ratOf c0 c1) (ratOf c2 c3) k5))
   (↑(Rat.den (btw (ratOf c0 c1) (ratOf c2 c3) k5)) : Int)))) :
   Int)),
   iv
   (Rat.num
   (mn (ratOf (Rat.num (btw (ratOf c0 c1) (ratOf c2 c3) k2)) (↑(Rat.den (btw (ratOf c0 c1) (ratOf c2 c3) k2)) : Int))
   (ratOf (Rat.num (btw (ratOf c0 c1) (ratOf c2 c3) k5)) (↑(Rat.den (btw (ratOf c0 c1) (ratOf c2 c3) k5)) : Int)))),
   iv
   (↑(Rat.den
   (mn
   (ratOf (Rat.num (btw (ratOf c0 c1) (ratOf c2 c3) k2)) (↑(Rat.den (btw (ratOf c0 c1) (ratOf c2 c3) k2)) : Int))
   (ratOf (Rat.num (btw (ratOf c0 c1) (ratOf c2 c3) k5))
   (↑(Rat.den (btw (ratOf c0 c1) (ratOf c2 c3) k5)) : Int)))) :
   Int),
   iv
   (Rat.num
   (mx (ratOf (Rat.num (btw (ratOf c0 c1) (ratOf c2 c3) k2)) (↑(Rat.den (btw (ratOf c0 c1) (ratOf c2 c3) k2)) : Int))
   (ratOf (Rat.num (btw (ratOf c0 c1) (ratOf c2 c3) k5)) (↑(Rat.den (btw (ratOf c0 c1) (ratOf c2 c3) k5)) : Int)))),
   iv
   (↑(Rat.den
   (mx
   (ratOf (Rat.num (btw (ratOf c0 c1) (ratOf c2 c3) k2)) (↑(Rat.den (btw (ratOf c0 c1) (ratOf c2 c3) k2)) : Int))
   (ratOf (Rat.num (btw (ratOf c0 c1) (ratOf c2 c3) k5))
   (↑(Rat.den (btw (ratOf c0 c1) (ratOf c2 c3) k5)) : Int)))) :
   Int)]))))))))))))))))))))))))))))))))))))))))))))))))))))))))))

theorem LPart_eq (a0 a1 a2 a3 b0 b1 b2 b3 c0 c1 c2 c3 k0 k1 k2 k3 k4 k5 : Int) : TE (uN 3 .nil) 23 [.agg [iv a0, iv a1, iv a2, iv a3, iv b0, iv b1, iv b2, iv b3, iv c0, iv c1, iv c2, iv c3], .agg [u8 k0, u8 k1, u8 k2, u8 k3, u8 k4, u8 k5]] = LPart a0 a1 a2 a3 b0 b1 b2 b3 c0 c1 c2 c3 k0 k1 k2 k3 k4 k5 := by kernel_rfl


end Go.Proofs.Ytpaejfeojdoikaa

namespace Go.Proofs.Ytpaejfeojdoikaa
open Go.Sx
set_option maxRecDepth 100000

/-- A box with valid bounds. -/
structure VB6 (a0 a1 a2 a3 b0 b1 b2 b3 c0 c1 c2 c3 : Int) : Prop where
  l0 : VF a0 a1
  h0 : VF a2 a3
  l1 : VF b0 b1
  h1 : VF b2 b3
  l2 : VF c0 c1
  h2 : VF c2 c3
/-- Whether an interval lies within another one. -/
noncomputable def wiB (a b c d : Rat) : Bool := decide (c ≤ a) && decide (a ≤ d) && (decide (c ≤ b) && decide (b ≤ d))
noncomputable def cIn : Ctr := fun ss => match ss with
  | [.agg l, .agg m] => match intsOf .i64 l, intsOf .i64 m with
    | some [a0, a1, a2, a3, b0, b1, b2, b3, c0, c1, c2, c3], some [d0, d1, d2, d3, e0, e1, e2, e3, f0, f1, f2, f3] => .need (VB6 a0 a1 a2 a3 b0 b1 b2 b3 c0 c1 c2 c3 ∧ VB6 d0 d1 d2 d3 e0 e1 e2 e3 f0 f1 f2 f3)
      (.ret (bv (wiB (ratOf a0 a1) (ratOf a2 a3) (ratOf d0 d1) (ratOf d2 d3) && wiB (ratOf b0 b1) (ratOf b2 b3) (ratOf e0 e1) (ratOf e2 e3) && wiB (ratOf c0 c1) (ratOf c2 c3) (ratOf f0 f1) (ratOf f2 f3))))
    | _, _ => .fail
  | _ => .fail
theorem cIn_ok : CtrOK Try.prog 24 cIn := by
  refine ctrOK_leS CE_ok DE_ok (by kernel_rfl) (by kernel_rfl) fun ss r h => ?_
  unfold cIn at h
  split at h
  · split at h
    · rename_i a0 a1 a2 a3 b0 b1 b2 b3 c0 c1 c2 c3 d0 d1 d2 d3 e0 e1 e2 e3 f0 f1 f2 f3 q1 q2
      obtain ⟨⟨x, y⟩, rfl⟩ := h
      rw [intsOf_eq q1, intsOf_eq q2]
      refine ⟨_, 200, inH 3, by simp [leSVs, leSV, iv, bv, leD], Sat.of_eq (LIn_eq a0 a1 a2 a3 b0 b1 b2 b3 c0 c1 c2 c3 d0 d1 d2 d3 e0 e1 e2 e3 f0 f1 f2 f3) ⟨?_⟩⟩
      unfold LIn
      unfold wiB
      refine ⟨rfl, by decide, by decide, by decide, by decide, ⟨x.l0, x.h0, y.l0, y.h0⟩, fun h => ?_, fun h => ⟨rfl, by decide, by decide, by decide, by decide, ⟨x.l1, x.h1, y.l1, y.h1⟩, fun h2 => ?_, fun h2 => ⟨rfl, by decide, by decide, by decide, by decide, ⟨x.l2, x.h2, y.l2, y.h2⟩, fun h3 => ?_, fun h3 => ⟨rfl, ?_⟩⟩⟩⟩
      · rw [Bool.not_eq_true'] at h; rw [h]; exact rfl
      · rw [Bool.not_eq_false'] at h; rw [Bool.not_eq_true'] at h2; rw [h, h2]; exact rfl
      · rw [Bool.not_eq_false'] at h h2; rw [Bool.not_eq_true'] at h3; rw [h, h2, h3]; exact rfl
      · rw [Bool.not_eq_false'] at h h2 h3; rw [h, h2, h3]; exact rfl
    · exact h.elim
  · exact h.elim
theorem cInR_ok : CtrOK Try.prog 71 cIn := by
  refine ctrOK_leS CE_ok DE_ok (by kernel_rfl) (by kernel_rfl) fun ss r h => ?_
  unfold cIn at h
  split at h
  · split at h
    · rename_i a0 a1 a2 a3 b0 b1 b2 b3 c0 c1 c2 c3 d0 d1 d2 d3 e0 e1 e2 e3 f0 f1 f2 f3 q1 q2
      obtain ⟨⟨x, y⟩, rfl⟩ := h
      rw [intsOf_eq q1, intsOf_eq q2]
      refine ⟨_, 200, .nil, by simp [leSVs, leSV, iv, bv, leD], Sat.of_eq (LInR_eq a0 a1 a2 a3 b0 b1 b2 b3 c0 c1 c2 c3 d0 d1 d2 d3 e0 e1 e2 e3 f0 f1 f2 f3) ⟨?_⟩⟩
      unfold LInR
      exact ⟨⟨x.l0, x.h0, y.l0, y.h0⟩, fun _ => ⟨x.l1, x.h1, y.l1, y.h1⟩, fun _ => ⟨x.l2, x.h2, y.l2, y.h2⟩, rfl⟩
    · exact h.elim
  · exact h.elim

/-- The intervals of a part of a box. -/
noncomputable def ptL (a b : Rat) (k l : Int) : Rat := mn (btw a b k) (btw a b l)
noncomputable def ptH (a b : Rat) (k l : Int) : Rat := mx (btw a b k) (btw a b l)
noncomputable def cPart : Ctr := fun ss => match ss with
  | [.agg l, .agg m] => match intsOf .i64 l, intsOf .u8 m with
    | some [a0, a1, a2, a3, b0, b1, b2, b3, c0, c1, c2, c3], some [k0, k1, k2, k3, k4, k5] => .need ((SInt a0 a1 a2 a3 ∧ SInt b0 b1 b2 b3 ∧ SInt c0 c1 c2 c3) ∧ ((0 ≤ k0 ∧ k0 < 256) ∧ (0 ≤ k1 ∧ k1 < 256) ∧ (0 ≤ k2 ∧ k2 < 256)) ∧ (0 ≤ k3 ∧ k3 < 256) ∧ (0 ≤ k4 ∧ k4 < 256) ∧ (0 ≤ k5 ∧ k5 < 256))
      (.ret (.agg [iv (ptL (ratOf a0 a1) (ratOf a2 a3) k0 k3).num, iv (ptL (ratOf a0 a1) (ratOf a2 a3) k0 k3).den, iv (ptH (ratOf a0 a1) (ratOf a2 a3) k0 k3).num, iv (ptH (ratOf a0 a1) (ratOf a2 a3) k0 k3).den,
        iv (ptL (ratOf b0 b1) (ratOf b2 b3) k1 k4).num, iv (ptL (ratOf b0 b1) (ratOf b2 b3) k1 k4).den, iv (ptH (ratOf b0 b1) (ratOf b2 b3) k1 k4).num, iv (ptH (ratOf b0 b1) (ratOf b2 b3) k1 k4).den,
        iv (ptL (ratOf c0 c1) (ratOf c2 c3) k2 k5).num, iv (ptL (ratOf c0 c1) (ratOf c2 c3) k2 k5).den, iv (ptH (ratOf c0 c1) (ratOf c2 c3) k2 k5).num, iv (ptH (ratOf c0 c1) (ratOf c2 c3) k2 k5).den]))
    | _, _ => .fail
  | _ => .fail
theorem len4 (a b c d : SV) : 4 ≤ [a, b, c, d].length := by simp
theorem btw_vf {a b : Int} {c d : Int} (h : SInt a b c d) {k : Int} (hk : 0 ≤ k) : VF (btw (ratOf a b) (ratOf c d) k).num (btw (ratOf a b) (ratOf c d) k).den := VF.of ((btw_sm h.ls h.hs hk).fits (by decide) (by decide))
theorem cPart_ok : CtrOK Try.prog 23 cPart := by
  refine ctrOK_leS CE_ok DE_ok (by kernel_rfl) (by kernel_rfl) fun ss r h => ?_
  unfold cPart at h
  split at h
  · split at h
    · rename_i a0 a1 a2 a3 b0 b1 b2 b3 c0 c1 c2 c3 k0 k1 k2 k3 k4 k5 e1 e2
      obtain ⟨⟨⟨s0, s1, s2⟩, ⟨g0, g1, g2⟩, g3, g4, g5⟩, rfl⟩ := h
      rw [intsOf_eq e1, intsOf_eq e2]
      refine ⟨_, 200, uN 3 .nil, by simp [leSVs, leSV, iv, u8, leD], Sat.of_eq (LPart_eq a0 a1 a2 a3 b0 b1 b2 b3 c0 c1 c2 c3 k0 k1 k2 k3 k4 k5) ⟨?_⟩⟩
      unfold LPart
      have v0 := btw_vf s0 g0.1
      have v1 := btw_vf s1 g1.1
      have v2 := btw_vf s2 g2.1
      have v3 := btw_vf s0 g3.1
      have v4 := btw_vf s1 g4.1
      have v5 := btw_vf s2 g5.1
      simp only [ratOf_rat]
      obtain ⟨g0a, g0b⟩ := g0
      obtain ⟨g1a, g1b⟩ := g1
      obtain ⟨g2a, g2b⟩ := g2
      obtain ⟨g3a, g3b⟩ := g3
      obtain ⟨g4a, g4b⟩ := g4
      obtain ⟨g5a, g5b⟩ := g5
      repeat' (first | assumption | exact rfl | decide | exact len4 _ _ _ _ | (refine ⟨?_, ?_⟩))
    · exact h.elim
  · exact h.elim

noncomputable def manF : FuncId → Option Ctr := fun k => match k with
  | 24 => some cIn
  | 71 => some cIn
  | 23 => some cPart
  | k => manE k
theorem manF_ok (k : Nat) (c : Ctr) (h : manF k = some c) : CtrOK Try.prog k c ∧ goodF Try.prog k = true := by
  unfold manF at h
  split at h
  · cases h; exact ⟨cIn_ok, by kernel_rfl⟩
  · cases h; exact ⟨cInR_ok, by kernel_rfl⟩
  · cases h; exact ⟨cPart_ok, by kernel_rfl⟩
  · exact manE_ok _ _ h
noncomputable def CF : Ctx := ctxN Try.prog manF (fun _ => false) 200 .nil 6
theorem CF_ok : CtxOK Try.prog CF := ctxN_ok mixed manF_ok 6
noncomputable def DF : Dr := fun _ => drawn Try.prog CF
theorem DF_ok : DrOK Try.prog CF DF := drawn_ok CF_ok mixed
noncomputable def TF (h : Hint) (k : Nat) (args : List SV) : Tree SV := fnT Try.prog CF DF 200 (fnOf Try.prog k) (bodyOf Try.prog k) args h

noncomputable def L5_q1 (c : Nat → Nat → DV) (i : Nat) : Int :=
  intOf1 (c i (0 : Nat))
noncomputable def L5_q2 (n : Nat) (c : Nat → Nat → DV) : Rat :=
  loQ n (L5_q1 c) 0
noncomputable def L5_q3 (n : Nat) (c : Nat → Nat → DV) : Rat :=
  hiQ n (L5_q1 c) 0
noncomputable def L5_q4 (n : Nat) (c : Nat → Nat → DV) : Rat :=
  loQ n (L5_q1 c) 1
noncomputable def L5_q5 (n : Nat) (c : Nat → Nat → DV) : Rat :=
  hiQ n (L5_q1 c) 1
noncomputable def L5_q6 (n : Nat) (c : Nat → Nat → DV) : Rat :=
  loQ n (L5_q1 c) 2
noncomputable def L5_q7 (n : Nat) (c : Nat → Nat → DV) : Rat :=
  hiQ n (L5_q1 c) 2
noncomputable def L5_q8 (n : Nat) (c : Nat → Nat → DV) : Rat :=
  ratOf (Rat.num (L5_q2 n c)) (↑(Rat.den (L5_q2 n c)) : Int)
noncomputable def L5_q9 (n : Nat) (c : Nat → Nat → DV) : Rat :=
  ratOf (Rat.num (L5_q3 n c)) (↑(Rat.den (L5_q3 n c)) : Int)
noncomputable def L5_q10 (n : Nat) (c : Nat → Nat → DV) (k0 : Int) : Rat :=
  btw (L5_q8 n c) (L5_q9 n c) k0
noncomputable def L5_q11 (n : Nat) (c : Nat → Nat → DV) : Rat :=
  ratOf (Rat.num (L5_q4 n c)) (↑(Rat.den (L5_q4 n c)) : Int)
noncomputable def L5_q12 (n : Nat) (c : Nat → Nat → DV) : Rat :=
  ratOf (Rat.num (L5_q5 n c)) (↑(Rat.den (L5_q5 n c)) : Int)
noncomputable def L5_q13 (n : Nat) (c : Nat → Nat → DV) (k1 : Int) : Rat :=
  btw (L5_q11 n c) (L5_q12 n c) k1
noncomputable def L5_q14 (n : Nat) (c : Nat → Nat → DV) : Option (Rat × Rat) :=
  plsO (L5_q8 n c) (L5_q9 n c) (L5_q11 n c) (L5_q12 n c)
noncomputable def L5_q15 (n : Nat) (c : Nat → Nat → DV) (k0 : Int) : Rat :=
  ratOf (Rat.num (L5_q10 n c k0)) (↑(Rat.den (L5_q10 n c k0)) : Int)
noncomputable def L5_q16 (n : Nat) (c : Nat → Nat → DV) (k1 : Int) : Rat :=
  ratOf (Rat.num (L5_q13 n c k1)) (↑(Rat.den (L5_q13 n c k1)) : Int)
noncomputable def L5_q17 (n : Nat) (c : Nat → Nat → DV) (k0 : Int) (k1 : Int) : Rat :=
  L5_q15 n c k0 + L5_q16 n c k1
noncomputable def L5_q18 (n : Nat) (c : Nat → Nat → DV) : Rat :=
  ratOf (lN (L5_q14 n c)) (lD (L5_q14 n c))
noncomputable def L5_q19 (n : Nat) (c : Nat → Nat → DV) : Rat :=
  ratOf (hN (L5_q14 n c)) (hD (L5_q14 n c))
noncomputable def L5_q20 (n : Nat) (c : Nat → Nat → DV) : Rat :=
  mn (L5_q8 n c) (L5_q11 n c)
noncomputable def L5_q21 (n : Nat) (c : Nat → Nat → DV) : Rat :=
  mx (L5_q9 n c) (L5_q12 n c)
noncomputable def L5_q22 (n : Nat) (c : Nat → Nat → DV) : Rat :=
  ratOf (Rat.num (L5_q20 n c)) (↑(Rat.den (L5_q20 n c)) : Int)
noncomputable def L5_q23 (n : Nat) (c : Nat → Nat → DV) : Rat :=
  ratOf (Rat.num (L5_q21 n c)) (↑(Rat.den (L5_q21 n c)) : Int)
noncomputable def L5_q24 (n : Nat) (c : Nat → Nat → DV) : Bool :=
  vB (Rat.num (L5_q20 n c)) (↑(Rat.den (L5_q20 n c)) : Int) && vB (Rat.num (L5_q21 n c)) (↑(Rat.den (L5_q21 n c)) : Int) && decide (L5_q22 n c ≤ L5_q23 n c)
noncomputable def L5_q25 (n : Nat) (c : Nat → Nat → DV) (k0 : Int) (k1 : Int) : Bool :=
  oE (L5_q14 n c) != (0 : Int) || rE (L5_q17 n c k0 k1) != (0 : Int) ||
   !(vB (lN (L5_q14 n c)) (lD (L5_q14 n c)) && vB (hN (L5_q14 n c)) (hD (L5_q14 n c)) && decide (L5_q18 n c ≤ L5_q19 n c)) ||
  !L5_q24 n c
noncomputable def L5_q26 (n : Nat) (c : Nat → Nat → DV) (k0 : Int) (k1 : Int) : Rat :=
  ratOf (rN (L5_q17 n c k0 k1)) (rD (L5_q17 n c k0 k1))
noncomputable def L5_q27 (n : Nat) (c : Nat → Nat → DV) (k0 : Int) (k1 : Int) : Bool :=
  L5_q25 n c k0 k1 || !(decide (L5_q18 n c ≤ L5_q26 n c k0 k1) && decide (L5_q26 n c k0 k1 ≤ L5_q19 n c))
noncomputable def L5_q28 (n : Nat) (c : Nat → Nat → DV) : Bool :=
  L5_q24 n c &&
  (decide (L5_q22 n c ≤ L5_q8 n c) && decide (L5_q8 n c ≤ L5_q23 n c) && (decide (L5_q22 n c ≤ L5_q9 n c) && decide (L5_q9 n c ≤ L5_q23 n c)))
noncomputable def L5_q29 (n : Nat) (c : Nat → Nat → DV) : Bool :=
  L5_q28 n c &&
  (decide (L5_q22 n c ≤ L5_q11 n c) && decide (L5_q11 n c ≤ L5_q23 n c) && (decide (L5_q22 n c ≤ L5_q12 n c) && decide (L5_q12 n c ≤ L5_q23 n c)))
noncomputable def L5_q30 (n : Nat) (c : Nat → Nat → DV) : Rat :=
  ratOf (Rat.num (L5_q6 n c)) (↑(Rat.den (L5_q6 n c)) : Int)
noncomputable def L5_q31 (n : Nat) (c : Nat → Nat → DV) : Rat :=
  ratOf (Rat.num (L5_q7 n c)) (↑(Rat.den (L5_q7 n c)) : Int)
noncomputable def L5_q32 (n : Nat) (c : Nat → Nat → DV) : Bool :=
  decide (L5_q30 n c ≤ L5_q8 n c) && decide (L5_q8 n c ≤ L5_q31 n c) && (decide (L5_q30 n c ≤ L5_q9 n c) && decide (L5_q9 n c ≤ L5_q31 n c))
noncomputable def L5 (n : Nat) (c : Nat → Nat → DV) (k0 k1 : Int) : Tree SV :=
  .ite false (.ret (bv false))
  (.need (Byt n c ∧ (0 : Int) ≤ (0 : Int) ∧ (0 : Int) < (1000000 : Int) ∧ (0 : Int) = (0 : Int))
   (.need (Byt n c ∧ (0 : Int) ≤ (4 : Int) ∧ (4 : Int) < (1000000 : Int) ∧ (0 : Int) = (0 : Int))
   (.need (Byt n c ∧ (0 : Int) ≤ (8 : Int) ∧ (8 : Int) < (1000000 : Int) ∧ (0 : Int) = (0 : Int))
   (.need ((0 : Int) ≤ (0 : Int) ∧ (0 : Int) < (2 : Int))
   (.need (0 < 2)
   (.need ((0 : Int) ≤ (1 : Int) ∧ (1 : Int) < (2 : Int))
   (.need (1 < 2)
   (.need
   ((SInt (Rat.num (L5_q2 n c)) (↑(Rat.den (L5_q2 n c)) : Int) (Rat.num (L5_q3 n c)) (↑(Rat.den (L5_q3 n c)) : Int) ∧
   SInt (Rat.num (L5_q4 n c)) (↑(Rat.den (L5_q4 n c)) : Int) (Rat.num (L5_q5 n c)) (↑(Rat.den (L5_q5 n c)) : Int) ∧
   SInt (Rat.num (L5_q6 n c)) (↑(Rat.den (L5_q6 n c)) : Int) (Rat.num (L5_q7 n c)) (↑(Rat.den (L5_q7 n c)) : Int)) ∧
   ((0 : Int) ≤ k0 ∧ k0 < (256 : Int)) ∧ ((0 : Int) ≤ k1 ∧ k1 < (256 : Int)) ∧ (0 : Int) ≤ (0 : Int) ∧ (0 : Int) < (256 : Int))
   (.need
   (VF (Rat.num (L5_q2 n c)) (↑(Rat.den (L5_q2 n c)) : Int) ∧
   VF (Rat.num (L5_q3 n c)) (↑(Rat.den (L5_q3 n c)) : Int) ∧
   VF (Rat.num (L5_q4 n c)) (↑(Rat.den (L5_q4 n c)) : Int) ∧ VF (Rat.num (L5_q5 n c)) (↑(Rat.den (L5_q5 n c)) : Int))
   (.need ((0 : Int) ≤ (0 : Int) ∧ (0 : Int) < (3 : Int))
   (.need (0 < 3)
   (.need ((0 : Int) ≤ (1 : Int) ∧ (1 : Int) < (3 : Int))
   (.need (1 < 3)
   (.need (VF (Rat.num (L5_q10 n c k0)) (↑(Rat.den (L5_q10 n c k0)) : Int) ∧ VF (Rat.num (L5_q13 n c k1)) (↑(Rat.den (L5_q13 n c k1)) : Int))
   (.need (VF (Rat.num (L5_q2 n c)) (↑(Rat.den (L5_q2 n c)) : Int) ∧ VF (Rat.num (L5_q4 n c)) (↑(Rat.den (L5_q4 n c)) : Int))
   (.need (VF (Rat.num (L5_q3 n c)) (↑(Rat.den (L5_q3 n c)) : Int) ∧ VF (Rat.num (L5_q5 n c)) (↑(Rat.den (L5_q5 n c)) : Int))
   (.need
   (L5_q25 n c k0 k1 = false →
   VF (lN (L5_q14 n c)) (lD (L5_q14 n c)) ∧ VF (hN (L5_q14 n c)) (hD (L5_q14 n c)) ∧ VF (rN (L5_q17 n c k0 k1)) (rD (L5_q17 n c k0 k1)))
   (.need (L5_q27 n c k0 k1 = false → (0 : Int) ≤ (0 : Int) ∧ (0 : Int) < (3 : Int))
   (.need (L5_q27 n c k0 k1 = false → 0 < 3)
   (.need
   (L5_q27 n c k0 k1 = false →
   VF (Rat.num (L5_q2 n c)) (↑(Rat.den (L5_q2 n c)) : Int) ∧
   VF (Rat.num (L5_q3 n c)) (↑(Rat.den (L5_q3 n c)) : Int) ∧ VF (Rat.num (L5_q10 n c k0)) (↑(Rat.den (L5_q10 n c k0)) : Int))
   (.ite (L5_q27 n c k0 k1 || !(decide (L5_q8 n c ≤ L5_q15 n c k0) && decide (L5_q15 n c k0 ≤ L5_q9 n c))) (.ret (bv false))
   (.need
   (L5_q24 n c = true →
   VF (Rat.num (L5_q2 n c)) (↑(Rat.den (L5_q2 n c)) : Int) ∧
   VF (Rat.num (L5_q3 n c)) (↑(Rat.den (L5_q3 n c)) : Int) ∧
   VF (Rat.num (L5_q20 n c)) (↑(Rat.den (L5_q20 n c)) : Int) ∧ VF (Rat.num (L5_q21 n c)) (↑(Rat.den (L5_q21 n c)) : Int))
   (.need
   (L5_q28 n c = true →
   VF (Rat.num (L5_q4 n c)) (↑(Rat.den (L5_q4 n c)) : Int) ∧
   VF (Rat.num (L5_q5 n c)) (↑(Rat.den (L5_q5 n c)) : Int) ∧
   VF (Rat.num (L5_q20 n c)) (↑(Rat.den (L5_q20 n c)) : Int) ∧ VF (Rat.num (L5_q21 n c)) (↑(Rat.den (L5_q21 n c)) : Int))
   (.need
   (L5_q29 n c = true →
   VF (Rat.num (L5_q2 n c)) (↑(Rat.den (L5_q2 n c)) : Int) ∧
   VF (Rat.num (L5_q3 n c)) (↑(Rat.den (L5_q3 n c)) : Int) ∧
   VF (Rat.num (L5_q6 n c)) (↑(Rat.den (L5_q6 n c)) : Int) ∧ VF (Rat.num (L5_q7 n c)) (↑(Rat.den (L5_q7 n c)) : Int))
   (.need
   (L5_q29 n c = true ∧ L5_q32 n c = true →
   VF (Rat.num (L5_q4 n c)) (↑(Rat.den (L5_q4 n c)) : Int) ∧
   VF (Rat.num (L5_q5 n c)) (↑(Rat.den (L5_q5 n c)) : Int) ∧
   VF (Rat.num (L5_q6 n c)) (↑(Rat.den (L5_q6 n c)) : Int) ∧ VF (Rat.num (L5_q7 n c)) (↑(Rat.den (L5_q7 n c)) : Int))
   (.need
   (L5_q29 n c = true →
   VF (Rat.num (L5_q20 n c)) (↑(Rat.den (L5_q20 n c)) : Int) ∧
   VF (Rat.num (L5_q21 n c)) (↑(Rat.den (L5_q21 n c)) : Int) ∧
   VF (Rat.num (L5_q6 n c)) (↑(Rat.den (L5_q6 n c)) : Int) ∧ VF (Rat.num (L5_q7 n c)) (↑(Rat.den (L5_q7 n c)) : Int))
   (.ret
   (bv
   (L5_q29 n c &&
   (L5_q32 n c &&
   (decide (L5_q30 n c ≤ L5_q11 n c) && decide (L5_q11 n c ≤ L5_q31 n c) &&
   (decide (L5_q30 n c ≤ L5_q12 n c) && decide (L5_q12 n c ≤ L5_q31 n c)))) ==
   (decide (L5_q30 n c ≤ L5_q22 n c) && decide (L5_q22 n c ≤ L5_q31 n c) &&
   (decide (L5_q30 n c ≤ L5_q23 n c) && decide (L5_q23 n c ≤ L5_q31 n c))) &&
   true)))))))))))))))))))))))))))))

theorem L5_eq (n : Nat) (c : Nat → Nat → DV) (k0 k1 : Int) : TF .nil 5 [.d (.ro n 1 c), .agg [u8 k0, u8 k1]] = L5 n c k0 k1 := by kernel_rfl

noncomputable def L4_q1 (d : Nat → Nat → DV) (i : Nat) : Int :=
  intOf1 (d i (0 : Nat))
noncomputable def L4_q2 (m : Nat) (d : Nat → Nat → DV) : Rat :=
  loQ m (L4_q1 d) 0
noncomputable def L4_q3 (m : Nat) (d : Nat → Nat → DV) : Rat :=
  hiQ m (L4_q1 d) 0
noncomputable def L4_q4 (m : Nat) (d : Nat → Nat → DV) : Rat :=
  loQ m (L4_q1 d) 1
noncomputable def L4_q5 (m : Nat) (d : Nat → Nat → DV) : Rat :=
  hiQ m (L4_q1 d) 1
noncomputable def L4_q6 (m : Nat) (d : Nat → Nat → DV) : Rat :=
  loQ m (L4_q1 d) 2
noncomputable def L4_q7 (m : Nat) (d : Nat → Nat → DV) : Rat :=
  hiQ m (L4_q1 d) 2
noncomputable def L4_q8 (c : Nat → Nat → DV) (i : Nat) : Int :=
  intOf1 (c i (0 : Nat))
noncomputable def L4_q9 (n : Nat) (c : Nat → Nat → DV) : Rat :=
  linQ n (L4_q8 c) 0
noncomputable def L4_q10 (n : Nat) (c : Nat → Nat → DV) : Rat :=
  linQ n (L4_q8 c) 1
noncomputable def L4_q11 (n : Nat) (c : Nat → Nat → DV) : Rat :=
  linQ n (L4_q8 c) 2
noncomputable def L4_q12 (n : Nat) (c : Nat → Nat → DV) : Rat :=
  linQ n (L4_q8 c) 3
noncomputable def L4_q13 (m : Nat) (d : Nat → Nat → DV) : Rat :=
  ratOf (Rat.num (L4_q2 m d)) (↑(Rat.den (L4_q2 m d)) : Int)
noncomputable def L4_q14 (m : Nat) (d : Nat → Nat → DV) : Rat :=
  ratOf (Rat.num (L4_q3 m d)) (↑(Rat.den (L4_q3 m d)) : Int)
noncomputable def L4_q15 (m : Nat) (d : Nat → Nat → DV) (k0 : Int) (k3 : Int) : Rat :=
  ptL (L4_q13 m d) (L4_q14 m d) k0 k3
noncomputable def L4_q16 (m : Nat) (d : Nat → Nat → DV) (k0 : Int) (k3 : Int) : Rat :=
  ptH (L4_q13 m d) (L4_q14 m d) k0 k3
noncomputable def L4_q17 (m : Nat) (d : Nat → Nat → DV) : Rat :=
  ratOf (Rat.num (L4_q4 m d)) (↑(Rat.den (L4_q4 m d)) : Int)
noncomputable def L4_q18 (m : Nat) (d : Nat → Nat → DV) : Rat :=
  ratOf (Rat.num (L4_q5 m d)) (↑(Rat.den (L4_q5 m d)) : Int)
noncomputable def L4_q19 (m : Nat) (d : Nat → Nat → DV) (k1 : Int) (k4 : Int) : Rat :=
  ptL (L4_q17 m d) (L4_q18 m d) k1 k4
noncomputable def L4_q20 (m : Nat) (d : Nat → Nat → DV) (k1 : Int) (k4 : Int) : Rat :=
  ptH (L4_q17 m d) (L4_q18 m d) k1 k4
noncomputable def L4_q21 (m : Nat) (d : Nat → Nat → DV) : Rat :=
  ratOf (Rat.num (L4_q6 m d)) (↑(Rat.den (L4_q6 m d)) : Int)
noncomputable def L4_q22 (m : Nat) (d : Nat → Nat → DV) : Rat :=
  ratOf (Rat.num (L4_q7 m d)) (↑(Rat.den (L4_q7 m d)) : Int)
noncomputable def L4_q23 (m : Nat) (d : Nat → Nat → DV) (k2 : Int) (k5 : Int) : Rat :=
  ptL (L4_q21 m d) (L4_q22 m d) k2 k5
noncomputable def L4_q24 (m : Nat) (d : Nat → Nat → DV) (k2 : Int) (k5 : Int) : Rat :=
  ptH (L4_q21 m d) (L4_q22 m d) k2 k5
noncomputable def L4_q25 (n : Nat) (c : Nat → Nat → DV) : Rat :=
  ratOf (Rat.num (L4_q9 n c)) (↑(Rat.den (L4_q9 n c)) : Int)
noncomputable def L4_q26 (n : Nat) (c : Nat → Nat → DV) : Rat :=
  ratOf (Rat.num (L4_q10 n c)) (↑(Rat.den (L4_q10 n c)) : Int)
noncomputable def L4_q27 (n : Nat) (c : Nat → Nat → DV) : Rat :=
  ratOf (Rat.num (L4_q11 n c)) (↑(Rat.den (L4_q11 n c)) : Int)
noncomputable def L4_q28 (n : Nat) (c : Nat → Nat → DV) : Rat :=
  ratOf (Rat.num (L4_q12 n c)) (↑(Rat.den (L4_q12 n c)) : Int)
noncomputable def L4_q29 (n : Nat) (m : Nat) (c : Nat → Nat → DV) (d : Nat → Nat → DV) : Option (Rat × Rat) :=
  rgO (L4_q25 n c) (L4_q26 n c) (L4_q27 n c) (L4_q28 n c) (L4_q13 m d) (L4_q14 m d) (L4_q17 m d) (L4_q18 m d) (L4_q21 m d)
  (L4_q22 m d)
noncomputable def L4_q30 (n : Nat) (m : Nat) (c : Nat → Nat → DV) (d : Nat → Nat → DV) : Rat :=
  ratOf (lN (L4_q29 n m c d)) (lD (L4_q29 n m c d))
noncomputable def L4_q31 (n : Nat) (m : Nat) (c : Nat → Nat → DV) (d : Nat → Nat → DV) : Rat :=
  ratOf (hN (L4_q29 n m c d)) (hD (L4_q29 n m c d))
noncomputable def L4_q32 (m : Nat) (d : Nat → Nat → DV) (k0 : Int) (k3 : Int) : Rat :=
  ratOf (Rat.num (L4_q15 m d k0 k3)) (↑(Rat.den (L4_q15 m d k0 k3)) : Int)
noncomputable def L4_q33 (m : Nat) (d : Nat → Nat → DV) (k0 : Int) (k3 : Int) : Rat :=
  ratOf (Rat.num (L4_q16 m d k0 k3)) (↑(Rat.den (L4_q16 m d k0 k3)) : Int)
noncomputable def L4_q34 (m : Nat) (d : Nat → Nat → DV) (k1 : Int) (k4 : Int) : Rat :=
  ratOf (Rat.num (L4_q19 m d k1 k4)) (↑(Rat.den (L4_q19 m d k1 k4)) : Int)
noncomputable def L4_q35 (m : Nat) (d : Nat → Nat → DV) (k1 : Int) (k4 : Int) : Rat :=
  ratOf (Rat.num (L4_q20 m d k1 k4)) (↑(Rat.den (L4_q20 m d k1 k4)) : Int)
noncomputable def L4_q36 (m : Nat) (d : Nat → Nat → DV) (k2 : Int) (k5 : Int) : Rat :=
  ratOf (Rat.num (L4_q23 m d k2 k5)) (↑(Rat.den (L4_q23 m d k2 k5)) : Int)
noncomputable def L4_q37 (m : Nat) (d : Nat → Nat → DV) (k2 : Int) (k5 : Int) : Rat :=
  ratOf (Rat.num (L4_q24 m d k2 k5)) (↑(Rat.den (L4_q24 m d k2 k5)) : Int)
noncomputable def L4_q38 (n : Nat) (m : Nat) (c : Nat → Nat → DV) (d : Nat → Nat → DV) (k0 : Int) (k1 : Int) (k2 : Int) (k3 : Int) (k4 : Int) (k5 : Int) : Option (Rat × Rat) :=
  rgO (L4_q25 n c) (L4_q26 n c) (L4_q27 n c) (L4_q28 n c) (L4_q32 m d k0 k3) (L4_q33 m d k0 k3) (L4_q34 m d k1 k4) (L4_q35 m d k1 k4)
  (L4_q36 m d k2 k5) (L4_q37 m d k2 k5)
noncomputable def L4_q39 (n : Nat) (m : Nat) (c : Nat → Nat → DV) (d : Nat → Nat → DV) (k0 : Int) (k1 : Int) (k2 : Int) (k3 : Int) (k4 : Int) (k5 : Int) : Rat :=
  ratOf (lN (L4_q38 n m c d k0 k1 k2 k3 k4 k5)) (lD (L4_q38 n m c d k0 k1 k2 k3 k4 k5))
noncomputable def L4_q40 (n : Nat) (m : Nat) (c : Nat → Nat → DV) (d : Nat → Nat → DV) (k0 : Int) (k1 : Int) (k2 : Int) (k3 : Int) (k4 : Int) (k5 : Int) : Rat :=
  ratOf (hN (L4_q38 n m c d k0 k1 k2 k3 k4 k5)) (hD (L4_q38 n m c d k0 k1 k2 k3 k4 k5))
noncomputable def L4_q41 (n : Nat) (m : Nat) (c : Nat → Nat → DV) (d : Nat → Nat → DV) (k0 : Int) (k1 : Int) (k2 : Int) (k3 : Int) (k4 : Int) (k5 : Int) : Bool :=
  wiB (L4_q32 m d k0 k3) (L4_q33 m d k0 k3) (L4_q13 m d) (L4_q14 m d) && wiB (L4_q34 m d k1 k4) (L4_q35 m d k1 k4) (L4_q17 m d) (L4_q18 m d) &&
   wiB (L4_q36 m d k2 k5) (L4_q37 m d k2 k5) (L4_q21 m d) (L4_q22 m d) &&
   oE (L4_q29 n m c d) == (0 : Int) &&
  oE (L4_q38 n m c d k0 k1 k2 k3 k4 k5) == (0 : Int)
noncomputable def L4_q42 (n : Nat) (m : Nat) (c : Nat → Nat → DV) (d : Nat → Nat → DV) (k0 : Int) (k1 : Int) (k2 : Int) (k3 : Int) (k4 : Int) (k5 : Int) : Bool :=
  L4_q41 n m c d k0 k1 k2 k3 k4 k5 &&
  (decide (L4_q30 n m c d ≤ L4_q39 n m c d k0 k1 k2 k3 k4 k5) && decide (L4_q39 n m c d k0 k1 k2 k3 k4 k5 ≤ L4_q31 n m c d) &&
   (decide (L4_q30 n m c d ≤ L4_q40 n m c d k0 k1 k2 k3 k4 k5) && decide (L4_q40 n m c d k0 k1 k2 k3 k4 k5 ≤ L4_q31 n m c d)))
noncomputable def L4 (n m : Nat) (c d : Nat → Nat → DV) (k0 k1 k2 k3 k4 k5 : Int) : Tree SV :=
  .ite false (.ret (bv false))
  (.need (Byt n c)
   (.need (Byt m d)
   (.need
   ((SInt (Rat.num (L4_q2 m d)) (↑(Rat.den (L4_q2 m d)) : Int) (Rat.num (L4_q3 m d)) (↑(Rat.den (L4_q3 m d)) : Int) ∧
   SInt (Rat.num (L4_q4 m d)) (↑(Rat.den (L4_q4 m d)) : Int) (Rat.num (L4_q5 m d)) (↑(Rat.den (L4_q5 m d)) : Int) ∧
   SInt (Rat.num (L4_q6 m d)) (↑(Rat.den (L4_q6 m d)) : Int) (Rat.num (L4_q7 m d)) (↑(Rat.den (L4_q7 m d)) : Int)) ∧
   (((0 : Int) ≤ k0 ∧ k0 < (256 : Int)) ∧ ((0 : Int) ≤ k1 ∧ k1 < (256 : Int)) ∧ (0 : Int) ≤ k2 ∧ k2 < (256 : Int)) ∧ ((0 : Int) ≤ k3 ∧ k3 < (256 : Int)) ∧ ((0 : Int) ≤ k4 ∧ k4 < (256 : Int)) ∧ (0 : Int) ≤ k5 ∧ k5 < (256 : Int))
   (.need
   (VBox (Rat.num (L4_q9 n c)) (↑(Rat.den (L4_q9 n c)) : Int) (Rat.num (L4_q10 n c)) (↑(Rat.den (L4_q10 n c)) : Int) (Rat.num (L4_q11 n c))
   (↑(Rat.den (L4_q11 n c)) : Int) (Rat.num (L4_q12 n c)) (↑(Rat.den (L4_q12 n c)) : Int) (Rat.num (L4_q2 m d)) (↑(Rat.den (L4_q2 m d)) : Int) (Rat.num (L4_q3 m d))
   (↑(Rat.den (L4_q3 m d)) : Int) (Rat.num (L4_q4 m d)) (↑(Rat.den (L4_q4 m d)) : Int) (Rat.num (L4_q5 m d)) (↑(Rat.den (L4_q5 m d)) : Int) (Rat.num (L4_q6 m d))
   (↑(Rat.den (L4_q6 m d)) : Int) (Rat.num (L4_q7 m d)) (↑(Rat.den (L4_q7 m d)) : Int))
   (.need
   (VBox (Rat.num (L4_q9 n c)) (↑(Rat.den (L4_q9 n c)) : Int) (Rat.num (L4_q10 n c)) (↑(Rat.den (L4_q10 n c)) : Int) (Rat.num (L4_q11 n c))
   (↑(Rat.den (L4_q11 n c)) : Int) (Rat.num (L4_q12 n c)) (↑(Rat.den (L4_q12 n c)) : Int) (Rat.num (L4_q15 m d k0 k3)) (↑(Rat.den (L4_q15 m d k0 k3)) : Int)
   (Rat.num (L4_q16 m d k0 k3)) (↑(Rat.den (L4_q16 m d k0 k3)) : Int) (Rat.num (L4_q19 m d k1 k4)) (↑(Rat.den (L4_q19 m d k1 k4)) : Int) (Rat.num (L4_q20 m d k1 k4))
   (↑(Rat.den (L4_q20 m d k1 k4)) : Int) (Rat.num (L4_q23 m d k2 k5)) (↑(Rat.den (L4_q23 m d k2 k5)) : Int) (Rat.num (L4_q24 m d k2 k5))
   (↑(Rat.den (L4_q24 m d k2 k5)) : Int))
   (.ite
   (!(vB (lN (L4_q29 n m c d)) (lD (L4_q29 n m c d)) && vB (hN (L4_q29 n m c d)) (hD (L4_q29 n m c d)) && decide (L4_q30 n m c d ≤ L4_q31 n m c d)) ||
   !(vB (lN (L4_q38 n m c d k0 k1 k2 k3 k4 k5)) (lD (L4_q38 n m c d k0 k1 k2 k3 k4 k5)) && vB (hN (L4_q38 n m c d k0 k1 k2 k3 k4 k5)) (hD (L4_q38 n m c d k0 k1 k2 k3 k4 k5)) &&
   decide (L4_q39 n m c d k0 k1 k2 k3 k4 k5 ≤ L4_q40 n m c d k0 k1 k2 k3 k4 k5)))
   (.ret (bv false))
   (.need
   (VB6 (Rat.num (L4_q15 m d k0 k3)) (↑(Rat.den (L4_q15 m d k0 k3)) : Int) (Rat.num (L4_q16 m d k0 k3)) (↑(Rat.den (L4_q16 m d k0 k3)) : Int) (Rat.num (L4_q19 m d k1 k4))
   (↑(Rat.den (L4_q19 m d k1 k4)) : Int) (Rat.num (L4_q20 m d k1 k4)) (↑(Rat.den (L4_q20 m d k1 k4)) : Int) (Rat.num (L4_q23 m d k2 k5))
   (↑(Rat.den (L4_q23 m d k2 k5)) : Int) (Rat.num (L4_q24 m d k2 k5)) (↑(Rat.den (L4_q24 m d k2 k5)) : Int) ∧
   VB6 (Rat.num (L4_q2 m d)) (↑(Rat.den (L4_q2 m d)) : Int) (Rat.num (L4_q3 m d)) (↑(Rat.den (L4_q3 m d)) : Int) (Rat.num (L4_q4 m d))
   (↑(Rat.den (L4_q4 m d)) : Int) (Rat.num (L4_q5 m d)) (↑(Rat.den (L4_q5 m d)) : Int) (Rat.num (L4_q6 m d)) (↑(Rat.den (L4_q6 m d)) : Int)
   (Rat.num (L4_q7 m d)) (↑(Rat.den (L4_q7 m d)) : Int))
   (.need
   (L4_q41 n m c d k0 k1 k2 k3 k4 k5 = true →
   VF (lN (L4_q38 n m c d k0 k1 k2 k3 k4 k5)) (lD (L4_q38 n m c d k0 k1 k2 k3 k4 k5)) ∧
   VF (hN (L4_q38 n m c d k0 k1 k2 k3 k4 k5)) (hD (L4_q38 n m c d k0 k1 k2 k3 k4 k5)) ∧
   VF (lN (L4_q29 n m c d)) (lD (L4_q29 n m c d)) ∧ VF (hN (L4_q29 n m c d)) (hD (L4_q29 n m c d)))
   (.need
   (L4_q42 n m c d k0 k1 k2 k3 k4 k5 = true →
   VB6 (Rat.num (L4_q2 m d)) (↑(Rat.den (L4_q2 m d)) : Int) (Rat.num (L4_q3 m d)) (↑(Rat.den (L4_q3 m d)) : Int) (Rat.num (L4_q4 m d))
   (↑(Rat.den (L4_q4 m d)) : Int) (Rat.num (L4_q5 m d)) (↑(Rat.den (L4_q5 m d)) : Int) (Rat.num (L4_q6 m d)) (↑(Rat.den (L4_q6 m d)) : Int)
   (Rat.num (L4_q7 m d)) (↑(Rat.den (L4_q7 m d)) : Int) ∧
   VB6 (Rat.num (L4_q15 m d k0 k3)) (↑(Rat.den (L4_q15 m d k0 k3)) : Int) (Rat.num (L4_q16 m d k0 k3)) (↑(Rat.den (L4_q16 m d k0 k3)) : Int)
   (Rat.num (L4_q19 m d k1 k4)) (↑(Rat.den (L4_q19 m d k1 k4)) : Int) (Rat.num (L4_q20 m d k1 k4)) (↑(Rat.den (L4_q20 m d k1 k4)) : Int)
   (Rat.num (L4_q23 m d k2 k5)) (↑(Rat.den (L4_q23 m d k2 k5)) : Int) (Rat.num (L4_q24 m d k2 k5)) (↑(Rat.den (L4_q24 m d k2 k5)) : Int))
   (.ret
   (bv
   (L4_q42 n m c d k0 k1 k2 k3 k4 k5 &&
   (wiB (L4_q13 m d) (L4_q14 m d) (L4_q32 m d k0 k3) (L4_q33 m d k0 k3) &&
   wiB (L4_q17 m d) (L4_q18 m d) (L4_q34 m d k1 k4) (L4_q35 m d k1 k4) &&
   wiB (L4_q21 m d) (L4_q22 m d) (L4_q36 m d k2 k5) (L4_q37 m d k2 k5)) ==
   (Rat.num (L4_q15 m d k0 k3) == Rat.num (L4_q2 m d) && ((↑(Rat.den (L4_q15 m d k0 k3)) : Int) == (↑(Rat.den (L4_q2 m d)) : Int) && true) &&
   (Rat.num (L4_q16 m d k0 k3) == Rat.num (L4_q3 m d) && ((↑(Rat.den (L4_q16 m d k0 k3)) : Int) == (↑(Rat.den (L4_q3 m d)) : Int) && true) && true) &&
   (Rat.num (L4_q19 m d k1 k4) == Rat.num (L4_q4 m d) && ((↑(Rat.den (L4_q19 m d k1 k4)) : Int) == (↑(Rat.den (L4_q4 m d)) : Int) && true) &&
   (Rat.num (L4_q20 m d k1 k4) == Rat.num (L4_q5 m d) && ((↑(Rat.den (L4_q20 m d k1 k4)) : Int) == (↑(Rat.den (L4_q5 m d)) : Int) && true) && true) &&
   (Rat.num (L4_q23 m d k2 k5) == Rat.num (L4_q6 m d) && ((↑(Rat.den (L4_q23 m d k2 k5)) : Int) == (↑(Rat.den (L4_q6 m d)) : Int) && true) &&
   (Rat.num (L4_q24 m d k2 k5) == Rat.num (L4_q7 m d) && ((↑(Rat.den (L4_q24 m d k2 k5)) : Int) == (↑(Rat.den (L4_q7 m d)) : Int) && true) && true) &&
   true))) &&
   true))))))))))))

theorem L4_eq (n m : Nat) (c d : Nat → Nat → DV) (k0 k1 k2 k3 k4 k5 : Int) : TF .nil 4 [.d (.ro n 1 c), .d (.ro m 1 d), .agg [u8 k0, u8 k1, u8 k2, u8 k3, u8 k4, u8 k5]] = L4 n m c d k0 k1 k2 k3 k4 k5 := by kernel_rfl



end Go.Proofs.Ytpaejfeojdoikaa

namespace Go.Proofs.Ytpaejfeojdoikaa
open Go.Sx
set_option maxRecDepth 100000

/-! ### Linear functions over rational numbers: plain laws -/

/-- The value of a function at a point. -/
def lv (k t v a p q r : Rat) : Rat := k + t * p + v * q + a * r
/-- A coefficient, and a coordinate, of the sizes met here. -/
abbrev CfQ (q : Rat) : Prop := Sm 3600 800 q
abbrev PtQ (q : Rat) : Prop := Sm 480 60 q
theorem _root_.Go.Sx.Sm.cf {q : Rat} (h : Sm 60 20 q) : CfQ q := h.le (by decide) (by decide) (by decide)
theorem _root_.Go.Sx.Sm.pt {q : Rat} (h : Sm 60 20 q) : PtQ q := h.le (by decide) (by decide) (by decide)
theorem CfQ.vf {q : Rat} (h : CfQ q) : VF q.num q.den := VF.of (h.fits (by decide) (by decide))
theorem PtQ.vf {q : Rat} (h : PtQ q) : VF q.num q.den := VF.of (h.fits (by decide) (by decide))

theorem lv_sm {k t v a p q r : Rat} (hk : CfQ k) (ht : CfQ t) (hv : CfQ v) (ha : CfQ a) (hp : PtQ p) (hq : PtQ q) (hr : PtQ r) :
    Sm 1728000 48800 (k + t * p) ∧ Sm 1728000 96800 (k + t * p + v * q) ∧ Sm 1728000 144800 (lv k t v a p q r) := by
  have h1 : Sm 1728000 48000 (t * p) := ht.mul hp
  have h2 : Sm 1728000 48000 (v * q) := hv.mul hq
  have h3 : Sm 1728000 48000 (a * r) := ha.mul hr
  have h0 : Sm 1728000 800 k := hk.le (by decide) (by decide) (by decide)
  exact ⟨h0.add h1, (h0.add h1).add h2, ((h0.add h1).add h2).add h3⟩
theorem lv_fits {k t v a p q r : Rat} (hk : CfQ k) (ht : CfQ t) (hv : CfQ v) (ha : CfQ a) (hp : PtQ p) (hq : PtQ q) (hr : PtQ r) : fitsR (lv k t v a p q r) :=
  (lv_sm hk ht hv ha hp hq hr).2.2.fits (by decide) (by decide)
theorem at_val {k t v a p q r : Rat} (hk : CfQ k) (ht : CfQ t) (hv : CfQ v) (ha : CfQ a) (hp : PtQ p) (hq : PtQ q) (hr : PtQ r) : atO k t v a p q r = some (lv k t v a p q r) := by
  obtain ⟨s1, s2, s3⟩ := lv_sm hk ht hv ha hp hq hr
  have h1 : Sm 1728000 48000 (t * p) := ht.mul hp
  have h2 : Sm 1728000 48000 (v * q) := hv.mul hq
  have h3 : Sm 1728000 48000 (a * r) := ha.mul hr
  unfold atO
  rw [fit_of (h1.fits (by decide) (by decide))]
  show (fit (k + t * p)).bind _ = _
  rw [fit_of (s1.fits (by decide) (by decide))]
  show (fit (v * q)).bind _ = _
  rw [fit_of (h2.fits (by decide) (by decide))]
  show (fit (k + t * p + v * q)).bind _ = _
  rw [fit_of (s2.fits (by decide) (by decide))]
  show (fit (a * r)).bind _ = _
  rw [fit_of (h3.fits (by decide) (by decide))]
  show fit (k + t * p + v * q + a * r) = _
  exact fit_of (s3.fits (by decide) (by decide))
theorem crn_sm {D M : Nat} {c p q : Rat} {u : Bool} (h : Sm D M p) (k : Sm D M q) : Sm D M (crn c p q u) := by unfold crn; split <;> assumption

/-- A box with its bounds. -/
structure BxQ (l0 h0 l1 h1 l2 h2 : Rat) : Prop where
  a0 : PtQ l0
  b0 : PtQ h0
  a1 : PtQ l1
  b1 : PtQ h1
  a2 : PtQ l2
  b2 : PtQ h2
  o0 : l0 ≤ h0
  o1 : l1 ≤ h1
  o2 : l2 ≤ h2
/-- The range over a box. -/
noncomputable def rgV (k t v a l0 h0 l1 h1 l2 h2 : Rat) (u : Bool) : Rat := lv k t v a (crn t l0 h0 u) (crn v l1 h1 u) (crn a l2 h2 u)
theorem rg_val {k t v a l0 h0 l1 h1 l2 h2 : Rat} (hk : CfQ k) (ht : CfQ t) (hv : CfQ v) (ha : CfQ a) (B : BxQ l0 h0 l1 h1 l2 h2) :
    rgO k t v a l0 h0 l1 h1 l2 h2 = some (rgV k t v a l0 h0 l1 h1 l2 h2 false, rgV k t v a l0 h0 l1 h1 l2 h2 true) := by
  unfold rgO
  rw [at_val hk ht hv ha (crn_sm B.a0 B.b0) (crn_sm B.a1 B.b1) (crn_sm B.a2 B.b2), at_val hk ht hv ha (crn_sm B.a0 B.b0) (crn_sm B.a1 B.b1) (crn_sm B.a2 B.b2)]
  rfl
theorem rgV_fits {k t v a l0 h0 l1 h1 l2 h2 : Rat} (hk : CfQ k) (ht : CfQ t) (hv : CfQ v) (ha : CfQ a) (B : BxQ l0 h0 l1 h1 l2 h2) (u : Bool) : fitsR (rgV k t v a l0 h0 l1 h1 l2 h2 u) :=
  lv_fits hk ht hv ha (crn_sm B.a0 B.b0) (crn_sm B.a1 B.b1) (crn_sm B.a2 B.b2)

theorem num_ge {t : Rat} : decide (t.num ≥ 0) = decide (0 ≤ t) := by rw [decide_eq_decide]; exact Rat.num_nonneg
theorem crn_lo {t l h x : Rat} (h1 : l ≤ x) (h2 : x ≤ h) : t * crn t l h false ≤ t * x ∧ t * x ≤ t * crn t l h true := by
  unfold crn
  rw [num_ge]
  by_cases ht : 0 ≤ t
  · simp only [ht, decide_true, beq_false, beq_true, Bool.not_true, if_true]
    exact ⟨Rat.mul_le_mul_of_nonneg_left h1 ht, Rat.mul_le_mul_of_nonneg_left h2 ht⟩
  · simp only [ht, decide_false, beq_false, beq_true, Bool.not_false, if_true]
    have h3 : 0 ≤ -t := by grind
    have e1 := Rat.mul_le_mul_of_nonneg_left h1 h3
    have e2 := Rat.mul_le_mul_of_nonneg_left h2 h3
    rw [Rat.neg_mul, Rat.neg_mul] at e1 e2
    simp only [Bool.false_eq_true, if_false]
    exact ⟨by grind, by grind⟩
theorem lv_le {k t v a p q r p' q' r' : Rat} (h1 : t * p ≤ t * p') (h2 : v * q ≤ v * q') (h3 : a * r ≤ a * r') : lv k t v a p q r ≤ lv k t v a p' q' r' := by
  unfold lv; grind
/-- Within a box a function lies within its range. -/
theorem lv_in {k t v a l0 h0 l1 h1 l2 h2 p q r : Rat} (p1 : l0 ≤ p) (p2 : p ≤ h0) (q1 : l1 ≤ q) (q2 : q ≤ h1) (r1 : l2 ≤ r) (r2 : r ≤ h2) :
    rgV k t v a l0 h0 l1 h1 l2 h2 false ≤ lv k t v a p q r ∧ lv k t v a p q r ≤ rgV k t v a l0 h0 l1 h1 l2 h2 true :=
  ⟨lv_le (crn_lo p1 p2).1 (crn_lo q1 q2).1 (crn_lo r1 r2).1, lv_le (crn_lo p1 p2).2 (crn_lo q1 q2).2 (crn_lo r1 r2).2⟩
theorem crn_in {t l h : Rat} (o : l ≤ h) (u : Bool) : l ≤ crn t l h u ∧ crn t l h u ≤ h := by
  unfold crn; split
  · exact ⟨o, Rat.le_refl⟩
  · exact ⟨Rat.le_refl, o⟩
theorem rgV_le {k t v a l0 h0 l1 h1 l2 h2 : Rat} (B : BxQ l0 h0 l1 h1 l2 h2) : rgV k t v a l0 h0 l1 h1 l2 h2 false ≤ rgV k t v a l0 h0 l1 h1 l2 h2 true :=
  (lv_in (crn_in B.o0 true).1 (crn_in B.o0 true).2 (crn_in B.o1 true).1 (crn_in B.o1 true).2 (crn_in B.o2 true).1 (crn_in B.o2 true).2).1

/-! ### Elements of intervals -/
theorem ratOf_01 {n d : Int} (h0 : 0 ≤ n) (h1 : n ≤ d) (hd : 1 ≤ d) : 0 ≤ ratOf n d ∧ ratOf n d ≤ 1 := by
  have e := ratOf_mul (n := n) hd
  have hd' : (0 : Rat) < (d : Rat) := by
    have : ((0 : Int) : Rat) < (d : Rat) := Rat.intCast_lt_intCast.2 (by omega)
    exact this
  refine ⟨Rat.le_of_mul_le_mul_right ?_ hd', Rat.le_of_mul_le_mul_right ?_ hd'⟩
  · rw [e, Rat.zero_mul]
    have : ((0 : Int) : Rat) ≤ (n : Rat) := Rat.intCast_le_intCast.2 h0
    exact this
  · rw [e, Rat.one_mul]; exact Rat.intCast_le_intCast.2 h1
theorem btw_in {lo hi : Rat} (h : lo ≤ hi) {k : Int} (hk : 0 ≤ k) : lo ≤ btw lo hi k ∧ btw lo hi k ≤ hi := by
  unfold btw
  obtain ⟨a, b⟩ := ratOf_01 (n := k % 9) (d := 8) (by omega) (by omega) (by decide)
  have h1 : 0 ≤ hi - lo := by grind
  have e1 := Rat.mul_le_mul_of_nonneg_left a h1
  have e2 := Rat.mul_le_mul_of_nonneg_left b h1
  rw [Rat.mul_zero] at e1
  rw [Rat.mul_one] at e2
  exact ⟨by grind, by grind⟩
theorem ptL_in {lo hi : Rat} (h : lo ≤ hi) {k l : Int} (hk : 0 ≤ k) (hl : 0 ≤ l) : lo ≤ ptL lo hi k l ∧ ptL lo hi k l ≤ ptH lo hi k l ∧ ptH lo hi k l ≤ hi := by
  unfold ptL ptH
  refine ⟨?_, mn_mx, ?_⟩
  · unfold mn; split
    · exact (btw_in h hl).1
    · exact (btw_in h hk).1
  · unfold mx; split
    · exact (btw_in h hl).2
    · exact (btw_in h hk).2
theorem ptL_sm {lo hi : Rat} (h1 : Sm 60 20 lo) (h2 : Sm 60 20 hi) {k l : Int} (hk : 0 ≤ k) (hl : 0 ≤ l) : PtQ (ptL lo hi k l) ∧ PtQ (ptH lo hi k l) :=
  ⟨(btw_sm h1 h2 hk).mn (btw_sm h1 h2 hl), (btw_sm h1 h2 hk).mx (btw_sm h1 h2 hl)⟩

end Go.Proofs.Ytpaejfeojdoikaa

namespace Go.Proofs.Ytpaejfeojdoikaa
open Go.Sx
set_option maxRecDepth 100000

/-! ### The arguments of the laws -/

theorem wf_u8 {i : Int} (h : (Lit.int .u8 i).wf = true) : 0 ≤ i ∧ i < 256 := by
  simp [Lit.wf, IntKind.min, IntKind.max, IntKind.signed, IntKind.bits] at h; omega
theorem cells5 : Try.prog.cellsOf 5 = 1 := by kernel_rfl

theorem okBytes {ds : List DV} {n : Nat} (h : okT Try.prog (n + 2) 22 ds) : ∃ m cell, Byt m cell ∧ ds = [.ro m 1 cell] := by
  simp [okT, Try.underlying22, Try.underlying5, cells5] at h
  obtain ⟨m, hm, cell, rfl, hc⟩ := h
  refine ⟨m, cell, ⟨hm, fun i hi => ?_⟩, by rfl⟩
  obtain ⟨b, hb, e⟩ := hc i hi
  exact ⟨b, by simpa using e, wf_u8 hb⟩
def u8d (k : Int) : DV := .x (.int .u8 k)
theorem okU8s {n : Nat} : ∀ {m : Nat} {ds : List DV}, okAs (okT Try.prog (n + 1) 5) m ds → ∃ ks : List Int, ks.length = m ∧ ds = ks.map u8d ∧ ∀ k ∈ ks, 0 ≤ k ∧ k < 256
  | 0, ds, h => ⟨[], rfl, h, by simp⟩
  | m + 1, ds, h => by
    obtain ⟨a, b, rfl, h1, h2⟩ := h
    simp [okT, Try.underlying5] at h1
    obtain ⟨i, hi, rfl⟩ := h1
    obtain ⟨ks, e1, rfl, e3⟩ := okU8s h2
    refine ⟨i :: ks, by simp [e1], rfl, fun k hk => ?_⟩
    rcases List.mem_cons.1 hk with rfl | hk
    · exact wf_u8 hi
    · exact e3 k hk

theorem okArr {n m : Nat} {t : TypeId} {ds : List DV} (hu : Try.prog.underlying t = some (.array m 5)) (h : okT Try.prog (n + 2) t ds) : ∃ ks : List Int, ks.length = m ∧ ds = ks.map u8d ∧ ∀ k ∈ ks, 0 ≤ k ∧ k < 256 := by
  unfold okT at h
  rw [hu] at h
  exact okU8s h

structure LawF (k : Nat) (ss : List SV) : Prop where
  ok : ∃ h, (TF h k ss).sat Try.prog (· = bv true)
theorem law_ctrF {k : Nat} {okA : List SV → Prop} (hf : (Try.prog.funcs[k]?).isSome = true) (hb : (fnOf Try.prog k).body.isSome = true) (h : ∀ ss, okA ss → LawF k ss) :
    ∃ c : Ctr, CtrOK Try.prog k c ∧ ∀ ss, okA ss → (c ss).ev (bv true) := by
  refine ⟨fun ss => .need (okA ss) (.ret (bv true)), ?_, fun ss hs => ⟨hs, rfl⟩⟩
  refine ctrOK_of CF_ok DF_ok (fn := fnOf Try.prog k) (body := bodyOf Try.prog k) (by
    unfold fnOf
    cases hk : Try.prog.funcs[k]? with
    | none => rw [hk] at hf; cases hf
    | some f => rfl) (by
    unfold bodyOf
    cases hk : (fnOf Try.prog k).body with
    | none => rw [hk] at hb; cases hb
    | some f => rfl) fun ss r hr => ?_
  obtain ⟨h1, rfl⟩ := hr
  obtain ⟨hint, h2⟩ := (h ss h1).ok
  exact ⟨200, hint, h2⟩

theorem vB_of {q : Rat} (h : fitsR q) : vB q.num q.den = true := vB_iff.2 (VF.of h)
theorem feq {p q : Rat} : (p.num == q.num && ((p.den : Int) == (q.den : Int) && true)) = decide (p = q) := by
  rw [Bool.eq_iff_iff]
  simp only [Bool.and_eq_true, beq_iff_eq, decide_eq_true_eq, and_true]
  exact ⟨fun h => Rat.ext h.1 (by omega), fun h => by subst h; exact ⟨rfl, rfl⟩⟩
theorem bv_true {b : Bool} (h : b = true) : bv b = bv true := by rw [h]

/-! ### LinearIntervals -/

theorem law5 {n : Nat} {c : Nat → Nat → DV} (hc : Byt n c) {k0 k1 : Int} (g0 : 0 ≤ k0 ∧ k0 < 256) (g1 : 0 ≤ k1 ∧ k1 < 256) : LawF 5 [.d (.ro n 1 c), .agg [u8 k0, u8 k1]] := by
  refine ⟨.nil, ?_⟩
  rw [L5_eq]; unfold L5
  have sl := fun j => loQ_sm hc j
  have sh := fun j => hiQ_sm hc j
  have ol := fun j => loQ_le (n := n) (c := intCell c) j
  have e2 : L5_q2 n c = loQ n (intCell c) 0 := rfl
  have e3 : L5_q3 n c = hiQ n (intCell c) 0 := rfl
  have e4 : L5_q4 n c = loQ n (intCell c) 1 := rfl
  have e5 : L5_q5 n c = hiQ n (intCell c) 1 := rfl
  have e6 : L5_q6 n c = loQ n (intCell c) 2 := rfl
  have e7 : L5_q7 n c = hiQ n (intCell c) 2 := rfl
  have e8 : L5_q8 n c = loQ n (intCell c) 0 := ratOf_rat _
  have e9 : L5_q9 n c = hiQ n (intCell c) 0 := ratOf_rat _
  have e11 : L5_q11 n c = loQ n (intCell c) 1 := ratOf_rat _
  have e12 : L5_q12 n c = hiQ n (intCell c) 1 := ratOf_rat _
  have e10 : L5_q10 n c k0 = btw (loQ n (intCell c) 0) (hiQ n (intCell c) 0) k0 := by unfold L5_q10; rw [e8, e9]
  have e13 : L5_q13 n c k1 = btw (loQ n (intCell c) 1) (hiQ n (intCell c) 1) k1 := by unfold L5_q13; rw [e11, e12]
  have e14 : L5_q14 n c = plsO (loQ n (intCell c) 0) (hiQ n (intCell c) 0) (loQ n (intCell c) 1) (hiQ n (intCell c) 1) := by unfold L5_q14; rw [e8, e9, e11, e12]
  have e15 : L5_q15 n c k0 = L5_q10 n c k0 := ratOf_rat _
  have e16 : L5_q16 n c k1 = L5_q13 n c k1 := ratOf_rat _
  have e20 : L5_q20 n c = mn (loQ n (intCell c) 0) (loQ n (intCell c) 1) := by unfold L5_q20; rw [e8, e11]
  have e21 : L5_q21 n c = mx (hiQ n (intCell c) 0) (hiQ n (intCell c) 1) := by unfold L5_q21; rw [e9, e12]
  have e22 : L5_q22 n c = L5_q20 n c := ratOf_rat _
  have e23 : L5_q23 n c = L5_q21 n c := ratOf_rat _
  have e30 : L5_q30 n c = loQ n (intCell c) 2 := ratOf_rat _
  have e31 : L5_q31 n c = hiQ n (intCell c) 2 := ratOf_rat _
  have e17 : L5_q17 n c k0 k1 = btw (loQ n (intCell c) 0) (hiQ n (intCell c) 0) k0 + btw (loQ n (intCell c) 1) (hiQ n (intCell c) 1) k1 := by unfold L5_q17; rw [e15, e16, e10, e13]
  have b0 := btw_in (ol 0) g0.1
  have b1 := btw_in (ol 1) g1.1
  have sb0 := btw_sm (sl 0) (sh 0) g0.1
  have sb1 := btw_sm (sl 1) (sh 1) g1.1
  have f17 : fitsR (L5_q17 n c k0 k1) := by rw [e17]; exact (sb0.add sb1).fits (by decide) (by decide)
  have fl : fitsR (loQ n (intCell c) 0 + loQ n (intCell c) 1) := ((sl 0).add (sl 1)).fits (by decide) (by decide)
  have fh : fitsR (hiQ n (intCell c) 0 + hiQ n (intCell c) 1) := ((sh 0).add (sh 1)).fits (by decide) (by decide)
  have e14' : L5_q14 n c = some (loQ n (intCell c) 0 + loQ n (intCell c) 1, hiQ n (intCell c) 0 + hiQ n (intCell c) 1) := by rw [e14]; unfold plsO; rw [fit_of fl, fit_of fh]; rfl
  have e18 : L5_q18 n c = loQ n (intCell c) 0 + loQ n (intCell c) 1 := by unfold L5_q18; rw [e14']; exact ratOf_rat _
  have e19 : L5_q19 n c = hiQ n (intCell c) 0 + hiQ n (intCell c) 1 := by unfold L5_q19; rw [e14']; exact ratOf_rat _
  have e26 : L5_q26 n c k0 k1 = L5_q17 n c k0 k1 := by unfold L5_q26; rw [rN_of f17, rD_of f17]; exact ratOf_rat _
  have p14 : lN (L5_q14 n c) = (loQ n (intCell c) 0 + loQ n (intCell c) 1).num ∧ lD (L5_q14 n c) = (loQ n (intCell c) 0 + loQ n (intCell c) 1).den ∧ hN (L5_q14 n c) = (hiQ n (intCell c) 0 + hiQ n (intCell c) 1).num ∧ hD (L5_q14 n c) = (hiQ n (intCell c) 0 + hiQ n (intCell c) 1).den ∧ oE (L5_q14 n c) = 0 := by
    rw [e14']; exact ⟨rfl, rfl, rfl, rfl, rfl⟩
  obtain ⟨p1, p2, p3, p4, p5⟩ := p14
  have fmn : fitsR (L5_q20 n c) := by rw [e20]; exact ((sl 0).mn (sl 1)).fits (by decide) (by decide)
  have fmx : fitsR (L5_q21 n c) := by rw [e21]; exact ((sh 0).mx (sh 1)).fits (by decide) (by decide)
  have m1 := mn_le (p := loQ n (intCell c) 0) (q := loQ n (intCell c) 1)
  have m2 := le_mx (p := hiQ n (intCell c) 0) (q := hiQ n (intCell c) 1)
  have o0 := ol 0
  have o1 := ol 1
  have h24 : L5_q24 n c = true := by
    unfold L5_q24; rw [vB_of fmn, vB_of fmx, e22, e23, e20, e21]
    simp only [Bool.true_and, decide_eq_true_eq]; grind
  have h25 : L5_q25 n c k0 k1 = false := by
    unfold L5_q25; rw [h24, p1, p2, p3, p4, p5, vB_of fl, vB_of fh, rE_of f17, e18, e19, decide_eq_true (by grind)]; rfl
  have h27 : L5_q27 n c k0 k1 = false := by
    unfold L5_q27; rw [h25, e18, e19, e26, e17, decide_eq_true (by grind), decide_eq_true (by grind)]; rfl
  have h28 : L5_q28 n c = true := by
    unfold L5_q28; rw [h24, e22, e23, e20, e21, e8, e9, decide_eq_true (by grind), decide_eq_true (by grind), decide_eq_true (by grind), decide_eq_true (by grind)]; rfl
  have h29 : L5_q29 n c = true := by
    unfold L5_q29; rw [h28, e22, e23, e20, e21, e11, e12, decide_eq_true (by grind), decide_eq_true (by grind), decide_eq_true (by grind), decide_eq_true (by grind)]; rfl
  have vl := fun j => VF.of ((sl j).fits (by decide) (by decide))
  have vh := fun j => VF.of ((sh j).fits (by decide) (by decide))
  have si := fun j => SInt.mk (vl j) (vh j) (by rw [ratOf_rat]; exact sl j) (by rw [ratOf_rat]; exact sh j)
  have v17 : VF (rN (L5_q17 n c k0 k1)) (rD (L5_q17 n c k0 k1)) := by rw [rN_of f17, rD_of f17]; exact VF.of f17
  have w0 : VF (L5_q10 n c k0).num (L5_q10 n c k0).den := by rw [e10]; exact VF.of (sb0.fits (by decide) (by decide))
  have w1 : VF (L5_q13 n c k1).num (L5_q13 n c k1).den := by rw [e13]; exact VF.of (sb1.fits (by decide) (by decide))
  rw [p1, p2, p3, p4]
  refine ⟨fun h => (by cases h), fun _ => ⟨⟨hc, by decide, by decide, by decide⟩, ⟨hc, by decide, by decide, by decide⟩, ⟨hc, by decide, by decide, by decide⟩, by decide, by decide, by decide, by decide, ⟨⟨si 0, si 1, si 2⟩, g0, g1, by decide, by decide⟩,
    ⟨vl 0, vh 0, vl 1, vh 1⟩, by decide, by decide, by decide, by decide, ⟨w0, w1⟩, ⟨vl 0, vl 1⟩, ⟨vh 0, vh 1⟩, fun _ => ⟨VF.of fl, VF.of fh, v17⟩, fun _ => by decide, fun _ => by decide, fun _ => ⟨vl 0, vh 0, w0⟩, fun h => ?_, fun _ => ?_⟩⟩
  · rw [h27, e8, e15, e9, e10, decide_eq_true b0.1, decide_eq_true b0.2] at h; cases h
  · refine ⟨fun _ => ⟨vl 0, vh 0, VF.of fmn, VF.of fmx⟩, fun _ => ⟨vl 1, vh 1, VF.of fmn, VF.of fmx⟩, fun _ => ⟨vl 0, vh 0, vl 2, vh 2⟩, fun _ => ⟨vl 1, vh 1, vl 2, vh 2⟩, fun _ => ⟨VF.of fmn, VF.of fmx, vl 2, vh 2⟩, bv_true ?_⟩
    unfold L5_q32
    rw [h29, e8, e9, e11, e12, e30, e31, e22, e23, e20, e21]
    have hmn : mn (loQ n (intCell c) 0) (loQ n (intCell c) 1) = loQ n (intCell c) 0 ∨ mn (loQ n (intCell c) 0) (loQ n (intCell c) 1) = loQ n (intCell c) 1 := by unfold mn; split <;> simp
    have hmx : mx (hiQ n (intCell c) 0) (hiQ n (intCell c) 1) = hiQ n (intCell c) 0 ∨ mx (hiQ n (intCell c) 0) (hiQ n (intCell c) 1) = hiQ n (intCell c) 1 := by unfold mx; split <;> simp
    simp only [Bool.true_and, Bool.and_true, beq_iff_eq]
    rw [Bool.eq_iff_iff]
    simp only [Bool.and_eq_true, decide_eq_true_eq]
    grind

theorem linearIntervals_ok : ∃ c : Ctr, CtrOK Try.prog 5 c ∧ ∀ ss, okArgs Try.prog 6 [22, 53] ss → (c ss).ev (bv true) := by
  refine law_ctrF (by kernel_rfl) (by kernel_rfl) fun ss h => ?_
  obtain ⟨d1, _, rfl, h1, d2, _, rfl, h2, rfl⟩ := h
  obtain ⟨n, cell, hb, rfl⟩ := okBytes h1
  obtain ⟨ks, e1, rfl, e3⟩ := okArr Try.underlying53 h2
  match ks, e1 with
  | [k0, k1], _ =>
    have := law5 hb (e3 k0 (by simp)) (e3 k1 (by simp))
    simpa [svT, Try.underlying22, Try.underlying53, u8, u8d] using this

end Go.Proofs.Ytpaejfeojdoikaa

namespace Go.Proofs.Ytpaejfeojdoikaa
open Go.Sx
set_option maxRecDepth 100000

def l3H : Nat → Hint
  | 0 => .u (.f .nil)
  | n + 1 => .u (.t (.br .nil (l3H n)))
noncomputable def L3_q1 (c : Nat → Nat → DV) (i : Nat) : Int :=
  intOf1 (c i (0 : Nat))
noncomputable def L3_q2 (n : Nat) (c : Nat → Nat → DV) : Rat :=
  linQ n (L3_q1 c) 0
noncomputable def L3_q3 (n : Nat) (c : Nat → Nat → DV) : Rat :=
  linQ n (L3_q1 c) 1
noncomputable def L3_q4 (n : Nat) (c : Nat → Nat → DV) : Rat :=
  linQ n (L3_q1 c) 2
noncomputable def L3_q5 (n : Nat) (c : Nat → Nat → DV) : Rat :=
  linQ n (L3_q1 c) 3
noncomputable def L3_q6 (d : Nat → Nat → DV) (i : Nat) : Int :=
  intOf1 (d i (0 : Nat))
noncomputable def L3_q7 (m : Nat) (d : Nat → Nat → DV) : Rat :=
  loQ m (L3_q6 d) 0
noncomputable def L3_q8 (m : Nat) (d : Nat → Nat → DV) : Rat :=
  hiQ m (L3_q6 d) 0
noncomputable def L3_q9 (m : Nat) (d : Nat → Nat → DV) : Rat :=
  loQ m (L3_q6 d) 1
noncomputable def L3_q10 (m : Nat) (d : Nat → Nat → DV) : Rat :=
  hiQ m (L3_q6 d) 1
noncomputable def L3_q11 (m : Nat) (d : Nat → Nat → DV) : Rat :=
  loQ m (L3_q6 d) 2
noncomputable def L3_q12 (m : Nat) (d : Nat → Nat → DV) : Rat :=
  hiQ m (L3_q6 d) 2
noncomputable def L3_q13 (m : Nat) (d : Nat → Nat → DV) : Rat :=
  ratOf (Rat.num (L3_q7 m d)) (↑(Rat.den (L3_q7 m d)) : Int)
noncomputable def L3_q14 (m : Nat) (d : Nat → Nat → DV) : Rat :=
  ratOf (Rat.num (L3_q8 m d)) (↑(Rat.den (L3_q8 m d)) : Int)
noncomputable def L3_q15 (m : Nat) (d : Nat → Nat → DV) (k0 : Int) : Rat :=
  btw (L3_q13 m d) (L3_q14 m d) k0
noncomputable def L3_q16 (m : Nat) (d : Nat → Nat → DV) : Rat :=
  ratOf (Rat.num (L3_q9 m d)) (↑(Rat.den (L3_q9 m d)) : Int)
noncomputable def L3_q17 (m : Nat) (d : Nat → Nat → DV) : Rat :=
  ratOf (Rat.num (L3_q10 m d)) (↑(Rat.den (L3_q10 m d)) : Int)
noncomputable def L3_q18 (m : Nat) (d : Nat → Nat → DV) (k1 : Int) : Rat :=
  btw (L3_q16 m d) (L3_q17 m d) k1
noncomputable def L3_q19 (m : Nat) (d : Nat → Nat → DV) : Rat :=
  ratOf (Rat.num (L3_q11 m d)) (↑(Rat.den (L3_q11 m d)) : Int)
noncomputable def L3_q20 (m : Nat) (d : Nat → Nat → DV) : Rat :=
  ratOf (Rat.num (L3_q12 m d)) (↑(Rat.den (L3_q12 m d)) : Int)
noncomputable def L3_q21 (m : Nat) (d : Nat → Nat → DV) (k2 : Int) : Rat :=
  btw (L3_q19 m d) (L3_q20 m d) k2
noncomputable def L3_q22 (n : Nat) (c : Nat → Nat → DV) : Rat :=
  ratOf (Rat.num (L3_q2 n c)) (↑(Rat.den (L3_q2 n c)) : Int)
noncomputable def L3_q23 (n : Nat) (c : Nat → Nat → DV) : Rat :=
  ratOf (Rat.num (L3_q3 n c)) (↑(Rat.den (L3_q3 n c)) : Int)
noncomputable def L3_q24 (n : Nat) (c : Nat → Nat → DV) : Rat :=
  ratOf (Rat.num (L3_q4 n c)) (↑(Rat.den (L3_q4 n c)) : Int)
noncomputable def L3_q25 (n : Nat) (c : Nat → Nat → DV) : Rat :=
  ratOf (Rat.num (L3_q5 n c)) (↑(Rat.den (L3_q5 n c)) : Int)
noncomputable def L3_q26 (n : Nat) (m : Nat) (c : Nat → Nat → DV) (d : Nat → Nat → DV) : Option (Rat × Rat) :=
  rgO (L3_q22 n c) (L3_q23 n c) (L3_q24 n c) (L3_q25 n c) (L3_q13 m d) (L3_q14 m d) (L3_q16 m d) (L3_q17 m d) (L3_q19 m d)
  (L3_q20 m d)
noncomputable def L3_q27 (m : Nat) (d : Nat → Nat → DV) (k0 : Int) : Rat :=
  ratOf (Rat.num (L3_q15 m d k0)) (↑(Rat.den (L3_q15 m d k0)) : Int)
noncomputable def L3_q28 (m : Nat) (d : Nat → Nat → DV) (k1 : Int) : Rat :=
  ratOf (Rat.num (L3_q18 m d k1)) (↑(Rat.den (L3_q18 m d k1)) : Int)
noncomputable def L3_q29 (m : Nat) (d : Nat → Nat → DV) (k2 : Int) : Rat :=
  ratOf (Rat.num (L3_q21 m d k2)) (↑(Rat.den (L3_q21 m d k2)) : Int)
noncomputable def L3_q30 (n : Nat) (m : Nat) (c : Nat → Nat → DV) (d : Nat → Nat → DV) (k0 : Int) (k1 : Int) (k2 : Int) : Option Rat :=
  atO (L3_q22 n c) (L3_q23 n c) (L3_q24 n c) (L3_q25 n c) (L3_q27 m d k0) (L3_q28 m d k1) (L3_q29 m d k2)
noncomputable def L3_q31 (n : Nat) (m : Nat) (c : Nat → Nat → DV) (d : Nat → Nat → DV) : Rat :=
  ratOf (lN (L3_q26 n m c d)) (lD (L3_q26 n m c d))
noncomputable def L3_q32 (n : Nat) (m : Nat) (c : Nat → Nat → DV) (d : Nat → Nat → DV) : Rat :=
  ratOf (hN (L3_q26 n m c d)) (hD (L3_q26 n m c d))
noncomputable def L3_q33 (n : Nat) (m : Nat) (c : Nat → Nat → DV) (d : Nat → Nat → DV) (k0 : Int) (k1 : Int) (k2 : Int) : Bool :=
  oE (L3_q26 n m c d) != (0 : Int) || oE (L3_q30 n m c d k0 k1 k2) != (0 : Int) ||
   !(vB (lN (L3_q26 n m c d)) (lD (L3_q26 n m c d)) && vB (hN (L3_q26 n m c d)) (hD (L3_q26 n m c d)) && decide (L3_q31 n m c d ≤ L3_q32 n m c d)) ||
  !vB (oN (L3_q30 n m c d k0 k1 k2)) (oD (L3_q30 n m c d k0 k1 k2))
noncomputable def L3_q34 (n : Nat) (m : Nat) (c : Nat → Nat → DV) (d : Nat → Nat → DV) (k0 : Int) (k1 : Int) (k2 : Int) : Rat :=
  ratOf (oN (L3_q30 n m c d k0 k1 k2)) (oD (L3_q30 n m c d k0 k1 k2))
noncomputable def L3_q35 (m : Nat) (d : Nat → Nat → DV) : Rat :=
  btw (L3_q13 m d) (L3_q14 m d) (0 : Int)
noncomputable def L3_q36 (m : Nat) (d : Nat → Nat → DV) : Rat :=
  btw (L3_q16 m d) (L3_q17 m d) (0 : Int)
noncomputable def L3_q37 (m : Nat) (d : Nat → Nat → DV) : Rat :=
  btw (L3_q19 m d) (L3_q20 m d) (0 : Int)
noncomputable def L3_q38 (m : Nat) (d : Nat → Nat → DV) : Rat :=
  ratOf (Rat.num (L3_q35 m d)) (↑(Rat.den (L3_q35 m d)) : Int)
noncomputable def L3_q39 (m : Nat) (d : Nat → Nat → DV) : Rat :=
  ratOf (Rat.num (L3_q36 m d)) (↑(Rat.den (L3_q36 m d)) : Int)
noncomputable def L3_q40 (m : Nat) (d : Nat → Nat → DV) : Rat :=
  ratOf (Rat.num (L3_q37 m d)) (↑(Rat.den (L3_q37 m d)) : Int)
noncomputable def L3_q41 (n : Nat) (m : Nat) (c : Nat → Nat → DV) (d : Nat → Nat → DV) : Option Rat :=
  atO (L3_q22 n c) (L3_q23 n c) (L3_q24 n c) (L3_q25 n c) (L3_q38 m d) (L3_q39 m d) (L3_q40 m d)
noncomputable def L3_q42 (n : Nat) (m : Nat) (c : Nat → Nat → DV) (d : Nat → Nat → DV) : Bool :=
  oE (L3_q41 n m c d) != (0 : Int) || !vB (oN (L3_q41 n m c d)) (oD (L3_q41 n m c d))
noncomputable def L3_q43 (n : Nat) (m : Nat) (c : Nat → Nat → DV) (d : Nat → Nat → DV) : Rat :=
  ratOf (oN (L3_q41 n m c d)) (oD (L3_q41 n m c d))
noncomputable def L3_q44 (m : Nat) (d : Nat → Nat → DV) : Rat :=
  btw (L3_q13 m d) (L3_q14 m d) (8 : Int)
noncomputable def L3_q45 (m : Nat) (d : Nat → Nat → DV) : Rat :=
  ratOf (Rat.num (L3_q44 m d)) (↑(Rat.den (L3_q44 m d)) : Int)
noncomputable def L3_q46 (n : Nat) (m : Nat) (c : Nat → Nat → DV) (d : Nat → Nat → DV) : Option Rat :=
  atO (L3_q22 n c) (L3_q23 n c) (L3_q24 n c) (L3_q25 n c) (L3_q45 m d) (L3_q39 m d) (L3_q40 m d)
noncomputable def L3_q47 (n : Nat) (m : Nat) (c : Nat → Nat → DV) (d : Nat → Nat → DV) : Bool :=
  oE (L3_q46 n m c d) != (0 : Int) || !vB (oN (L3_q46 n m c d)) (oD (L3_q46 n m c d))
noncomputable def L3_q48 (n : Nat) (m : Nat) (c : Nat → Nat → DV) (d : Nat → Nat → DV) : Rat :=
  ratOf (oN (L3_q46 n m c d)) (oD (L3_q46 n m c d))
noncomputable def L3_q49 (m : Nat) (d : Nat → Nat → DV) : Rat :=
  btw (L3_q16 m d) (L3_q17 m d) (8 : Int)
noncomputable def L3_q50 (m : Nat) (d : Nat → Nat → DV) : Rat :=
  ratOf (Rat.num (L3_q49 m d)) (↑(Rat.den (L3_q49 m d)) : Int)
noncomputable def L3_q51 (n : Nat) (m : Nat) (c : Nat → Nat → DV) (d : Nat → Nat → DV) : Option Rat :=
  atO (L3_q22 n c) (L3_q23 n c) (L3_q24 n c) (L3_q25 n c) (L3_q38 m d) (L3_q50 m d) (L3_q40 m d)
noncomputable def L3_q52 (n : Nat) (m : Nat) (c : Nat → Nat → DV) (d : Nat → Nat → DV) : Bool :=
  oE (L3_q51 n m c d) != (0 : Int) || !vB (oN (L3_q51 n m c d)) (oD (L3_q51 n m c d))
noncomputable def L3_q53 (n : Nat) (m : Nat) (c : Nat → Nat → DV) (d : Nat → Nat → DV) : Rat :=
  ratOf (oN (L3_q51 n m c d)) (oD (L3_q51 n m c d))
noncomputable def L3_q54 (n : Nat) (m : Nat) (c : Nat → Nat → DV) (d : Nat → Nat → DV) : Option Rat :=
  atO (L3_q22 n c) (L3_q23 n c) (L3_q24 n c) (L3_q25 n c) (L3_q45 m d) (L3_q50 m d) (L3_q40 m d)
noncomputable def L3_q55 (n : Nat) (m : Nat) (c : Nat → Nat → DV) (d : Nat → Nat → DV) : Bool :=
  oE (L3_q54 n m c d) != (0 : Int) || !vB (oN (L3_q54 n m c d)) (oD (L3_q54 n m c d))
noncomputable def L3_q56 (n : Nat) (m : Nat) (c : Nat → Nat → DV) (d : Nat → Nat → DV) : Rat :=
  ratOf (oN (L3_q54 n m c d)) (oD (L3_q54 n m c d))
noncomputable def L3_q57 (m : Nat) (d : Nat → Nat → DV) : Rat :=
  btw (L3_q19 m d) (L3_q20 m d) (8 : Int)
noncomputable def L3_q58 (m : Nat) (d : Nat → Nat → DV) : Rat :=
  ratOf (Rat.num (L3_q57 m d)) (↑(Rat.den (L3_q57 m d)) : Int)
noncomputable def L3_q59 (n : Nat) (m : Nat) (c : Nat → Nat → DV) (d : Nat → Nat → DV) : Option Rat :=
  atO (L3_q22 n c) (L3_q23 n c) (L3_q24 n c) (L3_q25 n c) (L3_q38 m d) (L3_q39 m d) (L3_q58 m d)
noncomputable def L3_q60 (n : Nat) (m : Nat) (c : Nat → Nat → DV) (d : Nat → Nat → DV) : Bool :=
  oE (L3_q59 n m c d) != (0 : Int) || !vB (oN (L3_q59 n m c d)) (oD (L3_q59 n m c d))
noncomputable def L3_q61 (n : Nat) (m : Nat) (c : Nat → Nat → DV) (d : Nat → Nat → DV) : Rat :=
  ratOf (oN (L3_q59 n m c d)) (oD (L3_q59 n m c d))
noncomputable def L3_q62 (n : Nat) (m : Nat) (c : Nat → Nat → DV) (d : Nat → Nat → DV) : Option Rat :=
  atO (L3_q22 n c) (L3_q23 n c) (L3_q24 n c) (L3_q25 n c) (L3_q45 m d) (L3_q39 m d) (L3_q58 m d)
noncomputable def L3_q63 (n : Nat) (m : Nat) (c : Nat → Nat → DV) (d : Nat → Nat → DV) : Bool :=
  oE (L3_q62 n m c d) != (0 : Int) || !vB (oN (L3_q62 n m c d)) (oD (L3_q62 n m c d))
noncomputable def L3_q64 (n : Nat) (m : Nat) (c : Nat → Nat → DV) (d : Nat → Nat → DV) : Rat :=
  ratOf (oN (L3_q62 n m c d)) (oD (L3_q62 n m c d))
noncomputable def L3_q65 (n : Nat) (m : Nat) (c : Nat → Nat → DV) (d : Nat → Nat → DV) : Option Rat :=
  atO (L3_q22 n c) (L3_q23 n c) (L3_q24 n c) (L3_q25 n c) (L3_q38 m d) (L3_q50 m d) (L3_q58 m d)
noncomputable def L3_q66 (n : Nat) (m : Nat) (c : Nat → Nat → DV) (d : Nat → Nat → DV) : Bool :=
  oE (L3_q65 n m c d) != (0 : Int) || !vB (oN (L3_q65 n m c d)) (oD (L3_q65 n m c d))
noncomputable def L3_q67 (n : Nat) (m : Nat) (c : Nat → Nat → DV) (d : Nat → Nat → DV) : Rat :=
  ratOf (oN (L3_q65 n m c d)) (oD (L3_q65 n m c d))
noncomputable def L3_q68 (n : Nat) (m : Nat) (c : Nat → Nat → DV) (d : Nat → Nat → DV) : Option Rat :=
  atO (L3_q22 n c) (L3_q23 n c) (L3_q24 n c) (L3_q25 n c) (L3_q45 m d) (L3_q50 m d) (L3_q58 m d)
noncomputable def L3_q69 (n : Nat) (m : Nat) (c : Nat → Nat → DV) (d : Nat → Nat → DV) : Bool :=
  oE (L3_q68 n m c d) != (0 : Int) || !vB (oN (L3_q68 n m c d)) (oD (L3_q68 n m c d))
noncomputable def L3_q70 (n : Nat) (m : Nat) (c : Nat → Nat → DV) (d : Nat → Nat → DV) : Rat :=
  ratOf (oN (L3_q68 n m c d)) (oD (L3_q68 n m c d))
noncomputable def L3 (n m : Nat) (c d : Nat → Nat → DV) (k0 k1 k2 : Int) : Tree SV :=
  .ite false (.ret (bv false))
  (.need (Byt n c)
   (.need (Byt m d)
   (.need
   (VBox (Rat.num (L3_q2 n c)) (↑(Rat.den (L3_q2 n c)) : Int) (Rat.num (L3_q3 n c)) (↑(Rat.den (L3_q3 n c)) : Int) (Rat.num (L3_q4 n c)) (↑(Rat.den (L3_q4 n c)) : Int)
   (Rat.num (L3_q5 n c)) (↑(Rat.den (L3_q5 n c)) : Int) (Rat.num (L3_q7 m d)) (↑(Rat.den (L3_q7 m d)) : Int) (Rat.num (L3_q8 m d)) (↑(Rat.den (L3_q8 m d)) : Int)
   (Rat.num (L3_q9 m d)) (↑(Rat.den (L3_q9 m d)) : Int) (Rat.num (L3_q10 m d)) (↑(Rat.den (L3_q10 m d)) : Int) (Rat.num (L3_q11 m d)) (↑(Rat.den (L3_q11 m d)) : Int)
   (Rat.num (L3_q12 m d)) (↑(Rat.den (L3_q12 m d)) : Int))
   (.need
   ((SInt (Rat.num (L3_q7 m d)) (↑(Rat.den (L3_q7 m d)) : Int) (Rat.num (L3_q8 m d)) (↑(Rat.den (L3_q8 m d)) : Int) ∧
   SInt (Rat.num (L3_q9 m d)) (↑(Rat.den (L3_q9 m d)) : Int) (Rat.num (L3_q10 m d)) (↑(Rat.den (L3_q10 m d)) : Int) ∧
   SInt (Rat.num (L3_q11 m d)) (↑(Rat.den (L3_q11 m d)) : Int) (Rat.num (L3_q12 m d)) (↑(Rat.den (L3_q12 m d)) : Int)) ∧
   ((0 : Int) ≤ k0 ∧ k0 < (256 : Int)) ∧ ((0 : Int) ≤ k1 ∧ k1 < (256 : Int)) ∧ (0 : Int) ≤ k2 ∧ k2 < (256 : Int))
   (.need
   ((VF (Rat.num (L3_q2 n c)) (↑(Rat.den (L3_q2 n c)) : Int) ∧
   VF (Rat.num (L3_q3 n c)) (↑(Rat.den (L3_q3 n c)) : Int) ∧
   VF (Rat.num (L3_q4 n c)) (↑(Rat.den (L3_q4 n c)) : Int) ∧ VF (Rat.num (L3_q5 n c)) (↑(Rat.den (L3_q5 n c)) : Int)) ∧
   VF (Rat.num (L3_q15 m d k0)) (↑(Rat.den (L3_q15 m d k0)) : Int) ∧
   VF (Rat.num (L3_q18 m d k1)) (↑(Rat.den (L3_q18 m d k1)) : Int) ∧ VF (Rat.num (L3_q21 m d k2)) (↑(Rat.den (L3_q21 m d k2)) : Int))
   (.need
   (L3_q33 n m c d k0 k1 k2 = false →
   VF (lN (L3_q26 n m c d)) (lD (L3_q26 n m c d)) ∧
   VF (hN (L3_q26 n m c d)) (hD (L3_q26 n m c d)) ∧ VF (oN (L3_q30 n m c d k0 k1 k2)) (oD (L3_q30 n m c d k0 k1 k2)))
   (.ite (L3_q33 n m c d k0 k1 k2 || !(decide (L3_q31 n m c d ≤ L3_q34 n m c d k0 k1 k2) && decide (L3_q34 n m c d k0 k1 k2 ≤ L3_q32 n m c d))) (.ret (bv false))
   (.need (true = true)
   (.need ((2 : Int) ≠ (0 : Int))
   (.need ((2 : Int) ≠ (0 : Int))
   (.need ((2 : Int) ≠ (0 : Int))
   (.need ((4 : Int) ≠ (0 : Int))
   (.need
   ((SInt (Rat.num (L3_q7 m d)) (↑(Rat.den (L3_q7 m d)) : Int) (Rat.num (L3_q8 m d)) (↑(Rat.den (L3_q8 m d)) : Int) ∧
   SInt (Rat.num (L3_q9 m d)) (↑(Rat.den (L3_q9 m d)) : Int) (Rat.num (L3_q10 m d)) (↑(Rat.den (L3_q10 m d)) : Int) ∧
   SInt (Rat.num (L3_q11 m d)) (↑(Rat.den (L3_q11 m d)) : Int) (Rat.num (L3_q12 m d)) (↑(Rat.den (L3_q12 m d)) : Int)) ∧
   ((0 : Int) ≤ (0 : Int) ∧ (0 : Int) < (256 : Int)) ∧ ((0 : Int) ≤ (0 : Int) ∧ (0 : Int) < (256 : Int)) ∧ (0 : Int) ≤ (0 : Int) ∧ (0 : Int) < (256 : Int))
   (.need
   ((VF (Rat.num (L3_q2 n c)) (↑(Rat.den (L3_q2 n c)) : Int) ∧
   VF (Rat.num (L3_q3 n c)) (↑(Rat.den (L3_q3 n c)) : Int) ∧
   VF (Rat.num (L3_q4 n c)) (↑(Rat.den (L3_q4 n c)) : Int) ∧ VF (Rat.num (L3_q5 n c)) (↑(Rat.den (L3_q5 n c)) : Int)) ∧
   VF (Rat.num (L3_q35 m d)) (↑(Rat.den (L3_q35 m d)) : Int) ∧
   VF (Rat.num (L3_q36 m d)) (↑(Rat.den (L3_q36 m d)) : Int) ∧ VF (Rat.num (L3_q37 m d)) (↑(Rat.den (L3_q37 m d)) : Int))
   (.need
   (L3_q42 n m c d = false →
   VF (lN (L3_q26 n m c d)) (lD (L3_q26 n m c d)) ∧
   VF (hN (L3_q26 n m c d)) (hD (L3_q26 n m c d)) ∧ VF (oN (L3_q41 n m c d)) (oD (L3_q41 n m c d)))
   (.ite (L3_q42 n m c d || !(decide (L3_q31 n m c d ≤ L3_q43 n m c d) && decide (L3_q43 n m c d ≤ L3_q32 n m c d))) (.ret (bv false))
   (.need (true = true)
   (.need ((2 : Int) ≠ (0 : Int))
   (.need ((2 : Int) ≠ (0 : Int))
   (.need ((2 : Int) ≠ (0 : Int))
   (.need ((4 : Int) ≠ (0 : Int))
   (.need
   ((SInt (Rat.num (L3_q7 m d)) (↑(Rat.den (L3_q7 m d)) : Int) (Rat.num (L3_q8 m d)) (↑(Rat.den (L3_q8 m d)) : Int) ∧
   SInt (Rat.num (L3_q9 m d)) (↑(Rat.den (L3_q9 m d)) : Int) (Rat.num (L3_q10 m d)) (↑(Rat.den (L3_q10 m d)) : Int) ∧
   SInt (Rat.num (L3_q11 m d)) (↑(Rat.den (L3_q11 m d)) : Int) (Rat.num (L3_q12 m d)) (↑(Rat.den (L3_q12 m d)) : Int)) ∧
   ((0 : Int) ≤ (8 : Int) ∧ (8 : Int) < (256 : Int)) ∧ ((0 : Int) ≤ (0 : Int) ∧ (0 : Int) < (256 : Int)) ∧ (0 : Int) ≤ (0 : Int) ∧ (0 : Int) < (256 : Int))
   (.need
   ((VF (Rat.num (L3_q2 n c)) (↑(Rat.den (L3_q2 n c)) : Int) ∧
   VF (Rat.num (L3_q3 n c)) (↑(Rat.den (L3_q3 n c)) : Int) ∧
   VF (Rat.num (L3_q4 n c)) (↑(Rat.den (L3_q4 n c)) : Int) ∧ VF (Rat.num (L3_q5 n c)) (↑(Rat.den (L3_q5 n c)) : Int)) ∧
   VF (Rat.num (L3_q44 m d)) (↑(Rat.den (L3_q44 m d)) : Int) ∧
   VF (Rat.num (L3_q36 m d)) (↑(Rat.den (L3_q36 m d)) : Int) ∧ VF (Rat.num (L3_q37 m d)) (↑(Rat.den (L3_q37 m d)) : Int))
   (.need
   (L3_q47 n m c d = false →
   VF (lN (L3_q26 n m c d)) (lD (L3_q26 n m c d)) ∧
   VF (hN (L3_q26 n m c d)) (hD (L3_q26 n m c d)) ∧ VF (oN (L3_q46 n m c d)) (oD (L3_q46 n m c d)))
   (.ite (L3_q47 n m c d || !(decide (L3_q31 n m c d ≤ L3_q48 n m c d) && decide (L3_q48 n m c d ≤ L3_q32 n m c d)))
   (.ret (bv false))
   (.need (true = true)
   (.need ((2 : Int) ≠ (0 : Int))
   (.need ((2 : Int) ≠ (0 : Int))
   (.need ((2 : Int) ≠ (0 : Int))
   (.need ((4 : Int) ≠ (0 : Int))
   (.need
   ((SInt (Rat.num (L3_q7 m d)) (↑(Rat.den (L3_q7 m d)) : Int) (Rat.num (L3_q8 m d)) (↑(Rat.den (L3_q8 m d)) : Int) ∧
   SInt (Rat.num (L3_q9 m d)) (↑(Rat.den (L3_q9 m d)) : Int) (Rat.num (L3_q10 m d)) (↑(Rat.den (L3_q10 m d)) : Int) ∧
   SInt (Rat.num (L3_q11 m d)) (↑(Rat.den (L3_q11 m d)) : Int) (Rat.num (L3_q12 m d)) (↑(Rat.den (L3_q12 m d)) : Int)) ∧
   ((0 : Int) ≤ (0 : Int) ∧ (0 : Int) < (256 : Int)) ∧ ((0 : Int) ≤ (8 : Int) ∧ (8 : Int) < (256 : Int)) ∧ (0 : Int) ≤ (0 : Int) ∧ (0 : Int) < (256 : Int))
   (.need
   ((VF (Rat.num (L3_q2 n c)) (↑(Rat.den (L3_q2 n c)) : Int) ∧
   VF (Rat.num (L3_q3 n c)) (↑(Rat.den (L3_q3 n c)) : Int) ∧
   VF (Rat.num (L3_q4 n c)) (↑(Rat.den (L3_q4 n c)) : Int) ∧ VF (Rat.num (L3_q5 n c)) (↑(Rat.den (L3_q5 n c)) : Int)) ∧
   VF (Rat.num (L3_q35 m d)) (↑(Rat.den (L3_q35 m d)) : Int) ∧
   VF (Rat.num (L3_q49 m d)) (↑(Rat.den (L3_q49 m d)) : Int) ∧ VF (Rat.num (L3_q37 m d)) (↑(Rat.den (L3_q37 m d)) : Int))
   (.need
   (L3_q52 n m c d = false →
   VF (lN (L3_q26 n m c d)) (lD (L3_q26 n m c d)) ∧
   VF (hN (L3_q26 n m c d)) (hD (L3_q26 n m c d)) ∧ VF (oN (L3_q51 n m c d)) (oD (L3_q51 n m c d)))
   (.ite (L3_q52 n m c d || !(decide (L3_q31 n m c d ≤ L3_q53 n m c d) && decide (L3_q53 n m c d ≤ L3_q32 n m c d)))
   (.ret (bv false))
   (.need (true = true)
   (.need ((2 : Int) ≠ (0 : Int))
   (.need ((2 : Int) ≠ (0 : Int))
   (.need ((2 : Int) ≠ (0 : Int))
   (.need ((4 : Int) ≠ (0 : Int))
   (.need
   ((SInt (Rat.num (L3_q7 m d)) (↑(Rat.den (L3_q7 m d)) : Int) (Rat.num (L3_q8 m d)) (↑(Rat.den (L3_q8 m d)) : Int) ∧
   SInt (Rat.num (L3_q9 m d)) (↑(Rat.den (L3_q9 m d)) : Int) (Rat.num (L3_q10 m d))
   (↑(Rat.den (L3_q10 m d)) : Int) ∧
   SInt (Rat.num (L3_q11 m d)) (↑(Rat.den (L3_q11 m d)) : Int) (Rat.num (L3_q12 m d))
   (↑(Rat.den (L3_q12 m d)) : Int)) ∧
   ((0 : Int) ≤ (8 : Int) ∧ (8 : Int) < (256 : Int)) ∧ ((0 : Int) ≤ (8 : Int) ∧ (8 : Int) < (256 : Int)) ∧ (0 : Int) ≤ (0 : Int) ∧ (0 : Int) < (256 : Int))
   (.need
   ((VF (Rat.num (L3_q2 n c)) (↑(Rat.den (L3_q2 n c)) : Int) ∧
   VF (Rat.num (L3_q3 n c)) (↑(Rat.den (L3_q3 n c)) : Int) ∧
   VF (Rat.num (L3_q4 n c)) (↑(Rat.den (L3_q4 n c)) : Int) ∧
   VF (Rat.num (L3_q5 n c)) (↑(Rat.den (L3_q5 n c)) : Int)) ∧
   VF (Rat.num (L3_q44 m d)) (↑(Rat.den (L3_q44 m d)) : Int) ∧
   VF (Rat.num (L3_q49 m d)) (↑(Rat.den (L3_q49 m d)) : Int) ∧
   VF (Rat.num (L3_q37 m d)) (↑(Rat.den (L3_q37 m d)) : Int))
   (.need
   (L3_q55 n m c d = false →
   VF (lN (L3_q26 n m c d)) (lD (L3_q26 n m c d)) ∧
   VF (hN (L3_q26 n m c d)) (hD (L3_q26 n m c d)) ∧ VF (oN (L3_q54 n m c d)) (oD (L3_q54 n m c d)))
   (.ite
   (L3_q55 n m c d ||
   !(decide (L3_q31 n m c d ≤ L3_q56 n m c d) && decide (L3_q56 n m c d ≤ L3_q32 n m c d)))
   (.ret (bv false))
   (.need (true = true)
   (.need ((2 : Int) ≠ (0 : Int))
   (.need ((2 : Int) ≠ (0 : Int))
   (.need ((2 : Int) ≠ (0 : Int))
   (.need ((4 : Int) ≠ (0 : Int))
   (.need
   ((SInt (Rat.num (L3_q7 m d)) (↑(Rat.den (L3_q7 m d)) : Int) (Rat.num (L3_q8 m d))
   (↑(Rat.den (L3_q8 m d)) : Int) ∧
   SInt (Rat.num (L3_q9 m d)) (↑(Rat.den (L3_q9 m d)) : Int) (Rat.num (L3_q10 m d))
   (↑(Rat.den (L3_q10 m d)) : Int) ∧
   SInt (Rat.num (L3_q11 m d)) (↑(Rat.den (L3_q11 m d)) : Int) (Rat.num (L3_q12 m d))
   (↑(Rat.den (L3_q12 m d)) : Int)) ∧
   ((0 : Int) ≤ (0 : Int) ∧ (0 : Int) < (256 : Int)) ∧
   ((0 : Int) ≤ (0 : Int) ∧ (0 : Int) < (256 : Int)) ∧ (0 : Int) ≤ (8 : Int) ∧ (8 : Int) < (256 : Int))
   (.need
   ((VF (Rat.num (L3_q2 n c)) (↑(Rat.den (L3_q2 n c)) : Int) ∧
   VF (Rat.num (L3_q3 n c)) (↑(Rat.den (L3_q3 n c)) : Int) ∧
   VF (Rat.num (L3_q4 n c)) (↑(Rat.den (L3_q4 n c)) : Int) ∧
   VF (Rat.num (L3_q5 n c)) (↑(Rat.den (L3_q5 n c)) : Int)) ∧
   VF (Rat.num (L3_q35 m d)) (↑(Rat.den (L3_q35 m d)) : Int) ∧
   VF (Rat.num (L3_q36 m d)) (↑(Rat.den (L3_q36 m d)) : Int) ∧
   VF (Rat.num (L3_q57 m d)) (↑(Rat.den (L3_q57 m d)) : Int))
   (.need
   (L3_q60 n m c d = false →
   VF (lN (L3_q26 n m c d)) (lD (L3_q26 n m c d)) ∧
   VF (hN (L3_q26 n m c d)) (hD (L3_q26 n m c d)) ∧
   VF (oN (L3_q59 n m c d)) (oD (L3_q59 n m c d)))
   (.ite
   (L3_q60 n m c d ||
   !(decide (L3_q31 n m c d ≤ L3_q61 n m c d) && decide (L3_q61 n m c d ≤ L3_q32 n m c d)))
   (.ret (bv false))
   (.need (true = true)
   (.need ((2 : Int) ≠ (0 : Int))
   (.need ((2 : Int) ≠ (0 : Int))
   (.need ((2 : Int) ≠ (0 : Int))
   (.need ((4 : Int) ≠ (0 : Int))
   (.need
   ((SInt (Rat.num (L3_q7 m d)) (↑(Rat.den (L3_q7 m d)) : Int) (Rat.num (L3_q8 m d))
   (↑(Rat.den (L3_q8 m d)) : Int) ∧
   SInt (Rat.num (L3_q9 m d)) (↑(Rat.den (L3_q9 m d)) : Int) (Rat.num (L3_q10 m d))
   (↑(Rat.den (L3_q10 m d)) : Int) ∧
   SInt (Rat.num (L3_q11 m d)) (↑(Rat.den (L3_q11 m d)) : Int) (Rat.num (L3_q12 m d))
   (↑(Rat.den (L3_q12 m d)) : Int)) ∧
   ((0 : Int) ≤ (8 : Int) ∧ (8 : Int) < (256 : Int)) ∧
   ((0 : Int) ≤ (0 : Int) ∧ (0 : Int) < (256 : Int)) ∧ (0 : Int) ≤ (8 : Int) ∧ (8 : Int) < (256 : Int))
   (.need
   ((VF (Rat.num (L3_q2 n c)) (↑(Rat.den (L3_q2 n c)) : Int) ∧
   VF (Rat.num (L3_q3 n c)) (↑(Rat.den (L3_q3 n c)) : Int) ∧
   VF (Rat.num (L3_q4 n c)) (↑(Rat.den (L3_q4 n c)) : Int) ∧
   VF (Rat.num (L3_q5 n c)) (↑(Rat.den (L3_q5 n c)) : Int)) ∧
   VF (Rat.num (L3_q44 m d)) (↑(Rat.den (L3_q44 m d)) : Int) ∧
   VF (Rat.num (L3_q36 m d)) (↑(Rat.den (L3_q36 m d)) : Int) ∧
   VF (Rat.num (L3_q57 m d)) (↑(Rat.den (L3_q57 m d)) : Int))
   (.need
   (L3_q63 n m c d = false →
   VF (lN (L3_q26 n m c d)) (lD (L3_q26 n m c d)) ∧
   VF (hN (L3_q26 n m c d)) (hD (L3_q26 n m c d)) ∧
   VF (oN (L3_q62 n m c d)) (oD (L3_q62 n m c d)))
   (.ite
   (L3_q63 n m c d ||
   !(decide (L3_q31 n m c d ≤ L3_q64 n m c d) &&
   decide (L3_q64 n m c d ≤ L3_q32 n m c d)))
   (.ret (bv false))
   (.need (true = true)
   (.need ((2 : Int) ≠ (0 : Int))
   (.need ((2 : Int) ≠ (0 : Int))
   (.need ((2 : Int) ≠ (0 : Int))
   (.need ((4 : Int) ≠ (0 : Int))
   (.need
   ((SInt (Rat.num (L3_q7 m d)) (↑(Rat.den (L3_q7 m d)) : Int)
   (Rat.num (L3_q8 m d)) (↑(Rat.den (L3_q8 m d)) : Int) ∧
   SInt (Rat.num (L3_q9 m d)) (↑(Rat.den (L3_q9 m d)) : Int)
   (Rat.num (L3_q10 m d)) (↑(Rat.den (L3_q10 m d)) : Int) ∧
   SInt (Rat.num (L3_q11 m d)) (↑(Rat.den (L3_q11 m d)) : Int)
   (Rat.num (L3_q12 m d)) (↑(Rat.den (L3_q12 m d)) : Int)) ∧
   ((0 : Int) ≤ (0 : Int) ∧ (0 : Int) < (256 : Int)) ∧
   ((0 : Int) ≤ (8 : Int) ∧ (8 : Int) < (256 : Int)) ∧ (0 : Int) ≤ (8 : Int) ∧ (8 : Int) < (256 : Int))
   (.need
   ((VF (Rat.num (L3_q2 n c)) (↑(Rat.den (L3_q2 n c)) : Int) ∧
   VF (Rat.num (L3_q3 n c)) (↑(Rat.den (L3_q3 n c)) : Int) ∧
   VF (Rat.num (L3_q4 n c)) (↑(Rat.den (L3_q4 n c)) : Int) ∧
   VF (Rat.num (L3_q5 n c)) (↑(Rat.den (L3_q5 n c)) : Int)) ∧
   VF (Rat.num (L3_q35 m d)) (↑(Rat.den (L3_q35 m d)) : Int) ∧
   VF (Rat.num (L3_q49 m d)) (↑(Rat.den (L3_q49 m d)) : Int) ∧
   VF (Rat.num (L3_q57 m d)) (↑(Rat.den (L3_q57 m d)) : Int))
   (.need
   (L3_q66 n m c d = false →
   VF (lN (L3_q26 n m c d)) (lD (L3_q26 n m c d)) ∧
   VF (hN (L3_q26 n m c d)) (hD (L3_q26 n m c d)) ∧
   VF (oN (L3_q65 n m c d)) (oD (L3_q65 n m c d)))
   (.ite
   (L3_q66 n m c d ||
   !(decide (L3_q31 n m c d ≤ L3_q67 n m c d) &&
   decide (L3_q67 n m c d ≤ L3_q32 n m c d)))
   (.ret (bv false))
   (.need (true = true)
   (.need ((2 : Int) ≠ (0 : Int))
   (.need ((2 : Int) ≠ (0 : Int))
   (.need ((2 : Int) ≠ (0 : Int))
   (.need ((4 : Int) ≠ (0 : Int))
   (.need
   ((SInt (Rat.num (L3_q7 m d)) (↑(Rat.den (L3_q7 m d)) : Int)
   (Rat.num (L3_q8 m d)) (↑(Rat.den (L3_q8 m d)) : Int) ∧
   SInt (Rat.num (L3_q9 m d)) (↑(Rat.den (L3_q9 m d)) : Int)
   (Rat.num (L3_q10 m d)) (↑(Rat.den (L3_q10 m d)) : Int) ∧
   SInt (Rat.num (L3_q11 m d))
   (↑(Rat.den (L3_q11 m d)) : Int) (Rat.num (L3_q12 m d))
   (↑(Rat.den (L3_q12 m d)) : Int)) ∧
   ((0 : Int) ≤ (8 : Int) ∧ (8 : Int) < (256 : Int)) ∧
   ((0 : Int) ≤ (8 : Int) ∧ (8 : Int) < (256 : Int)) ∧
   (0 : Int) ≤ (8 : Int) ∧ (8 : Int) < (256 : Int))
   (.need
   ((VF (Rat.num (L3_q2 n c)) (↑(Rat.den (L3_q2 n c)) : Int) ∧
   VF (Rat.num (L3_q3 n c)) (↑(Rat.den (L3_q3 n c)) : Int) ∧
   VF (Rat.num (L3_q4 n c))
   (↑(Rat.den (L3_q4 n c)) : Int) ∧
   VF (Rat.num (L3_q5 n c))
   (↑(Rat.den (L3_q5 n c)) : Int)) ∧
   VF (Rat.num (L3_q44 m d)) (↑(Rat.den (L3_q44 m d)) : Int) ∧
   VF (Rat.num (L3_q49 m d))
   (↑(Rat.den (L3_q49 m d)) : Int) ∧
   VF (Rat.num (L3_q57 m d))
   (↑(Rat.den (L3_q57 m d)) : Int))
   (.need
   (L3_q69 n m c d = false →
   VF (lN (L3_q26 n m c d)) (lD (L3_q26 n m c d)) ∧
   VF (hN (L3_q26 n m c d)) (hD (L3_q26 n m c d)) ∧
   VF (oN (L3_q68 n m c d)) (oD (L3_q68 n m c d)))
   (.ite
   (L3_q69 n m c d ||
   !(decide (L3_q31 n m c d ≤ L3_q70 n m c d) &&
   decide (L3_q70 n m c d ≤ L3_q32 n m c d)))
   (.ret (bv false))
   (.need (false = false)
   (.ret
   (bv
   ((false ||
   oN (L3_q41 n m c d) ==
   lN (L3_q26 n m c d) &&
   (oD (L3_q41 n m c d) ==
   lD (L3_q26 n m c d) &&
   true) ||
   oN (L3_q46 n m c d) ==
   lN (L3_q26 n m c d) &&
   (oD (L3_q46 n m c d) ==
   lD (L3_q26 n m c d) &&
   true) ||
   oN (L3_q51 n m c d) ==
   lN (L3_q26 n m c d) &&
   (oD (L3_q51 n m c d) ==
   lD (L3_q26 n m c d) &&
   true) ||
   oN (L3_q54 n m c d) ==
   lN (L3_q26 n m c d) &&
   (oD (L3_q54 n m c d) ==
   lD (L3_q26 n m c d) &&
   true) ||
   oN (L3_q59 n m c d) ==
   lN (L3_q26 n m c d) &&
   (oD (L3_q59 n m c d) ==
   lD (L3_q26 n m c d) &&
   true) ||
   oN (L3_q62 n m c d) ==
   lN (L3_q26 n m c d) &&
   (oD (L3_q62 n m c d) ==
   lD (L3_q26 n m c d) &&
   true) ||
   oN (L3_q65 n m c d) ==
   lN (L3_q26 n m c d) &&
   (oD (L3_q65 n m c d) ==
   lD (L3_q26 n m c d) &&
   true) ||
   oN (L3_q68 n m c d) == lN (L3_q26 n m c d) &&
   (oD (L3_q68 n m c d) ==
   lD (L3_q26 n m c d) &&
   true)) &&
   (false ||
   oN (L3_q41 n m c d) ==
   hN (L3_q26 n m c d) &&
   (oD (L3_q41 n m c d) ==
   hD (L3_q26 n m c d) &&
   true) ||
   oN (L3_q46 n m c d) ==
   hN (L3_q26 n m c d) &&
   (oD (L3_q46 n m c d) ==
   hD (L3_q26 n m c d) &&
   true) ||
   oN (L3_q51 n m c d) ==
   hN (L3_q26 n m c d) &&
   (oD (L3_q51 n m c d) ==
   hD (L3_q26 n m c d) &&
   true) ||
   oN (L3_q54 n m c d) ==
   hN (L3_q26 n m c d) &&
   (oD (L3_q54 n m c d) ==
   hD (L3_q26 n m c d) &&
   true) ||
   oN (L3_q59 n m c d) ==
   hN (L3_q26 n m c d) &&
   (oD (L3_q59 n m c d) ==
   hD (L3_q26 n m c d) &&
   true) ||
   oN (L3_q62 n m c d) ==
   hN (L3_q26 n m c d) &&
   (oD (L3_q62 n m c d) ==
   hD (L3_q26 n m c d) &&
   true) ||
   oN (L3_q65 n m c d) ==
   hN (L3_q26 n m c d) &&
   (oD (L3_q65 n m c d) ==
   hD (L3_q26 n m c d) &&
   true) ||
   oN (L3_q68 n m c d) == hN (L3_q26 n m c d) &&
   (oD (L3_q68 n m c d) ==
   hD (L3_q26 n m c d) &&
   true)) &&
   true)))))))))))))))))))))))))))))))))))))))))))))))))))))))))))))))))))))))))))))))))))

theorem L3_eq (n m : Nat) (c d : Nat → Nat → DV) (k0 k1 k2 : Int) : TF (.br .nil (.br .nil (l3H 8))) 3 [.d (.ro n 1 c), .d (.ro m 1 d), .agg [u8 k0, u8 k1, u8 k2]] = L3 n m c d k0 k1 k2 := by kernel_rfl


end Go.Proofs.Ytpaejfeojdoikaa

namespace Go.Proofs.Ytpaejfeojdoikaa
open Go.Sx
set_option maxRecDepth 100000

theorem sat_need {α : Type} {P : Program} {p : Prop} {t : Tree α} {Q : α → Prop} : (Tree.need p t).sat P Q = (p ∧ t.sat P Q) := rfl
theorem sat_ite {α : Type} {P : Program} {b : Bool} {t e : Tree α} {Q : α → Prop} : (Tree.ite b t e).sat P Q = ((b = true → t.sat P Q) ∧ (b = false → e.sat P Q)) := rfl
theorem sat_ret {α : Type} {P : Program} {a : α} {Q : α → Prop} : (Tree.ret a).sat P Q = Q a := rfl
theorem btw_0 {lo hi : Rat} : btw lo hi 0 = lo := by
  unfold btw; rw [show ratOf (0 % 9) 8 = 0 by decide +kernel, Rat.mul_zero, Rat.add_zero]
theorem btw_8 {lo hi : Rat} : btw lo hi 8 = hi := by
  unfold btw; rw [show ratOf (8 % 9) 8 = 1 by decide +kernel, Rat.mul_one]; grind
theorem oE_some {α : Type} {q : α} : oE (some q) = 0 := rfl
theorem oN_some {q : Rat} : oN (some q) = q.num := rfl
theorem oD_some {q : Rat} : oD (some q) = q.den := rfl
theorem lN_some {p q : Rat} : lN (some (p, q)) = p.num := rfl
theorem lD_some {p q : Rat} : lD (some (p, q)) = p.den := rfl
theorem hN_some {p q : Rat} : hN (some (p, q)) = q.num := rfl
theorem hD_some {p q : Rat} : hD (some (p, q)) = q.den := rfl
theorem zero_ne : ((0 : Int) != 0) = false := rfl
theorem zero_eq : ((0 : Int) == 0) = true := rfl
theorem bv_inj {a b : Bool} : (bv a = bv b) = (a = b) := by
  apply propext; constructor
  · intro h; cases h; rfl
  · rintro rfl; rfl

theorem feq2 {p q : Rat} : (p.num == q.num && ((p.den : Int) == (q.den : Int))) = decide (p = q) := by rw [← feq, Bool.and_true]
theorem ne_lit {a : Int} (h : (a == 0) = false) : (a ≠ 0) = True := by simpa using h
theorem crn_cases (t l h : Rat) (u : Bool) : crn t l h u = l ∨ crn t l h u = h := by unfold crn; split <;> simp

/-! ### LinearRange -/
theorem law3 {n m : Nat} {c d : Nat → Nat → DV} (hc : Byt n c) (hd : Byt m d) {k0 k1 k2 : Int} (g0 : 0 ≤ k0 ∧ k0 < 256) (g1 : 0 ≤ k1 ∧ k1 < 256) (g2 : 0 ≤ k2 ∧ k2 < 256) : LawF 3 [.d (.ro n 1 c), .d (.ro m 1 d), .agg [u8 k0, u8 k1, u8 k2]] := by
  refine ⟨.br .nil (.br .nil (l3H 8)), ?_⟩
  rw [L3_eq]; unfold L3
  have e1 : L3_q1 c = intCell c := rfl
  have e6 : L3_q6 d = intCell d := rfl
  have sK := linQ_sm hc 0
  have sT := linQ_sm hc 1
  have sV := linQ_sm hc 2
  have sA := linQ_sm hc 3
  have sl0 := loQ_sm hd 0
  have sl1 := loQ_sm hd 1
  have sl2 := loQ_sm hd 2
  have sh0 := hiQ_sm hd 0
  have sh1 := hiQ_sm hd 1
  have sh2 := hiQ_sm hd 2
  have o0 := loQ_le (n := m) (c := intCell d) 0
  have o1 := loQ_le (n := m) (c := intCell d) 1
  have o2 := loQ_le (n := m) (c := intCell d) 2
  simp only [L3_q1, L3_q2, L3_q3, L3_q4, L3_q5, L3_q6, L3_q7, L3_q8, L3_q9, L3_q10, L3_q11, L3_q12, L3_q13, L3_q14, L3_q15, L3_q16, L3_q17, L3_q18, L3_q19, L3_q20, L3_q21, L3_q22, L3_q23, L3_q24, L3_q25, L3_q26, L3_q27, L3_q28, L3_q29, L3_q30, L3_q31, L3_q32, L3_q33, L3_q34, L3_q35, L3_q36, L3_q37, L3_q38, L3_q39, L3_q40, L3_q41, L3_q42, L3_q43, L3_q44, L3_q45, L3_q46, L3_q47, L3_q48, L3_q49, L3_q50, L3_q51, L3_q52, L3_q53, L3_q54, L3_q55, L3_q56, L3_q57, L3_q58, L3_q59, L3_q60, L3_q61, L3_q62, L3_q63, L3_q64, L3_q65, L3_q66, L3_q67, L3_q68, L3_q69, L3_q70, e1, e6, ratOf_rat]
  generalize linQ n (intCell c) 0 = K at *
  generalize linQ n (intCell c) 1 = T at *
  generalize linQ n (intCell c) 2 = V at *
  generalize linQ n (intCell c) 3 = A at *
  generalize loQ m (intCell d) 0 = l0 at *
  generalize loQ m (intCell d) 1 = l1 at *
  generalize loQ m (intCell d) 2 = l2 at *
  generalize hiQ m (intCell d) 0 = h0 at *
  generalize hiQ m (intCell d) 1 = h1 at *
  generalize hiQ m (intCell d) 2 = h2 at *
  have B : BxQ l0 h0 l1 h1 l2 h2 := ⟨sl0.pt, sh0.pt, sl1.pt, sh1.pt, sl2.pt, sh2.pt, o0, o1, o2⟩
  have hR := rg_val sK.cf sT.cf sV.cf sA.cf B
  have fR := rgV_fits sK.cf sT.cf sV.cf sA.cf B
  have oR := rgV_le (k := K) (t := T) (v := V) (a := A) B
  have inR : ∀ p q r, l0 ≤ p → p ≤ h0 → l1 ≤ q → q ≤ h1 → l2 ≤ r → r ≤ h2 → PtQ p → PtQ q → PtQ r → atO K T V A p q r = some (lv K T V A p q r) ∧ fitsR (lv K T V A p q r) ∧ rgV K T V A l0 h0 l1 h1 l2 h2 false ≤ lv K T V A p q r ∧ lv K T V A p q r ≤ rgV K T V A l0 h0 l1 h1 l2 h2 true :=
    fun p q r a b c d e f hp hq hr => ⟨at_val sK.cf sT.cf sV.cf sA.cf hp hq hr, lv_fits sK.cf sT.cf sV.cf sA.cf hp hq hr, lv_in a b c d e f⟩
  have i0 := btw_in o0 g0.1
  have i1 := btw_in o1 g1.1
  have i2 := btw_in o2 g2.1
  obtain ⟨aP, fP, uP, wP⟩ := inR _ _ _ i0.1 i0.2 i1.1 i1.2 i2.1 i2.2 (btw_sm sl0 sh0 g0.1) (btw_sm sl1 sh1 g1.1) (btw_sm sl2 sh2 g2.1)
  have r0 := Rat.le_refl (a := l0)
  have r1 := Rat.le_refl (a := l1)
  have r2 := Rat.le_refl (a := l2)
  have s0 := Rat.le_refl (a := h0)
  have s1 := Rat.le_refl (a := h1)
  have s2 := Rat.le_refl (a := h2)
  obtain ⟨a0, f0, u0, w0⟩ := inR _ _ _ r0 o0 r1 o1 r2 o2 sl0.pt sl1.pt sl2.pt
  obtain ⟨a1, f1, u1, w1⟩ := inR _ _ _ o0 s0 r1 o1 r2 o2 sh0.pt sl1.pt sl2.pt
  obtain ⟨a2, f2, u2, w2⟩ := inR _ _ _ r0 o0 o1 s1 r2 o2 sl0.pt sh1.pt sl2.pt
  obtain ⟨a3, f3, u3, w3⟩ := inR _ _ _ o0 s0 o1 s1 r2 o2 sh0.pt sh1.pt sl2.pt
  obtain ⟨a4, f4, u4, w4⟩ := inR _ _ _ r0 o0 r1 o1 o2 s2 sl0.pt sl1.pt sh2.pt
  obtain ⟨a5, f5, u5, w5⟩ := inR _ _ _ o0 s0 r1 o1 o2 s2 sh0.pt sl1.pt sh2.pt
  obtain ⟨a6, f6, u6, w6⟩ := inR _ _ _ r0 o0 o1 s1 o2 s2 sl0.pt sh1.pt sh2.pt
  obtain ⟨a7, f7, u7, w7⟩ := inR _ _ _ o0 s0 o1 s1 o2 s2 sh0.pt sh1.pt sh2.pt
  have c0 := crn_cases T l0 h0
  have c1 := crn_cases V l1 h1
  have c2 := crn_cases A l2 h2
  have ele : rgV K T V A l0 h0 l1 h1 l2 h2 false = lv K T V A (crn T l0 h0 false) (crn V l1 h1 false) (crn A l2 h2 false) := rfl
  have ehi : rgV K T V A l0 h0 l1 h1 l2 h2 true = lv K T V A (crn T l0 h0 true) (crn V l1 h1 true) (crn A l2 h2 true) := rfl
  have vb : VBox K.num K.den T.num T.den V.num V.den A.num A.den l0.num l0.den h0.num h0.den l1.num l1.den h1.num h1.den l2.num l2.den h2.num h2.den :=
    ⟨sK.cf.vf, sT.cf.vf, sV.cf.vf, sA.cf.vf, sl0.pt.vf, sh0.pt.vf, sl1.pt.vf, sh1.pt.vf, sl2.pt.vf, sh2.pt.vf⟩
  have i0 : SInt l0.num l0.den h0.num h0.den := ⟨sl0.pt.vf, sh0.pt.vf, by rwa [ratOf_rat], by rwa [ratOf_rat]⟩
  have i1 : SInt l1.num l1.den h1.num h1.den := ⟨sl1.pt.vf, sh1.pt.vf, by rwa [ratOf_rat], by rwa [ratOf_rat]⟩
  have i2 : SInt l2.num l2.den h2.num h2.den := ⟨sl2.pt.vf, sh2.pt.vf, by rwa [ratOf_rat], by rwa [ratOf_rat]⟩
  have vp0 := PtQ.vf (btw_sm sl0 sh0 g0.1)
  have vp1 := PtQ.vf (btw_sm sl1 sh1 g1.1)
  have vp2 := PtQ.vf (btw_sm sl2 sh2 g2.1)
  simp only [btw_0, btw_8, hR, aP, a0, a1, a2, a3, a4, a5, a6, a7, oE_some, oN_some, oD_some, lN_some, lD_some, hN_some, hD_some, zero_ne, ratOf_rat, vB_of (fR false), vB_of (fR true), vB_of fP, vB_of f0, vB_of f1, vB_of f2, vB_of f3, vB_of f4, vB_of f5, vB_of f6, vB_of f7, feq2,
    decide_eq_true oR, decide_eq_true uP, decide_eq_true wP, decide_eq_true u0, decide_eq_true w0, decide_eq_true u1, decide_eq_true w1, decide_eq_true u2, decide_eq_true w2, decide_eq_true u3, decide_eq_true w3, decide_eq_true u4, decide_eq_true w4, decide_eq_true u5, decide_eq_true w5, decide_eq_true u6, decide_eq_true w6, decide_eq_true u7, decide_eq_true w7,
    Bool.true_and, Bool.and_true, Bool.not_true, Bool.or_false, Bool.false_or, sat_need, sat_ite, sat_ret, bv_inj, reduceCtorEq, false_imp_iff, true_imp_iff, true_and, forall_const, vb, i0, i1, i2, g0, g1, g2, vp0, vp1, vp2, sK.cf.vf, sT.cf.vf, sV.cf.vf, sA.cf.vf, sl0.pt.vf, sh0.pt.vf, sl1.pt.vf, sh1.pt.vf, sl2.pt.vf, sh2.pt.vf, VF.of (fR false), VF.of (fR true), VF.of fP, VF.of f0, VF.of f1, VF.of f2, VF.of f3, VF.of f4, VF.of f5, VF.of f6, VF.of f7, hc, hd, and_self, Bool.or_eq_true, Bool.and_eq_true, decide_eq_true_eq]
  refine ⟨by decide, by decide, by decide, by decide, by decide, by decide, by decide, by decide, by decide, by decide, by decide, by decide, by decide, by decide, by decide, by decide, by decide, by decide, by decide, by decide, by decide, by decide, by decide, by decide, by decide, by decide, by decide, by decide, by decide, by decide, by decide, by decide, by decide, by decide, by decide, by decide, by decide, by decide, by decide, by decide, ?_, ?_⟩
  · rw [ele]
    rcases c0 false with h | h <;> rcases c1 false with h' | h' <;> rcases c2 false with h'' | h'' <;> rw [h, h', h''] <;> simp only [true_or, or_true]
  · rw [ehi]
    rcases c0 true with h | h <;> rcases c1 true with h' | h' <;> rcases c2 true with h'' | h'' <;> rw [h, h', h''] <;> simp only [true_or, or_true]


theorem linearRange_ok : ∃ c : Ctr, CtrOK Try.prog 3 c ∧ ∀ ss, okArgs Try.prog 6 [22, 22, 23] ss → (c ss).ev (bv true) := by
  refine law_ctrF (by kernel_rfl) (by kernel_rfl) fun ss h => ?_
  obtain ⟨d1, _, rfl, h1, d2, _, rfl, h2, d3, _, rfl, h3, rfl⟩ := h
  obtain ⟨n, c, hc, rfl⟩ := okBytes h1
  obtain ⟨m, d, hd, rfl⟩ := okBytes h2
  obtain ⟨ks, e1, rfl, e3⟩ := okArr Try.underlying23 h3
  match ks, e1 with
  | [k0, k1, k2], _ =>
    have := law3 hc hd (e3 k0 (by simp)) (e3 k1 (by simp)) (e3 k2 (by simp))
    simpa [svT, Try.underlying22, Try.underlying23, u8, u8d] using this

end Go.Proofs.Ytpaejfeojdoikaa

