/- Part of a proof of the given statements of this seat (SxMoK): no conditions beyond those typed here. -/
import Derived.Test.YtiagfhlbgjdgdaaSxMoJ
set_option linter.unusedVariables false
set_option linter.unusedSimpArgs false
namespace Go.Proofs.Ytiagfhlbgjdgdaa
open Go.Sx
set_option maxRecDepth 100000

/-- The facts of a description. -/
structure RawOK (lo wi st er be ov : Int) (n : Nat) (cell : Nat → Nat → DV) : Prop where
  hlo : 0 ≤ lo ∧ lo < 256
  hwi : 0 ≤ wi ∧ wi < 256
  hst : 0 ≤ st ∧ st < 256
  her : 0 ≤ er ∧ er < 256
  hn : n ≤ maxLen
  hcell : ∀ i, i < n → ∃ b, cell i 0 = .x (.int .u8 b) ∧ 0 ≤ b ∧ b < 256
  hbe : 0 ≤ be ∧ be < 256
  hov : 0 ≤ ov ∧ ov < 256

theorem RawOK.ok {lo wi st er be ov : Int} {n : Nat} {cell : Nat → Nat → DV} (h : RawOK lo wi st er be ov n cell) : okM (sLo lo) (sHi lo wi) (st % 6) (er % 6) (mLe lo be) (mMo lo wi ov) := by
  have := h.hlo; have := h.hwi; have := h.hst; have := h.her; have := h.hbe; have := h.hov
  refine ⟨?_, ?_, ?_, ?_⟩ <;> (try simp only [mLe, mMo, sHi, sLo]) <;> omega

theorem RawOK.v {lo wi st er be ov : Int} {n : Nat} {cell : Nat → Nat → DV} (h : RawOK lo wi st er be ov n cell) : vB (sLo lo) (sHi lo wi) (st % 6) (er % 6) (mLe lo be) (mMo lo wi ov) (!inR (sLo lo) (sHi lo wi) (st % 6) (mLe lo be) (mMo lo wi ov)) = true := by
  rw [vB_iff, ← inR_iff]
  refine ⟨h.ok, ?_⟩
  cases inR (sLo lo) (sHi lo wi) (st % 6) (mLe lo be) (mMo lo wi ov) <;> simp

noncomputable def L5 (lo wi st er be ov r : Int) (n : Nat) (cell : Nat → Nat → DV) : Tree SV :=
  .ite false (.ret (bv false))
  (.need
    ((0 ≤ lo ∧ lo < 256) ∧
      (0 ≤ wi ∧ wi < 256) ∧ (0 ≤ st ∧ st < 256) ∧ (0 ≤ er ∧ er < 256) ∧ n ≤ 9223372036854775807 ∧ (∀ (i : Nat), i < n → ∃ b, cell i 0 = .x (.int .u8 b) ∧ 0 ≤ b ∧ b < 256) ∧ (0 ≤ be ∧ be < 256) ∧ 0 ≤ ov ∧ ov < 256)
    (.need (okM (sLo lo) (sHi lo wi) (st % 6) (er % 6) (mLe lo be) (mMo lo wi ov))
      (.need (okM (sLo lo) (sHi lo wi) (st % 6) (er % 6) (mLe lo be) (mMo lo wi ov))
        (.ite
          (!vB (vLo (sLo lo) (sHi lo wi) (st % 6) (er % 6) (!inR (sLo lo) (sHi lo wi) (st % 6) (mLe lo be) (mMo lo wi ov)) r) (vHi (sLo lo) (sHi lo wi) (st % 6) (er % 6) (!inR (sLo lo) (sHi lo wi) (st % 6) (mLe lo be) (mMo lo wi ov)) r)
                (st % 6) (er % 6) (mLe lo be) (mMo lo wi ov) (vSp (sLo lo) (sHi lo wi) (st % 6) (er % 6) (mLe lo be) (mMo lo wi ov) (!inR (sLo lo) (sHi lo wi) (st % 6) (mLe lo be) (mMo lo wi ov)) r) ||
            !vB (uLo (sLo lo) (st % 6) !inR (sLo lo) (sHi lo wi) (st % 6) (mLe lo be) (mMo lo wi ov)) (uHi (sHi lo wi) (st % 6) !inR (sLo lo) (sHi lo wi) (st % 6) (mLe lo be) (mMo lo wi ov)) (st % 6) (er % 6) (mLe lo be) (mMo lo wi ov)
                (uSp (sLo lo) (sHi lo wi) (st % 6) (mLe lo be) (mMo lo wi ov) !inR (sLo lo) (sHi lo wi) (st % 6) (mLe lo be) (mMo lo wi ov)))
          (.ret (bv false))
          (.ite (!inR (sLo lo) (sHi lo wi) (st % 6) (mLe lo be) (mMo lo wi ov))
            (.ret
              (bv
                (vLo (sLo lo) (sHi lo wi) (st % 6) (er % 6) (!inR (sLo lo) (sHi lo wi) (st % 6) (mLe lo be) (mMo lo wi ov)) r == sLo lo &&
                      (vHi (sLo lo) (sHi lo wi) (st % 6) (er % 6) (!inR (sLo lo) (sHi lo wi) (st % 6) (mLe lo be) (mMo lo wi ov)) r == sHi lo wi &&
                        (st % 6 == st % 6 &&
                          (er % 6 == er % 6 &&
                            (mLe lo be == mLe lo be &&
                              (mMo lo wi ov == mMo lo wi ov &&
                                (vSp (sLo lo) (sHi lo wi) (st % 6) (er % 6) (mLe lo be) (mMo lo wi ov) (!inR (sLo lo) (sHi lo wi) (st % 6) (mLe lo be) (mMo lo wi ov)) r == !inR (sLo lo) (sHi lo wi) (st % 6) (mLe lo be) (mMo lo wi ov) &&
                                  true)))))) &&
                    ((uLo (sLo lo) (st % 6) !inR (sLo lo) (sHi lo wi) (st % 6) (mLe lo be) (mMo lo wi ov)) == sLo lo &&
                      ((uHi (sHi lo wi) (st % 6) !inR (sLo lo) (sHi lo wi) (st % 6) (mLe lo be) (mMo lo wi ov)) == sHi lo wi &&
                        (st % 6 == st % 6 &&
                          (er % 6 == er % 6 &&
                            (mLe lo be == mLe lo be &&
                              (mMo lo wi ov == mMo lo wi ov &&
                                ((uSp (sLo lo) (sHi lo wi) (st % 6) (mLe lo be) (mMo lo wi ov) !inR (sLo lo) (sHi lo wi) (st % 6) (mLe lo be) (mMo lo wi ov)) == !inR (sLo lo) (sHi lo wi) (st % 6) (mLe lo be) (mMo lo wi ov) && true))))))) &&
                  true)))
            (.need (okM (sLo lo) (sHi lo wi) (st % 6) (er % 6) (mLe lo be) (mMo lo wi ov))
              (.ite (!gB (sLo lo) (sHi lo wi) (st % 6) (er % 6) r)
                (.ret
                  (bv
                    (vSp (sLo lo) (sHi lo wi) (st % 6) (er % 6) (mLe lo be) (mMo lo wi ov) (!inR (sLo lo) (sHi lo wi) (st % 6) (mLe lo be) (mMo lo wi ov)) r &&
                          vLo (sLo lo) (sHi lo wi) (st % 6) (er % 6) (!inR (sLo lo) (sHi lo wi) (st % 6) (mLe lo be) (mMo lo wi ov)) r == sLo lo &&
                        vHi (sLo lo) (sHi lo wi) (st % 6) (er % 6) (!inR (sLo lo) (sHi lo wi) (st % 6) (mLe lo be) (mMo lo wi ov)) r == sHi lo wi &&
                      true)))
                (.need
                  (okM (vLo (sLo lo) (sHi lo wi) (st % 6) (er % 6) (!inR (sLo lo) (sHi lo wi) (st % 6) (mLe lo be) (mMo lo wi ov)) r)
                    (vHi (sLo lo) (sHi lo wi) (st % 6) (er % 6) (!inR (sLo lo) (sHi lo wi) (st % 6) (mLe lo be) (mMo lo wi ov)) r) (st % 6) (er % 6) (mLe lo be) (mMo lo wi ov))
                  (.need
                    (okM (uLo (sLo lo) (st % 6) !inR (sLo lo) (sHi lo wi) (st % 6) (mLe lo be) (mMo lo wi ov)) (uHi (sHi lo wi) (st % 6) !inR (sLo lo) (sHi lo wi) (st % 6) (mLe lo be) (mMo lo wi ov)) (st % 6) (er % 6) (mLe lo be)
                      (mMo lo wi ov))
                    (.need
                      ((decide
                                (oLo (vLo (sLo lo) (sHi lo wi) (st % 6) (er % 6) (!inR (sLo lo) (sHi lo wi) (st % 6) (mLe lo be) (mMo lo wi ov)) r) (st % 6) ≥
                                  oLo (uLo (sLo lo) (st % 6) !inR (sLo lo) (sHi lo wi) (st % 6) (mLe lo be) (mMo lo wi ov)) (st % 6)) &&
                              decide
                                (vHi (sLo lo) (sHi lo wi) (st % 6) (er % 6) (!inR (sLo lo) (sHi lo wi) (st % 6) (mLe lo be) (mMo lo wi ov)) r + st % 6 ≤
                                  (uHi (sHi lo wi) (st % 6) !inR (sLo lo) (sHi lo wi) (st % 6) (mLe lo be) (mMo lo wi ov)) + st % 6) &&
                            (uSp (sLo lo) (sHi lo wi) (st % 6) (mLe lo be) (mMo lo wi ov) !inR (sLo lo) (sHi lo wi) (st % 6) (mLe lo be) (mMo lo wi ov) ||
                              !vSp (sLo lo) (sHi lo wi) (st % 6) (er % 6) (mLe lo be) (mMo lo wi ov) (!inR (sLo lo) (sHi lo wi) (st % 6) (mLe lo be) (mMo lo wi ov)) r)) =
                          true →
                        okM (sLo lo) (sHi lo wi) (st % 6) (er % 6) (mLe lo be) (mMo lo wi ov))
                      (.ret
                        (bv
                          (decide
                                    (oLo (vLo (sLo lo) (sHi lo wi) (st % 6) (er % 6) (!inR (sLo lo) (sHi lo wi) (st % 6) (mLe lo be) (mMo lo wi ov)) r) (st % 6) ≥
                                      oLo (uLo (sLo lo) (st % 6) !inR (sLo lo) (sHi lo wi) (st % 6) (mLe lo be) (mMo lo wi ov)) (st % 6)) &&
                                  decide
                                    (vHi (sLo lo) (sHi lo wi) (st % 6) (er % 6) (!inR (sLo lo) (sHi lo wi) (st % 6) (mLe lo be) (mMo lo wi ov)) r + st % 6 ≤
                                      (uHi (sHi lo wi) (st % 6) !inR (sLo lo) (sHi lo wi) (st % 6) (mLe lo be) (mMo lo wi ov)) + st % 6) &&
                                (uSp (sLo lo) (sHi lo wi) (st % 6) (mLe lo be) (mMo lo wi ov) !inR (sLo lo) (sHi lo wi) (st % 6) (mLe lo be) (mMo lo wi ov) ||
                                  !vSp (sLo lo) (sHi lo wi) (st % 6) (er % 6) (mLe lo be) (mMo lo wi ov) (!inR (sLo lo) (sHi lo wi) (st % 6) (mLe lo be) (mMo lo wi ov)) r) &&
                              ((uLo (sLo lo) (st % 6) !inR (sLo lo) (sHi lo wi) (st % 6) (mLe lo be) (mMo lo wi ov)) == oLo (sLo lo) (st % 6) &&
                                ((uHi (sHi lo wi) (st % 6) !inR (sLo lo) (sHi lo wi) (st % 6) (mLe lo be) (mMo lo wi ov)) == sHi lo wi + st % 6 && true)) &&
                            true)))))))))))))

theorem L5_eq (lo wi st er be ov r : Int) (n : Nat) (cell : Nat → Nat → DV) : T2 5 [.agg [u8 lo, u8 wi, u8 st, u8 er, .d (.ro n 1 cell), u8 be, u8 ov], iv r] .nil = L5 lo wi st er be ov r n cell := by kernel_rfl


theorem law5 {lo wi st er be ov r : Int} {n : Nat} {cell : Nat → Nat → DV} (h : RawOK lo wi st er be ov n cell) : Law 5 [.agg [u8 lo, u8 wi, u8 st, u8 er, .d (.ro n 1 cell), u8 be, u8 ov], iv r] := by
  refine ⟨⟨.nil, ?_⟩⟩
  rw [L5_eq]; unfold L5
  have hv := h.v
  have hr := h
  obtain ⟨h1, h2, h3, h4, h5, h6, h7, h8⟩ := hr
  have hn : n ≤ 9223372036854775807 := h5
  refine ⟨fun h => by (cases h), fun _ => ⟨⟨h1, h2, h3, h4, hn, h6, h7, h8⟩, ?_⟩⟩
  generalize sLo lo = a at *
  generalize sHi lo wi = b at *
  generalize st % 6 = c at *
  generalize er % 6 = d at *
  generalize mLe lo be = e at *
  generalize mMo lo wi ov = f at *
  generalize hs : (!inR a b c e f) = s at *
  have hok := (vB_iff.1 hv).1
  have sv := see_vB (r := r) hv
  have mv := miss_vB hv
  refine ⟨hok, hok, fun hc => ?_, fun _ => ⟨fun hs => ?_, fun hs => ⟨hok, fun hg => ?_, fun hg => ⟨(vB_iff.1 sv).1, (vB_iff.1 mv).1, fun _ => hok, ?_⟩⟩⟩⟩
  · rw [sv, mv] at hc; cases hc
  · subst hs; simp [vLo, vHi, vSp, uLo, uHi, uSp, Tree.sat]
  · subst hs
    simp only [Bool.not_eq_true'] at hg
    simp [vLo, vHi, vSp, hg, Tree.sat]
  · subst hs
    simp only [Bool.not_eq_false'] at hg
    have hg2 := gB_iff.1 hg
    show bv _ = bv true
    congr 1
    have := hok.lo; have := hok.st; have := hok.er; have := hok.le
    have k1 : oLo (uLo a c false) c ≤ oLo (vLo a b c d false r) c := by simp only [vLo, uLo, hg]; simp; unfold oLo; omega
    have k2 : vHi a b c d false r + c ≤ uHi b c false + c := by simp only [vHi, uHi, hg]; simp; omega
    have k3 : (uSp a b c e f false || !vSp a b c d e f false r) = true := by
      simp only [uSp, vSp, hg, Bool.false_or, Bool.not_true, Bool.not_not]
      cases hi : inR (oLo a c) (b + c) c e f with
      | false => rfl
      | true =>
        have := inR_iff.1 hi
        simp only [Bool.not_true, Bool.false_or]
        rw [inR_iff]
        unfold oLo at *; omega
    rw [k3]
    simp only [ge_iff_le, k1, k2]
    simp [uLo, uHi]

end Go.Proofs.Ytiagfhlbgjdgdaa
