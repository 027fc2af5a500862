/- Part of a proof of the given statements of this seat (SxMdR): no conditions beyond those typed here. -/
import Derived.Test.YtcbjclmjkilphaaSxMdJ
set_option linter.unusedVariables false
set_option linter.unusedSimpArgs false
namespace Go.Proofs.Ytcbjclmjkilphaa
open Go.Sx
set_option maxRecDepth 100000

/-- The facts of a description. -/
structure RawOK (lo wi st er be ov : Int) (n : Nat) (cell : Nat → Nat → DV) : Prop where
  hlo : 0 ≤ lo ∧ lo < 256
  hwi : 0 ≤ wi ∧ wi < 256
  hst : 0 ≤ st ∧ st < 256
  her : 0 ≤ er ∧ er < 256
  hn : n ≤ maxLen
  hcell : ∀ i, i < n → ∃ b, cell i 0 = .x (.int .u8 b) ∧ 0 ≤ b ∧ b < 256
  hbe : 0 ≤ be ∧ be < 256
  hov : 0 ≤ ov ∧ ov < 256

theorem RawOK.ok {lo wi st er be ov : Int} {n : Nat} {cell : Nat → Nat → DV} (h : RawOK lo wi st er be ov n cell) : okM (sLo lo) (sHi lo wi) (st % 6) (er % 6) (mLe lo be) (mMo lo wi ov) := by
  have := h.hlo; have := h.hwi; have := h.hst; have := h.her; have := h.hbe; have := h.hov
  refine ⟨?_, ?_, ?_, ?_⟩ <;> (try simp only [mLe, mMo, sHi, sLo]) <;> omega

theorem RawOK.v {lo wi st er be ov : Int} {n : Nat} {cell : Nat → Nat → DV} (h : RawOK lo wi st er be ov n cell) : vB (sLo lo) (sHi lo wi) (st % 6) (er % 6) (mLe lo be) (mMo lo wi ov) (!inR (sLo lo) (sHi lo wi) (st % 6) (mLe lo be) (mMo lo wi ov)) = true := by
  rw [vB_iff, ← inR_iff]
  refine ⟨h.ok, ?_⟩
  cases inR (sLo lo) (sHi lo wi) (st % 6) (mLe lo be) (mMo lo wi ov) <;> simp

end Go.Proofs.Ytcbjclmjkilphaa
