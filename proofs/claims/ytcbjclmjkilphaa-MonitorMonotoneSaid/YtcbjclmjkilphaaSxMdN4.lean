/- Part of a proof of the given statements of this seat (SxMdN4): no conditions beyond those typed here. -/
import Derived.Test.YtcbjclmjkilphaaSxMdM4
import Derived.Test.YtcbjclmjkilphaaSxMdQ
set_option linter.unusedVariables false
set_option linter.unusedSimpArgs false
namespace Go.Proofs.Ytcbjclmjkilphaa
open Go.Sx
set_option maxRecDepth 100000

theorem okK4 {ds : List DV} (h : okT Try.prog 6 44 ds) : ∃ a b c d, (0 ≤ a ∧ a < 256) ∧ (0 ≤ b ∧ b < 256) ∧ (0 ≤ c ∧ c < 256) ∧ (0 ≤ d ∧ d < 256) ∧ svT Try.prog 44 ds = .agg [u8 a, u8 b, u8 c, u8 d] := by
  simp [okT, okAs, Try.underlying44, Try.underlying5] at h
  obtain ⟨_, _, rfl, ⟨a, w1, rfl⟩, _, _, rfl, ⟨b, w2, rfl⟩, _, _, rfl, ⟨c, w3, rfl⟩, d, w4, rfl⟩ := h
  exact ⟨a, b, c, d, wf_u8 w1, wf_u8 w2, wf_u8 w3, wf_u8 w4, by simp [svT, Try.underlying44, u8]⟩

theorem f4s : (Try.prog.funcs[4]?).isSome = true := by kernel_rfl
theorem f4b : (fnOf Try.prog 4).body.isSome = true := by kernel_rfl
theorem monitorMonotone_ok : ∃ c : Ctr, CtrOK Try.prog 4 c ∧ ∀ ss, okArgs Try.prog 6 [26, 44] ss → (c ss).ev (bv true) := by
  refine law_ctr f4s f4b fun ss h => ?_
  obtain ⟨ds, _, rfl, h1, es, _, rfl, h2, rfl⟩ := h
  obtain ⟨lo, wi, st, er, be, ov, n, cell, hr, e⟩ := okRaw h1
  obtain ⟨a, b, c, d, g0, g1, g2, g3, e2⟩ := okK4 h2
  rw [e, e2]
  exact law4 hr g0 g1 g2 g3

end Go.Proofs.Ytcbjclmjkilphaa
