/- Part of a proof of the given statements of this seat (SxMdN5): no conditions beyond those typed here. -/
import Derived.Test.YtcbjclmjkilphaaSxMdM5
import Derived.Test.YtcbjclmjkilphaaSxMdQ
set_option linter.unusedVariables false
set_option linter.unusedSimpArgs false
namespace Go.Proofs.Ytcbjclmjkilphaa
open Go.Sx
set_option maxRecDepth 100000

theorem okU16 {ds : List DV} (h : okT Try.prog 6 52 ds) : ∃ i, (0 ≤ i ∧ i < 65536) ∧ svT Try.prog 52 ds = .d (.x (.int .u16 i)) := by
  simp only [okT, Try.underlying52] at h
  obtain ⟨i, hi, rfl⟩ := h
  exact ⟨i, wf_u16 hi, by simp [svT, Try.underlying52]⟩

theorem f5s : (Try.prog.funcs[5]?).isSome = true := by kernel_rfl
theorem f5b : (fnOf Try.prog 5).body.isSome = true := by kernel_rfl
theorem monitorSafe_ok : ∃ c : Ctr, CtrOK Try.prog 5 c ∧ ∀ ss, okArgs Try.prog 6 [26, 52] ss → (c ss).ev (bv true) := by
  refine law_ctr5 f5s f5b fun ss h => ?_
  obtain ⟨ds, _, rfl, h1, es, _, rfl, h2, rfl⟩ := h
  obtain ⟨lo, wi, st, er, be, ov, n, cell, hr, e⟩ := okRaw h1
  obtain ⟨a, _, e2⟩ := okU16 h2
  rw [e, e2]
  exact law5 hr

end Go.Proofs.Ytcbjclmjkilphaa
