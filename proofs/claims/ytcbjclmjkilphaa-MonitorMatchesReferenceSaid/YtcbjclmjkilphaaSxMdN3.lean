/- Part of a proof of the given statements of this seat (SxMdN3): no conditions beyond those typed here. -/
import Derived.Test.YtcbjclmjkilphaaSxMdM3
import Derived.Test.YtcbjclmjkilphaaSxMdQ
set_option linter.unusedVariables false
set_option linter.unusedSimpArgs false
namespace Go.Proofs.Ytcbjclmjkilphaa
open Go.Sx
set_option maxRecDepth 100000

theorem f3s : (Try.prog.funcs[3]?).isSome = true := by kernel_rfl
theorem f3b : (fnOf Try.prog 3).body.isSome = true := by kernel_rfl
theorem monitorMatchesReference_ok : ∃ c : Ctr, CtrOK Try.prog 3 c ∧ ∀ ss, okArgs Try.prog 6 [26, 28, 3] ss → (c ss).ev (bv true) := by
  refine law_ctr f3s f3b fun ss h => ?_
  obtain ⟨ds, _, rfl, h1, es, _, rfl, h2, fs, _, rfl, h3, rfl⟩ := h
  obtain ⟨lo, wi, st, er, be, ov, n, cell, hr, e⟩ := okRaw h1
  obtain ⟨a, b, c, d, e', f, s, e2⟩ := okMon h2
  obtain ⟨i, _, e3⟩ := okInt h3
  rw [e, e2, e3]
  exact law3 hr

end Go.Proofs.Ytcbjclmjkilphaa
