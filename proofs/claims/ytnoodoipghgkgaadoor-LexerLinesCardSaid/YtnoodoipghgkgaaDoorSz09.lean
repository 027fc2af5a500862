/- Part of a proof of the given statements of this seat (SxLxO9): no conditions beyond those typed here. -/
import Derived.Test.YtnoodoipghgkgaaDoorSz08
set_option linter.unusedVariables false
set_option linter.unusedSimpArgs false
set_option linter.unusedSectionVars false

namespace Go.Proofs.YtnoodoipghgkgaaDoor
open Go.Sx
set_option maxRecDepth 100000

theorem lexerLines_ok : ∃ c : Ctr, CtrOK Tryd.prog 9 c ∧ ∀ ss, okArgs Tryd.prog 6 [22, 3] ss → (c ss).ev (bv true) := by
  refine law_le C6_ok D6_ok (by kernel_rfl) (by kernel_rfl) fun ss h => ?_
  obtain ⟨ds, _, rfl, h1, ds2, _, rfl, h2, rfl⟩ := h
  obtain ⟨n, b, hb, l1⟩ := bytes_arg h1
  obtain ⟨a, l2⟩ := int_arg h2
  exact ⟨[byT n b, iv a], 300, .nil, ⟨l1, l2, rfl⟩, law9 hb⟩
end Go.Proofs.YtnoodoipghgkgaaDoor

