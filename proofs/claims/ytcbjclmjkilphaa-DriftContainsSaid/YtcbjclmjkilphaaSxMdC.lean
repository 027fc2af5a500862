/- Part of a proof of the given statements of this seat (SxMdC): no conditions beyond those typed here. -/
import Derived.Test.YtcbjclmjkilphaaSxMdB
set_option linter.unusedVariables false
set_option linter.unusedSimpArgs false
namespace Go.Proofs.Ytcbjclmjkilphaa
open Go.Sx
set_option maxRecDepth 100000

/-- The number in a cell. -/
def numOf : DV → Int | .x (.int _ n) => n | _ => 0

noncomputable def byteCell (cell : Nat → Nat → DV) : Nat → Int := fun i => numOf (cell i 0)

/-- R44.Made. -/
noncomputable def cMade : Ctr := fun ss => match ss with
  | [.agg [.d (.x (.int .u8 lo)), .d (.x (.int .u8 wi)), .d (.x (.int .u8 st)), .d (.x (.int .u8 er)), .d (.ro n 1 cell)]] =>
    .need ((0 ≤ lo ∧ lo < 256) ∧ (0 ≤ wi ∧ wi < 256) ∧ (0 ≤ st ∧ st < 256) ∧ (0 ≤ er ∧ er < 256) ∧ n ≤ maxLen ∧ ∀ i, i < n → ∃ b, cell i 0 = .x (.int .u8 b) ∧ 0 ≤ b ∧ b < 256) (.ret (madeR lo wi st er n (byteCell cell)))
  | _ => .fail

theorem cMade_ok : CtrOK Try.prog 28 cMade := by
  refine ctrOK_le C0_ok D0_ok (by kernel_rfl) (by kernel_rfl) fun ss r h => ?_
  unfold cMade at h
  split at h
  · rename_i lo wi st er n cell
    obtain ⟨⟨h1, h2, h3, h4, hn, hb⟩, rfl⟩ := h
    refine ⟨mArgs lo wi st er n (byteCell cell), 200, .nil, ?_, made_sat h1 h2 h3 h4 (fun i hi => ?_) hn⟩
    · have : ∀ i j, i < n → j < 1 → cell i j = .x (.int .u8 (byteCell cell i)) := by
        intro i j hi hj
        obtain rfl : j = 0 := by omega
        obtain ⟨b, e, _⟩ := hb i hi
        simp [byteCell, e, numOf]
      simp only [mArgs, leSVs, leSV, u8, ro8, leD, and_true, true_and]
      exact this
    · obtain ⟨b, e, h⟩ := hb i hi
      simpa [byteCell, e, numOf] using h
  · exact h.elim

end Go.Proofs.Ytcbjclmjkilphaa
