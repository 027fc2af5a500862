/- Part of a proof of the given statements of this seat (SxMdN6): no conditions beyond those typed here. -/
import Derived.Test.YtcbjclmjkilphaaSxMdM6
import Derived.Test.YtcbjclmjkilphaaSxMdQ
set_option linter.unusedVariables false
set_option linter.unusedSimpArgs false
namespace Go.Proofs.Ytcbjclmjkilphaa
open Go.Sx
set_option maxRecDepth 100000

theorem law_ctr5L {k : Nat} {okA : List SV → Prop} (hf : (Try.prog.funcs[k]?).isSome = true) (hb : (fnOf Try.prog k).body.isSome = true) (h : ∀ ss, okA ss → ∃ ss', leSVs 0 [] [] ss ss' ∧ Law5 k ss') :
    ∃ c : Ctr, CtrOK Try.prog k c ∧ ∀ ss, okA ss → (c ss).ev (bv true) := by
  refine ⟨fun ss => .need (okA ss) (.ret (bv true)), ?_, fun ss hs => ⟨hs, rfl⟩⟩
  refine ctrOK_le C5_ok D5_ok hf hb fun ss r hr => ?_
  obtain ⟨h1, rfl⟩ := hr
  obtain ⟨ss', h2, h3⟩ := h ss h1
  obtain ⟨hint, h4⟩ := h3.ok
  exact ⟨ss', 200, hint, h2, h4⟩

theorem okInts {ds : List DV} (h : okT Try.prog 6 47 ds) : ∃ n cell, n ≤ maxLen ∧ (∀ i, i < n → ∃ b, cell i 0 = .x (.int .i64 b) ∧ -9223372036854775808 ≤ b ∧ b ≤ 9223372036854775807) ∧ svT Try.prog 47 ds = .d (.ro n 1 cell) := by
  simp [okT, Try.underlying47, Try.underlying3, cells3] at h
  obtain ⟨n, hn, cell, rfl, hc⟩ := h
  refine ⟨n, cell, hn, fun i hi => ?_, by simp [svT, Try.underlying47, cells3]⟩
  obtain ⟨b, hb, e⟩ := hc i hi
  exact ⟨b, by simpa using e, wf_i64 hb⟩

theorem leSVs_refl2 {a : SV} (h : leSV 0 [] [] a a) {b c : SV} (k : leSV 0 [] [] b c) : leSVs 0 [] [] [a, b] [a, c] := by
  simp only [leSVs]; exact ⟨h, k, trivial⟩

theorem f6s : (Try.prog.funcs[6]?).isSome = true := by kernel_rfl
theorem f6b : (fnOf Try.prog 6).body.isSome = true := by kernel_rfl
theorem monitorBounds_ok : ∃ c : Ctr, CtrOK Try.prog 6 c ∧ ∀ ss, okArgs Try.prog 6 [26, 47] ss → (c ss).ev (bv true) := by
  refine law_ctr5L f6s f6b fun ss h => ?_
  obtain ⟨ds, _, rfl, h1, es, _, rfl, h2, rfl⟩ := h
  obtain ⟨lo, wi, st, er, be, ov, n, cell, hr, e⟩ := okRaw h1
  obtain ⟨m, cel2, _, hc, e2⟩ := okInts h2
  rw [e, e2]
  refine ⟨[_, ro64 m (intCell cel2)], leSVs_refl2 ?_ ?_, law6 hr⟩
  · simp [leSV, leSVs, u8, leD]
  · simp only [leSV, ro64, leD, true_and]
    exact le_ro64 fun i hi => by obtain ⟨b, e, _⟩ := hc i hi; exact ⟨b, e⟩

end Go.Proofs.Ytcbjclmjkilphaa
