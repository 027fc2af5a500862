/- Part of a proof of the given statements of this seat (SxMdQ): no conditions beyond those typed here. -/
import Derived.Test.YtcbjclmjkilphaaSxMdR
set_option linter.unusedVariables false
set_option linter.unusedSimpArgs false
namespace Go.Proofs.Ytcbjclmjkilphaa
open Go.Sx
set_option maxRecDepth 100000

theorem wf_u8 {i : Int} (h : (Lit.int .u8 i).wf = true) : 0 ≤ i ∧ i < 256 := by
  simp [Lit.wf, IntKind.min, IntKind.max, IntKind.signed, IntKind.bits] at h; omega
theorem wf_u16 {i : Int} (h : (Lit.int .u16 i).wf = true) : 0 ≤ i ∧ i < 65536 := by
  simp [Lit.wf, IntKind.min, IntKind.max, IntKind.signed, IntKind.bits] at h; omega
theorem wf_i64 {i : Int} (h : (Lit.int .i64 i).wf = true) : -9223372036854775808 ≤ i ∧ i ≤ 9223372036854775807 := by
  simp [Lit.wf, IntKind.min, IntKind.max, IntKind.signed, IntKind.bits] at h; omega

theorem cells5 : Try.prog.cellsOf 5 = 1 := by kernel_rfl
theorem cells3 : Try.prog.cellsOf 3 = 1 := by kernel_rfl

theorem okRaw {ds : List DV} (h : okT Try.prog 6 26 ds) : ∃ lo wi st er be ov n cell, RawOK lo wi st er be ov n cell ∧ svT Try.prog 26 ds = .agg [u8 lo, u8 wi, u8 st, u8 er, .d (.ro n 1 cell), u8 be, u8 ov] := by
  simp [okT, okFs, Try.underlying26, Try.underlying24, Try.underlying5, Try.underlying25, cells5] at h
  obtain ⟨_, _, rfl, ⟨_, _, rfl, ⟨lo, w1, rfl⟩, _, _, rfl, ⟨wi, w2, rfl⟩, _, _, rfl, ⟨st, w3, rfl⟩, _, _, rfl, ⟨er, w4, rfl⟩, n, hn, cell, rfl, hc⟩, _, _, rfl, ⟨be, w5, rfl⟩, ov, w6, rfl⟩ := h
  refine ⟨lo, wi, st, er, be, ov, n, cell, ⟨wf_u8 w1, wf_u8 w2, wf_u8 w3, wf_u8 w4, hn, fun i hi => ?_, wf_u8 w5, wf_u8 w6⟩, ?_⟩
  · obtain ⟨b, hb, e⟩ := hc i hi
    exact ⟨b, by simpa using e, wf_u8 hb⟩
  · simp [svT, Try.underlying26, u8, cells5]

theorem okMon {ds : List DV} (h : okT Try.prog 6 28 ds) : ∃ a b c d e f s, svT Try.prog 28 ds = mon a b c d e f s := by
  simp [okT, okFs, Try.underlying28, Try.underlying3, Try.underlying4] at h
  obtain ⟨_, _, rfl, ⟨a, w1, rfl⟩, _, _, rfl, ⟨b, w2, rfl⟩, _, _, rfl, ⟨c, w3, rfl⟩, _, _, rfl, ⟨d, w4, rfl⟩, _, _, rfl, ⟨e, w5, rfl⟩, _, _, rfl, ⟨f, w6, rfl⟩, hb⟩ := h
  rcases hb with rfl | rfl
  · exact ⟨a, b, c, d, e, f, false, by simp [svT, Try.underlying28, mon, iv, bv]⟩
  · exact ⟨a, b, c, d, e, f, true, by simp [svT, Try.underlying28, mon, iv, bv]⟩

theorem okInt {ds : List DV} (h : okT Try.prog 6 3 ds) : ∃ i, (-9223372036854775808 ≤ i ∧ i ≤ 9223372036854775807) ∧ svT Try.prog 3 ds = iv i := by
  simp only [okT, Try.underlying3] at h
  obtain ⟨i, hi, rfl⟩ := h
  exact ⟨i, wf_i64 hi, by simp [svT, Try.underlying3, iv]⟩

end Go.Proofs.Ytcbjclmjkilphaa
