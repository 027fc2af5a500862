/- Part of a proof of the given statements of this seat (SxMdH): no conditions beyond those typed here. -/
import Derived.Test.YtcbjclmjkilphaaSxMdG
set_option linter.unusedVariables false
set_option linter.unusedSimpArgs false
namespace Go.Proofs.Ytcbjclmjkilphaa
open Go.Sx
set_option maxRecDepth 100000

theorem f11s : (Try.prog.funcs[16]?).isSome = true := by kernel_rfl
theorem f11b : (fnOf Try.prog 16).body.isSome = true := by kernel_rfl
theorem c11 : CtrOK Try.prog 16 cValid := by
  refine cMon_ok f11s f11b ?_
  intro lo hi st er le mo sp r h
  cases h; exact s11
theorem f12s : (Try.prog.funcs[17]?).isSome = true := by kernel_rfl
theorem f12b : (fnOf Try.prog 17).body.isSome = true := by kernel_rfl
theorem c12 : CtrOK Try.prog 17 cValid := by
  refine cMon_ok f12s f12b ?_
  intro lo hi st er le mo sp r h
  cases h; exact s12
theorem f13s : (Try.prog.funcs[18]?).isSome = true := by kernel_rfl
theorem f13b : (fnOf Try.prog 18).body.isSome = true := by kernel_rfl
theorem c13 : CtrOK Try.prog 18 cNew := by
  refine cMon_ok f13s f13b ?_
  intro lo hi st er le mo sp r h
  cases h; exact s13
theorem f14s : (Try.prog.funcs[19]?).isSome = true := by kernel_rfl
theorem f14b : (fnOf Try.prog 19).body.isSome = true := by kernel_rfl
theorem c14 : CtrOK Try.prog 19 cNew := by
  refine cMon_ok f14s f14b ?_
  intro lo hi st er le mo sp r h
  cases h; exact s14
theorem f17s : (Try.prog.funcs[22]?).isSome = true := by kernel_rfl
theorem f17b : (fnOf Try.prog 22).body.isSome = true := by kernel_rfl
theorem c17 : CtrOK Try.prog 22 cOut := by
  refine cMon_ok f17s f17b ?_
  intro lo hi st er le mo sp r h
  obtain ⟨h, rfl⟩ := h; exact s17 h
theorem f18s : (Try.prog.funcs[23]?).isSome = true := by kernel_rfl
theorem f18b : (fnOf Try.prog 23).body.isSome = true := by kernel_rfl
theorem c18 : CtrOK Try.prog 23 cOut := by
  refine cMon_ok f18s f18b ?_
  intro lo hi st er le mo sp r h
  obtain ⟨h, rfl⟩ := h; exact s18 h
theorem f16s : (Try.prog.funcs[21]?).isSome = true := by kernel_rfl
theorem f16b : (fnOf Try.prog 21).body.isSome = true := by kernel_rfl
theorem c16 : CtrOK Try.prog 21 cMiss := by
  refine cMon_ok f16s f16b ?_
  intro lo hi st er le mo sp r h
  obtain ⟨h, rfl⟩ := h; exact s16 h
theorem f22s : (Try.prog.funcs[27]?).isSome = true := by kernel_rfl
theorem f22b : (fnOf Try.prog 27).body.isSome = true := by kernel_rfl
theorem c22 : CtrOK Try.prog 27 cMiss := by
  refine cMon_ok f22s f22b ?_
  intro lo hi st er le mo sp r h
  obtain ⟨h, rfl⟩ := h; exact s22 h
theorem f19s : (Try.prog.funcs[24]?).isSome = true := by kernel_rfl
theorem f19b : (fnOf Try.prog 24).body.isSome = true := by kernel_rfl
theorem c19 : CtrOK Try.prog 24 cAgr := by
  refine cMonR_ok f19s f19b ?_
  intro lo hi st er le mo sp q r h
  obtain ⟨h, rfl⟩ := h; exact s19 h
theorem f20s : (Try.prog.funcs[25]?).isSome = true := by kernel_rfl
theorem f20b : (fnOf Try.prog 25).body.isSome = true := by kernel_rfl
theorem c20 : CtrOK Try.prog 25 cAgr := by
  refine cMonR_ok f20s f20b ?_
  intro lo hi st er le mo sp q r h
  obtain ⟨h, rfl⟩ := h; exact s20 h
theorem f15s : (Try.prog.funcs[20]?).isSome = true := by kernel_rfl
theorem f15b : (fnOf Try.prog 20).body.isSome = true := by kernel_rfl
theorem c15 : CtrOK Try.prog 20 cSee := by
  refine cMonR_ok f15s f15b ?_
  intro lo hi st er le mo sp q r h
  obtain ⟨h, rfl⟩ := h; exact s15 h
theorem f21s : (Try.prog.funcs[26]?).isSome = true := by kernel_rfl
theorem f21b : (fnOf Try.prog 26).body.isSome = true := by kernel_rfl
theorem c21 : CtrOK Try.prog 26 cSee := by
  refine cMonR_ok f21s f21b ?_
  intro lo hi st er le mo sp q r h
  obtain ⟨h, rfl⟩ := h; exact s21 h

end Go.Proofs.Ytcbjclmjkilphaa
