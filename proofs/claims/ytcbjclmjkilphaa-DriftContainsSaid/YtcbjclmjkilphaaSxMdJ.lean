/- Part of a proof of the given statements of this seat (SxMdJ): no conditions beyond those typed here. -/
import Derived.Test.YtcbjclmjkilphaaSxMdI
set_option linter.unusedVariables false
set_option linter.unusedSimpArgs false
namespace Go.Proofs.Ytcbjclmjkilphaa
open Go.Sx
variable {lo hi st er le mo r : Int} {sp : Bool}

theorem vB_iff : vB lo hi st er le mo sp = true ↔ okM lo hi st er le mo ∧ (sp = true ∨ (le ≤ oLo lo st ∧ hi + st ≤ mo)) := by
  unfold vB
  rw [Bool.and_eq_true, okB_iff, Bool.or_eq_true, inR_iff]

theorem see_vB (h : vB lo hi st er le mo sp = true) : vB (vLo lo hi st er sp r) (vHi lo hi st er sp r) st er le mo (vSp lo hi st er le mo sp r) = true := by
  obtain ⟨h1, h2⟩ := vB_iff.1 h
  cases sp with
  | true => simpa [vLo, vHi, vSp] using h
  | false =>
    have h2 := h2.resolve_left (by simp)
    cases hg : gB lo hi st er r with
    | false =>
      rw [vB_iff]
      simp only [vLo, vHi, vSp, hg]
      exact ⟨by simpa using h1, .inl (by simp)⟩
    | true =>
      rw [gB_iff] at hg
      have hg' : gB lo hi st er r = true := gB_iff.2 hg
      have := h1.le; have := h1.lo; have := h1.st; have := h1.er
      rw [vB_iff]
      simp only [vLo, vHi, vSp, hg']
      refine ⟨⟨by omega, ?_, by omega, by omega⟩, ?_⟩
      · simp; unfold oLo at *; omega
      · simp only [Bool.false_or, Bool.not_true, Bool.not_eq_true', and_self, if_true]
        rw [← inR_iff]
        cases inR (max (oLo lo st) (r - er)) (min (hi + st) (r + er)) st le mo <;> simp

theorem miss_vB (h : vB lo hi st er le mo sp = true) : vB (uLo lo st sp) (uHi hi st sp) st er le mo (uSp lo hi st le mo sp) = true := by
  obtain ⟨h1, h2⟩ := vB_iff.1 h
  cases sp with
  | true => simpa [uLo, uHi, uSp] using h
  | false =>
    have h2 := h2.resolve_left (by simp)
    have := h1.le; have := h1.lo; have := h1.st; have := h1.er
    rw [vB_iff]
    simp only [uLo, uHi, uSp]
    refine ⟨⟨by omega, ?_, by omega, by omega⟩, ?_⟩
    · simp; unfold oLo at *; omega
    · simp only [Bool.false_or, if_true]
      rw [← inR_iff]
      cases inR (oLo lo st) (hi + st) st le mo <;> simp

end Go.Proofs.Ytcbjclmjkilphaa
