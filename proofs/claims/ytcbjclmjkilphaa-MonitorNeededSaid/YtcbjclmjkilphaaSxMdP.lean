/- Part of a proof of the given statements of this seat (SxMdP): no conditions beyond those typed here. -/
import Derived.Test.YtcbjclmjkilphaaSxMdW
import Derived.Test.YtcbjclmjkilphaaSxMdQ
set_option linter.unusedVariables false
set_option linter.unusedSimpArgs false
namespace Go.Proofs.Ytcbjclmjkilphaa
open Go.Sx
set_option maxRecDepth 100000
variable {lo hi st er le mo r : Int} {sp : Bool}

theorem step6 (hok : okM lo hi st er le mo) (h : hi + st ≤ mo) : decide (nL st er lo r ≤ nH st er hi r) = gB lo hi st er r ∧ (gB lo hi st er r = true → nL st er lo r = max (oLo lo st) (r - er) ∧ nH st er hi r = min (hi + st) (r + er)) := by
  have := hok.le; have := hok.lo; have := hok.st; have := hok.er
  refine ⟨?_, fun hg => ?_⟩
  · rw [Bool.eq_iff_iff, decide_eq_true_eq, gB_iff]
    unfold nL nH cR oLo
    omega
  · rw [gB_iff] at hg
    unfold nL nH cR oLo
    unfold oLo at hg
    omega

/-- As long as a monitor is not stopped, its bounds are those of the drift. -/
structure J6 (dlo dhi : Int) (L : Nat → Int) (k : Nat) (lo hi st er le mo : Int) (sp : Bool) : Prop where
  v : vB lo hi st er le mo sp = true
  f : sp = false → lo = dL dlo st er L k ∧ hi = dH dhi st er L k ∧ dB dlo dhi st er L k = true

theorem J6.key {dlo dhi : Int} {L : Nat → Int} {k : Nat} (h : J6 dlo dhi L k lo hi st er le mo false) : dB dlo dhi st er L (k + 1) = gB lo hi st er (L k) ∧
    (gB lo hi st er (L k) = true → dL dlo st er L (k + 1) = max (oLo lo st) (L k - er) ∧ dH dhi st er L (k + 1) = min (hi + st) (L k + er)) := by
  obtain ⟨e1, e2, e3⟩ := h.f rfl
  obtain ⟨hok, h2⟩ := vB_iff.1 h.v
  have h2 := h2.resolve_left (by simp)
  obtain ⟨a, b⟩ := step6 (r := L k) hok h2.2
  simp only [dB, e3, Bool.true_and, dL, dH, ← e1, ← e2]
  exact ⟨a, b⟩

theorem J6.see {dlo dhi : Int} {L : Nat → Int} {k : Nat} (h : J6 dlo dhi L k lo hi st er le mo false) (hg : gB lo hi st er (L k) = true) : J6 dlo dhi L (k + 1) (vLo lo hi st er false (L k)) (vHi lo hi st er false (L k)) st er le mo (vSp lo hi st er le mo false (L k)) := by
  obtain ⟨a, b⟩ := h.key
  obtain ⟨b1, b2⟩ := b hg
  refine ⟨see_vB h.v, fun _ => ⟨?_, ?_, by rw [a, hg]⟩⟩
  · rw [b1]; simp [vLo, hg]
  · rw [b2]; simp [vHi, hg]

theorem RawOK.dv {lo wi st er be ov : Int} {n : Nat} {cell : Nat → Nat → DV} (h : RawOK lo wi st er be ov n cell) : dV (sLo lo) (sHi lo wi) (st % 6) (er % 6) := by
  have := h.ok.lo; have := h.hst; have := h.her
  have : sLo lo ≤ 40 := by unfold sLo; omega
  have : sHi lo wi ≤ 47 := by unfold sHi sLo; omega
  exact ⟨by omega, by omega, by omega, by omega⟩

end Go.Proofs.Ytcbjclmjkilphaa
