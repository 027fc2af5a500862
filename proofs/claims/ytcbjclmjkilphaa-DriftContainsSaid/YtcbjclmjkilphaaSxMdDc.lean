/- Part of a proof of the given statements of this seat (SxMdDc): no conditions beyond those typed here. -/
import Derived.Test.YtcbjclmjkilphaaSxMdDb
set_option linter.unusedVariables false
set_option linter.unusedSimpArgs false
namespace Go.Proofs.Ytcbjclmjkilphaa
open Go.Sx
set_option maxRecDepth 100000

theorem law8 {lo wi st er : Int} {n : Nat} {cell : Nat → Nat → DV} (hW : WalkOK lo wi st er (byteCell cell) n) (hc : ∀ i, i < n → ∃ b, cell i 0 = .x (.int .u8 b) ∧ 0 ≤ b ∧ b < 256) : Law8 8 [.agg [u8 lo, u8 wi, u8 st, u8 er, .d (.ro n 1 cell)]] := by
  refine ⟨⟨.nil, ?_⟩⟩
  show (t8 lo wi st er n cell).sat Try.prog (· = bv true)
  have hv := hW.dv
  have hk := kS_le n
  have hB := hW.dB (kS n) hk
  have hf := fun k hk => hW.f k hk
  have hp := hW.pos (kS n)
  have hlen : n ≤ 9223372036854775807 := hW.len
  have hpi := path_in (p := fS lo wi (st % 6) (byteCell cell)) (L := lS lo wi (st % 6) (er % 6) (byteCell cell)) (n := kS n) hv (fun j hj => by have := hW.f j (by omega); omega)
  have hsp := span_in (p := fS lo wi (st % 6) (byteCell cell)) (L := lS lo wi (st % 6) (er % 6) (byteCell cell)) (n := kS n) hv (fun j hj => by have := hW.f j (by omega); omega) hp
  have hI := I8d lo wi st er n cell
  have hC := C8d lo wi st er n cell
  have hN := N8d lo wi st er n cell
  have hK := K8d_eq lo wi st er n cell
  have hL := L8_eq lo wi st er n cell
  rw [hL]; unfold L8
  rw [show (fun i => numOf (cell i 0)) = byteCell cell from rfl]
  rw [w64_of (n := ((kS n + 1 : Nat) : Int) - 1) (by omega) (by omega), show Int.toNat (((kS n + 1 : Nat) : Int) - 1) = kS n by omega]
  rw [show (fun i => lS lo wi (st % 6) (er % 6) (byteCell cell) i) = lS lo wi (st % 6) (er % 6) (byteCell cell) from rfl, show (fun i => fS lo wi (st % 6) (byteCell cell) i) = fS lo wi (st % 6) (byteCell cell) from rfl]
  have hpos : posB (sLo lo) (sHi lo wi) (st % 6) (er % 6) (kS n) (lS lo wi (st % 6) (er % 6) (byteCell cell)) (kS n + 1) (fS lo wi (st % 6) (byteCell cell)) = true := by
    simp only [posB, hp, decide_true, Bool.and_self]
  have hin := hpi (kS n) (Nat.le_refl _) hp
  have hdrv : dV (sLo lo) (sHi lo wi) (st % 6) (er % 6) ∧ kS n ≤ 1000 ∧ ∀ i, i < kS n → ∃ b, (fun i (x : Nat) => DV.x (.int .i64 (lS lo wi (st % 6) (er % 6) (byteCell cell) i))) i 0 = DV.x (.int .i64 b) := ⟨hv, by omega, fun i _ => ⟨_, rfl⟩⟩
  refine ⟨fun h => (by cases h), fun _ => ⟨⟨hW.l, hW.w, hW.s, hW.e, hlen, hc⟩, ⟨hdrv, hB⟩, ⟨hdrv, hB⟩, by omega, fun _ => ⟨hv, by omega, by omega, hdrv.2.2, fun i hi => ⟨_, rfl, ?_⟩⟩, fun h => ?_, fun _ => ?_⟩⟩
  · have := hf i (by omega); omega
  · rw [hpos] at h
    simp only [Bool.or_eq_true, decide_eq_true_eq, bne_self_eq_false, Bool.not_true, Bool.false_eq_true, false_or, or_false] at h
    omega
  refine code_satS C8_ok D8_ok (n := 200) (n0 := 9) (nx := 9) (roots := []) (keep := [3, 4, 7, 9]) (drop := [0, 2, 3, 4, 5, 6, 8]) (h := .nil) hC hN
    (fun m s => ∃ k : Nat, m = kS n + 1 - k ∧ k ≤ kS n + 1 ∧ s = inv8d (sLo lo) (sHi lo wi) (st % 6) (er % 6) (kS n) (fS lo wi (st % 6) (byteCell cell)) (lS lo wi (st % 6) (er % 6) (byteCell cell))
      (sL (sLo lo) (st % 6) (er % 6) (kS n) (lS lo wi (st % 6) (er % 6) (byteCell cell))) (sH (sHi lo wi) (st % 6) (er % 6) (kS n) (lS lo wi (st % 6) (er % 6) (byteCell cell))) k)
    (fun e s => e = .exit 0 ∧ ∃ i, s = inv8d (sLo lo) (sHi lo wi) (st % 6) (er % 6) (kS n) (fS lo wi (st % 6) (byteCell cell)) (lS lo wi (st % 6) (er % 6) (byteCell cell))
      (sL (sLo lo) (st % 6) (er % 6) (kS n) (lS lo wi (st % 6) (er % 6) (byteCell cell))) (sH (sHi lo wi) (st % 6) (er % 6) (kS n) (lS lo wi (st % 6) (er % 6) (byteCell cell))) i)
    ⟨_, _, ⟨0, rfl, by omega, rfl⟩, entA_sound hI⟩ ?_ ?_
  · rintro m s ⟨k, rfl, hk2, rfl⟩
    refine Sat.of_eq (B8d_eq (sLo lo) (sHi lo wi) (st % 6) (er % 6) (kS n) (fS lo wi (st % 6) (byteCell cell)) (lS lo wi (st % 6) (er % 6) (byteCell cell)) (sL (sLo lo) (st % 6) (er % 6) (kS n) (lS lo wi (st % 6) (er % 6) (byteCell cell))) (sH (sHi lo wi) (st % 6) (er % 6) (kS n) (lS lo wi (st % 6) (er % 6) (byteCell cell))) k) ?_
    constructor
    unfold B8d
    have e1 : w64 ((k : Int) + 1) = ((k + 1 : Nat) : Int) := by rw [w64_of (by omega) (by omega)]; omega
    rw [e1]
    simp only [Int.toNat_natCast]
    refine ⟨fun h => ?_, fun h => ?_⟩
    · have hlt : k < kS n + 1 := by simp only [decide_eq_true_eq] at h; omega
      have h1 := hsp (kS n - k) (by omega)
      rw [show kS n - (kS n - k) = k by omega] at h1
      refine ⟨by omega, by omega, by decide, fun _ => by omega, fun _ => by omega, fun _ => by decide, fun h => ?_, fun _ => ?_⟩
      · simp only [Bool.or_eq_true, decide_eq_true_eq] at h; omega
      · exact ⟨kS n + 1 - (k + 1), _, by omega, ⟨k + 1, rfl, by omega, rfl⟩, Gc.refl _ _⟩
    · exact ⟨_, ⟨rfl, k, rfl⟩, Gc.refl _ _⟩
  · rintro e s ⟨rfl, i, rfl⟩
    exact Sat.of_eq (hK _ _ _ _ _ _ _ _ _ i) ⟨rfl⟩

theorem f8s : (Try.prog.funcs[8]?).isSome = true := by kernel_rfl
theorem f8b : (fnOf Try.prog 8).body.isSome = true := by kernel_rfl
theorem driftContains_ok : ∃ c : Ctr, CtrOK Try.prog 8 c ∧ ∀ ss, okArgs Try.prog 6 [24] ss → (c ss).ev (bv true) := by
  refine law_ctr8 f8s f8b fun ss h => ?_
  obtain ⟨ds, _, rfl, h1, rfl⟩ := h
  obtain ⟨lo, wi, st, er, n, cell, g1, g2, g3, g4, g5, g6, e⟩ := okRaw44 h1
  rw [e]
  refine law8 ⟨g1, g2, g3, g4, g5, fun i hi => ?_⟩ g6
  obtain ⟨b, e2, h2⟩ := g6 i hi
  simpa [byteCell, e2, numOf] using h2

end Go.Proofs.Ytcbjclmjkilphaa
