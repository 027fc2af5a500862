/- Part of a proof of the given statements of this seat (SxMdM7): no conditions beyond those typed here. -/
import Derived.Test.YtcbjclmjkilphaaSxMdL7
import Derived.Test.YtcbjclmjkilphaaSxMdP
set_option linter.unusedVariables false
set_option linter.unusedSimpArgs false
namespace Go.Proofs.Ytcbjclmjkilphaa
open Go.Sx
set_option maxRecDepth 100000
set_option linter.constructorNameAsVariable false

/-! ### The path that drift.Path returns is possible -/

section
variable {lo hi st er last : Int} {L : Nat → Int} {n k : Nat}

theorem pth_in (hv : dV lo hi st er) (hb : dB lo hi st er L n = true) (hl : dL lo st er L n ≤ last ∧ last ≤ dH hi st er L n) (hk : k ≤ n) : dL lo st er L k ≤ pth lo hi st er n L last k ∧ pth lo hi st er n L last k ≤ dH hi st er L k := by
  unfold pth
  have hle := dB_le hv (dB_mono hk hb)
  rw [show n + 1 - k = (n - k) + 1 by omega]
  simp only [pw]
  rw [show n - (n - k) = k by omega]
  omega

theorem pth_end (hl : dL lo st er L n ≤ last ∧ last ≤ dH hi st er L n) : pth lo hi st er n L last n = last := by
  unfold pth
  rw [show n + 1 - n = 0 + 1 by omega]
  simp only [pw, Nat.sub_zero]
  omega

theorem pth_step (hv : dV lo hi st er) (hb : dB lo hi st er L n = true) (hl : dL lo st er L n ≤ last ∧ last ≤ dH hi st er L n) (hk : k < n) : stepB st er L (pth lo hi st er n L last) k = true := by
  have h1 := pth_in hv hb hl (show k + 1 ≤ n by omega)
  have hb1 := dB_le hv (dB_mono (show k + 1 ≤ n by omega) hb)
  have hb0 := dB_le hv (dB_mono (show k ≤ n by omega) hb)
  have e : pth lo hi st er n L last k = min (max (pth lo hi st er n L last (k + 1)) (dL lo st er L k)) (dH hi st er L k) := by
    unfold pth
    rw [show n + 1 - k = (n - k) + 1 by omega, show n + 1 - (k + 1) = n - k by omega]
    simp only [pw]
    rw [show n - (n - k) = k by omega]
  have := hv.s; have := hv.e
  have c := cR_b (L k)
  unfold stepB
  rw [e]
  generalize pth lo hi st er n L last (k + 1) = x at *
  simp only [dL, dH, nL, nH] at h1 hb1
  generalize dL lo st er L k = a at *
  generalize dH hi st er L k = b at *
  simp only [Bool.and_eq_true, decide_eq_true_eq]
  unfold cR at *
  omega

theorem pth_pos (hv : dV lo hi st er) (hb : dB lo hi st er L n = true) (hl : dL lo st er L n ≤ last ∧ last ≤ dH hi st er L n) : posB lo hi st er n L (n + 1) (pth lo hi st er n L last) = true := by
  have key : ∀ k, k ≤ n → pthB lo hi st er L (pth lo hi st er n L last) k = true := by
    intro k
    induction k with
    | zero =>
      intro _
      have := pth_in hv hb hl (Nat.zero_le n)
      simp only [dL, dH] at this
      simp only [pthB, Bool.and_eq_true, decide_eq_true_eq]; exact this
    | succ k ih =>
      intro hk
      simp only [pthB, ih (by omega), Bool.true_and]
      exact pth_step hv hb hl hk
  simp only [posB, key n (Nat.le_refl _), decide_true, Bool.and_self]
end

variable {lo hi st er le mo r : Int} {sp : Bool}

/-- Whether a factor from lo to last - 1 was found. -/
structure F7 (lo hi st le mo last : Int) (found : Bool) : Prop where
  l : max 1 (lo - st) < le → lo < last → found = true
  h : hi + st > mo → hi < last → found = true

theorem F7.step {lo hi st le mo last : Int} {found : Bool} (h : F7 lo hi st le mo last found) (hlast : lo ≤ last ∧ last ≤ hi) : F7 lo hi st le mo (last + 1) (found || decide (last + st > mo) || decide (max 1 (last - st) < le)) := by
  refine ⟨fun h1 h2 => ?_, fun h1 h2 => ?_⟩
  · by_cases e : lo < last
    · rw [h.l h1 e]; rfl
    · obtain rfl : last = lo := by omega
      simp [h1]
  · obtain rfl : last = hi := by omega
    simp [h1]

theorem loop8 {dlo dhi st er : Int} {kn : Nat} {p l : Nat → Int} {lo0 hi0 : Int} {sp0 : Bool} {lo hi le mo : Int} {sp : Bool} {k : Nat} (hkn : kn ≤ 100) (hk : k < kn) (hv : dV dlo dhi st er) (hst : st ≤ 5) (hb : dB dlo dhi st er l (k + 1) = true) (elo : lo = dL dlo st er l (k + 1)) (ehi : hi = dH dhi st er l (k + 1)) (hle : hi ≤ 1000000)
    (hout : max 1 (lo - st) < le ∨ hi + st > mo) {Q : Ex × AS → Prop} (h0 : Gc 48 (ups (codeS (sub q7 (b7 dlo dhi st er kn p l lo0 hi0 st er le mo sp0 k))) 48) (inv8 dlo dhi st er kn p l lo hi st er le mo sp k false lo))
    (hQ : Sat Try.prog (codeK (sub q7 (b7 dlo dhi st er kn p l lo0 hi0 st er le mo sp0 k)) (.exit 2) (inv8 dlo dhi st er kn p l lo hi st er le mo sp k true (hi + 1))) Q) :
    (Tree.code (codeC (sub q7 (b7 dlo dhi st er kn p l lo0 hi0 st er le mo sp0 k))) (codeS (sub q7 (b7 dlo dhi st er kn p l lo0 hi0 st er le mo sp0 k))) (codeK (sub q7 (b7 dlo dhi st er kn p l lo0 hi0 st er le mo sp0 k)))).sat Try.prog Q := by
  have hlh := dB_le hv hb
  have hlb := dL_b hv (L := l) (k + 1)
  refine code_satS C7_ok D7_ok (n := 200) (n0 := 48) (nx := 48) (roots := []) (keep := [2, 3, 4, 5, 6, 8, 9]) (drop := drp8) (h := .nil) (C8e _ _ _ _ _ _ _ _ _ _ _ _ _ _ _) (N8e _ _ _ _ _ _ _ _ _ _ _ _ _ _ _)
    (fun m s => ∃ (last : Int) (found : Bool), m = (hi + 1 - last).toNat ∧ lo ≤ last ∧ last ≤ hi + 1 ∧ F7 lo hi st le mo last found ∧ s = inv8 dlo dhi st er kn p l lo hi st er le mo sp k found last)
    (fun e s => e = .exit 2 ∧ s = inv8 dlo dhi st er kn p l lo hi st er le mo sp k true (hi + 1))
    ⟨_, _, ⟨lo, false, rfl, by omega, by omega, ⟨fun _ h => by omega, fun _ h => by omega⟩, rfl⟩, h0⟩ ?_ ?_
  · rintro m s ⟨last, found, rfl, g1, g2, hf, rfl⟩
    have hbd : cutT 48 [] [2, 3, 4, 5, 6, 8, 9] drp8 48 .nil (exec Try.prog C7 D7 200 body8 (inv8 dlo dhi st er kn p l lo hi st er le mo sp k found last)) = _ := B8_eq dlo dhi st er kn p l lo hi st er le mo sp k found last
    constructor
    rw [hbd]; unfold B8
    have e1 : w64 ((k : Int) + 1) = ((k + 1 : Nat) : Int) := by rw [w64_of (by omega) (by omega)]; omega
    have e2 : w64 ((k : Int) + 2) = ((k + 1 + 1 : Nat) : Int) := by rw [w64_of (by omega) (by omega)]; omega
    have := hv.s
    simp only [e1, e2, Int.toNat_natCast, Nat.sub_zero, gt_if]
    rw [show (fun i => intOf1 (DV.x (Value.int IntKind.i64 (l (0 + i))))) = l by funext i; rw [Nat.zero_add]; rfl]
    refine ⟨fun hc => ?_, fun hc => ?_⟩
    · have hlast : last ≤ hi := by simpa using hc
      have hl : dL dlo st er l (k + 1) ≤ last ∧ last ≤ dH dhi st er l (k + 1) := by omega
      have hpos := pth_pos hv hb hl
      have hr : -4000000000000000000 ≤ last ∧ last ≤ 4000000000000000000 := by omega
      rw [w64_of (n := last + st) (by omega) (by omega), w64_of (n := last - st) (by omega) (by omega), w64_of (n := last + 1) (by omega) (by omega)]
      rw [show (fun i_1 => intOf1 (DV.x (Value.int IntKind.i64 (pth dlo dhi st er (k + 1) l last i_1)))) = pth dlo dhi st er (k + 1) l last from rfl, hpos]
      refine ⟨⟨⟨by omega, by omega⟩, trivial⟩, ⟨⟨hv, by omega, fun i _ => ⟨_, rfl⟩⟩, hb, hl.1, hl.2⟩, fun _ => ⟨⟨by omega, by omega⟩, trivial⟩, fun _ => ⟨hv, by omega, by omega, fun i _ => ⟨_, rfl⟩, fun i hi => ?_⟩, fun hc => ?_, fun _ => ?_⟩
      · refine ⟨pth dlo dhi st er (k + 1) l last i, ?_, ?_⟩
        · show xi _ = _
          rw [show (intCell fun i j => (fun i x => DV.x (Value.int IntKind.i64 (l i))) (0 + i) j) = l by funext i; simp [intCell, intOf1]]
        · have h1 := pth_in hv hb hl (show i ≤ k + 1 by omega)
          have h2 := dL_b hv (L := l) i
          have h3 := dH_b hv (L := l) i
          omega
      · simp at hc
      · refine ⟨_, _, ?_, ⟨last + 1, _, rfl, by omega, by omega, hf.step ⟨g1, hlast⟩, rfl⟩, Gc.refl _ _⟩
        omega
    · have hlast : ¬ last ≤ hi := by simpa using hc
      obtain rfl : last = hi + 1 := by omega
      have hft : found = true := by
        rcases hout with h | h
        · exact hf.l h (by omega)
        · exact hf.h h (by omega)
      subst hft
      exact ⟨_, ⟨rfl, rfl⟩, Gc.refl _ _⟩
  · intro e s hq
    obtain ⟨h1, h2⟩ := hq
    rw [h1, h2]
    exact hQ


theorem see7 (hg : gB lo hi st er r = true) : vLo lo hi st er false r = max (oLo lo st) (r - er) ∧ vHi lo hi st er false r = min (hi + st) (r + er) ∧ vSp lo hi st er le mo false r = !inR (max (oLo lo st) (r - er)) (min (hi + st) (r + er)) st le mo := by
  simp [vLo, vHi, vSp, hg]

theorem loop7 {dlo dhi : Int} {kn : Nat} {p l : Nat → Int} (hkn : kn ≤ 100) (hv : dV dlo dhi st er) (hst : st ≤ 5) (her : er ≤ 5) (hJ : J6 dlo dhi l 0 lo hi st er le mo sp) {t : Tree SV} (hc : codeC t = .loop body7) (hn : Nat.ble (codeS t).next 10 = true)
    (h0 : Gc 10 (ups (codeS t) 10) (inv7 (.ok (bv false)) dlo dhi st er kn p l lo hi st er le mo sp 0))
    (hx : ∀ lo hi sp i, codeK t (.exit 0) (inv7 (.ok (bv false)) dlo dhi st er kn p l lo hi st er le mo sp i) = .ret (bv true)) : (Tree.code (codeC t) (codeS t) (codeK t)).sat Try.prog (· = bv true) := by
  refine code_satS C7_ok D7_ok (n := 200) (n0 := 10) (nx := 10) (roots := []) (keep := [2, 3, 4, 5, 6]) (drop := [0, 1, 2, 3, 4, 5, 8, 9]) (h := .nil) hc hn
    (fun m s => ∃ (k : Nat) (lo hi : Int) (sp : Bool), m = kn - k ∧ k ≤ kn ∧ J6 dlo dhi l k lo hi st er le mo sp ∧ s = inv7 (.ok (bv false)) dlo dhi st er kn p l lo hi st er le mo sp k)
    (fun e s => ∃ (lo hi : Int) (sp : Bool) (i : Int), e = .exit 0 ∧ s = inv7 (.ok (bv false)) dlo dhi st er kn p l lo hi st er le mo sp i)
    ⟨kn, _, ⟨0, _, _, _, rfl, Nat.zero_le _, hJ, rfl⟩, h0⟩ ?_ ?_
  · rintro m s ⟨k, lo, hi, sp, rfl, hk, J, rfl⟩
    have hb : cutT 10 [] [2, 3, 4, 5, 6] [0, 1, 2, 3, 4, 5, 8, 9] 10 .nil (exec Try.prog C7 D7 200 body7 (inv7 (.ok (bv false)) dlo dhi st er kn p l lo hi st er le mo sp k)) = _ := B7_eq dlo dhi st er kn p l lo hi st er le mo sp k
    constructor
    rw [hb]; unfold B7
    have hok := (vB_iff.1 J.v).1
    have hI8 := I8_eq dlo dhi st er kn p l lo hi st er le mo sp k
    unfold I8 in8 at hI8
    have e1 : w64 ((k : Int) + 1) = ((k + 1 : Nat) : Int) := by rw [w64_of (by omega) (by omega)]; omega
    simp only [show Int.toNat (k : Int) = k from rfl, e1] at hI8 ⊢
    refine ⟨fun hlt => ?_, fun _ => ⟨_, ⟨lo, hi, sp, k, rfl, rfl⟩, Gc.refl _ _⟩⟩
    simp only [Bool.and_eq_true, decide_eq_true_eq, Bool.not_eq_true'] at hlt
    obtain ⟨hlt, hs⟩ := hlt
    have hlt : k < kn := by omega
    have hi' : (0 : Int) ≤ k ∧ (k : Int) < kn := by omega
    subst hs
    have hvv := see_vB (r := l k) J.v
    have e2 := J.key
    refine ⟨hi', hok, fun hc => ?_, fun _ => ⟨fun _ => hi', fun _ => hok, fun hc => ?_, fun hc => ?_⟩⟩
    · rw [hvv] at hc; cases hc
    · -- the monitor goes on, or the reading does not agree
      refine ⟨kn - (k + 1), _, by omega, ⟨k + 1, _, _, _, rfl, hlt, ?_, rfl⟩, Gc.refl _ _⟩
      cases hg : gB lo hi st er (l k) with
      | true => exact J.see hg
      | false => exact ⟨hvv, fun h => by simp [vSp, hg] at h⟩
    · -- it stops at a reading that agrees
      simp only [Bool.or_eq_false_iff, Bool.not_eq_false'] at hc
      obtain ⟨hsp, hg⟩ := hc
      obtain ⟨s1, s2, s3⟩ := see7 (le := le) (mo := mo) hg
      have Js := J.see hg
      obtain ⟨a, b⟩ := e2
      rw [hg] at a
      obtain ⟨b1, b2⟩ := b hg
      have hok2 := (vB_iff.1 Js.v).1
      rw [s3] at hsp
      have hout : max 1 (vLo lo hi st er false (l k) - st) < le ∨ vHi lo hi st er false (l k) + st > mo := by
        rw [s1, s2]
        simp only [inR, Bool.not_eq_true', Bool.and_eq_false_iff, decide_eq_false_iff_not] at hsp
        unfold oLo at hsp ⊢
        omega
      have hdiff : vHi lo hi st er false (l k) - vLo lo hi st er false (l k) ≤ 10 ∧ 0 ≤ vHi lo hi st er false (l k) - vLo lo hi st er false (l k) := by
        have := hok2.lo
        rw [s1, s2] at this ⊢; omega
      rw [w64_of (n := vHi lo hi st er false (l k) - vLo lo hi st er false (l k)) (by omega) (by omega)]
      refine ⟨fun hc => by simp at hc; omega, fun _ => ?_⟩
      refine loop8 hkn hlt hv hst a (s1.trans b1.symm) (s2.trans b2.symm) hok2.lo.2.2 hout ((entA_sound hI8).trans (Gc.refl _ _)) ?_
      have h8 := K8_eq dlo dhi st er kn p l lo hi st er le mo false k (vLo lo hi st er false (l k)) (vHi lo hi st er false (l k)) (vSp lo hi st er le mo false (l k)) true (vHi lo hi st er false (l k) + 1)
      constructor
      rw [h8]; unfold K8
      refine ⟨fun hc => (by cases hc), fun _ => ?_⟩
      rw [e1]
      exact ⟨kn - (k + 1), _, by omega, ⟨k + 1, _, _, _, rfl, hlt, Js, rfl⟩, Gc.refl _ _⟩
  · intro e s hq
    obtain ⟨lo, hi, sp, i, e1, e2⟩ := hq
    rw [e1, e2, hx]; exact ⟨rfl⟩

end Go.Proofs.Ytcbjclmjkilphaa
