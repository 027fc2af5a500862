/- Part of a proof of the given statements of this seat (SxMdM6): no conditions beyond those typed here. -/
import Derived.Test.YtcbjclmjkilphaaSxMdL6
import Derived.Test.YtcbjclmjkilphaaSxMdM5
set_option linter.unusedVariables false
set_option linter.unusedSimpArgs false
namespace Go.Proofs.Ytcbjclmjkilphaa
open Go.Sx
set_option maxRecDepth 100000
variable {lo hi st er le mo r : Int} {sp : Bool}

theorem step6 (hok : okM lo hi st er le mo) (h : hi + st ≤ mo) : decide (nL st er lo r ≤ nH st er hi r) = gB lo hi st er r ∧ (gB lo hi st er r = true → nL st er lo r = max (oLo lo st) (r - er) ∧ nH st er hi r = min (hi + st) (r + er)) := by
  have := hok.le; have := hok.lo; have := hok.st; have := hok.er
  refine ⟨?_, fun hg => ?_⟩
  · rw [Bool.eq_iff_iff, decide_eq_true_eq, gB_iff]
    unfold nL nH cR oLo
    omega
  · rw [gB_iff] at hg
    unfold nL nH cR oLo
    unfold oLo at hg
    omega

/-- As long as a monitor is not stopped, its bounds are those of the drift. -/
structure J6 (dlo dhi : Int) (L : Nat → Int) (k : Nat) (lo hi st er le mo : Int) (sp : Bool) : Prop where
  v : vB lo hi st er le mo sp = true
  f : sp = false → lo = dL dlo st er L k ∧ hi = dH dhi st er L k ∧ dB dlo dhi st er L k = true

theorem J6.key {dlo dhi : Int} {L : Nat → Int} {k : Nat} (h : J6 dlo dhi L k lo hi st er le mo false) : dB dlo dhi st er L (k + 1) = gB lo hi st er (L k) ∧
    (gB lo hi st er (L k) = true → dL dlo st er L (k + 1) = max (oLo lo st) (L k - er) ∧ dH dhi st er L (k + 1) = min (hi + st) (L k + er)) := by
  obtain ⟨e1, e2, e3⟩ := h.f rfl
  obtain ⟨hok, h2⟩ := vB_iff.1 h.v
  have h2 := h2.resolve_left (by simp)
  obtain ⟨a, b⟩ := step6 (r := L k) hok h2.2
  simp only [dB, e3, Bool.true_and, dL, dH, ← e1, ← e2]
  exact ⟨a, b⟩

theorem J6.see {dlo dhi : Int} {L : Nat → Int} {k : Nat} (h : J6 dlo dhi L k lo hi st er le mo false) (hg : gB lo hi st er (L k) = true) : J6 dlo dhi L (k + 1) (vLo lo hi st er false (L k)) (vHi lo hi st er false (L k)) st er le mo (vSp lo hi st er le mo false (L k)) := by
  obtain ⟨a, b⟩ := h.key
  obtain ⟨b1, b2⟩ := b hg
  refine ⟨see_vB h.v, fun _ => ⟨?_, ?_, by rw [a, hg]⟩⟩
  · rw [b1]; simp [vLo, hg]
  · rw [b2]; simp [vHi, hg]

theorem loop6 {dlo dhi : Int} {n : Nat} {L : Nat → Int} (hn : n ≤ 40) (hv : dV dlo dhi st er) (hJ : J6 dlo dhi L 0 lo hi st er le mo sp) {t : Tree SV} (hc : codeC t = .loop body6) (hn5 : Nat.ble (codeS t).next 5 = true)
    (h0 : Gc 5 (ups (codeS t) 5) (inv6 (.ok (bv false)) n L dlo dhi st er lo hi st er le mo sp 0))
    (hk : ∀ lo hi sp i, codeK t .ret (inv6 (.ok (bv true)) n L dlo dhi st er lo hi st er le mo sp i) = .ret (bv true)) (hx : ∀ lo hi sp i, codeK t (.exit 0) (inv6 (.ok (bv false)) n L dlo dhi st er lo hi st er le mo sp i) = .ret (bv true)) :
    (Tree.code (codeC t) (codeS t) (codeK t)).sat Try.prog (· = bv true) := by
  refine code_satS C5_ok D5_ok (n := 200) (n0 := 5) (nx := 5) (roots := []) (keep := [1, 4, 5, 6, 7, 8]) (drop := [0, 2, 4]) (h := .nil) hc hn5
    (fun m s => ∃ (k : Nat) (lo hi : Int) (sp : Bool), m = n - k ∧ k ≤ n ∧ J6 dlo dhi L k lo hi st er le mo sp ∧ s = inv6 (.ok (bv false)) n L dlo dhi st er lo hi st er le mo sp k)
    (fun e s => ∃ (lo hi : Int) (sp : Bool) (i : Int), (e = .ret ∧ s = inv6 (.ok (bv true)) n L dlo dhi st er lo hi st er le mo sp i) ∨ (e = .exit 0 ∧ s = inv6 (.ok (bv false)) n L dlo dhi st er lo hi st er le mo sp i))
    ⟨n, _, ⟨0, _, _, _, rfl, Nat.zero_le _, hJ, rfl⟩, h0⟩ ?_ ?_
  · rintro m s ⟨k, lo, hi, sp, rfl, hk, J, rfl⟩
    have hb : cutT 5 [] [1, 4, 5, 6, 7, 8] [0, 2, 4] 5 .nil (exec Try.prog C5 D5 200 body6 (inv6 (.ok (bv false)) n L dlo dhi st er lo hi st er le mo sp k)) = _ := B6_eq n L dlo dhi st er lo hi st er le mo sp k
    constructor
    rw [hb]; unfold B6
    have hok := (vB_iff.1 J.v).1
    have e1 : w64 ((k : Int) + 1) = ((k + 1 : Nat) : Int) := by rw [w64_of (by omega) (by omega)]; omega
    simp only [show Int.toNat (k : Int) = k from rfl, e1, Int.toNat_natCast, Nat.sub_zero]
    rw [show (fun i => intOf1 (DV.x (Value.int IntKind.i64 (L (0 + i))))) = L by funext i; rw [Nat.zero_add]; rfl]
    refine ⟨fun hlt => ?_, fun _ => ⟨_, ⟨lo, hi, sp, k, .inr ⟨rfl, rfl⟩⟩, Gc.refl _ _⟩⟩
    simp only [Bool.and_eq_true, decide_eq_true_eq, Bool.not_eq_true'] at hlt
    obtain ⟨hlt, hs⟩ := hlt
    have hlt : k < n := by omega
    have hi' : (0 : Int) ≤ k ∧ (k : Int) < n := by omega
    subst hs
    obtain ⟨a, b⟩ := J.key
    refine ⟨hi', hok, ⟨⟨by omega, by omega⟩, trivial⟩, ⟨hv, by omega, fun i _ => ⟨_, rfl⟩⟩, hi', hok, ?_⟩
    cases hg : gB lo hi st er (L k) with
    | true =>
      obtain ⟨b1, b2⟩ := b hg
      have Js := J.see hg
      rw [hg] at a
      simp only [dE, a, cond_true, zif, b1, b2]
      refine ⟨fun hc => by simp at hc, fun _ => ⟨fun hc => by simp at hc, fun _ => ⟨fun hc => ?_, fun _ => ?_⟩⟩⟩
      · rw [Js.v] at hc; simp [vLo, vHi, hg] at hc
      · exact ⟨n - (k + 1), _, by omega, ⟨k + 1, _, _, _, rfl, hlt, Js, rfl⟩, Gc.refl _ _⟩
    | false =>
      rw [hg] at a
      simp only [dE, a, cond_false]
      refine ⟨fun hc => by simp at hc, fun _ => ⟨fun _ => ?_, fun hc => by simp at hc⟩⟩
      refine ⟨inv6 (.ok (bv true)) n L dlo dhi st er lo hi st er le mo true k, ⟨lo, hi, true, k, .inl ⟨rfl, rfl⟩⟩, ?_⟩
      simp only [vSp, vLo, vHi, hg]
      exact Gc.refl _ _
  · intro e s hq
    obtain ⟨lo, hi, sp, i, ⟨e1, e2⟩ | ⟨e1, e2⟩⟩ := hq
    · rw [e1, e2, hk]; exact ⟨rfl⟩
    · rw [e1, e2, hx]; exact ⟨rfl⟩

theorem law6 {lo wi st er be ov : Int} {n : Nat} {cell : Nat → Nat → DV} {m : Nat} {L : Nat → Int} (h : RawOK lo wi st er be ov n cell) : Law5 6 [.agg [u8 lo, u8 wi, u8 st, u8 er, .d (.ro n 1 cell), u8 be, u8 ov], ro64 m L] := by
  refine ⟨⟨.nil, ?_⟩⟩
  show (t6 lo wi st er be ov n cell m L).sat Try.prog (· = bv true)
  have hr := h
  obtain ⟨h1, h2, h3, h4, h5, h6, h7, h8⟩ := hr
  have hn : n ≤ 9223372036854775807 := h5
  have hv := h.v
  have hI := I6_eq lo wi st er be ov n cell m L
  have c1 := C6e lo wi st er be ov n cell m L
  have c2 := N6e lo wi st er be ov n cell m L
  have c3 := K6_eq lo wi st er be ov n cell m L
  have c4 := K6x_eq lo wi st er be ov n cell m L
  unfold I6 in6 at hI
  rw [L6_eq]; unfold L6
  refine ⟨fun h => by (cases h), fun _ => ⟨fun _ => rfl, fun hm => ⟨⟨h1, h2, h3, h4, hn, h6, h7, h8⟩, ⟨h1, h2, h3, h4, hn, h6⟩, ?_⟩⟩⟩
  have hm : m ≤ 40 := by simp at hm; omega
  refine loop6 (dlo := sLo lo) (dhi := sHi lo wi) (st := st % 6) (er := er % 6) (le := mLe lo be) (mo := mMo lo wi ov) hm h.dv ⟨hv, fun _ => ⟨rfl, rfl, rfl⟩⟩ c1 c2 ((entA_sound hI).trans (Gc.refl _ _)) (fun lo' hi' sp' i => ?_) (fun lo' hi' sp' i => ?_)
  · have := c3 (sLo lo) (sHi lo wi) (st % 6) (er % 6) lo' hi' (st % 6) (er % 6) (mLe lo be) (mMo lo wi ov) sp' i true
    rw [K6] at this
    exact this
  · have := c4 (sLo lo) (sHi lo wi) (st % 6) (er % 6) lo' hi' (st % 6) (er % 6) (mLe lo be) (mMo lo wi ov) sp' i
    rw [K6x] at this
    exact this

end Go.Proofs.Ytcbjclmjkilphaa
