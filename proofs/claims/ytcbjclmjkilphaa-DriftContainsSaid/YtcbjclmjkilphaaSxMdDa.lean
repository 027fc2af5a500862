/- Part of a proof of the given statements of this seat (SxMdDa): no conditions beyond those typed here. -/
import Derived.Test.YtcbjclmjkilphaaSxMdEx
import Derived.Test.YtcbjclmjkilphaaSxMdQ
set_option linter.unusedVariables false
set_option linter.unusedSimpArgs false
namespace Go.Proofs.Ytcbjclmjkilphaa
open Go.Sx
set_option maxRecDepth 100000

/-! ### The Drift laws: the ground -/

noncomputable def cSpn1 : Ctr := fun ss => match ss with
  | [.d (.x (.int .i64 lo)), .d (.x (.int .i64 hi)), .d (.x (.int .i64 st)), .d (.x (.int .i64 er)), .d (.ro n 1 cell)] =>
    .need ((dV lo hi st er ∧ n ≤ 1000 ∧ ∀ i, i < n → ∃ b, cell i 0 = .x (.int .i64 b)) ∧ dB lo hi st er (intCell cell) n = true) (.ret (.tup [.d (.ro (n + 1) 2 (scell (sL lo st er n (intCell cell)) (sH hi st er n (intCell cell)))), iv 0]))
  | _ => .fail

theorem cSpn1_ok : CtrOK Try.prog 63 cSpn1 := cSpn_ok.mono fun ss r h => by
  unfold cSpn1 at h
  split at h
  · rename_i lo hi st er n cell
    obtain ⟨⟨h0, h1⟩, h⟩ := h
    refine ⟨h0, ?_⟩
    simp only [Tr.ev] at h
    subst h
    unfold snT
    exact .inl ⟨h1, rfl⟩
  · exact h.elim

/-- drift.Bounds where there is a path. -/
noncomputable def cBnd1 : Ctr := fun ss => match ss with
  | [.d (.x (.int .i64 lo)), .d (.x (.int .i64 hi)), .d (.x (.int .i64 st)), .d (.x (.int .i64 er)), .d (.ro n 1 cell)] =>
    .need ((dV lo hi st er ∧ n ≤ 1000 ∧ ∀ i, i < n → ∃ b, cell i 0 = .x (.int .i64 b)) ∧ dB lo hi st er (intCell cell) n = true) (.ret (.tup [iv (dL lo st er (intCell cell) n), iv (dH hi st er (intCell cell) n), iv 0]))
  | _ => .fail

theorem cBnd1_ok : CtrOK Try.prog 30 cBnd1 := cBounds_ok.mono fun ss r h => by
  unfold cBnd1 at h
  split at h
  · rename_i lo hi st er n cell
    obtain ⟨⟨h0, h1⟩, h⟩ := h
    refine ⟨h0, ?_⟩
    simp only [Tr.ev] at h
    subst h
    simp only [bdR, h1, zif, cond_true, dE]
    rfl
  · exact h.elim

noncomputable def man8 : FuncId → Option Ctr := fun k => match k with
  | 28 => some cMade
  | 29 => some cPoss
  | 30 => some cBnd1
  | 31 => some cPath1
  | 32 => some cEx44
  | 63 => some cSpn1
  | _ => none

theorem man8_ok (k : Nat) (c : Ctr) (h : man8 k = some c) : CtrOK Try.prog k c ∧ goodF Try.prog k = true := by
  unfold man8 at h
  split at h <;> first | (cases h; done) | (cases h)
  · exact ⟨cMade_ok, by kernel_rfl⟩
  · exact ⟨cPoss_ok, by kernel_rfl⟩
  · exact ⟨cBnd1_ok, by kernel_rfl⟩
  · exact ⟨cPath1_ok, by kernel_rfl⟩
  · exact ⟨cEx44_ok, by kernel_rfl⟩
  · exact ⟨cSpn1_ok, by kernel_rfl⟩

noncomputable def C8 : Ctx := ctxN Try.prog man8 (fun _ => false) 200 .nil 3
theorem C8_ok : CtxOK Try.prog C8 := ctxN_ok mixed man8_ok 3
noncomputable def D8 : Dr := fun _ => drawn Try.prog C8
theorem D8_ok : DrOK Try.prog C8 D8 := drawn_ok C8_ok mixed
noncomputable def T8 (k : Nat) (args : List SV) (h : Hint) : Tree SV := fnT Try.prog C8 D8 200 (fnOf Try.prog k) (bodyOf Try.prog k) args h

structure Law8 (k : Nat) (ss : List SV) : Prop where
  ok : ∃ h, (T8 k ss h).sat Try.prog (· = bv true)

theorem law_ctr8 {k : Nat} {okA : List SV → Prop} (hf : (Try.prog.funcs[k]?).isSome = true) (hb : (fnOf Try.prog k).body.isSome = true) (h : ∀ ss, okA ss → Law8 k ss) :
    ∃ c : Ctr, CtrOK Try.prog k c ∧ ∀ ss, okA ss → (c ss).ev (bv true) := by
  refine ⟨fun ss => .need (okA ss) (.ret (bv true)), ?_, fun ss hs => ⟨hs, rfl⟩⟩
  refine ctrOK_of C8_ok D8_ok (fn := fnOf Try.prog k) (body := bodyOf Try.prog k) (by
    unfold fnOf
    cases hk : Try.prog.funcs[k]? with
    | none => rw [hk] at hf; cases hf
    | some f => rfl) (by
    unfold bodyOf
    cases hk : (fnOf Try.prog k).body with
    | none => rw [hk] at hb; cases hb
    | some f => rfl) fun ss r hr => ?_
  obtain ⟨h1, rfl⟩ := hr
  obtain ⟨hint, h2⟩ := (h ss h1).ok
  exact ⟨200, hint, h2⟩

theorem okRaw44 {ds : List DV} (h : okT Try.prog 6 24 ds) : ∃ lo wi st er n cell, (0 ≤ lo ∧ lo < 256) ∧ (0 ≤ wi ∧ wi < 256) ∧ (0 ≤ st ∧ st < 256) ∧ (0 ≤ er ∧ er < 256) ∧ n ≤ maxLen ∧ (∀ i, i < n → ∃ b, cell i 0 = .x (.int .u8 b) ∧ 0 ≤ b ∧ b < 256) ∧
    svT Try.prog 24 ds = .agg [u8 lo, u8 wi, u8 st, u8 er, .d (.ro n 1 cell)] := by
  simp [okT, okFs, Try.underlying24, Try.underlying5, Try.underlying25, cells5] at h
  obtain ⟨_, _, rfl, ⟨lo, w1, rfl⟩, _, _, rfl, ⟨wi, w2, rfl⟩, _, _, rfl, ⟨st, w3, rfl⟩, _, _, rfl, ⟨er, w4, rfl⟩, n, hn, cell, rfl, hc⟩ := h
  refine ⟨lo, wi, st, er, n, cell, wf_u8 w1, wf_u8 w2, wf_u8 w3, wf_u8 w4, hn, fun i hi => ?_, ?_⟩
  · obtain ⟨b, hb, e⟩ := hc i hi
    exact ⟨b, by simpa using e, wf_u8 hb⟩
  · simp [svT, Try.underlying24, u8, cells5]

/-! ### Bounds and spans -/

variable {lo hi st er : Int} {L p : Nat → Int} {n k : Nat}

theorem sL_n : sL lo st er n L n = dL lo st er L n := by
  unfold sL; rw [show n + 1 - n = 0 + 1 by omega]; simp [stL]
theorem sH_n : sH hi st er n L n = dH hi st er L n := by
  unfold sH; rw [show n + 1 - n = 0 + 1 by omega]; simp [stH]
theorem sL_i (h : k < n) : sL lo st er n L k = max (dL lo st er L k) (sL lo st er n L (k + 1) - st) := by
  unfold sL
  rw [show n + 1 - k = (n - k) + 1 by omega, show n + 1 - (k + 1) = n - k by omega]
  simp only [stL]
  rw [if_neg (by omega), show n - (n - k) = k by omega]
theorem sH_i (h : k < n) : sH hi st er n L k = min (dH hi st er L k) (sH hi st er n L (k + 1) + st) := by
  unfold sH
  rw [show n + 1 - k = (n - k) + 1 by omega, show n + 1 - (k + 1) = n - k by omega]
  simp only [stH]
  rw [if_neg (by omega), show n - (n - k) = k by omega]

theorem stepB_iff : stepB st er L p k = true ↔ 1 ≤ p (k + 1) ∧ p k - st ≤ p (k + 1) ∧ p (k + 1) ≤ p k + st ∧ p (k + 1) - er ≤ L k ∧ L k ≤ p (k + 1) + er := by
  unfold stepB
  simp only [Bool.and_eq_true, decide_eq_true_eq]
  constructor
  · rintro ⟨⟨a, b, c⟩, d, e⟩; exact ⟨a, b, c, d, e⟩
  · rintro ⟨a, b, c, d, e⟩; exact ⟨⟨a, b, c⟩, d, e⟩

/-- A possible path lies within the bounds. -/
theorem path_in (hv : dV lo hi st er) (hp : ∀ k, k ≤ n → p k ≤ 1000000000) : ∀ k, k ≤ n → pthB lo hi st er L p k = true → dB lo hi st er L k = true ∧ dL lo st er L k ≤ p k ∧ p k ≤ dH hi st er L k
  | 0, _, h => by simpa [pthB, dB, dL, dH] using h
  | k + 1, hk, h => by
    simp only [pthB, Bool.and_eq_true] at h
    obtain ⟨i1, i2, i3⟩ := path_in hv hp k (by omega) h.1
    have h2 := stepB_iff.1 h.2
    have := hv.s; have := hv.e; have := hp (k + 1) hk
    have a : dL lo st er L (k + 1) ≤ p (k + 1) ∧ p (k + 1) ≤ dH hi st er L (k + 1) := by
      simp only [dL, dH, nL, nH]; unfold cR; omega
    refine ⟨?_, a⟩
    simp only [dB, i1, Bool.true_and, decide_eq_true_eq]; omega

theorem span_in (hv : dV lo hi st er) (hp : ∀ k, k ≤ n → p k ≤ 1000000000) (hb : pthB lo hi st er L p n = true) : ∀ j, j ≤ n → sL lo st er n L (n - j) ≤ p (n - j) ∧ p (n - j) ≤ sH hi st er n L (n - j)
  | 0, _ => by
    have := path_in hv hp n (Nat.le_refl n) hb
    rw [Nat.sub_zero, sL_n, sH_n]; exact this.2
  | j + 1, hj => by
    have ih := span_in hv hp hb j (by omega)
    have hk : n - (j + 1) < n := by omega
    have e : n - (j + 1) + 1 = n - j := by omega
    have hb2 := pthB_mono (show n - (j + 1) + 1 ≤ n by omega) hb
    simp only [pthB, Bool.and_eq_true] at hb2
    have h1 := path_in hv hp (n - (j + 1)) (by omega) hb2.1
    have h2 := stepB_iff.1 hb2.2
    rw [sL_i hk, sH_i hk, e]
    rw [e] at h2
    omega

/-- The walk that Made makes. -/
theorem walk_pos {lo wi s e : Int} {B : Nat → Int} (h1 : 0 ≤ lo) (h2 : 0 ≤ wi) (hs : 0 ≤ s ∧ s ≤ 5) (he : 0 ≤ e ∧ e ≤ 5) : ∀ k, pthB (sLo lo) (sHi lo wi) s e (lS lo wi s e B) (fS lo wi s B) k = true
  | 0 => by
    have := Int.emod_nonneg lo (show 1 + wi % 8 ≠ 0 by omega)
    have := Int.emod_lt_of_pos lo (show 0 < 1 + wi % 8 by omega)
    have e0 : fS lo wi s B 0 = sLo lo + lo % (1 + wi % 8) := rfl
    have e1 : sHi lo wi = sLo lo + wi % 8 := rfl
    show (decide (sLo lo ≤ fS lo wi s B 0) && decide (fS lo wi s B 0 ≤ sHi lo wi)) = true
    rw [e0, e1, Bool.and_eq_true, decide_eq_true_eq, decide_eq_true_eq]; omega
  | k + 1 => by
    have ih := walk_pos h1 h2 hs he (B := B) k
    have f1 := (fS_b (B := B) h1 h2 hs k).1
    simp only [pthB, ih, Bool.true_and]
    have n1 := fNx_b (f := fS lo wi s B k) (b := B (2 * k)) hs
    have e1 : fS lo wi s B (k + 1) = fNx (fS lo wi s B k) (B (2 * k)) s := rfl
    have := Int.emod_nonneg (B (2 * k + 1)) (show 2 * e + 1 ≠ 0 by omega)
    have := Int.emod_lt_of_pos (B (2 * k + 1)) (show 0 < 2 * e + 1 by omega)
    have e2 : lS lo wi s e B k = fS lo wi s B (k + 1) + B (2 * k + 1) % (2 * e + 1) - e := rfl
    rw [← e1] at n1
    rw [stepB_iff]
    omega

/-- What is known of Made's walk. -/
structure WalkOK (lo wi st er : Int) (B : Nat → Int) (n : Nat) : Prop where
  l : 0 ≤ lo ∧ lo < 256
  w : 0 ≤ wi ∧ wi < 256
  s : 0 ≤ st ∧ st < 256
  e : 0 ≤ er ∧ er < 256
  len : n ≤ maxLen
  b : ∀ i, i < n → 0 ≤ B i ∧ B i < 256

theorem WalkOK.dv {lo wi st er : Int} {B : Nat → Int} (h : WalkOK lo wi st er B n) : dV (sLo lo) (sHi lo wi) (st % 6) (er % 6) := by
  have := h.l; have := h.w; have := h.s; have := h.e
  have : sHi lo wi = sLo lo + wi % 8 := rfl
  have : sLo lo = 1 + lo % 40 := rfl
  exact ⟨by omega, by omega, by omega, by omega⟩

theorem WalkOK.f {lo wi st er : Int} {B : Nat → Int} (h : WalkOK lo wi st er B n) (k : Nat) (hk : k ≤ 12) : 1 ≤ fS lo wi (st % 6) B k ∧ fS lo wi (st % 6) B k ≤ 107 := by
  have := fS_b (B := B) (s := st % 6) h.l.1 h.w.1 (by omega) k
  omega

theorem WalkOK.r {lo wi st er : Int} {B : Nat → Int} (h : WalkOK lo wi st er B n) (k : Nat) (hk : k < 12) : -5 ≤ lS lo wi (st % 6) (er % 6) B k ∧ lS lo wi (st % 6) (er % 6) B k ≤ 112 := by
  have := h.f (k + 1) (by omega)
  have e2 : lS lo wi (st % 6) (er % 6) B k = fS lo wi (st % 6) B (k + 1) + B (2 * k + 1) % (2 * (er % 6) + 1) - (er % 6) := rfl
  have := h.e
  have := Int.emod_nonneg (B (2 * k + 1)) (show 2 * (er % 6) + 1 ≠ 0 by omega)
  have := Int.emod_lt_of_pos (B (2 * k + 1)) (show 0 < 2 * (er % 6) + 1 by omega)
  omega

theorem WalkOK.pos {lo wi st er : Int} {B : Nat → Int} (h : WalkOK lo wi st er B n) (k : Nat) : pthB (sLo lo) (sHi lo wi) (st % 6) (er % 6) (lS lo wi (st % 6) (er % 6) B) (fS lo wi (st % 6) B) k = true :=
  walk_pos h.l.1 h.w.1 (by have := h.s; omega) (by have := h.e; omega) k

theorem WalkOK.dB {lo wi st er : Int} {B : Nat → Int} (h : WalkOK lo wi st er B n) (k : Nat) (hk : k ≤ 12) : dB (sLo lo) (sHi lo wi) (st % 6) (er % 6) (lS lo wi (st % 6) (er % 6) B) k = true :=
  (path_in (n := k) h.dv (fun j hj => by have := h.f j (by omega); omega) k (Nat.le_refl k) (h.pos k)).1

theorem kS_le (n : Nat) : kS n ≤ 12 := by unfold kS; omega

end Go.Proofs.Ytcbjclmjkilphaa
