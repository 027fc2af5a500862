/- Part of a proof of the given statements of this seat (SxMdR, SxMdW): no conditions beyond those typed here. -/
import Derived.Test.YtcbjclmjkilphaaSy04
set_option linter.unusedVariables false
set_option linter.unusedSimpArgs false

namespace Go.Proofs.Ytcbjclmjkilphaa
open Go.Sx
set_option maxRecDepth 100000

/-- The facts of a description. -/
structure RawOK (lo wi st er be ov : Int) (n : Nat) (cell : Nat → Nat → DV) : Prop where
  hlo : 0 ≤ lo ∧ lo < 256
  hwi : 0 ≤ wi ∧ wi < 256
  hst : 0 ≤ st ∧ st < 256
  her : 0 ≤ er ∧ er < 256
  hn : n ≤ maxLen
  hcell : ∀ i, i < n → ∃ b, cell i 0 = .x (.int .u8 b) ∧ 0 ≤ b ∧ b < 256
  hbe : 0 ≤ be ∧ be < 256
  hov : 0 ≤ ov ∧ ov < 256

theorem RawOK.ok {lo wi st er be ov : Int} {n : Nat} {cell : Nat → Nat → DV} (h : RawOK lo wi st er be ov n cell) : okM (sLo lo) (sHi lo wi) (st % 6) (er % 6) (mLe lo be) (mMo lo wi ov) := by
  have := h.hlo; have := h.hwi; have := h.hst; have := h.her; have := h.hbe; have := h.hov
  refine ⟨?_, ?_, ?_, ?_⟩ <;> (try simp only [mLe, mMo, sHi, sLo]) <;> omega

theorem RawOK.v {lo wi st er be ov : Int} {n : Nat} {cell : Nat → Nat → DV} (h : RawOK lo wi st er be ov n cell) : vB (sLo lo) (sHi lo wi) (st % 6) (er % 6) (mLe lo be) (mMo lo wi ov) (!inR (sLo lo) (sHi lo wi) (st % 6) (mLe lo be) (mMo lo wi ov)) = true := by
  rw [vB_iff, ← inR_iff]
  refine ⟨h.ok, ?_⟩
  cases inR (sLo lo) (sHi lo wi) (st % 6) (mLe lo be) (mMo lo wi ov) <;> simp

end Go.Proofs.Ytcbjclmjkilphaa

namespace Go.Proofs.Ytcbjclmjkilphaa
open Go.Sx
set_option maxRecDepth 100000

noncomputable def man5 : FuncId → Option Ctr := fun k => match k with
  | 14 => some cEx
  | 15 => some cM45
  | 16 => some cValid
  | 17 => some cValid
  | 18 => some cNew
  | 19 => some cNew
  | 20 => some cSee
  | 21 => some cMiss
  | 22 => some cOut
  | 23 => some cOut
  | 24 => some cAgr
  | 25 => some cAgr
  | 26 => some cSee
  | 27 => some cMiss
  | 28 => some cMade
  | 29 => some cPoss
  | 30 => some cBounds
  | _ => none

theorem man5_ok (k : Nat) (c : Ctr) (h : man5 k = some c) : CtrOK Try.prog k c ∧ goodF Try.prog k = true := by
  unfold man5 at h
  split at h <;> first | (cases h; done) | (cases h)
  · exact ⟨cEx_ok, by kernel_rfl⟩
  · exact ⟨cM45_ok, by kernel_rfl⟩
  · exact ⟨c11, by kernel_rfl⟩
  · exact ⟨c12, by kernel_rfl⟩
  · exact ⟨c13, by kernel_rfl⟩
  · exact ⟨c14, by kernel_rfl⟩
  · exact ⟨c15, by kernel_rfl⟩
  · exact ⟨c16, by kernel_rfl⟩
  · exact ⟨c17, by kernel_rfl⟩
  · exact ⟨c18, by kernel_rfl⟩
  · exact ⟨c19, by kernel_rfl⟩
  · exact ⟨c20, by kernel_rfl⟩
  · exact ⟨c21, by kernel_rfl⟩
  · exact ⟨c22, by kernel_rfl⟩
  · exact ⟨cMade_ok, by kernel_rfl⟩
  · exact ⟨cPoss_ok, by kernel_rfl⟩
  · exact ⟨cBounds_ok, by kernel_rfl⟩

noncomputable def C5 : Ctx := ctxN Try.prog man5 (fun _ => false) 200 .nil 3
theorem C5_ok : CtxOK Try.prog C5 := ctxN_ok mixed man5_ok 3
noncomputable def D5 : Dr := fun _ => drawn Try.prog C5
theorem D5_ok : DrOK Try.prog C5 D5 := drawn_ok C5_ok mixed

noncomputable def T5 (k : Nat) (args : List SV) (h : Hint) : Tree SV := fnT Try.prog C5 D5 200 (fnOf Try.prog k) (bodyOf Try.prog k) args h
/-- What a law answers: kept behind a word, for the elaborator looks through all others. -/
structure Law5 (k : Nat) (ss : List SV) : Prop where
  ok : ∃ h, (T5 k ss h).sat Try.prog (· = bv true)

theorem law_ctr5 {k : Nat} {okA : List SV → Prop} (hf : (Try.prog.funcs[k]?).isSome = true) (hb : (fnOf Try.prog k).body.isSome = true) (h : ∀ ss, okA ss → Law5 k ss) :
    ∃ c : Ctr, CtrOK Try.prog k c ∧ ∀ ss, okA ss → (c ss).ev (bv true) := by
  refine ⟨fun ss => .need (okA ss) (.ret (bv true)), ?_, fun ss hs => ⟨hs, rfl⟩⟩
  refine ctrOK_of C5_ok D5_ok (fn := fnOf Try.prog k) (body := bodyOf Try.prog k) (by
    unfold fnOf
    cases hk : Try.prog.funcs[k]? with
    | none => rw [hk] at hf; cases hf
    | some f => rfl) (by
    unfold bodyOf
    cases hk : (fnOf Try.prog k).body with
    | none => rw [hk] at hb; cases hb
    | some f => rfl) fun ss r hr => ?_
  obtain ⟨h1, rfl⟩ := hr
  obtain ⟨hint, h2⟩ := (h ss h1).ok
  exact ⟨200, hint, h2⟩

end Go.Proofs.Ytcbjclmjkilphaa

