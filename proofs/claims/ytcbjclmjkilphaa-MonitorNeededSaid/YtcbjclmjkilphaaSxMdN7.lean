/- Part of a proof of the given statements of this seat (SxMdN7): no conditions beyond those typed here. -/
import Derived.Test.YtcbjclmjkilphaaSxMdM7
import Derived.Test.YtcbjclmjkilphaaSxMdQ
set_option linter.unusedVariables false
set_option linter.unusedSimpArgs false
namespace Go.Proofs.Ytcbjclmjkilphaa
open Go.Sx
set_option maxRecDepth 100000

structure Law7 (k : Nat) (ss : List SV) : Prop where
  ok : ∃ h, (T7 k ss h).sat Try.prog (· = bv true)

theorem law_ctr7 {k : Nat} {okA : List SV → Prop} (hf : (Try.prog.funcs[k]?).isSome = true) (hb : (fnOf Try.prog k).body.isSome = true) (h : ∀ ss, okA ss → Law7 k ss) :
    ∃ c : Ctr, CtrOK Try.prog k c ∧ ∀ ss, okA ss → (c ss).ev (bv true) := by
  refine ⟨fun ss => .need (okA ss) (.ret (bv true)), ?_, fun ss hs => ⟨hs, rfl⟩⟩
  refine ctrOK_of C7_ok D7_ok (fn := fnOf Try.prog k) (body := bodyOf Try.prog k) (by
    unfold fnOf
    cases hk : Try.prog.funcs[k]? with
    | none => rw [hk] at hf; cases hf
    | some f => rfl) (by
    unfold bodyOf
    cases hk : (fnOf Try.prog k).body with
    | none => rw [hk] at hb; cases hb
    | some f => rfl) fun ss r hr => ?_
  obtain ⟨h1, rfl⟩ := hr
  obtain ⟨hint, h2⟩ := (h ss h1).ok
  exact ⟨200, hint, h2⟩

theorem law7 {lo wi st er be ov : Int} {n : Nat} {cell : Nat → Nat → DV} (h : RawOK lo wi st er be ov n cell) : Law7 7 [.agg [u8 lo, u8 wi, u8 st, u8 er, .d (.ro n 1 cell), u8 be, u8 ov]] := by
  refine ⟨⟨.nil, ?_⟩⟩
  show (t7 lo wi st er be ov n cell).sat Try.prog (· = bv true)
  have hr := h
  obtain ⟨h1, h2, h3, h4, h5, h6, h7, h8⟩ := hr
  have hn : n ≤ 9223372036854775807 := h5
  have hv := h.v
  have hI := I7_eq lo wi st er be ov n cell
  have c1 := C7e lo wi st er be ov n cell
  have c2 := N7e lo wi st er be ov n cell
  have c3 := K7_eq lo wi st er be ov n cell
  unfold I7 in7 at hI
  rw [L7_eq]; unfold L7
  have hkn : kS n ≤ 12 := by unfold kS; omega
  refine ⟨fun h => by (cases h), fun _ => ⟨⟨h1, h2, h3, h4, hn, h6⟩, ⟨h1, h2, h3, h4, hn, h6, h7, h8⟩, ?_⟩⟩
  refine loop7 (dlo := sLo lo) (dhi := sHi lo wi) (st := st % 6) (er := er % 6) (le := mLe lo be) (mo := mMo lo wi ov) (p := fS lo wi (st % 6) (byteCell cell)) (l := lS lo wi (st % 6) (er % 6) (byteCell cell)) (kn := kS n) (by omega) h.dv (by omega) (by omega) ⟨hv, fun _ => ⟨rfl, rfl, rfl⟩⟩ c1 c2 ((entA_sound hI).trans (Gc.refl _ _)) (fun lo' hi' sp' i => ?_)
  have := c3 (sLo lo) (sHi lo wi) (st % 6) (er % 6) (kS n) (fS lo wi (st % 6) (byteCell cell)) (lS lo wi (st % 6) (er % 6) (byteCell cell)) lo' hi' (st % 6) (er % 6) (mLe lo be) (mMo lo wi ov) sp' i
  rw [K7] at this
  exact this

theorem f7s : (Try.prog.funcs[7]?).isSome = true := by kernel_rfl
theorem f7b : (fnOf Try.prog 7).body.isSome = true := by kernel_rfl
theorem monitorNeeded_ok : ∃ c : Ctr, CtrOK Try.prog 7 c ∧ ∀ ss, okArgs Try.prog 6 [26] ss → (c ss).ev (bv true) := by
  refine law_ctr7 f7s f7b fun ss h => ?_
  obtain ⟨ds, _, rfl, h1, rfl⟩ := h
  obtain ⟨lo, wi, st, er, be, ov, n, cell, hr, e⟩ := okRaw h1
  rw [e]
  exact law7 hr

end Go.Proofs.Ytcbjclmjkilphaa
