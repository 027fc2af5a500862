/- Part of a proof of the given statements of this seat (SxMdI): no conditions beyond those typed here. -/
import Derived.Test.YtcbjclmjkilphaaSxMdH
set_option linter.unusedVariables false
set_option linter.unusedSimpArgs false
namespace Go.Proofs.Ytcbjclmjkilphaa
open Go.Sx
set_option maxRecDepth 100000

noncomputable def man2 : FuncId → Option Ctr := fun k => match k with
  | 14 => some cEx
  | 15 => some cM45
  | 16 => some cValid
  | 17 => some cValid
  | 18 => some cNew
  | 19 => some cNew
  | 20 => some cSee
  | 21 => some cMiss
  | 22 => some cOut
  | 23 => some cOut
  | 24 => some cAgr
  | 25 => some cAgr
  | 26 => some cSee
  | 27 => some cMiss
  | 28 => some cMade
  | _ => none

theorem man2_ok (k : Nat) (c : Ctr) (h : man2 k = some c) : CtrOK Try.prog k c ∧ goodF Try.prog k = true := by
  unfold man2 at h
  split at h <;> first | (cases h; done) | (cases h)
  · exact ⟨cEx_ok, by kernel_rfl⟩
  · exact ⟨cM45_ok, by kernel_rfl⟩
  · exact ⟨c11, by kernel_rfl⟩
  · exact ⟨c12, by kernel_rfl⟩
  · exact ⟨c13, by kernel_rfl⟩
  · exact ⟨c14, by kernel_rfl⟩
  · exact ⟨c15, by kernel_rfl⟩
  · exact ⟨c16, by kernel_rfl⟩
  · exact ⟨c17, by kernel_rfl⟩
  · exact ⟨c18, by kernel_rfl⟩
  · exact ⟨c19, by kernel_rfl⟩
  · exact ⟨c20, by kernel_rfl⟩
  · exact ⟨c21, by kernel_rfl⟩
  · exact ⟨c22, by kernel_rfl⟩
  · exact ⟨cMade_ok, by kernel_rfl⟩

noncomputable def C2 : Ctx := ctxN Try.prog man2 (fun _ => false) 200 .nil 3
theorem C2_ok : CtxOK Try.prog C2 := ctxN_ok mixed man2_ok 3
noncomputable def D2 : Dr := fun _ => drawn Try.prog C2
theorem D2_ok : DrOK Try.prog C2 D2 := drawn_ok C2_ok mixed

noncomputable def T2 (k : Nat) (args : List SV) (h : Hint) : Tree SV := fnT Try.prog C2 D2 200 (fnOf Try.prog k) (bodyOf Try.prog k) args h
/-- What a law answers: kept behind a word, for the elaborator looks through all others. -/
structure Law (k : Nat) (ss : List SV) : Prop where
  ok : ∃ h, (T2 k ss h).sat Try.prog (· = bv true)

theorem law_ctr {k : Nat} {okA : List SV → Prop} (hf : (Try.prog.funcs[k]?).isSome = true) (hb : (fnOf Try.prog k).body.isSome = true) (h : ∀ ss, okA ss → Law k ss) :
    ∃ c : Ctr, CtrOK Try.prog k c ∧ ∀ ss, okA ss → (c ss).ev (bv true) := by
  refine ⟨fun ss => .need (okA ss) (.ret (bv true)), ?_, fun ss hs => ⟨hs, rfl⟩⟩
  refine ctrOK_of C2_ok D2_ok (fn := fnOf Try.prog k) (body := bodyOf Try.prog k) (by
    unfold fnOf
    cases hk : Try.prog.funcs[k]? with
    | none => rw [hk] at hf; cases hf
    | some f => rfl) (by
    unfold bodyOf
    cases hk : (fnOf Try.prog k).body with
    | none => rw [hk] at hb; cases hb
    | some f => rfl) fun ss r hr => ?_
  obtain ⟨h1, rfl⟩ := hr
  obtain ⟨hint, h2⟩ := (h ss h1).ok
  exact ⟨200, hint, h2⟩

end Go.Proofs.Ytcbjclmjkilphaa
