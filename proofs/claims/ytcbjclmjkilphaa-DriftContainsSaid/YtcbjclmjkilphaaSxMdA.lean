/- Part of a proof of the given statements of this seat (SxMdA): no conditions beyond those typed here. -/
import Derived.Test.YtcbjclmjkilphaaProg
import Derived.Test.YtcbjclmjkilphaaSxZ
set_option linter.unusedVariables false
set_option linter.unusedSimpArgs false
namespace Go.Proofs.Ytcbjclmjkilphaa
open Go.Sx
set_option maxRecDepth 100000

theorem mixed : Try.prog.follows .mixedOrders = true := by kernel_rfl

/-! ### R44.Made -/

noncomputable def C0 : Ctx := ctxN Try.prog (fun _ => none) (fun _ => false) 200 .nil 6
theorem C0_ok : CtxOK Try.prog C0 := ctxN_ok mixed (fun k c h => by cases h) 6
noncomputable def D0 : Dr := fun _ => drawn Try.prog C0
theorem D0_ok : DrOK Try.prog C0 D0 := drawn_ok C0_ok mixed

noncomputable def mRoots : List (Root × Nat) := [(.cell (.base 2) 4, 6), (.cell (.base 2) 5, 7)]

noncomputable def mInv (lo wi st er : Int) (n : Nat) (B : Nat → Int) (dlo dhi dst der f i : Int) (np nl : Nat) (p l : Nat → Int) : AS :=
  ⟨[.unk, .ok (.ptr 0 0), .ok (.ptr 1 0), .unk, .ok (.ptr 2 0), .ok (iv f), .ok (iv i)] ++ List.replicate 98 .unk,
   [some (.cells [u8 lo, u8 wi, u8 st, u8 er, ro8 n B]), some (.cells [iv 0, iv 0, iv 0, iv 0, .d (.x (.slice none 0 0)), .d (.x (.slice none 0 0))]), some (.cells [iv dlo, iv dhi, iv dst, iv der, .row 6 0 0 np 1, .row 7 0 0 nl 1]),
    none, none, none, some (row64 np p), some (row64 nl l)], 8, .nil⟩

noncomputable def mGc (st : AS) : Option AS := gcA 6 mRoots [1, 2, 4, 5, 6] [] 8 .nil st
noncomputable def mB : Code := loopN (bodyOf Try.prog 28) 0
noncomputable def mArgs (lo wi st er : Int) (n : Nat) (B : Nat → Int) : List SV := [.agg [u8 lo, u8 wi, u8 st, u8 er, ro8 n B]]
noncomputable def mT (lo wi st er : Int) (n : Nat) (B : Nat → Int) : Tree SV := fnT Try.prog C0 D0 200 (fnOf Try.prog 28) (bodyOf Try.prog 28) (mArgs lo wi st er n B) .nil

noncomputable def fW (f b s : Int) : Int := w64 (w64 (f + Int.tmod (w64 b) (w64 (w64 (2 * s) + 1))) - s)
noncomputable def fN (f b s : Int) : Int := if fW f b s > 1 then fW f b s else 1
noncomputable def lN (f b s : Int) : Int := w64 (w64 (f + Int.tmod (w64 b) (w64 (w64 (2 * s) + 1))) - s)

theorem mBody (lo wi st er : Int) (n : Nat) (B : Nat → Int) (dlo dhi dst der f i : Int) (np nl : Nat) (p l : Nat → Int) :
    cutT 6 mRoots [1, 2, 4, 5, 6] [] 8 .nil (exec Try.prog C0 D0 200 mB (mInv lo wi st er n B dlo dhi dst der f i np nl p l)) =
    .ite (decide (w64 (i + 1) < n) && decide (i < 24))
      (.need (0 ≤ i ∧ i < n) (.need (w64 (w64 (2 * dst) + 1) ≠ 0) (.need (0 + np ≤ np ∧ 0 + (0 + 1) * 1 ≤ 1 ∧ (np + 1) * 8 ≤ 140737488355328)
        (.need (0 ≤ w64 (i + 1) ∧ w64 (i + 1) < n) (.need (w64 (w64 (2 * der) + 1) ≠ 0) (.need (0 + nl ≤ nl ∧ 0 + (0 + 1) * 1 ≤ 1 ∧ (nl + 1) * 8 ≤ 140737488355328)
          (.ret (.normal, mInv lo wi st er n B dlo dhi dst der (fN f (B i.toNat) dst) (w64 (i + 2)) (np + 1) (nl + 1) (fun a => bif decide (a < np) then p (0 + a) else fN f (B i.toNat) dst)
            (fun a => bif decide (a < nl) then l (0 + a) else lN (fN f (B i.toNat) dst) (B (w64 (i + 1)).toNat) der)))))))))
      (.ret (.exit 0, mInv lo wi st er n B dlo dhi dst der f i np nl p l)) := by kernel_rfl

theorem mCut (lo wi st er : Int) (n : Nat) (B : Nat → Int) : mT lo wi st er n B =
    .need (40 ≠ (0 : Int)) (.need (8 ≠ (0 : Int)) (.need (6 ≠ (0 : Int)) (.need (6 ≠ (0 : Int)) (.need (8 ≠ (0 : Int)) (.need (w64 (1 + w64 (wi.tmod 8)) ≠ 0) (.code (.loop mB) (codeS (mT lo wi st er n B)) (codeK (mT lo wi st er n B)))))))) := by kernel_rfl

theorem mIn (lo wi st er : Int) (n : Nat) (B : Nat → Int) : mGc (codeS (mT lo wi st er n B)) = some
    ⟨[.unk, .ok (.ptr 0 0), .ok (.ptr 1 0), .unk, .ok (.ptr 2 0), .ok (iv (w64 (w64 (1 + w64 (lo.tmod 40)) + (w64 lo).tmod (w64 (1 + w64 (wi.tmod 8)))))), .ok (iv 0)] ++ List.replicate 98 .unk,
     [some (.cells [u8 lo, u8 wi, u8 st, u8 er, ro8 n B]), some (.cells [iv 0, iv 0, iv 0, iv 0, .d (.x (.slice none 0 0)), .d (.x (.slice none 0 0))]),
      some (.cells [iv (w64 (1 + w64 (lo.tmod 40))), iv (w64 (w64 (1 + w64 (lo.tmod 40)) + w64 (wi.tmod 8))), iv (w64 (st.tmod 6)), iv (w64 (er.tmod 6)), .row 6 0 0 1 1, .d (.x (.slice none 0 0))]),
      none, none, none, some (.cells [iv (w64 (w64 (1 + w64 (lo.tmod 40)) + (w64 lo).tmod (w64 (1 + w64 (wi.tmod 8)))))]), none], 8, .nil⟩ := by kernel_rfl

theorem mNext (lo wi st er : Int) (n : Nat) (B : Nat → Int) : (codeS (mT lo wi st er n B)).next = 6 := by kernel_rfl

theorem mOut (lo wi st er : Int) (n : Nat) (B : Nat → Int) (dlo dhi dst der f i : Int) (np nl : Nat) (p l : Nat → Int) : codeK (mT lo wi st er n B) (.exit 0) (mInv lo wi st er n B dlo dhi dst der f i np nl p l) =
    .need (0 + np ≤ np) (.need (0 + nl ≤ nl) (.ret (.agg [iv dlo, iv dhi, iv dst, iv der, ro64 np fun a => p (0 + a), ro64 nl fun a => l (0 + a)]))) := by kernel_rfl

end Go.Proofs.Ytcbjclmjkilphaa
