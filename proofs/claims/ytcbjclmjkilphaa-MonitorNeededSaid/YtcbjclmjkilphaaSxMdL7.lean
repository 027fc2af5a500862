/- Part of a proof of the given statements of this seat (SxMdL7): no conditions beyond those typed here. -/
import Derived.Test.YtcbjclmjkilphaaSxMdY
import Derived.Test.YtcbjclmjkilphaaSxMdW
set_option linter.unusedVariables false
set_option linter.unusedSimpArgs false
namespace Go.Proofs.Ytcbjclmjkilphaa
open Go.Sx
set_option maxRecDepth 100000

noncomputable def man7 : FuncId → Option Ctr := fun k => if k = 31 then some cPath1 else man5 k
theorem man7_ok (k : Nat) (c : Ctr) (h : man7 k = some c) : CtrOK Try.prog k c ∧ goodF Try.prog k = true := by
  unfold man7 at h
  split at h
  · rename_i e; cases h; subst e; exact ⟨cPath1_ok, by kernel_rfl⟩
  · exact man5_ok k c h
noncomputable def C7 : Ctx := ctxN Try.prog man7 (fun _ => false) 200 .nil 3
theorem C7_ok : CtxOK Try.prog C7 := ctxN_ok mixed man7_ok 3
noncomputable def D7 : Dr := fun _ => drawn Try.prog C7
theorem D7_ok : DrOK Try.prog C7 D7 := drawn_ok C7_ok mixed
noncomputable def T7 (k : Nat) (args : List SV) (h : Hint) : Tree SV := fnT Try.prog C7 D7 200 (fnOf Try.prog k) (bodyOf Try.prog k) args h

noncomputable def t7 (lo wi st er be ov : Int) (n : Nat) (cell : Nat → Nat → DV) : Tree SV := T7 7 [.agg [u8 lo, u8 wi, u8 st, u8 er, .d (.ro n 1 cell), u8 be, u8 ov]] .nil

noncomputable def L7 (lo wi st er be ov : Int) (n : Nat) (cell : Nat → Nat → DV) : Tree SV :=
  .ite false (.ret (bv false))
  (.need
    (((0 : Int) ≤ lo ∧ lo < (256 : Int)) ∧
      ((0 : Int) ≤ wi ∧ wi < (256 : Int)) ∧
        ((0 : Int) ≤ st ∧ st < (256 : Int)) ∧ ((0 : Int) ≤ er ∧ er < (256 : Int)) ∧ n ≤ 9223372036854775807 ∧ ∀ (i : Nat), i < n → ∃ b, cell i (0 : Nat) = DV.x (.int .u8 b) ∧ (0 : Int) ≤ b ∧ b < (256 : Int))
    (.need
      (((0 : Int) ≤ lo ∧ lo < (256 : Int)) ∧
        ((0 : Int) ≤ wi ∧ wi < (256 : Int)) ∧
          ((0 : Int) ≤ st ∧ st < (256 : Int)) ∧
            ((0 : Int) ≤ er ∧ er < (256 : Int)) ∧
              n ≤ 9223372036854775807 ∧ (∀ (i : Nat), i < n → ∃ b, cell i (0 : Nat) = DV.x (.int .u8 b) ∧ (0 : Int) ≤ b ∧ b < (256 : Int)) ∧ ((0 : Int) ≤ be ∧ be < (256 : Int)) ∧ (0 : Int) ≤ ov ∧ ov < (256 : Int))
      (.code (codeC (sub [(1 : Nat), (0 : Nat), (0 : Nat)] (t7 lo wi st er be ov n cell))) (codeS (sub [(1 : Nat), (0 : Nat), (0 : Nat)] (t7 lo wi st er be ov n cell)))
        (codeK (sub [(1 : Nat), (0 : Nat), (0 : Nat)] (t7 lo wi st er be ov n cell))))))

theorem L7_eq (lo wi st er be ov : Int) (n : Nat) (cell : Nat → Nat → DV) : t7 lo wi st er be ov n cell = L7 lo wi st er be ov n cell := by kernel_rfl


noncomputable def p7 : List Nat := [1, 0, 0]
noncomputable def in7 (t : Tree SV) : Option AS := entA 10 [] [2, 3, 4, 5, 6] [0, 1, 2, 3, 4, 5, 8, 9] 10 .nil t
noncomputable def inv7 (rs : TV) (dlo dhi dst der : Int) (kn : Nat) (p l : Nat → Int) (lo hi st er le mo : Int) (sp : Bool) (i : Int) : AS :=
  ⟨[.unk, .unk, rs, .ok (bv true), .ok (.ptr 6 0), .ok (.ptr 7 0), .ok (iv i)] ++ List.replicate 139 .unk,
   List.replicate 6 none ++ [some (.cells [iv dlo, iv dhi, iv dst, iv der, ro64 (kn + 1) p, ro64 kn l]), some (.cells [iv lo, iv hi, iv st, iv er, iv le, iv mo, bv sp]), none, none], 10, .nil⟩
noncomputable def I7 (lo wi st er be ov : Int) (n : Nat) (cell : Nat → Nat → DV) : Option AS :=
  some
  {
    tm :=
      [.unk, .unk, .ok (bv false), .ok (bv true), .ok (.ptr 6 0), .ok (.ptr 7 0), .ok (iv (0 : Int)), .unk, .unk, .unk, .unk, .unk, .unk, .unk, .unk, .unk, .unk,
        .unk, .unk, .unk, .unk, .unk, .unk, .unk, .unk, .unk, .unk, .unk, .unk, .unk, .unk, .unk, .unk, .unk, .unk, .unk, .unk, .unk, .unk, .unk, .unk, .unk, .unk, .unk, .unk, .unk,
        .unk, .unk, .unk, .unk, .unk, .unk, .unk, .unk, .unk, .unk, .unk, .unk, .unk, .unk, .unk, .unk, .unk, .unk, .unk, .unk, .unk, .unk, .unk, .unk, .unk, .unk, .unk, .unk, .unk,
        .unk, .unk, .unk, .unk, .unk, .unk, .unk, .unk, .unk, .unk, .unk, .unk, .unk, .unk, .unk, .unk, .unk, .unk, .unk, .unk, .unk, .unk, .unk, .unk, .unk, .unk, .unk, .unk, .unk,
        .unk, .unk, .unk, .unk, .unk, .unk, .unk, .unk, .unk, .unk, .unk, .unk, .unk, .unk, .unk, .unk, .unk, .unk, .unk, .unk, .unk, .unk, .unk, .unk, .unk, .unk, .unk, .unk, .unk,
        .unk, .unk, .unk, .unk, .unk, .unk, .unk, .unk, .unk, .unk, .unk, .unk, .unk],
    hp :=
      [none, none, none, none, none, none,
        some
          (.cells
            [iv (sLo lo), iv (sHi lo wi), iv (st % (6 : Int)), iv (er % (6 : Int)), .d (DV.ro (kS n + 1) 1 fun i x => DV.x (.int .i64 (fS lo wi (st % (6 : Int)) (fun i => numOf (cell i (0 : Nat))) i))),
              .d (DV.ro (kS n) 1 fun i x => DV.x (.int .i64 (lS lo wi (st % (6 : Int)) (er % (6 : Int)) (fun i => numOf (cell i (0 : Nat))) i)))]),
        some (.cells [iv (sLo lo), iv (sHi lo wi), iv (st % (6 : Int)), iv (er % (6 : Int)), iv (mLe lo be), iv (mMo lo wi ov), bv !inR (sLo lo) (sHi lo wi) (st % (6 : Int)) (mLe lo be) (mMo lo wi ov)]), none, none],
    next := 10, hint := .nil }

theorem I7_eq (lo wi st er be ov : Int) (n : Nat) (cell : Nat → Nat → DV) : in7 (sub p7 (t7 lo wi st er be ov n cell)) = I7 lo wi st er be ov n cell := by kernel_rfl

noncomputable def b7 (dlo dhi dst der : Int) (kn : Nat) (p l : Nat → Int) (lo hi st er le mo : Int) (sp : Bool) (i : Int) : Tree (Ex × AS) := cutT 10 [] [2, 3, 4, 5, 6] [0, 1, 2, 3, 4, 5, 8, 9] 10 .nil (exec Try.prog C7 D7 200 (loopN (bodyOf Try.prog 7) 0) (inv7 (.ok (bv false)) dlo dhi dst der kn p l lo hi st er le mo sp i))
noncomputable def B7 (dlo dhi dst der : Int) (kn : Nat) (p l : Nat → Int) (lo hi st er le mo : Int) (sp : Bool) (i : Int) : Tree (Ex × AS) :=
  .ite (decide (i < (↑kn : Int)) && !sp)
  (.need ((0 : Int) ≤ i ∧ i < (↑kn : Int))
    (.need (okM lo hi st er le mo)
      (.ite (!vB (vLo lo hi st er sp (l (Int.toNat i))) (vHi lo hi st er sp (l (Int.toNat i))) st er le mo (vSp lo hi st er le mo sp (l (Int.toNat i))))
        (.ret
          (.ret,
            {
              tm :=
                [.unk, .unk, .ok (bv false), .ok (bv true), .ok (.ptr 6 0), .ok (.ptr 7 0), .ok (iv i), .unk, .unk, .unk, .unk, .unk, .unk, .unk, .unk, .unk,
                  .unk, .unk, .unk, .unk, .unk, .unk, .unk, .unk, .unk, .unk, .unk, .unk, .unk, .unk, .unk, .unk, .unk, .unk, .unk, .unk, .unk, .unk, .unk, .unk, .unk, .unk, .unk,
                  .unk, .unk, .unk, .unk, .unk, .unk, .unk, .unk, .unk, .unk, .unk, .unk, .unk, .unk, .unk, .unk, .unk, .unk, .unk, .unk, .unk, .unk, .unk, .unk, .unk, .unk, .unk,
                  .unk, .unk, .unk, .unk, .unk, .unk, .unk, .unk, .unk, .unk, .unk, .unk, .unk, .unk, .unk, .unk, .unk, .unk, .unk, .unk, .unk, .unk, .unk, .unk, .unk, .unk, .unk,
                  .unk, .unk, .unk, .unk, .unk, .unk, .unk, .unk, .unk, .unk, .unk, .unk, .unk, .unk, .unk, .unk, .unk, .unk, .unk, .unk, .unk, .unk, .unk, .unk, .unk, .unk, .unk,
                  .unk, .unk, .unk, .unk, .unk, .unk, .unk, .unk, .unk, .unk, .unk, .unk, .unk, .unk, .unk, .unk, .unk, .unk, .unk, .unk, .unk, .unk],
              hp :=
                [none, none, none, none, none, none,
                  some (.cells [iv dlo, iv dhi, iv dst, iv der, .d (DV.ro (kn + 1) 1 fun i x => DV.x (.int .i64 (p i))), .d (DV.ro kn 1 fun i x => DV.x (.int .i64 (l i)))]),
                  some (.cells [iv (vLo lo hi st er sp (l (Int.toNat i))), iv (vHi lo hi st er sp (l (Int.toNat i))), iv st, iv er, iv le, iv mo, bv (vSp lo hi st er le mo sp (l (Int.toNat i)))]), none, none],
              next := 10, hint := .nil }))
        (.need ((!vSp lo hi st er le mo sp (l (Int.toNat i))) = false → (0 : Int) ≤ i ∧ i < (↑kn : Int))
          (.need ((!vSp lo hi st er le mo sp (l (Int.toNat i))) = false → okM lo hi st er le mo)
            (.ite (!vSp lo hi st er le mo sp (l (Int.toNat i)) || !gB lo hi st er (l (Int.toNat i)))
              (.ret
                (.normal,
                  {
                    tm :=
                      [.unk, .unk, .ok (bv false), .ok (bv true), .ok (.ptr 6 0), .ok (.ptr 7 0), .ok (iv (w64 (i + (1 : Int)))), .unk, .unk, .unk, .unk, .unk, .unk,
                        .unk, .unk, .unk, .unk, .unk, .unk, .unk, .unk, .unk, .unk, .unk, .unk, .unk, .unk, .unk, .unk, .unk, .unk, .unk, .unk, .unk, .unk, .unk, .unk, .unk, .unk, .unk,
                        .unk, .unk, .unk, .unk, .unk, .unk, .unk, .unk, .unk, .unk, .unk, .unk, .unk, .unk, .unk, .unk, .unk, .unk, .unk, .unk, .unk, .unk, .unk, .unk, .unk, .unk, .unk,
                        .unk, .unk, .unk, .unk, .unk, .unk, .unk, .unk, .unk, .unk, .unk, .unk, .unk, .unk, .unk, .unk, .unk, .unk, .unk, .unk, .unk, .unk, .unk, .unk, .unk, .unk, .unk,
                        .unk, .unk, .unk, .unk, .unk, .unk, .unk, .unk, .unk, .unk, .unk, .unk, .unk, .unk, .unk, .unk, .unk, .unk, .unk, .unk, .unk, .unk, .unk, .unk, .unk, .unk, .unk,
                        .unk, .unk, .unk, .unk, .unk, .unk, .unk, .unk, .unk, .unk, .unk, .unk, .unk, .unk, .unk, .unk, .unk, .unk, .unk, .unk, .unk, .unk, .unk, .unk, .unk],
                    hp :=
                      [none, none, none, none, none, none,
                        some (.cells [iv dlo, iv dhi, iv dst, iv der, .d (DV.ro (kn + 1) 1 fun i x => DV.x (.int .i64 (p i))), .d (DV.ro kn 1 fun i x => DV.x (.int .i64 (l i)))]),
                        some (.cells [iv (vLo lo hi st er sp (l (Int.toNat i))), iv (vHi lo hi st er sp (l (Int.toNat i))), iv st, iv er, iv le, iv mo, bv (vSp lo hi st er le mo sp (l (Int.toNat i)))]), none, none],
                    next := 10, hint := .nil }))
              (.ite (decide (w64 (vHi lo hi st er sp (l (Int.toNat i)) - vLo lo hi st er sp (l (Int.toNat i))) > (50 : Int)))
                (.ret
                  (.ret,
                    {
                      tm :=
                        [.unk, .unk, .ok (bv false), .ok (bv true), .ok (.ptr 6 0), .ok (.ptr 7 0), .ok (iv i), .unk, .unk, .unk, .unk, .unk, .unk, .unk, .unk,
                          .unk, .unk, .unk, .unk, .unk, .unk, .unk, .unk, .unk, .unk, .unk, .unk, .unk, .unk, .unk, .unk, .unk, .unk, .unk, .unk, .unk, .unk, .unk, .unk, .unk, .unk,
                          .unk, .unk, .unk, .unk, .unk, .unk, .unk, .unk, .unk, .unk, .unk, .unk, .unk, .unk, .unk, .unk, .unk, .unk, .unk, .unk, .unk, .unk, .unk, .unk, .unk, .unk,
                          .unk, .unk, .unk, .unk, .unk, .unk, .unk, .unk, .unk, .unk, .unk, .unk, .unk, .unk, .unk, .unk, .unk, .unk, .unk, .unk, .unk, .unk, .unk, .unk, .unk, .unk,
                          .unk, .unk, .unk, .unk, .unk, .unk, .unk, .unk, .unk, .unk, .unk, .unk, .unk, .unk, .unk, .unk, .unk, .unk, .unk, .unk, .unk, .unk, .unk, .unk, .unk, .unk,
                          .unk, .unk, .unk, .unk, .unk, .unk, .unk, .unk, .unk, .unk, .unk, .unk, .unk, .unk, .unk, .unk, .unk, .unk, .unk, .unk, .unk, .unk, .unk, .unk, .unk, .unk,
                          .unk],
                      hp :=
                        [none, none, none, none, none, none,
                          some (.cells [iv dlo, iv dhi, iv dst, iv der, .d (DV.ro (kn + 1) 1 fun i x => DV.x (.int .i64 (p i))), .d (DV.ro kn 1 fun i x => DV.x (.int .i64 (l i)))]),
                          some (.cells [iv (vLo lo hi st er sp (l (Int.toNat i))), iv (vHi lo hi st er sp (l (Int.toNat i))), iv st, iv er, iv le, iv mo, bv (vSp lo hi st er le mo sp (l (Int.toNat i)))]), none, none],
                      next := 10, hint := .nil }))
                (.code (codeC (sub [(0 : Nat), (0 : Nat), (0 : Nat), (1 : Nat), (0 : Nat), (0 : Nat), (1 : Nat), (1 : Nat)] (b7 dlo dhi dst der kn p l lo hi st er le mo sp i)))
                  (codeS (sub [(0 : Nat), (0 : Nat), (0 : Nat), (1 : Nat), (0 : Nat), (0 : Nat), (1 : Nat), (1 : Nat)] (b7 dlo dhi dst der kn p l lo hi st er le mo sp i)))
                  (codeK (sub [(0 : Nat), (0 : Nat), (0 : Nat), (1 : Nat), (0 : Nat), (0 : Nat), (1 : Nat), (1 : Nat)] (b7 dlo dhi dst der kn p l lo hi st er le mo sp i)))))))))))
  (.ret
    (.exit 0,
      {
        tm :=
          [.unk, .unk, .ok (bv false), .ok (bv true), .ok (.ptr 6 0), .ok (.ptr 7 0), .ok (iv i), .unk, .unk, .unk, .unk, .unk, .unk, .unk, .unk, .unk, .unk,
            .unk, .unk, .unk, .unk, .unk, .unk, .unk, .unk, .unk, .unk, .unk, .unk, .unk, .unk, .unk, .unk, .unk, .unk, .unk, .unk, .unk, .unk, .unk, .unk, .unk, .unk, .unk, .unk,
            .unk, .unk, .unk, .unk, .unk, .unk, .unk, .unk, .unk, .unk, .unk, .unk, .unk, .unk, .unk, .unk, .unk, .unk, .unk, .unk, .unk, .unk, .unk, .unk, .unk, .unk, .unk, .unk,
            .unk, .unk, .unk, .unk, .unk, .unk, .unk, .unk, .unk, .unk, .unk, .unk, .unk, .unk, .unk, .unk, .unk, .unk, .unk, .unk, .unk, .unk, .unk, .unk, .unk, .unk, .unk, .unk,
            .unk, .unk, .unk, .unk, .unk, .unk, .unk, .unk, .unk, .unk, .unk, .unk, .unk, .unk, .unk, .unk, .unk, .unk, .unk, .unk, .unk, .unk, .unk, .unk, .unk, .unk, .unk, .unk,
            .unk, .unk, .unk, .unk, .unk, .unk, .unk, .unk, .unk, .unk, .unk, .unk, .unk, .unk, .unk, .unk, .unk],
        hp :=
          [none, none, none, none, none, none,
            some (.cells [iv dlo, iv dhi, iv dst, iv der, .d (DV.ro (kn + 1) 1 fun i x => DV.x (.int .i64 (p i))), .d (DV.ro kn 1 fun i x => DV.x (.int .i64 (l i)))]),
            some (.cells [iv lo, iv hi, iv st, iv er, iv le, iv mo, bv sp]), none, none],
        next := 10, hint := .nil }))

theorem B7_eq (dlo dhi dst der : Int) (kn : Nat) (p l : Nat → Int) (lo hi st er le mo : Int) (sp : Bool) (i : Int) : b7 dlo dhi dst der kn p l lo hi st er le mo sp i = B7 dlo dhi dst der kn p l lo hi st er le mo sp i := by kernel_rfl


def drp8 : List Nat := List.range 6 ++ (List.range 48).drop 8
noncomputable def q7 : List Nat := [0, 0, 0, 1, 0, 0, 1, 1]
noncomputable def in8 (t : Tree (Ex × AS)) : Option AS := entA 48 [] [2, 3, 4, 5, 6, 8, 9] drp8 48 .nil t
noncomputable def I8 (dlo dhi dst der : Int) (kn : Nat) (p l : Nat → Int) (lo hi st er le mo : Int) (sp : Bool) (i : Int) : Option AS :=
  some
  {
    tm :=
      [.unk, .unk, .ok (bv false), .ok (bv true), .ok (.ptr 6 0), .ok (.ptr 7 0), .ok (iv i), .unk, .ok (bv false), .ok (iv (vLo lo hi st er sp (l (Int.toNat i)))), .unk,
        .unk, .unk, .unk, .unk, .unk, .unk, .unk, .unk, .unk, .unk, .unk, .unk, .unk, .unk, .unk, .unk, .unk, .unk, .unk, .unk, .unk, .unk, .unk, .unk, .unk, .unk, .unk, .unk, .unk,
        .unk, .unk, .unk, .unk, .unk, .unk, .unk, .unk, .unk, .unk, .unk, .unk, .unk, .unk, .unk, .unk, .unk, .unk, .unk, .unk, .unk, .unk, .unk, .unk, .unk, .unk, .unk, .unk, .unk,
        .unk, .unk, .unk, .unk, .unk, .unk, .unk, .unk, .unk, .unk, .unk, .unk, .unk, .unk, .unk, .unk, .unk, .unk, .unk, .unk, .unk, .unk, .unk, .unk, .unk, .unk, .unk, .unk, .unk,
        .unk, .unk, .unk, .unk, .unk, .unk, .unk, .unk, .unk, .unk, .unk, .unk, .unk, .unk, .unk, .unk, .unk, .unk, .unk, .unk, .unk, .unk, .unk, .unk, .unk, .unk, .unk, .unk, .unk,
        .unk, .unk, .unk, .unk, .unk, .unk, .unk, .unk, .unk, .unk, .unk, .unk, .unk, .unk, .unk, .unk, .unk, .unk, .unk],
    hp :=
      [none, none, none, none, none, none,
        some (.cells [iv dlo, iv dhi, iv dst, iv der, .d (DV.ro (kn + 1) 1 fun i x => DV.x (.int .i64 (p i))), .d (DV.ro kn 1 fun i x => DV.x (.int .i64 (l i)))]),
        some (.cells [iv (vLo lo hi st er sp (l (Int.toNat i))), iv (vHi lo hi st er sp (l (Int.toNat i))), iv st, iv er, iv le, iv mo, bv (vSp lo hi st er le mo sp (l (Int.toNat i)))]), none, none, none, none, none, none, none, none,
        none, none, none, none, none, none, none, none, none, none, none, none, none, none, none, none, none, none, none, none, none, none, none, none, none, none, none, none, none, none, none, none],
    next := 48, hint := .nil }

theorem I8_eq (dlo dhi dst der : Int) (kn : Nat) (p l : Nat → Int) (lo hi st er le mo : Int) (sp : Bool) (i : Int) : in8 (sub q7 (b7 dlo dhi dst der kn p l lo hi st er le mo sp i)) = I8 dlo dhi dst der kn p l lo hi st er le mo sp i := by kernel_rfl

noncomputable def inv8 (dlo dhi dst der : Int) (kn : Nat) (p l : Nat → Int) (lo hi st er le mo : Int) (sp : Bool) (i : Int) (found : Bool) (last : Int) : AS :=
  ⟨[.unk, .unk, .ok (bv false), .ok (bv true), .ok (.ptr 6 0), .ok (.ptr 7 0), .ok (iv i), .unk, .ok (bv found), .ok (iv last)] ++ List.replicate 136 .unk,
   List.replicate 6 none ++ [some (.cells [iv dlo, iv dhi, iv dst, iv der, ro64 (kn + 1) p, ro64 kn l]), some (.cells [iv lo, iv hi, iv st, iv er, iv le, iv mo, bv sp])] ++ List.replicate 40 none, 48, .nil⟩
noncomputable def B8 (dlo dhi dst der : Int) (kn : Nat) (p l : Nat → Int) (lo hi st er le mo : Int) (sp : Bool) (i : Int) (found : Bool) (last : Int) : Tree (Ex × AS) :=
  .ite (decide (last ≤ hi))
  (.need (((0 : Int) ≤ w64 (i + (1 : Int)) ∧ Int.toNat (w64 (i + (1 : Int))) ≤ kn) ∧ True)
    (.need
      ((dV dlo dhi dst der ∧
          Int.toNat (w64 (i + (1 : Int))) - 0 ≤ 1000 ∧
            ∀ (i_1 : Nat), i_1 < Int.toNat (w64 (i + (1 : Int))) - (0 : Nat) → ∃ b, (fun i j => (fun i x => DV.x (.int .i64 (l i))) ((0 : Nat) + i) j) i_1 (0 : Nat) = DV.x (.int .i64 b)) ∧
        dB dlo dhi dst der (fun i => intOf1 (DV.x (.int .i64 (l ((0 : Nat) + i))))) (Int.toNat (w64 (i + (1 : Int))) - 0) = true ∧
          dL dlo dst der (fun i => intOf1 (DV.x (.int .i64 (l ((0 : Nat) + i))))) (Int.toNat (w64 (i + (1 : Int))) - 0) ≤ last ∧
            last ≤ dH dhi dst der (fun i => intOf1 (DV.x (.int .i64 (l ((0 : Nat) + i))))) (Int.toNat (w64 (i + (1 : Int))) - 0))
      (.need ((false || (↑(Int.toNat (w64 (i + (1 : Int))) - 0 + 1) : Int) != w64 (i + (2 : Int))) = false → ((0 : Int) ≤ w64 (i + (1 : Int)) ∧ Int.toNat (w64 (i + (1 : Int))) ≤ kn) ∧ True)
        (.need
          ((false || (↑(Int.toNat (w64 (i + (1 : Int))) - 0 + 1) : Int) != w64 (i + (2 : Int))) = false →
            dV dlo dhi dst der ∧
              Int.toNat (w64 (i + (1 : Int))) - 0 ≤ 1000 ∧
                Int.toNat (w64 (i + (1 : Int))) - 0 + 1 ≤ 9223372036854775807 ∧
                  (∀ (i_1 : Nat), i_1 < Int.toNat (w64 (i + (1 : Int))) - (0 : Nat) → ∃ b, (fun i j => (fun i x => DV.x (.int .i64 (l i))) ((0 : Nat) + i) j) i_1 (0 : Nat) = DV.x (.int .i64 b)) ∧
                    ∀ (i_1 : Nat),
                      i_1 < Int.toNat (w64 (i + (1 : Int))) - (0 : Nat) + (1 : Nat) →
                        ∃ b,
                          (fun i_2 x => xi (pth dlo dhi dst der (Int.toNat (w64 (i + (1 : Int))) - (0 : Nat)) (intCell fun i j => (fun i x => DV.x (.int .i64 (l i))) ((0 : Nat) + i) j) last i_2)) i_1 (0 : Nat) =
                              DV.x (.int .i64 b) ∧
                            (-4000000000000000000 : Int) ≤ b ∧ b ≤ (4000000000000000000 : Int))
          (.ite
            (false || (↑(Int.toNat (w64 (i + (1 : Int))) - 0 + 1) : Int) != w64 (i + (2 : Int)) ||
              !posB dlo dhi dst der (Int.toNat (w64 (i + (1 : Int))) - 0) (fun i => intOf1 (DV.x (.int .i64 (l ((0 : Nat) + i))))) (Int.toNat (w64 (i + (1 : Int))) - 0 + 1) fun i_1 =>
                  intOf1 (DV.x (.int .i64 (pth dlo dhi dst der (Int.toNat (w64 (i + (1 : Int))) - 0) (fun i => intOf1 (DV.x (.int .i64 (l ((0 : Nat) + i))))) last i_1))))
            (.ret
              (.ret,
                {
                  tm :=
                    [.unk, .unk, .ok (bv false), .ok (bv true), .ok (.ptr 6 0), .ok (.ptr 7 0), .ok (iv i), .unk, .ok (bv found), .ok (iv last), .unk, .unk, .unk, .unk,
                      .unk, .unk, .unk, .unk, .unk, .unk, .unk, .unk, .unk, .unk, .unk, .unk, .unk, .unk, .unk, .unk, .unk, .unk, .unk, .unk, .unk, .unk, .unk, .unk, .unk, .unk, .unk,
                      .unk, .unk, .unk, .unk, .unk, .unk, .unk, .unk, .unk, .unk, .unk, .unk, .unk, .unk, .unk, .unk, .unk, .unk, .unk, .unk, .unk, .unk, .unk, .unk, .unk, .unk, .unk,
                      .unk, .unk, .unk, .unk, .unk, .unk, .unk, .unk, .unk, .unk, .unk, .unk, .unk, .unk, .unk, .unk, .unk, .unk, .unk, .unk, .unk, .unk, .unk, .unk, .unk, .unk, .unk,
                      .unk, .unk, .unk, .unk, .unk, .unk, .unk, .unk, .unk, .unk, .unk, .unk, .unk, .unk, .unk, .unk, .unk, .unk, .unk, .unk, .unk, .unk, .unk, .unk, .unk, .unk, .unk,
                      .unk, .unk, .unk, .unk, .unk, .unk, .unk, .unk, .unk, .unk, .unk, .unk, .unk, .unk, .unk, .unk, .unk, .unk, .unk, .unk, .unk, .unk, .unk, .unk],
                  hp :=
                    [none, none, none, none, none, none,
                      some (.cells [iv dlo, iv dhi, iv dst, iv der, .d (DV.ro (kn + 1) 1 fun i x => DV.x (.int .i64 (p i))), .d (DV.ro kn 1 fun i x => DV.x (.int .i64 (l i)))]),
                      some (.cells [iv lo, iv hi, iv st, iv er, iv le, iv mo, bv sp]), none, none, none, none, none, none, none, none, none, none, none, none, none, none, none, none, none, none, none, none, none, none, none, none, none,
                      none, none, none, none, none, none, none, none, none, none, none, none, none, none, none],
                  next := 48, hint := .nil }))
            (.ret
              (.normal,
                {
                  tm :=
                    [.unk, .unk, .ok (bv false), .ok (bv true), .ok (.ptr 6 0), .ok (.ptr 7 0), .ok (iv i), .unk,
                      .ok (bv (found || decide (w64 (last + st) > mo) || decide ((if w64 (last - st) > (1 : Int) then w64 (last - st) else (1 : Int)) < le))), .ok (iv (w64 (last + (1 : Int)))), .unk, .unk, .unk, .unk, .unk,
                      .unk, .unk, .unk, .unk, .unk, .unk, .unk, .unk, .unk, .unk, .unk, .unk, .unk, .unk, .unk, .unk, .unk, .unk, .unk, .unk, .unk, .unk, .unk, .unk, .unk, .unk, .unk,
                      .unk, .unk, .unk, .unk, .unk, .unk, .unk, .unk, .unk, .unk, .unk, .unk, .unk, .unk, .unk, .unk, .unk, .unk, .unk, .unk, .unk, .unk, .unk, .unk, .unk, .unk, .unk,
                      .unk, .unk, .unk, .unk, .unk, .unk, .unk, .unk, .unk, .unk, .unk, .unk, .unk, .unk, .unk, .unk, .unk, .unk, .unk, .unk, .unk, .unk, .unk, .unk, .unk, .unk, .unk,
                      .unk, .unk, .unk, .unk, .unk, .unk, .unk, .unk, .unk, .unk, .unk, .unk, .unk, .unk, .unk, .unk, .unk, .unk, .unk, .unk, .unk, .unk, .unk, .unk, .unk, .unk, .unk,
                      .unk, .unk, .unk, .unk, .unk, .unk, .unk, .unk, .unk, .unk, .unk, .unk, .unk, .unk, .unk, .unk, .unk, .unk, .unk, .unk, .unk, .unk, .unk],
                  hp :=
                    [none, none, none, none, none, none,
                      some (.cells [iv dlo, iv dhi, iv dst, iv der, .d (DV.ro (kn + 1) 1 fun i x => DV.x (.int .i64 (p i))), .d (DV.ro kn 1 fun i x => DV.x (.int .i64 (l i)))]),
                      some (.cells [iv lo, iv hi, iv st, iv er, iv le, iv mo, bv sp]), none, none, none, none, none, none, none, none, none, none, none, none, none, none, none, none, none, none, none, none, none, none, none, none, none,
                      none, none, none, none, none, none, none, none, none, none, none, none, none, none, none],
                  next := 48, hint := .nil })))))))
  (.ret
    (.exit 2,
      {
        tm :=
          [.unk, .unk, .ok (bv false), .ok (bv true), .ok (.ptr 6 0), .ok (.ptr 7 0), .ok (iv i), .unk, .ok (bv found), .ok (iv last), .unk, .unk, .unk, .unk, .unk,
            .unk, .unk, .unk, .unk, .unk, .unk, .unk, .unk, .unk, .unk, .unk, .unk, .unk, .unk, .unk, .unk, .unk, .unk, .unk, .unk, .unk, .unk, .unk, .unk, .unk, .unk, .unk, .unk,
            .unk, .unk, .unk, .unk, .unk, .unk, .unk, .unk, .unk, .unk, .unk, .unk, .unk, .unk, .unk, .unk, .unk, .unk, .unk, .unk, .unk, .unk, .unk, .unk, .unk, .unk, .unk, .unk,
            .unk, .unk, .unk, .unk, .unk, .unk, .unk, .unk, .unk, .unk, .unk, .unk, .unk, .unk, .unk, .unk, .unk, .unk, .unk, .unk, .unk, .unk, .unk, .unk, .unk, .unk, .unk, .unk,
            .unk, .unk, .unk, .unk, .unk, .unk, .unk, .unk, .unk, .unk, .unk, .unk, .unk, .unk, .unk, .unk, .unk, .unk, .unk, .unk, .unk, .unk, .unk, .unk, .unk, .unk, .unk, .unk,
            .unk, .unk, .unk, .unk, .unk, .unk, .unk, .unk, .unk, .unk, .unk, .unk, .unk, .unk, .unk, .unk, .unk, .unk, .unk],
        hp :=
          [none, none, none, none, none, none,
            some (.cells [iv dlo, iv dhi, iv dst, iv der, .d (DV.ro (kn + 1) 1 fun i x => DV.x (.int .i64 (p i))), .d (DV.ro kn 1 fun i x => DV.x (.int .i64 (l i)))]),
            some (.cells [iv lo, iv hi, iv st, iv er, iv le, iv mo, bv sp]), none, none, none, none, none, none, none, none, none, none, none, none, none, none, none, none, none, none, none, none, none, none, none, none, none, none,
            none, none, none, none, none, none, none, none, none, none, none, none, none, none],
        next := 48, hint := .nil }))

theorem B8_eq (dlo dhi dst der : Int) (kn : Nat) (p l : Nat → Int) (lo hi st er le mo : Int) (sp : Bool) (i : Int) (found : Bool) (last : Int) : cutT 48 [] [2, 3, 4, 5, 6, 8, 9] drp8 48 .nil (exec Try.prog C7 D7 200 (loopN (bodyOf Try.prog 7) 1) (inv8 dlo dhi dst der kn p l lo hi st er le mo sp i found last)) = B8 dlo dhi dst der kn p l lo hi st er le mo sp i found last := by kernel_rfl


noncomputable def K8 (dlo dhi dst der : Int) (kn : Nat) (p l : Nat → Int) (lo hi st er le mo : Int) (sp : Bool) (i : Int) (lo2 hi2 : Int) (sp2 found : Bool) (last : Int) : Tree (Ex × AS) :=
  .ite (!found)
  (.ret
    (.ret,
      {
        tm :=
          [.unk, .unk, .ok (bv false), .ok (bv true), .ok (.ptr 6 0), .ok (.ptr 7 0), .ok (iv i), .unk, .unk, .unk, .unk, .unk, .unk, .unk, .unk, .unk, .unk,
            .unk, .unk, .unk, .unk, .unk, .unk, .unk, .unk, .unk, .unk, .unk, .unk, .unk, .unk, .unk, .unk, .unk, .unk, .unk, .unk, .unk, .unk, .unk, .unk, .unk, .unk, .unk, .unk,
            .unk, .unk, .unk, .unk, .unk, .unk, .unk, .unk, .unk, .unk, .unk, .unk, .unk, .unk, .unk, .unk, .unk, .unk, .unk, .unk, .unk, .unk, .unk, .unk, .unk, .unk, .unk, .unk,
            .unk, .unk, .unk, .unk, .unk, .unk, .unk, .unk, .unk, .unk, .unk, .unk, .unk, .unk, .unk, .unk, .unk, .unk, .unk, .unk, .unk, .unk, .unk, .unk, .unk, .unk, .unk, .unk,
            .unk, .unk, .unk, .unk, .unk, .unk, .unk, .unk, .unk, .unk, .unk, .unk, .unk, .unk, .unk, .unk, .unk, .unk, .unk, .unk, .unk, .unk, .unk, .unk, .unk, .unk, .unk, .unk,
            .unk, .unk, .unk, .unk, .unk, .unk, .unk, .unk, .unk, .unk, .unk, .unk, .unk, .unk, .unk, .unk, .unk],
        hp :=
          [none, none, none, none, none, none,
            some (.cells [iv dlo, iv dhi, iv dst, iv der, .d (DV.ro (kn + 1) 1 fun i x => DV.x (.int .i64 (p i))), .d (DV.ro kn 1 fun i x => DV.x (.int .i64 (l i)))]),
            some (.cells [iv lo2, iv hi2, iv st, iv er, iv le, iv mo, bv sp2]), none, none],
        next := 10, hint := .nil }))
  (.ret
    (.normal,
      {
        tm :=
          [.unk, .unk, .ok (bv false), .ok (bv true), .ok (.ptr 6 0), .ok (.ptr 7 0), .ok (iv (w64 (i + (1 : Int)))), .unk, .unk, .unk, .unk, .unk, .unk, .unk, .unk,
            .unk, .unk, .unk, .unk, .unk, .unk, .unk, .unk, .unk, .unk, .unk, .unk, .unk, .unk, .unk, .unk, .unk, .unk, .unk, .unk, .unk, .unk, .unk, .unk, .unk, .unk, .unk, .unk,
            .unk, .unk, .unk, .unk, .unk, .unk, .unk, .unk, .unk, .unk, .unk, .unk, .unk, .unk, .unk, .unk, .unk, .unk, .unk, .unk, .unk, .unk, .unk, .unk, .unk, .unk, .unk, .unk,
            .unk, .unk, .unk, .unk, .unk, .unk, .unk, .unk, .unk, .unk, .unk, .unk, .unk, .unk, .unk, .unk, .unk, .unk, .unk, .unk, .unk, .unk, .unk, .unk, .unk, .unk, .unk, .unk,
            .unk, .unk, .unk, .unk, .unk, .unk, .unk, .unk, .unk, .unk, .unk, .unk, .unk, .unk, .unk, .unk, .unk, .unk, .unk, .unk, .unk, .unk, .unk, .unk, .unk, .unk, .unk, .unk,
            .unk, .unk, .unk, .unk, .unk, .unk, .unk, .unk, .unk, .unk, .unk, .unk, .unk, .unk, .unk, .unk, .unk, .unk, .unk],
        hp :=
          [none, none, none, none, none, none,
            some (.cells [iv dlo, iv dhi, iv dst, iv der, .d (DV.ro (kn + 1) 1 fun i x => DV.x (.int .i64 (p i))), .d (DV.ro kn 1 fun i x => DV.x (.int .i64 (l i)))]),
            some (.cells [iv lo2, iv hi2, iv st, iv er, iv le, iv mo, bv sp2]), none, none],
        next := 10, hint := .nil }))

theorem K8_eq (dlo dhi dst der : Int) (kn : Nat) (p l : Nat → Int) (lo hi st er le mo : Int) (sp : Bool) (i : Int) (lo2 hi2 : Int) (sp2 found : Bool) (last : Int) : codeK (sub q7 (b7 dlo dhi dst der kn p l lo hi st er le mo sp i)) (.exit 2) (inv8 dlo dhi dst der kn p l lo2 hi2 st er le mo sp2 i found last) = K8 dlo dhi dst der kn p l lo hi st er le mo sp i lo2 hi2 sp2 found last := by kernel_rfl

noncomputable def K7 (qlo qwi qst qer qbe qov : Int) (n : Nat) (cell : Nat → Nat → DV) (dlo dhi dst der : Int) (kn : Nat) (p l : Nat → Int) (lo hi st er le mo : Int) (sp : Bool) (i : Int) : Tree SV :=
  .ret (bv true)

theorem K7_eq (qlo qwi qst qer qbe qov : Int) (n : Nat) (cell : Nat → Nat → DV) (dlo dhi dst der : Int) (kn : Nat) (p l : Nat → Int) (lo hi st er le mo : Int) (sp : Bool) (i : Int) : codeK (sub p7 (t7 qlo qwi qst qer qbe qov n cell)) (.exit 0) (inv7 (.ok (bv false)) dlo dhi dst der kn p l lo hi st er le mo sp i) = K7 qlo qwi qst qer qbe qov n cell dlo dhi dst der kn p l lo hi st er le mo sp i := by kernel_rfl

noncomputable def body7 : Code := loopN (bodyOf Try.prog 7) 0
noncomputable def body8 : Code := loopN (bodyOf Try.prog 7) 1
theorem C7e (lo wi st er be ov : Int) (n : Nat) (cell : Nat → Nat → DV) : codeC (sub p7 (t7 lo wi st er be ov n cell)) = .loop body7 := by kernel_rfl
theorem N7e (lo wi st er be ov : Int) (n : Nat) (cell : Nat → Nat → DV) : Nat.ble (codeS (sub p7 (t7 lo wi st er be ov n cell))).next 10 = true := by kernel_rfl
theorem C8e (dlo dhi dst der : Int) (kn : Nat) (p l : Nat → Int) (lo hi st er le mo : Int) (sp : Bool) (i : Int) : codeC (sub q7 (b7 dlo dhi dst der kn p l lo hi st er le mo sp i)) = .loop body8 := by kernel_rfl
theorem N8e (dlo dhi dst der : Int) (kn : Nat) (p l : Nat → Int) (lo hi st er le mo : Int) (sp : Bool) (i : Int) : Nat.ble (codeS (sub q7 (b7 dlo dhi dst der kn p l lo hi st er le mo sp i))).next 48 = true := by kernel_rfl

end Go.Proofs.Ytcbjclmjkilphaa
