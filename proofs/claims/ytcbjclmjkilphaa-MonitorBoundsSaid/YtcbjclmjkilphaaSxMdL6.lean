/- Part of a proof of the given statements of this seat (SxMdL6): no conditions beyond those typed here. -/
import Derived.Test.YtcbjclmjkilphaaSxMdW
set_option linter.unusedVariables false
set_option linter.unusedSimpArgs false
namespace Go.Proofs.Ytcbjclmjkilphaa
open Go.Sx
set_option maxRecDepth 100000

noncomputable def t6 (lo wi st er be ov : Int) (n : Nat) (cell : Nat → Nat → DV) (m : Nat) (L : Nat → Int) : Tree SV := T5 6 [.agg [u8 lo, u8 wi, u8 st, u8 er, .d (.ro n 1 cell), u8 be, u8 ov], ro64 m L] .nil

noncomputable def L6 (lo wi st er be ov : Int) (n : Nat) (cell : Nat → Nat → DV) (m : Nat) (L : Nat → Int) : Tree SV :=
  .ite false (.ret (bv false))
  (.ite (decide ((↑m : Int) > (40 : Int))) (.ret (bv true))
    (.need
      (((0 : Int) ≤ lo ∧ lo < (256 : Int)) ∧
        ((0 : Int) ≤ wi ∧ wi < (256 : Int)) ∧
          ((0 : Int) ≤ st ∧ st < (256 : Int)) ∧
            ((0 : Int) ≤ er ∧ er < (256 : Int)) ∧
              n ≤ 9223372036854775807 ∧ (∀ (i : Nat), i < n → ∃ b, cell i (0 : Nat) = DV.x (.int .u8 b) ∧ (0 : Int) ≤ b ∧ b < (256 : Int)) ∧ ((0 : Int) ≤ be ∧ be < (256 : Int)) ∧ (0 : Int) ≤ ov ∧ ov < (256 : Int))
      (.need
        (((0 : Int) ≤ lo ∧ lo < (256 : Int)) ∧
          ((0 : Int) ≤ wi ∧ wi < (256 : Int)) ∧
            ((0 : Int) ≤ st ∧ st < (256 : Int)) ∧ ((0 : Int) ≤ er ∧ er < (256 : Int)) ∧ n ≤ 9223372036854775807 ∧ ∀ (i : Nat), i < n → ∃ b, cell i (0 : Nat) = DV.x (.int .u8 b) ∧ (0 : Int) ≤ b ∧ b < (256 : Int))
        (.code (codeC (sub [(1 : Nat), (1 : Nat), (0 : Nat), (0 : Nat)] (t6 lo wi st er be ov n cell m L))) (codeS (sub [(1 : Nat), (1 : Nat), (0 : Nat), (0 : Nat)] (t6 lo wi st er be ov n cell m L)))
          (codeK (sub [(1 : Nat), (1 : Nat), (0 : Nat), (0 : Nat)] (t6 lo wi st er be ov n cell m L)))))))

theorem L6_eq (lo wi st er be ov : Int) (n : Nat) (cell : Nat → Nat → DV) (m : Nat) (L : Nat → Int) : t6 lo wi st er be ov n cell m L = L6 lo wi st er be ov n cell m L := by kernel_rfl

noncomputable def p6 : List Nat := [1, 1, 0, 0]
noncomputable def in6 (t : Tree SV) : Option AS := entA 5 [] [1, 4, 5, 6, 7, 8] [0, 2, 4] 5 .nil t
noncomputable def inv6 (rs : TV) (n : Nat) (L : Nat → Int) (dlo dhi dst der : Int) (lo hi st er le mo : Int) (sp : Bool) (i : Int) : AS :=
  ⟨[.unk, .ok (ro64 n L), .unk, .unk, rs, .ok (bv true), .ok (.ptr 1 0), .ok (.ptr 3 0), .ok (iv i)] ++ List.replicate 88 .unk,
   [none, some (.cells [iv lo, iv hi, iv st, iv er, iv le, iv mo, bv sp]), none, some (.cells [iv dlo, iv dhi, iv dst, iv der]), none], 5, .nil⟩
noncomputable def I6 (lo wi st er be ov : Int) (n : Nat) (cell : Nat → Nat → DV) (m : Nat) (L : Nat → Int) : Option AS :=
  some
  {
    tm :=
      [.unk, .ok (.d (DV.ro m 1 fun i x => DV.x (.int .i64 (L i)))), .unk, .unk, .ok (bv false), .ok (bv true), .ok (.ptr 1 0), .ok (.ptr 3 0),
        .ok (iv (0 : Int)), .unk, .unk, .unk, .unk, .unk, .unk, .unk, .unk, .unk, .unk, .unk, .unk, .unk, .unk, .unk, .unk, .unk, .unk, .unk, .unk, .unk, .unk, .unk, .unk, .unk, .unk,
        .unk, .unk, .unk, .unk, .unk, .unk, .unk, .unk, .unk, .unk, .unk, .unk, .unk, .unk, .unk, .unk, .unk, .unk, .unk, .unk, .unk, .unk, .unk, .unk, .unk, .unk, .unk, .unk, .unk,
        .unk, .unk, .unk, .unk, .unk, .unk, .unk, .unk, .unk, .unk, .unk, .unk, .unk, .unk, .unk, .unk, .unk, .unk, .unk, .unk, .unk, .unk, .unk, .unk, .unk, .unk, .unk, .unk, .unk,
        .unk, .unk, .unk, .unk],
    hp :=
      [none, some (.cells [iv (sLo lo), iv (sHi lo wi), iv (st % (6 : Int)), iv (er % (6 : Int)), iv (mLe lo be), iv (mMo lo wi ov), bv !inR (sLo lo) (sHi lo wi) (st % (6 : Int)) (mLe lo be) (mMo lo wi ov)]), none,
        some (.cells [iv (sLo lo), iv (sHi lo wi), iv (st % (6 : Int)), iv (er % (6 : Int))]), none],
    next := 5, hint := .nil }

theorem I6_eq (lo wi st er be ov : Int) (n : Nat) (cell : Nat → Nat → DV) (m : Nat) (L : Nat → Int) : in6 (sub p6 (t6 lo wi st er be ov n cell m L)) = I6 lo wi st er be ov n cell m L := by kernel_rfl

noncomputable def B6 (n : Nat) (L : Nat → Int) (dlo dhi dst der : Int) (lo hi st er le mo : Int) (sp : Bool) (i : Int) : Tree (Ex × AS) :=
  .ite (decide (i < (↑n : Int)) && !sp)
  (.need ((0 : Int) ≤ i ∧ i < (↑n : Int))
    (.need (okM lo hi st er le mo)
      (.need (((0 : Int) ≤ w64 (i + (1 : Int)) ∧ Int.toNat (w64 (i + (1 : Int))) ≤ n) ∧ True)
        (.need
          (dV dlo dhi dst der ∧
            Int.toNat (w64 (i + (1 : Int))) - 0 ≤ 1000 ∧
              ∀ (i_1 : Nat), i_1 < Int.toNat (w64 (i + (1 : Int))) - (0 : Nat) → ∃ b, (fun i j => (fun i x => DV.x (.int .i64 (L i))) ((0 : Nat) + i) j) i_1 (0 : Nat) = DV.x (.int .i64 b))
          (.need ((0 : Int) ≤ i ∧ i < (↑n : Int))
            (.need (okM lo hi st er le mo)
              (.ite (!(dE dlo dhi dst der (fun i => intOf1 (DV.x (.int .i64 (L ((0 : Nat) + i))))) (Int.toNat (w64 (i + (1 : Int))) - 0) == (0 : Int)) == gB lo hi st er (L (Int.toNat i)))
                (.ret
                  (.ret,
                    {
                      tm :=
                        [.unk, .ok (.d (DV.ro n 1 fun i x => DV.x (.int .i64 (L i)))), .unk, .unk, .ok (bv false), .ok (bv true), .ok (.ptr 1 0),
                          .ok (.ptr 3 0), .ok (iv i), .unk, .unk, .unk, .unk, .unk, .unk, .unk, .unk, .unk, .unk, .unk, .unk, .unk, .unk, .unk, .unk, .unk, .unk, .unk, .unk,
                          .unk, .unk, .unk, .unk, .unk, .unk, .unk, .unk, .unk, .unk, .unk, .unk, .unk, .unk, .unk, .unk, .unk, .unk, .unk, .unk, .unk, .unk, .unk, .unk, .unk, .unk,
                          .unk, .unk, .unk, .unk, .unk, .unk, .unk, .unk, .unk, .unk, .unk, .unk, .unk, .unk, .unk, .unk, .unk, .unk, .unk, .unk, .unk, .unk, .unk, .unk, .unk, .unk,
                          .unk, .unk, .unk, .unk, .unk, .unk, .unk, .unk, .unk, .unk, .unk, .unk, .unk, .unk, .unk, .unk],
                      hp :=
                        [none, some (.cells [iv (vLo lo hi st er sp (L (Int.toNat i))), iv (vHi lo hi st er sp (L (Int.toNat i))), iv st, iv er, iv le, iv mo, bv (vSp lo hi st er le mo sp (L (Int.toNat i)))]), none,
                          some (.cells [iv dlo, iv dhi, iv dst, iv der]), none],
                      next := 5, hint := .nil }))
                (.ite (dE dlo dhi dst der (fun i => intOf1 (DV.x (.int .i64 (L ((0 : Nat) + i))))) (Int.toNat (w64 (i + (1 : Int))) - 0) != (0 : Int))
                  (.ret
                    (.ret,
                      {
                        tm :=
                          [.unk, .ok (.d (DV.ro n 1 fun i x => DV.x (.int .i64 (L i)))), .unk, .unk,
                            .ok
                              (bv (dE dlo dhi dst der (fun i => intOf1 (DV.x (.int .i64 (L ((0 : Nat) + i))))) (Int.toNat (w64 (i + (1 : Int))) - 0) == (440 : Int) && vSp lo hi st er le mo sp (L (Int.toNat i)) && true)),
                            .ok (bv true), .ok (.ptr 1 0), .ok (.ptr 3 0), .ok (iv i), .unk, .unk, .unk, .unk, .unk, .unk, .unk, .unk, .unk, .unk, .unk, .unk,
                            .unk, .unk, .unk, .unk, .unk, .unk, .unk, .unk, .unk, .unk, .unk, .unk, .unk, .unk, .unk, .unk, .unk, .unk, .unk, .unk, .unk, .unk, .unk, .unk, .unk, .unk,
                            .unk, .unk, .unk, .unk, .unk, .unk, .unk, .unk, .unk, .unk, .unk, .unk, .unk, .unk, .unk, .unk, .unk, .unk, .unk, .unk, .unk, .unk, .unk, .unk, .unk, .unk,
                            .unk, .unk, .unk, .unk, .unk, .unk, .unk, .unk, .unk, .unk, .unk, .unk, .unk, .unk, .unk, .unk, .unk, .unk, .unk, .unk, .unk, .unk, .unk, .unk],
                        hp :=
                          [none, some (.cells [iv (vLo lo hi st er sp (L (Int.toNat i))), iv (vHi lo hi st er sp (L (Int.toNat i))), iv st, iv er, iv le, iv mo, bv (vSp lo hi st er le mo sp (L (Int.toNat i)))]), none,
                            some (.cells [iv dlo, iv dhi, iv dst, iv der]), none],
                        next := 5, hint := .nil }))
                  (.ite
                    (vLo lo hi st er sp (L (Int.toNat i)) !=
                          zif (dB dlo dhi dst der (fun i => intOf1 (DV.x (.int .i64 (L ((0 : Nat) + i))))) (Int.toNat (w64 (i + (1 : Int))) - 0))
                            (dL dlo dst der (fun i => intOf1 (DV.x (.int .i64 (L ((0 : Nat) + i))))) (Int.toNat (w64 (i + (1 : Int))) - 0)) ||
                        vHi lo hi st er sp (L (Int.toNat i)) !=
                          zif (dB dlo dhi dst der (fun i => intOf1 (DV.x (.int .i64 (L ((0 : Nat) + i))))) (Int.toNat (w64 (i + (1 : Int))) - 0))
                            (dH dhi dst der (fun i => intOf1 (DV.x (.int .i64 (L ((0 : Nat) + i))))) (Int.toNat (w64 (i + (1 : Int))) - 0)) ||
                      !vB (vLo lo hi st er sp (L (Int.toNat i))) (vHi lo hi st er sp (L (Int.toNat i))) st er le mo (vSp lo hi st er le mo sp (L (Int.toNat i))))
                    (.ret
                      (.ret,
                        {
                          tm :=
                            [.unk, .ok (.d (DV.ro n 1 fun i x => DV.x (.int .i64 (L i)))), .unk, .unk, .ok (bv false), .ok (bv true), .ok (.ptr 1 0),
                              .ok (.ptr 3 0), .ok (iv i), .unk, .unk, .unk, .unk, .unk, .unk, .unk, .unk, .unk, .unk, .unk, .unk, .unk, .unk, .unk, .unk, .unk, .unk, .unk,
                              .unk, .unk, .unk, .unk, .unk, .unk, .unk, .unk, .unk, .unk, .unk, .unk, .unk, .unk, .unk, .unk, .unk, .unk, .unk, .unk, .unk, .unk, .unk, .unk, .unk, .unk,
                              .unk, .unk, .unk, .unk, .unk, .unk, .unk, .unk, .unk, .unk, .unk, .unk, .unk, .unk, .unk, .unk, .unk, .unk, .unk, .unk, .unk, .unk, .unk, .unk, .unk, .unk,
                              .unk, .unk, .unk, .unk, .unk, .unk, .unk, .unk, .unk, .unk, .unk, .unk, .unk, .unk, .unk, .unk, .unk],
                          hp :=
                            [none, some (.cells [iv (vLo lo hi st er sp (L (Int.toNat i))), iv (vHi lo hi st er sp (L (Int.toNat i))), iv st, iv er, iv le, iv mo, bv (vSp lo hi st er le mo sp (L (Int.toNat i)))]), none,
                              some (.cells [iv dlo, iv dhi, iv dst, iv der]), none],
                          next := 5, hint := .nil }))
                    (.ret
                      (.normal,
                        {
                          tm :=
                            [.unk, .ok (.d (DV.ro n 1 fun i x => DV.x (.int .i64 (L i)))), .unk, .unk, .ok (bv false), .ok (bv true), .ok (.ptr 1 0),
                              .ok (.ptr 3 0), .ok (iv (w64 (i + (1 : Int)))), .unk, .unk, .unk, .unk, .unk, .unk, .unk, .unk, .unk, .unk, .unk, .unk, .unk, .unk, .unk, .unk, .unk,
                              .unk, .unk, .unk, .unk, .unk, .unk, .unk, .unk, .unk, .unk, .unk, .unk, .unk, .unk, .unk, .unk, .unk, .unk, .unk, .unk, .unk, .unk, .unk, .unk, .unk, .unk,
                              .unk, .unk, .unk, .unk, .unk, .unk, .unk, .unk, .unk, .unk, .unk, .unk, .unk, .unk, .unk, .unk, .unk, .unk, .unk, .unk, .unk, .unk, .unk, .unk, .unk, .unk,
                              .unk, .unk, .unk, .unk, .unk, .unk, .unk, .unk, .unk, .unk, .unk, .unk, .unk, .unk, .unk, .unk, .unk, .unk, .unk],
                          hp :=
                            [none, some (.cells [iv (vLo lo hi st er sp (L (Int.toNat i))), iv (vHi lo hi st er sp (L (Int.toNat i))), iv st, iv er, iv le, iv mo, bv (vSp lo hi st er le mo sp (L (Int.toNat i)))]), none,
                              some (.cells [iv dlo, iv dhi, iv dst, iv der]), none],
                          next := 5, hint := .nil })))))))))))
  (.ret
    (.exit 0,
      {
        tm :=
          [.unk, .ok (.d (DV.ro n 1 fun i x => DV.x (.int .i64 (L i)))), .unk, .unk, .ok (bv false), .ok (bv true), .ok (.ptr 1 0), .ok (.ptr 3 0),
            .ok (iv i), .unk, .unk, .unk, .unk, .unk, .unk, .unk, .unk, .unk, .unk, .unk, .unk, .unk, .unk, .unk, .unk, .unk, .unk, .unk, .unk, .unk, .unk, .unk, .unk, .unk, .unk,
            .unk, .unk, .unk, .unk, .unk, .unk, .unk, .unk, .unk, .unk, .unk, .unk, .unk, .unk, .unk, .unk, .unk, .unk, .unk, .unk, .unk, .unk, .unk, .unk, .unk, .unk, .unk, .unk,
            .unk, .unk, .unk, .unk, .unk, .unk, .unk, .unk, .unk, .unk, .unk, .unk, .unk, .unk, .unk, .unk, .unk, .unk, .unk, .unk, .unk, .unk, .unk, .unk, .unk, .unk, .unk, .unk,
            .unk, .unk, .unk, .unk, .unk, .unk],
        hp := [none, some (.cells [iv lo, iv hi, iv st, iv er, iv le, iv mo, bv sp]), none, some (.cells [iv dlo, iv dhi, iv dst, iv der]), none], next := 5, hint := .nil }))

theorem B6_eq (n : Nat) (L : Nat → Int) (dlo dhi dst der : Int) (lo hi st er le mo : Int) (sp : Bool) (i : Int) : cutT 5 [] [1, 4, 5, 6, 7, 8] [0, 2, 4] 5 .nil (exec Try.prog C5 D5 200 (loopN (bodyOf Try.prog 6) 0) (inv6 (.ok (bv false)) n L dlo dhi dst der lo hi st er le mo sp i)) = B6 n L dlo dhi dst der lo hi st er le mo sp i := by kernel_rfl

noncomputable def K6 (qlo qwi qst qer qbe qov : Int) (n : Nat) (cell : Nat → Nat → DV) (m : Nat) (L : Nat → Int) (dlo dhi dst der : Int) (lo hi st er le mo : Int) (sp : Bool) (i : Int) (b : Bool) : Tree SV :=
  .ret (bv b)

theorem K6_eq (qlo qwi qst qer qbe qov : Int) (n : Nat) (cell : Nat → Nat → DV) (m : Nat) (L : Nat → Int) (dlo dhi dst der : Int) (lo hi st er le mo : Int) (sp : Bool) (i : Int) (b : Bool) : codeK (sub p6 (t6 qlo qwi qst qer qbe qov n cell m L)) .ret (inv6 (.ok (bv b)) m L dlo dhi dst der lo hi st er le mo sp i) = K6 qlo qwi qst qer qbe qov n cell m L dlo dhi dst der lo hi st er le mo sp i b := by kernel_rfl

noncomputable def K6x (qlo qwi qst qer qbe qov : Int) (n : Nat) (cell : Nat → Nat → DV) (m : Nat) (L : Nat → Int) (dlo dhi dst der : Int) (lo hi st er le mo : Int) (sp : Bool) (i : Int) : Tree SV :=
  .ret (bv true)

theorem K6x_eq (qlo qwi qst qer qbe qov : Int) (n : Nat) (cell : Nat → Nat → DV) (m : Nat) (L : Nat → Int) (dlo dhi dst der : Int) (lo hi st er le mo : Int) (sp : Bool) (i : Int) : codeK (sub p6 (t6 qlo qwi qst qer qbe qov n cell m L)) (.exit 0) (inv6 (.ok (bv false)) m L dlo dhi dst der lo hi st er le mo sp i) = K6x qlo qwi qst qer qbe qov n cell m L dlo dhi dst der lo hi st er le mo sp i := by kernel_rfl

noncomputable def body6 : Code := loopN (bodyOf Try.prog 6) 0
theorem C6e (lo wi st er be ov : Int) (n : Nat) (cell : Nat → Nat → DV) (m : Nat) (L : Nat → Int) : codeC (sub p6 (t6 lo wi st er be ov n cell m L)) = .loop body6 := by kernel_rfl
theorem N6e (lo wi st er be ov : Int) (n : Nat) (cell : Nat → Nat → DV) (m : Nat) (L : Nat → Int) : Nat.ble (codeS (sub p6 (t6 lo wi st er be ov n cell m L))).next 5 = true := by kernel_rfl

end Go.Proofs.Ytcbjclmjkilphaa
