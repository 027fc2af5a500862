/- Part of a proof of the given statements of this seat (SxMdDb): no conditions beyond those typed here. -/
import Derived.Test.YtcbjclmjkilphaaSxMdDa
set_option linter.unusedVariables false
set_option linter.unusedSimpArgs false
namespace Go.Proofs.Ytcbjclmjkilphaa
open Go.Sx
set_option maxRecDepth 100000

noncomputable def t8 (lo wi st er : Int) (n : Nat) (cell : Nat → Nat → DV) : Tree SV := T8 8 [.agg [u8 lo, u8 wi, u8 st, u8 er, .d (.ro n 1 cell)]] .nil

noncomputable def L8 (lo wi st er : Int) (n : Nat) (cell : Nat → Nat → DV) : Tree SV :=
  .ite false (.ret (bv false))
  (.need
    (((0 : Int) ≤ lo ∧ lo < (256 : Int)) ∧
      ((0 : Int) ≤ wi ∧ wi < (256 : Int)) ∧
        ((0 : Int) ≤ st ∧ st < (256 : Int)) ∧ ((0 : Int) ≤ er ∧ er < (256 : Int)) ∧ n ≤ 9223372036854775807 ∧ ∀ (i : Nat), i < n → ∃ b, cell i (0 : Nat) = DV.x (.int .u8 b) ∧ (0 : Int) ≤ b ∧ b < (256 : Int))
    (.need
      ((dV (sLo lo) (sHi lo wi) (st % (6 : Int)) (er % (6 : Int)) ∧
          kS n ≤ 1000 ∧ ∀ (i : Nat), i < kS n → ∃ b, (fun i x => DV.x (.int .i64 (lS lo wi (st % (6 : Int)) (er % (6 : Int)) (byteCell cell) i))) i (0 : Nat) = DV.x (.int .i64 b)) ∧
        dB (sLo lo) (sHi lo wi) (st % (6 : Int)) (er % (6 : Int)) (fun i => lS lo wi (st % (6 : Int)) (er % (6 : Int)) (fun i => numOf (cell i (0 : Nat))) i) (kS n) = true)
      (.need
        ((dV (sLo lo) (sHi lo wi) (st % (6 : Int)) (er % (6 : Int)) ∧
            kS n ≤ 1000 ∧ ∀ (i : Nat), i < kS n → ∃ b, (fun i x => DV.x (.int .i64 (lS lo wi (st % (6 : Int)) (er % (6 : Int)) (byteCell cell) i))) i (0 : Nat) = DV.x (.int .i64 b)) ∧
          dB (sLo lo) (sHi lo wi) (st % (6 : Int)) (er % (6 : Int)) (fun i => lS lo wi (st % (6 : Int)) (er % (6 : Int)) (fun i => numOf (cell i (0 : Nat))) i) (kS n) = true)
        (.need ((0 : Int) ≤ w64 ((↑(kS n + 1) : Int) - (1 : Int)) ∧ w64 ((↑(kS n + 1) : Int) - (1 : Int)) < (↑(kS n + 1) : Int))
          (.need
            (false = false →
              dV (sLo lo) (sHi lo wi) (st % (6 : Int)) (er % (6 : Int)) ∧
                kS n ≤ 1000 ∧
                  kS n + 1 ≤ 9223372036854775807 ∧
                    (∀ (i : Nat), i < kS n → ∃ b, (fun i x => DV.x (.int .i64 (lS lo wi (st % (6 : Int)) (er % (6 : Int)) (byteCell cell) i))) i (0 : Nat) = DV.x (.int .i64 b)) ∧
                      ∀ (i : Nat),
                        i < kS n + (1 : Nat) →
                          ∃ b, (fun i x => DV.x (.int .i64 (fS lo wi (st % (6 : Int)) (byteCell cell) i))) i (0 : Nat) = DV.x (.int .i64 b) ∧ (-4000000000000000000 : Int) ≤ b ∧ b ≤ (4000000000000000000 : Int))
            (.ite
              ((false ||
                      !posB (sLo lo) (sHi lo wi) (st % (6 : Int)) (er % (6 : Int)) (kS n) (fun i => lS lo wi (st % (6 : Int)) (er % (6 : Int)) (fun i => numOf (cell i (0 : Nat))) i) (kS n + 1) fun i =>
                          fS lo wi (st % (6 : Int)) (fun i => numOf (cell i (0 : Nat))) i) ||
                    decide
                      (fS lo wi (st % (6 : Int)) (fun i => numOf (cell i (0 : Nat))) (Int.toNat (w64 ((↑(kS n + 1) : Int) - (1 : Int)))) <
                        dL (sLo lo) (st % (6 : Int)) (er % (6 : Int)) (fun i => lS lo wi (st % (6 : Int)) (er % (6 : Int)) (fun i => numOf (cell i (0 : Nat))) i) (kS n)) ||
                  decide
                    (fS lo wi (st % (6 : Int)) (fun i => numOf (cell i (0 : Nat))) (Int.toNat (w64 ((↑(kS n + 1) : Int) - (1 : Int)))) >
                      dH (sHi lo wi) (st % (6 : Int)) (er % (6 : Int)) (fun i => lS lo wi (st % (6 : Int)) (er % (6 : Int)) (fun i => numOf (cell i (0 : Nat))) i) (kS n)) ||
                (↑(kS n + 1) : Int) != (↑(kS n + 1) : Int))
              (.ret (bv false))
              (.code (codeC (sub [(1 : Nat), (0 : Nat), (0 : Nat), (0 : Nat), (0 : Nat), (0 : Nat), (1 : Nat)] (t8 lo wi st er n cell)))
                (codeS (sub [(1 : Nat), (0 : Nat), (0 : Nat), (0 : Nat), (0 : Nat), (0 : Nat), (1 : Nat)] (t8 lo wi st er n cell)))
                (codeK (sub [(1 : Nat), (0 : Nat), (0 : Nat), (0 : Nat), (0 : Nat), (0 : Nat), (1 : Nat)] (t8 lo wi st er n cell))))))))))

theorem L8_eq (lo wi st er : Int) (n : Nat) (cell : Nat → Nat → DV) : t8 lo wi st er n cell = L8 lo wi st er n cell := by kernel_rfl

noncomputable def p8 : List Nat := [1, 0, 0, 0, 0, 0, 1]
noncomputable def in8d (t : Tree SV) : Option AS := entA 9 [] [3, 4, 7, 9] [0, 2, 3, 4, 5, 6, 8] 9 .nil t
noncomputable def inv8d (dlo dhi dst der : Int) (kn : Nat) (p l a b : Nat → Int) (i : Int) : AS :=
  ⟨[.unk, .unk, .unk, .ok (bv true), .ok (.ptr 1 0), .unk, .unk, .ok (.ptr 7 0), .unk, .ok (iv i)] ++ List.replicate 92 .unk,
   [none, some (.cells [iv dlo, iv dhi, iv dst, iv der, ro64 (kn + 1) p, ro64 kn l]), none, none, none, none, none, some (.cells [.d (.ro (kn + 1) 2 (scell a b)), iv 0]), none], 9, .nil⟩
noncomputable def body8d : Code := loopN (bodyOf Try.prog 8) 0
noncomputable def B8d (dlo dhi dst der : Int) (kn : Nat) (p l a b : Nat → Int) (i : Int) : Tree (Ex × AS) :=
  .ite (decide (i < (↑(kn + 1) : Int)))
  (.need ((0 : Int) ≤ i ∧ i < (↑(kn + 1) : Int))
    (.need ((0 : Int) ≤ i ∧ i < (↑(kn + 1) : Int))
      (.need ((0 : Int) ≤ (0 : Int) ∧ (0 : Int) < (2 : Int))
        (.need (decide (p (Int.toNat i) < a (Int.toNat i)) = false → (0 : Int) ≤ i ∧ i < (↑(kn + 1) : Int))
          (.need (decide (p (Int.toNat i) < a (Int.toNat i)) = false → (0 : Int) ≤ i ∧ i < (↑(kn + 1) : Int))
            (.need (decide (p (Int.toNat i) < a (Int.toNat i)) = false → (0 : Int) ≤ (1 : Int) ∧ (1 : Int) < (2 : Int))
              (.ite (decide (p (Int.toNat i) < a (Int.toNat i)) || decide (p (Int.toNat i) > b (Int.toNat i)))
                (.ret
                  (.ret,
                    {
                      tm :=
                        [.unk, .unk, .unk, .ok (bv true), .ok (.ptr 1 0), .unk, .unk, .ok (.ptr 7 0), .unk, .ok (iv i), .unk, .unk, .unk, .unk, .unk, .unk, .unk,
                          .unk, .unk, .unk, .unk, .unk, .unk, .unk, .unk, .unk, .unk, .unk, .unk, .unk, .unk, .unk, .unk, .unk, .unk, .unk, .unk, .unk, .unk, .unk, .unk, .unk, .unk,
                          .unk, .unk, .unk, .unk, .unk, .unk, .unk, .unk, .unk, .unk, .unk, .unk, .unk, .unk, .unk, .unk, .unk, .unk, .unk, .unk, .unk, .unk, .unk, .unk, .unk, .unk,
                          .unk, .unk, .unk, .unk, .unk, .unk, .unk, .unk, .unk, .unk, .unk, .unk, .unk, .unk, .unk, .unk, .unk, .unk, .unk, .unk, .unk, .unk, .unk, .unk, .unk, .unk,
                          .unk, .unk, .unk, .unk, .unk, .unk, .unk],
                      hp :=
                        [none,
                          some (.cells [iv dlo, iv dhi, iv dst, iv der, .d (DV.ro (kn + 1) 1 fun i x => DV.x (.int .i64 (p i))), .d (DV.ro kn 1 fun i x => DV.x (.int .i64 (l i)))]),
                          none, none, none, none, none,
                          some
                            (.cells
                              [.d
                                  (DV.ro (kn + 1) 2 fun a_1 b_1 =>
                                    match b_1 with
                                    | (0 : Nat) => DV.x (.int .i64 (a a_1))
                                    | x => DV.x (.int .i64 (b a_1))),
                                iv (0 : Int)]),
                          none],
                      next := 9, hint := .nil }))
                (.ret
                  (.normal,
                    {
                      tm :=
                        [.unk, .unk, .unk, .ok (bv true), .ok (.ptr 1 0), .unk, .unk, .ok (.ptr 7 0), .unk, .ok (iv (w64 (i + (1 : Int)))), .unk, .unk, .unk, .unk,
                          .unk, .unk, .unk, .unk, .unk, .unk, .unk, .unk, .unk, .unk, .unk, .unk, .unk, .unk, .unk, .unk, .unk, .unk, .unk, .unk, .unk, .unk, .unk, .unk, .unk, .unk,
                          .unk, .unk, .unk, .unk, .unk, .unk, .unk, .unk, .unk, .unk, .unk, .unk, .unk, .unk, .unk, .unk, .unk, .unk, .unk, .unk, .unk, .unk, .unk, .unk, .unk, .unk,
                          .unk, .unk, .unk, .unk, .unk, .unk, .unk, .unk, .unk, .unk, .unk, .unk, .unk, .unk, .unk, .unk, .unk, .unk, .unk, .unk, .unk, .unk, .unk, .unk, .unk, .unk,
                          .unk, .unk, .unk, .unk, .unk, .unk, .unk, .unk, .unk, .unk],
                      hp :=
                        [none,
                          some (.cells [iv dlo, iv dhi, iv dst, iv der, .d (DV.ro (kn + 1) 1 fun i x => DV.x (.int .i64 (p i))), .d (DV.ro kn 1 fun i x => DV.x (.int .i64 (l i)))]),
                          none, none, none, none, none,
                          some
                            (.cells
                              [.d
                                  (DV.ro (kn + 1) 2 fun a_1 b_1 =>
                                    match b_1 with
                                    | (0 : Nat) => DV.x (.int .i64 (a a_1))
                                    | x => DV.x (.int .i64 (b a_1))),
                                iv (0 : Int)]),
                          none],
                      next := 9, hint := .nil })))))))))
  (.ret
    (.exit 0,
      {
        tm :=
          [.unk, .unk, .unk, .ok (bv true), .ok (.ptr 1 0), .unk, .unk, .ok (.ptr 7 0), .unk, .ok (iv i), .unk, .unk, .unk, .unk, .unk, .unk, .unk, .unk,
            .unk, .unk, .unk, .unk, .unk, .unk, .unk, .unk, .unk, .unk, .unk, .unk, .unk, .unk, .unk, .unk, .unk, .unk, .unk, .unk, .unk, .unk, .unk, .unk, .unk, .unk, .unk, .unk,
            .unk, .unk, .unk, .unk, .unk, .unk, .unk, .unk, .unk, .unk, .unk, .unk, .unk, .unk, .unk, .unk, .unk, .unk, .unk, .unk, .unk, .unk, .unk, .unk, .unk, .unk, .unk, .unk,
            .unk, .unk, .unk, .unk, .unk, .unk, .unk, .unk, .unk, .unk, .unk, .unk, .unk, .unk, .unk, .unk, .unk, .unk, .unk, .unk, .unk, .unk, .unk, .unk, .unk, .unk, .unk, .unk],
        hp :=
          [none, some (.cells [iv dlo, iv dhi, iv dst, iv der, .d (DV.ro (kn + 1) 1 fun i x => DV.x (.int .i64 (p i))), .d (DV.ro kn 1 fun i x => DV.x (.int .i64 (l i)))]), none,
            none, none, none, none,
            some
              (.cells
                [.d
                    (DV.ro (kn + 1) 2 fun a_1 b_1 =>
                      match b_1 with
                      | (0 : Nat) => DV.x (.int .i64 (a a_1))
                      | x => DV.x (.int .i64 (b a_1))),
                  iv (0 : Int)]),
            none],
        next := 9, hint := .nil }))

theorem B8d_eq (dlo dhi dst der : Int) (kn : Nat) (p l a b : Nat → Int) (i : Int) : cutT 9 [] [3, 4, 7, 9] [0, 2, 3, 4, 5, 6, 8] 9 .nil (exec Try.prog C8 D8 200 body8d (inv8d dlo dhi dst der kn p l a b i)) = B8d dlo dhi dst der kn p l a b i := by kernel_rfl

noncomputable def K8d (lo wi st er : Int) (n : Nat) (cell : Nat → Nat → DV) (dlo dhi dst der : Int) (kn : Nat) (p l a b : Nat → Int) (i : Int) : Tree SV :=
  .ret (bv true)

theorem K8d_eq (lo wi st er : Int) (n : Nat) (cell : Nat → Nat → DV) (dlo dhi dst der : Int) (kn : Nat) (p l a b : Nat → Int) (i : Int) : codeK (sub p8 (t8 lo wi st er n cell)) (.exit 0) (inv8d dlo dhi dst der kn p l a b i) = K8d lo wi st er n cell dlo dhi dst der kn p l a b i := by kernel_rfl

theorem I8d (lo wi st er : Int) (n : Nat) (cell : Nat → Nat → DV) : in8d (sub p8 (t8 lo wi st er n cell)) = some (inv8d (sLo lo) (sHi lo wi) (st % 6) (er % 6) (kS n) (fS lo wi (st % 6) (byteCell cell)) (lS lo wi (st % 6) (er % 6) (byteCell cell))
    (sL (sLo lo) (st % 6) (er % 6) (kS n) (lS lo wi (st % 6) (er % 6) (byteCell cell))) (sH (sHi lo wi) (st % 6) (er % 6) (kS n) (lS lo wi (st % 6) (er % 6) (byteCell cell))) 0) := by kernel_rfl
theorem C8d (lo wi st er : Int) (n : Nat) (cell : Nat → Nat → DV) : codeC (sub p8 (t8 lo wi st er n cell)) = .loop body8d := by kernel_rfl
theorem N8d (lo wi st er : Int) (n : Nat) (cell : Nat → Nat → DV) : Nat.ble (codeS (sub p8 (t8 lo wi st er n cell))).next 9 = true := by kernel_rfl

end Go.Proofs.Ytcbjclmjkilphaa
