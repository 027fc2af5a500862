/- Part of a proof of the given statements of this seat (SxMdL5): no conditions beyond those typed here. -/
import Derived.Test.YtcbjclmjkilphaaSxMdW
set_option linter.unusedVariables false
set_option linter.unusedSimpArgs false
namespace Go.Proofs.Ytcbjclmjkilphaa
open Go.Sx
set_option maxRecDepth 100000

noncomputable def t5 (lo wi st er be ov : Int) (n : Nat) (cell : Nat → Nat → DV) (ms : Int) : Tree SV := T5 5 [.agg [u8 lo, u8 wi, u8 st, u8 er, .d (.ro n 1 cell), u8 be, u8 ov], .d (.x (.int .u16 ms))] .nil

noncomputable def L5 (lo wi st er be ov : Int) (n : Nat) (cell : Nat → Nat → DV) (ms : Int) : Tree SV :=
  .ite false (.ret (bv false))
  (.need
    (((0 : Int) ≤ lo ∧ lo < (256 : Int)) ∧
      ((0 : Int) ≤ wi ∧ wi < (256 : Int)) ∧
        ((0 : Int) ≤ st ∧ st < (256 : Int)) ∧ ((0 : Int) ≤ er ∧ er < (256 : Int)) ∧ n ≤ 9223372036854775807 ∧ ∀ (i : Nat), i < n → ∃ b, cell i (0 : Nat) = DV.x (.int .u8 b) ∧ (0 : Int) ≤ b ∧ b < (256 : Int))
    (.need
      (((0 : Int) ≤ lo ∧ lo < (256 : Int)) ∧
        ((0 : Int) ≤ wi ∧ wi < (256 : Int)) ∧
          ((0 : Int) ≤ st ∧ st < (256 : Int)) ∧
            ((0 : Int) ≤ er ∧ er < (256 : Int)) ∧
              n ≤ 9223372036854775807 ∧ (∀ (i : Nat), i < n → ∃ b, cell i (0 : Nat) = DV.x (.int .u8 b) ∧ (0 : Int) ≤ b ∧ b < (256 : Int)) ∧ ((0 : Int) ≤ be ∧ be < (256 : Int)) ∧ (0 : Int) ≤ ov ∧ ov < (256 : Int))
      (.need
        (dV (sLo lo) (sHi lo wi) (st % (6 : Int)) (er % (6 : Int)) ∧
          kS n ≤ 1000 ∧
            kS n + 1 ≤ 9223372036854775807 ∧
              (∀ (i : Nat), i < kS n → ∃ b, (fun i x => DV.x (.int .i64 (lS lo wi (st % (6 : Int)) (er % (6 : Int)) (byteCell cell) i))) i (0 : Nat) = DV.x (.int .i64 b)) ∧
                ∀ (i : Nat),
                  i < kS n + (1 : Nat) →
                    ∃ b, (fun i x => DV.x (.int .i64 (fS lo wi (st % (6 : Int)) (byteCell cell) i))) i (0 : Nat) = DV.x (.int .i64 b) ∧ (-4000000000000000000 : Int) ≤ b ∧ b ≤ (4000000000000000000 : Int))
        (.ite
          (!posB (sLo lo) (sHi lo wi) (st % (6 : Int)) (er % (6 : Int)) (kS n) (fun i => intOf1 (DV.x (.int .i64 (lS lo wi (st % (6 : Int)) (er % (6 : Int)) (fun i => numOf (cell i (0 : Nat))) i)))) (kS n + 1) fun i =>
              intOf1 (DV.x (.int .i64 (fS lo wi (st % (6 : Int)) (fun i => numOf (cell i (0 : Nat))) i))))
          (.ret (bv false))
          (.code (codeC (sub [(1 : Nat), (0 : Nat), (0 : Nat), (0 : Nat), (1 : Nat)] (t5 lo wi st er be ov n cell ms))) (codeS (sub [(1 : Nat), (0 : Nat), (0 : Nat), (0 : Nat), (1 : Nat)] (t5 lo wi st er be ov n cell ms)))
            (codeK (sub [(1 : Nat), (0 : Nat), (0 : Nat), (0 : Nat), (1 : Nat)] (t5 lo wi st er be ov n cell ms))))))))

theorem L5_eq (lo wi st er be ov : Int) (n : Nat) (cell : Nat → Nat → DV) (ms : Int) : t5 lo wi st er be ov n cell ms = L5 lo wi st er be ov n cell ms := by kernel_rfl

noncomputable def p5 : List Nat := [1, 0, 0, 0, 1]
noncomputable def in5 (t : Tree SV) : Option AS := entA 10 [(.slot 6, 10), (.slot 7, 11)] [1, 4, 5, 6, 7, 8] (List.range 10) 12 .nil t
noncomputable def inv5 (rs : TV) (ms dlo dhi dst der : Int) (kn : Nat) (p l : Nat → Int) (lo hi st er le mo : Int) (sp : Bool) (i : Int) : AS :=
  ⟨[.unk, .ok (.d (.x (.int .u16 ms))), .unk, .unk, rs, .ok (bv true), .ok (.ptr 10 0), .ok (.ptr 11 0), .ok (iv i)] ++ List.replicate 129 .unk,
   List.replicate 10 none ++ [some (.cells [iv dlo, iv dhi, iv dst, iv der, ro64 (kn + 1) p, ro64 kn l]), some (.cells [iv lo, iv hi, iv st, iv er, iv le, iv mo, bv sp])], 12, .nil⟩
noncomputable def I5 (lo wi st er be ov : Int) (n : Nat) (cell : Nat → Nat → DV) (ms : Int) : Option AS :=
  some
  {
    tm :=
      [.unk, .ok (.d (DV.x (.int .u16 ms))), .unk, .unk, .ok (bv false), .ok (bv true), .ok (.ptr 10 0), .ok (.ptr 11 0), .ok (iv (0 : Int)), .unk, .unk,
        .unk, .unk, .unk, .unk, .unk, .unk, .unk, .unk, .unk, .unk, .unk, .unk, .unk, .unk, .unk, .unk, .unk, .unk, .unk, .unk, .unk, .unk, .unk, .unk, .unk, .unk, .unk, .unk, .unk,
        .unk, .unk, .unk, .unk, .unk, .unk, .unk, .unk, .unk, .unk, .unk, .unk, .unk, .unk, .unk, .unk, .unk, .unk, .unk, .unk, .unk, .unk, .unk, .unk, .unk, .unk, .unk, .unk, .unk,
        .unk, .unk, .unk, .unk, .unk, .unk, .unk, .unk, .unk, .unk, .unk, .unk, .unk, .unk, .unk, .unk, .unk, .unk, .unk, .unk, .unk, .unk, .unk, .unk, .unk, .unk, .unk, .unk, .unk,
        .unk, .unk, .unk, .unk, .unk, .unk, .unk, .unk, .unk, .unk, .unk, .unk, .unk, .unk, .unk, .unk, .unk, .unk, .unk, .unk, .unk, .unk, .unk, .unk, .unk, .unk, .unk, .unk, .unk,
        .unk, .unk, .unk, .unk, .unk, .unk, .unk, .unk, .unk, .unk, .unk],
    hp :=
      [none, none, none, none, none, none, none, none, none, none,
        some
          (.cells
            [iv (sLo lo), iv (sHi lo wi), iv (st % (6 : Int)), iv (er % (6 : Int)), .d (DV.ro (kS n + 1) 1 fun i x => DV.x (.int .i64 (fS lo wi (st % (6 : Int)) (fun i => numOf (cell i (0 : Nat))) i))),
              .d (DV.ro (kS n) 1 fun i x => DV.x (.int .i64 (lS lo wi (st % (6 : Int)) (er % (6 : Int)) (fun i => numOf (cell i (0 : Nat))) i)))]),
        some (.cells [iv (sLo lo), iv (sHi lo wi), iv (st % (6 : Int)), iv (er % (6 : Int)), iv (mLe lo be), iv (mMo lo wi ov), bv !inR (sLo lo) (sHi lo wi) (st % (6 : Int)) (mLe lo be) (mMo lo wi ov)])],
    next := 12, hint := .nil }

theorem I5_eq (lo wi st er be ov : Int) (n : Nat) (cell : Nat → Nat → DV) (ms : Int) : in5 (sub p5 (t5 lo wi st er be ov n cell ms)) = I5 lo wi st er be ov n cell ms := by kernel_rfl

noncomputable def B5 (ms dlo dhi dst der : Int) (kn : Nat) (p l : Nat → Int) (lo hi st er le mo : Int) (sp : Bool) (i : Int) : Tree (Ex × AS) :=
  .ite (decide (i < (↑(kn + 1) : Int)))
  (.need ((0 : Int) ≤ i ∧ i < (↑(kn + 1) : Int))
    (.ite
      (!sp &&
        (decide (p (Int.toNat i) < le) || decide (w64 (p (Int.toNat i) + st) > mo) || decide ((if w64 (p (Int.toNat i) - st) > (1 : Int) then w64 (p (Int.toNat i) - st) else (1 : Int)) < le) || decide (p (Int.toNat i) < lo) ||
          decide (p (Int.toNat i) > hi)))
      (.ret
        (.ret,
          {
            tm :=
              [.unk, .ok (.d (DV.x (.int .u16 ms))), .unk, .unk, .ok (bv false), .ok (bv true), .ok (.ptr 10 0), .ok (.ptr 11 0), .ok (iv i), .unk, .unk,
                .unk, .unk, .unk, .unk, .unk, .unk, .unk, .unk, .unk, .unk, .unk, .unk, .unk, .unk, .unk, .unk, .unk, .unk, .unk, .unk, .unk, .unk, .unk, .unk, .unk, .unk, .unk, .unk,
                .unk, .unk, .unk, .unk, .unk, .unk, .unk, .unk, .unk, .unk, .unk, .unk, .unk, .unk, .unk, .unk, .unk, .unk, .unk, .unk, .unk, .unk, .unk, .unk, .unk, .unk, .unk, .unk,
                .unk, .unk, .unk, .unk, .unk, .unk, .unk, .unk, .unk, .unk, .unk, .unk, .unk, .unk, .unk, .unk, .unk, .unk, .unk, .unk, .unk, .unk, .unk, .unk, .unk, .unk, .unk, .unk,
                .unk, .unk, .unk, .unk, .unk, .unk, .unk, .unk, .unk, .unk, .unk, .unk, .unk, .unk, .unk, .unk, .unk, .unk, .unk, .unk, .unk, .unk, .unk, .unk, .unk, .unk, .unk, .unk,
                .unk, .unk, .unk, .unk, .unk, .unk, .unk, .unk, .unk, .unk, .unk, .unk, .unk, .unk, .unk],
            hp :=
              [none, none, none, none, none, none, none, none, none, none,
                some (.cells [iv dlo, iv dhi, iv dst, iv der, .d (DV.ro (kn + 1) 1 fun i x => DV.x (.int .i64 (p i))), .d (DV.ro kn 1 fun i x => DV.x (.int .i64 (l i)))]),
                some (.cells [iv lo, iv hi, iv st, iv er, iv le, iv mo, bv sp])],
            next := 12, hint := .nil }))
      (.ite (i == (↑kn : Int))
        (.ret
          (.ret,
            {
              tm :=
                [.unk, .ok (.d (DV.x (.int .u16 ms))), .unk, .unk, .ok (bv true), .ok (bv true), .ok (.ptr 10 0), .ok (.ptr 11 0), .ok (iv i), .unk, .unk,
                  .unk, .unk, .unk, .unk, .unk, .unk, .unk, .unk, .unk, .unk, .unk, .unk, .unk, .unk, .unk, .unk, .unk, .unk, .unk, .unk, .unk, .unk, .unk, .unk, .unk, .unk, .unk,
                  .unk, .unk, .unk, .unk, .unk, .unk, .unk, .unk, .unk, .unk, .unk, .unk, .unk, .unk, .unk, .unk, .unk, .unk, .unk, .unk, .unk, .unk, .unk, .unk, .unk, .unk, .unk,
                  .unk, .unk, .unk, .unk, .unk, .unk, .unk, .unk, .unk, .unk, .unk, .unk, .unk, .unk, .unk, .unk, .unk, .unk, .unk, .unk, .unk, .unk, .unk, .unk, .unk, .unk, .unk,
                  .unk, .unk, .unk, .unk, .unk, .unk, .unk, .unk, .unk, .unk, .unk, .unk, .unk, .unk, .unk, .unk, .unk, .unk, .unk, .unk, .unk, .unk, .unk, .unk, .unk, .unk, .unk,
                  .unk, .unk, .unk, .unk, .unk, .unk, .unk, .unk, .unk, .unk, .unk, .unk, .unk, .unk, .unk, .unk, .unk, .unk, .unk],
              hp :=
                [none, none, none, none, none, none, none, none, none, none,
                  some (.cells [iv dlo, iv dhi, iv dst, iv der, .d (DV.ro (kn + 1) 1 fun i x => DV.x (.int .i64 (p i))), .d (DV.ro kn 1 fun i x => DV.x (.int .i64 (l i)))]),
                  some (.cells [iv lo, iv hi, iv st, iv er, iv le, iv mo, bv sp])],
              next := 12, hint := .nil }))
        (.need ((0 : Int) ≤ i ∧ i < (↑kn : Int))
          (.need (okM lo hi st er le mo)
            (.need ((16 : Int) ≠ (0 : Int))
              (.need ((0 : Int) ≤ IntKind.wrap .u64 (Int.tmod i (16 : Int)))
                (.ite
                  (IntKind.wrap .u16
                      (↑(BitVec.toNat (BitVec.ofInt 16 (Int.fdiv ms ((2 : Int) ^ min (Int.toNat (IntKind.wrap .u64 (Int.tmod i (16 : Int)))) 16)) &&& BitVec.ofInt 16 (1 : Int))) : Int) ==
                    (1 : Int))
                  (.need (okM lo hi st er le mo)
                    (.ite
                      (!vB (uLo lo st sp) (uHi hi st sp) st er le mo (uSp lo hi st le mo sp) ||
                        sp && !(uLo lo st sp == lo && (uHi hi st sp == hi && (st == st && (er == er && (le == le && (mo == mo && (uSp lo hi st le mo sp == sp && true))))))))
                      (.ret
                        (.ret,
                          {
                            tm :=
                              [.unk, .ok (.d (DV.x (.int .u16 ms))), .unk, .unk, .ok (bv false), .ok (bv true), .ok (.ptr 10 0), .ok (.ptr 11 0), .ok (iv i),
                                .unk, .unk, .unk, .unk, .unk, .unk, .unk, .unk, .unk, .unk, .unk, .unk, .unk, .unk, .unk, .unk, .unk, .unk, .unk, .unk, .unk, .unk, .unk, .unk, .unk, .unk,
                                .unk, .unk, .unk, .unk, .unk, .unk, .unk, .unk, .unk, .unk, .unk, .unk, .unk, .unk, .unk, .unk, .unk, .unk, .unk, .unk, .unk, .unk, .unk, .unk, .unk, .unk,
                                .unk, .unk, .unk, .unk, .unk, .unk, .unk, .unk, .unk, .unk, .unk, .unk, .unk, .unk, .unk, .unk, .unk, .unk, .unk, .unk, .unk, .unk, .unk, .unk, .unk, .unk,
                                .unk, .unk, .unk, .unk, .unk, .unk, .unk, .unk, .unk, .unk, .unk, .unk, .unk, .unk, .unk, .unk, .unk, .unk, .unk, .unk, .unk, .unk, .unk, .unk, .unk, .unk,
                                .unk, .unk, .unk, .unk, .unk, .unk, .unk, .unk, .unk, .unk, .unk, .unk, .unk, .unk, .unk, .unk, .unk, .unk, .unk, .unk, .unk, .unk, .unk, .unk, .unk],
                            hp :=
                              [none, none, none, none, none, none, none, none, none, none,
                                some
                                  (.cells
                                    [iv dlo, iv dhi, iv dst, iv der, .d (DV.ro (kn + 1) 1 fun i x => DV.x (.int .i64 (p i))), .d (DV.ro kn 1 fun i x => DV.x (.int .i64 (l i)))]),
                                some (.cells [iv (uLo lo st sp), iv (uHi hi st sp), iv st, iv er, iv le, iv mo, bv (uSp lo hi st le mo sp)])],
                            next := 12, hint := .nil }))
                      (.ret
                        (.normal,
                          {
                            tm :=
                              [.unk, .ok (.d (DV.x (.int .u16 ms))), .unk, .unk, .ok (bv false), .ok (bv true), .ok (.ptr 10 0), .ok (.ptr 11 0),
                                .ok (iv (w64 (i + (1 : Int)))), .unk, .unk, .unk, .unk, .unk, .unk, .unk, .unk, .unk, .unk, .unk, .unk, .unk, .unk, .unk, .unk, .unk, .unk, .unk, .unk, .unk,
                                .unk, .unk, .unk, .unk, .unk, .unk, .unk, .unk, .unk, .unk, .unk, .unk, .unk, .unk, .unk, .unk, .unk, .unk, .unk, .unk, .unk, .unk, .unk, .unk, .unk, .unk,
                                .unk, .unk, .unk, .unk, .unk, .unk, .unk, .unk, .unk, .unk, .unk, .unk, .unk, .unk, .unk, .unk, .unk, .unk, .unk, .unk, .unk, .unk, .unk, .unk, .unk, .unk,
                                .unk, .unk, .unk, .unk, .unk, .unk, .unk, .unk, .unk, .unk, .unk, .unk, .unk, .unk, .unk, .unk, .unk, .unk, .unk, .unk, .unk, .unk, .unk, .unk, .unk, .unk,
                                .unk, .unk, .unk, .unk, .unk, .unk, .unk, .unk, .unk, .unk, .unk, .unk, .unk, .unk, .unk, .unk, .unk, .unk, .unk, .unk, .unk, .unk, .unk, .unk, .unk, .unk,
                                .unk, .unk, .unk, .unk],
                            hp :=
                              [none, none, none, none, none, none, none, none, none, none,
                                some
                                  (.cells
                                    [iv dlo, iv dhi, iv dst, iv der, .d (DV.ro (kn + 1) 1 fun i x => DV.x (.int .i64 (p i))), .d (DV.ro kn 1 fun i x => DV.x (.int .i64 (l i)))]),
                                some (.cells [iv (uLo lo st sp), iv (uHi hi st sp), iv st, iv er, iv le, iv mo, bv (uSp lo hi st le mo sp)])],
                            next := 12, hint := .nil }))))
                  (.need ((0 : Int) ≤ i ∧ i < (↑kn : Int))
                    (.need (okM lo hi st er le mo)
                      (.ite (!gB lo hi st er (l (Int.toNat i)) && !sp)
                        (.ret
                          (.ret,
                            {
                              tm :=
                                [.unk, .ok (.d (DV.x (.int .u16 ms))), .unk, .unk, .ok (bv false), .ok (bv true), .ok (.ptr 10 0), .ok (.ptr 11 0), .ok (iv i),
                                  .unk, .unk, .unk, .unk, .unk, .unk, .unk, .unk, .unk, .unk, .unk, .unk, .unk, .unk, .unk, .unk, .unk, .unk, .unk, .unk, .unk, .unk, .unk, .unk, .unk,
                                  .unk, .unk, .unk, .unk, .unk, .unk, .unk, .unk, .unk, .unk, .unk, .unk, .unk, .unk, .unk, .unk, .unk, .unk, .unk, .unk, .unk, .unk, .unk, .unk, .unk,
                                  .unk, .unk, .unk, .unk, .unk, .unk, .unk, .unk, .unk, .unk, .unk, .unk, .unk, .unk, .unk, .unk, .unk, .unk, .unk, .unk, .unk, .unk, .unk, .unk, .unk,
                                  .unk, .unk, .unk, .unk, .unk, .unk, .unk, .unk, .unk, .unk, .unk, .unk, .unk, .unk, .unk, .unk, .unk, .unk, .unk, .unk, .unk, .unk, .unk, .unk, .unk,
                                  .unk, .unk, .unk, .unk, .unk, .unk, .unk, .unk, .unk, .unk, .unk, .unk, .unk, .unk, .unk, .unk, .unk, .unk, .unk, .unk, .unk, .unk, .unk, .unk, .unk,
                                  .unk, .unk, .unk, .unk],
                              hp :=
                                [none, none, none, none, none, none, none, none, none, none,
                                  some
                                    (.cells
                                      [iv dlo, iv dhi, iv dst, iv der, .d (DV.ro (kn + 1) 1 fun i x => DV.x (.int .i64 (p i))), .d (DV.ro kn 1 fun i x => DV.x (.int .i64 (l i)))]),
                                  some (.cells [iv (vLo lo hi st er sp (l (Int.toNat i))), iv (vHi lo hi st er sp (l (Int.toNat i))), iv st, iv er, iv le, iv mo, bv (vSp lo hi st er le mo sp (l (Int.toNat i)))])],
                              next := 12, hint := .nil }))
                        (.ite
                          (!vB (vLo lo hi st er sp (l (Int.toNat i))) (vHi lo hi st er sp (l (Int.toNat i))) st er le mo (vSp lo hi st er le mo sp (l (Int.toNat i))) ||
                            sp &&
                              !(vLo lo hi st er sp (l (Int.toNat i)) == lo &&
                                  (vHi lo hi st er sp (l (Int.toNat i)) == hi && (st == st && (er == er && (le == le && (mo == mo && (vSp lo hi st er le mo sp (l (Int.toNat i)) == sp && true))))))))
                          (.ret
                            (.ret,
                              {
                                tm :=
                                  [.unk, .ok (.d (DV.x (.int .u16 ms))), .unk, .unk, .ok (bv false), .ok (bv true), .ok (.ptr 10 0), .ok (.ptr 11 0), .ok (iv i),
                                    .unk, .unk, .unk, .unk, .unk, .unk, .unk, .unk, .unk, .unk, .unk, .unk, .unk, .unk, .unk, .unk, .unk, .unk, .unk, .unk, .unk, .unk, .unk, .unk, .unk,
                                    .unk, .unk, .unk, .unk, .unk, .unk, .unk, .unk, .unk, .unk, .unk, .unk, .unk, .unk, .unk, .unk, .unk, .unk, .unk, .unk, .unk, .unk, .unk, .unk, .unk,
                                    .unk, .unk, .unk, .unk, .unk, .unk, .unk, .unk, .unk, .unk, .unk, .unk, .unk, .unk, .unk, .unk, .unk, .unk, .unk, .unk, .unk, .unk, .unk, .unk, .unk,
                                    .unk, .unk, .unk, .unk, .unk, .unk, .unk, .unk, .unk, .unk, .unk, .unk, .unk, .unk, .unk, .unk, .unk, .unk, .unk, .unk, .unk, .unk, .unk, .unk, .unk,
                                    .unk, .unk, .unk, .unk, .unk, .unk, .unk, .unk, .unk, .unk, .unk, .unk, .unk, .unk, .unk, .unk, .unk, .unk, .unk, .unk, .unk, .unk, .unk, .unk, .unk,
                                    .unk, .unk, .unk, .unk],
                                hp :=
                                  [none, none, none, none, none, none, none, none, none, none,
                                    some
                                      (.cells
                                        [iv dlo, iv dhi, iv dst, iv der, .d (DV.ro (kn + 1) 1 fun i x => DV.x (.int .i64 (p i))), .d (DV.ro kn 1 fun i x => DV.x (.int .i64 (l i)))]),
                                    some (.cells [iv (vLo lo hi st er sp (l (Int.toNat i))), iv (vHi lo hi st er sp (l (Int.toNat i))), iv st, iv er, iv le, iv mo, bv (vSp lo hi st er le mo sp (l (Int.toNat i)))])],
                                next := 12, hint := .nil }))
                          (.ret
                            (.normal,
                              {
                                tm :=
                                  [.unk, .ok (.d (DV.x (.int .u16 ms))), .unk, .unk, .ok (bv false), .ok (bv true), .ok (.ptr 10 0), .ok (.ptr 11 0),
                                    .ok (iv (w64 (i + (1 : Int)))), .unk, .unk, .unk, .unk, .unk, .unk, .unk, .unk, .unk, .unk, .unk, .unk, .unk, .unk, .unk, .unk, .unk, .unk, .unk, .unk, .unk,
                                    .unk, .unk, .unk, .unk, .unk, .unk, .unk, .unk, .unk, .unk, .unk, .unk, .unk, .unk, .unk, .unk, .unk, .unk, .unk, .unk, .unk, .unk, .unk, .unk, .unk,
                                    .unk, .unk, .unk, .unk, .unk, .unk, .unk, .unk, .unk, .unk, .unk, .unk, .unk, .unk, .unk, .unk, .unk, .unk, .unk, .unk, .unk, .unk, .unk, .unk, .unk,
                                    .unk, .unk, .unk, .unk, .unk, .unk, .unk, .unk, .unk, .unk, .unk, .unk, .unk, .unk, .unk, .unk, .unk, .unk, .unk, .unk, .unk, .unk, .unk, .unk, .unk,
                                    .unk, .unk, .unk, .unk, .unk, .unk, .unk, .unk, .unk, .unk, .unk, .unk, .unk, .unk, .unk, .unk, .unk, .unk, .unk, .unk, .unk, .unk, .unk, .unk, .unk,
                                    .unk, .unk, .unk, .unk, .unk, .unk, .unk, .unk],
                                hp :=
                                  [none, none, none, none, none, none, none, none, none, none,
                                    some
                                      (.cells
                                        [iv dlo, iv dhi, iv dst, iv der, .d (DV.ro (kn + 1) 1 fun i x => DV.x (.int .i64 (p i))), .d (DV.ro kn 1 fun i x => DV.x (.int .i64 (l i)))]),
                                    some (.cells [iv (vLo lo hi st er sp (l (Int.toNat i))), iv (vHi lo hi st er sp (l (Int.toNat i))), iv st, iv er, iv le, iv mo, bv (vSp lo hi st er le mo sp (l (Int.toNat i)))])],
                                next := 12, hint := .nil }))))))))))))))
  (.ret
    (.exit 0,
      {
        tm :=
          [.unk, .ok (.d (DV.x (.int .u16 ms))), .unk, .unk, .ok (bv false), .ok (bv true), .ok (.ptr 10 0), .ok (.ptr 11 0), .ok (iv i), .unk, .unk, .unk,
            .unk, .unk, .unk, .unk, .unk, .unk, .unk, .unk, .unk, .unk, .unk, .unk, .unk, .unk, .unk, .unk, .unk, .unk, .unk, .unk, .unk, .unk, .unk, .unk, .unk, .unk, .unk, .unk,
            .unk, .unk, .unk, .unk, .unk, .unk, .unk, .unk, .unk, .unk, .unk, .unk, .unk, .unk, .unk, .unk, .unk, .unk, .unk, .unk, .unk, .unk, .unk, .unk, .unk, .unk, .unk, .unk,
            .unk, .unk, .unk, .unk, .unk, .unk, .unk, .unk, .unk, .unk, .unk, .unk, .unk, .unk, .unk, .unk, .unk, .unk, .unk, .unk, .unk, .unk, .unk, .unk, .unk, .unk, .unk, .unk,
            .unk, .unk, .unk, .unk, .unk, .unk, .unk, .unk, .unk, .unk, .unk, .unk, .unk, .unk, .unk, .unk, .unk, .unk, .unk, .unk, .unk, .unk, .unk, .unk, .unk, .unk, .unk, .unk,
            .unk, .unk, .unk, .unk, .unk, .unk, .unk, .unk, .unk, .unk, .unk, .unk, .unk, .unk],
        hp :=
          [none, none, none, none, none, none, none, none, none, none,
            some (.cells [iv dlo, iv dhi, iv dst, iv der, .d (DV.ro (kn + 1) 1 fun i x => DV.x (.int .i64 (p i))), .d (DV.ro kn 1 fun i x => DV.x (.int .i64 (l i)))]),
            some (.cells [iv lo, iv hi, iv st, iv er, iv le, iv mo, bv sp])],
        next := 12, hint := .nil }))

theorem B5_eq (ms dlo dhi dst der : Int) (kn : Nat) (p l : Nat → Int) (lo hi st er le mo : Int) (sp : Bool) (i : Int) : cutT 10 [(.slot 6, 10), (.slot 7, 11)] [1, 4, 5, 6, 7, 8] (List.range 10) 12 .nil (exec Try.prog C5 D5 200 (loopN (bodyOf Try.prog 5) 0) (inv5 (.ok (bv false)) ms dlo dhi dst der kn p l lo hi st er le mo sp i)) = B5 ms dlo dhi dst der kn p l lo hi st er le mo sp i := by kernel_rfl

noncomputable def K5 (qlo qwi qst qer qbe qov : Int) (n : Nat) (cell : Nat → Nat → DV) (ms dlo dhi dst der : Int) (kn : Nat) (p l : Nat → Int) (lo hi st er le mo : Int) (sp : Bool) (i : Int) (b : Bool) : Tree SV :=
  .ret (bv b)

theorem K5_eq (qlo qwi qst qer qbe qov : Int) (n : Nat) (cell : Nat → Nat → DV) (ms dlo dhi dst der : Int) (kn : Nat) (p l : Nat → Int) (lo hi st er le mo : Int) (sp : Bool) (i : Int) (b : Bool) : codeK (sub p5 (t5 qlo qwi qst qer qbe qov n cell ms)) .ret (inv5 (.ok (bv b)) ms dlo dhi dst der kn p l lo hi st er le mo sp i) = K5 qlo qwi qst qer qbe qov n cell ms dlo dhi dst der kn p l lo hi st er le mo sp i b := by kernel_rfl

noncomputable def body5 : Code := loopN (bodyOf Try.prog 5) 0
theorem C5e (lo wi st er be ov : Int) (n : Nat) (cell : Nat → Nat → DV) (ms : Int) : codeC (sub p5 (t5 lo wi st er be ov n cell ms)) = .loop body5 := by kernel_rfl
theorem N5e (lo wi st er be ov : Int) (n : Nat) (cell : Nat → Nat → DV) (ms : Int) : Nat.ble (codeS (sub p5 (t5 lo wi st er be ov n cell ms))).next 10 = true := by kernel_rfl

end Go.Proofs.Ytcbjclmjkilphaa
