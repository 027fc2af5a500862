/- Part of a proof of the given statements of this seat (SxMdL4): no conditions beyond those typed here. -/
import Derived.Test.YtcbjclmjkilphaaSxMdJ
set_option linter.unusedVariables false
set_option linter.unusedSimpArgs false
namespace Go.Proofs.Ytcbjclmjkilphaa
open Go.Sx
set_option maxRecDepth 100000

noncomputable def t4 (lo wi st er be ov : Int) (n : Nat) (cell : Nat → Nat → DV) (k0 k1 k2 k3 : Int) : Tree SV := T2 4 [.agg [u8 lo, u8 wi, u8 st, u8 er, .d (.ro n 1 cell), u8 be, u8 ov], .agg [u8 k0, u8 k1, u8 k2, u8 k3]] .nil

noncomputable def p4 : List Nat := [1, 0, 0, 0, 0, 0, 0, 0, 0, 0, 0, 0, 0, 0, 0, 1]
noncomputable def in4 (t : Tree SV) : Option AS := entA 40 [(.slot 6, 40), (.slot 10, 41), (.slot 11, 42), (.slot 12, 43)] [5, 6, 10, 11, 12, 13, 14] (List.range 40) 44 .nil t
noncomputable def goM (lo hi st er le mo : Int) (sp : Bool) : Option Blk := some (.cells [iv lo, iv hi, iv st, iv er, iv le, iv mo, bv sp, iv 0])
noncomputable def inv4 (dlo dhi dst der : Int) (kn : Nat) (p l : Nat → Int) (A B C : Option Blk) (g : Bool) (i : Int) : AS :=
  ⟨[.unk, .unk, .unk, .unk, .unk, .ok (bv true), .ok (.ptr 40 0), .unk, .unk, .unk, .ok (.ptr 41 0), .ok (.ptr 42 0), .ok (.ptr 43 0), .ok (bv g), .ok (iv i)] ++ List.replicate 186 .unk,
   List.replicate 40 none ++ [some (.cells [iv dlo, iv dhi, iv dst, iv der, ro64 (kn + 1) p, ro64 kn l]), A, B, C], 44, .nil⟩

noncomputable def L4 (lo wi st er be ov : Int) (n : Nat) (cell : Nat → Nat → DV) (k0 k1 k2 k3 : Int) : Tree SV :=
  .ite false (.ret (bv false))
  (.need
    (((0 : Int) ≤ lo ∧ lo < (256 : Int)) ∧
      ((0 : Int) ≤ wi ∧ wi < (256 : Int)) ∧
        ((0 : Int) ≤ st ∧ st < (256 : Int)) ∧ ((0 : Int) ≤ er ∧ er < (256 : Int)) ∧ n ≤ 9223372036854775807 ∧ ∀ (i : Nat), i < n → ∃ b, cell i (0 : Nat) = .x (.int .u8 b) ∧ (0 : Int) ≤ b ∧ b < (256 : Int))
    (.need
      (((0 : Int) ≤ lo ∧ lo < (256 : Int)) ∧
        ((0 : Int) ≤ wi ∧ wi < (256 : Int)) ∧
          ((0 : Int) ≤ st ∧ st < (256 : Int)) ∧
            ((0 : Int) ≤ er ∧ er < (256 : Int)) ∧
              n ≤ 9223372036854775807 ∧ (∀ (i : Nat), i < n → ∃ b, cell i (0 : Nat) = .x (.int .u8 b) ∧ (0 : Int) ≤ b ∧ b < (256 : Int)) ∧ ((0 : Int) ≤ be ∧ be < (256 : Int)) ∧ (0 : Int) ≤ ov ∧ ov < (256 : Int))
      (.need ((0 : Int) ≤ (0 : Int) ∧ (0 : Int) < (4 : Int))
        (.need (0 < 4)
          (.need ((9 : Int) ≠ (0 : Int))
            (.need ((0 : Int) ≤ (1 : Int) ∧ (1 : Int) < (4 : Int))
              (.need (1 < 4)
                (.need ((9 : Int) ≠ (0 : Int))
                  (.need ((0 : Int) ≤ (2 : Int) ∧ (2 : Int) < (4 : Int))
                    (.need (2 < 4)
                      (.need ((9 : Int) ≠ (0 : Int))
                        (.need ((0 : Int) ≤ (3 : Int) ∧ (3 : Int) < (4 : Int))
                          (.need (3 < 4)
                            (.need ((9 : Int) ≠ (0 : Int))
                              (.ite
                                (zerr (okB (sLo lo) (sHi lo wi) (st % (6 : Int)) (er % (6 : Int)) (mLe lo be) (mMo lo wi ov)) != (0 : Int) ||
                                          zerr
                                              (okB (sLo lo) (sHi lo wi) (st % (6 : Int)) (er % (6 : Int)) (if w64 (mLe lo be - w64 (Int.tmod k0 (9 : Int))) > (1 : Int) then w64 (mLe lo be - w64 (Int.tmod k0 (9 : Int))) else (1 : Int))
                                                (w64 (mMo lo wi ov + w64 (Int.tmod k1 (9 : Int))))) !=
                                            (0 : Int) ||
                                        zerr
                                            (okB (if w64 (sLo lo + w64 (Int.tmod k2 (9 : Int))) < sHi lo wi then w64 (sLo lo + w64 (Int.tmod k2 (9 : Int))) else sHi lo wi)
                                              (if w64 (sHi lo wi - w64 (Int.tmod k3 (9 : Int))) > if w64 (sLo lo + w64 (Int.tmod k2 (9 : Int))) < sHi lo wi then w64 (sLo lo + w64 (Int.tmod k2 (9 : Int))) else sHi lo wi then
                                                w64 (sHi lo wi - w64 (Int.tmod k3 (9 : Int)))
                                              else if w64 (sLo lo + w64 (Int.tmod k2 (9 : Int))) < sHi lo wi then w64 (sLo lo + w64 (Int.tmod k2 (9 : Int))) else sHi lo wi)
                                              (st % (6 : Int)) (er % (6 : Int)) (mLe lo be) (mMo lo wi ov)) !=
                                          (0 : Int) ||
                                      !(zif (okB (sLo lo) (sHi lo wi) (st % (6 : Int)) (er % (6 : Int)) (mLe lo be) (mMo lo wi ov)) (sLo lo) == sLo lo &&
                                          (zif (okB (sLo lo) (sHi lo wi) (st % (6 : Int)) (er % (6 : Int)) (mLe lo be) (mMo lo wi ov)) (sHi lo wi) == sHi lo wi &&
                                            (zif (okB (sLo lo) (sHi lo wi) (st % (6 : Int)) (er % (6 : Int)) (mLe lo be) (mMo lo wi ov)) (st % (6 : Int)) == st % (6 : Int) &&
                                              (zif (okB (sLo lo) (sHi lo wi) (st % (6 : Int)) (er % (6 : Int)) (mLe lo be) (mMo lo wi ov)) (er % (6 : Int)) == er % (6 : Int) &&
                                                (zif (okB (sLo lo) (sHi lo wi) (st % (6 : Int)) (er % (6 : Int)) (mLe lo be) (mMo lo wi ov)) (mLe lo be) == mLe lo be &&
                                                  (zif (okB (sLo lo) (sHi lo wi) (st % (6 : Int)) (er % (6 : Int)) (mLe lo be) (mMo lo wi ov)) (mMo lo wi ov) == mMo lo wi ov &&
                                                    ((okB (sLo lo) (sHi lo wi) (st % (6 : Int)) (er % (6 : Int)) (mLe lo be) (mMo lo wi ov) && !inR (sLo lo) (sHi lo wi) (st % (6 : Int)) (mLe lo be) (mMo lo wi ov)) ==
                                                        !inR (sLo lo) (sHi lo wi) (st % (6 : Int)) (mLe lo be) (mMo lo wi ov) &&
                                                      true))))))) ||
                                    !vB
                                        (zif
                                          (okB (sLo lo) (sHi lo wi) (st % (6 : Int)) (er % (6 : Int)) (if w64 (mLe lo be - w64 (Int.tmod k0 (9 : Int))) > (1 : Int) then w64 (mLe lo be - w64 (Int.tmod k0 (9 : Int))) else (1 : Int))
                                            (w64 (mMo lo wi ov + w64 (Int.tmod k1 (9 : Int)))))
                                          (sLo lo))
                                        (zif
                                          (okB (sLo lo) (sHi lo wi) (st % (6 : Int)) (er % (6 : Int)) (if w64 (mLe lo be - w64 (Int.tmod k0 (9 : Int))) > (1 : Int) then w64 (mLe lo be - w64 (Int.tmod k0 (9 : Int))) else (1 : Int))
                                            (w64 (mMo lo wi ov + w64 (Int.tmod k1 (9 : Int)))))
                                          (sHi lo wi))
                                        (zif
                                          (okB (sLo lo) (sHi lo wi) (st % (6 : Int)) (er % (6 : Int)) (if w64 (mLe lo be - w64 (Int.tmod k0 (9 : Int))) > (1 : Int) then w64 (mLe lo be - w64 (Int.tmod k0 (9 : Int))) else (1 : Int))
                                            (w64 (mMo lo wi ov + w64 (Int.tmod k1 (9 : Int)))))
                                          (st % (6 : Int)))
                                        (zif
                                          (okB (sLo lo) (sHi lo wi) (st % (6 : Int)) (er % (6 : Int)) (if w64 (mLe lo be - w64 (Int.tmod k0 (9 : Int))) > (1 : Int) then w64 (mLe lo be - w64 (Int.tmod k0 (9 : Int))) else (1 : Int))
                                            (w64 (mMo lo wi ov + w64 (Int.tmod k1 (9 : Int)))))
                                          (er % (6 : Int)))
                                        (zif
                                          (okB (sLo lo) (sHi lo wi) (st % (6 : Int)) (er % (6 : Int)) (if w64 (mLe lo be - w64 (Int.tmod k0 (9 : Int))) > (1 : Int) then w64 (mLe lo be - w64 (Int.tmod k0 (9 : Int))) else (1 : Int))
                                            (w64 (mMo lo wi ov + w64 (Int.tmod k1 (9 : Int)))))
                                          (if w64 (mLe lo be - w64 (Int.tmod k0 (9 : Int))) > (1 : Int) then w64 (mLe lo be - w64 (Int.tmod k0 (9 : Int))) else (1 : Int)))
                                        (zif
                                          (okB (sLo lo) (sHi lo wi) (st % (6 : Int)) (er % (6 : Int)) (if w64 (mLe lo be - w64 (Int.tmod k0 (9 : Int))) > (1 : Int) then w64 (mLe lo be - w64 (Int.tmod k0 (9 : Int))) else (1 : Int))
                                            (w64 (mMo lo wi ov + w64 (Int.tmod k1 (9 : Int)))))
                                          (w64 (mMo lo wi ov + w64 (Int.tmod k1 (9 : Int)))))
                                        (okB (sLo lo) (sHi lo wi) (st % (6 : Int)) (er % (6 : Int)) (if w64 (mLe lo be - w64 (Int.tmod k0 (9 : Int))) > (1 : Int) then w64 (mLe lo be - w64 (Int.tmod k0 (9 : Int))) else (1 : Int))
                                            (w64 (mMo lo wi ov + w64 (Int.tmod k1 (9 : Int)))) &&
                                          !inR (sLo lo) (sHi lo wi) (st % (6 : Int)) (if w64 (mLe lo be - w64 (Int.tmod k0 (9 : Int))) > (1 : Int) then w64 (mLe lo be - w64 (Int.tmod k0 (9 : Int))) else (1 : Int))
                                              (w64 (mMo lo wi ov + w64 (Int.tmod k1 (9 : Int))))) ||
                                  !vB
                                      (zif
                                        (okB (if w64 (sLo lo + w64 (Int.tmod k2 (9 : Int))) < sHi lo wi then w64 (sLo lo + w64 (Int.tmod k2 (9 : Int))) else sHi lo wi)
                                          (if w64 (sHi lo wi - w64 (Int.tmod k3 (9 : Int))) > if w64 (sLo lo + w64 (Int.tmod k2 (9 : Int))) < sHi lo wi then w64 (sLo lo + w64 (Int.tmod k2 (9 : Int))) else sHi lo wi then
                                            w64 (sHi lo wi - w64 (Int.tmod k3 (9 : Int)))
                                          else if w64 (sLo lo + w64 (Int.tmod k2 (9 : Int))) < sHi lo wi then w64 (sLo lo + w64 (Int.tmod k2 (9 : Int))) else sHi lo wi)
                                          (st % (6 : Int)) (er % (6 : Int)) (mLe lo be) (mMo lo wi ov))
                                        (if w64 (sLo lo + w64 (Int.tmod k2 (9 : Int))) < sHi lo wi then w64 (sLo lo + w64 (Int.tmod k2 (9 : Int))) else sHi lo wi))
                                      (zif
                                        (okB (if w64 (sLo lo + w64 (Int.tmod k2 (9 : Int))) < sHi lo wi then w64 (sLo lo + w64 (Int.tmod k2 (9 : Int))) else sHi lo wi)
                                          (if w64 (sHi lo wi - w64 (Int.tmod k3 (9 : Int))) > if w64 (sLo lo + w64 (Int.tmod k2 (9 : Int))) < sHi lo wi then w64 (sLo lo + w64 (Int.tmod k2 (9 : Int))) else sHi lo wi then
                                            w64 (sHi lo wi - w64 (Int.tmod k3 (9 : Int)))
                                          else if w64 (sLo lo + w64 (Int.tmod k2 (9 : Int))) < sHi lo wi then w64 (sLo lo + w64 (Int.tmod k2 (9 : Int))) else sHi lo wi)
                                          (st % (6 : Int)) (er % (6 : Int)) (mLe lo be) (mMo lo wi ov))
                                        (if w64 (sHi lo wi - w64 (Int.tmod k3 (9 : Int))) > if w64 (sLo lo + w64 (Int.tmod k2 (9 : Int))) < sHi lo wi then w64 (sLo lo + w64 (Int.tmod k2 (9 : Int))) else sHi lo wi then
                                          w64 (sHi lo wi - w64 (Int.tmod k3 (9 : Int)))
                                        else if w64 (sLo lo + w64 (Int.tmod k2 (9 : Int))) < sHi lo wi then w64 (sLo lo + w64 (Int.tmod k2 (9 : Int))) else sHi lo wi))
                                      (zif
                                        (okB (if w64 (sLo lo + w64 (Int.tmod k2 (9 : Int))) < sHi lo wi then w64 (sLo lo + w64 (Int.tmod k2 (9 : Int))) else sHi lo wi)
                                          (if w64 (sHi lo wi - w64 (Int.tmod k3 (9 : Int))) > if w64 (sLo lo + w64 (Int.tmod k2 (9 : Int))) < sHi lo wi then w64 (sLo lo + w64 (Int.tmod k2 (9 : Int))) else sHi lo wi then
                                            w64 (sHi lo wi - w64 (Int.tmod k3 (9 : Int)))
                                          else if w64 (sLo lo + w64 (Int.tmod k2 (9 : Int))) < sHi lo wi then w64 (sLo lo + w64 (Int.tmod k2 (9 : Int))) else sHi lo wi)
                                          (st % (6 : Int)) (er % (6 : Int)) (mLe lo be) (mMo lo wi ov))
                                        (st % (6 : Int)))
                                      (zif
                                        (okB (if w64 (sLo lo + w64 (Int.tmod k2 (9 : Int))) < sHi lo wi then w64 (sLo lo + w64 (Int.tmod k2 (9 : Int))) else sHi lo wi)
                                          (if w64 (sHi lo wi - w64 (Int.tmod k3 (9 : Int))) > if w64 (sLo lo + w64 (Int.tmod k2 (9 : Int))) < sHi lo wi then w64 (sLo lo + w64 (Int.tmod k2 (9 : Int))) else sHi lo wi then
                                            w64 (sHi lo wi - w64 (Int.tmod k3 (9 : Int)))
                                          else if w64 (sLo lo + w64 (Int.tmod k2 (9 : Int))) < sHi lo wi then w64 (sLo lo + w64 (Int.tmod k2 (9 : Int))) else sHi lo wi)
                                          (st % (6 : Int)) (er % (6 : Int)) (mLe lo be) (mMo lo wi ov))
                                        (er % (6 : Int)))
                                      (zif
                                        (okB (if w64 (sLo lo + w64 (Int.tmod k2 (9 : Int))) < sHi lo wi then w64 (sLo lo + w64 (Int.tmod k2 (9 : Int))) else sHi lo wi)
                                          (if w64 (sHi lo wi - w64 (Int.tmod k3 (9 : Int))) > if w64 (sLo lo + w64 (Int.tmod k2 (9 : Int))) < sHi lo wi then w64 (sLo lo + w64 (Int.tmod k2 (9 : Int))) else sHi lo wi then
                                            w64 (sHi lo wi - w64 (Int.tmod k3 (9 : Int)))
                                          else if w64 (sLo lo + w64 (Int.tmod k2 (9 : Int))) < sHi lo wi then w64 (sLo lo + w64 (Int.tmod k2 (9 : Int))) else sHi lo wi)
                                          (st % (6 : Int)) (er % (6 : Int)) (mLe lo be) (mMo lo wi ov))
                                        (mLe lo be))
                                      (zif
                                        (okB (if w64 (sLo lo + w64 (Int.tmod k2 (9 : Int))) < sHi lo wi then w64 (sLo lo + w64 (Int.tmod k2 (9 : Int))) else sHi lo wi)
                                          (if w64 (sHi lo wi - w64 (Int.tmod k3 (9 : Int))) > if w64 (sLo lo + w64 (Int.tmod k2 (9 : Int))) < sHi lo wi then w64 (sLo lo + w64 (Int.tmod k2 (9 : Int))) else sHi lo wi then
                                            w64 (sHi lo wi - w64 (Int.tmod k3 (9 : Int)))
                                          else if w64 (sLo lo + w64 (Int.tmod k2 (9 : Int))) < sHi lo wi then w64 (sLo lo + w64 (Int.tmod k2 (9 : Int))) else sHi lo wi)
                                          (st % (6 : Int)) (er % (6 : Int)) (mLe lo be) (mMo lo wi ov))
                                        (mMo lo wi ov))
                                      (okB (if w64 (sLo lo + w64 (Int.tmod k2 (9 : Int))) < sHi lo wi then w64 (sLo lo + w64 (Int.tmod k2 (9 : Int))) else sHi lo wi)
                                          (if w64 (sHi lo wi - w64 (Int.tmod k3 (9 : Int))) > if w64 (sLo lo + w64 (Int.tmod k2 (9 : Int))) < sHi lo wi then w64 (sLo lo + w64 (Int.tmod k2 (9 : Int))) else sHi lo wi then
                                            w64 (sHi lo wi - w64 (Int.tmod k3 (9 : Int)))
                                          else if w64 (sLo lo + w64 (Int.tmod k2 (9 : Int))) < sHi lo wi then w64 (sLo lo + w64 (Int.tmod k2 (9 : Int))) else sHi lo wi)
                                          (st % (6 : Int)) (er % (6 : Int)) (mLe lo be) (mMo lo wi ov) &&
                                        !inR (if w64 (sLo lo + w64 (Int.tmod k2 (9 : Int))) < sHi lo wi then w64 (sLo lo + w64 (Int.tmod k2 (9 : Int))) else sHi lo wi)
                                            (if w64 (sHi lo wi - w64 (Int.tmod k3 (9 : Int))) > if w64 (sLo lo + w64 (Int.tmod k2 (9 : Int))) < sHi lo wi then w64 (sLo lo + w64 (Int.tmod k2 (9 : Int))) else sHi lo wi then
                                              w64 (sHi lo wi - w64 (Int.tmod k3 (9 : Int)))
                                            else if w64 (sLo lo + w64 (Int.tmod k2 (9 : Int))) < sHi lo wi then w64 (sLo lo + w64 (Int.tmod k2 (9 : Int))) else sHi lo wi)
                                            (st % (6 : Int)) (mLe lo be) (mMo lo wi ov)))
                                (.ret (bv false))
                                (.code
                                  (codeC
                                    (sub [(1 : Nat), (0 : Nat), (0 : Nat), (0 : Nat), (0 : Nat), (0 : Nat), (0 : Nat), (0 : Nat), (0 : Nat), (0 : Nat), (0 : Nat), (0 : Nat), (0 : Nat), (0 : Nat), (0 : Nat), (1 : Nat)]
                                      (t4 lo wi st er be ov n cell k0 k1 k2 k3)))
                                  (codeS
                                    (sub [(1 : Nat), (0 : Nat), (0 : Nat), (0 : Nat), (0 : Nat), (0 : Nat), (0 : Nat), (0 : Nat), (0 : Nat), (0 : Nat), (0 : Nat), (0 : Nat), (0 : Nat), (0 : Nat), (0 : Nat), (1 : Nat)]
                                      (t4 lo wi st er be ov n cell k0 k1 k2 k3)))
                                  (codeK
                                    (sub [(1 : Nat), (0 : Nat), (0 : Nat), (0 : Nat), (0 : Nat), (0 : Nat), (0 : Nat), (0 : Nat), (0 : Nat), (0 : Nat), (0 : Nat), (0 : Nat), (0 : Nat), (0 : Nat), (0 : Nat), (1 : Nat)]
                                      (t4 lo wi st er be ov n cell k0 k1 k2 k3)))))))))))))))))))

theorem L4_eq (lo wi st er be ov : Int) (n : Nat) (cell : Nat → Nat → DV) (k0 k1 k2 k3 : Int) : t4 lo wi st er be ov n cell k0 k1 k2 k3 = L4 lo wi st er be ov n cell k0 k1 k2 k3 := by kernel_rfl

noncomputable def I4 (lo wi st er be ov : Int) (n : Nat) (cell : Nat → Nat → DV) (k0 k1 k2 k3 : Int) : Option AS :=
  some
  {
    tm :=
      [.unk, .unk, .unk, .unk, .unk, .ok (bv true), .ok (.ptr 40 0), .unk, .unk, .unk, .ok (.ptr 41 0), .ok (.ptr 42 0),
        .ok (.ptr 43 0), .ok (bv true), .ok (iv (0 : Int)), .unk, .unk, .unk, .unk, .unk, .unk, .unk, .unk, .unk, .unk, .unk, .unk, .unk, .unk, .unk, .unk, .unk, .unk, .unk,
        .unk, .unk, .unk, .unk, .unk, .unk, .unk, .unk, .unk, .unk, .unk, .unk, .unk, .unk, .unk, .unk, .unk, .unk, .unk, .unk, .unk, .unk, .unk, .unk, .unk, .unk, .unk, .unk, .unk,
        .unk, .unk, .unk, .unk, .unk, .unk, .unk, .unk, .unk, .unk, .unk, .unk, .unk, .unk, .unk, .unk, .unk, .unk, .unk, .unk, .unk, .unk, .unk, .unk, .unk, .unk, .unk, .unk, .unk,
        .unk, .unk, .unk, .unk, .unk, .unk, .unk, .unk, .unk, .unk, .unk, .unk, .unk, .unk, .unk, .unk, .unk, .unk, .unk, .unk, .unk, .unk, .unk, .unk, .unk, .unk, .unk, .unk, .unk,
        .unk, .unk, .unk, .unk, .unk, .unk, .unk, .unk, .unk, .unk, .unk, .unk, .unk, .unk, .unk, .unk, .unk, .unk, .unk, .unk, .unk, .unk, .unk, .unk, .unk, .unk, .unk, .unk, .unk,
        .unk, .unk, .unk, .unk, .unk, .unk, .unk, .unk, .unk, .unk, .unk, .unk, .unk, .unk, .unk, .unk, .unk, .unk, .unk, .unk, .unk, .unk, .unk, .unk, .unk, .unk, .unk, .unk, .unk,
        .unk, .unk, .unk, .unk, .unk, .unk, .unk, .unk, .unk, .unk, .unk, .unk, .unk, .unk, .unk, .unk, .unk, .unk, .unk, .unk, .unk, .unk],
    hp :=
      [none, none, none, none, none, none, none, none, none, none, none, none, none, none, none, none, none, none, none, none, none, none, none, none, none, none, none, none, none, none, none, none, none, none, none, none, none, none, none,
        none,
        some
          (.cells
            [iv (sLo lo), iv (sHi lo wi), iv (st % (6 : Int)), iv (er % (6 : Int)), .d (.ro (kS n + 1) 1 fun i x => .x (.int .i64 (fS lo wi (st % (6 : Int)) (fun i => numOf (cell i (0 : Nat))) i))),
              .d (.ro (kS n) 1 fun i x => .x (.int .i64 (lS lo wi (st % (6 : Int)) (er % (6 : Int)) (fun i => numOf (cell i (0 : Nat))) i)))]),
        some
          (.cells
            [iv (zif (okB (sLo lo) (sHi lo wi) (st % (6 : Int)) (er % (6 : Int)) (mLe lo be) (mMo lo wi ov)) (sLo lo)), iv (zif (okB (sLo lo) (sHi lo wi) (st % (6 : Int)) (er % (6 : Int)) (mLe lo be) (mMo lo wi ov)) (sHi lo wi)),
              iv (zif (okB (sLo lo) (sHi lo wi) (st % (6 : Int)) (er % (6 : Int)) (mLe lo be) (mMo lo wi ov)) (st % (6 : Int))),
              iv (zif (okB (sLo lo) (sHi lo wi) (st % (6 : Int)) (er % (6 : Int)) (mLe lo be) (mMo lo wi ov)) (er % (6 : Int))), iv (zif (okB (sLo lo) (sHi lo wi) (st % (6 : Int)) (er % (6 : Int)) (mLe lo be) (mMo lo wi ov)) (mLe lo be)),
              iv (zif (okB (sLo lo) (sHi lo wi) (st % (6 : Int)) (er % (6 : Int)) (mLe lo be) (mMo lo wi ov)) (mMo lo wi ov)),
              bv (okB (sLo lo) (sHi lo wi) (st % (6 : Int)) (er % (6 : Int)) (mLe lo be) (mMo lo wi ov) && !inR (sLo lo) (sHi lo wi) (st % (6 : Int)) (mLe lo be) (mMo lo wi ov)),
              iv (zerr (okB (sLo lo) (sHi lo wi) (st % (6 : Int)) (er % (6 : Int)) (mLe lo be) (mMo lo wi ov)))]),
        some
          (.cells
            [iv
                (zif
                  (okB (sLo lo) (sHi lo wi) (st % (6 : Int)) (er % (6 : Int)) (if w64 (mLe lo be - w64 (Int.tmod k0 (9 : Int))) > (1 : Int) then w64 (mLe lo be - w64 (Int.tmod k0 (9 : Int))) else (1 : Int))
                    (w64 (mMo lo wi ov + w64 (Int.tmod k1 (9 : Int)))))
                  (sLo lo)),
              iv
                (zif
                  (okB (sLo lo) (sHi lo wi) (st % (6 : Int)) (er % (6 : Int)) (if w64 (mLe lo be - w64 (Int.tmod k0 (9 : Int))) > (1 : Int) then w64 (mLe lo be - w64 (Int.tmod k0 (9 : Int))) else (1 : Int))
                    (w64 (mMo lo wi ov + w64 (Int.tmod k1 (9 : Int)))))
                  (sHi lo wi)),
              iv
                (zif
                  (okB (sLo lo) (sHi lo wi) (st % (6 : Int)) (er % (6 : Int)) (if w64 (mLe lo be - w64 (Int.tmod k0 (9 : Int))) > (1 : Int) then w64 (mLe lo be - w64 (Int.tmod k0 (9 : Int))) else (1 : Int))
                    (w64 (mMo lo wi ov + w64 (Int.tmod k1 (9 : Int)))))
                  (st % (6 : Int))),
              iv
                (zif
                  (okB (sLo lo) (sHi lo wi) (st % (6 : Int)) (er % (6 : Int)) (if w64 (mLe lo be - w64 (Int.tmod k0 (9 : Int))) > (1 : Int) then w64 (mLe lo be - w64 (Int.tmod k0 (9 : Int))) else (1 : Int))
                    (w64 (mMo lo wi ov + w64 (Int.tmod k1 (9 : Int)))))
                  (er % (6 : Int))),
              iv
                (zif
                  (okB (sLo lo) (sHi lo wi) (st % (6 : Int)) (er % (6 : Int)) (if w64 (mLe lo be - w64 (Int.tmod k0 (9 : Int))) > (1 : Int) then w64 (mLe lo be - w64 (Int.tmod k0 (9 : Int))) else (1 : Int))
                    (w64 (mMo lo wi ov + w64 (Int.tmod k1 (9 : Int)))))
                  (if w64 (mLe lo be - w64 (Int.tmod k0 (9 : Int))) > (1 : Int) then w64 (mLe lo be - w64 (Int.tmod k0 (9 : Int))) else (1 : Int))),
              iv
                (zif
                  (okB (sLo lo) (sHi lo wi) (st % (6 : Int)) (er % (6 : Int)) (if w64 (mLe lo be - w64 (Int.tmod k0 (9 : Int))) > (1 : Int) then w64 (mLe lo be - w64 (Int.tmod k0 (9 : Int))) else (1 : Int))
                    (w64 (mMo lo wi ov + w64 (Int.tmod k1 (9 : Int)))))
                  (w64 (mMo lo wi ov + w64 (Int.tmod k1 (9 : Int))))),
              bv
                (okB (sLo lo) (sHi lo wi) (st % (6 : Int)) (er % (6 : Int)) (if w64 (mLe lo be - w64 (Int.tmod k0 (9 : Int))) > (1 : Int) then w64 (mLe lo be - w64 (Int.tmod k0 (9 : Int))) else (1 : Int))
                    (w64 (mMo lo wi ov + w64 (Int.tmod k1 (9 : Int)))) &&
                  !inR (sLo lo) (sHi lo wi) (st % (6 : Int)) (if w64 (mLe lo be - w64 (Int.tmod k0 (9 : Int))) > (1 : Int) then w64 (mLe lo be - w64 (Int.tmod k0 (9 : Int))) else (1 : Int))
                      (w64 (mMo lo wi ov + w64 (Int.tmod k1 (9 : Int))))),
              iv
                (zerr
                  (okB (sLo lo) (sHi lo wi) (st % (6 : Int)) (er % (6 : Int)) (if w64 (mLe lo be - w64 (Int.tmod k0 (9 : Int))) > (1 : Int) then w64 (mLe lo be - w64 (Int.tmod k0 (9 : Int))) else (1 : Int))
                    (w64 (mMo lo wi ov + w64 (Int.tmod k1 (9 : Int))))))]),
        some
          (.cells
            [iv
                (zif
                  (okB (if w64 (sLo lo + w64 (Int.tmod k2 (9 : Int))) < sHi lo wi then w64 (sLo lo + w64 (Int.tmod k2 (9 : Int))) else sHi lo wi)
                    (if w64 (sHi lo wi - w64 (Int.tmod k3 (9 : Int))) > if w64 (sLo lo + w64 (Int.tmod k2 (9 : Int))) < sHi lo wi then w64 (sLo lo + w64 (Int.tmod k2 (9 : Int))) else sHi lo wi then
                      w64 (sHi lo wi - w64 (Int.tmod k3 (9 : Int)))
                    else if w64 (sLo lo + w64 (Int.tmod k2 (9 : Int))) < sHi lo wi then w64 (sLo lo + w64 (Int.tmod k2 (9 : Int))) else sHi lo wi)
                    (st % (6 : Int)) (er % (6 : Int)) (mLe lo be) (mMo lo wi ov))
                  (if w64 (sLo lo + w64 (Int.tmod k2 (9 : Int))) < sHi lo wi then w64 (sLo lo + w64 (Int.tmod k2 (9 : Int))) else sHi lo wi)),
              iv
                (zif
                  (okB (if w64 (sLo lo + w64 (Int.tmod k2 (9 : Int))) < sHi lo wi then w64 (sLo lo + w64 (Int.tmod k2 (9 : Int))) else sHi lo wi)
                    (if w64 (sHi lo wi - w64 (Int.tmod k3 (9 : Int))) > if w64 (sLo lo + w64 (Int.tmod k2 (9 : Int))) < sHi lo wi then w64 (sLo lo + w64 (Int.tmod k2 (9 : Int))) else sHi lo wi then
                      w64 (sHi lo wi - w64 (Int.tmod k3 (9 : Int)))
                    else if w64 (sLo lo + w64 (Int.tmod k2 (9 : Int))) < sHi lo wi then w64 (sLo lo + w64 (Int.tmod k2 (9 : Int))) else sHi lo wi)
                    (st % (6 : Int)) (er % (6 : Int)) (mLe lo be) (mMo lo wi ov))
                  (if w64 (sHi lo wi - w64 (Int.tmod k3 (9 : Int))) > if w64 (sLo lo + w64 (Int.tmod k2 (9 : Int))) < sHi lo wi then w64 (sLo lo + w64 (Int.tmod k2 (9 : Int))) else sHi lo wi then
                    w64 (sHi lo wi - w64 (Int.tmod k3 (9 : Int)))
                  else if w64 (sLo lo + w64 (Int.tmod k2 (9 : Int))) < sHi lo wi then w64 (sLo lo + w64 (Int.tmod k2 (9 : Int))) else sHi lo wi)),
              iv
                (zif
                  (okB (if w64 (sLo lo + w64 (Int.tmod k2 (9 : Int))) < sHi lo wi then w64 (sLo lo + w64 (Int.tmod k2 (9 : Int))) else sHi lo wi)
                    (if w64 (sHi lo wi - w64 (Int.tmod k3 (9 : Int))) > if w64 (sLo lo + w64 (Int.tmod k2 (9 : Int))) < sHi lo wi then w64 (sLo lo + w64 (Int.tmod k2 (9 : Int))) else sHi lo wi then
                      w64 (sHi lo wi - w64 (Int.tmod k3 (9 : Int)))
                    else if w64 (sLo lo + w64 (Int.tmod k2 (9 : Int))) < sHi lo wi then w64 (sLo lo + w64 (Int.tmod k2 (9 : Int))) else sHi lo wi)
                    (st % (6 : Int)) (er % (6 : Int)) (mLe lo be) (mMo lo wi ov))
                  (st % (6 : Int))),
              iv
                (zif
                  (okB (if w64 (sLo lo + w64 (Int.tmod k2 (9 : Int))) < sHi lo wi then w64 (sLo lo + w64 (Int.tmod k2 (9 : Int))) else sHi lo wi)
                    (if w64 (sHi lo wi - w64 (Int.tmod k3 (9 : Int))) > if w64 (sLo lo + w64 (Int.tmod k2 (9 : Int))) < sHi lo wi then w64 (sLo lo + w64 (Int.tmod k2 (9 : Int))) else sHi lo wi then
                      w64 (sHi lo wi - w64 (Int.tmod k3 (9 : Int)))
                    else if w64 (sLo lo + w64 (Int.tmod k2 (9 : Int))) < sHi lo wi then w64 (sLo lo + w64 (Int.tmod k2 (9 : Int))) else sHi lo wi)
                    (st % (6 : Int)) (er % (6 : Int)) (mLe lo be) (mMo lo wi ov))
                  (er % (6 : Int))),
              iv
                (zif
                  (okB (if w64 (sLo lo + w64 (Int.tmod k2 (9 : Int))) < sHi lo wi then w64 (sLo lo + w64 (Int.tmod k2 (9 : Int))) else sHi lo wi)
                    (if w64 (sHi lo wi - w64 (Int.tmod k3 (9 : Int))) > if w64 (sLo lo + w64 (Int.tmod k2 (9 : Int))) < sHi lo wi then w64 (sLo lo + w64 (Int.tmod k2 (9 : Int))) else sHi lo wi then
                      w64 (sHi lo wi - w64 (Int.tmod k3 (9 : Int)))
                    else if w64 (sLo lo + w64 (Int.tmod k2 (9 : Int))) < sHi lo wi then w64 (sLo lo + w64 (Int.tmod k2 (9 : Int))) else sHi lo wi)
                    (st % (6 : Int)) (er % (6 : Int)) (mLe lo be) (mMo lo wi ov))
                  (mLe lo be)),
              iv
                (zif
                  (okB (if w64 (sLo lo + w64 (Int.tmod k2 (9 : Int))) < sHi lo wi then w64 (sLo lo + w64 (Int.tmod k2 (9 : Int))) else sHi lo wi)
                    (if w64 (sHi lo wi - w64 (Int.tmod k3 (9 : Int))) > if w64 (sLo lo + w64 (Int.tmod k2 (9 : Int))) < sHi lo wi then w64 (sLo lo + w64 (Int.tmod k2 (9 : Int))) else sHi lo wi then
                      w64 (sHi lo wi - w64 (Int.tmod k3 (9 : Int)))
                    else if w64 (sLo lo + w64 (Int.tmod k2 (9 : Int))) < sHi lo wi then w64 (sLo lo + w64 (Int.tmod k2 (9 : Int))) else sHi lo wi)
                    (st % (6 : Int)) (er % (6 : Int)) (mLe lo be) (mMo lo wi ov))
                  (mMo lo wi ov)),
              bv
                (okB (if w64 (sLo lo + w64 (Int.tmod k2 (9 : Int))) < sHi lo wi then w64 (sLo lo + w64 (Int.tmod k2 (9 : Int))) else sHi lo wi)
                    (if w64 (sHi lo wi - w64 (Int.tmod k3 (9 : Int))) > if w64 (sLo lo + w64 (Int.tmod k2 (9 : Int))) < sHi lo wi then w64 (sLo lo + w64 (Int.tmod k2 (9 : Int))) else sHi lo wi then
                      w64 (sHi lo wi - w64 (Int.tmod k3 (9 : Int)))
                    else if w64 (sLo lo + w64 (Int.tmod k2 (9 : Int))) < sHi lo wi then w64 (sLo lo + w64 (Int.tmod k2 (9 : Int))) else sHi lo wi)
                    (st % (6 : Int)) (er % (6 : Int)) (mLe lo be) (mMo lo wi ov) &&
                  !inR (if w64 (sLo lo + w64 (Int.tmod k2 (9 : Int))) < sHi lo wi then w64 (sLo lo + w64 (Int.tmod k2 (9 : Int))) else sHi lo wi)
                      (if w64 (sHi lo wi - w64 (Int.tmod k3 (9 : Int))) > if w64 (sLo lo + w64 (Int.tmod k2 (9 : Int))) < sHi lo wi then w64 (sLo lo + w64 (Int.tmod k2 (9 : Int))) else sHi lo wi then
                        w64 (sHi lo wi - w64 (Int.tmod k3 (9 : Int)))
                      else if w64 (sLo lo + w64 (Int.tmod k2 (9 : Int))) < sHi lo wi then w64 (sLo lo + w64 (Int.tmod k2 (9 : Int))) else sHi lo wi)
                      (st % (6 : Int)) (mLe lo be) (mMo lo wi ov)),
              iv
                (zerr
                  (okB (if w64 (sLo lo + w64 (Int.tmod k2 (9 : Int))) < sHi lo wi then w64 (sLo lo + w64 (Int.tmod k2 (9 : Int))) else sHi lo wi)
                    (if w64 (sHi lo wi - w64 (Int.tmod k3 (9 : Int))) > if w64 (sLo lo + w64 (Int.tmod k2 (9 : Int))) < sHi lo wi then w64 (sLo lo + w64 (Int.tmod k2 (9 : Int))) else sHi lo wi then
                      w64 (sHi lo wi - w64 (Int.tmod k3 (9 : Int)))
                    else if w64 (sLo lo + w64 (Int.tmod k2 (9 : Int))) < sHi lo wi then w64 (sLo lo + w64 (Int.tmod k2 (9 : Int))) else sHi lo wi)
                    (st % (6 : Int)) (er % (6 : Int)) (mLe lo be) (mMo lo wi ov)))])],
    next := 44, hint := .nil }

theorem I4_eq (lo wi st er be ov : Int) (n : Nat) (cell : Nat → Nat → DV) (k0 k1 k2 k3 : Int) : in4 (sub p4 (t4 lo wi st er be ov n cell k0 k1 k2 k3)) = I4 lo wi st er be ov n cell k0 k1 k2 k3 := by kernel_rfl

noncomputable def B4 (dlo dhi dst der : Int) (kn : Nat) (p l : Nat → Int) (alo ahi st er ale amo : Int) (asp : Bool) (blo bhi ble bmo : Int) (bsp : Bool) (clo chi cle cmo : Int) (csp : Bool) (g : Bool) (i : Int) : Tree (Ex × AS) :=
  .ite (decide (i < (↑kn : Int)))
  (.ite (!asp && (bsp || g && csp))
    (.ret
      (.ret,
        {
          tm :=
            [.unk, .unk, .unk, .unk, .ok (bv false), .ok (bv true), .ok (.ptr 40 0), .unk, .unk, .unk, .ok (.ptr 41 0), .ok (.ptr 42 0),
              .ok (.ptr 43 0), .ok (bv g), .ok (iv i), .unk, .unk, .unk, .unk, .unk, .unk, .unk, .unk, .unk, .unk, .unk, .unk, .unk, .unk, .unk, .unk, .unk, .unk, .unk,
              .unk, .unk, .unk, .unk, .unk, .unk, .unk, .unk, .unk, .unk, .unk, .unk, .unk, .unk, .unk, .unk, .unk, .unk, .unk, .unk, .unk, .unk, .unk, .unk, .unk, .unk, .unk, .unk,
              .unk, .unk, .unk, .unk, .unk, .unk, .unk, .unk, .unk, .unk, .unk, .unk, .unk, .unk, .unk, .unk, .unk, .unk, .unk, .unk, .unk, .unk, .unk, .unk, .unk, .unk, .unk, .unk,
              .unk, .unk, .unk, .unk, .unk, .unk, .unk, .unk, .unk, .unk, .unk, .unk, .unk, .unk, .unk, .unk, .unk, .unk, .unk, .unk, .unk, .unk, .unk, .unk, .unk, .unk, .unk, .unk,
              .unk, .unk, .unk, .unk, .unk, .unk, .unk, .unk, .unk, .unk, .unk, .unk, .unk, .unk, .unk, .unk, .unk, .unk, .unk, .unk, .unk, .unk, .unk, .unk, .unk, .unk, .unk, .unk,
              .unk, .unk, .unk, .unk, .unk, .unk, .unk, .unk, .unk, .unk, .unk, .unk, .unk, .unk, .unk, .unk, .unk, .unk, .unk, .unk, .unk, .unk, .unk, .unk, .unk, .unk, .unk, .unk,
              .unk, .unk, .unk, .unk, .unk, .unk, .unk, .unk, .unk, .unk, .unk, .unk, .unk, .unk, .unk, .unk, .unk, .unk, .unk, .unk, .unk, .unk, .unk, .unk, .unk, .unk, .unk],
          hp :=
            [none, none, none, none, none, none, none, none, none, none, none, none, none, none, none, none, none, none, none, none, none, none, none, none, none, none, none, none, none, none, none, none, none, none, none, none, none, none,
              none, none, some (.cells [iv dlo, iv dhi, iv dst, iv der, .d (.ro (kn + 1) 1 fun i x => .x (.int .i64 (p i))), .d (.ro kn 1 fun i x => .x (.int .i64 (l i)))]),
              some (.cells [iv alo, iv ahi, iv st, iv er, iv ale, iv amo, bv asp, iv (0 : Int)]), some (.cells [iv blo, iv bhi, iv st, iv er, iv ble, iv bmo, bv bsp, iv (0 : Int)]),
              some (.cells [iv clo, iv chi, iv st, iv er, iv cle, iv cmo, bv csp, iv (0 : Int)])],
          next := 44, hint := .nil }))
    (.need (g = true → (0 : Int) ≤ i ∧ i < (↑kn : Int))
      (.need (g = true → okM clo chi st er cle cmo)
        (.need ((0 : Int) ≤ i ∧ i < (↑kn : Int))
          (.need (okM alo ahi st er ale amo)
            (.need ((0 : Int) ≤ i ∧ i < (↑kn : Int))
              (.need (okM blo bhi st er ble bmo)
                (.need ((0 : Int) ≤ i ∧ i < (↑kn : Int))
                  (.need (okM clo chi st er cle cmo)
                    (.ite
                      (!vB (vLo alo ahi st er asp (l (Int.toNat i))) (vHi alo ahi st er asp (l (Int.toNat i))) st er ale amo (vSp alo ahi st er ale amo asp (l (Int.toNat i))) ||
                          !vB (vLo blo bhi st er bsp (l (Int.toNat i))) (vHi blo bhi st er bsp (l (Int.toNat i))) st er ble bmo (vSp blo bhi st er ble bmo bsp (l (Int.toNat i))) ||
                        !vB (vLo clo chi st er csp (l (Int.toNat i))) (vHi clo chi st er csp (l (Int.toNat i))) st er cle cmo (vSp clo chi st er cle cmo csp (l (Int.toNat i))))
                      (.ret
                        (.ret,
                          {
                            tm :=
                              [.unk, .unk, .unk, .unk, .ok (bv false), .ok (bv true), .ok (.ptr 40 0), .unk, .unk, .unk, .ok (.ptr 41 0),
                                .ok (.ptr 42 0), .ok (.ptr 43 0), .ok (bv (g && gB clo chi st er (l (Int.toNat i)))), .ok (iv i), .unk, .unk, .unk, .unk, .unk, .unk, .unk,
                                .unk, .unk, .unk, .unk, .unk, .unk, .unk, .unk, .unk, .unk, .unk, .unk, .unk, .unk, .unk, .unk, .unk, .unk, .unk, .unk, .unk, .unk, .unk, .unk, .unk, .unk,
                                .unk, .unk, .unk, .unk, .unk, .unk, .unk, .unk, .unk, .unk, .unk, .unk, .unk, .unk, .unk, .unk, .unk, .unk, .unk, .unk, .unk, .unk, .unk, .unk, .unk, .unk,
                                .unk, .unk, .unk, .unk, .unk, .unk, .unk, .unk, .unk, .unk, .unk, .unk, .unk, .unk, .unk, .unk, .unk, .unk, .unk, .unk, .unk, .unk, .unk, .unk, .unk, .unk,
                                .unk, .unk, .unk, .unk, .unk, .unk, .unk, .unk, .unk, .unk, .unk, .unk, .unk, .unk, .unk, .unk, .unk, .unk, .unk, .unk, .unk, .unk, .unk, .unk, .unk, .unk,
                                .unk, .unk, .unk, .unk, .unk, .unk, .unk, .unk, .unk, .unk, .unk, .unk, .unk, .unk, .unk, .unk, .unk, .unk, .unk, .unk, .unk, .unk, .unk, .unk, .unk, .unk,
                                .unk, .unk, .unk, .unk, .unk, .unk, .unk, .unk, .unk, .unk, .unk, .unk, .unk, .unk, .unk, .unk, .unk, .unk, .unk, .unk, .unk, .unk, .unk, .unk, .unk, .unk,
                                .unk, .unk, .unk, .unk, .unk, .unk, .unk, .unk, .unk, .unk, .unk, .unk, .unk, .unk, .unk, .unk, .unk, .unk, .unk, .unk, .unk, .unk, .unk],
                            hp :=
                              [none, none, none, none, none, none, none, none, none, none, none, none, none, none, none, none, none, none, none, none, none, none, none, none, none, none, none, none, none, none, none, none, none, none, none,
                                none, none, none, none, none,
                                some
                                  (.cells
                                    [iv dlo, iv dhi, iv dst, iv der, .d (.ro (kn + 1) 1 fun i x => .x (.int .i64 (p i))), .d (.ro kn 1 fun i x => .x (.int .i64 (l i)))]),
                                some (.cells [iv (vLo alo ahi st er asp (l (Int.toNat i))), iv (vHi alo ahi st er asp (l (Int.toNat i))), iv st, iv er, iv ale, iv amo, bv (vSp alo ahi st er ale amo asp (l (Int.toNat i))), iv (0 : Int)]),
                                some (.cells [iv (vLo blo bhi st er bsp (l (Int.toNat i))), iv (vHi blo bhi st er bsp (l (Int.toNat i))), iv st, iv er, iv ble, iv bmo, bv (vSp blo bhi st er ble bmo bsp (l (Int.toNat i))), iv (0 : Int)]),
                                some
                                  (.cells [iv (vLo clo chi st er csp (l (Int.toNat i))), iv (vHi clo chi st er csp (l (Int.toNat i))), iv st, iv er, iv cle, iv cmo, bv (vSp clo chi st er cle cmo csp (l (Int.toNat i))), iv (0 : Int)])],
                            next := 44, hint := .nil }))
                      (.ret
                        (.normal,
                          {
                            tm :=
                              [.unk, .unk, .unk, .unk, .unk, .ok (bv true), .ok (.ptr 40 0), .unk, .unk, .unk, .ok (.ptr 41 0), .ok (.ptr 42 0),
                                .ok (.ptr 43 0), .ok (bv (g && gB clo chi st er (l (Int.toNat i)))), .ok (iv (w64 (i + (1 : Int)))), .unk, .unk, .unk, .unk, .unk, .unk, .unk, .unk, .unk, .unk,
                                .unk, .unk, .unk, .unk, .unk, .unk, .unk, .unk, .unk, .unk, .unk, .unk, .unk, .unk, .unk, .unk, .unk, .unk, .unk, .unk, .unk, .unk, .unk, .unk, .unk, .unk,
                                .unk, .unk, .unk, .unk, .unk, .unk, .unk, .unk, .unk, .unk, .unk, .unk, .unk, .unk, .unk, .unk, .unk, .unk, .unk, .unk, .unk, .unk, .unk, .unk, .unk, .unk,
                                .unk, .unk, .unk, .unk, .unk, .unk, .unk, .unk, .unk, .unk, .unk, .unk, .unk, .unk, .unk, .unk, .unk, .unk, .unk, .unk, .unk, .unk, .unk, .unk, .unk, .unk,
                                .unk, .unk, .unk, .unk, .unk, .unk, .unk, .unk, .unk, .unk, .unk, .unk, .unk, .unk, .unk, .unk, .unk, .unk, .unk, .unk, .unk, .unk, .unk, .unk, .unk, .unk,
                                .unk, .unk, .unk, .unk, .unk, .unk, .unk, .unk, .unk, .unk, .unk, .unk, .unk, .unk, .unk, .unk, .unk, .unk, .unk, .unk, .unk, .unk, .unk, .unk, .unk, .unk,
                                .unk, .unk, .unk, .unk, .unk, .unk, .unk, .unk, .unk, .unk, .unk, .unk, .unk, .unk, .unk, .unk, .unk, .unk, .unk, .unk, .unk, .unk, .unk, .unk, .unk, .unk,
                                .unk, .unk, .unk, .unk, .unk, .unk, .unk, .unk, .unk, .unk, .unk, .unk, .unk, .unk, .unk, .unk, .unk, .unk, .unk, .unk],
                            hp :=
                              [none, none, none, none, none, none, none, none, none, none, none, none, none, none, none, none, none, none, none, none, none, none, none, none, none, none, none, none, none, none, none, none, none, none, none,
                                none, none, none, none, none,
                                some
                                  (.cells
                                    [iv dlo, iv dhi, iv dst, iv der, .d (.ro (kn + 1) 1 fun i x => .x (.int .i64 (p i))), .d (.ro kn 1 fun i x => .x (.int .i64 (l i)))]),
                                some (.cells [iv (vLo alo ahi st er asp (l (Int.toNat i))), iv (vHi alo ahi st er asp (l (Int.toNat i))), iv st, iv er, iv ale, iv amo, bv (vSp alo ahi st er ale amo asp (l (Int.toNat i))), iv (0 : Int)]),
                                some (.cells [iv (vLo blo bhi st er bsp (l (Int.toNat i))), iv (vHi blo bhi st er bsp (l (Int.toNat i))), iv st, iv er, iv ble, iv bmo, bv (vSp blo bhi st er ble bmo bsp (l (Int.toNat i))), iv (0 : Int)]),
                                some
                                  (.cells [iv (vLo clo chi st er csp (l (Int.toNat i))), iv (vHi clo chi st er csp (l (Int.toNat i))), iv st, iv er, iv cle, iv cmo, bv (vSp clo chi st er cle cmo csp (l (Int.toNat i))), iv (0 : Int)])],
                            next := 44, hint := .nil }))))))))))))
  (.ret
    (.exit 0,
      {
        tm :=
          [.unk, .unk, .unk, .unk, .unk, .ok (bv true), .ok (.ptr 40 0), .unk, .unk, .unk, .ok (.ptr 41 0), .ok (.ptr 42 0),
            .ok (.ptr 43 0), .ok (bv g), .ok (iv i), .unk, .unk, .unk, .unk, .unk, .unk, .unk, .unk, .unk, .unk, .unk, .unk, .unk, .unk, .unk, .unk, .unk, .unk, .unk, .unk,
            .unk, .unk, .unk, .unk, .unk, .unk, .unk, .unk, .unk, .unk, .unk, .unk, .unk, .unk, .unk, .unk, .unk, .unk, .unk, .unk, .unk, .unk, .unk, .unk, .unk, .unk, .unk, .unk,
            .unk, .unk, .unk, .unk, .unk, .unk, .unk, .unk, .unk, .unk, .unk, .unk, .unk, .unk, .unk, .unk, .unk, .unk, .unk, .unk, .unk, .unk, .unk, .unk, .unk, .unk, .unk, .unk,
            .unk, .unk, .unk, .unk, .unk, .unk, .unk, .unk, .unk, .unk, .unk, .unk, .unk, .unk, .unk, .unk, .unk, .unk, .unk, .unk, .unk, .unk, .unk, .unk, .unk, .unk, .unk, .unk,
            .unk, .unk, .unk, .unk, .unk, .unk, .unk, .unk, .unk, .unk, .unk, .unk, .unk, .unk, .unk, .unk, .unk, .unk, .unk, .unk, .unk, .unk, .unk, .unk, .unk, .unk, .unk, .unk,
            .unk, .unk, .unk, .unk, .unk, .unk, .unk, .unk, .unk, .unk, .unk, .unk, .unk, .unk, .unk, .unk, .unk, .unk, .unk, .unk, .unk, .unk, .unk, .unk, .unk, .unk, .unk, .unk,
            .unk, .unk, .unk, .unk, .unk, .unk, .unk, .unk, .unk, .unk, .unk, .unk, .unk, .unk, .unk, .unk, .unk, .unk, .unk, .unk, .unk, .unk, .unk, .unk, .unk, .unk],
        hp :=
          [none, none, none, none, none, none, none, none, none, none, none, none, none, none, none, none, none, none, none, none, none, none, none, none, none, none, none, none, none, none, none, none, none, none, none, none, none, none,
            none, none, some (.cells [iv dlo, iv dhi, iv dst, iv der, .d (.ro (kn + 1) 1 fun i x => .x (.int .i64 (p i))), .d (.ro kn 1 fun i x => .x (.int .i64 (l i)))]),
            some (.cells [iv alo, iv ahi, iv st, iv er, iv ale, iv amo, bv asp, iv (0 : Int)]), some (.cells [iv blo, iv bhi, iv st, iv er, iv ble, iv bmo, bv bsp, iv (0 : Int)]),
            some (.cells [iv clo, iv chi, iv st, iv er, iv cle, iv cmo, bv csp, iv (0 : Int)])],
        next := 44, hint := .nil }))

theorem B4_eq (dlo dhi dst der : Int) (kn : Nat) (p l : Nat → Int) (alo ahi st er ale amo : Int) (asp : Bool) (blo bhi ble bmo : Int) (bsp : Bool) (clo chi cle cmo : Int) (csp : Bool) (g : Bool) (i : Int) : cutT 40 [(.slot 6, 40), (.slot 10, 41), (.slot 11, 42), (.slot 12, 43)] [4, 5, 6, 10, 11, 12, 13, 14] (List.range 40) 44 .nil (exec Try.prog C2 D2 200 (loopN (bodyOf Try.prog 4) 0) (inv4 dlo dhi dst der kn p l (goM alo ahi st er ale amo asp) (goM blo bhi st er ble bmo bsp) (goM clo chi st er cle cmo csp) g i)) = B4 dlo dhi dst der kn p l alo ahi st er ale amo asp blo bhi ble bmo bsp clo chi cle cmo csp g i := by kernel_rfl

noncomputable def K4 (lo wi st er be ov : Int) (n : Nat) (cell : Nat → Nat → DV) (k0 k1 k2 k3 : Int) (dlo dhi dst der : Int) (kn : Nat) (p l : Nat → Int) (alo ahi ast aer ale amo : Int) (asp : Bool) (blo bhi ble bmo : Int) (bsp : Bool) (clo chi cle cmo : Int) (csp : Bool) (g : Bool) (i : Int) : Tree SV :=
  .ret (bv ((asp || !bsp && (!g || !csp)) && true))

theorem K4_eq (lo wi st er be ov : Int) (n : Nat) (cell : Nat → Nat → DV) (k0 k1 k2 k3 : Int) (dlo dhi dst der : Int) (kn : Nat) (p l : Nat → Int) (alo ahi ast aer ale amo : Int) (asp : Bool) (blo bhi ble bmo : Int) (bsp : Bool) (clo chi cle cmo : Int) (csp : Bool) (g : Bool) (i : Int) : codeK (sub p4 (t4 lo wi st er be ov n cell k0 k1 k2 k3)) (.exit 0) (inv4 dlo dhi dst der kn p l (goM alo ahi ast aer ale amo asp) (goM blo bhi ast aer ble bmo bsp) (goM clo chi ast aer cle cmo csp) g i) = K4 lo wi st er be ov n cell k0 k1 k2 k3 dlo dhi dst der kn p l alo ahi ast aer ale amo asp blo bhi ble bmo bsp clo chi cle cmo csp g i := by kernel_rfl


noncomputable def body4 : Code := loopN (bodyOf Try.prog 4) 0
theorem C4 (lo wi st er be ov : Int) (n : Nat) (cell : Nat → Nat → DV) (k0 k1 k2 k3 : Int) : codeC (sub p4 (t4 lo wi st er be ov n cell k0 k1 k2 k3)) = .loop body4 := by kernel_rfl
theorem N4 (lo wi st er be ov : Int) (n : Nat) (cell : Nat → Nat → DV) (k0 k1 k2 k3 : Int) : Nat.ble (codeS (sub p4 (t4 lo wi st er be ov n cell k0 k1 k2 k3))).next 40 = true := by kernel_rfl

end Go.Proofs.Ytcbjclmjkilphaa
