/- Part of a proof of the given statements of this seat (SxMdL3): no conditions beyond those typed here. -/
import Derived.Test.YtcbjclmjkilphaaSxMdJ
set_option linter.unusedVariables false
set_option linter.unusedSimpArgs false
namespace Go.Proofs.Ytcbjclmjkilphaa
open Go.Sx
set_option maxRecDepth 100000

noncomputable def t3 (lo wi st er be ov r : Int) (n : Nat) (cell : Nat → Nat → DV) (a b c d e f : Int) (s : Bool) : Tree SV := T2 3 [.agg [u8 lo, u8 wi, u8 st, u8 er, .d (.ro n 1 cell), u8 be, u8 ov], mon a b c d e f s, iv r] (.br .nil (.br .nil .nil))
noncomputable def in3 (t : Tree SV) : Option AS := entA 31 [(.slot 9, 31)] [2, 7, 9, 10] (List.range 31) 32 .nil t
noncomputable def mcell (lo hi st er le mo : Nat → Int) (sp : Nat → Bool) : Nat → Nat → DV := fun a j => match j with
  | 0 => xi (lo a)
  | 1 => xi (hi a)
  | 2 => xi (st a)
  | 3 => xi (er a)
  | 4 => xi (le a)
  | 5 => xi (mo a)
  | _ => .x (.bool (sp a))
noncomputable def inv3 (r : Int) (N : Nat) (i : Int) (lo hi st er le mo : Nat → Int) (sp : Nat → Bool) : AS :=
  ⟨[.unk, .unk, .ok (iv r), .unk, .unk, .unk, .unk, .ok (bv true), .unk, .ok (.row 31 0 0 N 7), .ok (iv i)] ++ List.replicate 90 .unk, List.replicate 31 none ++ [some (.row N 7 (mcell lo hi st er le mo sp))], 32, .nil⟩

noncomputable def L3 (lo wi st er be ov r : Int) (n : Nat) (cell : Nat → Nat → DV) (a b c d e f : Int) (s : Bool) : Tree SV :=
  .ite false (.ret (bv false))
  (.need
    ((0 ≤ lo ∧ lo < 256) ∧
      (0 ≤ wi ∧ wi < 256) ∧ (0 ≤ st ∧ st < 256) ∧ (0 ≤ er ∧ er < 256) ∧ n ≤ 9223372036854775807 ∧ (∀ (i : Nat), i < n → ∃ b, cell i 0 = .x (.int .u8 b) ∧ 0 ≤ b ∧ b < 256) ∧ (0 ≤ be ∧ be < 256) ∧ 0 ≤ ov ∧ ov < 256)
    (.ite
      (!vB a b c d e f s == vB a b c d e f s ||
          !(zif (okB a b c d e f) a == zif (okB a b c d e f) a &&
                (zif (okB a b c d e f) b == zif (okB a b c d e f) b &&
                  (zif (okB a b c d e f) c == zif (okB a b c d e f) c &&
                    (zif (okB a b c d e f) d == zif (okB a b c d e f) d &&
                      (zif (okB a b c d e f) e == zif (okB a b c d e f) e && (zif (okB a b c d e f) f == zif (okB a b c d e f) f && ((okB a b c d e f && !inR a b c e f) == (okB a b c d e f && !inR a b c e f) && true)))))) &&
              (zerr (okB a b c d e f) == zerr (okB a b c d e f) && true)) ||
        !vB (sLo lo) (sHi lo wi) (st % 6) (er % 6) (mLe lo be) (mMo lo wi ov) !inR (sLo lo) (sHi lo wi) (st % 6) (mLe lo be) (mMo lo wi ov))
      (.ret (bv false))
      (.need (okM (sLo lo) (sHi lo wi) (st % 6) (er % 6) (mLe lo be) (mMo lo wi ov))
        (.need (okM (sLo lo) (sHi lo wi) (st % 6) (er % 6) (mLe lo be) (mMo lo wi ov))
          (.ite (vB a b c d e f s)
            (.need
              (21 ≤
                  List.length
                    [iv (sLo lo), iv (sHi lo wi), iv (st % 6), iv (er % 6), iv (mLe lo be), iv (mMo lo wi ov), bv !inR (sLo lo) (sHi lo wi) (st % 6) (mLe lo be) (mMo lo wi ov),
                      iv (vLo (sLo lo) (sHi lo wi) (st % 6) (er % 6) (!inR (sLo lo) (sHi lo wi) (st % 6) (mLe lo be) (mMo lo wi ov)) r),
                      iv (vHi (sLo lo) (sHi lo wi) (st % 6) (er % 6) (!inR (sLo lo) (sHi lo wi) (st % 6) (mLe lo be) (mMo lo wi ov)) r), iv (st % 6), iv (er % 6), iv (mLe lo be), iv (mMo lo wi ov),
                      bv (vSp (sLo lo) (sHi lo wi) (st % 6) (er % 6) (mLe lo be) (mMo lo wi ov) (!inR (sLo lo) (sHi lo wi) (st % 6) (mLe lo be) (mMo lo wi ov)) r),
                      iv (uLo (sLo lo) (st % 6) !inR (sLo lo) (sHi lo wi) (st % 6) (mLe lo be) (mMo lo wi ov)), iv (uHi (sHi lo wi) (st % 6) !inR (sLo lo) (sHi lo wi) (st % 6) (mLe lo be) (mMo lo wi ov)), iv (st % 6), iv (er % 6),
                      iv (mLe lo be), iv (mMo lo wi ov), bv (uSp (sLo lo) (sHi lo wi) (st % 6) (mLe lo be) (mMo lo wi ov) !inR (sLo lo) (sHi lo wi) (st % 6) (mLe lo be) (mMo lo wi ov))] ∧
                7 ≤ List.length [iv a, iv b, iv c, iv d, iv e, iv f, bv s] ∧ 224 ≤ 140737488355328)
              (.code (codeC (sub [1, 0, 1, 0, 0, 0, 0] (t3 lo wi st er be ov r n cell a b c d e f s))) (codeS (sub [1, 0, 1, 0, 0, 0, 0] (t3 lo wi st er be ov r n cell a b c d e f s)))
                (codeK (sub [1, 0, 1, 0, 0, 0, 0] (t3 lo wi st er be ov r n cell a b c d e f s)))))
            (.code (codeC (sub [1, 0, 1, 0, 0, 1] (t3 lo wi st er be ov r n cell a b c d e f s))) (codeS (sub [1, 0, 1, 0, 0, 1] (t3 lo wi st er be ov r n cell a b c d e f s)))
              (codeK (sub [1, 0, 1, 0, 0, 1] (t3 lo wi st er be ov r n cell a b c d e f s)))))))))

theorem L3_eq (lo wi st er be ov r : Int) (n : Nat) (cell : Nat → Nat → DV) (a b c d e f : Int) (s : Bool) : t3 lo wi st er be ov r n cell a b c d e f s = L3 lo wi st er be ov r n cell a b c d e f s := by kernel_rfl

noncomputable def I3a (lo wi st er be ov r : Int) (n : Nat) (cell : Nat → Nat → DV) (a b c d e f : Int) (s : Bool) : Option AS :=
  some
  {
    tm :=
      [.unk, .unk, .ok (iv r), .unk, .unk, .unk, .unk, .ok (bv true), .unk, .ok (.row 31 0 0 4 7), .ok (iv 0), .unk, .unk, .unk, .unk, .unk, .unk, .unk, .unk, .unk, .unk, .unk, .unk, .unk,
        .unk, .unk, .unk, .unk, .unk, .unk, .unk, .unk, .unk, .unk, .unk, .unk, .unk, .unk, .unk, .unk, .unk, .unk, .unk, .unk, .unk, .unk, .unk, .unk, .unk, .unk, .unk, .unk, .unk,
        .unk, .unk, .unk, .unk, .unk, .unk, .unk, .unk, .unk, .unk, .unk, .unk, .unk, .unk, .unk, .unk, .unk, .unk, .unk, .unk, .unk, .unk, .unk, .unk, .unk, .unk, .unk, .unk, .unk,
        .unk, .unk, .unk, .unk, .unk, .unk, .unk, .unk, .unk, .unk, .unk, .unk, .unk, .unk, .unk, .unk, .unk, .unk, .unk],
    hp :=
      [none, none, none, none, none, none, none, none, none, none, none, none, none, none, none, none, none, none, none, none, none, none, none, none, none, none, none, none, none, none, none,
        some
          (.row 4 7 fun a_1 b_1 =>
            selD (decide (a_1 < 3))
              (dsAt
                [.x (.int .i64 (sLo lo)), .x (.int .i64 (sHi lo wi)), .x (.int .i64 (st % 6)), .x (.int .i64 (er % 6)), .x (.int .i64 (mLe lo be)),
                  .x (.int .i64 (mMo lo wi ov)), .x (.bool !inR (sLo lo) (sHi lo wi) (st % 6) (mLe lo be) (mMo lo wi ov)),
                  .x (.int .i64 (vLo (sLo lo) (sHi lo wi) (st % 6) (er % 6) (!inR (sLo lo) (sHi lo wi) (st % 6) (mLe lo be) (mMo lo wi ov)) r)),
                  .x (.int .i64 (vHi (sLo lo) (sHi lo wi) (st % 6) (er % 6) (!inR (sLo lo) (sHi lo wi) (st % 6) (mLe lo be) (mMo lo wi ov)) r)), .x (.int .i64 (st % 6)), .x (.int .i64 (er % 6)),
                  .x (.int .i64 (mLe lo be)), .x (.int .i64 (mMo lo wi ov)),
                  .x (.bool (vSp (sLo lo) (sHi lo wi) (st % 6) (er % 6) (mLe lo be) (mMo lo wi ov) (!inR (sLo lo) (sHi lo wi) (st % 6) (mLe lo be) (mMo lo wi ov)) r)),
                  .x (.int .i64 (uLo (sLo lo) (st % 6) !inR (sLo lo) (sHi lo wi) (st % 6) (mLe lo be) (mMo lo wi ov))),
                  .x (.int .i64 (uHi (sHi lo wi) (st % 6) !inR (sLo lo) (sHi lo wi) (st % 6) (mLe lo be) (mMo lo wi ov))), .x (.int .i64 (st % 6)), .x (.int .i64 (er % 6)),
                  .x (.int .i64 (mLe lo be)), .x (.int .i64 (mMo lo wi ov)),
                  .x (.bool (uSp (sLo lo) (sHi lo wi) (st % 6) (mLe lo be) (mMo lo wi ov) !inR (sLo lo) (sHi lo wi) (st % 6) (mLe lo be) (mMo lo wi ov)))]
                (0 + (0 + a_1) * 7 + b_1))
              (dsAt [.x (.int .i64 a), .x (.int .i64 b), .x (.int .i64 c), .x (.int .i64 d), .x (.int .i64 e), .x (.int .i64 f), .x (.bool s)]
                (0 + (0 + (a_1 - 3)) * 7 + b_1)))],
    next := 32, hint := .nil }

theorem I3a_eq (lo wi st er be ov r : Int) (n : Nat) (cell : Nat → Nat → DV) (a b c d e f : Int) (s : Bool) : in3 (sub [1, 0, 1, 0, 0, 0, 0] (t3 lo wi st er be ov r n cell a b c d e f s)) = I3a lo wi st er be ov r n cell a b c d e f s := by kernel_rfl

noncomputable def I3b (lo wi st er be ov r : Int) (n : Nat) (cell : Nat → Nat → DV) (a b c d e f : Int) (s : Bool) : Option AS :=
  some
  {
    tm :=
      [.unk, .unk, .ok (iv r), .unk, .unk, .unk, .unk, .ok (bv true), .unk, .ok (.row 31 0 0 3 7), .ok (iv 0), .unk, .unk, .unk, .unk, .unk, .unk, .unk, .unk, .unk, .unk, .unk, .unk, .unk,
        .unk, .unk, .unk, .unk, .unk, .unk, .unk, .unk, .unk, .unk, .unk, .unk, .unk, .unk, .unk, .unk, .unk, .unk, .unk, .unk, .unk, .unk, .unk, .unk, .unk, .unk, .unk, .unk, .unk,
        .unk, .unk, .unk, .unk, .unk, .unk, .unk, .unk, .unk, .unk, .unk, .unk, .unk, .unk, .unk, .unk, .unk, .unk, .unk, .unk, .unk, .unk, .unk, .unk, .unk, .unk, .unk, .unk, .unk,
        .unk, .unk, .unk, .unk, .unk, .unk, .unk, .unk, .unk, .unk, .unk, .unk, .unk, .unk, .unk, .unk, .unk, .unk, .unk],
    hp :=
      [none, none, none, none, none, none, none, none, none, none, none, none, none, none, none, none, none, none, none, none, none, none, none, none, none, none, none, none, none, none, none,
        some
          (.cells
            [iv (sLo lo), iv (sHi lo wi), iv (st % 6), iv (er % 6), iv (mLe lo be), iv (mMo lo wi ov), bv !inR (sLo lo) (sHi lo wi) (st % 6) (mLe lo be) (mMo lo wi ov),
              iv (vLo (sLo lo) (sHi lo wi) (st % 6) (er % 6) (!inR (sLo lo) (sHi lo wi) (st % 6) (mLe lo be) (mMo lo wi ov)) r),
              iv (vHi (sLo lo) (sHi lo wi) (st % 6) (er % 6) (!inR (sLo lo) (sHi lo wi) (st % 6) (mLe lo be) (mMo lo wi ov)) r), iv (st % 6), iv (er % 6), iv (mLe lo be), iv (mMo lo wi ov),
              bv (vSp (sLo lo) (sHi lo wi) (st % 6) (er % 6) (mLe lo be) (mMo lo wi ov) (!inR (sLo lo) (sHi lo wi) (st % 6) (mLe lo be) (mMo lo wi ov)) r),
              iv (uLo (sLo lo) (st % 6) !inR (sLo lo) (sHi lo wi) (st % 6) (mLe lo be) (mMo lo wi ov)), iv (uHi (sHi lo wi) (st % 6) !inR (sLo lo) (sHi lo wi) (st % 6) (mLe lo be) (mMo lo wi ov)), iv (st % 6), iv (er % 6), iv (mLe lo be),
              iv (mMo lo wi ov), bv (uSp (sLo lo) (sHi lo wi) (st % 6) (mLe lo be) (mMo lo wi ov) !inR (sLo lo) (sHi lo wi) (st % 6) (mLe lo be) (mMo lo wi ov))])],
    next := 32, hint := .nil }

theorem I3b_eq (lo wi st er be ov r : Int) (n : Nat) (cell : Nat → Nat → DV) (a b c d e f : Int) (s : Bool) : in3 (sub [1, 0, 1, 0, 0, 1] (t3 lo wi st er be ov r n cell a b c d e f s)) = I3b lo wi st er be ov r n cell a b c d e f s := by kernel_rfl

noncomputable def B3 (r : Int) (N : Nat) (i : Int) (lo hi st er le mo : Nat → Int) (sp : Nat → Bool) : Tree (Ex × AS) :=
  .ite (decide (i < (↑N : Int)))
  (.need (0 ≤ i ∧ i < (↑N : Int))
    (.need (0 + Int.toNat i < N)
      (.need (okM (lo (0 + Int.toNat i)) (hi (0 + Int.toNat i)) (st (0 + Int.toNat i)) (er (0 + Int.toNat i)) (le (0 + Int.toNat i)) (mo (0 + Int.toNat i)))
        (.need (okM (lo (0 + Int.toNat i)) (hi (0 + Int.toNat i)) (st (0 + Int.toNat i)) (er (0 + Int.toNat i)) (le (0 + Int.toNat i)) (mo (0 + Int.toNat i)))
          (.need
            ((!(oLo (lo (0 + Int.toNat i)) (st (0 + Int.toNat i)) == oLo (lo (0 + Int.toNat i)) (st (0 + Int.toNat i)) && (hi (0 + Int.toNat i) + st (0 + Int.toNat i) == hi (0 + Int.toNat i) + st (0 + Int.toNat i) && true))) = false →
              okM (lo (0 + Int.toNat i)) (hi (0 + Int.toNat i)) (st (0 + Int.toNat i)) (er (0 + Int.toNat i)) (le (0 + Int.toNat i)) (mo (0 + Int.toNat i)))
            (.need
              ((!(oLo (lo (0 + Int.toNat i)) (st (0 + Int.toNat i)) == oLo (lo (0 + Int.toNat i)) (st (0 + Int.toNat i)) && (hi (0 + Int.toNat i) + st (0 + Int.toNat i) == hi (0 + Int.toNat i) + st (0 + Int.toNat i) && true))) = false →
                okM (lo (0 + Int.toNat i)) (hi (0 + Int.toNat i)) (st (0 + Int.toNat i)) (er (0 + Int.toNat i)) (le (0 + Int.toNat i)) (mo (0 + Int.toNat i)))
              (.need
                ((!(oLo (lo (0 + Int.toNat i)) (st (0 + Int.toNat i)) == oLo (lo (0 + Int.toNat i)) (st (0 + Int.toNat i)) && (hi (0 + Int.toNat i) + st (0 + Int.toNat i) == hi (0 + Int.toNat i) + st (0 + Int.toNat i) && true)) ||
                      !gB (lo (0 + Int.toNat i)) (hi (0 + Int.toNat i)) (st (0 + Int.toNat i)) (er (0 + Int.toNat i)) r == gB (lo (0 + Int.toNat i)) (hi (0 + Int.toNat i)) (st (0 + Int.toNat i)) (er (0 + Int.toNat i)) r) =
                    false →
                  okM (lo (0 + Int.toNat i)) (hi (0 + Int.toNat i)) (st (0 + Int.toNat i)) (er (0 + Int.toNat i)) (le (0 + Int.toNat i)) (mo (0 + Int.toNat i)))
                (.need
                  ((!(oLo (lo (0 + Int.toNat i)) (st (0 + Int.toNat i)) == oLo (lo (0 + Int.toNat i)) (st (0 + Int.toNat i)) && (hi (0 + Int.toNat i) + st (0 + Int.toNat i) == hi (0 + Int.toNat i) + st (0 + Int.toNat i) && true)) ||
                        !gB (lo (0 + Int.toNat i)) (hi (0 + Int.toNat i)) (st (0 + Int.toNat i)) (er (0 + Int.toNat i)) r == gB (lo (0 + Int.toNat i)) (hi (0 + Int.toNat i)) (st (0 + Int.toNat i)) (er (0 + Int.toNat i)) r) =
                      false →
                    okM (lo (0 + Int.toNat i)) (hi (0 + Int.toNat i)) (st (0 + Int.toNat i)) (er (0 + Int.toNat i)) (le (0 + Int.toNat i)) (mo (0 + Int.toNat i)))
                  (.need
                    ((!(oLo (lo (0 + Int.toNat i)) (st (0 + Int.toNat i)) == oLo (lo (0 + Int.toNat i)) (st (0 + Int.toNat i)) && (hi (0 + Int.toNat i) + st (0 + Int.toNat i) == hi (0 + Int.toNat i) + st (0 + Int.toNat i) && true)) ||
                            !gB (lo (0 + Int.toNat i)) (hi (0 + Int.toNat i)) (st (0 + Int.toNat i)) (er (0 + Int.toNat i)) r == gB (lo (0 + Int.toNat i)) (hi (0 + Int.toNat i)) (st (0 + Int.toNat i)) (er (0 + Int.toNat i)) r ||
                          !(vLo (lo (0 + Int.toNat i)) (hi (0 + Int.toNat i)) (st (0 + Int.toNat i)) (er (0 + Int.toNat i)) (sp (0 + Int.toNat i)) r ==
                                vLo (lo (0 + Int.toNat i)) (hi (0 + Int.toNat i)) (st (0 + Int.toNat i)) (er (0 + Int.toNat i)) (sp (0 + Int.toNat i)) r &&
                              (vHi (lo (0 + Int.toNat i)) (hi (0 + Int.toNat i)) (st (0 + Int.toNat i)) (er (0 + Int.toNat i)) (sp (0 + Int.toNat i)) r ==
                                  vHi (lo (0 + Int.toNat i)) (hi (0 + Int.toNat i)) (st (0 + Int.toNat i)) (er (0 + Int.toNat i)) (sp (0 + Int.toNat i)) r &&
                                (st (0 + Int.toNat i) == st (0 + Int.toNat i) &&
                                  (er (0 + Int.toNat i) == er (0 + Int.toNat i) &&
                                    (le (0 + Int.toNat i) == le (0 + Int.toNat i) &&
                                      (mo (0 + Int.toNat i) == mo (0 + Int.toNat i) &&
                                        (vSp (lo (0 + Int.toNat i)) (hi (0 + Int.toNat i)) (st (0 + Int.toNat i)) (er (0 + Int.toNat i)) (le (0 + Int.toNat i)) (mo (0 + Int.toNat i)) (sp (0 + Int.toNat i)) r ==
                                            vSp (lo (0 + Int.toNat i)) (hi (0 + Int.toNat i)) (st (0 + Int.toNat i)) (er (0 + Int.toNat i)) (le (0 + Int.toNat i)) (mo (0 + Int.toNat i)) (sp (0 + Int.toNat i)) r &&
                                          true)))))))) =
                        false →
                      okM (lo (0 + Int.toNat i)) (hi (0 + Int.toNat i)) (st (0 + Int.toNat i)) (er (0 + Int.toNat i)) (le (0 + Int.toNat i)) (mo (0 + Int.toNat i)))
                    (.need
                      ((!(oLo (lo (0 + Int.toNat i)) (st (0 + Int.toNat i)) == oLo (lo (0 + Int.toNat i)) (st (0 + Int.toNat i)) && (hi (0 + Int.toNat i) + st (0 + Int.toNat i) == hi (0 + Int.toNat i) + st (0 + Int.toNat i) && true)) ||
                              !gB (lo (0 + Int.toNat i)) (hi (0 + Int.toNat i)) (st (0 + Int.toNat i)) (er (0 + Int.toNat i)) r == gB (lo (0 + Int.toNat i)) (hi (0 + Int.toNat i)) (st (0 + Int.toNat i)) (er (0 + Int.toNat i)) r ||
                            !(vLo (lo (0 + Int.toNat i)) (hi (0 + Int.toNat i)) (st (0 + Int.toNat i)) (er (0 + Int.toNat i)) (sp (0 + Int.toNat i)) r ==
                                  vLo (lo (0 + Int.toNat i)) (hi (0 + Int.toNat i)) (st (0 + Int.toNat i)) (er (0 + Int.toNat i)) (sp (0 + Int.toNat i)) r &&
                                (vHi (lo (0 + Int.toNat i)) (hi (0 + Int.toNat i)) (st (0 + Int.toNat i)) (er (0 + Int.toNat i)) (sp (0 + Int.toNat i)) r ==
                                    vHi (lo (0 + Int.toNat i)) (hi (0 + Int.toNat i)) (st (0 + Int.toNat i)) (er (0 + Int.toNat i)) (sp (0 + Int.toNat i)) r &&
                                  (st (0 + Int.toNat i) == st (0 + Int.toNat i) &&
                                    (er (0 + Int.toNat i) == er (0 + Int.toNat i) &&
                                      (le (0 + Int.toNat i) == le (0 + Int.toNat i) &&
                                        (mo (0 + Int.toNat i) == mo (0 + Int.toNat i) &&
                                          (vSp (lo (0 + Int.toNat i)) (hi (0 + Int.toNat i)) (st (0 + Int.toNat i)) (er (0 + Int.toNat i)) (le (0 + Int.toNat i)) (mo (0 + Int.toNat i)) (sp (0 + Int.toNat i)) r ==
                                              vSp (lo (0 + Int.toNat i)) (hi (0 + Int.toNat i)) (st (0 + Int.toNat i)) (er (0 + Int.toNat i)) (le (0 + Int.toNat i)) (mo (0 + Int.toNat i)) (sp (0 + Int.toNat i)) r &&
                                            true)))))))) =
                          false →
                        okM (lo (0 + Int.toNat i)) (hi (0 + Int.toNat i)) (st (0 + Int.toNat i)) (er (0 + Int.toNat i)) (le (0 + Int.toNat i)) (mo (0 + Int.toNat i)))
                      (.need
                        ((!(oLo (lo (0 + Int.toNat i)) (st (0 + Int.toNat i)) == oLo (lo (0 + Int.toNat i)) (st (0 + Int.toNat i)) && (hi (0 + Int.toNat i) + st (0 + Int.toNat i) == hi (0 + Int.toNat i) + st (0 + Int.toNat i) && true)) ||
                                  !gB (lo (0 + Int.toNat i)) (hi (0 + Int.toNat i)) (st (0 + Int.toNat i)) (er (0 + Int.toNat i)) r == gB (lo (0 + Int.toNat i)) (hi (0 + Int.toNat i)) (st (0 + Int.toNat i)) (er (0 + Int.toNat i)) r ||
                                !(vLo (lo (0 + Int.toNat i)) (hi (0 + Int.toNat i)) (st (0 + Int.toNat i)) (er (0 + Int.toNat i)) (sp (0 + Int.toNat i)) r ==
                                      vLo (lo (0 + Int.toNat i)) (hi (0 + Int.toNat i)) (st (0 + Int.toNat i)) (er (0 + Int.toNat i)) (sp (0 + Int.toNat i)) r &&
                                    (vHi (lo (0 + Int.toNat i)) (hi (0 + Int.toNat i)) (st (0 + Int.toNat i)) (er (0 + Int.toNat i)) (sp (0 + Int.toNat i)) r ==
                                        vHi (lo (0 + Int.toNat i)) (hi (0 + Int.toNat i)) (st (0 + Int.toNat i)) (er (0 + Int.toNat i)) (sp (0 + Int.toNat i)) r &&
                                      (st (0 + Int.toNat i) == st (0 + Int.toNat i) &&
                                        (er (0 + Int.toNat i) == er (0 + Int.toNat i) &&
                                          (le (0 + Int.toNat i) == le (0 + Int.toNat i) &&
                                            (mo (0 + Int.toNat i) == mo (0 + Int.toNat i) &&
                                              (vSp (lo (0 + Int.toNat i)) (hi (0 + Int.toNat i)) (st (0 + Int.toNat i)) (er (0 + Int.toNat i)) (le (0 + Int.toNat i)) (mo (0 + Int.toNat i)) (sp (0 + Int.toNat i)) r ==
                                                  vSp (lo (0 + Int.toNat i)) (hi (0 + Int.toNat i)) (st (0 + Int.toNat i)) (er (0 + Int.toNat i)) (le (0 + Int.toNat i)) (mo (0 + Int.toNat i)) (sp (0 + Int.toNat i)) r &&
                                                true))))))) ||
                              !(uLo (lo (0 + Int.toNat i)) (st (0 + Int.toNat i)) (sp (0 + Int.toNat i)) == uLo (lo (0 + Int.toNat i)) (st (0 + Int.toNat i)) (sp (0 + Int.toNat i)) &&
                                  (uHi (hi (0 + Int.toNat i)) (st (0 + Int.toNat i)) (sp (0 + Int.toNat i)) == uHi (hi (0 + Int.toNat i)) (st (0 + Int.toNat i)) (sp (0 + Int.toNat i)) &&
                                    (st (0 + Int.toNat i) == st (0 + Int.toNat i) &&
                                      (er (0 + Int.toNat i) == er (0 + Int.toNat i) &&
                                        (le (0 + Int.toNat i) == le (0 + Int.toNat i) &&
                                          (mo (0 + Int.toNat i) == mo (0 + Int.toNat i) &&
                                            (uSp (lo (0 + Int.toNat i)) (hi (0 + Int.toNat i)) (st (0 + Int.toNat i)) (le (0 + Int.toNat i)) (mo (0 + Int.toNat i)) (sp (0 + Int.toNat i)) ==
                                                uSp (lo (0 + Int.toNat i)) (hi (0 + Int.toNat i)) (st (0 + Int.toNat i)) (le (0 + Int.toNat i)) (mo (0 + Int.toNat i)) (sp (0 + Int.toNat i)) &&
                                              true)))))))) =
                            false →
                          okM (lo (0 + Int.toNat i)) (hi (0 + Int.toNat i)) (st (0 + Int.toNat i)) (er (0 + Int.toNat i)) (le (0 + Int.toNat i)) (mo (0 + Int.toNat i)))
                        (.need
                          ((!(oLo (lo (0 + Int.toNat i)) (st (0 + Int.toNat i)) == oLo (lo (0 + Int.toNat i)) (st (0 + Int.toNat i)) && (hi (0 + Int.toNat i) + st (0 + Int.toNat i) == hi (0 + Int.toNat i) + st (0 + Int.toNat i) && true)) ||
                                      !gB (lo (0 + Int.toNat i)) (hi (0 + Int.toNat i)) (st (0 + Int.toNat i)) (er (0 + Int.toNat i)) r == gB (lo (0 + Int.toNat i)) (hi (0 + Int.toNat i)) (st (0 + Int.toNat i)) (er (0 + Int.toNat i)) r ||
                                    !(vLo (lo (0 + Int.toNat i)) (hi (0 + Int.toNat i)) (st (0 + Int.toNat i)) (er (0 + Int.toNat i)) (sp (0 + Int.toNat i)) r ==
                                          vLo (lo (0 + Int.toNat i)) (hi (0 + Int.toNat i)) (st (0 + Int.toNat i)) (er (0 + Int.toNat i)) (sp (0 + Int.toNat i)) r &&
                                        (vHi (lo (0 + Int.toNat i)) (hi (0 + Int.toNat i)) (st (0 + Int.toNat i)) (er (0 + Int.toNat i)) (sp (0 + Int.toNat i)) r ==
                                            vHi (lo (0 + Int.toNat i)) (hi (0 + Int.toNat i)) (st (0 + Int.toNat i)) (er (0 + Int.toNat i)) (sp (0 + Int.toNat i)) r &&
                                          (st (0 + Int.toNat i) == st (0 + Int.toNat i) &&
                                            (er (0 + Int.toNat i) == er (0 + Int.toNat i) &&
                                              (le (0 + Int.toNat i) == le (0 + Int.toNat i) &&
                                                (mo (0 + Int.toNat i) == mo (0 + Int.toNat i) &&
                                                  (vSp (lo (0 + Int.toNat i)) (hi (0 + Int.toNat i)) (st (0 + Int.toNat i)) (er (0 + Int.toNat i)) (le (0 + Int.toNat i)) (mo (0 + Int.toNat i)) (sp (0 + Int.toNat i)) r ==
                                                      vSp (lo (0 + Int.toNat i)) (hi (0 + Int.toNat i)) (st (0 + Int.toNat i)) (er (0 + Int.toNat i)) (le (0 + Int.toNat i)) (mo (0 + Int.toNat i)) (sp (0 + Int.toNat i)) r &&
                                                    true))))))) ||
                                  !(uLo (lo (0 + Int.toNat i)) (st (0 + Int.toNat i)) (sp (0 + Int.toNat i)) == uLo (lo (0 + Int.toNat i)) (st (0 + Int.toNat i)) (sp (0 + Int.toNat i)) &&
                                      (uHi (hi (0 + Int.toNat i)) (st (0 + Int.toNat i)) (sp (0 + Int.toNat i)) == uHi (hi (0 + Int.toNat i)) (st (0 + Int.toNat i)) (sp (0 + Int.toNat i)) &&
                                        (st (0 + Int.toNat i) == st (0 + Int.toNat i) &&
                                          (er (0 + Int.toNat i) == er (0 + Int.toNat i) &&
                                            (le (0 + Int.toNat i) == le (0 + Int.toNat i) &&
                                              (mo (0 + Int.toNat i) == mo (0 + Int.toNat i) &&
                                                (uSp (lo (0 + Int.toNat i)) (hi (0 + Int.toNat i)) (st (0 + Int.toNat i)) (le (0 + Int.toNat i)) (mo (0 + Int.toNat i)) (sp (0 + Int.toNat i)) ==
                                                    uSp (lo (0 + Int.toNat i)) (hi (0 + Int.toNat i)) (st (0 + Int.toNat i)) (le (0 + Int.toNat i)) (mo (0 + Int.toNat i)) (sp (0 + Int.toNat i)) &&
                                                  true))))))) ||
                                !vB (vLo (lo (0 + Int.toNat i)) (hi (0 + Int.toNat i)) (st (0 + Int.toNat i)) (er (0 + Int.toNat i)) (sp (0 + Int.toNat i)) r)
                                    (vHi (lo (0 + Int.toNat i)) (hi (0 + Int.toNat i)) (st (0 + Int.toNat i)) (er (0 + Int.toNat i)) (sp (0 + Int.toNat i)) r) (st (0 + Int.toNat i)) (er (0 + Int.toNat i)) (le (0 + Int.toNat i))
                                    (mo (0 + Int.toNat i)) (vSp (lo (0 + Int.toNat i)) (hi (0 + Int.toNat i)) (st (0 + Int.toNat i)) (er (0 + Int.toNat i)) (le (0 + Int.toNat i)) (mo (0 + Int.toNat i)) (sp (0 + Int.toNat i)) r)) =
                              false →
                            okM (lo (0 + Int.toNat i)) (hi (0 + Int.toNat i)) (st (0 + Int.toNat i)) (er (0 + Int.toNat i)) (le (0 + Int.toNat i)) (mo (0 + Int.toNat i)))
                          (.ite
                            (!(oLo (lo (0 + Int.toNat i)) (st (0 + Int.toNat i)) == oLo (lo (0 + Int.toNat i)) (st (0 + Int.toNat i)) &&
                                          (hi (0 + Int.toNat i) + st (0 + Int.toNat i) == hi (0 + Int.toNat i) + st (0 + Int.toNat i) && true)) ||
                                      !gB (lo (0 + Int.toNat i)) (hi (0 + Int.toNat i)) (st (0 + Int.toNat i)) (er (0 + Int.toNat i)) r == gB (lo (0 + Int.toNat i)) (hi (0 + Int.toNat i)) (st (0 + Int.toNat i)) (er (0 + Int.toNat i)) r ||
                                    !(vLo (lo (0 + Int.toNat i)) (hi (0 + Int.toNat i)) (st (0 + Int.toNat i)) (er (0 + Int.toNat i)) (sp (0 + Int.toNat i)) r ==
                                          vLo (lo (0 + Int.toNat i)) (hi (0 + Int.toNat i)) (st (0 + Int.toNat i)) (er (0 + Int.toNat i)) (sp (0 + Int.toNat i)) r &&
                                        (vHi (lo (0 + Int.toNat i)) (hi (0 + Int.toNat i)) (st (0 + Int.toNat i)) (er (0 + Int.toNat i)) (sp (0 + Int.toNat i)) r ==
                                            vHi (lo (0 + Int.toNat i)) (hi (0 + Int.toNat i)) (st (0 + Int.toNat i)) (er (0 + Int.toNat i)) (sp (0 + Int.toNat i)) r &&
                                          (st (0 + Int.toNat i) == st (0 + Int.toNat i) &&
                                            (er (0 + Int.toNat i) == er (0 + Int.toNat i) &&
                                              (le (0 + Int.toNat i) == le (0 + Int.toNat i) &&
                                                (mo (0 + Int.toNat i) == mo (0 + Int.toNat i) &&
                                                  (vSp (lo (0 + Int.toNat i)) (hi (0 + Int.toNat i)) (st (0 + Int.toNat i)) (er (0 + Int.toNat i)) (le (0 + Int.toNat i)) (mo (0 + Int.toNat i)) (sp (0 + Int.toNat i)) r ==
                                                      vSp (lo (0 + Int.toNat i)) (hi (0 + Int.toNat i)) (st (0 + Int.toNat i)) (er (0 + Int.toNat i)) (le (0 + Int.toNat i)) (mo (0 + Int.toNat i)) (sp (0 + Int.toNat i)) r &&
                                                    true))))))) ||
                                  !(uLo (lo (0 + Int.toNat i)) (st (0 + Int.toNat i)) (sp (0 + Int.toNat i)) == uLo (lo (0 + Int.toNat i)) (st (0 + Int.toNat i)) (sp (0 + Int.toNat i)) &&
                                      (uHi (hi (0 + Int.toNat i)) (st (0 + Int.toNat i)) (sp (0 + Int.toNat i)) == uHi (hi (0 + Int.toNat i)) (st (0 + Int.toNat i)) (sp (0 + Int.toNat i)) &&
                                        (st (0 + Int.toNat i) == st (0 + Int.toNat i) &&
                                          (er (0 + Int.toNat i) == er (0 + Int.toNat i) &&
                                            (le (0 + Int.toNat i) == le (0 + Int.toNat i) &&
                                              (mo (0 + Int.toNat i) == mo (0 + Int.toNat i) &&
                                                (uSp (lo (0 + Int.toNat i)) (hi (0 + Int.toNat i)) (st (0 + Int.toNat i)) (le (0 + Int.toNat i)) (mo (0 + Int.toNat i)) (sp (0 + Int.toNat i)) ==
                                                    uSp (lo (0 + Int.toNat i)) (hi (0 + Int.toNat i)) (st (0 + Int.toNat i)) (le (0 + Int.toNat i)) (mo (0 + Int.toNat i)) (sp (0 + Int.toNat i)) &&
                                                  true))))))) ||
                                !vB (vLo (lo (0 + Int.toNat i)) (hi (0 + Int.toNat i)) (st (0 + Int.toNat i)) (er (0 + Int.toNat i)) (sp (0 + Int.toNat i)) r)
                                    (vHi (lo (0 + Int.toNat i)) (hi (0 + Int.toNat i)) (st (0 + Int.toNat i)) (er (0 + Int.toNat i)) (sp (0 + Int.toNat i)) r) (st (0 + Int.toNat i)) (er (0 + Int.toNat i)) (le (0 + Int.toNat i))
                                    (mo (0 + Int.toNat i)) (vSp (lo (0 + Int.toNat i)) (hi (0 + Int.toNat i)) (st (0 + Int.toNat i)) (er (0 + Int.toNat i)) (le (0 + Int.toNat i)) (mo (0 + Int.toNat i)) (sp (0 + Int.toNat i)) r) ||
                              !vB (uLo (lo (0 + Int.toNat i)) (st (0 + Int.toNat i)) (sp (0 + Int.toNat i))) (uHi (hi (0 + Int.toNat i)) (st (0 + Int.toNat i)) (sp (0 + Int.toNat i))) (st (0 + Int.toNat i)) (er (0 + Int.toNat i))
                                  (le (0 + Int.toNat i)) (mo (0 + Int.toNat i)) (uSp (lo (0 + Int.toNat i)) (hi (0 + Int.toNat i)) (st (0 + Int.toNat i)) (le (0 + Int.toNat i)) (mo (0 + Int.toNat i)) (sp (0 + Int.toNat i))))
                            (.ret
                              (.ret,
                                {
                                  tm :=
                                    [.unk, .unk, .ok (iv r), .unk, .unk, .unk, .ok (bv false), .ok (bv true), .unk, .ok (.row 31 0 0 N 7), .ok (iv i), .unk, .unk, .unk, .unk, .unk, .unk, .unk, .unk,
                                      .unk, .unk, .unk, .unk, .unk, .unk, .unk, .unk, .unk, .unk, .unk, .unk, .unk, .unk, .unk, .unk, .unk, .unk, .unk, .unk, .unk, .unk, .unk, .unk, .unk,
                                      .unk, .unk, .unk, .unk, .unk, .unk, .unk, .unk, .unk, .unk, .unk, .unk, .unk, .unk, .unk, .unk, .unk, .unk, .unk, .unk, .unk, .unk, .unk, .unk, .unk,
                                      .unk, .unk, .unk, .unk, .unk, .unk, .unk, .unk, .unk, .unk, .unk, .unk, .unk, .unk, .unk, .unk, .unk, .unk, .unk, .unk, .unk, .unk, .unk, .unk, .unk,
                                      .unk, .unk, .unk, .unk, .unk, .unk, .unk],
                                  hp :=
                                    [none, none, none, none, none, none, none, none, none, none, none, none, none, none, none, none, none, none, none, none, none, none, none, none, none, none, none, none, none, none, none,
                                      some
                                        (.row N 7 fun a j =>
                                          match j with
                                          | 0 => .x (.int .i64 (lo a))
                                          | 1 => .x (.int .i64 (hi a))
                                          | 2 => .x (.int .i64 (st a))
                                          | 3 => .x (.int .i64 (er a))
                                          | 4 => .x (.int .i64 (le a))
                                          | 5 => .x (.int .i64 (mo a))
                                          | x => .x (.bool (sp a)))],
                                  next := 32, hint := .nil }))
                            (.ret
                              (.normal,
                                {
                                  tm :=
                                    [.unk, .unk, .ok (iv r), .unk, .unk, .unk, .unk, .ok (bv true), .unk, .ok (.row 31 0 0 N 7), .ok (iv (w64 (i + 1))), .unk, .unk, .unk, .unk, .unk, .unk, .unk, .unk,
                                      .unk, .unk, .unk, .unk, .unk, .unk, .unk, .unk, .unk, .unk, .unk, .unk, .unk, .unk, .unk, .unk, .unk, .unk, .unk, .unk, .unk, .unk, .unk, .unk, .unk,
                                      .unk, .unk, .unk, .unk, .unk, .unk, .unk, .unk, .unk, .unk, .unk, .unk, .unk, .unk, .unk, .unk, .unk, .unk, .unk, .unk, .unk, .unk, .unk, .unk, .unk,
                                      .unk, .unk, .unk, .unk, .unk, .unk, .unk, .unk, .unk, .unk, .unk, .unk, .unk, .unk, .unk, .unk, .unk, .unk, .unk, .unk, .unk, .unk, .unk, .unk, .unk,
                                      .unk, .unk, .unk, .unk, .unk, .unk, .unk],
                                  hp :=
                                    [none, none, none, none, none, none, none, none, none, none, none, none, none, none, none, none, none, none, none, none, none, none, none, none, none, none, none, none, none, none, none,
                                      some
                                        (.row N 7 fun a j =>
                                          match j with
                                          | 0 => .x (.int .i64 (lo a))
                                          | 1 => .x (.int .i64 (hi a))
                                          | 2 => .x (.int .i64 (st a))
                                          | 3 => .x (.int .i64 (er a))
                                          | 4 => .x (.int .i64 (le a))
                                          | 5 => .x (.int .i64 (mo a))
                                          | x => .x (.bool (sp a)))],
                                  next := 32, hint := .nil })))))))))))))))
  (.ret
    (.exit 0,
      {
        tm :=
          [.unk, .unk, .ok (iv r), .unk, .unk, .unk, .unk, .ok (bv true), .unk, .ok (.row 31 0 0 N 7), .ok (iv i), .unk, .unk, .unk, .unk, .unk, .unk, .unk, .unk, .unk, .unk, .unk, .unk,
            .unk, .unk, .unk, .unk, .unk, .unk, .unk, .unk, .unk, .unk, .unk, .unk, .unk, .unk, .unk, .unk, .unk, .unk, .unk, .unk, .unk, .unk, .unk, .unk, .unk, .unk, .unk, .unk,
            .unk, .unk, .unk, .unk, .unk, .unk, .unk, .unk, .unk, .unk, .unk, .unk, .unk, .unk, .unk, .unk, .unk, .unk, .unk, .unk, .unk, .unk, .unk, .unk, .unk, .unk, .unk, .unk,
            .unk, .unk, .unk, .unk, .unk, .unk, .unk, .unk, .unk, .unk, .unk, .unk, .unk, .unk, .unk, .unk, .unk, .unk, .unk, .unk, .unk, .unk],
        hp :=
          [none, none, none, none, none, none, none, none, none, none, none, none, none, none, none, none, none, none, none, none, none, none, none, none, none, none, none, none, none, none, none,
            some
              (.row N 7 fun a j =>
                match j with
                | 0 => .x (.int .i64 (lo a))
                | 1 => .x (.int .i64 (hi a))
                | 2 => .x (.int .i64 (st a))
                | 3 => .x (.int .i64 (er a))
                | 4 => .x (.int .i64 (le a))
                | 5 => .x (.int .i64 (mo a))
                | x => .x (.bool (sp a)))],
        next := 32, hint := .nil }))

theorem B3_eq (r : Int) (N : Nat) (i : Int) (lo hi st er le mo : Nat → Int) (sp : Nat → Bool) : cutT 31 [(.slot 9, 31)] [2, 6, 7, 9, 10] (List.range 31) 32 .nil (exec Try.prog C2 D2 200 (loopN (bodyOf Try.prog 3) 0) (inv3 r N i lo hi st er le mo sp)) = B3 r N i lo hi st er le mo sp := by kernel_rfl


theorem K3a (lo wi st er be ov r : Int) (n : Nat) (cell : Nat → Nat → DV) (a b c d e f : Int) (s : Bool) (i : Int) (l1 l2 l3 l4 l5 l6 : Nat → Int) (l7 : Nat → Bool) : codeK (sub [1, 0, 1, 0, 0, 0, 0] (t3 lo wi st er be ov r n cell a b c d e f s)) (.exit 0) (inv3 r 4 i l1 l2 l3 l4 l5 l6 l7) = .ret (bv true) := by kernel_rfl
theorem K3b (lo wi st er be ov r : Int) (n : Nat) (cell : Nat → Nat → DV) (a b c d e f : Int) (s : Bool) (i : Int) (l1 l2 l3 l4 l5 l6 : Nat → Int) (l7 : Nat → Bool) : codeK (sub [1, 0, 1, 0, 0, 1] (t3 lo wi st er be ov r n cell a b c d e f s)) (.exit 0) (inv3 r 3 i l1 l2 l3 l4 l5 l6 l7) = .ret (bv true) := by kernel_rfl
noncomputable def body3 : Code := loopN (bodyOf Try.prog 3) 0
theorem C3a (lo wi st er be ov r : Int) (n : Nat) (cell : Nat → Nat → DV) (a b c d e f : Int) (s : Bool) : codeC (sub [1, 0, 1, 0, 0, 0, 0] (t3 lo wi st er be ov r n cell a b c d e f s)) = .loop body3 := by kernel_rfl
theorem C3b (lo wi st er be ov r : Int) (n : Nat) (cell : Nat → Nat → DV) (a b c d e f : Int) (s : Bool) : codeC (sub [1, 0, 1, 0, 0, 1] (t3 lo wi st er be ov r n cell a b c d e f s)) = .loop body3 := by kernel_rfl
theorem N3a (lo wi st er be ov r : Int) (n : Nat) (cell : Nat → Nat → DV) (a b c d e f : Int) (s : Bool) : Nat.ble (codeS (sub [1, 0, 1, 0, 0, 0, 0] (t3 lo wi st er be ov r n cell a b c d e f s))).next 31 = true := by kernel_rfl
theorem N3b (lo wi st er be ov r : Int) (n : Nat) (cell : Nat → Nat → DV) (a b c d e f : Int) (s : Bool) : Nat.ble (codeS (sub [1, 0, 1, 0, 0, 1] (t3 lo wi st er be ov r n cell a b c d e f s))).next 31 = true := by kernel_rfl

end Go.Proofs.Ytcbjclmjkilphaa
