/- Part of a proof of the given statements of this seat (SxMdU): no conditions beyond those typed here. -/
import Derived.Test.YtcbjclmjkilphaaSxMdT
set_option linter.unusedVariables false
set_option linter.unusedSimpArgs false
namespace Go.Proofs.Ytcbjclmjkilphaa
open Go.Sx
set_option maxRecDepth 100000

/-! ### drift.Bounds, drift.Possible -/

noncomputable def man4 : FuncId → Option Ctr := fun k => if k = 57 then some cSpans else none
noncomputable def C4x : Ctx := ctxN Try.prog man4 (fun _ => false) 200 .nil 4
theorem C4x_ok : CtxOK Try.prog C4x := ctxN_ok mixed (fun k c h => by
  unfold man4 at h
  split at h
  · rename_i e; cases h; subst e; exact ⟨cSpans_ok, by kernel_rfl⟩
  · cases h) 4
noncomputable def D4x : Dr := fun _ => drawn Try.prog C4x
theorem D4x_ok : DrOK Try.prog C4x D4x := drawn_ok C4x_ok mixed

noncomputable def tB (lo hi st er : Int) (n : Nat) (L : Nat → Int) : Tree SV := fnT Try.prog C4x D4x 200 (fnOf Try.prog 30) (bodyOf Try.prog 30) [iv lo, iv hi, iv st, iv er, ro64 n L] .nil
noncomputable def tP (lo hi st er : Int) (n : Nat) (L : Nat → Int) (m : Nat) (p : Nat → Int) : Tree SV := fnT Try.prog C4x D4x 200 (fnOf Try.prog 29) (bodyOf Try.prog 29) [iv lo, iv hi, iv st, iv er, ro64 n L, ro64 m p] .nil

noncomputable def LB (lo hi st er : Int) (n : Nat) (L : Nat → Int) : Tree SV :=
  .need (dV lo hi st er ∧ n ≤ 1000 ∧ ∀ (i : Nat), i < n → ∃ b, (fun i x => DV.x (.int .i64 (L i))) i (0 : Nat) = DV.x (.int .i64 b))
  (.ite (dE lo hi st er (fun i => intOf1 (DV.x (.int .i64 (L i)))) n != (0 : Int)) (.ret (.tup [iv (0 : Int), iv (0 : Int), iv (dE lo hi st er (fun i => intOf1 (DV.x (.int .i64 (L i)))) n)]))
    (.need
      ((0 : Int) ≤ w64 ((↑(dCnt lo hi st er (fun i => intOf1 (DV.x (.int .i64 (L i)))) n + 1) : Int) - (1 : Int)) ∧
        w64 ((↑(dCnt lo hi st er (fun i => intOf1 (DV.x (.int .i64 (L i)))) n + 1) : Int) - (1 : Int)) < (↑(dCnt lo hi st er (fun i => intOf1 (DV.x (.int .i64 (L i)))) n + 1) : Int))
      (.need ((0 : Int) ≤ (0 : Int) ∧ (0 : Int) < (2 : Int))
        (.need (0 < 2)
          (.need ((0 : Int) ≤ (1 : Int) ∧ (1 : Int) < (2 : Int))
            (.need (1 < 2)
              (.ret
                (.tup
                  [iv (dL lo st er (fun i => intOf1 (DV.x (.int .i64 (L i)))) (Int.toNat (w64 ((↑(dCnt lo hi st er (fun i => intOf1 (DV.x (.int .i64 (L i)))) n + 1) : Int) - (1 : Int))))),
                    iv (dH hi st er (fun i => intOf1 (DV.x (.int .i64 (L i)))) (Int.toNat (w64 ((↑(dCnt lo hi st er (fun i => intOf1 (DV.x (.int .i64 (L i)))) n + 1) : Int) - (1 : Int))))),
                    iv (0 : Int)]))))))))

theorem LB_eq (lo hi st er : Int) (n : Nat) (L : Nat → Int) : tB lo hi st er n L = LB lo hi st er n L := by kernel_rfl

noncomputable def LP (lo hi st er : Int) (n : Nat) (L : Nat → Int) (m : Nat) (p : Nat → Int) : Tree SV :=
  .ite (decide (lo < (1 : Int)) || decide (hi < lo) || decide (hi > (1000000 : Int)) || decide ((if er < st then er else st) < (0 : Int)) || decide ((if er > st then er else st) > (1000000 : Int)) || decide ((↑n : Int) > (1000 : Int)))
  (.ite (true || (↑m : Int) != w64 ((↑n : Int) + (1 : Int))) (.ret (bv false))
    (.code (codeC (sub [(0 : Nat), (1 : Nat)] (tP lo hi st er n L m p))) (codeS (sub [(0 : Nat), (1 : Nat)] (tP lo hi st er n L m p))) (codeK (sub [(0 : Nat), (1 : Nat)] (tP lo hi st er n L m p)))))
  (.ite (false || (↑m : Int) != w64 ((↑n : Int) + (1 : Int))) (.ret (bv false))
    (.code (codeC (sub [(1 : Nat), (1 : Nat)] (tP lo hi st er n L m p))) (codeS (sub [(1 : Nat), (1 : Nat)] (tP lo hi st er n L m p))) (codeK (sub [(1 : Nat), (1 : Nat)] (tP lo hi st er n L m p)))))

theorem LP_eq (lo hi st er : Int) (n : Nat) (L : Nat → Int) (m : Nat) (p : Nat → Int) : tP lo hi st er n L m p = LP lo hi st er n L m p := by kernel_rfl

noncomputable def invP (lo hi st er : Int) (n : Nat) (L : Nat → Int) (m : Nat) (p : Nat → Int) (i : Int) : AS :=
  ⟨[.unk, .unk, .unk, .unk, .ok (ro64 n L), .ok (ro64 m p), .unk, .unk, .unk, .unk, .unk, .unk, .ok (bv false), .ok (.ptr 0 0), .unk, .ok (.fn (Fn.func 55) [] [])] ++ List.replicate 21 .unk ++ [.ok (ro64 m p), .ok (iv m), .ok (iv i)] ++ List.replicate 57 .unk,
   [some (.cells [iv lo, iv hi, iv st, iv er]), none], 2, .nil⟩
noncomputable def inP (t : Tree SV) : Option AS := entA 2 [] [4, 5, 12, 13, 15, 37, 38, 39] [] 2 .nil t
noncomputable def IP (lo hi st er : Int) (n : Nat) (L : Nat → Int) (m : Nat) (p : Nat → Int) : Option AS :=
  some
  {
    tm :=
      [.unk, .unk, .unk, .unk, .ok (.d (DV.ro n 1 fun i x => DV.x (.int .i64 (L i)))), .ok (.d (DV.ro m 1 fun i x => DV.x (.int .i64 (p i)))), .unk, .unk, .unk, .unk,
        .unk, .unk, .ok (bv false), .ok (.ptr 0 0), .unk, .ok (.fn (Fn.func 55) [] []), .unk, .unk, .unk, .unk, .unk, .unk, .unk, .unk, .unk, .unk, .unk, .unk, .unk,
        .unk, .unk, .unk, .unk, .unk, .unk, .unk, .unk, .ok (.d (DV.ro m 1 fun i x => DV.x (.int .i64 (p i)))), .ok (iv (↑m : Int)), .ok (iv (0 : Int)), .unk, .unk, .unk, .unk, .unk,
        .unk, .unk, .unk, .unk, .unk, .unk, .unk, .unk, .unk, .unk, .unk, .unk, .unk, .unk, .unk, .unk, .unk, .unk, .unk, .unk, .unk, .unk, .unk, .unk, .unk, .unk, .unk, .unk, .unk,
        .unk, .unk, .unk, .unk, .unk, .unk, .unk, .unk, .unk, .unk, .unk, .unk, .unk, .unk, .unk, .unk, .unk, .unk, .unk, .unk, .unk, .unk, .unk],
    hp := [some (.cells [iv lo, iv hi, iv st, iv er]), none], next := 2, hint := .nil }

theorem IP_eq (lo hi st er : Int) (n : Nat) (L : Nat → Int) (m : Nat) (p : Nat → Int) : inP (sub [1, 1] (tP lo hi st er n L m p)) = IP lo hi st er n L m p := by kernel_rfl

noncomputable def BP (lo hi st er : Int) (n : Nat) (L : Nat → Int) (m : Nat) (p : Nat → Int) (i : Int) : Tree (Ex × AS) :=
  .ite (decide (i < (↑m : Int)))
  (.need ((0 : Int) ≤ i ∧ i < (↑m : Int))
    (.need ((i == (0 : Int)) = true → (0 : Int) ≤ (0 : Int) ∧ (0 : Int) < (2 : Int))
      (.need ((i == (0 : Int)) = true → 0 < 2)
        (.need ((i == (0 : Int)) = true → decide (p (Int.toNat i) ≥ lo) = true → (0 : Int) ≤ (1 : Int) ∧ (1 : Int) < (2 : Int))
          (.need ((i == (0 : Int)) = true → decide (p (Int.toNat i) ≥ lo) = true → 1 < 2)
            (.ite (i == (0 : Int) && !(decide (p (Int.toNat i) ≥ lo) && decide (p (Int.toNat i) ≤ hi)))
              (.ret
                (.ret,
                  {
                    tm :=
                      [.unk, .unk, .unk, .unk, .ok (.d (DV.ro n 1 fun i x => DV.x (.int .i64 (L i)))), .ok (.d (DV.ro m 1 fun i x => DV.x (.int .i64 (p i)))), .unk, .unk,
                        .unk, .unk, .unk, .unk, .ok (bv false), .ok (.ptr 0 0), .unk, .ok (.fn (Fn.func 55) [] []), .unk, .unk, .unk, .unk, .unk, .unk, .unk, .unk, .unk,
                        .unk, .unk, .unk, .unk, .unk, .unk, .unk, .unk, .unk, .unk, .unk, .unk, .ok (.d (DV.ro m 1 fun i x => DV.x (.int .i64 (p i)))), .ok (iv (↑m : Int)), .ok (iv i),
                        .unk, .unk, .unk, .unk, .unk, .unk, .unk, .unk, .unk, .unk, .unk, .unk, .unk, .unk, .unk, .unk, .unk, .unk, .unk, .unk, .unk, .unk, .unk, .unk, .unk, .unk, .unk,
                        .unk, .unk, .unk, .unk, .unk, .unk, .unk, .unk, .unk, .unk, .unk, .unk, .unk, .unk, .unk, .unk, .unk, .unk, .unk, .unk, .unk, .unk, .unk, .unk, .unk, .unk, .unk,
                        .unk, .unk, .unk],
                    hp := [some (.cells [iv lo, iv hi, iv st, iv er]), none], next := 2, hint := .nil }))
              (.need (decide (i > (0 : Int)) = true ∧ decide (p (Int.toNat i) < (1 : Int)) = false → (0 : Int) ≤ w64 (i - (1 : Int)) ∧ w64 (i - (1 : Int)) < (↑m : Int))
                (.need (decide (i > (0 : Int)) = true ∧ decide (p (Int.toNat i) < (1 : Int)) = false → (0 : Int) ≤ w64 (i - (1 : Int)) ∧ w64 (i - (1 : Int)) < (↑m : Int))
                  (.need (decide (i > (0 : Int)) = true ∧ decide (p (Int.toNat i) < (1 : Int)) = false → (0 : Int) ≤ (0 : Int) ∧ (0 : Int) < (2 : Int))
                    (.need (decide (i > (0 : Int)) = true ∧ decide (p (Int.toNat i) < (1 : Int)) = false → 0 < 2)
                      (.need (decide (i > (0 : Int)) = true ∧ decide (p (Int.toNat i) < (1 : Int)) = false → (0 : Int) ≤ (1 : Int) ∧ (1 : Int) < (2 : Int))
                        (.need (decide (i > (0 : Int)) = true ∧ decide (p (Int.toNat i) < (1 : Int)) = false → 1 < 2)
                          (.need (decide (i > (0 : Int)) = true ∧ decide (p (Int.toNat i) < (1 : Int)) = false → (0 : Int) ≤ (0 : Int) ∧ (0 : Int) < (2 : Int))
                            (.need (decide (i > (0 : Int)) = true ∧ decide (p (Int.toNat i) < (1 : Int)) = false → 0 < 2)
                              (.need
                                (decide (i > (0 : Int)) = true ∧ decide (p (Int.toNat i) < (1 : Int)) = false →
                                  decide (p (Int.toNat i) ≥ w64 (p (Int.toNat (w64 (i - (1 : Int)))) - st)) = true → (0 : Int) ≤ (1 : Int) ∧ (1 : Int) < (2 : Int))
                                (.need (decide (i > (0 : Int)) = true ∧ decide (p (Int.toNat i) < (1 : Int)) = false → decide (p (Int.toNat i) ≥ w64 (p (Int.toNat (w64 (i - (1 : Int)))) - st)) = true → 1 < 2)
                                  (.need
                                    (decide (i > (0 : Int)) = true ∧
                                        (decide (p (Int.toNat i) < (1 : Int)) || !(decide (p (Int.toNat i) ≥ w64 (p (Int.toNat (w64 (i - (1 : Int)))) - st)) && decide (p (Int.toNat i) ≤ w64 (p (Int.toNat (w64 (i - (1 : Int)))) + st)))) =
                                          false →
                                      (0 : Int) ≤ w64 (i - (1 : Int)) ∧ w64 (i - (1 : Int)) < (↑n : Int))
                                    (.need
                                      (decide (i > (0 : Int)) = true ∧
                                          (decide (p (Int.toNat i) < (1 : Int)) || !(decide (p (Int.toNat i) ≥ w64 (p (Int.toNat (w64 (i - (1 : Int)))) - st)) && decide (p (Int.toNat i) ≤ w64 (p (Int.toNat (w64 (i - (1 : Int)))) + st)))) =
                                            false →
                                        (0 : Int) ≤ (0 : Int) ∧ (0 : Int) < (2 : Int))
                                      (.need
                                        (decide (i > (0 : Int)) = true ∧
                                            (decide (p (Int.toNat i) < (1 : Int)) ||
                                                !(decide (p (Int.toNat i) ≥ w64 (p (Int.toNat (w64 (i - (1 : Int)))) - st)) && decide (p (Int.toNat i) ≤ w64 (p (Int.toNat (w64 (i - (1 : Int)))) + st)))) =
                                              false →
                                          0 < 2)
                                        (.need
                                          (decide (i > (0 : Int)) = true ∧
                                              (decide (p (Int.toNat i) < (1 : Int)) ||
                                                  !(decide (p (Int.toNat i) ≥ w64 (p (Int.toNat (w64 (i - (1 : Int)))) - st)) && decide (p (Int.toNat i) ≤ w64 (p (Int.toNat (w64 (i - (1 : Int)))) + st)))) =
                                                false →
                                            (0 : Int) ≤ (1 : Int) ∧ (1 : Int) < (2 : Int))
                                          (.need
                                            (decide (i > (0 : Int)) = true ∧
                                                (decide (p (Int.toNat i) < (1 : Int)) ||
                                                    !(decide (p (Int.toNat i) ≥ w64 (p (Int.toNat (w64 (i - (1 : Int)))) - st)) && decide (p (Int.toNat i) ≤ w64 (p (Int.toNat (w64 (i - (1 : Int)))) + st)))) =
                                                  false →
                                              1 < 2)
                                            (.need
                                              (decide (i > (0 : Int)) = true ∧
                                                  (decide (p (Int.toNat i) < (1 : Int)) ||
                                                      !(decide (p (Int.toNat i) ≥ w64 (p (Int.toNat (w64 (i - (1 : Int)))) - st)) && decide (p (Int.toNat i) ≤ w64 (p (Int.toNat (w64 (i - (1 : Int)))) + st)))) =
                                                    false →
                                                (0 : Int) ≤ (0 : Int) ∧ (0 : Int) < (2 : Int))
                                              (.need
                                                (decide (i > (0 : Int)) = true ∧
                                                    (decide (p (Int.toNat i) < (1 : Int)) ||
                                                        !(decide (p (Int.toNat i) ≥ w64 (p (Int.toNat (w64 (i - (1 : Int)))) - st)) && decide (p (Int.toNat i) ≤ w64 (p (Int.toNat (w64 (i - (1 : Int)))) + st)))) =
                                                      false →
                                                  0 < 2)
                                                (.need
                                                  (decide (i > (0 : Int)) = true ∧
                                                      (decide (p (Int.toNat i) < (1 : Int)) ||
                                                          !(decide (p (Int.toNat i) ≥ w64 (p (Int.toNat (w64 (i - (1 : Int)))) - st)) && decide (p (Int.toNat i) ≤ w64 (p (Int.toNat (w64 (i - (1 : Int)))) + st)))) =
                                                        false →
                                                    decide (L (Int.toNat (w64 (i - (1 : Int)))) ≥ w64 (p (Int.toNat i) - er)) = true → (0 : Int) ≤ (1 : Int) ∧ (1 : Int) < (2 : Int))
                                                  (.need
                                                    (decide (i > (0 : Int)) = true ∧
                                                        (decide (p (Int.toNat i) < (1 : Int)) ||
                                                            !(decide (p (Int.toNat i) ≥ w64 (p (Int.toNat (w64 (i - (1 : Int)))) - st)) && decide (p (Int.toNat i) ≤ w64 (p (Int.toNat (w64 (i - (1 : Int)))) + st)))) =
                                                          false →
                                                      decide (L (Int.toNat (w64 (i - (1 : Int)))) ≥ w64 (p (Int.toNat i) - er)) = true → 1 < 2)
                                                    (.ite
                                                      (decide (i > (0 : Int)) &&
                                                        (decide (p (Int.toNat i) < (1 : Int)) ||
                                                            !(decide (p (Int.toNat i) ≥ w64 (p (Int.toNat (w64 (i - (1 : Int)))) - st)) && decide (p (Int.toNat i) ≤ w64 (p (Int.toNat (w64 (i - (1 : Int)))) + st))) ||
                                                          !(decide (L (Int.toNat (w64 (i - (1 : Int)))) ≥ w64 (p (Int.toNat i) - er)) && decide (L (Int.toNat (w64 (i - (1 : Int)))) ≤ w64 (p (Int.toNat i) + er)))))
                                                      (.ret
                                                        (.ret,
                                                          {
                                                            tm :=
                                                              [.unk, .unk, .unk, .unk, .ok (.d (DV.ro n 1 fun i x => DV.x (.int .i64 (L i)))),
                                                                .ok (.d (DV.ro m 1 fun i x => DV.x (.int .i64 (p i)))), .unk, .unk, .unk, .unk, .unk, .unk, .ok (bv false),
                                                                .ok (.ptr 0 0), .unk, .ok (.fn (Fn.func 55) [] []), .unk, .unk, .unk, .unk, .unk, .unk, .unk, .unk, .unk, .unk,
                                                                .unk, .unk, .unk, .unk, .unk, .unk, .unk, .unk, .unk, .unk, .unk, .ok (.d (DV.ro m 1 fun i x => DV.x (.int .i64 (p i)))),
                                                                .ok (iv (↑m : Int)), .ok (iv i), .unk, .unk, .unk, .unk, .unk, .unk, .unk, .unk, .unk, .unk, .unk, .unk, .unk, .unk, .unk, .unk, .unk,
                                                                .unk, .unk, .unk, .unk, .unk, .unk, .unk, .unk, .unk, .unk, .unk, .unk, .unk, .unk, .unk, .unk, .unk, .unk, .unk, .unk, .unk, .unk,
                                                                .unk, .unk, .unk, .unk, .unk, .unk, .unk, .unk, .unk, .unk, .unk, .unk, .unk, .unk, .unk, .unk, .unk, .unk],
                                                            hp := [some (.cells [iv lo, iv hi, iv st, iv er]), none], next := 2, hint := .nil }))
                                                      (.ret
                                                        (.normal,
                                                          {
                                                            tm :=
                                                              [.unk, .unk, .unk, .unk, .ok (.d (DV.ro n 1 fun i x => DV.x (.int .i64 (L i)))),
                                                                .ok (.d (DV.ro m 1 fun i x => DV.x (.int .i64 (p i)))), .unk, .unk, .unk, .unk, .unk, .unk, .ok (bv false),
                                                                .ok (.ptr 0 0), .unk, .ok (.fn (Fn.func 55) [] []), .unk, .unk, .unk, .unk, .unk, .unk, .unk, .unk, .unk, .unk,
                                                                .unk, .unk, .unk, .unk, .unk, .unk, .unk, .unk, .unk, .unk, .unk, .ok (.d (DV.ro m 1 fun i x => DV.x (.int .i64 (p i)))),
                                                                .ok (iv (↑m : Int)), .ok (iv (w64 (i + (1 : Int)))), .unk, .unk, .unk, .unk, .unk, .unk, .unk, .unk, .unk, .unk, .unk, .unk, .unk, .unk, .unk,
                                                                .unk, .unk, .unk, .unk, .unk, .unk, .unk, .unk, .unk, .unk, .unk, .unk, .unk, .unk, .unk, .unk, .unk, .unk, .unk, .unk, .unk, .unk,
                                                                .unk, .unk, .unk, .unk, .unk, .unk, .unk, .unk, .unk, .unk, .unk, .unk, .unk, .unk, .unk, .unk, .unk, .unk, .unk, .unk],
                                                            hp := [some (.cells [iv lo, iv hi, iv st, iv er]), none], next := 2, hint := .nil }))))))))))))))))))))))))))))
  (.ret
    (.exit 0,
      {
        tm :=
          [.unk, .unk, .unk, .unk, .ok (.d (DV.ro n 1 fun i x => DV.x (.int .i64 (L i)))), .ok (.d (DV.ro m 1 fun i x => DV.x (.int .i64 (p i)))), .unk, .unk, .unk, .unk,
            .unk, .unk, .ok (bv false), .ok (.ptr 0 0), .unk, .ok (.fn (Fn.func 55) [] []), .unk, .unk, .unk, .unk, .unk, .unk, .unk, .unk, .unk, .unk, .unk, .unk,
            .unk, .unk, .unk, .unk, .unk, .unk, .unk, .unk, .unk, .ok (.d (DV.ro m 1 fun i x => DV.x (.int .i64 (p i)))), .ok (iv (↑m : Int)), .ok (iv i), .unk, .unk, .unk, .unk,
            .unk, .unk, .unk, .unk, .unk, .unk, .unk, .unk, .unk, .unk, .unk, .unk, .unk, .unk, .unk, .unk, .unk, .unk, .unk, .unk, .unk, .unk, .unk, .unk, .unk, .unk, .unk, .unk,
            .unk, .unk, .unk, .unk, .unk, .unk, .unk, .unk, .unk, .unk, .unk, .unk, .unk, .unk, .unk, .unk, .unk, .unk, .unk, .unk, .unk, .unk, .unk, .unk, .unk],
        hp := [some (.cells [iv lo, iv hi, iv st, iv er]), none], next := 2, hint := .nil }))

theorem BP_eq (lo hi st er : Int) (n : Nat) (L : Nat → Int) (m : Nat) (p : Nat → Int) (i : Int) : cutT 2 [] [4, 5, 12, 13, 15, 37, 38, 39] [] 2 .nil (exec Try.prog C4x D4x 200 (loopN (bodyOf Try.prog 29) 0) (invP lo hi st er n L m p i)) = BP lo hi st er n L m p i := by kernel_rfl

noncomputable def KP (lo hi st er : Int) (n : Nat) (L : Nat → Int) (m : Nat) (p : Nat → Int) (i : Int) : Tree SV :=
  .ret (bv true)

theorem KP_eq (lo hi st er : Int) (n : Nat) (L : Nat → Int) (m : Nat) (p : Nat → Int) (i : Int) : codeK (sub [1, 1] (tP lo hi st er n L m p)) (.exit 0) (invP lo hi st er n L m p i) = KP lo hi st er n L m p i := by kernel_rfl

noncomputable def KQ (lo hi st er : Int) (n : Nat) (L : Nat → Int) (m : Nat) (p : Nat → Int) (i : Int) : Tree SV :=
  .ret (bv false)

theorem KQ_eq (lo hi st er : Int) (n : Nat) (L : Nat → Int) (m : Nat) (p : Nat → Int) (i : Int) : codeK (sub [1, 1] (tP lo hi st er n L m p)) .ret (invP lo hi st er n L m p i) = KQ lo hi st er n L m p i := by kernel_rfl

noncomputable def bodyP : Code := loopN (bodyOf Try.prog 29) 0
theorem CP (lo hi st er : Int) (n : Nat) (L : Nat → Int) (m : Nat) (p : Nat → Int) : codeC (sub [1, 1] (tP lo hi st er n L m p)) = .loop bodyP := by kernel_rfl
theorem NP (lo hi st er : Int) (n : Nat) (L : Nat → Int) (m : Nat) (p : Nat → Int) : Nat.ble (codeS (sub [1, 1] (tP lo hi st er n L m p))).next 2 = true := by kernel_rfl

end Go.Proofs.Ytcbjclmjkilphaa
