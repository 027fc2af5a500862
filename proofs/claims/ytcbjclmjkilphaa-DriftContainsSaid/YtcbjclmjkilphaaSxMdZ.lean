/- Part of a proof of the given statements of this seat (SxMdZ): no conditions beyond those typed here. -/
import Derived.Test.YtcbjclmjkilphaaSxMdY
set_option linter.unusedVariables false
set_option linter.unusedSimpArgs false
namespace Go.Proofs.Ytcbjclmjkilphaa
open Go.Sx
set_option maxRecDepth 100000

/-! ### drift.Spans -/

noncomputable def inl8 : FuncId → Bool := fun k => k == 58
noncomputable def C8x : Ctx := ctxN Try.prog man4 inl8 200 .nil 4
theorem C8x_ok : CtxOK Try.prog C8x := ctxN_ok mixed (fun k c h => by
  unfold man4 at h
  split at h
  · rename_i e; cases h; subst e; exact ⟨cSpans_ok, by kernel_rfl⟩
  · cases h) 4
noncomputable def D8x : Dr := fun _ => drawn Try.prog C8x
theorem D8x_ok : DrOK Try.prog C8x D8x := drawn_ok C8x_ok mixed

noncomputable def tSn (lo hi st er : Int) (n : Nat) (L : Nat → Int) : Tree SV := fnT Try.prog C8x D8x 200 (fnOf Try.prog 63) (bodyOf Try.prog 63) [iv lo, iv hi, iv st, iv er, ro64 n L] .nil

noncomputable def LSn (lo hi st er : Int) (n : Nat) (L : Nat → Int) : Tree SV :=
  .need (dV lo hi st er ∧ n ≤ 1000 ∧ ∀ (i : Nat), i < n → ∃ b, (fun i x => DV.x (.int .i64 (L i))) i (0 : Nat) = DV.x (.int .i64 b))
  (.ite (dE lo hi st er (fun i => intOf1 (DV.x (.int .i64 (L i)))) n != (0 : Int))
    (.ret (.tup [.d (DV.x (.slice none 0 0)), iv (dE lo hi st er (fun i => intOf1 (DV.x (.int .i64 (L i)))) n)]))
    (.need
      ((0 : Int) ≤ (↑(dCnt lo hi st er (fun i => intOf1 (DV.x (.int .i64 (L i)))) n + 1) : Int) ∧
        (↑(dCnt lo hi st er (fun i => intOf1 (DV.x (.int .i64 (L i)))) n + 1) : Int) ≤ (↑(dCnt lo hi st er (fun i => intOf1 (DV.x (.int .i64 (L i)))) n + 1) : Int) ∧
          (↑(dCnt lo hi st er (fun i => intOf1 (DV.x (.int .i64 (L i)))) n + 1) : Int) * (16 : Int) ≤ (140737488355328 : Int))
      (.need
        ((0 : Int) ≤ w64 ((↑(dCnt lo hi st er (fun i => intOf1 (DV.x (.int .i64 (L i)))) n + 1) : Int) - (1 : Int)) ∧
          w64 ((↑(dCnt lo hi st er (fun i => intOf1 (DV.x (.int .i64 (L i)))) n + 1) : Int) - (1 : Int)) < (↑(dCnt lo hi st er (fun i => intOf1 (DV.x (.int .i64 (L i)))) n + 1) : Int))
        (.code (codeC (sub [(0 : Nat), (1 : Nat), (0 : Nat), (0 : Nat)] (tSn lo hi st er n L))) (codeS (sub [(0 : Nat), (1 : Nat), (0 : Nat), (0 : Nat)] (tSn lo hi st er n L)))
          (codeK (sub [(0 : Nat), (1 : Nat), (0 : Nat), (0 : Nat)] (tSn lo hi st er n L)))))))

theorem LSn_eq (lo hi st er : Int) (n : Nat) (L : Nat → Int) : tSn lo hi st er n L = LSn lo hi st er n L := by kernel_rfl

noncomputable def pSn : List Nat := [0, 1, 0, 0]
noncomputable def TMSn : List TV := List.replicate 12 .unk ++ [.ok (.ptr 0 0), .ok (.ptr 1 0), .unk, .ok (.ptr 5 0), .ok (.ptr 7 0)] ++ List.replicate 45 .unk
noncomputable def invSn (lo hi st er : Int) (N : Nat) (sl sh : Nat → Int) (x y : Int) (m : Nat) (cl ch : Nat → Int) : AS :=
  ⟨List.replicate 62 .unk, [some (.cells [iv lo, iv hi, iv st, iv er]), some (.cells [.d (.ro N 2 (scell sl sh))]), none, none, some (.row m 2 (scell cl ch)), some (.cells [.row 4 0 0 m 2]), none, some (.cells [iv x, iv y]), none, none], 10, .nil⟩
noncomputable def aSn : Code := rgA (rangeN (bodyOf Try.prog 63) 0)
noncomputable def bSn : Code := rgB (rangeN (bodyOf Try.prog 63) 0)
noncomputable def rSn (i a b lo hi st er : Int) (N : Nat) (sl sh : Nat → Int) (x y : Int) (m : Nat) (cl ch : Nat → Int) : Tree (Ex × AS) := roundT Try.prog C8x D8x 200 10 [] [2, 3, 6, 8, 9] 10 .nil aSn bSn ⟨parTm [43, 44] [iv i, .agg [iv a, iv b]] TMSn, (invSn lo hi st er N sl sh x y m cl ch).hp, 10, .nil⟩
noncomputable def BSn (i a b lo hi st er : Int) (N : Nat) (sl sh : Nat → Int) (x y : Int) (m : Nat) (cl ch : Nat → Int) : Tree (Ex × AS) :=
  .need ((0 : Int) ≤ (0 : Int) ∧ (0 : Int) < (2 : Int))
  (.need (0 < 2)
    (.need ((0 : Int) ≤ (1 : Int) ∧ (1 : Int) < (2 : Int))
      (.need (1 < 2)
        (.need ((0 : Int) ≤ (0 : Int) ∧ (0 : Int) < (2 : Int))
          (.need (0 < 2)
            (.need ((0 : Int) ≤ (0 : Int) ∧ (0 : Int) < (2 : Int))
              (.need (0 < 2)
                (.need ((0 : Int) ≤ (1 : Int) ∧ (1 : Int) < (2 : Int))
                  (.need (1 < 2)
                    (.need ((0 : Int) ≤ (1 : Int) ∧ (1 : Int) < (2 : Int))
                      (.need (1 < 2)
                        (.ite (i == w64 ((↑N : Int) - (1 : Int)))
                          (.need ((0 : Int) ≤ i ∧ i < (↑m : Int))
                            (.need (0 + Int.toNat i < m)
                              (.ret
                                (.normal,
                                  {
                                    tm :=
                                      [.unk, .unk, .unk, .unk, .unk, .unk, .unk, .unk, .unk, .unk, .unk, .unk, .unk, .unk, .unk, .unk, .unk, .unk, .unk, .unk, .unk, .unk, .unk, .unk, .unk,
                                        .unk, .unk, .unk, .unk, .unk, .unk, .unk, .unk, .unk, .unk, .unk, .unk, .unk, .unk, .unk, .unk, .unk, .unk, .unk, .unk, .unk, .unk, .unk, .unk, .unk,
                                        .unk, .unk, .unk, .unk, .unk, .unk, .unk, .unk, .unk, .unk, .unk, .unk],
                                    hp :=
                                      [some (.cells [iv lo, iv hi, iv st, iv er]),
                                        some
                                          (.cells
                                            [.d
                                                (DV.ro N 2 fun a b =>
                                                  match b with
                                                  | (0 : Nat) => DV.x (.int .i64 (sl a))
                                                  | x => DV.x (.int .i64 (sh a)))]),
                                        none, none,
                                        some
                                          (.row m 2 fun a_1 b_1 =>
                                            if 0 ≤ b_1 ∧ b_1 < 2 then
                                              selD (decide (a_1 = 0 + Int.toNat i))
                                                (match [DV.x (.int .i64 a), DV.x (.int .i64 b)][b_1 - 0]? with
                                                | some x => x
                                                | none => DV.x (.tuple { toList := [] }))
                                                (scell cl ch a_1 b_1)
                                            else scell cl ch a_1 b_1),
                                        some (.cells [.row 4 0 0 m 2]), none, some (.cells [iv a, iv b]), none, none],
                                    next := 10, hint := .nil }))))
                          (.need ((0 : Int) ≤ i ∧ i < (↑m : Int))
                            (.need (0 + Int.toNat i < m)
                              (.ret
                                (.normal,
                                  {
                                    tm :=
                                      [.unk, .unk, .unk, .unk, .unk, .unk, .unk, .unk, .unk, .unk, .unk, .unk, .unk, .unk, .unk, .unk, .unk, .unk, .unk, .unk, .unk, .unk, .unk, .unk, .unk,
                                        .unk, .unk, .unk, .unk, .unk, .unk, .unk, .unk, .unk, .unk, .unk, .unk, .unk, .unk, .unk, .unk, .unk, .unk, .unk, .unk, .unk, .unk, .unk, .unk, .unk,
                                        .unk, .unk, .unk, .unk, .unk, .unk, .unk, .unk, .unk, .unk, .unk, .unk],
                                    hp :=
                                      [some (.cells [iv lo, iv hi, iv st, iv er]),
                                        some
                                          (.cells
                                            [.d
                                                (DV.ro N 2 fun a b =>
                                                  match b with
                                                  | (0 : Nat) => DV.x (.int .i64 (sl a))
                                                  | x => DV.x (.int .i64 (sh a)))]),
                                        none, none,
                                        some
                                          (.row m 2 fun a_1 b_1 =>
                                            if 0 ≤ b_1 ∧ b_1 < 2 then
                                              selD (decide (a_1 = 0 + Int.toNat i))
                                                (match [DV.x (.int .i64 (if w64 (x - st) > a then w64 (x - st) else a)), DV.x (.int .i64 (if w64 (y + st) < b then w64 (y + st) else b))][b_1 - 0]? with
                                                | some x => x
                                                | none => DV.x (.tuple { toList := [] }))
                                                (scell cl ch a_1 b_1)
                                            else scell cl ch a_1 b_1),
                                        some (.cells [.row 4 0 0 m 2]), none,
                                        some (.cells [iv (if w64 (x - st) > a then w64 (x - st) else a), iv (if w64 (y + st) < b then w64 (y + st) else b)]), none, none],
                                    next := 10, hint := .nil }))))))))))))))))

theorem BSn_eq (i a b lo hi st er : Int) (N : Nat) (sl sh : Nat → Int) (x y : Int) (m : Nat) (cl ch : Nat → Int) : rSn i a b lo hi st er N sl sh x y m cl ch = BSn i a b lo hi st er N sl sh x y m cl ch := by kernel_rfl

noncomputable def inSn (t : Tree SV) : Option AS := entR 10 [9] [] [2, 3, 6, 8, 9] 10 .nil t
noncomputable def ISn (lo hi st er : Int) (n : Nat) (L : Nat → Int) : Option AS :=
  some
  {
    tm :=
      [.unk, .unk, .unk, .unk, .unk, .unk, .unk, .unk, .unk, .unk, .unk, .unk, .unk, .unk, .unk, .unk, .unk, .unk, .unk, .unk, .unk, .unk, .unk, .unk, .unk, .unk, .unk, .unk, .unk,
        .unk, .unk, .unk, .unk, .unk, .unk, .unk, .unk, .unk, .unk, .unk, .unk, .unk, .unk, .unk, .unk, .unk, .unk, .unk, .unk, .unk, .unk, .unk, .unk, .unk, .unk, .unk, .unk, .unk,
        .unk, .unk, .unk, .unk],
    hp :=
      [some (.cells [iv lo, iv hi, iv st, iv er]),
        some
          (.cells
            [.d
                (DV.ro (dCnt lo hi st er (fun i => intOf1 (DV.x (.int .i64 (L i)))) n + 1) 2 fun a b =>
                  match b with
                  | (0 : Nat) => DV.x (.int .i64 (dL lo st er (fun i => intOf1 (DV.x (.int .i64 (L i)))) a))
                  | x => DV.x (.int .i64 (dH hi st er (fun i => intOf1 (DV.x (.int .i64 (L i)))) a)))]),
        none, none,
        some
          (.row (Int.toNat (↑(dCnt lo hi st er (fun i => intOf1 (DV.x (.int .i64 (L i)))) n + 1) : Int)) 2 fun x j =>
            match [DV.x (.int .i64 (0 : Int)), DV.x (.int .i64 (0 : Int))][j]? with
            | some x => x
            | none => DV.x (.tuple { toList := [] })),
        some (.cells [.row 4 0 0 (Int.toNat (↑(dCnt lo hi st er (fun i => intOf1 (DV.x (.int .i64 (L i)))) n + 1) : Int)) 2]), none,
        some
          (.cells
            [iv (dL lo st er (fun i => intOf1 (DV.x (.int .i64 (L i)))) (Int.toNat (w64 ((↑(dCnt lo hi st er (fun i => intOf1 (DV.x (.int .i64 (L i)))) n + 1) : Int) - (1 : Int))))),
              iv (dH hi st er (fun i => intOf1 (DV.x (.int .i64 (L i)))) (Int.toNat (w64 ((↑(dCnt lo hi st er (fun i => intOf1 (DV.x (.int .i64 (L i)))) n + 1) : Int) - (1 : Int)))))]),
        none, none],
    next := 10, hint := .nil }

theorem ISn_eq (lo hi st er : Int) (n : Nat) (L : Nat → Int) : inSn (sub pSn (tSn lo hi st er n L)) = ISn lo hi st er n L := by kernel_rfl

noncomputable def KSn (qlo qhi qst qer : Int) (n : Nat) (L : Nat → Int) (lo hi st er : Int) (N : Nat) (sl sh : Nat → Int) (x y : Int) (m : Nat) (cl ch : Nat → Int) : Tree SV :=
  .need (0 + m ≤ m) (.ret (.tup [.d (DV.ro m 2 fun i j => scell cl ch (0 + i) j), iv (0 : Int)]))

theorem KSn_eq (qlo qhi qst qer : Int) (n : Nat) (L : Nat → Int) (lo hi st er : Int) (N : Nat) (sl sh : Nat → Int) (x y : Int) (m : Nat) (cl ch : Nat → Int) : codeK (sub pSn (tSn qlo qhi qst qer n L)) .normal ⟨TMSn, (invSn lo hi st er N sl sh x y m cl ch).hp, 10, .nil⟩ = KSn qlo qhi qst qer n L lo hi st er N sl sh x y m cl ch := by kernel_rfl

theorem cSn (lo hi st er : Int) (n : Nat) (L : Nat → Int) : codeC (sub pSn (tSn lo hi st er n L)) = .rangeFunc (.tmp 42) #[43, 44] aSn bSn := by kernel_rfl
theorem nSn (lo hi st er : Int) (n : Nat) (L : Nat → Int) : Nat.ble (codeS (sub pSn (tSn lo hi st er n L))).next 10 = true := by kernel_rfl
theorem gSn (lo hi st er : Int) (n : Nat) (L : Nat → Int) : tvStrict none (tget (codeS (sub pSn (tSn lo hi st er n L))).tm 42) = some (.fn (.func 76) [] [.ptr 9 0]) := by kernel_rfl
theorem vSn (lo hi st er : Int) (n : Nat) (L : Nat → Int) : capV (codeS (sub pSn (tSn lo hi st er n L))).hp [.ptr 9 0] = some ([.rop 1 fun j => [DV.ro (dCnt lo hi st er L n + 1) 2 (scell (dL lo st er L) (dH hi st er L))].getD j (.x undef)], [9]) := by kernel_rfl
theorem tSnK (lo hi st er : Int) (n : Nat) (L : Nat → Int) : keepTm [12, 13, 15, 16] 0 (codeS (sub pSn (tSn lo hi st er n L))).tm = TMSn := by kernel_rfl
theorem naSn : noRange aSn = true := by kernel_rfl
theorem nbSn : noRange bSn = true := by kernel_rfl

end Go.Proofs.Ytcbjclmjkilphaa
