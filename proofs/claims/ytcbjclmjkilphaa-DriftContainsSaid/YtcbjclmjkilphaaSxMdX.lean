/- Part of a proof of the given statements of this seat (SxMdX): no conditions beyond those typed here. -/
import Derived.Test.YtcbjclmjkilphaaSxMdW
import Derived.Test.YtcbjclmjkilphaaSxMdK
set_option linter.unusedVariables false
set_option linter.unusedSimpArgs false
namespace Go.Proofs.Ytcbjclmjkilphaa
open Go.Sx
set_option maxRecDepth 100000

/-! ### drift.Path -/

noncomputable def inl7 : FuncId → Bool := fun k => k == 58
noncomputable def C7x : Ctx := ctxN Try.prog man4 inl7 200 .nil 4
theorem C7x_ok : CtxOK Try.prog C7x := ctxN_ok mixed (fun k c h => by
  unfold man4 at h
  split at h
  · rename_i e; cases h; subst e; exact ⟨cSpans_ok, by kernel_rfl⟩
  · cases h) 4
noncomputable def D7x : Dr := fun _ => drawn Try.prog C7x
theorem D7x_ok : DrOK Try.prog C7x D7x := drawn_ok C7x_ok mixed

noncomputable def tPa (lo hi st er : Int) (n : Nat) (L : Nat → Int) (last : Int) : Tree SV := fnT Try.prog C7x D7x 200 (fnOf Try.prog 31) (bodyOf Try.prog 31) [iv lo, iv hi, iv st, iv er, ro64 n L, iv last] .nil

noncomputable def LPa (lo hi st er : Int) (n : Nat) (L : Nat → Int) (last : Int) : Tree SV :=
  .need (dV lo hi st er ∧ n ≤ 1000 ∧ ∀ (i : Nat), i < n → ∃ b, (fun i x => DV.x (.int .i64 (L i))) i (0 : Nat) = DV.x (.int .i64 b))
  (.ite (dE lo hi st er (fun i => intOf1 (DV.x (.int .i64 (L i)))) n != (0 : Int))
    (.ret (.tup [.d (DV.x (.slice none 0 0)), iv (dE lo hi st er (fun i => intOf1 (DV.x (.int .i64 (L i)))) n)]))
    (.need
      ((0 : Int) ≤ w64 ((↑(dCnt lo hi st er (fun i => intOf1 (DV.x (.int .i64 (L i)))) n + 1) : Int) - (1 : Int)) ∧
        w64 ((↑(dCnt lo hi st er (fun i => intOf1 (DV.x (.int .i64 (L i)))) n + 1) : Int) - (1 : Int)) < (↑(dCnt lo hi st er (fun i => intOf1 (DV.x (.int .i64 (L i)))) n + 1) : Int))
      (.need ((0 : Int) ≤ (0 : Int) ∧ (0 : Int) < (2 : Int))
        (.need (0 < 2)
          (.need
            (decide (last < dL lo st er (fun i => intOf1 (DV.x (.int .i64 (L i)))) (Int.toNat (w64 ((↑(dCnt lo hi st er (fun i => intOf1 (DV.x (.int .i64 (L i)))) n + 1) : Int) - (1 : Int))))) = false →
              (0 : Int) ≤ (1 : Int) ∧ (1 : Int) < (2 : Int))
            (.need
              (decide (last < dL lo st er (fun i => intOf1 (DV.x (.int .i64 (L i)))) (Int.toNat (w64 ((↑(dCnt lo hi st er (fun i => intOf1 (DV.x (.int .i64 (L i)))) n + 1) : Int) - (1 : Int))))) = false →
                1 < 2)
              (.ite
                (decide (last < dL lo st er (fun i => intOf1 (DV.x (.int .i64 (L i)))) (Int.toNat (w64 ((↑(dCnt lo hi st er (fun i => intOf1 (DV.x (.int .i64 (L i)))) n + 1) : Int) - (1 : Int))))) ||
                  decide (last > dH hi st er (fun i => intOf1 (DV.x (.int .i64 (L i)))) (Int.toNat (w64 ((↑(dCnt lo hi st er (fun i => intOf1 (DV.x (.int .i64 (L i)))) n + 1) : Int) - (1 : Int))))))
                (.ret (.tup [.d (DV.x (.slice none 0 0)), iv (4 : Int)]))
                (.need
                  ((0 : Int) ≤ (↑(dCnt lo hi st er (fun i => intOf1 (DV.x (.int .i64 (L i)))) n + 1) : Int) ∧
                    (↑(dCnt lo hi st er (fun i => intOf1 (DV.x (.int .i64 (L i)))) n + 1) : Int) ≤ (↑(dCnt lo hi st er (fun i => intOf1 (DV.x (.int .i64 (L i)))) n + 1) : Int) ∧
                      (↑(dCnt lo hi st er (fun i => intOf1 (DV.x (.int .i64 (L i)))) n + 1) : Int) * (8 : Int) ≤ (140737488355328 : Int))
                  (.code (codeC (sub [(0 : Nat), (1 : Nat), (0 : Nat), (0 : Nat), (0 : Nat), (0 : Nat), (0 : Nat), (1 : Nat), (0 : Nat)] (tPa lo hi st er n L last)))
                    (codeS (sub [(0 : Nat), (1 : Nat), (0 : Nat), (0 : Nat), (0 : Nat), (0 : Nat), (0 : Nat), (1 : Nat), (0 : Nat)] (tPa lo hi st er n L last)))
                    (codeK (sub [(0 : Nat), (1 : Nat), (0 : Nat), (0 : Nat), (0 : Nat), (0 : Nat), (0 : Nat), (1 : Nat), (0 : Nat)] (tPa lo hi st er n L last))))))))))))

theorem LPa_eq (lo hi st er : Int) (n : Nat) (L : Nat → Int) (last : Int) : tPa lo hi st er n L last = LPa lo hi st er n L last := by kernel_rfl

noncomputable def subPa (lo hi st er : Int) (n : Nat) (L : Nat → Int) (last : Int) : Tree SV := sub [0, 1, 0, 0, 0, 0, 0, 1, 0] (tPa lo hi st er n L last)
noncomputable def TMPa : List TV := List.replicate 11 .unk ++ [.ok (.ptr 0 0)] ++ List.replicate 6 .unk ++ [.ok (.ptr 6 0)] ++ List.replicate 50 .unk
noncomputable def invPa (x : Int) (m : Nat) (c : Nat → Int) : AS :=
  ⟨List.replicate 69 .unk, [some (.cells [iv x]), none, none, none, none, some (row64 m c), some (.cells [.row 5 0 0 m 1]), none, none], 9, .nil⟩
noncomputable def aPa : Code := rgA (rangeN (bodyOf Try.prog 31) 0)
noncomputable def bPa : Code := rgB (rangeN (bodyOf Try.prog 31) 0)
noncomputable def rPa (i a b x : Int) (m : Nat) (c : Nat → Int) : Tree (Ex × AS) := roundT Try.prog C7x D7x 200 9 [] [1, 2, 3, 4, 7, 8] 9 .nil aPa bPa ⟨parTm [55, 56] [iv i, .agg [iv a, iv b]] TMPa, (invPa x m c).hp, 9, .nil⟩
noncomputable def BPa (i a b x : Int) (m : Nat) (c : Nat → Int) : Tree (Ex × AS) :=
  .need ((0 : Int) ≤ (0 : Int) ∧ (0 : Int) < (2 : Int))
  (.need (0 < 2)
    (.need ((0 : Int) ≤ (1 : Int) ∧ (1 : Int) < (2 : Int))
      (.need (1 < 2)
        (.need ((0 : Int) ≤ i ∧ i < (↑m : Int))
          (.need (0 + Int.toNat i < m)
            (.ret
              (.normal,
                {
                  tm :=
                    [.unk, .unk, .unk, .unk, .unk, .unk, .unk, .unk, .unk, .unk, .unk, .unk, .unk, .unk, .unk, .unk, .unk, .unk, .unk, .unk, .unk, .unk, .unk, .unk, .unk, .unk, .unk,
                      .unk, .unk, .unk, .unk, .unk, .unk, .unk, .unk, .unk, .unk, .unk, .unk, .unk, .unk, .unk, .unk, .unk, .unk, .unk, .unk, .unk, .unk, .unk, .unk, .unk, .unk, .unk,
                      .unk, .unk, .unk, .unk, .unk, .unk, .unk, .unk, .unk, .unk, .unk, .unk, .unk, .unk, .unk],
                  hp :=
                    [some (.cells [iv (if b < if a > x then a else x then b else if a > x then a else x)]), none, none, none, none,
                      some
                        (.row m 1 fun a_1 b_1 =>
                          if 0 ≤ b_1 ∧ b_1 < 1 then
                            selD (decide (a_1 = 0 + Int.toNat i))
                              (match [DV.x (.int .i64 (if b < if a > x then a else x then b else if a > x then a else x))][b_1 - 0]? with
                              | some x => x
                              | none => DV.x (.tuple { toList := [] }))
                              (DV.x (.int .i64 (c a_1)))
                          else DV.x (.int .i64 (c a_1))),
                      some (.cells [.row 5 0 0 m 1]), none, none],
                  next := 9, hint := .nil })))))))

theorem BPa_eq (i a b x : Int) (m : Nat) (c : Nat → Int) : rPa i a b x m c = BPa i a b x m c := by kernel_rfl

noncomputable def inPa (t : Tree SV) : Option AS := entR 9 [8] [] [1, 2, 3, 4, 7, 8] 9 .nil t
noncomputable def IPa (lo hi st er : Int) (n : Nat) (L : Nat → Int) (last : Int) : Option AS :=
  some
  {
    tm :=
      [.unk, .unk, .unk, .unk, .unk, .unk, .unk, .unk, .unk, .unk, .unk, .unk, .unk, .unk, .unk, .unk, .unk, .unk, .unk, .unk, .unk, .unk, .unk, .unk, .unk, .unk, .unk, .unk, .unk,
        .unk, .unk, .unk, .unk, .unk, .unk, .unk, .unk, .unk, .unk, .unk, .unk, .unk, .unk, .unk, .unk, .unk, .unk, .unk, .unk, .unk, .unk, .unk, .unk, .unk, .unk, .unk, .unk, .unk,
        .unk, .unk, .unk, .unk, .unk, .unk, .unk, .unk, .unk, .unk, .unk],
    hp :=
      [some (.cells [iv last]), none, none, none, none,
        some
          (.row (Int.toNat (↑(dCnt lo hi st er (fun i => intOf1 (DV.x (.int .i64 (L i)))) n + 1) : Int)) 1 fun x j =>
            match [DV.x (.int .i64 (0 : Int))][j]? with
            | some x => x
            | none => DV.x (.tuple { toList := [] })),
        some (.cells [.row 5 0 0 (Int.toNat (↑(dCnt lo hi st er (fun i => intOf1 (DV.x (.int .i64 (L i)))) n + 1) : Int)) 1]), none, none],
    next := 9, hint := .nil }

theorem IPa_eq (lo hi st er : Int) (n : Nat) (L : Nat → Int) (last : Int) : inPa (subPa lo hi st er n L last) = IPa lo hi st er n L last := by kernel_rfl

noncomputable def KPa (lo hi st er : Int) (n : Nat) (L : Nat → Int) (last x : Int) (m : Nat) (c : Nat → Int) : Tree SV :=
  .need (0 + m ≤ m) (.ret (.tup [.d (DV.ro m 1 fun i j => DV.x (.int .i64 (c ((0 : Nat) + i)))), iv (0 : Int)]))

theorem KPa_eq (lo hi st er : Int) (n : Nat) (L : Nat → Int) (last x : Int) (m : Nat) (c : Nat → Int) : codeK (subPa lo hi st er n L last) .normal ⟨TMPa, (invPa x m c).hp, 9, .nil⟩ = KPa lo hi st er n L last x m c := by kernel_rfl

theorem cPa (lo hi st er : Int) (n : Nat) (L : Nat → Int) (last : Int) : codeC (subPa lo hi st er n L last) = .rangeFunc (.tmp 54) #[55, 56] aPa bPa := by kernel_rfl
theorem nPa (lo hi st er : Int) (n : Nat) (L : Nat → Int) (last : Int) : Nat.ble (codeS (subPa lo hi st er n L last)).next 9 = true := by kernel_rfl
theorem gPa (lo hi st er : Int) (n : Nat) (L : Nat → Int) (last : Int) : tvStrict none (tget (codeS (subPa lo hi st er n L last)).tm 54) = some (.fn (.func 76) [] [.ptr 8 0]) := by kernel_rfl
theorem vPa (lo hi st er : Int) (n : Nat) (L : Nat → Int) (last : Int) : capV (codeS (subPa lo hi st er n L last)).hp [.ptr 8 0] = some ([.rop 1 fun j => [DV.ro (dCnt lo hi st er L n + 1) 2 (scell (dL lo st er L) (dH hi st er L))].getD j (.x undef)], [8]) := by kernel_rfl
theorem tPaK (lo hi st er : Int) (n : Nat) (L : Nat → Int) (last : Int) : keepTm [11, 18] 0 (codeS (subPa lo hi st er n L last)).tm = TMPa := by kernel_rfl
theorem naPa : noRange aPa = true := by kernel_rfl
theorem nbPa : noRange bPa = true := by kernel_rfl

end Go.Proofs.Ytcbjclmjkilphaa
