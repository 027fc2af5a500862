/- Part of a proof of the given statements of this seat (SxMdS): no conditions beyond those typed here. -/
import Derived.Test.YtcbjclmjkilphaaSxMdJ
set_option linter.unusedVariables false
set_option linter.unusedSimpArgs false
namespace Go.Proofs.Ytcbjclmjkilphaa
open Go.Sx
set_option maxRecDepth 100000

/-! ### drift.spans -/

noncomputable def inl3 : FuncId → Bool := fun k => k == 74 || k == 75
noncomputable def C3 : Ctx := ctxN Try.prog (fun _ => none) inl3 200 .nil 4
theorem C3_ok : CtxOK Try.prog C3 := ctxN_ok mixed (fun k c h => by cases h) 4
noncomputable def D3 : Dr := fun _ => drawn Try.prog C3
theorem D3_ok : DrOK Try.prog C3 D3 := drawn_ok C3_ok mixed

noncomputable def tS (lo hi st er : Int) (n : Nat) (L : Nat → Int) : Tree SV := fnT Try.prog C3 D3 200 (fnOf Try.prog 57) (bodyOf Try.prog 57) [iv lo, iv hi, iv st, iv er, ro64 n L] (.f (.f .nil))
noncomputable def scell (sl sh : Nat → Int) : Nat → Nat → DV := fun a b => match b with
  | 0 => xi (sl a)
  | _ => xi (sh a)
noncomputable def inS (t : Tree SV) : Option AS := entA 11 [(.cell (.base 3) 0, 11)] [2, 3, 6, 7, 15, 16, 17] [2, 6, 7, 8, 9, 10] 12 .nil t
noncomputable def invS (lo hi st er : Int) (n : Nat) (L : Nat → Int) (e x1 x2 i : Int) (m : Nat) (sl sh : Nat → Int) : AS :=
  ⟨[.unk, .unk, .ok (.fn (Fn.func 75) [] [.ptr 3 0]), .ok (.ptr 4 0), .unk, .unk, .ok (iv e), .ok (.ptr 5 0), .unk, .unk, .unk, .unk, .unk, .unk, .unk, .ok (ro64 n L), .ok (iv n), .ok (iv i)] ++ List.replicate 32 .unk,
   [some (.cells [iv 0, iv 0, iv 0, iv 0]), some (.cells [iv lo, iv hi, iv st, iv er]), none, some (.cells [.row 11 0 0 m 2]), some (.cells [iv lo, iv hi, iv st, iv er]), some (.cells [iv x1, iv x2]), none, none, none, none, none, some (.row m 2 (scell sl sh))], 12, .nil⟩

noncomputable def LS (lo hi st er : Int) (n : Nat) (L : Nat → Int) : Tree SV :=
  .ite (decide (lo < (1 : Int)) || decide (hi < lo) || decide (hi > (1000000 : Int)) || decide ((if er < st then er else st) < (0 : Int)) || decide ((if er > st then er else st) > (1000000 : Int)) || decide ((↑n : Int) > (1000 : Int)))
  (.need (true = false)
    (.need (True ∧ 2 ≤ 2 ∧ 16 ≤ 140737488355328)
      (.code (codeC (sub [(0 : Nat), (0 : Nat), (0 : Nat)] (tS lo hi st er n L))) (codeS (sub [(0 : Nat), (0 : Nat), (0 : Nat)] (tS lo hi st er n L))) (codeK (sub [(0 : Nat), (0 : Nat), (0 : Nat)] (tS lo hi st er n L))))))
  (.need (false = false)
    (.need (True ∧ 2 ≤ List.length [iv lo, iv hi] ∧ 16 ≤ 140737488355328)
      (.code (codeC (sub [(1 : Nat), (0 : Nat), (0 : Nat)] (tS lo hi st er n L))) (codeS (sub [(1 : Nat), (0 : Nat), (0 : Nat)] (tS lo hi st er n L))) (codeK (sub [(1 : Nat), (0 : Nat), (0 : Nat)] (tS lo hi st er n L))))))

theorem LS_eq (lo hi st er : Int) (n : Nat) (L : Nat → Int) : tS lo hi st er n L = LS lo hi st er n L := by kernel_rfl

noncomputable def IS (lo hi st er : Int) (n : Nat) (L : Nat → Int) : Option AS :=
  some
  {
    tm :=
      [.unk, .unk, .ok (.fn (Fn.func 75) [] [.ptr 3 0]), .ok (.ptr 4 0), .unk, .unk, .ok (iv (0 : Int)), .ok (.ptr 5 0), .unk, .unk, .unk,
        .unk, .unk, .unk, .unk, .ok (.d (.ro n 1 fun i x => .x (.int .i64 (L i)))), .ok (iv (↑n : Int)), .ok (iv (0 : Int)), .unk, .unk, .unk, .unk, .unk, .unk, .unk, .unk, .unk,
        .unk, .unk, .unk, .unk, .unk, .unk, .unk, .unk, .unk, .unk, .unk, .unk, .unk, .unk, .unk, .unk, .unk, .unk, .unk, .unk, .unk, .unk, .unk],
    hp :=
      [some (.cells [iv (0 : Int), iv (0 : Int), iv (0 : Int), iv (0 : Int)]), some (.cells [iv lo, iv hi, iv st, iv er]), none, some (.cells [.row 11 0 0 1 2]),
        some (.cells [iv lo, iv hi, iv st, iv er]), some (.cells [iv lo, iv hi]), none, none, none, none, none,
        some
          (.row 1 2 fun a b =>
            bif decide (a < 0) then .x (.tuple { toList := [] }) else dsAt [.x (.int .i64 lo), .x (.int .i64 hi)] (0 + (0 + (a - 0)) * 2 + b))],
    next := 12, hint := .nil }

theorem IS_eq (lo hi st er : Int) (n : Nat) (L : Nat → Int) : inS (sub [1, 0, 0] (tS lo hi st er n L)) = IS lo hi st er n L := by kernel_rfl

noncomputable def BS (lo hi st er : Int) (n : Nat) (L : Nat → Int) (x1 x2 i : Int) (m : Nat) (sl sh : Nat → Int) : Tree (Ex × AS) :=
  .ite (decide (i < (↑n : Int)))
  (.need ((0 : Int) ≤ i ∧ i < (↑n : Int))
    (.need ((0 : Int) ≤ (0 : Int) ∧ (0 : Int) < (2 : Int))
      (.need (0 < 2)
        (.need ((0 : Int) ≤ (1 : Int) ∧ (1 : Int) < (2 : Int))
          (.need (1 < 2)
            (.need ((0 : Int) ≤ (0 : Int) ∧ (0 : Int) < (2 : Int))
              (.need (0 < 2)
                (.need ((0 : Int) ≤ (1 : Int) ∧ (1 : Int) < (2 : Int))
                  (.need (1 < 2)
                    (.need ((0 : Int) ≤ (0 : Int) ∧ (0 : Int) < (2 : Int))
                      (.need (0 < 2)
                        (.need ((0 : Int) ≤ (0 : Int) ∧ (0 : Int) < (2 : Int))
                          (.need (0 < 2)
                            (.need ((0 : Int) ≤ (1 : Int) ∧ (1 : Int) < (2 : Int))
                              (.need (1 < 2)
                                (.need ((0 : Int) ≤ (1 : Int) ∧ (1 : Int) < (2 : Int))
                                  (.need (1 < 2)
                                    (.need ((0 : Int) ≤ (0 : Int) ∧ (0 : Int) < (2 : Int))
                                      (.need (0 < 2)
                                        (.need ((0 : Int) ≤ (0 : Int) ∧ (0 : Int) < (2 : Int))
                                          (.need (0 < 2)
                                            (.need ((0 : Int) ≤ (1 : Int) ∧ (1 : Int) < (2 : Int))
                                              (.need (1 < 2)
                                                (.need ((0 : Int) ≤ (1 : Int) ∧ (1 : Int) < (2 : Int))
                                                  (.need (1 < 2)
                                                    (.need ((0 : Int) ≤ (0 : Int) ∧ (0 : Int) < (2 : Int))
                                                      (.need (0 < 2)
                                                        (.need ((0 : Int) ≤ (1 : Int) ∧ (1 : Int) < (2 : Int))
                                                          (.need (1 < 2)
                                                            (.ite
                                                              (decide
                                                                ((if
                                                                      (1 : Int) >
                                                                        if
                                                                            w64
                                                                                ((if (2000000000 : Int) < if (-2000000000 : Int) > L (Int.toNat i) then (-2000000000 : Int) else L (Int.toNat i) then (2000000000 : Int)
                                                                                  else if (-2000000000 : Int) > L (Int.toNat i) then (-2000000000 : Int) else L (Int.toNat i)) -
                                                                                  er) >
                                                                              w64 (x1 - st) then
                                                                          w64
                                                                            ((if (2000000000 : Int) < if (-2000000000 : Int) > L (Int.toNat i) then (-2000000000 : Int) else L (Int.toNat i) then (2000000000 : Int)
                                                                              else if (-2000000000 : Int) > L (Int.toNat i) then (-2000000000 : Int) else L (Int.toNat i)) -
                                                                              er)
                                                                        else w64 (x1 - st) then
                                                                    (1 : Int)
                                                                  else
                                                                    if
                                                                        w64
                                                                            ((if (2000000000 : Int) < if (-2000000000 : Int) > L (Int.toNat i) then (-2000000000 : Int) else L (Int.toNat i) then (2000000000 : Int)
                                                                              else if (-2000000000 : Int) > L (Int.toNat i) then (-2000000000 : Int) else L (Int.toNat i)) -
                                                                              er) >
                                                                          w64 (x1 - st) then
                                                                      w64
                                                                        ((if (2000000000 : Int) < if (-2000000000 : Int) > L (Int.toNat i) then (-2000000000 : Int) else L (Int.toNat i) then (2000000000 : Int)
                                                                          else if (-2000000000 : Int) > L (Int.toNat i) then (-2000000000 : Int) else L (Int.toNat i)) -
                                                                          er)
                                                                    else w64 (x1 - st)) >
                                                                  if
                                                                      w64 (w64 ((2000000000 : Int) - er) - (1 : Int)) <
                                                                        if
                                                                            w64
                                                                                ((if (2000000000 : Int) < if (-2000000000 : Int) > L (Int.toNat i) then (-2000000000 : Int) else L (Int.toNat i) then (2000000000 : Int)
                                                                                  else if (-2000000000 : Int) > L (Int.toNat i) then (-2000000000 : Int) else L (Int.toNat i)) +
                                                                                  er) <
                                                                              w64 (x2 + st) then
                                                                          w64
                                                                            ((if (2000000000 : Int) < if (-2000000000 : Int) > L (Int.toNat i) then (-2000000000 : Int) else L (Int.toNat i) then (2000000000 : Int)
                                                                              else if (-2000000000 : Int) > L (Int.toNat i) then (-2000000000 : Int) else L (Int.toNat i)) +
                                                                              er)
                                                                        else w64 (x2 + st) then
                                                                    w64 (w64 ((2000000000 : Int) - er) - (1 : Int))
                                                                  else
                                                                    if
                                                                        w64
                                                                            ((if (2000000000 : Int) < if (-2000000000 : Int) > L (Int.toNat i) then (-2000000000 : Int) else L (Int.toNat i) then (2000000000 : Int)
                                                                              else if (-2000000000 : Int) > L (Int.toNat i) then (-2000000000 : Int) else L (Int.toNat i)) +
                                                                              er) <
                                                                          w64 (x2 + st) then
                                                                      w64
                                                                        ((if (2000000000 : Int) < if (-2000000000 : Int) > L (Int.toNat i) then (-2000000000 : Int) else L (Int.toNat i) then (2000000000 : Int)
                                                                          else if (-2000000000 : Int) > L (Int.toNat i) then (-2000000000 : Int) else L (Int.toNat i)) +
                                                                          er)
                                                                    else w64 (x2 + st)))
                                                              (.ret
                                                                (.ret,
                                                                  {
                                                                    tm :=
                                                                      [.unk, .unk, .ok (.fn (Fn.func 75) [] [.ptr 3 0]), .ok (.ptr 4 0), .unk, .unk, .ok (iv (440 : Int)),
                                                                        .ok (.ptr 5 0), .unk, .unk, .unk, .unk, .unk, .unk, .unk,
                                                                        .ok (.d (.ro n 1 fun i x => .x (.int .i64 (L i)))), .ok (iv (↑n : Int)), .ok (iv i), .unk, .unk, .unk, .unk, .unk, .unk,
                                                                        .unk, .unk, .unk, .unk, .unk, .unk, .unk, .unk, .unk, .unk, .unk, .unk, .unk, .unk, .unk, .unk, .unk, .unk, .unk, .unk, .unk,
                                                                        .unk, .unk, .unk, .unk, .unk],
                                                                    hp :=
                                                                      [some (.cells [iv (0 : Int), iv (0 : Int), iv (0 : Int), iv (0 : Int)]), some (.cells [iv lo, iv hi, iv st, iv er]), none,
                                                                        some (.cells [.row 11 0 0 m 2]), some (.cells [iv lo, iv hi, iv st, iv er]),
                                                                        some
                                                                          (.cells
                                                                            [iv
                                                                                (if
                                                                                    (1 : Int) >
                                                                                      if
                                                                                          w64
                                                                                              ((if (2000000000 : Int) < if (-2000000000 : Int) > L (Int.toNat i) then (-2000000000 : Int) else L (Int.toNat i) then (2000000000 : Int)
                                                                                                else if (-2000000000 : Int) > L (Int.toNat i) then (-2000000000 : Int) else L (Int.toNat i)) -
                                                                                                er) >
                                                                                            w64 (x1 - st) then
                                                                                        w64
                                                                                          ((if (2000000000 : Int) < if (-2000000000 : Int) > L (Int.toNat i) then (-2000000000 : Int) else L (Int.toNat i) then (2000000000 : Int)
                                                                                            else if (-2000000000 : Int) > L (Int.toNat i) then (-2000000000 : Int) else L (Int.toNat i)) -
                                                                                            er)
                                                                                      else w64 (x1 - st) then
                                                                                  (1 : Int)
                                                                                else
                                                                                  if
                                                                                      w64
                                                                                          ((if (2000000000 : Int) < if (-2000000000 : Int) > L (Int.toNat i) then (-2000000000 : Int) else L (Int.toNat i) then (2000000000 : Int)
                                                                                            else if (-2000000000 : Int) > L (Int.toNat i) then (-2000000000 : Int) else L (Int.toNat i)) -
                                                                                            er) >
                                                                                        w64 (x1 - st) then
                                                                                    w64
                                                                                      ((if (2000000000 : Int) < if (-2000000000 : Int) > L (Int.toNat i) then (-2000000000 : Int) else L (Int.toNat i) then (2000000000 : Int)
                                                                                        else if (-2000000000 : Int) > L (Int.toNat i) then (-2000000000 : Int) else L (Int.toNat i)) -
                                                                                        er)
                                                                                  else w64 (x1 - st)),
                                                                              iv
                                                                                (if
                                                                                    w64 (w64 ((2000000000 : Int) - er) - (1 : Int)) <
                                                                                      if
                                                                                          w64
                                                                                              ((if (2000000000 : Int) < if (-2000000000 : Int) > L (Int.toNat i) then (-2000000000 : Int) else L (Int.toNat i) then (2000000000 : Int)
                                                                                                else if (-2000000000 : Int) > L (Int.toNat i) then (-2000000000 : Int) else L (Int.toNat i)) +
                                                                                                er) <
                                                                                            w64 (x2 + st) then
                                                                                        w64
                                                                                          ((if (2000000000 : Int) < if (-2000000000 : Int) > L (Int.toNat i) then (-2000000000 : Int) else L (Int.toNat i) then (2000000000 : Int)
                                                                                            else if (-2000000000 : Int) > L (Int.toNat i) then (-2000000000 : Int) else L (Int.toNat i)) +
                                                                                            er)
                                                                                      else w64 (x2 + st) then
                                                                                  w64 (w64 ((2000000000 : Int) - er) - (1 : Int))
                                                                                else
                                                                                  if
                                                                                      w64
                                                                                          ((if (2000000000 : Int) < if (-2000000000 : Int) > L (Int.toNat i) then (-2000000000 : Int) else L (Int.toNat i) then (2000000000 : Int)
                                                                                            else if (-2000000000 : Int) > L (Int.toNat i) then (-2000000000 : Int) else L (Int.toNat i)) +
                                                                                            er) <
                                                                                        w64 (x2 + st) then
                                                                                    w64
                                                                                      ((if (2000000000 : Int) < if (-2000000000 : Int) > L (Int.toNat i) then (-2000000000 : Int) else L (Int.toNat i) then (2000000000 : Int)
                                                                                        else if (-2000000000 : Int) > L (Int.toNat i) then (-2000000000 : Int) else L (Int.toNat i)) +
                                                                                        er)
                                                                                  else w64 (x2 + st))]),
                                                                        none, none, none, none, none,
                                                                        some
                                                                          (.row m 2 fun a b =>
                                                                            match b with
                                                                            | (0 : Nat) => .x (.int .i64 (sl a))
                                                                            | x => .x (.int .i64 (sh a)))],
                                                                    next := 12, hint := .nil }))
                                                              (.need
                                                                (0 + m ≤ m ∧
                                                                  2 ≤
                                                                      List.length
                                                                        [iv
                                                                            (if
                                                                                (1 : Int) >
                                                                                  if
                                                                                      w64
                                                                                          ((if (2000000000 : Int) < if (-2000000000 : Int) > L (Int.toNat i) then (-2000000000 : Int) else L (Int.toNat i) then (2000000000 : Int)
                                                                                            else if (-2000000000 : Int) > L (Int.toNat i) then (-2000000000 : Int) else L (Int.toNat i)) -
                                                                                            er) >
                                                                                        w64 (x1 - st) then
                                                                                    w64
                                                                                      ((if (2000000000 : Int) < if (-2000000000 : Int) > L (Int.toNat i) then (-2000000000 : Int) else L (Int.toNat i) then (2000000000 : Int)
                                                                                        else if (-2000000000 : Int) > L (Int.toNat i) then (-2000000000 : Int) else L (Int.toNat i)) -
                                                                                        er)
                                                                                  else w64 (x1 - st) then
                                                                              (1 : Int)
                                                                            else
                                                                              if
                                                                                  w64
                                                                                      ((if (2000000000 : Int) < if (-2000000000 : Int) > L (Int.toNat i) then (-2000000000 : Int) else L (Int.toNat i) then (2000000000 : Int)
                                                                                        else if (-2000000000 : Int) > L (Int.toNat i) then (-2000000000 : Int) else L (Int.toNat i)) -
                                                                                        er) >
                                                                                    w64 (x1 - st) then
                                                                                w64
                                                                                  ((if (2000000000 : Int) < if (-2000000000 : Int) > L (Int.toNat i) then (-2000000000 : Int) else L (Int.toNat i) then (2000000000 : Int)
                                                                                    else if (-2000000000 : Int) > L (Int.toNat i) then (-2000000000 : Int) else L (Int.toNat i)) -
                                                                                    er)
                                                                              else w64 (x1 - st)),
                                                                          iv
                                                                            (if
                                                                                w64 (w64 ((2000000000 : Int) - er) - (1 : Int)) <
                                                                                  if
                                                                                      w64
                                                                                          ((if (2000000000 : Int) < if (-2000000000 : Int) > L (Int.toNat i) then (-2000000000 : Int) else L (Int.toNat i) then (2000000000 : Int)
                                                                                            else if (-2000000000 : Int) > L (Int.toNat i) then (-2000000000 : Int) else L (Int.toNat i)) +
                                                                                            er) <
                                                                                        w64 (x2 + st) then
                                                                                    w64
                                                                                      ((if (2000000000 : Int) < if (-2000000000 : Int) > L (Int.toNat i) then (-2000000000 : Int) else L (Int.toNat i) then (2000000000 : Int)
                                                                                        else if (-2000000000 : Int) > L (Int.toNat i) then (-2000000000 : Int) else L (Int.toNat i)) +
                                                                                        er)
                                                                                  else w64 (x2 + st) then
                                                                              w64 (w64 ((2000000000 : Int) - er) - (1 : Int))
                                                                            else
                                                                              if
                                                                                  w64
                                                                                      ((if (2000000000 : Int) < if (-2000000000 : Int) > L (Int.toNat i) then (-2000000000 : Int) else L (Int.toNat i) then (2000000000 : Int)
                                                                                        else if (-2000000000 : Int) > L (Int.toNat i) then (-2000000000 : Int) else L (Int.toNat i)) +
                                                                                        er) <
                                                                                    w64 (x2 + st) then
                                                                                w64
                                                                                  ((if (2000000000 : Int) < if (-2000000000 : Int) > L (Int.toNat i) then (-2000000000 : Int) else L (Int.toNat i) then (2000000000 : Int)
                                                                                    else if (-2000000000 : Int) > L (Int.toNat i) then (-2000000000 : Int) else L (Int.toNat i)) +
                                                                                    er)
                                                                              else w64 (x2 + st))] ∧
                                                                    (m + 1) * 16 ≤ 140737488355328)
                                                                (.ret
                                                                  (.normal,
                                                                    {
                                                                      tm :=
                                                                        [.unk, .unk, .ok (.fn (Fn.func 75) [] [.ptr 3 0]), .ok (.ptr 4 0), .unk, .unk, .ok (iv (0 : Int)),
                                                                          .ok (.ptr 5 0), .unk, .unk, .unk, .unk, .unk, .unk, .unk,
                                                                          .ok (.d (.ro n 1 fun i x => .x (.int .i64 (L i)))), .ok (iv (↑n : Int)), .ok (iv (w64 (i + (1 : Int)))), .unk, .unk, .unk,
                                                                          .unk, .unk, .unk, .unk, .unk, .unk, .unk, .unk, .unk, .unk, .unk, .unk, .unk, .unk, .unk, .unk, .unk, .unk, .unk, .unk,
                                                                          .unk, .unk, .unk, .unk, .unk, .unk, .unk, .unk, .unk],
                                                                      hp :=
                                                                        [some (.cells [iv (0 : Int), iv (0 : Int), iv (0 : Int), iv (0 : Int)]), some (.cells [iv lo, iv hi, iv st, iv er]), none,
                                                                          some (.cells [.row 11 0 0 (m + 1) 2]), some (.cells [iv lo, iv hi, iv st, iv er]),
                                                                          some
                                                                            (.cells
                                                                              [iv
                                                                                  (if
                                                                                      (1 : Int) >
                                                                                        if
                                                                                            w64
                                                                                                ((if (2000000000 : Int) < if (-2000000000 : Int) > L (Int.toNat i) then (-2000000000 : Int) else L (Int.toNat i) then (2000000000 : Int)
                                                                                                  else if (-2000000000 : Int) > L (Int.toNat i) then (-2000000000 : Int) else L (Int.toNat i)) -
                                                                                                  er) >
                                                                                              w64 (x1 - st) then
                                                                                          w64
                                                                                            ((if (2000000000 : Int) < if (-2000000000 : Int) > L (Int.toNat i) then (-2000000000 : Int) else L (Int.toNat i) then (2000000000 : Int)
                                                                                              else if (-2000000000 : Int) > L (Int.toNat i) then (-2000000000 : Int) else L (Int.toNat i)) -
                                                                                              er)
                                                                                        else w64 (x1 - st) then
                                                                                    (1 : Int)
                                                                                  else
                                                                                    if
                                                                                        w64
                                                                                            ((if (2000000000 : Int) < if (-2000000000 : Int) > L (Int.toNat i) then (-2000000000 : Int) else L (Int.toNat i) then (2000000000 : Int)
                                                                                              else if (-2000000000 : Int) > L (Int.toNat i) then (-2000000000 : Int) else L (Int.toNat i)) -
                                                                                              er) >
                                                                                          w64 (x1 - st) then
                                                                                      w64
                                                                                        ((if (2000000000 : Int) < if (-2000000000 : Int) > L (Int.toNat i) then (-2000000000 : Int) else L (Int.toNat i) then (2000000000 : Int)
                                                                                          else if (-2000000000 : Int) > L (Int.toNat i) then (-2000000000 : Int) else L (Int.toNat i)) -
                                                                                          er)
                                                                                    else w64 (x1 - st)),
                                                                                iv
                                                                                  (if
                                                                                      w64 (w64 ((2000000000 : Int) - er) - (1 : Int)) <
                                                                                        if
                                                                                            w64
                                                                                                ((if (2000000000 : Int) < if (-2000000000 : Int) > L (Int.toNat i) then (-2000000000 : Int) else L (Int.toNat i) then (2000000000 : Int)
                                                                                                  else if (-2000000000 : Int) > L (Int.toNat i) then (-2000000000 : Int) else L (Int.toNat i)) +
                                                                                                  er) <
                                                                                              w64 (x2 + st) then
                                                                                          w64
                                                                                            ((if (2000000000 : Int) < if (-2000000000 : Int) > L (Int.toNat i) then (-2000000000 : Int) else L (Int.toNat i) then (2000000000 : Int)
                                                                                              else if (-2000000000 : Int) > L (Int.toNat i) then (-2000000000 : Int) else L (Int.toNat i)) +
                                                                                              er)
                                                                                        else w64 (x2 + st) then
                                                                                    w64 (w64 ((2000000000 : Int) - er) - (1 : Int))
                                                                                  else
                                                                                    if
                                                                                        w64
                                                                                            ((if (2000000000 : Int) < if (-2000000000 : Int) > L (Int.toNat i) then (-2000000000 : Int) else L (Int.toNat i) then (2000000000 : Int)
                                                                                              else if (-2000000000 : Int) > L (Int.toNat i) then (-2000000000 : Int) else L (Int.toNat i)) +
                                                                                              er) <
                                                                                          w64 (x2 + st) then
                                                                                      w64
                                                                                        ((if (2000000000 : Int) < if (-2000000000 : Int) > L (Int.toNat i) then (-2000000000 : Int) else L (Int.toNat i) then (2000000000 : Int)
                                                                                          else if (-2000000000 : Int) > L (Int.toNat i) then (-2000000000 : Int) else L (Int.toNat i)) +
                                                                                          er)
                                                                                    else w64 (x2 + st))]),
                                                                          none, none, none, none, none,
                                                                          some
                                                                            (.row (m + 1) 2 fun a b =>
                                                                              selD (decide (a < m)) (scell sl sh (0 + a) b)
                                                                                (dsAt
                                                                                  [.x
                                                                                      (.int .i64
                                                                                        (if
                                                                                            (1 : Int) >
                                                                                              if
                                                                                                  w64
                                                                                                      ((if (2000000000 : Int) < if (-2000000000 : Int) > L (Int.toNat i) then (-2000000000 : Int) else L (Int.toNat i) then (2000000000 : Int)
                                                                                                        else if (-2000000000 : Int) > L (Int.toNat i) then (-2000000000 : Int) else L (Int.toNat i)) -
                                                                                                        er) >
                                                                                                    w64 (x1 - st) then
                                                                                                w64
                                                                                                  ((if (2000000000 : Int) < if (-2000000000 : Int) > L (Int.toNat i) then (-2000000000 : Int) else L (Int.toNat i) then (2000000000 : Int)
                                                                                                    else if (-2000000000 : Int) > L (Int.toNat i) then (-2000000000 : Int) else L (Int.toNat i)) -
                                                                                                    er)
                                                                                              else w64 (x1 - st) then
                                                                                          (1 : Int)
                                                                                        else
                                                                                          if
                                                                                              w64
                                                                                                  ((if (2000000000 : Int) < if (-2000000000 : Int) > L (Int.toNat i) then (-2000000000 : Int) else L (Int.toNat i) then (2000000000 : Int)
                                                                                                    else if (-2000000000 : Int) > L (Int.toNat i) then (-2000000000 : Int) else L (Int.toNat i)) -
                                                                                                    er) >
                                                                                                w64 (x1 - st) then
                                                                                            w64
                                                                                              ((if (2000000000 : Int) < if (-2000000000 : Int) > L (Int.toNat i) then (-2000000000 : Int) else L (Int.toNat i) then (2000000000 : Int)
                                                                                                else if (-2000000000 : Int) > L (Int.toNat i) then (-2000000000 : Int) else L (Int.toNat i)) -
                                                                                                er)
                                                                                          else w64 (x1 - st))),
                                                                                    .x
                                                                                      (.int .i64
                                                                                        (if
                                                                                            w64 (w64 ((2000000000 : Int) - er) - (1 : Int)) <
                                                                                              if
                                                                                                  w64
                                                                                                      ((if (2000000000 : Int) < if (-2000000000 : Int) > L (Int.toNat i) then (-2000000000 : Int) else L (Int.toNat i) then (2000000000 : Int)
                                                                                                        else if (-2000000000 : Int) > L (Int.toNat i) then (-2000000000 : Int) else L (Int.toNat i)) +
                                                                                                        er) <
                                                                                                    w64 (x2 + st) then
                                                                                                w64
                                                                                                  ((if (2000000000 : Int) < if (-2000000000 : Int) > L (Int.toNat i) then (-2000000000 : Int) else L (Int.toNat i) then (2000000000 : Int)
                                                                                                    else if (-2000000000 : Int) > L (Int.toNat i) then (-2000000000 : Int) else L (Int.toNat i)) +
                                                                                                    er)
                                                                                              else w64 (x2 + st) then
                                                                                          w64 (w64 ((2000000000 : Int) - er) - (1 : Int))
                                                                                        else
                                                                                          if
                                                                                              w64
                                                                                                  ((if (2000000000 : Int) < if (-2000000000 : Int) > L (Int.toNat i) then (-2000000000 : Int) else L (Int.toNat i) then (2000000000 : Int)
                                                                                                    else if (-2000000000 : Int) > L (Int.toNat i) then (-2000000000 : Int) else L (Int.toNat i)) +
                                                                                                    er) <
                                                                                                w64 (x2 + st) then
                                                                                            w64
                                                                                              ((if (2000000000 : Int) < if (-2000000000 : Int) > L (Int.toNat i) then (-2000000000 : Int) else L (Int.toNat i) then (2000000000 : Int)
                                                                                                else if (-2000000000 : Int) > L (Int.toNat i) then (-2000000000 : Int) else L (Int.toNat i)) +
                                                                                                er)
                                                                                          else w64 (x2 + st)))]
                                                                                  (0 + (0 + (a - m)) * 2 + b)))],
                                                                      next := 12, hint := .nil })))))))))))))))))))))))))))))))))
  (.ret
    (.exit 0,
      {
        tm :=
          [.unk, .unk, .ok (.fn (Fn.func 75) [] [.ptr 3 0]), .ok (.ptr 4 0), .unk, .unk, .ok (iv (0 : Int)), .ok (.ptr 5 0), .unk, .unk,
            .unk, .unk, .unk, .unk, .unk, .ok (.d (.ro n 1 fun i x => .x (.int .i64 (L i)))), .ok (iv (↑n : Int)), .ok (iv i), .unk, .unk, .unk, .unk, .unk, .unk, .unk, .unk,
            .unk, .unk, .unk, .unk, .unk, .unk, .unk, .unk, .unk, .unk, .unk, .unk, .unk, .unk, .unk, .unk, .unk, .unk, .unk, .unk, .unk, .unk, .unk, .unk],
        hp :=
          [some (.cells [iv (0 : Int), iv (0 : Int), iv (0 : Int), iv (0 : Int)]), some (.cells [iv lo, iv hi, iv st, iv er]), none, some (.cells [.row 11 0 0 m 2]),
            some (.cells [iv lo, iv hi, iv st, iv er]), some (.cells [iv x1, iv x2]), none, none, none, none, none,
            some
              (.row m 2 fun a b =>
                match b with
                | (0 : Nat) => .x (.int .i64 (sl a))
                | x => .x (.int .i64 (sh a)))],
        next := 12, hint := .nil }))

theorem BS_eq (lo hi st er : Int) (n : Nat) (L : Nat → Int) (x1 x2 i : Int) (m : Nat) (sl sh : Nat → Int) : cutT 11 [(.cell (.base 3) 0, 11)] [2, 3, 6, 7, 15, 16, 17] [2, 6, 7, 8, 9, 10] 12 .nil (exec Try.prog C3 D3 200 (loopN (bodyOf Try.prog 74) 0) (invS lo hi st er n L 0 x1 x2 i m sl sh)) = BS lo hi st er n L x1 x2 i m sl sh := by kernel_rfl

noncomputable def KS (lo hi st er : Int) (n : Nat) (L : Nat → Int) (x1 x2 i : Int) (m : Nat) (sl sh : Nat → Int) : Tree SV :=
  .need (0 + m ≤ m) (.ret (.tup [.agg [iv lo, iv hi, iv st, iv er], .d (.ro m 2 fun i j => scell sl sh (0 + i) j), iv (0 : Int)]))

theorem KS_eq (lo hi st er : Int) (n : Nat) (L : Nat → Int) (x1 x2 i : Int) (m : Nat) (sl sh : Nat → Int) : codeK (sub [1, 0, 0] (tS lo hi st er n L)) (.exit 0) (invS lo hi st er n L 0 x1 x2 i m sl sh) = KS lo hi st er n L x1 x2 i m sl sh := by kernel_rfl

noncomputable def KR (lo hi st er : Int) (n : Nat) (L : Nat → Int) (e x1 x2 i : Int) (m : Nat) (sl sh : Nat → Int) : Tree SV :=
  .need (0 + m ≤ m) (.ret (.tup [.agg [iv lo, iv hi, iv st, iv er], .d (.ro m 2 fun i j => scell sl sh (0 + i) j), iv e]))

theorem KR_eq (lo hi st er : Int) (n : Nat) (L : Nat → Int) (e x1 x2 i : Int) (m : Nat) (sl sh : Nat → Int) : codeK (sub [1, 0, 0] (tS lo hi st er n L)) .ret (invS lo hi st er n L e x1 x2 i m sl sh) = KR lo hi st er n L e x1 x2 i m sl sh := by kernel_rfl


noncomputable def bodyS : Code := loopN (bodyOf Try.prog 74) 0
theorem CS (lo hi st er : Int) (n : Nat) (L : Nat → Int) : codeC (sub [1, 0, 0] (tS lo hi st er n L)) = .loop bodyS := by kernel_rfl
theorem NS (lo hi st er : Int) (n : Nat) (L : Nat → Int) : Nat.ble (codeS (sub [1, 0, 0] (tS lo hi st er n L))).next 11 = true := by kernel_rfl

end Go.Proofs.Ytcbjclmjkilphaa
