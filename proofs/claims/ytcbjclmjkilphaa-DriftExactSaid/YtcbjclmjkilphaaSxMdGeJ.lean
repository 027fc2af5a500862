/- Part of a proof of the given statements of this seat (SxMdEc, SxMdEd, SxMdEe, SxMdEf, SxMdEg, SxMdEh, SxMdGe): no conditions beyond those typed here. -/
import Derived.Test.YtcbjclmjkilphaaSy07
import Derived.Test.YtcbjclmjkilphaaRows
import Derived.Test.YtcbjclmjkilphaaChecked
set_option linter.unusedVariables false
set_option linter.unusedSimpArgs false

namespace Go.Proofs.Ytcbjclmjkilphaa
open Go.Sx
set_option maxRecDepth 100000

noncomputable def lH (m : Nat) (cl : Nat → Nat → Bool) : SV := .d (.ro m 1 (ro2 m cl))
noncomputable def invK1r (d1 d2 d3 d4 : Int) (n : Nat) (L : Nat → Int) (m : Nat) (cl : Nat → Nat → Bool) (c : Nat → Nat → DV) (i : Int) : AS := ⟨[.unk, .ok (lH m cl), .ok (.ptr 0 0), .unk, .unk, .ok (.row 2 0 0 m 1), .ok (iv i)] ++ List.replicate 76 .unk, [cH d1 d2 d3 d4 n L, none, some (.row m 1 c)], 3, .nil⟩
noncomputable def invK1 (d1 d2 d3 d4 : Int) (n : Nat) (L : Nat → Int) (m : Nat) (cl oc : Nat → Nat → Bool) (i : Int) : AS := invK1r d1 d2 d3 d4 n L m cl (ro2 m oc) i
noncomputable def bodyK1 : Code := loopN (bodyOf Try.prog 39) 0
noncomputable def bK1 (d1 d2 d3 d4 : Int) (n : Nat) (L : Nat → Int) (m : Nat) (cl oc : Nat → Nat → Bool) (i : Int) : Tree (Ex × AS) := cutT 3 [] [1, 2, 5, 6] [1] 3 .nil (exec Try.prog C0 D0 200 bodyK1 (invK1 d1 d2 d3 d4 n L m cl oc i))
noncomputable def BK1 (d1 d2 d3 d4 : Int) (n : Nat) (L : Nat → Int) (m : Nat) (cl oc : Nat → Nat → Bool) (i : Int) : Tree (Ex × AS) :=
  .ite (decide (i ≥ (0 : Int)))
  (.need ((0 : Int) ≤ (200 : Int) ∧ (200 : Int) ≤ (200 : Int) ∧ (200 : Int) ≤ (140737488355328 : Int))
    (.code (codeC (sub [(0 : Nat), (0 : Nat)] (bK1 d1 d2 d3 d4 n L m cl oc i))) (codeS (sub [(0 : Nat), (0 : Nat)] (bK1 d1 d2 d3 d4 n L m cl oc i))) (codeK (sub [(0 : Nat), (0 : Nat)] (bK1 d1 d2 d3 d4 n L m cl oc i)))))
  (.ret
    (.exit 0,
      {
        tm :=
          [.unk, .ok (SV.d (DV.ro m 1 fun i x => DV.ro 200 1 fun j x => DV.x (.bool (cl i j)))), .ok (SV.ptr 0 0), .unk, .unk,
            .ok (SV.row 2 0 0 m 1), .ok (iv i), .unk, .unk, .unk, .unk, .unk, .unk, .unk, .unk, .unk, .unk, .unk, .unk, .unk, .unk, .unk, .unk, .unk, .unk,
            .unk, .unk, .unk, .unk, .unk, .unk, .unk, .unk, .unk, .unk, .unk, .unk, .unk, .unk, .unk, .unk, .unk, .unk, .unk, .unk, .unk, .unk, .unk, .unk, .unk, .unk, .unk, .unk,
            .unk, .unk, .unk, .unk, .unk, .unk, .unk, .unk, .unk, .unk, .unk, .unk, .unk, .unk, .unk, .unk, .unk, .unk, .unk, .unk, .unk, .unk, .unk, .unk, .unk, .unk, .unk, .unk,
            .unk, .unk],
        hp :=
          [some (.cells [iv d1, iv d2, iv d3, iv d4, SV.d (DV.ro n 1 fun i x => DV.x (.int .i64 (L i)))]), none,
            some (.row m 1 fun i x => DV.ro 200 1 fun j x => DV.x (.bool (oc i j)))],
        next := 3, hint := .nil }))

theorem BK1_eq (d1 d2 d3 d4 : Int) (n : Nat) (L : Nat → Int) (m : Nat) (cl oc : Nat → Nat → Bool) (i : Int) : bK1 d1 d2 d3 d4 n L m cl oc i = BK1 d1 d2 d3 d4 n L m cl oc i := by kernel_rfl

noncomputable def KK1 (d1 d2 d3 d4 : Int) (n : Nat) (L : Nat → Int) (m : Nat) (cl oc : Nat → Nat → Bool) (i : Int) : Tree SV :=
  .need (0 + m ≤ m) (.ret (SV.d (DV.ro m 1 fun i j => DV.ro 200 1 fun j x => DV.x (.bool (oc ((0 : Nat) + i) j)))))

theorem KK1_eq (d1 d2 d3 d4 : Int) (n : Nat) (L : Nat → Int) (m : Nat) (cl oc : Nat → Nat → Bool) (i : Int) : codeK (sub [0] (tK d1 d2 d3 d4 n L m cl)) (.exit 0) (invK1 d1 d2 d3 d4 n L m cl oc i) = KK1 d1 d2 d3 d4 n L m cl oc i := by kernel_rfl

noncomputable def invK2r (d1 d2 d3 d4 : Int) (n : Nat) (L : Nat → Int) (m : Nat) (cl oc : Nat → Nat → Bool) (i : Int) (c : Nat → Nat → DV) (f : Int) : AS :=
  ⟨[.unk, .ok (lH m cl), .ok (.ptr 0 0), .unk, .unk, .ok (.row 2 0 0 m 1), .ok (iv i), .ok (.row 3 0 0 200 1), .ok (iv f)] ++ List.replicate 74 .unk, [cH d1 d2 d3 d4 n L, none, some (.row m 1 (ro2 m oc)), some (.row 200 1 c)], 4, .nil⟩
noncomputable def invK2 (d1 d2 d3 d4 : Int) (n : Nat) (L : Nat → Int) (m : Nat) (cl oc : Nat → Nat → Bool) (i : Int) (nb : Nat → Bool) (f : Int) : AS := invK2r d1 d2 d3 d4 n L m cl oc i (fun i _ => .x (.bool (nb i))) f
noncomputable def bodyK2 : Code := loopN (bodyOf Try.prog 39) 1
noncomputable def bK2 (d1 d2 d3 d4 : Int) (n : Nat) (L : Nat → Int) (m : Nat) (cl oc : Nat → Nat → Bool) (i : Int) (nb : Nat → Bool) (f : Int) : Tree (Ex × AS) := cutT 4 [] [1, 2, 5, 6, 7, 8] [1] 4 .nil (exec Try.prog C0 D0 200 bodyK2 (invK2 d1 d2 d3 d4 n L m cl oc i nb f))
noncomputable def BK2 (d1 d2 d3 d4 : Int) (n : Nat) (L : Nat → Int) (m : Nat) (cl oc : Nat → Nat → Bool) (i : Int) (nb : Nat → Bool) (f : Int) : Tree (Ex × AS) :=
  .ite (decide (f < (200 : Int))) (.code (codeC (sub [(0 : Nat)] (bK2 d1 d2 d3 d4 n L m cl oc i nb f))) (codeS (sub [(0 : Nat)] (bK2 d1 d2 d3 d4 n L m cl oc i nb f))) (codeK (sub [(0 : Nat)] (bK2 d1 d2 d3 d4 n L m cl oc i nb f))))
  (.ret
    (.exit 2,
      {
        tm :=
          [.unk, .ok (SV.d (DV.ro m 1 fun i x => DV.ro 200 1 fun j x => DV.x (.bool (cl i j)))), .ok (SV.ptr 0 0), .unk, .unk,
            .ok (SV.row 2 0 0 m 1), .ok (iv i), .ok (SV.row 3 0 0 200 1), .ok (iv f), .unk, .unk, .unk, .unk, .unk, .unk, .unk,
            .unk, .unk, .unk, .unk, .unk, .unk, .unk, .unk, .unk, .unk, .unk, .unk, .unk, .unk, .unk, .unk, .unk, .unk, .unk, .unk, .unk, .unk, .unk, .unk, .unk, .unk, .unk, .unk,
            .unk, .unk, .unk, .unk, .unk, .unk, .unk, .unk, .unk, .unk, .unk, .unk, .unk, .unk, .unk, .unk, .unk, .unk, .unk, .unk, .unk, .unk, .unk, .unk, .unk, .unk, .unk, .unk,
            .unk, .unk, .unk, .unk, .unk, .unk, .unk, .unk, .unk, .unk, .unk],
        hp :=
          [some (.cells [iv d1, iv d2, iv d3, iv d4, SV.d (DV.ro n 1 fun i x => DV.x (.int .i64 (L i)))]), none,
            some (.row m 1 fun i x => DV.ro 200 1 fun j x => DV.x (.bool (oc i j))), some (.row 200 1 fun i x => DV.x (.bool (nb i)))],
        next := 4, hint := .nil }))

theorem BK2_eq (d1 d2 d3 d4 : Int) (n : Nat) (L : Nat → Int) (m : Nat) (cl oc : Nat → Nat → Bool) (i : Int) (nb : Nat → Bool) (f : Int) : bK2 d1 d2 d3 d4 n L m cl oc i nb f = BK2 d1 d2 d3 d4 n L m cl oc i nb f := by kernel_rfl

noncomputable def KK2 (d1 d2 d3 d4 : Int) (n : Nat) (L : Nat → Int) (m : Nat) (cl oc : Nat → Nat → Bool) (i : Int) (nb : Nat → Bool) (f : Int) : Tree (Ex × AS) :=
  .need ((0 : Int) ≤ i ∧ i < (↑m : Int))
  (.need (200 ≤ 200)
    (.need (0 + Int.toNat i < m)
      (.ret
        (.normal,
          {
            tm :=
              [.unk, .ok (SV.d (DV.ro m 1 fun i x => DV.ro 200 1 fun j x => DV.x (.bool (cl i j)))), .ok (SV.ptr 0 0), .unk, .unk,
                .ok (SV.row 2 0 0 m 1), .ok (iv (w64 (i - (1 : Int)))), .unk, .unk, .unk, .unk, .unk, .unk, .unk, .unk, .unk, .unk, .unk, .unk, .unk, .unk, .unk,
                .unk, .unk, .unk, .unk, .unk, .unk, .unk, .unk, .unk, .unk, .unk, .unk, .unk, .unk, .unk, .unk, .unk, .unk, .unk, .unk, .unk, .unk, .unk, .unk, .unk, .unk, .unk, .unk,
                .unk, .unk, .unk, .unk, .unk, .unk, .unk, .unk, .unk, .unk, .unk, .unk, .unk, .unk, .unk, .unk, .unk, .unk, .unk, .unk, .unk, .unk, .unk, .unk, .unk, .unk, .unk, .unk,
                .unk, .unk, .unk, .unk, .unk],
            hp :=
              [some (.cells [iv d1, iv d2, iv d3, iv d4, SV.d (DV.ro n 1 fun i x => DV.x (.int .i64 (L i)))]), none,
                some
                  (.row m 1 fun a b =>
                    if 0 ≤ b ∧ b < 1 then
                      selD (decide (a = 0 + Int.toNat i))
                        (match [DV.ro 200 1 fun i j => DV.x (.bool (nb ((0 : Nat) + i)))][b - 0]? with
                        | some x => x
                        | none => DV.x (.tuple { toList := [] }))
                        (DV.ro 200 1 fun j x => DV.x (.bool (oc a j)))
                    else DV.ro 200 1 fun j x => DV.x (.bool (oc a j)))],
            next := 3, hint := .nil }))))

theorem KK2_eq (d1 d2 d3 d4 : Int) (n : Nat) (L : Nat → Int) (m : Nat) (cl oc : Nat → Nat → Bool) (i : Int) (nb : Nat → Bool) (f : Int) : codeK (sub [0, 0] (bK1 d1 d2 d3 d4 n L m cl oc i)) (.exit 2) (invK2 d1 d2 d3 d4 n L m cl oc i nb f) = KK2 d1 d2 d3 d4 n L m cl oc i nb f := by kernel_rfl

noncomputable def invK3r (d1 d2 d3 d4 : Int) (n : Nat) (L : Nat → Int) (m : Nat) (cl oc : Nat → Nat → Bool) (i : Int) (c : Nat → Nat → DV) (f g : Int) : AS :=
  ⟨[.unk, .ok (lH m cl), .ok (.ptr 0 0), .unk, .unk, .ok (.row 2 0 0 m 1), .ok (iv i), .ok (.row 3 0 0 200 1), .ok (iv f), .ok (iv g)] ++ List.replicate 73 .unk, [cH d1 d2 d3 d4 n L, none, some (.row m 1 (ro2 m oc)), some (.row 200 1 c)], 4, .nil⟩
noncomputable def invK3 (d1 d2 d3 d4 : Int) (n : Nat) (L : Nat → Int) (m : Nat) (cl oc : Nat → Nat → Bool) (i : Int) (nb : Nat → Bool) (f g : Int) : AS := invK3r d1 d2 d3 d4 n L m cl oc i (fun i _ => .x (.bool (nb i))) f g
noncomputable def bodyK3 : Code := loopN (bodyOf Try.prog 39) 2
noncomputable def BK3 (d1 d2 d3 d4 : Int) (n : Nat) (L : Nat → Int) (m : Nat) (cl oc : Nat → Nat → Bool) (i : Int) (nb : Nat → Bool) (f g : Int) : Tree (Ex × AS) :=
  .ite (decide (g ≤ w64 (f + d3)) && decide (g < (200 : Int)))
  (.need ((0 : Int) ≤ f ∧ f < (200 : Int))
    (.need (0 + Int.toNat f < 200)
      (.need (nb ((0 : Nat) + Int.toNat f) = false → (0 : Int) ≤ w64 (i + (1 : Int)) ∧ w64 (i + (1 : Int)) < (↑m : Int))
        (.need (nb ((0 : Nat) + Int.toNat f) = false → 0 + Int.toNat (w64 (i + (1 : Int))) < m)
          (.need (nb ((0 : Nat) + Int.toNat f) = false → (0 : Int) ≤ g ∧ g < (200 : Int))
            (.need ((0 : Int) ≤ f ∧ f < (200 : Int))
              (.need (0 + Int.toNat f < 200)
                (.ret
                  (.normal,
                    {
                      tm :=
                        [.unk, .ok (SV.d (DV.ro m 1 fun i x => DV.ro 200 1 fun j x => DV.x (.bool (cl i j)))), .ok (SV.ptr 0 0), .unk, .unk,
                          .ok (SV.row 2 0 0 m 1), .ok (iv i), .ok (SV.row 3 0 0 200 1), .ok (iv f), .ok (iv (w64 (g + (1 : Int)))), .unk,
                          .unk, .unk, .unk, .unk, .unk, .unk, .unk, .unk, .unk, .unk, .unk, .unk, .unk, .unk, .unk, .unk, .unk, .unk, .unk, .unk, .unk, .unk, .unk, .unk, .unk, .unk,
                          .unk, .unk, .unk, .unk, .unk, .unk, .unk, .unk, .unk, .unk, .unk, .unk, .unk, .unk, .unk, .unk, .unk, .unk, .unk, .unk, .unk, .unk, .unk, .unk, .unk, .unk,
                          .unk, .unk, .unk, .unk, .unk, .unk, .unk, .unk, .unk, .unk, .unk, .unk, .unk, .unk, .unk, .unk, .unk, .unk, .unk, .unk],
                      hp :=
                        [some (.cells [iv d1, iv d2, iv d3, iv d4, SV.d (DV.ro n 1 fun i x => DV.x (.int .i64 (L i)))]), none,
                          some (.row m 1 fun i x => DV.ro 200 1 fun j x => DV.x (.bool (oc i j))),
                          some
                            (.row 200 1 fun a b =>
                              if 0 ≤ b ∧ b < 1 then
                                selD (decide (a = 0 + Int.toNat f))
                                  (match [DV.x (.bool (nb ((0 : Nat) + Int.toNat f) || oc ((0 : Nat) + Int.toNat (w64 (i + (1 : Int)))) (Int.toNat g)))][b - 0]? with
                                  | some x => x
                                  | none => DV.x (.tuple { toList := [] }))
                                  (DV.x (.bool (nb a)))
                              else DV.x (.bool (nb a)))],
                      next := 4, hint := .nil })))))))))
  (.ret
    (.exit 4,
      {
        tm :=
          [.unk, .ok (SV.d (DV.ro m 1 fun i x => DV.ro 200 1 fun j x => DV.x (.bool (cl i j)))), .ok (SV.ptr 0 0), .unk, .unk,
            .ok (SV.row 2 0 0 m 1), .ok (iv i), .ok (SV.row 3 0 0 200 1), .ok (iv f), .ok (iv g), .unk, .unk, .unk, .unk, .unk,
            .unk, .unk, .unk, .unk, .unk, .unk, .unk, .unk, .unk, .unk, .unk, .unk, .unk, .unk, .unk, .unk, .unk, .unk, .unk, .unk, .unk, .unk, .unk, .unk, .unk, .unk, .unk, .unk,
            .unk, .unk, .unk, .unk, .unk, .unk, .unk, .unk, .unk, .unk, .unk, .unk, .unk, .unk, .unk, .unk, .unk, .unk, .unk, .unk, .unk, .unk, .unk, .unk, .unk, .unk, .unk, .unk,
            .unk, .unk, .unk, .unk, .unk, .unk, .unk, .unk, .unk, .unk, .unk, .unk],
        hp :=
          [some (.cells [iv d1, iv d2, iv d3, iv d4, SV.d (DV.ro n 1 fun i x => DV.x (.int .i64 (L i)))]), none,
            some (.row m 1 fun i x => DV.ro 200 1 fun j x => DV.x (.bool (oc i j))), some (.row 200 1 fun i x => DV.x (.bool (nb i)))],
        next := 4, hint := .nil }))

theorem BK3_eq (d1 d2 d3 d4 : Int) (n : Nat) (L : Nat → Int) (m : Nat) (cl oc : Nat → Nat → Bool) (i : Int) (nb : Nat → Bool) (f g : Int) : cutT 4 [] [1, 2, 5, 6, 7, 8, 9] [1] 4 .nil (exec Try.prog C0 D0 200 bodyK3 (invK3 d1 d2 d3 d4 n L m cl oc i nb f g)) = BK3 d1 d2 d3 d4 n L m cl oc i nb f g := by kernel_rfl

noncomputable def KK3 (d1 d2 d3 d4 : Int) (n : Nat) (L : Nat → Int) (m : Nat) (cl oc : Nat → Nat → Bool) (i : Int) (nb0 nb : Nat → Bool) (f g : Int) : Tree (Ex × AS) :=
  .need ((0 : Int) ≤ f ∧ f < (200 : Int))
  (.need (0 + Int.toNat f < 200)
    (.need (nb ((0 : Nat) + Int.toNat f) = true → (0 : Int) ≤ i ∧ i < (↑m : Int))
      (.need (nb ((0 : Nat) + Int.toNat f) = true → (0 : Int) ≤ f ∧ f < (200 : Int))
        (.need ((0 : Int) ≤ f ∧ f < (200 : Int))
          (.need (0 + Int.toNat f < 200)
            (.ret
              (.normal,
                {
                  tm :=
                    [.unk, .ok (SV.d (DV.ro m 1 fun i x => DV.ro 200 1 fun j x => DV.x (.bool (cl i j)))), .ok (SV.ptr 0 0), .unk, .unk,
                      .ok (SV.row 2 0 0 m 1), .ok (iv i), .ok (SV.row 3 0 0 200 1), .ok (iv (w64 (f + (1 : Int)))), .unk, .unk, .unk,
                      .unk, .unk, .unk, .unk, .unk, .unk, .unk, .unk, .unk, .unk, .unk, .unk, .unk, .unk, .unk, .unk, .unk, .unk, .unk, .unk, .unk, .unk, .unk, .unk, .unk, .unk, .unk,
                      .unk, .unk, .unk, .unk, .unk, .unk, .unk, .unk, .unk, .unk, .unk, .unk, .unk, .unk, .unk, .unk, .unk, .unk, .unk, .unk, .unk, .unk, .unk, .unk, .unk, .unk, .unk,
                      .unk, .unk, .unk, .unk, .unk, .unk, .unk, .unk, .unk, .unk, .unk, .unk, .unk, .unk, .unk, .unk, .unk],
                  hp :=
                    [some (.cells [iv d1, iv d2, iv d3, iv d4, SV.d (DV.ro n 1 fun i x => DV.x (.int .i64 (L i)))]), none,
                      some (.row m 1 fun i x => DV.ro 200 1 fun j x => DV.x (.bool (oc i j))),
                      some
                        (.row 200 1 fun a b =>
                          if 0 ≤ b ∧ b < 1 then
                            selD (decide (a = 0 + Int.toNat f))
                              (match [DV.x (.bool (nb ((0 : Nat) + Int.toNat f) && cl (Int.toNat i) (Int.toNat f)))][b - 0]? with
                              | some x => x
                              | none => DV.x (.tuple { toList := [] }))
                              (DV.x (.bool (nb a)))
                          else DV.x (.bool (nb a)))],
                  next := 4, hint := .nil })))))))

theorem KK3_eq (d1 d2 d3 d4 : Int) (n : Nat) (L : Nat → Int) (m : Nat) (cl oc : Nat → Nat → Bool) (i : Int) (nb0 nb : Nat → Bool) (f g : Int) : codeK (sub [0] (bK2 d1 d2 d3 d4 n L m cl oc i nb0 f)) (.exit 4) (invK3 d1 d2 d3 d4 n L m cl oc i nb f g) = KK3 d1 d2 d3 d4 n L m cl oc i nb0 nb f g := by kernel_rfl

theorem cK1 (d1 d2 d3 d4 : Int) (n : Nat) (L : Nat → Int) (m : Nat) (cl : Nat → Nat → Bool) : codeC (sub [0] (tK d1 d2 d3 d4 n L m cl)) = .loop bodyK1 := by kernel_rfl
theorem nK1 (d1 d2 d3 d4 : Int) (n : Nat) (L : Nat → Int) (m : Nat) (cl : Nat → Nat → Bool) : Nat.ble (codeS (sub [0] (tK d1 d2 d3 d4 n L m cl))).next 3 = true := by kernel_rfl
noncomputable def IK1 (d1 d2 d3 d4 : Int) (n : Nat) (L : Nat → Int) (m : Nat) (cl : Nat → Nat → Bool) : Option AS :=
  some
  {
    tm :=
      [.unk, .ok (SV.d (DV.ro m 1 fun i x => DV.ro 200 1 fun j x => DV.x (.bool (cl i j)))), .ok (SV.ptr 0 0), .unk, .unk,
        .ok (SV.row 2 0 0 (0 + m) 1), .ok (iv (w64 ((↑n : Int) - (1 : Int)))), .unk, .unk, .unk, .unk, .unk, .unk, .unk, .unk, .unk, .unk, .unk, .unk, .unk,
        .unk, .unk, .unk, .unk, .unk, .unk, .unk, .unk, .unk, .unk, .unk, .unk, .unk, .unk, .unk, .unk, .unk, .unk, .unk, .unk, .unk, .unk, .unk, .unk, .unk, .unk, .unk, .unk, .unk,
        .unk, .unk, .unk, .unk, .unk, .unk, .unk, .unk, .unk, .unk, .unk, .unk, .unk, .unk, .unk, .unk, .unk, .unk, .unk, .unk, .unk, .unk, .unk, .unk, .unk, .unk, .unk, .unk, .unk,
        .unk, .unk, .unk, .unk, .unk],
    hp :=
      [some (.cells [iv d1, iv d2, iv d3, iv d4, SV.d (DV.ro n 1 fun i x => DV.x (.int .i64 (L i)))]), none,
        some (.row (0 + m) 1 fun a b => DV.ro 200 1 fun j x => DV.x (.bool (cl (a - (0 : Nat)) j)))],
    next := 3, hint := .nil }

theorem IK1_eq (d1 d2 d3 d4 : Int) (n : Nat) (L : Nat → Int) (m : Nat) (cl : Nat → Nat → Bool) : entA 3 [] [1, 2, 5, 6] [1] 3 .nil (sub [0] (tK d1 d2 d3 d4 n L m cl)) = IK1 d1 d2 d3 d4 n L m cl := by kernel_rfl

theorem cK2 (d1 d2 d3 d4 : Int) (n : Nat) (L : Nat → Int) (m : Nat) (cl oc : Nat → Nat → Bool) (i : Int) : codeC (sub [0, 0] (bK1 d1 d2 d3 d4 n L m cl oc i)) = .loop bodyK2 := by kernel_rfl
theorem nK2 (d1 d2 d3 d4 : Int) (n : Nat) (L : Nat → Int) (m : Nat) (cl oc : Nat → Nat → Bool) (i : Int) : Nat.ble (codeS (sub [0, 0] (bK1 d1 d2 d3 d4 n L m cl oc i))).next 4 = true := by kernel_rfl
theorem iK2 (d1 d2 d3 d4 : Int) (n : Nat) (L : Nat → Int) (m : Nat) (cl oc : Nat → Nat → Bool) (i : Int) : entA 4 [] [1, 2, 5, 6, 7, 8] [1] 4 .nil (sub [0, 0] (bK1 d1 d2 d3 d4 n L m cl oc i)) = some (invK2r d1 d2 d3 d4 n L m cl oc i (fun _ j => List.getD [DV.x (Value.bool false)] j (.x undef)) 1) := by kernel_rfl
theorem cK3 (d1 d2 d3 d4 : Int) (n : Nat) (L : Nat → Int) (m : Nat) (cl oc : Nat → Nat → Bool) (i : Int) (nb : Nat → Bool) (f : Int) : codeC (sub [0] (bK2 d1 d2 d3 d4 n L m cl oc i nb f)) = .loop bodyK3 := by kernel_rfl
theorem nK3 (d1 d2 d3 d4 : Int) (n : Nat) (L : Nat → Int) (m : Nat) (cl oc : Nat → Nat → Bool) (i : Int) (nb : Nat → Bool) (f : Int) : Nat.ble (codeS (sub [0] (bK2 d1 d2 d3 d4 n L m cl oc i nb f))).next 4 = true := by kernel_rfl
theorem iK3 (d1 d2 d3 d4 : Int) (n : Nat) (L : Nat → Int) (m : Nat) (cl oc : Nat → Nat → Bool) (i : Int) (nb : Nat → Bool) (f : Int) : entA 4 [] [1, 2, 5, 6, 7, 8, 9] [1] 4 .nil (sub [0] (bK2 d1 d2 d3 d4 n L m cl oc i nb f)) = some (invK3 d1 d2 d3 d4 n L m cl oc i nb f (if w64 (f - d3) > 1 then w64 (f - d3) else 1)) := by kernel_rfl

end Go.Proofs.Ytcbjclmjkilphaa

namespace Go.Proofs.Ytcbjclmjkilphaa
open Go.Sx
set_option maxRecDepth 100000

section
variable {d1 d2 d3 d4 : Int} {n : Nat} {L : Nat → Int} {m : Nat} {cl oc oc' : Nat → Nat → Bool} {i f g : Int} {nb : Nat → Bool} {c : Nat → Nat → DV} {k : Nat}

theorem gK1 (h : ∀ i j, i < m → j < 1 → c i j = ro2 m oc i j) : Gc 3 (invK1r d1 d2 d3 d4 n L m cl c i) (invK1 d1 d2 d3 d4 n L m cl oc i) := by
  refine gc_sound [] [] rfl ?_ ?_
  · simp [invK1r, invK1, lH, leTm, leTV, leSV, leSVs, rn, iv, leD, List.replicate]
  · simp [invK1r, invK1, cH, leHp, leBlk, leSVs, leSV, rn, iv, leD, srcOf, hget, ro64]
    exact fun i hi => h i 0 hi (by decide)
theorem gK2 (h : ∀ i j, i < 200 → j < 1 → c i j = .x (.bool (nb i))) : Gc 4 (invK2r d1 d2 d3 d4 n L m cl oc i c f) (invK2 d1 d2 d3 d4 n L m cl oc i nb f) := by
  refine gc_sound [] [] rfl ?_ ?_
  · simp [invK2r, invK2, lH, leTm, leTV, leSV, leSVs, rn, iv, leD, List.replicate]
  · simp [invK2r, invK2, cH, leHp, leBlk, leSVs, leSV, rn, iv, leD, srcOf, hget, ro64]
    exact fun i hi => h i 0 hi (by decide)
theorem gK3 (h : ∀ i j, i < 200 → j < 1 → c i j = .x (.bool (nb i))) : Gc 4 (invK3r d1 d2 d3 d4 n L m cl oc i c f g) (invK3 d1 d2 d3 d4 n L m cl oc i nb f g) := by
  refine gc_sound [] [] rfl ?_ ?_
  · simp [invK3r, invK3, lH, leTm, leTV, leSV, leSVs, rn, iv, leD, List.replicate]
  · simp [invK3r, invK3, cH, leHp, leBlk, leSVs, leSV, rn, iv, leD, srcOf, hget, ro64]
    exact fun i hi => h i 0 hi (by decide)

/-- What lies in a span. -/
def SB (lo hi st er : Int) (n : Nat) (L : Nat → Int) : Nat → Nat → Bool := fun j a => decide (sL lo st er n L j ≤ a) && decide ((a : Int) ≤ sH hi st er n L j)

theorem s_le (hv : dV d1 d2 d3 d4) (hb : dB d1 d2 d3 d4 L n = true) : ∀ j, j ≤ n → sL d1 d3 d4 n L (n - j) ≤ sH d2 d3 d4 n L (n - j) ∧ dL d1 d3 d4 L (n - j) ≤ sL d1 d3 d4 n L (n - j) ∧ sH d2 d3 d4 n L (n - j) ≤ dH d2 d3 d4 L (n - j)
  | 0, _ => by
    have := dB_le hv hb
    rw [Nat.sub_zero, sL_n, sH_n]; omega
  | j + 1, hj => by
    obtain ⟨i1, i2, i3⟩ := s_le hv hb j (by omega)
    have hk : n - (j + 1) < n := by omega
    have e : n - (j + 1) + 1 = n - j := by omega
    have h1 := dB_le hv (dB_mono (show n - (j + 1) ≤ n by omega) hb)
    have hd : dL d1 d3 d4 L (n - j) ≥ dL d1 d3 d4 L (n - (j + 1)) - d3 ∧ dH d2 d3 d4 L (n - j) ≤ dH d2 d3 d4 L (n - (j + 1)) + d3 := by
      rw [← e]; simp only [dL, dH, nL, nH]; omega
    have := hv.s
    rw [sL_i hk, sH_i hk, e]
    omega

theorem s_b (hv : dV d1 d2 d3 d4) (hb : dB d1 d2 d3 d4 L n = true) (j : Nat) (hj : j ≤ n) : sL d1 d3 d4 n L j ≤ sH d2 d3 d4 n L j ∧ dL d1 d3 d4 L j ≤ sL d1 d3 d4 n L j ∧ sH d2 d3 d4 n L j ≤ dH d2 d3 d4 L j := by
  have := s_le hv hb (n - j) (by omega)
  rwa [show n - (n - j) = j by omega] at this

theorem bk_step (h : FwOK d1 d2 d3 d4 L n) (hb : dB d1 d2 d3 d4 L n = true) (hk : k < n) {f : Int} (hf : 1 ≤ f ∧ f < 200) :
    (exF true (sL d1 d3 d4 n L (k + 1)) (sH d2 d3 d4 n L (k + 1)) (if f - d3 > 1 then f - d3 else 1) (min (f + d3) 199 + 1) && fwB d1 d2 d3 d4 L k f.toNat) = SB d1 d2 d3 d4 n L k f.toNat := by
  have ht := h.top (k + 1) (by omega)
  have hs := h.v.s
  obtain ⟨b1, b2, b3⟩ := s_b h.v hb (k + 1) (by omega)
  have hl1 := dL_b h.v (L := L) (k + 1)
  have e : ((f.toNat : Nat) : Int) = f := by omega
  unfold exF fwB SB
  rw [sL_i hk, sH_i hk, dB_mono (show k ≤ n by omega) hb, e]
  simp only [Bool.true_and]
  rw [Bool.eq_iff_iff]
  simp only [Bool.and_eq_true, decide_eq_true_eq]
  split <;> omega

def nk3 (d1 d2 d3 d4 : Int) (n : Nat) (L : Nat → Int) (k : Nat) (f : Int) : Nat → Bool := fun a => decide ((a : Int) < f) && SB d1 d2 d3 d4 n L k a
def nk4 (d1 d2 d3 d4 : Int) (n : Nat) (L : Nat → Int) (k : Nat) (f g0 g : Int) : Nat → Bool := fun a => bif decide (a = f.toNat) then exF true (sL d1 d3 d4 n L (k + 1)) (sH d2 d3 d4 n L (k + 1)) g0 g else nk3 d1 d2 d3 d4 n L k f a

theorem loopK3 (hv : FwOK d1 d2 d3 d4 L n) (hb : dB d1 d2 d3 d4 L n = true) (hk : k < n) {f : Int} (hf : 1 ≤ f ∧ f < 200) (hoc : ∀ a, oc (k + 1) a = SB d1 d2 d3 d4 n L (k + 1) a) {Q : Ex × AS → Prop}
    (hQ : Q (.normal, invK2 d1 d2 d3 d4 n L (n + 1) (FW d1 d2 d3 d4 L) oc k (nk3 d1 d2 d3 d4 n L k (f + 1)) (f + 1))) (hQg : ∀ s s', Gc 4 s s' → Q (.normal, s') → Q (.normal, s)) :
    Sat Try.prog (bK2 d1 d2 d3 d4 n L (n + 1) (FW d1 d2 d3 d4 L) oc k (nk3 d1 d2 d3 d4 n L k f) f) Q := by
  refine Sat.of_eq (BK2_eq d1 d2 d3 d4 n L (n + 1) (FW d1 d2 d3 d4 L) oc k (nk3 d1 d2 d3 d4 n L k f) f) ?_
  constructor
  unfold BK2
  have hs := hv.v.s; have hs5 := hv.s; have hn := hv.len
  refine ⟨fun _ => ?_, fun h => by simp only [decide_eq_false_iff_not] at h; omega⟩
  have e0 : w64 (f - d3) = f - d3 := w64_of (by omega) (by omega)
  have e1 : w64 (f + d3) = f + d3 := w64_of (by omega) (by omega)
  have ek : w64 ((k : Int) + 1) = ((k + 1 : Nat) : Int) := by rw [w64_of (by omega) (by omega)]; omega
  have hI := iK3 d1 d2 d3 d4 n L (n + 1) (FW d1 d2 d3 d4 L) oc k (nk3 d1 d2 d3 d4 n L k f) f
  rw [e0] at hI
  generalize hg0 : (if f - d3 > 1 then f - d3 else 1) = g0 at hI
  have g0b : 1 ≤ g0 ∧ g0 ≤ f ∧ g0 ≤ min (f + d3) 199 + 1 := by rw [← hg0]; split <;> omega
  have hle := (s_b hv.v hb (k + 1) (by omega)).1
  refine code_satS C0_ok D0_ok (n := 200) (n0 := 4) (nx := 4) (roots := []) (keep := [1, 2, 5, 6, 7, 8, 9]) (drop := [1]) (h := .nil) (cK3 _ _ _ _ _ _ _ _ _ _ _ _) (nK3 _ _ _ _ _ _ _ _ _ _ _ _)
    (fun q s => ∃ g : Int, q = (min (f + d3) 199 + 1 - g).toNat ∧ g0 ≤ g ∧ g ≤ min (f + d3) 199 + 1 ∧ s = invK3 d1 d2 d3 d4 n L (n + 1) (FW d1 d2 d3 d4 L) oc k (nk4 d1 d2 d3 d4 n L k f g0 g) f g)
    (fun e s => e = .exit 4 ∧ s = invK3 d1 d2 d3 d4 n L (n + 1) (FW d1 d2 d3 d4 L) oc k (nk4 d1 d2 d3 d4 n L k f g0 (min (f + d3) 199 + 1)) f (min (f + d3) 199 + 1))
    ⟨_, _, ⟨g0, rfl, by omega, by omega, rfl⟩, ?_⟩ ?_ ?_
  · refine (entA_sound hI).trans (gK3 fun i j hi hj => ?_)
    have : nk3 d1 d2 d3 d4 n L k f i = nk4 d1 d2 d3 d4 n L k f g0 g0 i := by
      unfold nk4
      by_cases h : i = f.toNat
      · simp only [h, decide_true, cond_true, exF, nk3]
        have h1 : ¬ ((f.toNat : Nat) : Int) < f := by omega
        have h2 : ¬ max g0 (sL d1 d3 d4 n L (k + 1)) ≤ g0 - 1 := by omega
        rw [decide_eq_false h1, decide_eq_false h2]
        simp
      · simp [h]
    show DV.x (.bool (nk3 d1 d2 d3 d4 n L k f i)) = _
    rw [this]
  · rintro q s ⟨g, rfl, h1, h2, rfl⟩
    refine Sat.of_eq (BK3_eq d1 d2 d3 d4 n L (n + 1) (FW d1 d2 d3 d4 L) oc k (nk4 d1 d2 d3 d4 n L k f g0 g) f g) ?_
    constructor
    unfold BK3
    have e2 : w64 (g + 1) = g + 1 := w64_of (by omega) (by omega)
    simp only [e1, e2, ek, Nat.zero_add, Int.toNat_natCast]
    refine ⟨fun h => ?_, fun h => ?_⟩
    · simp only [Bool.and_eq_true, decide_eq_true_eq] at h
      refine ⟨by omega, by omega, fun _ => by omega, fun _ => by omega, fun _ => by omega, by omega, by omega, (min (f + d3) 199 + 1 - (g + 1)).toNat, _, by omega, ⟨g + 1, rfl, by omega, by omega, rfl⟩, gK3 fun i j hi hj => ?_⟩
      obtain rfl : j = 0 := by omega
      rw [if_pos (by decide)]
      refine selB (f := nk4 d1 d2 d3 d4 n L k f g0 g) (g := nk4 d1 d2 d3 d4 n L k f g0 (g + 1)) (fun e => ?_) (fun e => ?_)
      · subst e
        unfold nk4
        simp only [decide_true, cond_true]
        have hS : oc (k + 1) g.toNat = (true && (decide (sL d1 d3 d4 n L (k + 1) ≤ g) && decide (g ≤ sH d2 d3 d4 n L (k + 1)))) := by
          rw [hoc]; unfold SB
          rw [show ((g.toNat : Nat) : Int) = g by omega, Bool.true_and]
        rw [← exF_step (fun _ => hle) h1, ← hS]
      · unfold nk4; simp [e]
    · have : g = min (f + d3) 199 + 1 := by
        simp only [Bool.and_eq_false_iff, decide_eq_false_iff_not] at h; omega
      subst this
      exact ⟨_, ⟨rfl, rfl⟩, Gc.refl _ _⟩
  · rintro e s ⟨rfl, rfl⟩
    refine Sat.of_eq (KK3_eq d1 d2 d3 d4 n L (n + 1) (FW d1 d2 d3 d4 L) oc k (nk3 d1 d2 d3 d4 n L k f) (nk4 d1 d2 d3 d4 n L k f g0 (min (f + d3) 199 + 1)) f (min (f + d3) 199 + 1)) ?_
    constructor
    unfold KK3
    have e2 : w64 (f + 1) = f + 1 := w64_of (by omega) (by omega)
    simp only [e2, Nat.zero_add, Int.toNat_natCast]
    refine ⟨by omega, by omega, fun _ => by omega, fun _ => by omega, by omega, by omega, hQg _ _ (gK2 fun i j hi hj => ?_) hQ⟩
    obtain rfl : j = 0 := by omega
    rw [if_pos (by decide)]
    refine selB (f := nk4 d1 d2 d3 d4 n L k f g0 (min (f + d3) 199 + 1)) (g := nk3 d1 d2 d3 d4 n L k (f + 1)) (fun e => ?_) (fun e => ?_)
    · subst e
      have hst := bk_step hv hb hk hf
      rw [hg0] at hst
      unfold nk4
      simp only [decide_true, cond_true]
      unfold nk3
      rw [show decide (((f.toNat : Nat) : Int) < f + 1) = true from decide_eq_true (by omega), Bool.true_and]
      exact hst
    · unfold nk4 nk3
      simp only [e, decide_false, cond_false]
      rw [show decide ((i : Int) < f) = decide ((i : Int) < f + 1) by rw [decide_eq_decide]; omega]

theorem nk3_end (hv : FwOK d1 d2 d3 d4 L n) (hb : dB d1 d2 d3 d4 L n = true) (hk : k < n) (a : Nat) : nk3 d1 d2 d3 d4 n L k 200 a = SB d1 d2 d3 d4 n L k a := by
  have := hv.top k (by omega)
  have := (s_b hv.v hb k (by omega)).2.2
  unfold nk3 SB
  by_cases h : (a : Int) < 200
  · simp [h]
  · have h2 : ¬ (a : Int) ≤ sH d2 d3 d4 n L k := by omega
    simp [h, h2]

theorem roundK1 (hv : FwOK d1 d2 d3 d4 L n) (hb : dB d1 d2 d3 d4 L n = true) (hk : k < n) (hoc : ∀ a, oc (k + 1) a = SB d1 d2 d3 d4 n L (k + 1) a) (ho2 : oc' = fun j a => if j = k then SB d1 d2 d3 d4 n L k a else oc j a) {Q : Ex × AS → Prop}
    (hQ : ∀ s, Gc 3 s (invK1 d1 d2 d3 d4 n L (n + 1) (FW d1 d2 d3 d4 L) oc' ((k : Int) - 1)) → Q (.normal, s)) :
    Sat Try.prog (bK1 d1 d2 d3 d4 n L (n + 1) (FW d1 d2 d3 d4 L) oc k) Q := by
  refine Sat.of_eq (BK1_eq d1 d2 d3 d4 n L (n + 1) (FW d1 d2 d3 d4 L) oc k) ?_
  constructor
  unfold BK1
  have hn := hv.len
  refine ⟨fun _ => ⟨by decide, ?_⟩, fun h => by simp only [decide_eq_false_iff_not] at h; omega⟩
  have hI := iK2 d1 d2 d3 d4 n L (n + 1) (FW d1 d2 d3 d4 L) oc k
  refine code_satS C0_ok D0_ok (n := 200) (n0 := 4) (nx := 4) (roots := []) (keep := [1, 2, 5, 6, 7, 8]) (drop := [1]) (h := .nil) (cK2 _ _ _ _ _ _ _ _ _ _) (nK2 _ _ _ _ _ _ _ _ _ _)
    (fun q s => ∃ f : Int, q = (200 - f).toNat ∧ 1 ≤ f ∧ f ≤ 200 ∧ s = invK2 d1 d2 d3 d4 n L (n + 1) (FW d1 d2 d3 d4 L) oc k (nk3 d1 d2 d3 d4 n L k f) f)
    (fun e s => e = .exit 2 ∧ s = invK2 d1 d2 d3 d4 n L (n + 1) (FW d1 d2 d3 d4 L) oc k (nk3 d1 d2 d3 d4 n L k 200) 200)
    ⟨_, _, ⟨1, rfl, by omega, by omega, rfl⟩, ?_⟩ ?_ ?_
  · refine (entA_sound hI).trans (gK2 fun i j hi hj => ?_)
    obtain rfl : j = 0 := by omega
    have hl := dL_b hv.v (L := L) k
    have hl2 := (s_b hv.v hb k (by omega)).2.1
    have : nk3 d1 d2 d3 d4 n L k 1 i = false := by
      unfold nk3 SB
      by_cases h : (i : Int) < 1
      · have h2 : ¬ sL d1 d3 d4 n L k ≤ i := by omega
        rw [decide_eq_false h2]; simp
      · rw [decide_eq_false h]; simp
    rw [this]; rfl
  · rintro q s ⟨f, rfl, h1, h2, rfl⟩
    by_cases hf : f < 200
    · exact loopK3 hv hb hk ⟨h1, hf⟩ hoc ⟨(200 - (f + 1)).toNat, _, by omega, ⟨f + 1, rfl, by omega, by omega, rfl⟩, Gc.refl _ _⟩ (fun s s' hg ⟨m', s2, e1, e2, e3⟩ => ⟨m', s2, e1, e2, hg.trans e3⟩)
    · obtain rfl : f = 200 := by omega
      refine Sat.of_eq (BK2_eq d1 d2 d3 d4 n L (n + 1) (FW d1 d2 d3 d4 L) oc k (nk3 d1 d2 d3 d4 n L k 200) 200) ?_
      constructor
      unfold BK2
      exact ⟨fun h => (by simp at h), fun _ => ⟨_, ⟨rfl, rfl⟩, Gc.refl _ _⟩⟩
  · rintro e s ⟨rfl, rfl⟩
    refine Sat.of_eq (KK2_eq d1 d2 d3 d4 n L (n + 1) (FW d1 d2 d3 d4 L) oc k (nk3 d1 d2 d3 d4 n L k 200) 200) ?_
    constructor
    unfold KK2
    have e2 : w64 ((k : Int) - 1) = (k : Int) - 1 := w64_of (by omega) (by omega)
    rw [e2]
    simp only [Nat.zero_add, Int.toNat_natCast]
    refine ⟨by omega, by decide, by omega, hQ _ (gK1 fun i j hi hj => ?_)⟩
    obtain rfl : j = 0 := by omega
    rw [if_pos (by decide), selD_eq]
    have e3 : (fun (i j : Nat) => DV.x (.bool (nk3 d1 d2 d3 d4 n L k 200 i))) = fun j _ => DV.x (.bool (SB d1 d2 d3 d4 n L k j)) := by
      funext a b
      rw [nk3_end hv hb hk]
    by_cases h : i = k
    · subst h
      simp only [decide_true, cond_true, ho2, ro2, if_true, Nat.sub_zero, List.getElem?_cons_zero]
      rw [e3]
    · simp only [h, decide_false, cond_false, ho2, ro2, if_false]

noncomputable def bkR (d1 d2 d3 d4 : Int) (n : Nat) (L : Nat → Int) : SV := .d (.ro (n + 1) 1 (ro2 (n + 1) (SB d1 d2 d3 d4 n L)))

def ocT (d1 d2 d3 d4 : Int) (n : Nat) (L : Nat → Int) (t : Nat) : Nat → Nat → Bool := fun j a => if t ≤ j then SB d1 d2 d3 d4 n L j a else FW d1 d2 d3 d4 L j a

theorem backward_sat (hv : FwOK d1 d2 d3 d4 L n) (hb : dB d1 d2 d3 d4 L n = true) : Sat Try.prog (tK d1 d2 d3 d4 n L (n + 1) (FW d1 d2 d3 d4 L)) (· = bkR d1 d2 d3 d4 n L) := by
  constructor
  rw [LK_eq]; unfold LK
  have hn := hv.len
  refine ⟨⟨by decide, trivial, by omega⟩, ?_⟩
  have hI := IK1_eq d1 d2 d3 d4 n L (n + 1) (FW d1 d2 d3 d4 L)
  unfold IK1 at hI
  have e1 : w64 ((n : Int) - 1) = (n : Int) - 1 := w64_of (by omega) (by omega)
  rw [e1] at hI
  simp only [Nat.zero_add, Nat.sub_zero] at hI
  refine code_satS C0_ok D0_ok (n := 200) (n0 := 3) (nx := 3) (roots := []) (keep := [1, 2, 5, 6]) (drop := [1]) (h := .nil) (cK1 _ _ _ _ _ _ _ _) (nK1 _ _ _ _ _ _ _ _)
    (fun q s => ∃ t : Nat, q = t ∧ t ≤ n ∧ s = invK1 d1 d2 d3 d4 n L (n + 1) (FW d1 d2 d3 d4 L) (ocT d1 d2 d3 d4 n L t) ((t : Int) - 1))
    (fun e s => e = .exit 0 ∧ s = invK1 d1 d2 d3 d4 n L (n + 1) (FW d1 d2 d3 d4 L) (ocT d1 d2 d3 d4 n L 0) (-1))
    ⟨_, _, ⟨n, rfl, by omega, rfl⟩, ?_⟩ ?_ ?_
  · refine (entA_sound hI).trans (gK1 (c := ro2 (n + 1) (FW d1 d2 d3 d4 L)) fun i j hi hj => ?_)
    have : FW d1 d2 d3 d4 L i = ocT d1 d2 d3 d4 n L n i := by
      funext a
      unfold ocT
      by_cases h : n ≤ i
      · obtain rfl : i = n := by omega
        rw [if_pos h]
        unfold FW fwB SB
        rw [hb, sL_n, sH_n, Bool.true_and]
      · rw [if_neg h]
    simp only [ro2, this]
  · rintro q s ⟨t, rfl, ht, rfl⟩
    cases q with
    | zero =>
      refine Sat.of_eq (BK1_eq d1 d2 d3 d4 n L (n + 1) (FW d1 d2 d3 d4 L) (ocT d1 d2 d3 d4 n L 0) (((0 : Nat) : Int) - 1)) ?_
      constructor
      unfold BK1
      exact ⟨fun h => (by simp at h), fun _ => ⟨_, ⟨rfl, rfl⟩, Gc.refl _ _⟩⟩
    | succ k =>
      have e : ((k + 1 : Nat) : Int) - 1 = k := by omega
      rw [e]
      refine roundK1 hv hb (show k < n by omega) (oc := ocT d1 d2 d3 d4 n L (k + 1)) (oc' := ocT d1 d2 d3 d4 n L k) (fun a => by unfold ocT; rw [if_pos (Nat.le_refl _)]) ?_ fun s hs => ⟨k, _, by omega, ⟨k, rfl, by omega, rfl⟩, hs⟩
      funext j a
      unfold ocT
      by_cases h1 : j = k
      · subst h1; simp
      · by_cases h2 : k + 1 ≤ j
        · rw [if_pos (by omega), if_neg h1, if_pos h2]
        · rw [if_neg (by omega), if_neg h1, if_neg h2]
  · rintro e s ⟨rfl, rfl⟩
    refine Sat.of_eq (KK1_eq d1 d2 d3 d4 n L (n + 1) (FW d1 d2 d3 d4 L) (ocT d1 d2 d3 d4 n L 0) (-1)) ?_
    constructor
    unfold KK1
    refine ⟨by omega, ?_⟩
    simp only [Nat.zero_add]
    rfl
end

end Go.Proofs.Ytcbjclmjkilphaa

namespace Go.Proofs.Ytcbjclmjkilphaa
open Go.Sx
set_option maxRecDepth 100000

def boolOf : DV → Bool | .x (.bool b) => b | _ => false
noncomputable def boolCell (cell : Nat → Nat → DV) : Nat → Bool := fun i => boolOf (cell i 0)
def wB (n : Nat) (c : Nat → Bool) (lo hi : Int) : Bool := decide (∀ i, i < n → c i = (decide ((i : Int) ≥ lo) && decide ((i : Int) ≤ hi)))

noncomputable def cWith : Ctr := fun ss => match ss with
  | [.d (.ro n 1 cell), .d (.x (.int .i64 lo)), .d (.x (.int .i64 hi))] => .need (n ≤ 1000 ∧ ∀ i, i < n → ∃ b, cell i 0 = .x (.bool b)) (.ret (bv (wB n (boolCell cell) lo hi)))
  | _ => .fail

theorem cWith_ok : CtrOK Try.prog 38 cWith := by
  refine ctrOK_leS C0_ok D0_ok (by kernel_rfl) (by kernel_rfl) fun ss r h => ?_
  unfold cWith at h
  split at h
  · rename_i n cell lo hi
    obtain ⟨⟨hn, hc⟩, h⟩ := h
    simp only [Tr.ev] at h
    subst h
    refine ⟨[roB n (boolCell cell), iv lo, iv hi], 200, .nil, ?_, within_sat hn ?_⟩
    · simp only [leSVs, leSV, roB, iv, leD, and_true, true_and]
      intro i j hi hj
      obtain rfl : j = 0 := by omega
      obtain ⟨b, e⟩ := hc i hi
      simp [boolCell, e, boolOf]
    · unfold wB; rw [decide_eq_true_eq]
  · exact h.elim

noncomputable def cFwd : Ctr := fun ss => match ss with
  | [.agg [.d (.x (.int .i64 d1)), .d (.x (.int .i64 d2)), .d (.x (.int .i64 d3)), .d (.x (.int .i64 d4)), .d (.ro n 1 cell)]] =>
    .need (FwOK d1 d2 d3 d4 (intCell cell) n ∧ ∀ i, i < n → ∃ b, cell i 0 = .x (.int .i64 b)) (.ret (fwR d1 d2 d3 d4 n (intCell cell)))
  | _ => .fail

theorem cFwd_ok : CtrOK Try.prog 37 cFwd := by
  refine ctrOK_leS C0_ok D0_ok (by kernel_rfl) (by kernel_rfl) fun ss r h => ?_
  unfold cFwd at h
  split at h
  · rename_i d1 d2 d3 d4 n cell
    obtain ⟨⟨hv, hc⟩, h⟩ := h
    simp only [Tr.ev] at h
    subst h
    refine ⟨[.agg [iv d1, iv d2, iv d3, iv d4, ro64 n (intCell cell)]], 200, .nil, ?_, forward_sat hv⟩
    simp only [leSVs, leSV, iv, ro64, leD, and_true, true_and]
    exact le_ro64 hc
  · exact h.elim

noncomputable def cBwd : Ctr := fun ss => match ss with
  | [.agg [.d (.x (.int .i64 d1)), .d (.x (.int .i64 d2)), .d (.x (.int .i64 d3)), .d (.x (.int .i64 d4)), .d (.ro n 1 cell)], .d (.ro m 1 cel2)] =>
    .need (FwOK d1 d2 d3 d4 (intCell cell) n ∧ dB d1 d2 d3 d4 (intCell cell) n = true ∧ m = n + 1 ∧ (∀ i, i < n → ∃ b, cell i 0 = .x (.int .i64 b)) ∧ ∀ i, i < n + 1 → cel2 i 0 = ro2 (n + 1) (FW d1 d2 d3 d4 (intCell cell)) i 0) (.ret (bkR d1 d2 d3 d4 n (intCell cell)))
  | _ => .fail

theorem cBwd_ok : CtrOK Try.prog 39 cBwd := by
  refine ctrOK_leS C0_ok D0_ok (by kernel_rfl) (by kernel_rfl) fun ss r h => ?_
  unfold cBwd at h
  split at h
  · rename_i d1 d2 d3 d4 n cell m cel2
    obtain ⟨⟨hv, hb, hm, hc, hc2⟩, h⟩ := h
    simp only [Tr.ev] at h
    subst h
    subst hm
    refine ⟨[.agg [iv d1, iv d2, iv d3, iv d4, ro64 n (intCell cell)], .d (.ro (n + 1) 1 (ro2 (n + 1) (FW d1 d2 d3 d4 (intCell cell))))], 200, .nil, ?_, backward_sat hv hb⟩
    simp only [leSVs, leSV, iv, ro64, leD, and_true, true_and]
    refine ⟨le_ro64 hc, fun i j hi hj => ?_⟩
    obtain rfl : j = 0 := by omega
    exact hc2 i hi
  · exact h.elim

/-- drift.Spans, told so that what hangs on tests stands at the leaves. -/
noncomputable def szR (lo hi st er : Int) (n : Nat) (L : Nat → Int) : SV := .tup [.d (.ro (bif dB lo hi st er L n then n + 1 else 0) 2 (scell (sL lo st er n L) (sH hi st er n L))), iv (bif dB lo hi st er L n then 0 else 440)]
noncomputable def cSpnZ : Ctr := fun ss => match ss with
  | [.d (.x (.int .i64 lo)), .d (.x (.int .i64 hi)), .d (.x (.int .i64 st)), .d (.x (.int .i64 er)), .d (.ro n 1 cell)] =>
    .need (dV lo hi st er ∧ n ≤ 1000 ∧ ∀ i, i < n → ∃ b, cell i 0 = .x (.int .i64 b)) (.ret (szR lo hi st er n (intCell cell)))
  | _ => .fail

theorem cSpnZ_ok : CtrOK Try.prog 63 cSpnZ := cSpn_ok.leR fun ss r h => by
  unfold cSpnZ at h
  split at h
  · rename_i lo hi st er n cell
    obtain ⟨h0, h⟩ := h
    simp only [Tr.ev] at h
    subst h
    cases hb : dB lo hi st er (intCell cell) n with
    | false =>
      refine ⟨.tup [.d (.x (.slice none 0 0)), iv 440], ⟨h0, ?_⟩, ?_⟩
      · unfold snT; rw [hb]; exact .inr ⟨rfl, rfl⟩
      · simp [szR, hb, leSV, leSVs, leD, iv]
    | true =>
      refine ⟨.tup [.d (.ro (n + 1) 2 (scell (sL lo st er n (intCell cell)) (sH hi st er n (intCell cell)))), iv 0], ⟨h0, ?_⟩, ?_⟩
      · unfold snT; rw [hb]; exact .inl ⟨rfl, rfl⟩
      · simp [szR, hb, leSV, leSVs, leD, iv]
  · exact h.elim

noncomputable def manE : FuncId → Option Ctr := fun k => match k with
  | 28 => some cMade
  | 30 => some cBounds
  | 32 => some cEx44
  | 36 => some cOdd
  | 37 => some cFwd
  | 38 => some cWith
  | 39 => some cBwd
  | 63 => some cSpnZ
  | _ => none

theorem manE_ok (k : Nat) (c : Ctr) (h : manE k = some c) : CtrOK Try.prog k c ∧ goodF Try.prog k = true := by
  unfold manE at h
  split at h <;> first | (cases h; done) | (cases h)
  · exact ⟨cMade_ok, by kernel_rfl⟩
  · exact ⟨cBounds_ok, by kernel_rfl⟩
  · exact ⟨cEx44_ok, by kernel_rfl⟩
  · exact ⟨cOdd_ok, by kernel_rfl⟩
  · exact ⟨cFwd_ok, by kernel_rfl⟩
  · exact ⟨cWith_ok, by kernel_rfl⟩
  · exact ⟨cBwd_ok, by kernel_rfl⟩
  · exact ⟨cSpnZ_ok, by kernel_rfl⟩

noncomputable def CE : Ctx := ctxN Try.prog manE (fun _ => false) 200 .nil 3
theorem CE_ok : CtxOK Try.prog CE := ctxN_ok mixed manE_ok 3
noncomputable def DE : Dr := fun _ => drawn Try.prog CE
theorem DE_ok : DrOK Try.prog CE DE := drawn_ok CE_ok mixed
noncomputable def TE (k : Nat) (args : List SV) (h : Hint) : Tree SV := fnT Try.prog CE DE 200 (fnOf Try.prog k) (bodyOf Try.prog k) args h
noncomputable def t9 (lo wi st er : Int) (n : Nat) (cell : Nat → Nat → DV) (ka kb : Int) : Tree SV := TE 9 [.agg [u8 lo, u8 wi, u8 st, u8 er, .d (.ro n 1 cell)], .agg [u8 ka, u8 kb]] .nil
noncomputable def L9 (lo wi st er : Int) (n : Nat) (cell : Nat → Nat → DV) (ka kb : Int) : Tree SV :=
  .ite false (.ret (bv false))
  (.need
    (((0 : Int) ≤ lo ∧ lo < (256 : Int)) ∧
      ((0 : Int) ≤ wi ∧ wi < (256 : Int)) ∧
        ((0 : Int) ≤ st ∧ st < (256 : Int)) ∧ ((0 : Int) ≤ er ∧ er < (256 : Int)) ∧ n ≤ 9223372036854775807 ∧ ∀ (i : Nat), i < n → ∃ b, cell i (0 : Nat) = DV.x (.int .u8 b) ∧ (0 : Int) ≤ b ∧ b < (256 : Int))
    (.need
      (kS n ≤ 1000 ∧
        ((0 : Int) ≤ ka ∧ ka < (256 : Int)) ∧
          ((0 : Int) ≤ kb ∧ kb < (256 : Int)) ∧
            (∀ (i : Nat), i < kS n + (1 : Nat) → ∃ b, (fun i x => DV.x (.int .i64 (fS lo wi (st % (6 : Int)) (byteCell cell) i))) i (0 : Nat) = DV.x (.int .i64 b)) ∧
              ∀ (i : Nat),
                i < kS n →
                  ∃ b,
                    (fun i x => DV.x (.int .i64 (lS lo wi (st % (6 : Int)) (er % (6 : Int)) (byteCell cell) i))) i (0 : Nat) = DV.x (.int .i64 b) ∧ (-4000000000000000000 : Int) ≤ b ∧ b ≤ (4000000000000000000 : Int))
      (.need
        (FwOK (sLo lo) (sHi lo wi) (st % (6 : Int)) (er % (6 : Int))
            (intCell fun i x => DV.x (.int .i64 (oL (kS n) (intCell fun i x => DV.x (.int .i64 (lS lo wi (st % (6 : Int)) (er % (6 : Int)) (byteCell cell) i))) ka kb i))) (kS n) ∧
          ∀ (i : Nat),
            i < kS n →
              ∃ b, (fun i x => DV.x (.int .i64 (oL (kS n) (intCell fun i x => DV.x (.int .i64 (lS lo wi (st % (6 : Int)) (er % (6 : Int)) (byteCell cell) i))) ka kb i))) i (0 : Nat) = DV.x (.int .i64 b))
        (.code (codeC (sub [(1 : Nat), (0 : Nat), (0 : Nat), (0 : Nat)] (t9 lo wi st er n cell ka kb))) (codeS (sub [(1 : Nat), (0 : Nat), (0 : Nat), (0 : Nat)] (t9 lo wi st er n cell ka kb)))
          (codeK (sub [(1 : Nat), (0 : Nat), (0 : Nat), (0 : Nat)] (t9 lo wi st er n cell ka kb)))))))

theorem L9_eq (lo wi st er : Int) (n : Nat) (cell : Nat → Nat → DV) (ka kb : Int) : t9 lo wi st er n cell ka kb = L9 lo wi st er n cell ka kb := by kernel_rfl


end Go.Proofs.Ytcbjclmjkilphaa

namespace Go.Proofs.Ytcbjclmjkilphaa
open Go.Sx
set_option maxRecDepth 100000

noncomputable def p9 : List Nat := [1, 0, 0, 0]
noncomputable def dr9 : List Nat := [0, 1, 2, 3, 4, 5, 6, 7, 8, 9, 11]
noncomputable def inv9 (d1 d2 d3 d4 : Int) (n : Nat) (l : Nat → Int) (fc : Nat → Nat → Bool) (none0 : Bool) (i : Int) : AS :=
  ⟨[.unk, .unk, .unk, .unk, .unk, .ok (bv true), .unk, .ok (.ptr 10 0), .ok (lH (n + 1) fc), .ok (bv none0), .ok (iv i)] ++ List.replicate 114 .unk,
   List.replicate 10 none ++ [some (.cells [iv d1, iv d2, iv d3, iv d4, ro64 n l]), none], 12, .nil⟩
noncomputable def body9 : Code := loopN (bodyOf Try.prog 9) 0
noncomputable def B9 (d1 d2 d3 d4 : Int) (n : Nat) (l : Nat → Int) (fc : Nat → Nat → Bool) (none0 : Bool) (i : Int) : Tree (Ex × AS) :=
  .ite (decide (i < (200 : Int)))
  (.need (none0 = true → (0 : Int) ≤ w64 ((↑(n + 1) : Int) - (1 : Int)) ∧ w64 ((↑(n + 1) : Int) - (1 : Int)) < (↑(n + 1) : Int))
    (.need (none0 = true → (0 : Int) ≤ i ∧ i < (200 : Int))
      (.ret
        (.normal,
          {
            tm :=
              [.unk, .unk, .unk, .unk, .unk, .ok (bv true), .unk, .ok (SV.ptr 10 0),
                .ok (SV.d (DV.ro (n + 1) 1 fun i x => DV.ro 200 1 fun j x => DV.x (.bool (fc i j)))),
                .ok (bv (none0 && !fc (Int.toNat (w64 ((↑(n + (1 : Nat)) : Int) - (1 : Int)))) (Int.toNat i))), .ok (iv (w64 (i + (1 : Int)))), .unk, .unk, .unk, .unk, .unk, .unk, .unk, .unk, .unk, .unk, .unk,
                .unk, .unk, .unk, .unk, .unk, .unk, .unk, .unk, .unk, .unk, .unk, .unk, .unk, .unk, .unk, .unk, .unk, .unk, .unk, .unk, .unk, .unk, .unk, .unk, .unk, .unk, .unk, .unk,
                .unk, .unk, .unk, .unk, .unk, .unk, .unk, .unk, .unk, .unk, .unk, .unk, .unk, .unk, .unk, .unk, .unk, .unk, .unk, .unk, .unk, .unk, .unk, .unk, .unk, .unk, .unk, .unk,
                .unk, .unk, .unk, .unk, .unk, .unk, .unk, .unk, .unk, .unk, .unk, .unk, .unk, .unk, .unk, .unk, .unk, .unk, .unk, .unk, .unk, .unk, .unk, .unk, .unk, .unk, .unk, .unk,
                .unk, .unk, .unk, .unk, .unk, .unk, .unk, .unk, .unk, .unk, .unk, .unk, .unk, .unk, .unk, .unk, .unk, .unk, .unk],
            hp := [none, none, none, none, none, none, none, none, none, none, some (.cells [iv d1, iv d2, iv d3, iv d4, SV.d (DV.ro n 1 fun i x => DV.x (.int .i64 (l i)))]), none], next := 12,
            hint := .nil }))))
  (.ret
    (.exit 0,
      {
        tm :=
          [.unk, .unk, .unk, .unk, .unk, .ok (bv true), .unk, .ok (SV.ptr 10 0),
            .ok (SV.d (DV.ro (n + 1) 1 fun i x => DV.ro 200 1 fun j x => DV.x (.bool (fc i j)))), .ok (bv none0), .ok (iv i), .unk, .unk, .unk, .unk, .unk, .unk, .unk, .unk,
            .unk, .unk, .unk, .unk, .unk, .unk, .unk, .unk, .unk, .unk, .unk, .unk, .unk, .unk, .unk, .unk, .unk, .unk, .unk, .unk, .unk, .unk, .unk, .unk, .unk, .unk, .unk, .unk,
            .unk, .unk, .unk, .unk, .unk, .unk, .unk, .unk, .unk, .unk, .unk, .unk, .unk, .unk, .unk, .unk, .unk, .unk, .unk, .unk, .unk, .unk, .unk, .unk, .unk, .unk, .unk, .unk,
            .unk, .unk, .unk, .unk, .unk, .unk, .unk, .unk, .unk, .unk, .unk, .unk, .unk, .unk, .unk, .unk, .unk, .unk, .unk, .unk, .unk, .unk, .unk, .unk, .unk, .unk, .unk, .unk,
            .unk, .unk, .unk, .unk, .unk, .unk, .unk, .unk, .unk, .unk, .unk, .unk, .unk, .unk, .unk, .unk, .unk, .unk, .unk, .unk, .unk, .unk],
        hp := [none, none, none, none, none, none, none, none, none, none, some (.cells [iv d1, iv d2, iv d3, iv d4, SV.d (DV.ro n 1 fun i x => DV.x (.int .i64 (l i)))]), none], next := 12,
        hint := .nil }))

theorem B9_eq (d1 d2 d3 d4 : Int) (n : Nat) (l : Nat → Int) (fc : Nat → Nat → Bool) (none0 : Bool) (i : Int) : cutT 12 [] [5, 7, 8, 9, 10] dr9 12 .nil (exec Try.prog CE DE 200 body9 (inv9 d1 d2 d3 d4 n l fc none0 i)) = B9 d1 d2 d3 d4 n l fc none0 i := by kernel_rfl

theorem c9 (lo wi st er : Int) (qn : Nat) (cell : Nat → Nat → DV) (ka kb : Int) : codeC (sub p9 (t9 lo wi st er qn cell ka kb)) = .loop body9 := by kernel_rfl
theorem n9 (lo wi st er : Int) (qn : Nat) (cell : Nat → Nat → DV) (ka kb : Int) : Nat.ble (codeS (sub p9 (t9 lo wi st er qn cell ka kb))).next 12 = true := by kernel_rfl
theorem i9 (lo wi st er : Int) (qn : Nat) (cell : Nat → Nat → DV) (ka kb : Int) : ∃ l, l = oL (kS qn) (lS lo wi (st % 6) (er % 6) (byteCell cell)) ka kb ∧ entA 12 [] [5, 7, 8, 9, 10] dr9 12 .nil (sub p9 (t9 lo wi st er qn cell ka kb)) = some (inv9 (sLo lo) (sHi lo wi) (st % 6) (er % 6) (kS qn) l (FW (sLo lo) (sHi lo wi) (st % 6) (er % 6) l) true 0) := ⟨_, rfl, by kernel_rfl⟩
noncomputable def k9 (lo wi st er : Int) (qn : Nat) (cell : Nat → Nat → DV) (ka kb : Int) (d1 d2 d3 d4 : Int) (n : Nat) (l : Nat → Int) (fc : Nat → Nat → Bool) (none0 : Bool) (i : Int) : Tree SV := codeK (sub p9 (t9 lo wi st er qn cell ka kb)) (.exit 0) (inv9 d1 d2 d3 d4 n l fc none0 i)
noncomputable def K9 (lo wi st er : Int) (qn : Nat) (cell : Nat → Nat → DV) (ka kb : Int) (d1 d2 d3 d4 : Int) (n : Nat) (l : Nat → Int) (fc : Nat → Nat → Bool) (none0 : Bool) (i : Int) : Tree SV :=
  .need (dV d1 d2 d3 d4 ∧ n ≤ 1000 ∧ ∀ (i : Nat), i < n → ∃ b, (fun i x => DV.x (.int .i64 (l i))) i (0 : Nat) = DV.x (.int .i64 b))
  (.need (dV d1 d2 d3 d4 ∧ n ≤ 1000 ∧ ∀ (i : Nat), i < n → ∃ b, (fun i x => DV.x (.int .i64 (l i))) i (0 : Nat) = DV.x (.int .i64 b))
    (.ite none0
      (.ret
        (bv
          (zif (dB d1 d2 d3 d4 (fun i => l i) n) (dL d1 d3 d4 (fun i => l i) n) == (0 : Int) &&
                  (zif (dB d1 d2 d3 d4 (fun i => l i) n) (dH d2 d3 d4 (fun i => l i) n) == (0 : Int) && (dE d1 d2 d3 d4 (fun i => l i) n == (440 : Int) && true)) &&
                (bif dB d1 d2 d3 d4 (fun i => l i) n then (0 : Int) else (440 : Int)) == (440 : Int) &&
              (↑(bif dB d1 d2 d3 d4 (fun i => l i) n then n + 1 else 0) : Int) == (0 : Int) &&
            true)))
      (.need
        ((dE d1 d2 d3 d4 (fun i => l i) n != (0 : Int) || (bif dB d1 d2 d3 d4 (fun i => l i) n then (0 : Int) else (440 : Int)) != (0 : Int) ||
              (↑(bif dB d1 d2 d3 d4 (fun i => l i) n then n + 1 else 0) : Int) != (↑(n + 1) : Int)) =
            false →
          (0 : Int) ≤ w64 ((↑(n + 1) : Int) - (1 : Int)) ∧ w64 ((↑(n + 1) : Int) - (1 : Int)) < (↑(n + 1) : Int))
        (.need
          ((dE d1 d2 d3 d4 (fun i => l i) n != (0 : Int) || (bif dB d1 d2 d3 d4 (fun i => l i) n then (0 : Int) else (440 : Int)) != (0 : Int) ||
                (↑(bif dB d1 d2 d3 d4 (fun i => l i) n then n + 1 else 0) : Int) != (↑(n + 1) : Int)) =
              false →
            200 ≤ 1000 ∧ ∀ (i : Nat), i < (200 : Nat) → ∃ b, (fun j x => DV.x (.bool (fc (Int.toNat (w64 ((↑(n + (1 : Nat)) : Int) - (1 : Int)))) j))) i (0 : Nat) = DV.x (.bool b))
          (.ite
            (dE d1 d2 d3 d4 (fun i => l i) n != (0 : Int) || (bif dB d1 d2 d3 d4 (fun i => l i) n then (0 : Int) else (440 : Int)) != (0 : Int) ||
                (↑(bif dB d1 d2 d3 d4 (fun i => l i) n then n + 1 else 0) : Int) != (↑(n + 1) : Int) ||
              !wB 200 (fun i => fc (Int.toNat (w64 ((↑(n + (1 : Nat)) : Int) - (1 : Int)))) i) (zif (dB d1 d2 d3 d4 (fun i => l i) n) (dL d1 d3 d4 (fun i => l i) n))
                  (zif (dB d1 d2 d3 d4 (fun i => l i) n) (dH d2 d3 d4 (fun i => l i) n)))
            (.ret (bv false))
            (.need
              (FwOK d1 d2 d3 d4 (intCell fun i x => DV.x (.int .i64 (l i))) n ∧
                dB d1 d2 d3 d4 (fun i => l i) n = true ∧
                  n + 1 = n + 1 ∧
                    (∀ (i : Nat), i < n → ∃ b, (fun i x => DV.x (.int .i64 (l i))) i (0 : Nat) = DV.x (.int .i64 b)) ∧
                      ∀ (i : Nat), i < n + (1 : Nat) → ro2 (n + (1 : Nat)) fc i (0 : Nat) = ro2 (n + (1 : Nat)) (FW d1 d2 d3 d4 (intCell fun i x => DV.x (.int .i64 (l i)))) i (0 : Nat))
              (.code (codeC (sub [(0 : Nat), (0 : Nat), (1 : Nat), (0 : Nat), (0 : Nat), (1 : Nat), (0 : Nat)] (k9 lo wi st er qn cell ka kb d1 d2 d3 d4 n l fc none0 i)))
                (codeS (sub [(0 : Nat), (0 : Nat), (1 : Nat), (0 : Nat), (0 : Nat), (1 : Nat), (0 : Nat)] (k9 lo wi st er qn cell ka kb d1 d2 d3 d4 n l fc none0 i)))
                (codeK (sub [(0 : Nat), (0 : Nat), (1 : Nat), (0 : Nat), (0 : Nat), (1 : Nat), (0 : Nat)] (k9 lo wi st er qn cell ka kb d1 d2 d3 d4 n l fc none0 i))))))))))

theorem K9_eq (lo wi st er : Int) (qn : Nat) (cell : Nat → Nat → DV) (ka kb : Int) (d1 d2 d3 d4 : Int) (n : Nat) (l : Nat → Int) (fc : Nat → Nat → Bool) (none0 : Bool) (i : Int) : k9 lo wi st er qn cell ka kb d1 d2 d3 d4 n l fc none0 i = K9 lo wi st er qn cell ka kb d1 d2 d3 d4 n l fc none0 i := by kernel_rfl


end Go.Proofs.Ytcbjclmjkilphaa

namespace Go.Proofs.Ytcbjclmjkilphaa
open Go.Sx
set_option maxRecDepth 100000

noncomputable def q9 : List Nat := [0, 0, 1, 0, 0, 1, 0]
noncomputable def dr9b : List Nat := List.range 14 ++ (List.range 46).drop 15
noncomputable def inv9b (n : Nat) (gc : Nat → Nat → Bool) (N : Nat) (a b : Nat → Int) (e i : Int) : AS :=
  ⟨[.unk, .unk, .unk, .unk, .unk, .ok (bv true), .unk, .unk, .unk, .unk, .unk, .unk, .ok (.ptr 14 0), .ok (lH (n + 1) gc), .ok (iv i)] ++ List.replicate 110 .unk,
   List.replicate 14 none ++ [some (.cells [.d (.ro N 2 (scell a b)), iv e])] ++ List.replicate 31 none, 46, .nil⟩
noncomputable def body9b : Code := loopN (bodyOf Try.prog 9) 1
noncomputable def B9b (n : Nat) (gc : Nat → Nat → Bool) (N : Nat) (a b : Nat → Int) (e i : Int) : Tree (Ex × AS) :=
  .ite (decide (i < (↑(n + 1) : Int)))
  (.need ((0 : Int) ≤ i ∧ i < (↑(n + 1) : Int))
    (.need ((0 : Int) ≤ i ∧ i < (↑N : Int))
      (.need ((0 : Int) ≤ (0 : Int) ∧ (0 : Int) < (2 : Int))
        (.need ((0 : Int) ≤ i ∧ i < (↑N : Int))
          (.need ((0 : Int) ≤ (1 : Int) ∧ (1 : Int) < (2 : Int))
            (.need (200 ≤ 1000 ∧ ∀ (i_1 : Nat), i_1 < (200 : Nat) → ∃ b, (fun j x => DV.x (.bool (gc (Int.toNat i) j))) i_1 (0 : Nat) = DV.x (.bool b))
              (.ite (!wB 200 (fun i_1 => gc (Int.toNat i) i_1) (a (Int.toNat i)) (b (Int.toNat i)))
                (.ret
                  (.ret,
                    {
                      tm :=
                        [.unk, .unk, .unk, .unk, .unk, .ok (bv true), .unk, .unk, .unk, .unk, .unk, .unk, .ok (SV.ptr 14 0),
                          .ok (SV.d (DV.ro (n + 1) 1 fun i x => DV.ro 200 1 fun j x => DV.x (.bool (gc i j)))), .ok (iv i), .unk, .unk, .unk, .unk, .unk, .unk, .unk, .unk,
                          .unk, .unk, .unk, .unk, .unk, .unk, .unk, .unk, .unk, .unk, .unk, .unk, .unk, .unk, .unk, .unk, .unk, .unk, .unk, .unk, .unk, .unk, .unk, .unk, .unk, .unk,
                          .unk, .unk, .unk, .unk, .unk, .unk, .unk, .unk, .unk, .unk, .unk, .unk, .unk, .unk, .unk, .unk, .unk, .unk, .unk, .unk, .unk, .unk, .unk, .unk, .unk, .unk,
                          .unk, .unk, .unk, .unk, .unk, .unk, .unk, .unk, .unk, .unk, .unk, .unk, .unk, .unk, .unk, .unk, .unk, .unk, .unk, .unk, .unk, .unk, .unk, .unk, .unk, .unk,
                          .unk, .unk, .unk, .unk, .unk, .unk, .unk, .unk, .unk, .unk, .unk, .unk, .unk, .unk, .unk, .unk, .unk, .unk, .unk, .unk, .unk, .unk, .unk, .unk],
                      hp :=
                        [none, none, none, none, none, none, none, none, none, none, none, none, none, none,
                          some
                            (.cells
                              [SV.d
                                  (DV.ro N 2 fun a_1 b_1 =>
                                    match b_1 with
                                    | (0 : Nat) => DV.x (.int .i64 (a a_1))
                                    | x => DV.x (.int .i64 (b a_1))),
                                iv e]),
                          none, none, none, none, none, none, none, none, none, none, none, none, none, none, none, none, none, none, none, none, none, none, none, none, none, none, none, none, none, none, none],
                      next := 46, hint := .nil }))
                (.ret
                  (.normal,
                    {
                      tm :=
                        [.unk, .unk, .unk, .unk, .unk, .ok (bv true), .unk, .unk, .unk, .unk, .unk, .unk, .ok (SV.ptr 14 0),
                          .ok (SV.d (DV.ro (n + 1) 1 fun i x => DV.ro 200 1 fun j x => DV.x (.bool (gc i j)))), .ok (iv (w64 (i + (1 : Int)))), .unk, .unk, .unk, .unk, .unk, .unk,
                          .unk, .unk, .unk, .unk, .unk, .unk, .unk, .unk, .unk, .unk, .unk, .unk, .unk, .unk, .unk, .unk, .unk, .unk, .unk, .unk, .unk, .unk, .unk, .unk, .unk, .unk,
                          .unk, .unk, .unk, .unk, .unk, .unk, .unk, .unk, .unk, .unk, .unk, .unk, .unk, .unk, .unk, .unk, .unk, .unk, .unk, .unk, .unk, .unk, .unk, .unk, .unk, .unk,
                          .unk, .unk, .unk, .unk, .unk, .unk, .unk, .unk, .unk, .unk, .unk, .unk, .unk, .unk, .unk, .unk, .unk, .unk, .unk, .unk, .unk, .unk, .unk, .unk, .unk, .unk,
                          .unk, .unk, .unk, .unk, .unk, .unk, .unk, .unk, .unk, .unk, .unk, .unk, .unk, .unk, .unk, .unk, .unk, .unk, .unk, .unk, .unk, .unk, .unk, .unk, .unk, .unk],
                      hp :=
                        [none, none, none, none, none, none, none, none, none, none, none, none, none, none,
                          some
                            (.cells
                              [SV.d
                                  (DV.ro N 2 fun a_1 b_1 =>
                                    match b_1 with
                                    | (0 : Nat) => DV.x (.int .i64 (a a_1))
                                    | x => DV.x (.int .i64 (b a_1))),
                                iv e]),
                          none, none, none, none, none, none, none, none, none, none, none, none, none, none, none, none, none, none, none, none, none, none, none, none, none, none, none, none, none, none, none],
                      next := 46, hint := .nil })))))))))
  (.ret
    (.exit 2,
      {
        tm :=
          [.unk, .unk, .unk, .unk, .unk, .ok (bv true), .unk, .unk, .unk, .unk, .unk, .unk, .ok (SV.ptr 14 0),
            .ok (SV.d (DV.ro (n + 1) 1 fun i x => DV.ro 200 1 fun j x => DV.x (.bool (gc i j)))), .ok (iv i), .unk, .unk, .unk, .unk, .unk, .unk, .unk, .unk, .unk, .unk,
            .unk, .unk, .unk, .unk, .unk, .unk, .unk, .unk, .unk, .unk, .unk, .unk, .unk, .unk, .unk, .unk, .unk, .unk, .unk, .unk, .unk, .unk, .unk, .unk, .unk, .unk, .unk, .unk,
            .unk, .unk, .unk, .unk, .unk, .unk, .unk, .unk, .unk, .unk, .unk, .unk, .unk, .unk, .unk, .unk, .unk, .unk, .unk, .unk, .unk, .unk, .unk, .unk, .unk, .unk, .unk, .unk,
            .unk, .unk, .unk, .unk, .unk, .unk, .unk, .unk, .unk, .unk, .unk, .unk, .unk, .unk, .unk, .unk, .unk, .unk, .unk, .unk, .unk, .unk, .unk, .unk, .unk, .unk, .unk, .unk,
            .unk, .unk, .unk, .unk, .unk, .unk, .unk, .unk, .unk, .unk, .unk, .unk, .unk, .unk, .unk, .unk],
        hp :=
          [none, none, none, none, none, none, none, none, none, none, none, none, none, none,
            some
              (.cells
                [SV.d
                    (DV.ro N 2 fun a_1 b_1 =>
                      match b_1 with
                      | (0 : Nat) => DV.x (.int .i64 (a a_1))
                      | x => DV.x (.int .i64 (b a_1))),
                  iv e]),
            none, none, none, none, none, none, none, none, none, none, none, none, none, none, none, none, none, none, none, none, none, none, none, none, none, none, none, none, none, none, none],
        next := 46, hint := .nil }))

theorem B9b_eq (n : Nat) (gc : Nat → Nat → Bool) (N : Nat) (a b : Nat → Int) (e i : Int) : cutT 46 [] [5, 12, 13, 14] dr9b 46 .nil (exec Try.prog CE DE 200 body9b (inv9b n gc N a b e i)) = B9b n gc N a b e i := by kernel_rfl

theorem c9b (lo wi st er : Int) (qn : Nat) (cell : Nat → Nat → DV) (ka kb : Int) (d1 d2 d3 d4 : Int) (n : Nat) (l : Nat → Int) (fc : Nat → Nat → Bool) (none0 : Bool) (i : Int) : codeC (sub q9 (k9 lo wi st er qn cell ka kb d1 d2 d3 d4 n l fc none0 i)) = .loop body9b := by kernel_rfl
theorem n9b (lo wi st er : Int) (qn : Nat) (cell : Nat → Nat → DV) (ka kb : Int) (d1 d2 d3 d4 : Int) (n : Nat) (l : Nat → Int) (fc : Nat → Nat → Bool) (none0 : Bool) (i : Int) : Nat.ble (codeS (sub q9 (k9 lo wi st er qn cell ka kb d1 d2 d3 d4 n l fc none0 i))).next 46 = true := by kernel_rfl
theorem i9b (lo wi st er : Int) (qn : Nat) (cell : Nat → Nat → DV) (ka kb : Int) (d1 d2 d3 d4 : Int) (n : Nat) (l : Nat → Int) (fc : Nat → Nat → Bool) (none0 : Bool) (i : Int) : entA 46 [] [5, 12, 13, 14] dr9b 46 .nil (sub q9 (k9 lo wi st er qn cell ka kb d1 d2 d3 d4 n l fc none0 i)) = some (inv9b n (SB d1 d2 d3 d4 n l) (bif dB d1 d2 d3 d4 l n then n + 1 else 0) (sL d1 d3 d4 n l) (sH d2 d3 d4 n l) (bif dB d1 d2 d3 d4 l n then 0 else 440) 0) := by kernel_rfl
theorem k9b (lo wi st er : Int) (qn : Nat) (cell : Nat → Nat → DV) (ka kb : Int) (d1 d2 d3 d4 : Int) (n : Nat) (l : Nat → Int) (fc : Nat → Nat → Bool) (none0 : Bool) (i : Int) (m : Nat) (gc : Nat → Nat → Bool) (N : Nat) (a b : Nat → Int) (e j : Int) : codeK (sub q9 (k9 lo wi st er qn cell ka kb d1 d2 d3 d4 n l fc none0 i)) (.exit 2) (inv9b m gc N a b e j) = .ret (bv true) := by kernel_rfl

end Go.Proofs.Ytcbjclmjkilphaa

namespace Go.Proofs.Ytcbjclmjkilphaa
open Go.Sx
set_option maxRecDepth 100000

theorem oL_b {n : Nat} {L : Nat → Int} {ka kb : Int} {i : Nat} (hb : 0 ≤ kb ∧ kb < 256) : L i - 16 ≤ oL n L ka kb i ∧ oL n L ka kb i ≤ L i + 16 := by
  unfold oL; split <;> omega
theorem zif_t {b : Bool} {x : Int} (h : b = true) : zif b x = x := by rw [h]; rfl
theorem zif_f {b : Bool} {x : Int} (h : b = false) : zif b x = 0 := by rw [h]; rfl

theorem okK2 {ds : List DV} (h : okT Try.prog 6 74 ds) : ∃ a b, (0 ≤ a ∧ a < 256) ∧ (0 ≤ b ∧ b < 256) ∧ svT Try.prog 74 ds = .agg [u8 a, u8 b] := by
  simp [okT, okAs, Try.underlying74, Try.underlying5] at h
  obtain ⟨_, _, rfl, ⟨a, w1, rfl⟩, b, w2, rfl⟩ := h
  exact ⟨a, b, wf_u8 w1, wf_u8 w2, by simp [svT, Try.underlying74, u8]⟩

section
variable {d1 d2 d3 d4 : Int} {n : Nat} {l : Nat → Int}

def noneB (fc : Nat → Nat → Bool) (n i : Nat) : Bool := decide (∀ a, a < i → fc n a = false)

theorem noneB_step {fc : Nat → Nat → Bool} {n i : Nat} : (noneB fc n i && !fc n i) = noneB fc n (i + 1) := by
  unfold noneB
  rw [Bool.eq_iff_iff]
  simp only [Bool.and_eq_true, decide_eq_true_eq, Bool.not_eq_true']
  constructor
  · rintro ⟨h1, h2⟩ a ha
    by_cases h : a < i
    · exact h1 a h
    · obtain rfl : a = i := by omega
      exact h2
  · intro h
    exact ⟨fun a ha => h a (by omega), h i (by omega)⟩

theorem none_end (hv : FwOK d1 d2 d3 d4 l n) : noneB (FW d1 d2 d3 d4 l) n 200 = !dB d1 d2 d3 d4 l n := by
  unfold noneB
  cases hb : dB d1 d2 d3 d4 l n with
  | false =>
    simp only [Bool.not_false, decide_eq_true_eq]
    intro a _
    unfold FW fwB; rw [hb]; rfl
  | true =>
    simp only [Bool.not_true, decide_eq_false_iff_not]
    intro h
    have h1 := dB_le hv.v hb
    have h2 := dL_b hv.v (L := l) n
    have h3 := hv.top n (Nat.le_refl n)
    have := h (dL d1 d3 d4 l n).toNat (by omega)
    unfold FW fwB at this
    rw [hb, show ((dL d1 d3 d4 l n).toNat : Int) = dL d1 d3 d4 l n by omega] at this
    simp at this
    omega

theorem wB_fw (hb : dB d1 d2 d3 d4 l n = true) : wB 200 (fun i => FW d1 d2 d3 d4 l n i) (dL d1 d3 d4 l n) (dH d2 d3 d4 l n) = true := by
  unfold wB
  rw [decide_eq_true_eq]
  intro i _
  unfold FW fwB
  simp only [hb, Bool.true_and, ge_iff_le]
theorem wB_sb (j : Nat) : wB 200 (fun i => SB d1 d2 d3 d4 n l j i) (sL d1 d3 d4 n l j) (sH d2 d3 d4 n l j) = true := by
  unfold wB
  rw [decide_eq_true_eq]
  intro i _
  rfl

theorem loop9b {t : Tree SV} (hn : n ≤ 12) (hC : codeC t = .loop body9b) (hN : Nat.ble (codeS t).next 46 = true) {e : Int} (h0 : Gc 46 (ups (codeS t) 46) (inv9b n (SB d1 d2 d3 d4 n l) (n + 1) (sL d1 d3 d4 n l) (sH d2 d3 d4 n l) e 0))
    (hK : ∀ j, codeK t (.exit 2) (inv9b n (SB d1 d2 d3 d4 n l) (n + 1) (sL d1 d3 d4 n l) (sH d2 d3 d4 n l) e j) = .ret (bv true)) : (Tree.code (codeC t) (codeS t) (codeK t)).sat Try.prog (· = bv true) := by
  refine code_satS CE_ok DE_ok (n := 200) (n0 := 46) (nx := 46) (roots := []) (keep := [5, 12, 13, 14]) (drop := dr9b) (h := .nil) hC hN
    (fun q s => ∃ k : Nat, q = n + 1 - k ∧ k ≤ n + 1 ∧ s = inv9b n (SB d1 d2 d3 d4 n l) (n + 1) (sL d1 d3 d4 n l) (sH d2 d3 d4 n l) e k)
    (fun ex s => ex = .exit 2 ∧ ∃ i, s = inv9b n (SB d1 d2 d3 d4 n l) (n + 1) (sL d1 d3 d4 n l) (sH d2 d3 d4 n l) e i)
    ⟨_, _, ⟨0, rfl, by omega, rfl⟩, h0⟩ ?_ ?_
  · rintro q s ⟨k, rfl, hk, rfl⟩
    refine Sat.of_eq (B9b_eq n (SB d1 d2 d3 d4 n l) (n + 1) (sL d1 d3 d4 n l) (sH d2 d3 d4 n l) e k) ?_
    constructor
    unfold B9b
    have e1 : w64 ((k : Int) + 1) = ((k + 1 : Nat) : Int) := by rw [w64_of (by omega) (by omega)]; omega
    simp only [e1, Int.toNat_natCast, wB_sb, Bool.not_true]
    refine ⟨fun hlt => ?_, fun _ => ⟨_, ⟨rfl, k, rfl⟩, Gc.refl _ _⟩⟩
    have hlt : k < n + 1 := by simp only [decide_eq_true_eq] at hlt; omega
    exact ⟨by omega, by omega, by decide, by omega, by decide, ⟨by decide, fun i _ => ⟨_, rfl⟩⟩, ⟨fun h => (by cases h), fun _ => ⟨n + 1 - (k + 1), _, by omega, ⟨k + 1, rfl, by omega, rfl⟩, Gc.refl _ _⟩⟩⟩
  · rintro ex s ⟨rfl, i, rfl⟩
    rw [hK]; exact ⟨rfl⟩

theorem K9_ok {lo wi st er : Int} {qn : Nat} {cell : Nat → Nat → DV} {ka kb : Int} {i : Int} (hv : FwOK d1 d2 d3 d4 l n) :
    Sat Try.prog (k9 lo wi st er qn cell ka kb d1 d2 d3 d4 n l (FW d1 d2 d3 d4 l) (!dB d1 d2 d3 d4 l n) i) (· = bv true) := by
  have hI := i9b lo wi st er qn cell ka kb d1 d2 d3 d4 n l (FW d1 d2 d3 d4 l) (!dB d1 d2 d3 d4 l n) i
  have hC := c9b lo wi st er qn cell ka kb d1 d2 d3 d4 n l (FW d1 d2 d3 d4 l) (!dB d1 d2 d3 d4 l n) i
  have hN := n9b lo wi st er qn cell ka kb d1 d2 d3 d4 n l (FW d1 d2 d3 d4 l) (!dB d1 d2 d3 d4 l n) i
  have hK := k9b lo wi st er qn cell ka kb d1 d2 d3 d4 n l (FW d1 d2 d3 d4 l) (!dB d1 d2 d3 d4 l n) i
  refine Sat.of_eq (K9_eq lo wi st er qn cell ka kb d1 d2 d3 d4 n l (FW d1 d2 d3 d4 l) (!dB d1 d2 d3 d4 l n) i) ?_
  constructor
  unfold K9
  have hn := hv.len
  have e1 : w64 (((n + 1 : Nat) : Int) - 1) = (n : Nat) := by rw [w64_of (by omega) (by omega)]; omega
  rw [show (intCell fun i (x : Nat) => DV.x (Value.int IntKind.i64 (l i))) = l from rfl]
  have hdrv : dV d1 d2 d3 d4 ∧ n ≤ 1000 ∧ ∀ i, i < n → ∃ b, (fun i (x : Nat) => DV.x (.int .i64 (l i))) i 0 = DV.x (.int .i64 b) := ⟨hv.v, by omega, fun i _ => ⟨_, rfl⟩⟩
  cases hb : dB d1 d2 d3 d4 l n with
  | false =>
    refine ⟨hdrv, hdrv, fun _ => ?_, fun h => by cases h⟩
    simp [Tree.sat, hb, dE, zif]
  | true =>
    simp only [hb, cond_true, Bool.not_true] at hI hC hN hK
    have hde : dE d1 d2 d3 d4 l n = 0 := by simp [dE, hb]
    refine ⟨hdrv, hdrv, fun h => (by cases h), fun _ => ?_⟩
    have hwb := wB_fw hb
    simp only [hde, e1, Int.toNat_natCast, cond_true, zif, bne_self_eq_false, Bool.or_self, Bool.not_true]
    rw [hwb]
    refine ⟨fun _ => by omega, fun _ => ⟨by decide, fun i _ => ⟨_, rfl⟩⟩, fun h => (by cases h), fun _ => ⟨⟨hv, trivial, trivial, hdrv.2.2, fun i _ => trivial⟩, ?_⟩⟩
    exact loop9b hn hC hN (entA_sound hI) (fun j => hK _ _ _ _ _ _ j)
end

theorem law9 {lo wi st er : Int} {n : Nat} {cell : Nat → Nat → DV} {ka kb : Int} (hW : WalkOK lo wi st er (byteCell cell) n) (hc : ∀ i, i < n → ∃ b, cell i 0 = .x (.int .u8 b) ∧ 0 ≤ b ∧ b < 256)
    (ha : 0 ≤ ka ∧ ka < 256) (hb : 0 ≤ kb ∧ kb < 256) : ∃ h, Sat Try.prog (TE 9 [.agg [u8 lo, u8 wi, u8 st, u8 er, .d (.ro n 1 cell)], .agg [u8 ka, u8 kb]] h) (· = bv true) := by
  refine ⟨.nil, ?_⟩
  show Sat Try.prog (t9 lo wi st er n cell ka kb) (· = bv true)
  have hv := hW.dv
  have hk := kS_le n
  have hlen : n ≤ 9223372036854775807 := hW.len
  obtain ⟨lx, hlx, hI⟩ := i9 lo wi st er n cell ka kb
  have hC := c9 lo wi st er n cell ka kb
  have hN := n9 lo wi st er n cell ka kb
  have hr := hW.r
  have g1 := hW.l; have g2 := hW.w; have g3 := hW.s; have g4 := hW.e
  have hlo : sLo lo = 1 + lo % 40 := rfl
  have hhi : sHi lo wi = sLo lo + wi % 8 := rfl
  have hF : FwOK (sLo lo) (sHi lo wi) (st % 6) (er % 6) lx (kS n) := ⟨hv, by omega, by omega, by omega, hk, fun k hk2 => by
    rw [hlx]
    have := oL_b (n := kS n) (L := lS lo wi (st % 6) (er % 6) (byteCell cell)) (ka := ka) (kb := kb) (i := k) hb
    have := hr k (by omega)
    omega⟩
  refine Sat.of_eq (L9_eq lo wi st er n cell ka kb) ?_
  constructor
  unfold L9
  rw [show (intCell fun i (x : Nat) => DV.x (Value.int IntKind.i64 (oL (kS n) (intCell fun i (x : Nat) => DV.x (Value.int IntKind.i64 (lS lo wi (st % 6) (er % 6) (byteCell cell) i))) ka kb i))) = lx from hlx.symm]
  refine ⟨fun h => (by cases h), fun _ => ⟨⟨g1, g2, g3, g4, hlen, hc⟩, ⟨by omega, ha, hb, fun i hi => ⟨_, rfl⟩, fun i hi => ⟨_, rfl, ?_⟩⟩, ⟨hF, fun i _ => ⟨_, rfl⟩⟩, ?_⟩⟩
  · have := hr i (by omega); omega
  generalize sLo lo = d1 at *
  generalize sHi lo wi = d2 at *
  generalize st % 6 = d3 at *
  generalize er % 6 = d4 at *
  generalize kS n = kn at *
  refine code_satS CE_ok DE_ok (n := 200) (n0 := 12) (nx := 12) (roots := []) (keep := [5, 7, 8, 9, 10]) (drop := dr9) (h := .nil) hC hN
    (fun m s => ∃ k : Nat, m = 200 - k ∧ k ≤ 200 ∧ s = inv9 d1 d2 d3 d4 kn lx (FW d1 d2 d3 d4 lx) (noneB (FW d1 d2 d3 d4 lx) kn k) k)
    (fun e s => e = .exit 0 ∧ s = inv9 d1 d2 d3 d4 kn lx (FW d1 d2 d3 d4 lx) (noneB (FW d1 d2 d3 d4 lx) kn 200) ((200 : Nat) : Int))
    ⟨_, _, ⟨0, rfl, by omega, rfl⟩, ?_⟩ ?_ ?_
  · have e0 : noneB (FW d1 d2 d3 d4 lx) kn 0 = true := by unfold noneB; simp
    rw [e0]
    exact entA_sound hI
  · rintro m s ⟨k, rfl, hk2, rfl⟩
    refine Sat.of_eq (B9_eq d1 d2 d3 d4 kn lx (FW d1 d2 d3 d4 lx) (noneB (FW d1 d2 d3 d4 lx) kn k) k) ?_
    constructor
    unfold B9
    have e1 : w64 ((k : Int) + 1) = ((k + 1 : Nat) : Int) := by rw [w64_of (by omega) (by omega)]; omega
    have e2 : w64 (((kn + 1 : Nat) : Int) - 1) = (kn : Nat) := by rw [w64_of (by omega) (by omega)]; omega
    simp only [e1, e2, Int.toNat_natCast, noneB_step]
    refine ⟨fun h => ?_, fun h => ?_⟩
    · simp only [decide_eq_true_eq] at h
      exact ⟨fun _ => by omega, fun _ => by omega, 200 - (k + 1), _, by omega, ⟨k + 1, rfl, by omega, rfl⟩, Gc.refl _ _⟩
    · simp only [decide_eq_false_iff_not] at h
      obtain rfl : k = 200 := by omega
      exact ⟨_, ⟨rfl, rfl⟩, Gc.refl _ _⟩
  · rintro e s ⟨rfl, rfl⟩
    rw [none_end hF]
    have h9 := K9_ok (lo := lo) (wi := wi) (st := st) (er := er) (qn := n) (cell := cell) (ka := ka) (kb := kb) (i := ((200 : Nat) : Int)) hF
    unfold k9 p9 at h9
    exact h9

structure Law9E (k : Nat) (ss : List SV) : Prop where
  ok : ∃ h, Sat Try.prog (TE k ss h) (· = bv true)

theorem law_ctrE {k : Nat} {okA : List SV → Prop} (hf : (Try.prog.funcs[k]?).isSome = true) (hb : (fnOf Try.prog k).body.isSome = true) (h : ∀ ss, okA ss → Law9E k ss) :
    ∃ c : Ctr, CtrOK Try.prog k c ∧ ∀ ss, okA ss → (c ss).ev (bv true) := by
  refine ⟨fun ss => .need (okA ss) (.ret (bv true)), ?_, fun ss hs => ⟨hs, rfl⟩⟩
  refine ctrOK_of CE_ok DE_ok (fn := fnOf Try.prog k) (body := bodyOf Try.prog k) (by
    unfold fnOf
    cases hk : Try.prog.funcs[k]? with
    | none => rw [hk] at hf; cases hf
    | some f => rfl) (by
    unfold bodyOf
    cases hk : (fnOf Try.prog k).body with
    | none => rw [hk] at hb; cases hb
    | some f => rfl) fun ss r hr => ?_
  obtain ⟨h1, rfl⟩ := hr
  obtain ⟨hint, h2⟩ := (h ss h1).ok
  exact ⟨200, hint, h2.ok⟩

theorem f9dS : (Try.prog.funcs[9]?).isSome = true := by kernel_rfl
theorem f9dB : (fnOf Try.prog 9).body.isSome = true := by kernel_rfl
theorem driftExact_ok : ∃ c : Ctr, CtrOK Try.prog 9 c ∧ ∀ ss, okArgs Try.prog 6 [24, 74] ss → (c ss).ev (bv true) := by
  refine law_ctrE f9dS f9dB fun ss h => ?_
  obtain ⟨ds, _, rfl, h1, ds2, _, rfl, h2, rfl⟩ := h
  obtain ⟨lo, wi, st, er, n, cell, g1, g2, g3, g4, g5, g6, e⟩ := okRaw44 h1
  obtain ⟨a, b, k1, k2, e2⟩ := okK2 h2
  rw [e, e2]
  refine ⟨law9 ⟨g1, g2, g3, g4, g5, fun i hi => ?_⟩ g6 k1 k2⟩
  obtain ⟨b, e2, h2⟩ := g6 i hi
  simpa [byteCell, e2, numOf] using h2

end Go.Proofs.Ytcbjclmjkilphaa

namespace Go.Proofs.Ytcbjclmjkilphaa
open Go.ChangeShapes Go.WideShapes Go.ChangeAt Go.RowKit Go.Sx

theorem own : ownKnob Try.prog.godebug = none := by kernel_rfl
theorem laidOut : laidOutB Try.prog = true := by kernel_rfl

set_option maxRecDepth 100000 in
theorem lifted (os : Os) (started : os.Started) (H : Type) (enc : TypeId × Value → H) :
    ReturnsInHanded {} Try.checked os 9 .any (Rows.driftExactSpec.pre6 enc Try.prog Try.f9 Rows.driftExactRow.domain false) (Rows.driftExactSpec.post enc Try.prog Try.f9 false true false false) := by
  refine returnsInHanded_of_change (C := Try.checked) own started (by kernel_rfl) Try.func9
    (ChangeSpec.witness6 (enc := enc) (C := Try.checked) false ⟨#[], #[.agg #[.int .u8 0, .int .u8 0, .int .u8 0, .int .u8 0, .slice none 0 0], .agg #[.int .u8 0, .int .u8 0]], []⟩ 8 (by kernel_rfl) (by kernel_rfl) (by kernel_rfl) (by kernel_rfl)) ?_
  intro W base args ds gs before hval0 hW hcnd _
  have hval : ∀ (j : Nat) t v, Try.f9.params[j]? = some t → args[j]? = some v → Value.okWide Try.prog W .any base t v := hval0
  have hW' := hW
  obtain ⟨p, q, hA0, hV, rfl, hfz, hnd⟩ := hW
  have hA : DataW.TrodAll enc Try.prog W 0 (fun _ => true) true Try.f9.params.toList args.toList ds p := hA0
  rw [Try.params9] at hA hval
  obtain ⟨rfl, rfl⟩ := trodVars_none hV
  obtain ⟨v0, vs0, d0, ds0, p0, q0, hargs, rfl, e0, h0, r0⟩ := trodAll_cons hA
  obtain ⟨v1, vs1, d1, ds1, p1, q1, e1_1, rfl, e2_1, h1, r1⟩ := trodAll_cons r0
  obtain ⟨e3, rfl, e4⟩ := trodAll_nil r1
  obtain ⟨c, hc, hev⟩ := driftExact_ok
  have hlt := trodAll_lt hA
  obtain ⟨ss, o1, o2, o3⟩ := open_args (F := fun b => ∃ x ∈ p, x.block = b) (n := 6) (r := .any) (base := base) (by kernel_rfl) hA (fun j t v a b => hval j t v (by simpa using a) (by simpa using b)) (fun q hq => ⟨q, hq, rfl⟩)
  refine (law_of hc (F := fun b => ∃ x ∈ p, x.block = b) (fun b ⟨x, hx, e⟩ => e ▸ hlt x hx) (ss := ss) ⟨by simpa using o2, fun i hi => by simpa [List.getD, Array.getD_eq_getD_getElem?] using o3 i hi⟩ (hev ss o1)).mono fun e W' ⟨he, bel⟩ => ?_
  subst he
  have hback := trodAll_below laidOut bel (by kernel_rfl) hA
  exact ⟨_, rfl, _, _, _, [], _, [], hW', trodAll_mk1 (shut_bool Try.underlying4 _), hback, rfl, bel.frame _, fun h => by cases h⟩

theorem over : Rows.driftExactRow.holds Try.pinned (OpenSpec.ofChange Rows.driftExactSpec) :=
  OpenClaim.holds_of_wide 9 Try.f9 rfl rfl rfl rfl rfl rfl rfl ⟨rfl, rfl, rfl, rfl, rfl⟩ rfl rfl rfl rfl rfl (by kernel_rfl) Try.func9 (by kernel_rfl)
    (of_decide_eq_true (by kernel_rfl)) (by unfold Func.isWrapper; first | (rw [if_pos (by decide +kernel)]; kernel_rfl) | (rw [if_neg (by decide +kernel)]; exact ⟨rfl, rfl⟩))
    (fun os started H enc _ => lifted os started H enc)

theorem driftExact_holds : Rows.DriftExactSaid := over
#print axioms driftExact_holds
end Go.Proofs.Ytcbjclmjkilphaa

