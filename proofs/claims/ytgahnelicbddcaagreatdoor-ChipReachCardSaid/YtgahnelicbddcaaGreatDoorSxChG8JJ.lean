/- Part of a proof of the given statements of this seat (SxChQn, SxChQo, SxChQp, SxChQk, SxChQl, SxChQm, SxChQq, SxChQr, SxChQs, SxChLq8, SxChGl, SxChG8J): no conditions beyond those typed here. -/
import Derived.Test.YtgahnelicbddcaaGreatDoorSz16
import Derived.Test.YtgahnelicbddcaaGreatDoorSz04
import Derived.Lib.LaidTab
import Derived.Stop.LaidErr
import Derived.Shelf.Vars
import Derived.MakeChecks
import Derived.Test.YtgahnelicbddcaaGreatDoorRows
import Derived.Test.YtgahnelicbddcaaGreatDoorChecked
import Derived.Test.YtgahnelicbddcaaGreatDoorCards
import Derived.Test.YtgahnelicbddcaaGreatDoorTie
import Derived.SevenTiedAt
import Derived.Lay
set_option linter.unusedVariables false
set_option linter.unusedSimpArgs false
set_option linter.unusedSectionVars false

namespace Go.Proofs.YtgahnelicbddcaaGreatDoor
open Go.Sx
set_option maxRecDepth 100000
noncomputable def tL8 (w h t p : Int) (m : Nat) (f : Nat → Nat → DV) (k tr : Int) : Tree SV := TN .nil 8 [rawF w h t p m f, u16V k, u8V tr]
noncomputable def L8T (w h t p : Int) (m : Nat) (f : Nat → Nat → DV) (k tr : Int) : Tree SV :=
  .ite false (.ret (bv false))
  (.need (RawOK w h t p m f)
   (.need (okG (anN (2 : Int) (4 : Int) w) (anN (2 : Int) (4 : Int) h) (anN (2 : Int) (3 : Int) t) (24 : Int))
   (.need (anN (2 : Int) (3 : Int) t ≠ (0 : Int))
   (.need (okG (anN (2 : Int) (4 : Int) w) (anN (2 : Int) (4 : Int) h) (anN (2 : Int) (3 : Int) t) (24 : Int))
   (.ite (gN (anN (2 : Int) (4 : Int) w) (anN (2 : Int) (4 : Int) h) (anN (2 : Int) (3 : Int) t) (24 : Int) != gN (anN (2 : Int) (4 : Int) w) (anN (2 : Int) (4 : Int) h) (anN (2 : Int) (3 : Int) t) (24 : Int))
   (.ret (bv false))
   (.need (gN (anN (2 : Int) (4 : Int) w) (anN (2 : Int) (4 : Int) h) (anN (2 : Int) (3 : Int) t) (24 : Int) ≠ (0 : Int))
   (.need (okG (anN (2 : Int) (4 : Int) w) (anN (2 : Int) (4 : Int) h) (anN (2 : Int) (3 : Int) t) (24 : Int))
   (.need (i64B (Int.tmod (w64 k) (gN (anN (2 : Int) (4 : Int) w) (anN (2 : Int) (4 : Int) h) (anN (2 : Int) (3 : Int) t) (24 : Int))))
   (.ite
   (gK (anN (2 : Int) (4 : Int) w) (anN (2 : Int) (4 : Int) h) (anN (2 : Int) (3 : Int) t) (24 : Int) (Int.tmod (w64 k) (gN (anN (2 : Int) (4 : Int) w) (anN (2 : Int) (4 : Int) h) (anN (2 : Int) (3 : Int) t) (24 : Int))) !=
   (1 : Int) &&
   gK (anN (2 : Int) (4 : Int) w) (anN (2 : Int) (4 : Int) h) (anN (2 : Int) (3 : Int) t) (24 : Int)
   (Int.tmod (w64 k) (gN (anN (2 : Int) (4 : Int) w) (anN (2 : Int) (4 : Int) h) (anN (2 : Int) (3 : Int) t) (24 : Int))) !=
   (2 : Int) &&
   gK (anN (2 : Int) (4 : Int) w) (anN (2 : Int) (4 : Int) h) (anN (2 : Int) (3 : Int) t) (24 : Int)
   (Int.tmod (w64 k) (gN (anN (2 : Int) (4 : Int) w) (anN (2 : Int) (4 : Int) h) (anN (2 : Int) (3 : Int) t) (24 : Int))) !=
   (6 : Int))
   (.ret
   (bv
   (decide
   (gK (anN (2 : Int) (4 : Int) w) (anN (2 : Int) (4 : Int) h) (anN (2 : Int) (3 : Int) t) (24 : Int)
   (Int.tmod (w64 k) (gN (anN (2 : Int) (4 : Int) w) (anN (2 : Int) (4 : Int) h) (anN (2 : Int) (3 : Int) t) (24 : Int))) >
   (0 : Int)) &&
   true)))
   (.need
   ((0 : Int) ≤ gN (anN (2 : Int) (4 : Int) w) (anN (2 : Int) (4 : Int) h) (anN (2 : Int) (3 : Int) t) (24 : Int) ∧
   gN (anN (2 : Int) (4 : Int) w) (anN (2 : Int) (4 : Int) h) (anN (2 : Int) (3 : Int) t) (24 : Int) ≤ gN (anN (2 : Int) (4 : Int) w) (anN (2 : Int) (4 : Int) h) (anN (2 : Int) (3 : Int) t) (24 : Int) ∧
   gN (anN (2 : Int) (4 : Int) w) (anN (2 : Int) (4 : Int) h) (anN (2 : Int) (3 : Int) t) (24 : Int) * (1 : Int) ≤ (140737488355328 : Int))
   (.code (codeC (sub [(1 : Nat), (0 : Nat), (0 : Nat), (0 : Nat), (0 : Nat), (1 : Nat), (0 : Nat), (0 : Nat), (0 : Nat), (1 : Nat), (0 : Nat)] (tL8 w h t p m f k tr)))
   (codeS (sub [(1 : Nat), (0 : Nat), (0 : Nat), (0 : Nat), (0 : Nat), (1 : Nat), (0 : Nat), (0 : Nat), (0 : Nat), (1 : Nat), (0 : Nat)] (tL8 w h t p m f k tr)))
   (codeK (sub [(1 : Nat), (0 : Nat), (0 : Nat), (0 : Nat), (0 : Nat), (1 : Nat), (0 : Nat), (0 : Nat), (0 : Nat), (1 : Nat), (0 : Nat)] (tL8 w h t p m f k tr))))))))))))))

theorem L8T_eq (w h t p : Int) (m : Nat) (f : Nat → Nat → DV) (k tr : Int) : tL8 w h t p m f k tr = L8T w h t p m f k tr := by kernel_rfl


end Go.Proofs.YtgahnelicbddcaaGreatDoor

namespace Go.Proofs.YtgahnelicbddcaaGreatDoor
open Go.Sx
set_option maxRecDepth 100000
def seB (n : Nat) (S : Nat → Bool) : Blk := .row n 1 fun i _ => .x (.bool (S i))
noncomputable def invA (W H T : Int) (mk : Nat) (ck : Nat → Nat → DV) (r : Bool) (n : Nat) (t : Int) (S : Nat → Bool) (Q : List Int) (z : Int) : AS := ⟨List.replicate 6 .unk ++ [.ok (bv r), .ok (bv true), .ok (.ptr 1 0), .ok (iv n), .ok (iv t), .unk, .unk, .ok (.row 12 0 0 n 1), .ok (.row 14 0 0 Q.length 1), .ok (iv z)] ++ List.replicate 149 .unk, [none, some (.cells [iv W, iv H, iv T, iv 24, .d (.ro mk 1 ck)])] ++ List.replicate 10 none ++ [some (seB n S), none, some (lB Q)], 15, .nil⟩
noncomputable def bodyA : Code := loopN (bodyOf Tryz.prog 8) 0
noncomputable def tA (W H T : Int) (mk : Nat) (ck : Nat → Nat → DV) (r : Bool) (n : Nat) (t : Int) (S : Nat → Bool) (Q : List Int) (z : Int) : Tree (Ex × AS) := cutT 14 [(.slot 14, 14)] [6, 7, 8, 9, 10, 13, 14, 15] [0, 2, 3, 4, 5, 6, 7, 8, 9, 10, 11, 13] 15 .nil (exec Tryz.prog CN DN 200 bodyA (invA W H T mk ck r n t S Q z))
noncomputable def BA_q1 (S : Nat → Bool) (i : Nat) (x : Nat) : DV :=
  DV.x (.bool (S i))
noncomputable def BA_q2 (Q : List Int) (i : Nat) (x : Nat) : DV :=
  DV.x (.int .i64 (List.getD Q i (0 : Int)))
noncomputable def BA (W H T : Int) (mk : Nat) (ck : Nat → Nat → DV) (r : Bool) (n : Nat) (t : Int) (S : Nat → Bool) (Q : List Int) (z : Int) : Tree (Ex × AS) :=
  .ite (decide (z < (↑(List.length Q) : Int)))
  (.need ((0 : Int) ≤ z ∧ z < (↑(List.length Q) : Int))
   (.need (0 + Int.toNat z < List.length Q)
   (.need (okG W H T (24 : Int))
   (.need (i64B (List.getD Q (0 + Int.toNat z) (0 : Int)))
   (.code (codeC (sub [(0 : Nat), (0 : Nat), (0 : Nat), (0 : Nat), (0 : Nat)] (tA W H T mk ck r n t S Q z))) (codeS (sub [(0 : Nat), (0 : Nat), (0 : Nat), (0 : Nat), (0 : Nat)] (tA W H T mk ck r n t S Q z)))
   (codeK (sub [(0 : Nat), (0 : Nat), (0 : Nat), (0 : Nat), (0 : Nat)] (tA W H T mk ck r n t S Q z))))))))
  (.ret
   (.exit 0,
   {
   tm :=
   [.unk, .unk, .unk, .unk, .unk, .unk, .ok (bv r), .ok (bv true), .ok (SV.ptr 1 0), .ok (iv (↑n : Int)), .ok (iv t), .unk, .unk,
   .ok (SV.row 12 0 0 n 1), .ok (SV.row 14 0 0 (List.length Q) 1), .ok (iv z), .unk, .unk, .unk, .unk, .unk, .unk, .unk, .unk,
   .unk, .unk, .unk, .unk, .unk, .unk, .unk, .unk, .unk, .unk, .unk, .unk, .unk, .unk, .unk, .unk, .unk, .unk, .unk, .unk, .unk, .unk, .unk, .unk, .unk, .unk, .unk, .unk,
   .unk, .unk, .unk, .unk, .unk, .unk, .unk, .unk, .unk, .unk, .unk, .unk, .unk, .unk, .unk, .unk, .unk, .unk, .unk, .unk, .unk, .unk, .unk, .unk, .unk, .unk, .unk, .unk,
   .unk, .unk, .unk, .unk, .unk, .unk, .unk, .unk, .unk, .unk, .unk, .unk, .unk, .unk, .unk, .unk, .unk, .unk, .unk, .unk, .unk, .unk, .unk, .unk, .unk, .unk, .unk, .unk,
   .unk, .unk, .unk, .unk, .unk, .unk, .unk, .unk, .unk, .unk, .unk, .unk, .unk, .unk, .unk, .unk, .unk, .unk, .unk, .unk, .unk, .unk, .unk, .unk, .unk, .unk, .unk, .unk,
   .unk, .unk, .unk, .unk, .unk, .unk, .unk, .unk, .unk, .unk, .unk, .unk, .unk, .unk, .unk, .unk, .unk, .unk, .unk, .unk, .unk, .unk, .unk, .unk, .unk, .unk, .unk, .unk,
   .unk],
   hp :=
   [none, some (.cells [iv W, iv H, iv T, iv (24 : Int), SV.d (DV.ro mk 1 ck)]), none, none, none, none, none, none, none, none, none, none, some (.row n 1 (BA_q1 S)), none,
   some (.row (List.length Q) 1 (BA_q2 Q))],
   next := 15, hint := .nil }))

theorem BA_eq (W H T : Int) (mk : Nat) (ck : Nat → Nat → DV) (r : Bool) (n : Nat) (t : Int) (S : Nat → Bool) (Q : List Int) (z : Int) : tA W H T mk ck r n t S Q z = BA W H T mk ck r n t S Q z := by kernel_rfl


end Go.Proofs.YtgahnelicbddcaaGreatDoor

namespace Go.Proofs.YtgahnelicbddcaaGreatDoor
open Go.Sx
set_option maxRecDepth 100000
noncomputable def invI (W H T : Int) (mk : Nat) (ck : Nat → Nat → DV) (r : Bool) (n : Nat) (t : Int) (S : Nat → Bool) (Q : List Int) (z : Int) (L : List Int) (y : Int) : AS := ⟨List.replicate 6 .unk ++ [.ok (bv r), .ok (bv true), .ok (.ptr 1 0), .ok (iv n), .ok (iv t), .unk, .unk, .ok (.row 12 0 0 n 1), .ok (.row 22 0 0 Q.length 1), .ok (iv z), .ok (ivL L), .ok (iv y)] ++ List.replicate 147 .unk, [none, some (.cells [iv W, iv H, iv T, iv 24, .d (.ro mk 1 ck)])] ++ List.replicate 10 none ++ [some (seB n S), none] ++ List.replicate 8 none ++ [some (lB Q)], 23, .nil⟩
noncomputable def bodyI : Code := loopN (bodyOf Tryz.prog 8) 1
noncomputable def BI_q1 (L : List Int) (y : Int) : Bool :=
  decide (List.getD L (Int.toNat y) (0 : Int) < (0 : Int))
noncomputable def BI_q2 (L : List Int) (i : Nat) (x : Nat) : DV :=
  DV.x (.int .i64 (List.getD L i (0 : Int)))
noncomputable def BI_q3 (S : Nat → Bool) (i : Nat) (x : Nat) : DV :=
  DV.x (.bool (S i))
noncomputable def BI_q4 (Q : List Int) (i : Nat) (x : Nat) : DV :=
  DV.x (.int .i64 (List.getD Q i (0 : Int)))
noncomputable def BI_q5 (S : Nat → Bool) (L : List Int) (y : Int) (a : Nat) (b : Nat) : DV :=
  if 0 ≤ b ∧ b < 1 then
  selD (decide (a = 0 + Int.toNat (List.getD L (Int.toNat y) (0 : Int))))
   (match [DV.x (.bool true)][b - 0]? with
   | some x => x
   | none => DV.x (.tuple { toList := [] }))
   (DV.x (.bool (S a)))
else DV.x (.bool (S a))
noncomputable def BI_q6 (Q : List Int) (L : List Int) (y : Int) (a : Nat) (b : Nat) : DV :=
  selD (decide (a < List.length Q)) (DV.x (.int .i64 (List.getD Q (0 + a) (0 : Int))))
  (dsAt [DV.x (.int .i64 (List.getD L (Int.toNat y) (0 : Int)))] (0 + (0 + (a - List.length Q)) * 1 + b))
noncomputable def BI (W H T : Int) (mk : Nat) (ck : Nat → Nat → DV) (r : Bool) (n : Nat) (t : Int) (S : Nat → Bool) (Q : List Int) (z : Int) (L : List Int) (y : Int) : Tree (Ex × AS) :=
  .ite (decide (y < (↑(List.length L) : Int)))
  (.need ((0 : Int) ≤ y ∧ y < (↑(List.length L) : Int))
   (.need (BI_q1 L y = false → (0 : Int) ≤ y ∧ y < (↑(List.length L) : Int))
   (.ite (BI_q1 L y || decide (List.getD L (Int.toNat y) (0 : Int) ≥ (↑n : Int)))
   (.ret
   (.ret,
   {
   tm :=
   [.unk, .unk, .unk, .unk, .unk, .unk, .ok (bv false), .ok (bv true), .ok (SV.ptr 1 0), .ok (iv (↑n : Int)), .ok (iv t), .unk, .unk,
   .ok (SV.row 12 0 0 n 1), .ok (SV.row 22 0 0 (List.length Q) 1), .ok (iv z),
   .ok (SV.d (DV.ro (List.length L) 1 (BI_q2 L))), .ok (iv y), .unk, .unk, .unk, .unk, .unk, .unk, .unk, .unk, .unk, .unk, .unk, .unk, .unk, .unk, .unk, .unk, .unk,
   .unk, .unk, .unk, .unk, .unk, .unk, .unk, .unk, .unk, .unk, .unk, .unk, .unk, .unk, .unk, .unk, .unk, .unk, .unk, .unk, .unk, .unk, .unk, .unk, .unk, .unk, .unk,
   .unk, .unk, .unk, .unk, .unk, .unk, .unk, .unk, .unk, .unk, .unk, .unk, .unk, .unk, .unk, .unk, .unk, .unk, .unk, .unk, .unk, .unk, .unk, .unk, .unk, .unk, .unk,
   .unk, .unk, .unk, .unk, .unk, .unk, .unk, .unk, .unk, .unk, .unk, .unk, .unk, .unk, .unk, .unk, .unk, .unk, .unk, .unk, .unk, .unk, .unk, .unk, .unk, .unk, .unk,
   .unk, .unk, .unk, .unk, .unk, .unk, .unk, .unk, .unk, .unk, .unk, .unk, .unk, .unk, .unk, .unk, .unk, .unk, .unk, .unk, .unk, .unk, .unk, .unk, .unk, .unk, .unk,
   .unk, .unk, .unk, .unk, .unk, .unk, .unk, .unk, .unk, .unk, .unk, .unk, .unk, .unk, .unk, .unk, .unk, .unk, .unk, .unk, .unk, .unk],
   hp :=
   [none, some (.cells [iv W, iv H, iv T, iv (24 : Int), SV.d (DV.ro mk 1 ck)]), none, none, none, none, none, none, none, none, none, none, some (.row n 1 (BI_q3 S)), none, none, none,
   none, none, none, none, none, none, some (.row (List.length Q) 1 (BI_q4 Q))],
   next := 23, hint := .nil }))
   (.need ((0 : Int) ≤ y ∧ y < (↑(List.length L) : Int))
   (.need (okG W H T (24 : Int))
   (.need (i64B (List.getD L (Int.toNat y) (0 : Int)))
   (.need ((0 : Int) ≤ y ∧ y < (↑(List.length L) : Int))
   (.need ((0 : Int) ≤ List.getD L (Int.toNat y) (0 : Int) ∧ List.getD L (Int.toNat y) (0 : Int) < (↑n : Int))
   (.need (0 + Int.toNat (List.getD L (Int.toNat y) (0 : Int)) < n)
   (.ite
   (!S (0 + Int.toNat (List.getD L (Int.toNat y) (0 : Int))) &&
   (gK W H T (24 : Int) (List.getD L (Int.toNat y) (0 : Int)) != (4 : Int) && gK W H T (24 : Int) (List.getD L (Int.toNat y) (0 : Int)) != (5 : Int) || gI W H T (24 : Int) (List.getD L (Int.toNat y) (0 : Int)) == t))
   (.need ((0 : Int) ≤ y ∧ y < (↑(List.length L) : Int))
   (.need ((0 : Int) ≤ List.getD L (Int.toNat y) (0 : Int) ∧ List.getD L (Int.toNat y) (0 : Int) < (↑n : Int))
   (.need (0 + Int.toNat (List.getD L (Int.toNat y) (0 : Int)) < n)
   (.need ((0 : Int) ≤ y ∧ y < (↑(List.length L) : Int))
   (.need (0 + List.length Q ≤ List.length Q ∧ 1 ≤ 1 ∧ (List.length Q + 1) * 8 ≤ 140737488355328)
   (.ret
   (.normal,
   {
   tm :=
   [.unk, .unk, .unk, .unk, .unk, .unk, .ok (bv r), .ok (bv true), .ok (SV.ptr 1 0), .ok (iv (↑n : Int)), .ok (iv t), .unk, .unk,
   .ok (SV.row 12 0 0 n 1), .ok (SV.row 22 0 0 (List.length Q + 1) 1), .ok (iv z),
   .ok (SV.d (DV.ro (List.length L) 1 (BI_q2 L))), .ok (iv (w64 (y + (1 : Int)))), .unk, .unk, .unk, .unk, .unk, .unk, .unk, .unk, .unk, .unk, .unk,
   .unk, .unk, .unk, .unk, .unk, .unk, .unk, .unk, .unk, .unk, .unk, .unk, .unk, .unk, .unk, .unk, .unk, .unk, .unk, .unk, .unk, .unk, .unk, .unk,
   .unk, .unk, .unk, .unk, .unk, .unk, .unk, .unk, .unk, .unk, .unk, .unk, .unk, .unk, .unk, .unk, .unk, .unk, .unk, .unk, .unk, .unk, .unk, .unk,
   .unk, .unk, .unk, .unk, .unk, .unk, .unk, .unk, .unk, .unk, .unk, .unk, .unk, .unk, .unk, .unk, .unk, .unk, .unk, .unk, .unk, .unk, .unk, .unk,
   .unk, .unk, .unk, .unk, .unk, .unk, .unk, .unk, .unk, .unk, .unk, .unk, .unk, .unk, .unk, .unk, .unk, .unk, .unk, .unk, .unk, .unk, .unk, .unk,
   .unk, .unk, .unk, .unk, .unk, .unk, .unk, .unk, .unk, .unk, .unk, .unk, .unk, .unk, .unk, .unk, .unk, .unk, .unk, .unk, .unk, .unk, .unk, .unk,
   .unk, .unk, .unk, .unk, .unk, .unk, .unk, .unk, .unk, .unk, .unk, .unk, .unk, .unk, .unk, .unk],
   hp :=
   [none, some (.cells [iv W, iv H, iv T, iv (24 : Int), SV.d (DV.ro mk 1 ck)]), none, none, none, none, none, none, none, none, none, none,
   some (.row n 1 (BI_q5 S L y)), none, none, none, none, none, none, none, none, none, some (.row (List.length Q + 1) 1 (BI_q6 Q L y))],
   next := 23, hint := .nil })))))))
   (.ret
   (.normal,
   {
   tm :=
   [.unk, .unk, .unk, .unk, .unk, .unk, .ok (bv r), .ok (bv true), .ok (SV.ptr 1 0), .ok (iv (↑n : Int)), .ok (iv t), .unk, .unk,
   .ok (SV.row 12 0 0 n 1), .ok (SV.row 22 0 0 (List.length Q) 1), .ok (iv z),
   .ok (SV.d (DV.ro (List.length L) 1 (BI_q2 L))), .ok (iv (w64 (y + (1 : Int)))), .unk, .unk, .unk, .unk, .unk, .unk, .unk, .unk, .unk, .unk, .unk, .unk, .unk,
   .unk, .unk, .unk, .unk, .unk, .unk, .unk, .unk, .unk, .unk, .unk, .unk, .unk, .unk, .unk, .unk, .unk, .unk, .unk, .unk, .unk, .unk, .unk, .unk, .unk, .unk,
   .unk, .unk, .unk, .unk, .unk, .unk, .unk, .unk, .unk, .unk, .unk, .unk, .unk, .unk, .unk, .unk, .unk, .unk, .unk, .unk, .unk, .unk, .unk, .unk, .unk, .unk,
   .unk, .unk, .unk, .unk, .unk, .unk, .unk, .unk, .unk, .unk, .unk, .unk, .unk, .unk, .unk, .unk, .unk, .unk, .unk, .unk, .unk, .unk, .unk, .unk, .unk, .unk,
   .unk, .unk, .unk, .unk, .unk, .unk, .unk, .unk, .unk, .unk, .unk, .unk, .unk, .unk, .unk, .unk, .unk, .unk, .unk, .unk, .unk, .unk, .unk, .unk, .unk, .unk,
   .unk, .unk, .unk, .unk, .unk, .unk, .unk, .unk, .unk, .unk, .unk, .unk, .unk, .unk, .unk, .unk, .unk, .unk, .unk, .unk, .unk, .unk, .unk, .unk, .unk, .unk,
   .unk, .unk, .unk, .unk],
   hp :=
   [none, some (.cells [iv W, iv H, iv T, iv (24 : Int), SV.d (DV.ro mk 1 ck)]), none, none, none, none, none, none, none, none, none, none, some (.row n 1 (BI_q3 S)), none,
   none, none, none, none, none, none, none, none, some (.row (List.length Q) 1 (BI_q4 Q))],
   next := 23, hint := .nil }))))))))))))
  (.ret
   (.exit 2,
   {
   tm :=
   [.unk, .unk, .unk, .unk, .unk, .unk, .ok (bv r), .ok (bv true), .ok (SV.ptr 1 0), .ok (iv (↑n : Int)), .ok (iv t), .unk, .unk,
   .ok (SV.row 12 0 0 n 1), .ok (SV.row 22 0 0 (List.length Q) 1), .ok (iv z),
   .ok (SV.d (DV.ro (List.length L) 1 (BI_q2 L))), .ok (iv y), .unk, .unk, .unk, .unk, .unk, .unk, .unk, .unk, .unk, .unk, .unk, .unk, .unk, .unk, .unk, .unk, .unk, .unk,
   .unk, .unk, .unk, .unk, .unk, .unk, .unk, .unk, .unk, .unk, .unk, .unk, .unk, .unk, .unk, .unk, .unk, .unk, .unk, .unk, .unk, .unk, .unk, .unk, .unk, .unk, .unk, .unk,
   .unk, .unk, .unk, .unk, .unk, .unk, .unk, .unk, .unk, .unk, .unk, .unk, .unk, .unk, .unk, .unk, .unk, .unk, .unk, .unk, .unk, .unk, .unk, .unk, .unk, .unk, .unk, .unk,
   .unk, .unk, .unk, .unk, .unk, .unk, .unk, .unk, .unk, .unk, .unk, .unk, .unk, .unk, .unk, .unk, .unk, .unk, .unk, .unk, .unk, .unk, .unk, .unk, .unk, .unk, .unk, .unk,
   .unk, .unk, .unk, .unk, .unk, .unk, .unk, .unk, .unk, .unk, .unk, .unk, .unk, .unk, .unk, .unk, .unk, .unk, .unk, .unk, .unk, .unk, .unk, .unk, .unk, .unk, .unk, .unk,
   .unk, .unk, .unk, .unk, .unk, .unk, .unk, .unk, .unk, .unk, .unk, .unk, .unk, .unk, .unk, .unk, .unk],
   hp :=
   [none, some (.cells [iv W, iv H, iv T, iv (24 : Int), SV.d (DV.ro mk 1 ck)]), none, none, none, none, none, none, none, none, none, none, some (.row n 1 (BI_q3 S)), none, none, none, none,
   none, none, none, none, none, some (.row (List.length Q) 1 (BI_q4 Q))],
   next := 23, hint := .nil }))

theorem BI_eq (W H T : Int) (mk : Nat) (ck : Nat → Nat → DV) (r : Bool) (n : Nat) (t : Int) (S : Nat → Bool) (Q : List Int) (z : Int) (L : List Int) (y : Int) : cutT 22 [(.slot 14, 22)] [6, 7, 8, 9, 10, 13, 14, 15, 16, 17] [0, 2, 3, 4, 5, 6, 7, 8, 9, 10, 11, 13, 15, 16, 17, 18, 19, 20, 21] 23 .nil (exec Tryz.prog CN DN 200 bodyI (invI W H T mk ck r n t S Q z L y)) = BI W H T mk ck r n t S Q z L y := by kernel_rfl

noncomputable def KI_q1 (S2 : Nat → Bool) (i : Nat) (x : Nat) : DV :=
  DV.x (.bool (S2 i))
noncomputable def KI_q2 (Q2 : List Int) (i : Nat) (x : Nat) : DV :=
  DV.x (.int .i64 (List.getD Q2 i (0 : Int)))
noncomputable def KI (W H T : Int) (mk : Nat) (ck : Nat → Nat → DV) (r : Bool) (n : Nat) (t : Int) (S : Nat → Bool) (Q : List Int) (z : Int) (S2 : Nat → Bool) (Q2 : List Int) (L : List Int) (y : Int) : Tree (Ex × AS) :=
  .ret
  (.normal,
   {
   tm :=
   [.unk, .unk, .unk, .unk, .unk, .unk, .ok (bv r), .ok (bv true), .ok (SV.ptr 1 0), .ok (iv (↑n : Int)), .ok (iv t), .unk, .unk,
   .ok (SV.row 12 0 0 n 1), .ok (SV.row 14 0 0 (List.length Q2) 1), .ok (iv (w64 (z + (1 : Int)))), .unk, .unk, .unk, .unk, .unk, .unk,
   .unk, .unk, .unk, .unk, .unk, .unk, .unk, .unk, .unk, .unk, .unk, .unk, .unk, .unk, .unk, .unk, .unk, .unk, .unk, .unk, .unk, .unk, .unk, .unk, .unk, .unk, .unk, .unk,
   .unk, .unk, .unk, .unk, .unk, .unk, .unk, .unk, .unk, .unk, .unk, .unk, .unk, .unk, .unk, .unk, .unk, .unk, .unk, .unk, .unk, .unk, .unk, .unk, .unk, .unk, .unk, .unk,
   .unk, .unk, .unk, .unk, .unk, .unk, .unk, .unk, .unk, .unk, .unk, .unk, .unk, .unk, .unk, .unk, .unk, .unk, .unk, .unk, .unk, .unk, .unk, .unk, .unk, .unk, .unk, .unk,
   .unk, .unk, .unk, .unk, .unk, .unk, .unk, .unk, .unk, .unk, .unk, .unk, .unk, .unk, .unk, .unk, .unk, .unk, .unk, .unk, .unk, .unk, .unk, .unk, .unk, .unk, .unk, .unk,
   .unk, .unk, .unk, .unk, .unk, .unk, .unk, .unk, .unk, .unk, .unk, .unk, .unk, .unk, .unk, .unk, .unk, .unk, .unk, .unk, .unk, .unk, .unk, .unk, .unk, .unk, .unk, .unk,
   .unk, .unk, .unk],
   hp :=
   [none, some (.cells [iv W, iv H, iv T, iv (24 : Int), SV.d (DV.ro mk 1 ck)]), none, none, none, none, none, none, none, none, none, none, some (.row n 1 (KI_q1 S2)), none,
   some (.row (List.length Q2) 1 (KI_q2 Q2))],
   next := 15, hint := .nil })

theorem KI_eq (W H T : Int) (mk : Nat) (ck : Nat → Nat → DV) (r : Bool) (n : Nat) (t : Int) (S : Nat → Bool) (Q : List Int) (z : Int) (S2 : Nat → Bool) (Q2 : List Int) (L : List Int) (y : Int) : codeK (sub [0, 0, 0, 0, 0] (tA W H T mk ck r n t S Q z)) (.exit 2) (invI W H T mk ck r n t S2 Q2 z L y) = KI W H T mk ck r n t S Q z S2 Q2 L y := by kernel_rfl

noncomputable def tC (w h t p : Int) (m : Nat) (f : Nat → Nat → DV) (k tr : Int) (W H T : Int) (mk : Nat) (ck : Nat → Nat → DV) (r : Bool) (n : Nat) (t2 : Int) (S : Nat → Bool) (Q : List Int) (z : Int) : Tree SV := codeK (sub [1, 0, 0, 0, 0, 1, 0, 0, 0, 1, 0] (tL8 w h t p m f k tr)) (.exit 0) (invA W H T mk ck r n t2 S Q z)
noncomputable def KA (w h t p : Int) (m : Nat) (f : Nat → Nat → DV) (k tr : Int) (W H T : Int) (mk : Nat) (ck : Nat → Nat → DV) (r : Bool) (n : Nat) (t2 : Int) (S : Nat → Bool) (Q : List Int) (z : Int) : Tree SV :=
  .code (codeC (sub [] (tC w h t p m f k tr W H T mk ck r n t2 S Q z))) (codeS (sub [] (tC w h t p m f k tr W H T mk ck r n t2 S Q z))) (codeK (sub [] (tC w h t p m f k tr W H T mk ck r n t2 S Q z)))

theorem KA_eq (w h t p : Int) (m : Nat) (f : Nat → Nat → DV) (k tr : Int) (W H T : Int) (mk : Nat) (ck : Nat → Nat → DV) (r : Bool) (n : Nat) (t2 : Int) (S : Nat → Bool) (Q : List Int) (z : Int) : tC w h t p m f k tr W H T mk ck r n t2 S Q z = KA w h t p m f k tr W H T mk ck r n t2 S Q z := by kernel_rfl

noncomputable def invC (W H T : Int) (mk : Nat) (ck : Nat → Nat → DV) (r : Bool) (n : Nat) (S : Nat → Bool) (z : Int) : AS := ⟨List.replicate 6 .unk ++ [.ok (bv r), .ok (bv true), .ok (.ptr 1 0), .ok (iv n), .unk, .unk, .unk, .ok (.row 12 0 0 n 1)] ++ List.replicate 5 .unk ++ [.ok (iv z)] ++ List.replicate 145 .unk, [none, some (.cells [iv W, iv H, iv T, iv 24, .d (.ro mk 1 ck)])] ++ List.replicate 10 none ++ [some (seB n S), none, none], 15, .nil⟩
noncomputable def bodyC : Code := loopN (bodyOf Tryz.prog 8) 2
noncomputable def BC_q1 (W : Int) (H : Int) (T : Int) (z : Int) : Bool :=
  gK W H T (24 : Int) z == (3 : Int) || gK W H T (24 : Int) z == (7 : Int)
noncomputable def BC_q2 (S : Nat → Bool) (i : Nat) (x : Nat) : DV :=
  DV.x (.bool (S i))
noncomputable def BC (W H T : Int) (mk : Nat) (ck : Nat → Nat → DV) (r : Bool) (n : Nat) (S : Nat → Bool) (z : Int) : Tree (Ex × AS) :=
  .ite (decide (z < (↑n : Int)))
  (.need (okG W H T (24 : Int))
   (.need (i64B z)
   (.need (BC_q1 W H T z = true → (0 : Int) ≤ z ∧ z < (↑n : Int))
   (.need (BC_q1 W H T z = true → 0 + Int.toNat z < n)
   (.ite (BC_q1 W H T z && !S (0 + Int.toNat z))
   (.ret
   (.ret,
   {
   tm :=
   [.unk, .unk, .unk, .unk, .unk, .unk, .ok (bv false), .ok (bv true), .ok (SV.ptr 1 0), .ok (iv (↑n : Int)), .unk, .unk, .unk,
   .ok (SV.row 12 0 0 n 1), .unk, .unk, .unk, .unk, .unk, .ok (iv z), .unk, .unk, .unk, .unk, .unk, .unk, .unk, .unk, .unk, .unk, .unk, .unk,
   .unk, .unk, .unk, .unk, .unk, .unk, .unk, .unk, .unk, .unk, .unk, .unk, .unk, .unk, .unk, .unk, .unk, .unk, .unk, .unk, .unk, .unk, .unk, .unk, .unk, .unk, .unk,
   .unk, .unk, .unk, .unk, .unk, .unk, .unk, .unk, .unk, .unk, .unk, .unk, .unk, .unk, .unk, .unk, .unk, .unk, .unk, .unk, .unk, .unk, .unk, .unk, .unk, .unk, .unk,
   .unk, .unk, .unk, .unk, .unk, .unk, .unk, .unk, .unk, .unk, .unk, .unk, .unk, .unk, .unk, .unk, .unk, .unk, .unk, .unk, .unk, .unk, .unk, .unk, .unk, .unk, .unk,
   .unk, .unk, .unk, .unk, .unk, .unk, .unk, .unk, .unk, .unk, .unk, .unk, .unk, .unk, .unk, .unk, .unk, .unk, .unk, .unk, .unk, .unk, .unk, .unk, .unk, .unk, .unk,
   .unk, .unk, .unk, .unk, .unk, .unk, .unk, .unk, .unk, .unk, .unk, .unk, .unk, .unk, .unk, .unk, .unk, .unk, .unk, .unk, .unk, .unk, .unk, .unk, .unk],
   hp := [none, some (.cells [iv W, iv H, iv T, iv (24 : Int), SV.d (DV.ro mk 1 ck)]), none, none, none, none, none, none, none, none, none, none, some (.row n 1 (BC_q2 S)), none, none],
   next := 15, hint := .nil }))
   (.ret
   (.normal,
   {
   tm :=
   [.unk, .unk, .unk, .unk, .unk, .unk, .ok (bv r), .ok (bv true), .ok (SV.ptr 1 0), .ok (iv (↑n : Int)), .unk, .unk, .unk,
   .ok (SV.row 12 0 0 n 1), .unk, .unk, .unk, .unk, .unk, .ok (iv (w64 (z + (1 : Int)))), .unk, .unk, .unk, .unk, .unk, .unk, .unk, .unk, .unk,
   .unk, .unk, .unk, .unk, .unk, .unk, .unk, .unk, .unk, .unk, .unk, .unk, .unk, .unk, .unk, .unk, .unk, .unk, .unk, .unk, .unk, .unk, .unk, .unk, .unk, .unk, .unk,
   .unk, .unk, .unk, .unk, .unk, .unk, .unk, .unk, .unk, .unk, .unk, .unk, .unk, .unk, .unk, .unk, .unk, .unk, .unk, .unk, .unk, .unk, .unk, .unk, .unk, .unk, .unk,
   .unk, .unk, .unk, .unk, .unk, .unk, .unk, .unk, .unk, .unk, .unk, .unk, .unk, .unk, .unk, .unk, .unk, .unk, .unk, .unk, .unk, .unk, .unk, .unk, .unk, .unk, .unk,
   .unk, .unk, .unk, .unk, .unk, .unk, .unk, .unk, .unk, .unk, .unk, .unk, .unk, .unk, .unk, .unk, .unk, .unk, .unk, .unk, .unk, .unk, .unk, .unk, .unk, .unk, .unk,
   .unk, .unk, .unk, .unk, .unk, .unk, .unk, .unk, .unk, .unk, .unk, .unk, .unk, .unk, .unk, .unk, .unk, .unk, .unk, .unk, .unk, .unk, .unk, .unk, .unk, .unk, .unk,
   .unk],
   hp := [none, some (.cells [iv W, iv H, iv T, iv (24 : Int), SV.d (DV.ro mk 1 ck)]), none, none, none, none, none, none, none, none, none, none, some (.row n 1 (BC_q2 S)), none, none],
   next := 15, hint := .nil })))))))
  (.ret
   (.exit 4,
   {
   tm :=
   [.unk, .unk, .unk, .unk, .unk, .unk, .ok (bv r), .ok (bv true), .ok (SV.ptr 1 0), .ok (iv (↑n : Int)), .unk, .unk, .unk,
   .ok (SV.row 12 0 0 n 1), .unk, .unk, .unk, .unk, .unk, .ok (iv z), .unk, .unk, .unk, .unk, .unk, .unk, .unk, .unk, .unk, .unk, .unk, .unk, .unk,
   .unk, .unk, .unk, .unk, .unk, .unk, .unk, .unk, .unk, .unk, .unk, .unk, .unk, .unk, .unk, .unk, .unk, .unk, .unk, .unk, .unk, .unk, .unk, .unk, .unk, .unk, .unk, .unk,
   .unk, .unk, .unk, .unk, .unk, .unk, .unk, .unk, .unk, .unk, .unk, .unk, .unk, .unk, .unk, .unk, .unk, .unk, .unk, .unk, .unk, .unk, .unk, .unk, .unk, .unk, .unk, .unk,
   .unk, .unk, .unk, .unk, .unk, .unk, .unk, .unk, .unk, .unk, .unk, .unk, .unk, .unk, .unk, .unk, .unk, .unk, .unk, .unk, .unk, .unk, .unk, .unk, .unk, .unk, .unk, .unk,
   .unk, .unk, .unk, .unk, .unk, .unk, .unk, .unk, .unk, .unk, .unk, .unk, .unk, .unk, .unk, .unk, .unk, .unk, .unk, .unk, .unk, .unk, .unk, .unk, .unk, .unk, .unk, .unk,
   .unk, .unk, .unk, .unk, .unk, .unk, .unk, .unk, .unk, .unk, .unk, .unk, .unk, .unk, .unk, .unk, .unk, .unk, .unk, .unk],
   hp := [none, some (.cells [iv W, iv H, iv T, iv (24 : Int), SV.d (DV.ro mk 1 ck)]), none, none, none, none, none, none, none, none, none, none, some (.row n 1 (BC_q2 S)), none, none],
   next := 15, hint := .nil }))

theorem BC_eq (W H T : Int) (mk : Nat) (ck : Nat → Nat → DV) (r : Bool) (n : Nat) (S : Nat → Bool) (z : Int) : cutT 15 [] [6, 7, 8, 9, 13, 19] [0, 2, 3, 4, 5, 6, 7, 8, 9, 10, 11, 13, 14] 15 .nil (exec Tryz.prog CN DN 200 bodyC (invC W H T mk ck r n S z)) = BC W H T mk ck r n S z := by kernel_rfl

noncomputable def KC (w h t p : Int) (m : Nat) (f : Nat → Nat → DV) (k tr : Int) (W H T : Int) (mk : Nat) (ck : Nat → Nat → DV) (r : Bool) (n : Nat) (t2 : Int) (S : Nat → Bool) (Q : List Int) (z : Int) (z2 : Int) : Tree SV :=
  .ret (bv true)

theorem KC_eq (w h t p : Int) (m : Nat) (f : Nat → Nat → DV) (k tr : Int) (W H T : Int) (mk : Nat) (ck : Nat → Nat → DV) (r : Bool) (n : Nat) (t2 : Int) (S : Nat → Bool) (Q : List Int) (z : Int) (z2 : Int) : codeK (sub [] (tC w h t p m f k tr W H T mk ck r n t2 S Q z)) (.exit 4) (invC W H T mk ck r n S z2) = KC w h t p m f k tr W H T mk ck r n t2 S Q z z2 := by kernel_rfl


end Go.Proofs.YtgahnelicbddcaaGreatDoor

namespace Go.Proofs.YtgahnelicbddcaaGreatDoor
open Go.Sx
set_option maxRecDepth 100000
noncomputable def tL7 (w h t p : Int) (m : Nat) (f : Nat → Nat → DV) (m2 : Nat) (f2 : Nat → Nat → DV) (k : Int) : Tree SV := TN .nil 7 [rawF w h t p m f, .d (.ro m2 1 f2), u16V k]
noncomputable def L7T_q1 (t : Int) (m2 : Nat) (f2 : Nat → Nat → DV) (i : Nat) (x : Nat) : DV :=
  DV.x (.int .i64 (List.getD (shL (anN (2 : Int) (3 : Int) t) m2 f2) i (0 : Int)))
noncomputable def L7T (w h t p : Int) (m : Nat) (f : Nat → Nat → DV) (m2 : Nat) (f2 : Nat → Nat → DV) (k : Int) : Tree SV :=
  .ite false (.ret (bv false))
  (.need (RawOK w h t p m f)
   (.need (((0 : Int) ≤ anN (2 : Int) (3 : Int) t ∧ anN (2 : Int) (3 : Int) t ≤ (1000 : Int)) ∧ ByteRow m2 f2)
   (.need (okG (anN (2 : Int) (4 : Int) w) (anN (2 : Int) (4 : Int) h) (anN (2 : Int) (3 : Int) t) (24 : Int))
   (.need (gN (anN (2 : Int) (4 : Int) w) (anN (2 : Int) (4 : Int) h) (anN (2 : Int) (3 : Int) t) (24 : Int) ≠ (0 : Int))
   (.need (okG (anN (2 : Int) (4 : Int) w) (anN (2 : Int) (4 : Int) h) (anN (2 : Int) (3 : Int) t) (24 : Int))
   (.need (i64B (Int.tmod (w64 k) (gN (anN (2 : Int) (4 : Int) w) (anN (2 : Int) (4 : Int) h) (anN (2 : Int) (3 : Int) t) (24 : Int))))
   (.need (okG (anN (2 : Int) (4 : Int) w) (anN (2 : Int) (4 : Int) h) (anN (2 : Int) (3 : Int) t) (24 : Int))
   (.need
   ((0 : Int) ≤ Int.tmod (w64 k) (gN (anN (2 : Int) (4 : Int) w) (anN (2 : Int) (4 : Int) h) (anN (2 : Int) (3 : Int) t) (24 : Int)) ∧
   Int.tmod (w64 k) (gN (anN (2 : Int) (4 : Int) w) (anN (2 : Int) (4 : Int) h) (anN (2 : Int) (3 : Int) t) (24 : Int)) < gN (anN (2 : Int) (4 : Int) w) (anN (2 : Int) (4 : Int) h) (anN (2 : Int) (3 : Int) t) (24 : Int))
   (.need ((↑(List.length (shL (anN (2 : Int) (3 : Int) t) m2 f2)) : Int) = anN (2 : Int) (3 : Int) t ∧ IntRow (List.length (shL (anN (2 : Int) (3 : Int) t) m2 f2)) (L7T_q1 t m2 f2))
   (.need (okG (anN (2 : Int) (4 : Int) w) (anN (2 : Int) (4 : Int) h) (anN (2 : Int) (3 : Int) t) (24 : Int))
   (.need
   (i64B
   (rnN (anN (2 : Int) (4 : Int) w) (anN (2 : Int) (4 : Int) h) (anN (2 : Int) (3 : Int) t) (24 : Int) (lsOf (List.length (shL (anN (2 : Int) (3 : Int) t) m2 f2)) (L7T_q1 t m2 f2))
   (Int.tmod (w64 k) (gN (anN (2 : Int) (4 : Int) w) (anN (2 : Int) (4 : Int) h) (anN (2 : Int) (3 : Int) t) (24 : Int)))))
   (.need (okG (anN (2 : Int) (4 : Int) w) (anN (2 : Int) (4 : Int) h) (anN (2 : Int) (3 : Int) t) (24 : Int))
   (.need (i64B (Int.tmod (w64 k) (gN (anN (2 : Int) (4 : Int) w) (anN (2 : Int) (4 : Int) h) (anN (2 : Int) (3 : Int) t) (24 : Int))))
   (.ite
   ((↑(List.length
   (refN (anN (2 : Int) (4 : Int) w) (anN (2 : Int) (4 : Int) h) (anN (2 : Int) (3 : Int) t) (24 : Int)
   (Int.tmod (w64 k) (gN (anN (2 : Int) (4 : Int) w) (anN (2 : Int) (4 : Int) h) (anN (2 : Int) (3 : Int) t) (24 : Int))))) :
   Int) !=
   (↑(List.length
   (refN (anN (2 : Int) (4 : Int) w) (anN (2 : Int) (4 : Int) h) (anN (2 : Int) (3 : Int) t) (24 : Int)
   (rnN (anN (2 : Int) (4 : Int) w) (anN (2 : Int) (4 : Int) h) (anN (2 : Int) (3 : Int) t) (24 : Int) (lsOf (List.length (shL (anN (2 : Int) (3 : Int) t) m2 f2)) (L7T_q1 t m2 f2))
   (Int.tmod (w64 k) (gN (anN (2 : Int) (4 : Int) w) (anN (2 : Int) (4 : Int) h) (anN (2 : Int) (3 : Int) t) (24 : Int)))))) :
   Int) ||
   gK (anN (2 : Int) (4 : Int) w) (anN (2 : Int) (4 : Int) h) (anN (2 : Int) (3 : Int) t) (24 : Int)
   (Int.tmod (w64 k) (gN (anN (2 : Int) (4 : Int) w) (anN (2 : Int) (4 : Int) h) (anN (2 : Int) (3 : Int) t) (24 : Int))) ==
   (0 : Int))
   (.ret (bv false))
   (.code
   (codeC (sub [(1 : Nat), (0 : Nat), (0 : Nat), (0 : Nat), (0 : Nat), (0 : Nat), (0 : Nat), (0 : Nat), (0 : Nat), (0 : Nat), (0 : Nat), (0 : Nat), (0 : Nat), (0 : Nat), (1 : Nat)] (tL7 w h t p m f m2 f2 k)))
   (codeS (sub [(1 : Nat), (0 : Nat), (0 : Nat), (0 : Nat), (0 : Nat), (0 : Nat), (0 : Nat), (0 : Nat), (0 : Nat), (0 : Nat), (0 : Nat), (0 : Nat), (0 : Nat), (0 : Nat), (1 : Nat)] (tL7 w h t p m f m2 f2 k)))
   (codeK
   (sub [(1 : Nat), (0 : Nat), (0 : Nat), (0 : Nat), (0 : Nat), (0 : Nat), (0 : Nat), (0 : Nat), (0 : Nat), (0 : Nat), (0 : Nat), (0 : Nat), (0 : Nat), (0 : Nat), (1 : Nat)]
   (tL7 w h t p m f m2 f2 k))))))))))))))))))

theorem L7T_eq (w h t p : Int) (m : Nat) (f : Nat → Nat → DV) (m2 : Nat) (f2 : Nat → Nat → DV) (k : Int) : tL7 w h t p m f m2 f2 k = L7T w h t p m f m2 f2 k := by kernel_rfl


end Go.Proofs.YtgahnelicbddcaaGreatDoor

namespace Go.Proofs.YtgahnelicbddcaaGreatDoor
open Go.Sx
set_option maxRecDepth 100000
noncomputable def invL7 (W H T : Int) (mk : Nat) (ck : Nat → Nat → DV) (r : Bool) (S L M : List Int) (sk sx sy si z : Int) : AS := ⟨List.replicate 6 .unk ++ [.ok (bv r), .ok (bv true), .ok (.ptr 1 0), .ok (ivL S), .unk, .ok (ivL L), .ok (ivL M), .ok (.ptr 14 0), .ok (iv z)] ++ List.replicate 107 .unk, [none, some (.cells [iv W, iv H, iv T, iv 24, .d (.ro mk 1 ck)])] ++ List.replicate 12 none ++ [some (.cells [iv sk, iv sx, iv sy, iv si]), none], 16, .nil⟩
noncomputable def bodyL7 : Code := loopN (bodyOf Tryz.prog 7) 0
noncomputable def B7_q1 (L : List Int) (z : Int) : Bool :=
  decide (List.getD L (Int.toNat z) (0 : Int) < (0 : Int))
noncomputable def B7_q2 (W : Int) (H : Int) (T : Int) (L : List Int) (z : Int) : Bool :=
  B7_q1 L z || decide (List.getD L (Int.toNat z) (0 : Int) ≥ gN W H T (24 : Int))
noncomputable def B7_q3 (S : List Int) (i : Nat) (x : Nat) : DV :=
  DV.x (.int .i64 (List.getD S i (0 : Int)))
noncomputable def B7_q4 (M : List Int) (i : Nat) (x : Nat) : DV :=
  DV.x (.int .i64 (List.getD M i (0 : Int)))
noncomputable def B7_q5 (L : List Int) (i : Nat) (x : Nat) : DV :=
  DV.x (.int .i64 (List.getD L i (0 : Int)))
noncomputable def B7 (W H T : Int) (mk : Nat) (ck : Nat → Nat → DV) (r : Bool) (S L M : List Int) (sk sx sy si z : Int) : Tree (Ex × AS) :=
  .ite (decide (z < (↑(List.length L) : Int)))
  (.need ((0 : Int) ≤ z ∧ z < (↑(List.length L) : Int))
   (.need (B7_q1 L z = false → (0 : Int) ≤ z ∧ z < (↑(List.length L) : Int))
   (.need (B7_q1 L z = false → okG W H T (24 : Int))
   (.need (B7_q2 W H T L z = false → (0 : Int) ≤ z ∧ z < (↑(List.length L) : Int))
   (.need (B7_q2 W H T L z = false → okG W H T (24 : Int))
   (.need (B7_q2 W H T L z = false → (0 : Int) ≤ List.getD L (Int.toNat z) (0 : Int) ∧ List.getD L (Int.toNat z) (0 : Int) < gN W H T (24 : Int))
   (.need (B7_q2 W H T L z = false → (↑(List.length S) : Int) = T ∧ IntRow (List.length S) (B7_q3 S))
   (.need (B7_q2 W H T L z = false → RowOK (List.length M) (B7_q4 M))
   (.ite (B7_q2 W H T L z || !hasB (List.length M) (B7_q4 M) (rnN W H T (24 : Int) (lsOf (List.length S) (B7_q3 S)) (List.getD L (Int.toNat z) (0 : Int))))
   (.ret
   (.ret,
   {
   tm :=
   [.unk, .unk, .unk, .unk, .unk, .unk, .ok (bv false), .ok (bv true), .ok (SV.ptr 1 0), .ok (SV.d (DV.ro (List.length S) 1 (B7_q3 S))), .unk,
   .ok (SV.d (DV.ro (List.length L) 1 (B7_q5 L))), .ok (SV.d (DV.ro (List.length M) 1 (B7_q4 M))), .ok (SV.ptr 14 0), .ok (iv z), .unk,
   .unk, .unk, .unk, .unk, .unk, .unk, .unk, .unk, .unk, .unk, .unk, .unk, .unk, .unk, .unk, .unk, .unk, .unk, .unk, .unk, .unk, .unk, .unk, .unk, .unk, .unk,
   .unk, .unk, .unk, .unk, .unk, .unk, .unk, .unk, .unk, .unk, .unk, .unk, .unk, .unk, .unk, .unk, .unk, .unk, .unk, .unk, .unk, .unk, .unk, .unk, .unk, .unk,
   .unk, .unk, .unk, .unk, .unk, .unk, .unk, .unk, .unk, .unk, .unk, .unk, .unk, .unk, .unk, .unk, .unk, .unk, .unk, .unk, .unk, .unk, .unk, .unk, .unk, .unk,
   .unk, .unk, .unk, .unk, .unk, .unk, .unk, .unk, .unk, .unk, .unk, .unk, .unk, .unk, .unk, .unk, .unk, .unk, .unk, .unk, .unk, .unk, .unk, .unk, .unk, .unk,
   .unk, .unk],
   hp :=
   [none, some (.cells [iv W, iv H, iv T, iv (24 : Int), SV.d (DV.ro mk 1 ck)]), none, none, none, none, none, none, none, none, none, none, none, none, some (.cells [iv sk, iv sx, iv sy, iv si]),
   none],
   next := 16, hint := .nil }))
   (.need ((0 : Int) ≤ z ∧ z < (↑(List.length L) : Int))
   (.need (okG W H T (24 : Int))
   (.need (i64B (List.getD L (Int.toNat z) (0 : Int)))
   (.ite
   ((sk == (4 : Int) || sk == (5 : Int)) && (gK W H T (24 : Int) (List.getD L (Int.toNat z) (0 : Int)) == (4 : Int) || gK W H T (24 : Int) (List.getD L (Int.toNat z) (0 : Int)) == (5 : Int)) &&
   si != gI W H T (24 : Int) (List.getD L (Int.toNat z) (0 : Int)))
   (.ret
   (.ret,
   {
   tm :=
   [.unk, .unk, .unk, .unk, .unk, .unk, .ok (bv false), .ok (bv true), .ok (SV.ptr 1 0), .ok (SV.d (DV.ro (List.length S) 1 (B7_q3 S))), .unk,
   .ok (SV.d (DV.ro (List.length L) 1 (B7_q5 L))), .ok (SV.d (DV.ro (List.length M) 1 (B7_q4 M))), .ok (SV.ptr 14 0), .ok (iv z),
   .unk, .unk, .unk, .unk, .unk, .unk, .unk, .unk, .unk, .unk, .unk, .unk, .unk, .unk, .unk, .unk, .unk, .unk, .unk, .unk, .unk, .unk, .unk, .unk, .unk,
   .unk, .unk, .unk, .unk, .unk, .unk, .unk, .unk, .unk, .unk, .unk, .unk, .unk, .unk, .unk, .unk, .unk, .unk, .unk, .unk, .unk, .unk, .unk, .unk, .unk,
   .unk, .unk, .unk, .unk, .unk, .unk, .unk, .unk, .unk, .unk, .unk, .unk, .unk, .unk, .unk, .unk, .unk, .unk, .unk, .unk, .unk, .unk, .unk, .unk, .unk,
   .unk, .unk, .unk, .unk, .unk, .unk, .unk, .unk, .unk, .unk, .unk, .unk, .unk, .unk, .unk, .unk, .unk, .unk, .unk, .unk, .unk, .unk, .unk, .unk, .unk,
   .unk, .unk, .unk, .unk, .unk, .unk, .unk],
   hp :=
   [none, some (.cells [iv W, iv H, iv T, iv (24 : Int), SV.d (DV.ro mk 1 ck)]), none, none, none, none, none, none, none, none, none, none, none, none,
   some (.cells [iv sk, iv sx, iv sy, iv si]), none],
   next := 16, hint := .nil }))
   (.ret
   (.normal,
   {
   tm :=
   [.unk, .unk, .unk, .unk, .unk, .unk, .ok (bv r), .ok (bv true), .ok (SV.ptr 1 0), .ok (SV.d (DV.ro (List.length S) 1 (B7_q3 S))), .unk,
   .ok (SV.d (DV.ro (List.length L) 1 (B7_q5 L))), .ok (SV.d (DV.ro (List.length M) 1 (B7_q4 M))), .ok (SV.ptr 14 0),
   .ok (iv (w64 (z + (1 : Int)))), .unk, .unk, .unk, .unk, .unk, .unk, .unk, .unk, .unk, .unk, .unk, .unk, .unk, .unk, .unk, .unk, .unk, .unk, .unk, .unk, .unk,
   .unk, .unk, .unk, .unk, .unk, .unk, .unk, .unk, .unk, .unk, .unk, .unk, .unk, .unk, .unk, .unk, .unk, .unk, .unk, .unk, .unk, .unk, .unk, .unk, .unk,
   .unk, .unk, .unk, .unk, .unk, .unk, .unk, .unk, .unk, .unk, .unk, .unk, .unk, .unk, .unk, .unk, .unk, .unk, .unk, .unk, .unk, .unk, .unk, .unk, .unk,
   .unk, .unk, .unk, .unk, .unk, .unk, .unk, .unk, .unk, .unk, .unk, .unk, .unk, .unk, .unk, .unk, .unk, .unk, .unk, .unk, .unk, .unk, .unk, .unk, .unk,
   .unk, .unk, .unk, .unk, .unk, .unk, .unk, .unk, .unk, .unk, .unk],
   hp :=
   [none, some (.cells [iv W, iv H, iv T, iv (24 : Int), SV.d (DV.ro mk 1 ck)]), none, none, none, none, none, none, none, none, none, none, none, none,
   some (.cells [iv sk, iv sx, iv sy, iv si]), none],
   next := 16, hint := .nil })))))))))))))))
  (.ret
   (.exit 0,
   {
   tm :=
   [.unk, .unk, .unk, .unk, .unk, .unk, .ok (bv r), .ok (bv true), .ok (SV.ptr 1 0), .ok (SV.d (DV.ro (List.length S) 1 (B7_q3 S))), .unk,
   .ok (SV.d (DV.ro (List.length L) 1 (B7_q5 L))), .ok (SV.d (DV.ro (List.length M) 1 (B7_q4 M))), .ok (SV.ptr 14 0), .ok (iv z), .unk, .unk, .unk, .unk,
   .unk, .unk, .unk, .unk, .unk, .unk, .unk, .unk, .unk, .unk, .unk, .unk, .unk, .unk, .unk, .unk, .unk, .unk, .unk, .unk, .unk, .unk, .unk, .unk, .unk, .unk, .unk, .unk,
   .unk, .unk, .unk, .unk, .unk, .unk, .unk, .unk, .unk, .unk, .unk, .unk, .unk, .unk, .unk, .unk, .unk, .unk, .unk, .unk, .unk, .unk, .unk, .unk, .unk, .unk, .unk, .unk,
   .unk, .unk, .unk, .unk, .unk, .unk, .unk, .unk, .unk, .unk, .unk, .unk, .unk, .unk, .unk, .unk, .unk, .unk, .unk, .unk, .unk, .unk, .unk, .unk, .unk, .unk, .unk, .unk,
   .unk, .unk, .unk, .unk, .unk, .unk, .unk, .unk, .unk, .unk, .unk, .unk, .unk, .unk, .unk, .unk, .unk, .unk, .unk],
   hp := [none, some (.cells [iv W, iv H, iv T, iv (24 : Int), SV.d (DV.ro mk 1 ck)]), none, none, none, none, none, none, none, none, none, none, none, none, some (.cells [iv sk, iv sx, iv sy, iv si]), none],
   next := 16, hint := .nil }))

theorem B7_eq (W H T : Int) (mk : Nat) (ck : Nat → Nat → DV) (r : Bool) (S L M : List Int) (sk sx sy si z : Int) : cutT 16 [] [6, 7, 8, 9, 11, 12, 13, 14] [0, 2, 3, 4, 5, 6, 7, 8, 9, 10, 11, 12, 13, 15] 16 .nil (exec Tryz.prog CN DN 200 bodyL7 (invL7 W H T mk ck r S L M sk sx sy si z)) = B7 W H T mk ck r S L M sk sx sy si z := by kernel_rfl

noncomputable def K7 (w h t p : Int) (m : Nat) (f : Nat → Nat → DV) (m2 : Nat) (f2 : Nat → Nat → DV) (k : Int) (W H T : Int) (mk : Nat) (ck : Nat → Nat → DV) (r : Bool) (S L M : List Int) (sk sx sy si z : Int) : Tree SV :=
  .ret (bv true)

theorem K7_eq (w h t p : Int) (m : Nat) (f : Nat → Nat → DV) (m2 : Nat) (f2 : Nat → Nat → DV) (k : Int) (W H T : Int) (mk : Nat) (ck : Nat → Nat → DV) (r : Bool) (S L M : List Int) (sk sx sy si z : Int) : codeK (sub [1, 0, 0, 0, 0, 0, 0, 0, 0, 0, 0, 0, 0, 0, 1] (tL7 w h t p m f m2 f2 k)) (.exit 0) (invL7 W H T mk ck r S L M sk sx sy si z) = K7 w h t p m f m2 f2 k W H T mk ck r S L M sk sx sy si z := by kernel_rfl


end Go.Proofs.YtgahnelicbddcaaGreatDoor

/- ChipTracks. -/
namespace Go.Proofs.YtgahnelicbddcaaGreatDoor
open Go.Sx
set_option maxRecDepth 100000
abbrev cellI (L : List Int) : Nat → Nat → DV := fun i _ => .x (.int .i64 (L.getD i 0))
theorem law7 {w h t p : Int} {m m2 : Nat} {f f2 : Nat → Nat → DV} {k : Int} (hr : RawOK w h t p m f) (hb2 : ByteRow m2 f2) (hk : 0 ≤ k ∧ k < 65536) : Sat Tryz.prog (tL7 w h t p m f m2 f2 k) (· = bv true) := by
  refine Sat.of_eq (L7T_eq w h t p m f m2 f2 k) ⟨?_⟩
  have hg := md_okG hr
  have q1 : L7T_q1 t m2 f2 = cellI (shL (anN 2 3 t) m2 f2) := rfl
  have ent : Gc 16 (ups (codeS (sub [1, 0, 0, 0, 0, 0, 0, 0, 0, 0, 0, 0, 0, 0, 1] (tL7 w h t p m f m2 f2 k))) 16) (invL7 (anN 2 4 w) (anN 2 4 h) (anN 2 3 t) (anK 2 4 w h m f).length (cellI (anK 2 4 w h m f)) false
      (shL (anN 2 3 t) m2 f2)
      (refN (anN 2 4 w) (anN 2 4 h) (anN 2 3 t) 24 (Int.tmod (w64 k) (gN (anN 2 4 w) (anN 2 4 h) (anN 2 3 t) 24)))
      (refN (anN 2 4 w) (anN 2 4 h) (anN 2 3 t) 24 (rnN (anN 2 4 w) (anN 2 4 h) (anN 2 3 t) 24 (lsOf (shL (anN 2 3 t) m2 f2).length (cellI (shL (anN 2 3 t) m2 f2))) (Int.tmod (w64 k) (gN (anN 2 4 w) (anN 2 4 h) (anN 2 3 t) 24))))
      (gK (anN 2 4 w) (anN 2 4 h) (anN 2 3 t) 24 (Int.tmod (w64 k) (gN (anN 2 4 w) (anN 2 4 h) (anN 2 3 t) 24)))
      (gX (anN 2 4 w) (anN 2 4 h) (anN 2 3 t) 24 (Int.tmod (w64 k) (gN (anN 2 4 w) (anN 2 4 h) (anN 2 3 t) 24)))
      (gY (anN 2 4 w) (anN 2 4 h) (anN 2 3 t) 24 (Int.tmod (w64 k) (gN (anN 2 4 w) (anN 2 4 h) (anN 2 3 t) 24)))
      (gI (anN 2 4 w) (anN 2 4 h) (anN 2 3 t) 24 (Int.tmod (w64 k) (gN (anN 2 4 w) (anN 2 4 h) (anN 2 3 t) 24))) 0) :=
    entA_sound (roots := []) (keep := [6, 7, 8, 9, 11, 12, 13, 14]) (drop := [0, 2, 3, 4, 5, 6, 7, 8, 9, 10, 11, 12, 13, 15]) (nx := 16) (h := .nil) (by kernel_rfl)
  unfold L7T
  have hS : TrOK (anN 2 3 t) (shL (anN 2 3 t) m2 f2) := shL_ok
  have hls : lsOf (shL (anN 2 3 t) m2 f2).length (cellI (shL (anN 2 3 t) m2 f2)) = shL (anN 2 3 t) m2 f2 := lsOf_cellL _
  rw [q1]
  rw [hls] at ent ⊢
  generalize (anK 2 4 w h m f).length = mk at *
  generalize cellI (anK 2 4 w h m f) = ck at *
  generalize shL (anN 2 3 t) m2 f2 = S at *
  generalize anN 2 4 w = W at *
  generalize anN 2 4 h = H at *
  generalize anN 2 3 t = T at *
  have hN := cnt_pos hg
  rw [w64_of (n := k) (by omega) (by omega)] at *
  have ha0 : 0 ≤ Int.tmod k (gN W H T 24) := Int.tmod_nonneg _ hk.1
  have ha1 : Int.tmod k (gN W H T 24) < gN W H T 24 := Int.tmod_lt_of_pos _ (by omega)
  generalize Int.tmod k (gN W H T 24) = a at *
  have hc : gN W H T 24 = ((gr W H T 24).cnt : Int) := rfl
  have hT := hg.2.2.1
  have hSl := hS.len
  have hST : (S.length : Int) = T := by omega
  have hSr : IntRow S.length (cellI S) := fun i hi => rfl
  have ran := rn_at hg hS ha0 (by omega)
  have len := rn_len hg hS ha0 (by omega)
  have lb := ref_len (n := rnN W H T 24 S a) hg
  have la := ref_len (n := a) hg
  have ia : i64B a := ⟨by omega, by omega⟩
  have ib : i64B (rnN W H T 24 S a) := ⟨by have := ran.r0; omega, by have := ran.r1; omega⟩
  have hf := (ndF hg ha0 (by omega)).ok
  have hk0 : (gK W H T 24 a == 0) = false := beq_eq_false_iff_ne.2 (by omega)
  have hcan : ∀ j : Nat, j < (refN W H T 24 a).length → (refN W H T 24 a).getD j 0 ∈ refN W H T 24 a := fun j hj => getD_mem hj
  have hl0 : (((refN W H T 24 a).length : Int) != ((refN W H T 24 (rnN W H T 24 S a)).length : Int)) = false := by rw [len]; simp
  rw [hl0, hk0]
  refine ⟨fun h => (by cases h), fun _ => ⟨hr, ⟨⟨by omega, by omega⟩, hb2⟩, hg, by omega, hg, ia, hg, ⟨ha0, ha1⟩, ⟨hST, hSr⟩, hg, ib, hg, ia, fun h => (by cases h), fun _ => ?_⟩⟩
  generalize hR : gX W H T 24 a = sx at ent
  generalize hR2 : gY W H T 24 a = sy at ent
  refine code_satS CN_ok DN_ok (n := 200) (n0 := 16) (nx := 16) (roots := []) (keep := [6, 7, 8, 9, 11, 12, 13, 14]) (drop := [0, 2, 3, 4, 5, 6, 7, 8, 9, 10, 11, 12, 13, 15]) (h := .nil) (body := bodyL7) (by kernel_rfl) (by kernel_rfl)
    (fun q s => ∃ j : Nat, q = (refN W H T 24 a).length - j ∧ j ≤ (refN W H T 24 a).length ∧ s = invL7 W H T mk ck false S (refN W H T 24 a) (refN W H T 24 (rnN W H T 24 S a)) (gK W H T 24 a) sx sy (gI W H T 24 a) j)
    (fun e s => e = .exit 0 ∧ ∃ j : Nat, s = invL7 W H T mk ck false S (refN W H T 24 a) (refN W H T 24 (rnN W H T 24 S a)) (gK W H T 24 a) sx sy (gI W H T 24 a) j)
    ⟨_, _, ⟨0, rfl, by omega, rfl⟩, ent⟩ ?_ ?_
  · rintro q s ⟨j, rfl, hj, rfl⟩
    refine Sat.of_eq (B7_eq W H T mk ck false S _ _ _ sx sy _ j) ?_
    constructor; unfold B7
    refine ⟨fun h1 => ?_, fun h1 => ?_⟩
    · simp only [decide_eq_true_eq] at h1
      have h1 : j < (refN W H T 24 a).length := by omega
      have hm := hcan j h1
      obtain ⟨_, ⟨c1, c2⟩, _⟩ := mem_refN.1 hm
      have q3 : B7_q3 S = cellI S := rfl
      have q4 : B7_q4 (refN W H T 24 (rnN W H T 24 S a)) = cellI (refN W H T 24 (rnN W H T 24 S a)) := rfl
      have hls : lsOf S.length (cellI S) = S := lsOf_cellL _
      have hmem := rn_mem hg hS hm
      have hv : hasB (refN W H T 24 (rnN W H T 24 S a)).length (cellI (refN W H T 24 (rnN W H T 24 S a))) (rnN W H T 24 S ((refN W H T 24 a).getD j 0)) = true := by
        rw [hasB_cell, decide_eq_true hmem]
      have q2 : B7_q2 W H T (refN W H T 24 a) (j : Int) = false := by
        unfold B7_q2 B7_q1
        simp only [Int.toNat_natCast, Bool.or_eq_false_iff, decide_eq_false_iff_not]
        exact ⟨by omega, by omega⟩
      rw [q3, q4, hls, Int.toNat_natCast, hv, q2]
      refine ⟨by omega, fun _ => by omega, fun _ => hg, fun _ => by omega, fun _ => hg, fun _ => ⟨by omega, by omega⟩, fun _ => ⟨hST, hSr⟩, fun _ => rowOK_cell (by omega), ⟨(fun h => by cases h), fun _ => ⟨by omega, hg, ⟨by omega, by omega⟩, fun h2 => ?_, fun _ => ?_⟩⟩⟩
      · exfalso
        simp only [Bool.and_eq_true, Bool.or_eq_true, beq_iff_eq, bne_iff_ne, ne_eq] at h2
        exact h2.2 (rn_own hm h2.1.1 h2.1.2)
      · rw [w64_of (n := (j : Int) + 1) (by omega) (by omega)]
        exact ⟨(refN W H T 24 a).length - (j + 1), _, by omega, ⟨j + 1, rfl, by omega, rfl⟩, Gc.refl _ _⟩
    · exact ⟨_, ⟨rfl, _, rfl⟩, Gc.refl _ _⟩
  · rintro e s ⟨rfl, j, rfl⟩
    exact Sat.of_eq (K7_eq w h t p m f m2 f2 k W H T mk ck false S _ _ _ sx sy _ j) ⟨rfl⟩
end Go.Proofs.YtgahnelicbddcaaGreatDoor

/- ChipReach: the search, in plain words. -/
namespace Go.Proofs.YtgahnelicbddcaaGreatDoor
open Go.Sx
set_option maxRecDepth 100000
def upS (S : Nat → Bool) (k : Nat) : Nat → Bool := fun i => decide (i = k) || S i
/-- What has been seen, and the list that is worked off. -/
structure RB (a : Int) (n : Nat) (S : Nat → Bool) (Q : List Int) : Prop where
  ex : ∃ D : List Int, Q = a :: D ∧ D.Pairwise (· ≠ ·) ∧ (∀ x, x ∈ D → (0 ≤ x ∧ x < n) ∧ S x.toNat = true) ∧ ∀ v : Nat, v < n → S v = true → (v : Int) ∈ D
theorem RB.len {a : Int} {n : Nat} {S : Nat → Bool} {Q : List Int} (h : RB a n S Q) : Q.length ≤ n + 1 := by
  obtain ⟨D, rfl, h1, h2, _⟩ := h.ex
  have := len_sub (B := upTo n) h1 fun x hx => mem_upTo.2 (h2 x hx).1
  have h3 : (upTo n).length = n := by unfold upTo; simp
  rw [List.length_cons]; omega
theorem RB.rng {a : Int} {n : Nat} {S : Nat → Bool} {Q : List Int} (h : RB a n S Q) (ha : 0 ≤ a ∧ a < n) {x : Int} (hx : x ∈ Q) : 0 ≤ x ∧ x < n := by
  obtain ⟨D, rfl, _, h2, _⟩ := h.ex
  rcases List.mem_cons.1 hx with rfl | hx
  · exact ha
  · exact (h2 x hx).1
theorem RB.mem {a : Int} {n : Nat} {S : Nat → Bool} {Q : List Int} (h : RB a n S Q) {x : Int} (hx : x = a ∨ ((0 ≤ x ∧ x < n) ∧ S x.toNat = true)) : x ∈ Q := by
  obtain ⟨D, rfl, _, _, h3⟩ := h.ex
  rcases hx with rfl | ⟨⟨h0, h1⟩, hs⟩
  · simp
  · have := h3 x.toNat (by omega) hs
    rw [show ((x.toNat : Nat) : Int) = x by omega] at this
    exact List.mem_cons_of_mem _ this
theorem RB.first {a : Int} {n : Nat} : RB a n (fun _ => false) [a] := ⟨[], rfl, List.Pairwise.nil, (fun x hx => by cases hx), fun v hv h => by cases h⟩
theorem RB.add {a : Int} {n : Nat} {S : Nat → Bool} {Q : List Int} (h : RB a n S Q) {b : Int} (hb : 0 ≤ b ∧ b < n) (hs : S b.toNat = false) : RB a n (upS S b.toNat) (Q ++ [b]) := by
  obtain ⟨D, rfl, h1, h2, h3⟩ := h.ex
  refine ⟨D ++ [b], by simp, ?_, fun x hx => ?_, fun v hv hs2 => ?_⟩
  · rw [List.pairwise_append]
    refine ⟨h1, List.pairwise_singleton _ _, fun x hx y hy => ?_⟩
    obtain rfl := List.mem_singleton.1 hy
    intro e
    rw [e] at hx
    rw [(h2 _ hx).2] at hs; cases hs
  · rcases List.mem_append.1 hx with hx | hx
    · refine ⟨(h2 x hx).1, ?_⟩
      unfold upS; rw [(h2 x hx).2]; simp
    · obtain rfl := List.mem_singleton.1 hx
      exact ⟨hb, by unfold upS; simp⟩
  · unfold upS at hs2
    rw [Bool.or_eq_true, decide_eq_true_eq] at hs2
    rcases hs2 with rfl | hs2
    · exact List.mem_append.2 (.inr (List.mem_singleton.2 (by omega)))
    · exact List.mem_append.2 (.inl (h3 v hv hs2))
/-- All that a node drives, over wires of one track, has been seen. -/
def Prc (W H T t : Int) (S : Nat → Bool) (m : Int) : Prop := ∀ b, b ∈ refN W H T 24 m → (gK W H T 24 b = 4 ∨ gK W H T 24 b = 5 → gI W H T 24 b = t) → S b.toNat = true
theorem Prc.up {W H T t : Int} {S : Nat → Bool} {m : Int} (h : Prc W H T t S m) (k : Nat) : Prc W H T t (upS S k) m := fun b hb hw => by
  unfold upS; rw [h b hb hw]; simp
theorem getD_app {Q : List Int} {i : Nat} (h : i < Q.length) (b : Int) : (Q ++ [b]).getD i 0 = Q.getD i 0 := by
  simp [List.getD_eq_getElem?_getD, List.getElem?_append, h]
theorem reach_fin {W H T t a : Int} {S : Nat → Bool} {Q : List Int} (hg : okG W H T 24) (ha : 0 ≤ a ∧ a < (gr W H T 24).cnt) (hk : gK W H T 24 a = 1 ∨ gK W H T 24 a = 2 ∨ gK W H T 24 a = 6) (ht : 0 ≤ t ∧ t < T)
    (hb : RB a (gr W H T 24).cnt S Q) (hp : ∀ j, j < Q.length → Prc W H T t S (Q.getD j 0)) {b : Int} (h0 : 0 ≤ b) (h1 : b < (gr W H T 24).cnt) (hkb : gK W H T 24 b = 3 ∨ gK W H T 24 b = 7) : S b.toNat = true := by
  have := reach_all hg ha.1 ha.2 hk ht (fun x => (0 ≤ x ∧ x < (gr W H T 24).cnt) ∧ S x.toNat = true) (fun m hm c hc hw => ?_) h0 h1 hkb
  · exact this.2
  · obtain ⟨j, hj, e⟩ := List.getElem_of_mem (hb.mem hm)
    have hpj := hp j hj
    have e2 : Q.getD j 0 = m := by rw [List.getD_eq_getElem?_getD, List.getElem?_eq_getElem hj]; exact e
    rw [e2] at hpj
    exact ⟨(mem_refN.1 hc).2.1, hpj c hc hw⟩
end Go.Proofs.YtgahnelicbddcaaGreatDoor

/- ChipReach. -/
namespace Go.Proofs.YtgahnelicbddcaaGreatDoor
open Go.Sx
set_option maxRecDepth 100000
theorem up_cell {S : Nat → Bool} {k a : Nat} : (if 0 ≤ 0 ∧ 0 < 1 then selD (decide (a = 0 + k)) (([DV.x (.bool true)] : List DV).getD (0 - 0) (.x undef)) (DV.x (.bool (S a))) else DV.x (.bool (S a))) = .x (.bool (upS S k a)) := by
  rw [if_pos (by omega), Nat.zero_add]
  unfold upS
  by_cases h : a = k
  · rw [decide_eq_true h]; rfl
  · rw [decide_eq_false h]; rfl
theorem inner {W H T t a : Int} {mk : Nat} {ck : Nat → Nat → DV} {S : Nat → Bool} {Q : List Int} {i : Nat} (hg : okG W H T 24) (ha : 0 ≤ a ∧ a < (gr W H T 24).cnt) (hb : RB a (gr W H T 24).cnt S Q) (hi : i < Q.length) (hp : ∀ j, j < i → Prc W H T t S (Q.getD j 0)) :
    Tree.sat Tryz.prog (.code (codeC (sub [0, 0, 0, 0, 0] (tA W H T mk ck false (gr W H T 24).cnt t S Q i))) (codeS (sub [0, 0, 0, 0, 0] (tA W H T mk ck false (gr W H T 24).cnt t S Q i))) (codeK (sub [0, 0, 0, 0, 0] (tA W H T mk ck false (gr W H T 24).cnt t S Q i))))
      fun r => r.1 = .normal ∧ ∃ S' Q', RB a (gr W H T 24).cnt S' Q' ∧ i < Q'.length ∧ (∀ j, j < i + 1 → Prc W H T t S' (Q'.getD j 0)) ∧ Gc 14 r.2 (invA W H T mk ck false (gr W H T 24).cnt t S' Q' (i + 1 : Nat)) := by
  have hcl := (cnt_le hg.gr).2
  have hv := hb.rng ha (getD_mem hi)
  have la := ref_len (n := Q.getD i 0) hg
  have ent : Gc 22 (ups (codeS (sub [0, 0, 0, 0, 0] (tA W H T mk ck false (gr W H T 24).cnt t S Q i))) 22) (invI W H T mk ck false (gr W H T 24).cnt t S Q i (refN W H T 24 (Q.getD (0 + (i : Int).toNat) 0)) 0) :=
    entA_sound (roots := [(.slot 14, 22)]) (keep := [6, 7, 8, 9, 10, 13, 14, 15, 16, 17]) (drop := [0, 2, 3, 4, 5, 6, 7, 8, 9, 10, 11, 13, 15, 16, 17, 18, 19, 20, 21]) (nx := 23) (h := .nil) (by kernel_rfl)
  rw [show 0 + (i : Int).toNat = i by omega] at ent
  have hL : ∀ j, j < (refN W H T 24 (Q.getD i 0)).length → (0 ≤ (refN W H T 24 (Q.getD i 0)).getD j 0 ∧ (refN W H T 24 (Q.getD i 0)).getD j 0 < (gr W H T 24).cnt) := fun j hj => (mem_refN.1 (getD_mem hj)).2.1
  have hfin : ∀ (S' : Nat → Bool) (Q' : List Int), Q'.getD i 0 = Q.getD i 0 → (∀ j, j < (refN W H T 24 (Q.getD i 0)).length → (gK W H T 24 ((refN W H T 24 (Q.getD i 0)).getD j 0) = 4 ∨ gK W H T 24 ((refN W H T 24 (Q.getD i 0)).getD j 0) = 5 → gI W H T 24 ((refN W H T 24 (Q.getD i 0)).getD j 0) = t) → S' ((refN W H T 24 (Q.getD i 0)).getD j 0).toNat = true) → Prc W H T t S' (Q'.getD i 0) := by
    intro S' Q' e h b hm hw
    rw [e] at hm
    obtain ⟨j, hj, e2⟩ := List.getElem_of_mem hm
    have e3 : (refN W H T 24 (Q.getD i 0)).getD j 0 = b := by rw [List.getD_eq_getElem?_getD, List.getElem?_eq_getElem hj]; exact e2
    have := h j hj
    rw [e3] at this
    exact this hw
  generalize hLd : refN W H T 24 (Q.getD i 0) = L at *
  generalize (gr W H T 24).cnt = n at *
  refine code_satS CN_ok DN_ok (n := 200) (n0 := 22) (nx := 23) (roots := [(.slot 14, 22)]) (keep := [6, 7, 8, 9, 10, 13, 14, 15, 16, 17]) (drop := [0, 2, 3, 4, 5, 6, 7, 8, 9, 10, 11, 13, 15, 16, 17, 18, 19, 20, 21]) (h := .nil) (body := bodyI) (by kernel_rfl) (by kernel_rfl)
    (fun q s => ∃ (j : Nat) (S' : Nat → Bool) (Q' : List Int), q = L.length - j ∧ j ≤ L.length ∧ RB a n S' Q' ∧ i < Q'.length ∧ Q'.getD i 0 = Q.getD i 0 ∧ (∀ k, k < i → Prc W H T t S' (Q'.getD k 0)) ∧
      (∀ k, k < j → (gK W H T 24 (L.getD k 0) = 4 ∨ gK W H T 24 (L.getD k 0) = 5 → gI W H T 24 (L.getD k 0) = t) → S' (L.getD k 0).toNat = true) ∧ s = invI W H T mk ck false n t S' Q' i L j)
    (fun e s => e = .exit 2 ∧ ∃ (y : Int) (S' : Nat → Bool) (Q' : List Int), RB a n S' Q' ∧ i < Q'.length ∧ (∀ k, k < i + 1 → Prc W H T t S' (Q'.getD k 0)) ∧ s = invI W H T mk ck false n t S' Q' i L y)
    ⟨_, _, ⟨0, S, Q, rfl, by omega, hb, hi, rfl, hp, fun k hk => by omega, rfl⟩, ent⟩ ?_ ?_
  · rintro q s ⟨j, S', Q', rfl, hj, hb', hi', hq', hp', hs', rfl⟩
    refine Sat.of_eq (BI_eq W H T mk ck false n t S' Q' i L j) ?_
    constructor; unfold BI
    refine ⟨fun h1 => ?_, fun h1 => ?_⟩
    · simp only [decide_eq_true_eq] at h1
      have h1 : j < L.length := by omega
      obtain ⟨c1, c2⟩ := hL j h1
      have e1 : (BI_q1 L (j : Int) || decide (L.getD (j : Int).toNat 0 ≥ (n : Int))) = false := by
        unfold BI_q1
        rw [Int.toNat_natCast, Bool.or_eq_false_iff, decide_eq_false_iff_not, decide_eq_false_iff_not]
        omega
      rw [e1]
      have hlen := hb'.len
      have hw : w64 ((j : Int) + 1) = ((j + 1 : Nat) : Int) := by rw [w64_of (by omega) (by omega)]; omega
      have e5 : ∀ a2, BI_q5 S' L (j : Int) a2 0 = .x (.bool (upS S' (L.getD j 0).toNat a2)) := fun a2 => by
        rw [← up_cell]; rfl
      simp only [Int.toNat_natCast, Nat.zero_add]
      rw [hw]
      refine ⟨by omega, fun _ => by omega, ⟨(fun h => by cases h), fun _ => ⟨by omega, hg, ⟨by omega, by omega⟩, by omega, ⟨by omega, by omega⟩, by omega, fun h2 => ⟨by omega, ⟨by omega, by omega⟩, by omega, by omega, ⟨by omega, by omega, by omega⟩, ?_⟩, fun h2 => ?_⟩⟩⟩
      · simp only [Bool.and_eq_true, Bool.not_eq_true'] at h2
        refine ⟨L.length - (j + 1), _, by omega, ⟨j + 1, upS S' (L.getD j 0).toNat, Q' ++ [L.getD j 0], rfl, by omega, hb'.add ⟨c1, c2⟩ h2.1, by rw [List.length_append]; omega, by rw [getD_app hi', hq'], fun k hk => by rw [getD_app (by omega)]; exact (hp' k hk).up _, fun k hk hc => ?_, rfl⟩, ?_⟩
        · by_cases hkj : k = j
          · subst hkj; unfold upS; simp
          · unfold upS; rw [hs' k (by omega) hc]; simp
        · refine gc_hp (by rw [List.length_append]; rfl) rfl ⟨.inl rfl, .inr ⟨_, _, rfl, rfl, .refl _⟩, .inl rfl, .inl rfl, .inl rfl, .inl rfl, .inl rfl, .inl rfl, .inl rfl, .inl rfl, .inl rfl, .inl rfl, .inr ⟨_, _, rfl, rfl, .row fun i j hi hj => ?_⟩, .inl rfl, .inl rfl, .inl rfl, .inl rfl, .inl rfl, .inl rfl, .inl rfl, .inl rfl, .inl rfl, .inr ⟨_, _, rfl, rfl, lB_app fun i hi => ?_⟩, trivial⟩
          · obtain rfl : j = 0 := by omega
            exact e5 i
          · unfold BI_q6
            rw [Int.toNat_natCast]
            exact app_sel Q' _ i hi
      · refine ⟨L.length - (j + 1), _, by omega, ⟨j + 1, S', Q', rfl, by omega, hb', hi', hq', hp', fun k hk hc => ?_, rfl⟩, Gc.refl _ _⟩
        by_cases hkj : k = j
        · subst hkj
          cases hS : S' (L.getD k 0).toNat with
          | true => rfl
          | false =>
            rw [hS] at h2
            simp only [Bool.not_false, Bool.true_and, Bool.or_eq_false_iff, Bool.and_eq_false_iff, bne_eq_false_iff_eq, beq_eq_false_iff_ne, ne_eq] at h2
            exact absurd (hc h2.1) h2.2
        · exact hs' k (by omega) hc
    · simp only [decide_eq_false_iff_not] at h1
      obtain rfl : j = L.length := by omega
      refine ⟨_, ⟨rfl, _, S', Q', hb', hi', fun k hk => ?_, rfl⟩, Gc.refl _ _⟩
      by_cases hki : k = i
      · subst hki; exact hfin S' Q' hq' hs'
      · exact hp' k (by omega)
  · rintro e s ⟨rfl, y, S', Q', hb', hi', hp', rfl⟩
    have hlen := hb'.len
    refine Sat.of_eq (KI_eq W H T mk ck false n t S Q i S' Q' L y) ⟨?_⟩
    refine ⟨rfl, S', Q', hb', hi', hp', ?_⟩
    show Gc 14 ⟨_, _, _, _⟩ _
    have hw : w64 ((i : Int) + 1) = ((i + 1 : Nat) : Int) := by rw [w64_of (by omega) (by omega)]; omega
    rw [hw]
    exact Gc.refl _ _
end Go.Proofs.YtgahnelicbddcaaGreatDoor

/- ChipReach: the law. -/
namespace Go.Proofs.YtgahnelicbddcaaGreatDoor
open Go.Sx
set_option maxRecDepth 100000
theorem law8c {w h t p : Int} {m : Nat} {f : Nat → Nat → DV} {k tr : Int} {W H T t2 : Int} {mk : Nat} {ck : Nat → Nat → DV} {S : Nat → Bool} {Q : List Int} {z : Int} (hg : okG W H T 24)
    (hS : ∀ b : Int, 0 ≤ b → b < (gr W H T 24).cnt → gK W H T 24 b = 3 ∨ gK W H T 24 b = 7 → S b.toNat = true) : Sat Tryz.prog (tC w h t p m f k tr W H T mk ck false (gr W H T 24).cnt t2 S Q z) (· = bv true) := by
  constructor
  rw [KA_eq]; unfold KA
  have hcl := (cnt_le hg.gr).2
  generalize (gr W H T 24).cnt = n at *
  refine code_satS CN_ok DN_ok (n := 200) (n0 := 15) (nx := 15) (roots := []) (keep := [6, 7, 8, 9, 13, 19]) (drop := [0, 2, 3, 4, 5, 6, 7, 8, 9, 10, 11, 13, 14]) (h := .nil) (body := bodyC) (by kernel_rfl) (by kernel_rfl)
    (fun q s => ∃ j : Nat, q = n - j ∧ j ≤ n ∧ s = invC W H T mk ck false n S j)
    (fun e s => e = .exit 4 ∧ ∃ j : Int, s = invC W H T mk ck false n S j)
    ⟨_, _, ⟨0, rfl, by omega, rfl⟩, ?_⟩ ?_ ?_
  · exact entA_sound (roots := []) (keep := [6, 7, 8, 9, 13, 19]) (drop := [0, 2, 3, 4, 5, 6, 7, 8, 9, 10, 11, 13, 14]) (nx := 15) (h := .nil) (by kernel_rfl)
  · rintro q s ⟨j, rfl, hj, rfl⟩
    refine Sat.of_eq (BC_eq W H T mk ck false n S j) ?_
    constructor; unfold BC
    refine ⟨fun h1 => ?_, fun h1 => ?_⟩
    · simp only [decide_eq_true_eq] at h1
      have hw : w64 ((j : Int) + 1) = ((j + 1 : Nat) : Int) := by rw [w64_of (by omega) (by omega)]; omega
      simp only [Int.toNat_natCast, Nat.zero_add]
      rw [hw]
      refine ⟨hg, ⟨by omega, by omega⟩, fun _ => ⟨by omega, by omega⟩, fun _ => by omega, fun h2 => ?_, fun _ => ?_⟩
      · exfalso
        unfold BC_q1 at h2
        simp only [Bool.and_eq_true, Bool.or_eq_true, beq_iff_eq, Bool.not_eq_true'] at h2
        have := hS j (by omega) (by omega) h2.1
        rw [Int.toNat_natCast, h2.2] at this; cases this
      · exact ⟨n - (j + 1), _, by omega, ⟨j + 1, rfl, by omega, rfl⟩, Gc.refl _ _⟩
    · exact ⟨_, ⟨rfl, _, rfl⟩, Gc.refl _ _⟩
  · rintro e s ⟨rfl, j, rfl⟩
    exact Sat.of_eq (KC_eq w h t p m f k tr W H T mk ck false n t2 S Q z j) ⟨rfl⟩
theorem tC_eq (w h t p : Int) (m : Nat) (f : Nat → Nat → DV) (k tr : Int) (W H T : Int) (mk : Nat) (ck : Nat → Nat → DV) (r : Bool) (n : Nat) (t2 : Int) (S : Nat → Bool) (Q : List Int) (z : Int) : codeK (sub [1, 0, 0, 0, 0, 1, 0, 0, 0, 1, 0] (tL8 w h t p m f k tr)) (.exit 0) (invA W H T mk ck r n t2 S Q z) = tC w h t p m f k tr W H T mk ck r n t2 S Q z := rfl
theorem law8 {w h t p : Int} {m : Nat} {f : Nat → Nat → DV} {k tr : Int} (hr : RawOK w h t p m f) (hk : 0 ≤ k ∧ k < 65536) (htr : 0 ≤ tr ∧ tr < 256) : Sat Tryz.prog (tL8 w h t p m f k tr) (· = bv true) := by
  refine Sat.of_eq (L8T_eq w h t p m f k tr) ⟨?_⟩
  have hg := md_okG hr
  have ent : Gc 14 (ups (codeS (sub [1, 0, 0, 0, 0, 1, 0, 0, 0, 1, 0] (tL8 w h t p m f k tr))) 14)
      ⟨List.replicate 6 .unk ++ [.ok (bv false), .ok (bv true), .ok (.ptr 1 0), .ok (iv (gN (anN 2 4 w) (anN 2 4 h) (anN 2 3 t) 24)), .ok (iv (Int.tmod (w64 tr) (anN 2 3 t))), .unk, .unk, .ok (.row 12 0 0 (gN (anN 2 4 w) (anN 2 4 h) (anN 2 3 t) 24).toNat 1), .ok (.row 14 0 0 1 1), .ok (iv 0)] ++ List.replicate 149 .unk,
       [none, some (.cells [iv (anN 2 4 w), iv (anN 2 4 h), iv (anN 2 3 t), iv 24, .d (.ro (anK 2 4 w h m f).length 1 (cellI (anK 2 4 w h m f)))])] ++ List.replicate 10 none ++ [some (.row (gN (anN 2 4 w) (anN 2 4 h) (anN 2 3 t) 24).toNat 1 fun _ j => ([DV.x (.bool false)] : List DV).getD j (.x undef)), none, some (.cells [iv (Int.tmod (w64 k) (gN (anN 2 4 w) (anN 2 4 h) (anN 2 3 t) 24))])], 15, .nil⟩ :=
    entA_sound (roots := [(.slot 14, 14)]) (keep := [6, 7, 8, 9, 10, 13, 14, 15]) (drop := [0, 2, 3, 4, 5, 6, 7, 8, 9, 10, 11]) (nx := 15) (h := .nil) (by kernel_rfl)
  unfold L8T
  generalize (anK 2 4 w h m f).length = mk at *
  generalize cellI (anK 2 4 w h m f) = ck at *
  generalize anN 2 4 w = W at *
  generalize anN 2 4 h = H at *
  generalize anN 2 3 t = T at *
  have hN := cnt_pos hg
  have hT := hg.2.2.1
  rw [w64_of (n := k) (by omega) (by omega)] at *
  rw [w64_of (n := tr) (by omega) (by omega)] at *
  have ha0 : 0 ≤ Int.tmod k (gN W H T 24) := Int.tmod_nonneg _ hk.1
  have ha1 : Int.tmod k (gN W H T 24) < gN W H T 24 := Int.tmod_lt_of_pos _ (by omega)
  generalize Int.tmod k (gN W H T 24) = a at *
  have ht0 : 0 ≤ Int.tmod tr T := Int.tmod_nonneg _ htr.1
  have ht1 : Int.tmod tr T < T := Int.tmod_lt_of_pos _ (by omega)
  generalize Int.tmod tr T = t2 at *
  have hc : gN W H T 24 = ((gr W H T 24).cnt : Int) := rfl
  have hf := (ndF hg ha0 (by omega)).ok
  have e0 : (gN W H T 24 != gN W H T 24) = false := by simp
  rw [e0]
  refine ⟨fun h => (by cases h), fun _ => ⟨hr, hg, by omega, hg, ⟨(fun h => by cases h), fun _ => ⟨by omega, hg, ⟨by omega, by omega⟩, fun h1 => ?_, fun h1 => ⟨⟨by omega, by omega, by omega⟩, ?_⟩⟩⟩⟩⟩
  · show bv _ = bv true
    rw [decide_eq_true (by omega : gK W H T 24 a > 0)]; rfl
  have hka : gK W H T 24 a = 1 ∨ gK W H T 24 a = 2 ∨ gK W H T 24 a = 6 := by
    simp only [Bool.and_eq_false_iff, bne_eq_false_iff_eq] at h1
    omega
  rw [hc, Int.toNat_natCast] at ent
  have han : 0 ≤ a ∧ a < (gr W H T 24).cnt := ⟨ha0, by omega⟩
  have hcl := (cnt_le hg.gr).2
  refine code_satS CN_ok DN_ok (n := 200) (n0 := 14) (nx := 15) (roots := [(.slot 14, 14)]) (keep := [6, 7, 8, 9, 10, 13, 14, 15]) (drop := [0, 2, 3, 4, 5, 6, 7, 8, 9, 10, 11, 13]) (h := .nil) (body := bodyA) (by kernel_rfl) (by kernel_rfl)
    (fun q s => ∃ (j : Nat) (S : Nat → Bool) (Q : List Int), q = (gr W H T 24).cnt + 1 - j ∧ j ≤ Q.length ∧ RB a (gr W H T 24).cnt S Q ∧ (∀ i, i < j → Prc W H T t2 S (Q.getD i 0)) ∧ s = invA W H T mk ck false (gr W H T 24).cnt t2 S Q j)
    (fun e s => e = .exit 0 ∧ ∃ (z : Int) (S : Nat → Bool) (Q : List Int), (∀ b : Int, 0 ≤ b → b < (gr W H T 24).cnt → gK W H T 24 b = 3 ∨ gK W H T 24 b = 7 → S b.toNat = true) ∧ s = invA W H T mk ck false (gr W H T 24).cnt t2 S Q z)
    ⟨_, _, ⟨0, fun _ => false, [a], rfl, by omega, RB.first, fun i hi => by omega, rfl⟩, ?_⟩ ?_ ?_
  · refine ent.trans ?_
    refine gc_hp rfl rfl ⟨.inl rfl, .inr ⟨_, _, rfl, rfl, .refl _⟩, .inl rfl, .inl rfl, .inl rfl, .inl rfl, .inl rfl, .inl rfl, .inl rfl, .inl rfl, .inl rfl, .inl rfl, .inr ⟨_, _, rfl, rfl, .row fun i j hi hj => ?_⟩, .inl rfl, .inr ⟨_, _, rfl, rfl, .cells rfl fun i j hi hj => ?_⟩, trivial⟩
    · obtain rfl : j = 0 := by omega
      rfl
    · obtain rfl : j = 0 := by omega
      have hi : i < 1 := hi
      obtain rfl : i = 0 := by omega
      rfl
  · rintro q s ⟨j, S, Q, rfl, hj, hb, hp, rfl⟩
    have hlen := hb.len
    refine Sat.of_eq (BA_eq W H T mk ck false (gr W H T 24).cnt t2 S Q j) ?_
    constructor; unfold BA
    refine ⟨fun h2 => ?_, fun h2 => ?_⟩
    · simp only [decide_eq_true_eq] at h2
      have h2 : j < Q.length := by omega
      have hv := hb.rng han (getD_mem h2)
      rw [Int.toNat_natCast, Nat.zero_add]
      refine ⟨by omega, by omega, hg, ⟨by omega, by omega⟩, ?_⟩
      refine Tree.sat_mono (fun r hr => ?_) (inner hg han hb h2 hp)
      obtain ⟨e1, S', Q', hb', hl', hp', hgc⟩ := hr
      obtain ⟨ex, st⟩ := r
      subst e1
      exact ⟨(gr W H T 24).cnt + 1 - (j + 1), _, by omega, ⟨j + 1, S', Q', rfl, by omega, hb', hp', rfl⟩, hgc⟩
    · simp only [decide_eq_false_iff_not] at h2
      obtain rfl : j = Q.length := by omega
      exact ⟨_, ⟨rfl, _, S, Q, fun b h0 h3 h4 => reach_fin hg han hka ⟨ht0, ht1⟩ hb hp h0 h3 h4, rfl⟩, Gc.refl _ _⟩
  · rintro e s ⟨rfl, z, S, Q, hS, rfl⟩
    exact Sat.of_eq (tC_eq w h t p m f k tr W H T mk ck false (gr W H T 24).cnt t2 S Q z) (law8c hg hS)
end Go.Proofs.YtgahnelicbddcaaGreatDoor

/- ChipReach: the law's contract. -/
namespace Go.Proofs.YtgahnelicbddcaaGreatDoor
open Go.Sx
set_option maxRecDepth 100000
theorem u8_arg {ds : List DV} (h : okT Tryz.prog 6 5 ds) : ∃ v : Int, (0 ≤ v ∧ v < 256) ∧ svT Tryz.prog 5 ds = u8V v := by
  obtain ⟨v, hv, rfl⟩ := byte_arg (n := 5) h
  refine ⟨v, hv, ?_⟩
  unfold svT; rw [u5]; rfl
theorem chipReach_ok : ∃ c : Ctr, CtrOK Tryz.prog 8 c ∧ ∀ ss, okArgs Tryz.prog 6 [24, 25, 5] ss → (c ss).ev (bv true) := by
  refine law_ctr CN_ok DN_ok (by kernel_rfl) (by kernel_rfl) fun ss h => ?_
  obtain ⟨d1, r1, rfl, k1, d2, r2, rfl, k2, d3, r3, rfl, k3, rfl⟩ := h
  obtain ⟨w, h, t, p, m, f, hr, e1⟩ := raw_arg k1
  obtain ⟨k, hk, e2⟩ := u16_arg k2
  obtain ⟨tr, htr, e3⟩ := u8_arg k3
  rw [e1, e2, e3]
  exact ⟨200, .nil, law8 hr hk htr⟩
end Go.Proofs.YtgahnelicbddcaaGreatDoor

namespace Go.Proofs.YtgahnelicbddcaaGreatDoor
open Go.Sx
set_option maxRecDepth 100000

/-! ### What the row's list of variables gives -/

def laid5 : List (String × DataW Unit) := [("math/bits.deBruijn32tab", Rows.laid_math_bits_deBruijn32tab), ("math/bits.deBruijn64tab", Rows.laid_math_bits_deBruijn64tab), ("internal/strconv.uint64pow10", Rows.laid_internal_strconv_uint64pow10), ("unicode/utf8.acceptRanges", Rows.laid_unicode_utf8_acceptRanges), ("strconv.ErrRange", Rows.laid_strconv_ErrRange), ("strconv.ErrSyntax", Rows.laid_strconv_ErrSyntax), ("unicode/utf8.first", Rows.laid_unicode_utf8_first)]
theorem glPow : Tryz.prog.globalNamed "internal/strconv.uint64pow10" = some 1 := by kernel_rfl
theorem glSyn : Tryz.prog.globalNamed "strconv.ErrSyntax" = some 2 := by kernel_rfl
theorem glRng : Tryz.prog.globalNamed "strconv.ErrRange" = some 3 := by kernel_rfl
theorem plain5 : (laid5.all fun x => x.2.handleName?.isNone) = true := by kernel_rfl
theorem var_obj {w : World} {name : String} {g : Nat} {cs : Array Value} (hg : Tryz.prog.globalNamed name = some g) (h : w.var? Tryz.prog name = some cs) : ∃ e fr, w.heap[g]? = some (.cells cs e fr) := by
  unfold World.var? at h
  rw [hg] at h
  simp only [Option.bind_some] at h
  split at h
  · rename_i c e fr heq
    simp only [Option.some.injEq] at h; subst h
    exact ⟨e, fr, heq⟩
  · cases h
theorem typePow : (Tryz.prog.globals[1]?).map (·.type) = some 168 := by kernel_rfl
theorem typeSyn : (Tryz.prog.globals[2]?).map (·.type) = some 82 := by kernel_rfl
theorem typeRng : (Tryz.prog.globals[3]?).map (·.type) = some 82 := by kernel_rfl
theorem star : "*" ++ "errors.errorString" = "*errors.errorString" := by decide
theorem rowErr (u : TypeId) (h : Tryz.prog.typeName? 3 u = some "*errors.errorString") : u = 187 :=
  typeName_ptr_named (nm := "errors.errorString") (by rw [star]; kernel_rfl) (by kernel_rfl) (by decide) u (by rw [star]; exact h)

theorem glob_of {W : World} (h : laidMetH Tryz.prog laid5 W) (hs : W.ShapedOpen Tryz.prog) : GlobOK W (fun b => b < W.heap.size) := by
  rw [MakeChecks.laidMetH_plain _ _ _ plain5] at h
  have h2 : laidMet Tryz.prog [("internal/strconv.uint64pow10", Lib.tabData .u64 Lib.pow10Tab), ("unicode/utf8.acceptRanges", Rows.laid_unicode_utf8_acceptRanges), ("strconv.ErrRange", Rows.laid_strconv_ErrRange), ("strconv.ErrSyntax", Rows.laid_strconv_ErrSyntax), ("unicode/utf8.first", Rows.laid_unicode_utf8_first)] W := h.tail.tail
  have ht := Lib.tabIs_of_head glPow typePow Tryz.underlying168 Tryz.underlying147 (by kernel_rfl) (by kernel_rfl) h2
  obtain ⟨a0, s0, hv0, -, -, -⟩ := laid_sentinel h2.tail.tail glRng typeRng Tryz.underlying82 rowErr Tryz.underlying187 Tryz.underlying189 rfl rfl Tryz.underlying9 (by kernel_rfl) (by kernel_rfl)
  obtain ⟨a1, s1, hv1, -, -, -⟩ := laid_sentinel h2.tail.tail.tail glSyn typeSyn Tryz.underlying82 rowErr Tryz.underlying187 Tryz.underlying189 rfl rfl Tryz.underlying9 (by kernel_rfl) (by kernel_rfl)
  obtain ⟨m, hm⟩ := cell_of_shapedOpen_int (g := 0) (t := 3) (zero := #[.int .i64 0]) (k := .i64) hs (of_decide_eq_true (by kernel_rfl)) (by kernel_rfl) rfl (by kernel_rfl) (by kernel_rfl) Tryz.underlying3
  have k1 : okTab Lib.pow10Tab W.heap[1]? := by
    obtain ⟨e, fr, hh⟩ := var_obj glPow ht
    exact ⟨e, fr, hh⟩
  have k2 : okErr W.heap[2]? := by
    obtain ⟨e, fr, hh⟩ := var_obj glSyn hv1
    exact ⟨_, e, fr, _, _, hh, rfl⟩
  have k3 : okErr W.heap[3]? := by
    obtain ⟨e, fr, hh⟩ := var_obj glRng hv0
    exact ⟨_, e, fr, _, _, hh, rfl⟩
  have k4 : okInt W.heap[0]? := cell_okInt hm
  have lt : ∀ {g : Nat} {o : Obj}, W.heap[g]? = some o → g < W.heap.size := fun hh => (Array.getElem?_eq_some_iff.1 hh).1
  refine ⟨fun g n cell hg => (by cases hg), fun g Q hg => ?_⟩
  match g, hg with
  | 1, hg => cases hg; exact ⟨by obtain ⟨e, fr, hh⟩ := k1; exact lt hh, k1⟩
  | 0, hg => cases hg; exact ⟨by obtain ⟨c, e, fr, m, hh, _⟩ := k4; exact lt hh, k4⟩
  | 2, hg => cases hg; exact ⟨by obtain ⟨c, e, fr, t, p, hh, _⟩ := k2; exact lt hh, k2⟩
  | 3, hg => cases hg; exact ⟨by obtain ⟨c, e, fr, t, p, hh, _⟩ := k3; exact lt hh, k3⟩

end Go.Proofs.YtgahnelicbddcaaGreatDoor

namespace Go.Proofs.YtgahnelicbddcaaGreatDoor
open Go.ChangeShapes Go.WideShapes Go.ChangeAt Go.RowKit Go.Sx

theorem own : ownKnob Tryz.prog.godebug = none := by kernel_rfl
theorem laidOut : laidOutB Tryz.prog = true := by kernel_rfl

set_option maxRecDepth 100000 in
theorem lifted (os : Os) (started : os.Started) (H : Type) (enc : TypeId × Value → H) :
    ReturnsInHanded {} Tryz.checked os 8 .any (fun w args => (Rows.chipReachSpec.pre enc Tryz.prog Tryz.f8 Rows.chipReachRow.domain false w args ∧ laidMetH Tryz.prog laid5 w) ∧ sizedMet enc Tryz.prog Tryz.f8 (OpenSpec.ofChange Rows.chipReachSpec) false w args)
      (Rows.chipReachSpec.post enc Tryz.prog Tryz.f8 false true false false) := by
  refine returnsInHanded_of_change_ands (C := Tryz.checked) (X := fun w _ => laidMetH Tryz.prog laid5 w) (fun _ _ _ hh h => h.of_heap hh) own started (by kernel_rfl) Tryz.func8
    (ChangeSpec.witness_shaped (enc := enc) (C := Tryz.checked) (os := os) (X := fun w _ => laidMetH Tryz.prog laid5 w) false (World.laidAll Tryz.prog os laid5) #[.agg #[.int .u8 0, .int .u8 0, .int .u8 0, .int .u8 0, .slice none 0 0], .int .u16 0, .int .u8 0] 8 (World.laidAll_os _ _ _) (World.shaped_of_ZipB (by kernel_rfl) (by kernel_rfl)) (by kernel_rfl) (by kernel_rfl) (by kernel_rfl) (by rw [MakeChecks.laidMetH_plain _ _ _ (by kernel_rfl)]; exact laidMet_laidAll _ (by kernel_rfl) (by kernel_rfl))) ?_
  intro W base args ds gs before hval0 hW hcnd _ hL hsh _
  have hval : ∀ (j : Nat) t v, Tryz.f8.params[j]? = some t → args[j]? = some v → Value.okWide Tryz.prog W .any base t v := hval0
  have hW' := hW
  obtain ⟨p, q, hA0, hV, rfl, hfz, hnd⟩ := hW
  have hA : DataW.TrodAll enc Tryz.prog W 0 (fun _ => true) true Tryz.f8.params.toList args.toList ds p := hA0
  rw [Tryz.params8] at hA hval
  obtain ⟨rfl, rfl⟩ := trodVars_none hV
  obtain ⟨v0, vs0, d0, ds0, p0, q0, hargs, rfl, e0, h0, r0⟩ := trodAll_cons hA
  obtain ⟨v1, vs1, d1, ds1, p1, q1, e1_1, rfl, e2_1, h1, r1⟩ := trodAll_cons r0
  obtain ⟨v2, vs2, d2, ds2, p2, q2, e1_2, rfl, e2_2, h2, r2⟩ := trodAll_cons r1
  obtain ⟨e3, rfl, e4⟩ := trodAll_nil r2
  obtain ⟨c, hc, hev⟩ := chipReach_ok
  have hlt := trodAll_lt hA
  obtain ⟨ss, o1, o2, o3⟩ := open_args (F := fun b => b < W.heap.size) (n := 6) (r := .any) (base := base) (by kernel_rfl) hA (fun j t v a b => hval j t v (by simpa using a) (by simpa using b)) (fun q hq => hlt q hq)
  refine (law_of hc (F := fun b => b < W.heap.size) (fun b hb => hb) (glob_of hL hsh) (ss := ss) ⟨by simpa using o2, fun i hi => by simpa [List.getD, Array.getD_eq_getD_getElem?] using o3 i hi⟩ (hev ss o1)).mono fun e W' ⟨he, bel⟩ => ?_
  subst he
  have hback := trodAll_below laidOut bel (by kernel_rfl) hA
  exact ⟨_, rfl, _, _, _, [], _, [], hW', trodAll_mk1 (shut_bool Tryz.underlying4 _), hback, rfl, bel.frame _, fun h => by cases h⟩

theorem over : Rows.chipReachRow.holds Tryz.pinned (OpenSpec.ofChange Rows.chipReachSpec) :=
  OpenClaim.holds_of_wide 8 Tryz.f8 rfl rfl rfl rfl rfl rfl rfl ⟨rfl, rfl, rfl, rfl, rfl⟩ rfl rfl rfl rfl rfl (by kernel_rfl) Tryz.func8 (by kernel_rfl)
    (of_decide_eq_true (by kernel_rfl)) (by unfold Func.isWrapper; first | (rw [if_pos (by decide +kernel)]; kernel_rfl) | (rw [if_neg (by decide +kernel)]; exact ⟨rfl, rfl⟩))
    (fun os started H enc _ => lifted os started H enc)

theorem chipReach_holds : Rows.ChipReachCardSaid :=
  Claim7.holds_tied_plain_at .later [] [.data, .data, .data, .data, .sentinel, .sentinel, .pinned] true (true, "852957a0fd3a95ff81f08367dbb2fe76ca4ada6cce9636746d3b1b7e667c6a4c") true
    over (fun _ h => by cases h) (by kernel_rfl) (fun _ h => by cases h) chipReach_row_tie rfl ⟨rfl, rfl⟩ (by kernel_rfl) rfl
    (fun f fn hf hfn => by
      obtain rfl : f = 8 := Option.some.inj ((show Tryz.prog.funcNamed "wireloom/wireloomlaw28.ChipReach" = some 8 by kernel_rfl).symm.trans hf) |>.symm
      obtain rfl : fn = Tryz.f8 := (Option.some.inj (Tryz.func8.symm.trans hfn)).symm
      exact ⟨by kernel_rfl, fun j t ht => by
        rw [Tryz.params8] at ht
        have hm : t ∈ [24, 25, 5] := by simpa using Array.mem_of_getElem? ht
        have hall : ([24, 25, 5].all fun u => !Tryz.prog.wantsStandIn u) = true := by kernel_rfl
        exact (show Tryz.prog.wantsStandIn t = false by simpa using List.all_eq_true.1 hall t hm)⟩)
    (by kernel_rfl)
#print axioms chipReach_holds
end Go.Proofs.YtgahnelicbddcaaGreatDoor

