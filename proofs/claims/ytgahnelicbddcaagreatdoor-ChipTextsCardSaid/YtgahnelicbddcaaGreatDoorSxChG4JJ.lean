/- Part of a proof of the given statements of this seat (SxChRw, SxChRx, SxChRy, SxChRz, SxChSa, SxChSb, SxChSc, SxChSd, SxChSe, SxChSf, SxChSg, SxChSh, SxChSi, SxChSj, SxChLt4, SxChGl, SxChG4J): no conditions beyond those typed here. -/
import Derived.Test.YtgahnelicbddcaaGreatDoorSz17
import Derived.Test.YtgahnelicbddcaaGreatDoorSz16
import Derived.Test.YtgahnelicbddcaaGreatDoorSz04
import Derived.Lib.LaidTab
import Derived.Stop.LaidErr
import Derived.Shelf.Vars
import Derived.MakeChecks
import Derived.Test.YtgahnelicbddcaaGreatDoorRows
import Derived.Test.YtgahnelicbddcaaGreatDoorChecked
import Derived.Test.YtgahnelicbddcaaGreatDoorCards
import Derived.Test.YtgahnelicbddcaaGreatDoorTie
import Derived.SevenTiedAt
import Derived.Lay
set_option linter.unusedVariables false
set_option linter.unusedSimpArgs false
set_option linter.unusedSectionVars false

namespace Go.Proofs.YtgahnelicbddcaaGreatDoor
open Go.Sx
set_option maxRecDepth 100000
noncomputable def invPr (s : List UInt8) (n : Nat) (C : Nat → List UInt8) (E : List Int) (W H T P : Int) (K : List Int) (y : Int) (u : List UInt8) (q : Nat) : AS := ⟨[.ok (strV s), .unk, .ok (.ptr 0 0), .ok (iv 0), .ok (strC n C), .ok (ivL E), .ok (.ptr 15 0)] ++ List.replicate 74 .unk ++ [.ok (iv H), .ok (iv y)] ++ List.replicate 10 .unk ++ [.ok (.ptr 18 0)] ++ List.replicate 43 .unk, [some (.cells [iv 0, iv 0, iv 0, iv 0, nilD, nilD])] ++ List.replicate 14 none ++ [some (.cells [iv W, iv H, iv T, iv P, .row 19 0 0 K.length 1, nilD]), none, none, some (.iter (strB u) q), some (lB K)], 20, .nil⟩
noncomputable def bodyPr : Code := loopN (bodyOf Tryz.prog 46) 1
noncomputable def BPr_q1 (C : Nat → List UInt8) (i : Nat) (x : Nat) : DV :=
  DV.x (.string (strB (C i)))
noncomputable def BPr_q2 (E : List Int) (i : Nat) (x : Nat) : DV :=
  DV.x (.int .i64 (List.getD E i (0 : Int)))
noncomputable def BPr_q3 (K : List Int) (u : List UInt8) (q : Nat) (a : Nat) (b : Nat) : DV :=
  selD (decide (a < List.length K)) (DV.x (.int .i64 (List.getD K (0 + a) (0 : Int))))
  (dsAt [DV.x (.int .i64 (kindR (↑(Prod.fst (Utf8.decode (strB u) q)) : Int)))] (0 + (0 + (a - List.length K)) * 1 + b))
noncomputable def BPr_q4 (K : List Int) (i : Nat) (x : Nat) : DV :=
  DV.x (.int .i64 (List.getD K i (0 : Int)))
noncomputable def BPr (s : List UInt8) (n : Nat) (C : Nat → List UInt8) (E : List Int) (W H T P : Int) (K : List Int) (y : Int) (u : List UInt8) (q : Nat) : Tree (Ex × AS) :=
  .ite (decide (q < ByteArray.size (strB u)))
  (.ite true
   (.need (LetS { data := #[(46 : UInt8), (76 : UInt8), (77 : UInt8)] } ∧ RuneOK (↑(Prod.fst (Utf8.decode (strB u) q)) : Int))
   (.need (0 + List.length K ≤ List.length K ∧ 1 ≤ 1 ∧ (List.length K + 1) * 8 ≤ 140737488355328)
   (.ret
   (.normal,
   {
   tm :=
   [.ok (SV.d (DV.x (.string (strB s)))), .unk, .ok (SV.ptr 0 0), .ok (iv (0 : Int)), .ok (SV.d (DV.ro n 1 (BPr_q1 C))),
   .ok (SV.d (DV.ro (List.length E) 1 (BPr_q2 E))), .ok (SV.ptr 15 0), .unk, .unk, .unk, .unk, .unk, .unk, .unk, .unk, .unk, .unk, .unk, .unk, .unk,
   .unk, .unk, .unk, .unk, .unk, .unk, .unk, .unk, .unk, .unk, .unk, .unk, .unk, .unk, .unk, .unk, .unk, .unk, .unk, .unk, .unk, .unk, .unk, .unk, .unk, .unk, .unk,
   .unk, .unk, .unk, .unk, .unk, .unk, .unk, .unk, .unk, .unk, .unk, .unk, .unk, .unk, .unk, .unk, .unk, .unk, .unk, .unk, .unk, .unk, .unk, .unk, .unk, .unk, .unk,
   .unk, .unk, .unk, .unk, .unk, .unk, .unk, .ok (iv H), .ok (iv y), .unk, .unk, .unk, .unk, .unk, .unk, .unk, .unk, .unk, .unk, .ok (SV.ptr 18 0), .unk, .unk,
   .unk, .unk, .unk, .unk, .unk, .unk, .unk, .unk, .unk, .unk, .unk, .unk, .unk, .unk, .unk, .unk, .unk, .unk, .unk, .unk, .unk, .unk, .unk, .unk, .unk, .unk, .unk,
   .unk, .unk, .unk, .unk, .unk, .unk, .unk, .unk, .unk, .unk, .unk, .unk, .unk, .unk],
   hp :=
   [some (.cells [iv (0 : Int), iv (0 : Int), iv (0 : Int), iv (0 : Int), SV.d (DV.x (.slice none 0 0)), SV.d (DV.x (.slice none 0 0))]), none, none, none, none, none, none,
   none, none, none, none, none, none, none, none,
   some (.cells [iv W, iv H, iv T, iv P, SV.row 19 0 0 (List.length K + 1) 1, SV.d (DV.x (.slice none 0 0))]), none, none,
   some (.iter (strB u) (q + Prod.snd (Utf8.decode (strB u) q))), some (.row (List.length K + 1) 1 (BPr_q3 K u q))],
   next := 20, hint := .nil }))))
   (.ret
   (.exit 2,
   {
   tm :=
   [.ok (SV.d (DV.x (.string (strB s)))), .unk, .ok (SV.ptr 0 0), .ok (iv (0 : Int)), .ok (SV.d (DV.ro n 1 (BPr_q1 C))),
   .ok (SV.d (DV.ro (List.length E) 1 (BPr_q2 E))), .ok (SV.ptr 15 0), .unk, .unk, .unk, .unk, .unk, .unk, .unk, .unk, .unk, .unk, .unk, .unk, .unk, .unk,
   .unk, .unk, .unk, .unk, .unk, .unk, .unk, .unk, .unk, .unk, .unk, .unk, .unk, .unk, .unk, .unk, .unk, .unk, .unk, .unk, .unk, .unk, .unk, .unk, .unk, .unk, .unk, .unk,
   .unk, .unk, .unk, .unk, .unk, .unk, .unk, .unk, .unk, .unk, .unk, .unk, .unk, .unk, .unk, .unk, .unk, .unk, .unk, .unk, .unk, .unk, .unk, .unk, .unk, .unk, .unk, .unk,
   .unk, .unk, .unk, .unk, .ok (iv H), .ok (iv y), .unk, .unk, .unk, .unk, .unk, .unk, .unk, .unk, .unk, .unk, .ok (SV.ptr 18 0), .unk, .unk, .unk, .unk, .unk,
   .unk, .unk, .unk, .unk, .unk, .unk, .unk, .unk, .unk, .unk, .unk, .unk, .unk, .unk, .unk, .unk, .unk, .unk, .unk, .unk, .unk, .unk, .unk, .unk, .unk, .unk, .unk, .unk,
   .unk, .unk, .unk, .unk, .unk, .unk, .unk, .unk, .unk, .unk],
   hp :=
   [some (.cells [iv (0 : Int), iv (0 : Int), iv (0 : Int), iv (0 : Int), SV.d (DV.x (.slice none 0 0)), SV.d (DV.x (.slice none 0 0))]), none, none, none, none, none, none,
   none, none, none, none, none, none, none, none, some (.cells [iv W, iv H, iv T, iv P, SV.row 19 0 0 (List.length K) 1, SV.d (DV.x (.slice none 0 0))]), none,
   none, some (.iter (strB u) (q + Prod.snd (Utf8.decode (strB u) q))), some (.row (List.length K) 1 (BPr_q4 K))],
   next := 20, hint := .nil })))
  (.ite false .fail
   (.ret
   (.exit 2,
   {
   tm :=
   [.ok (SV.d (DV.x (.string (strB s)))), .unk, .ok (SV.ptr 0 0), .ok (iv (0 : Int)), .ok (SV.d (DV.ro n 1 (BPr_q1 C))),
   .ok (SV.d (DV.ro (List.length E) 1 (BPr_q2 E))), .ok (SV.ptr 15 0), .unk, .unk, .unk, .unk, .unk, .unk, .unk, .unk, .unk, .unk, .unk, .unk, .unk, .unk,
   .unk, .unk, .unk, .unk, .unk, .unk, .unk, .unk, .unk, .unk, .unk, .unk, .unk, .unk, .unk, .unk, .unk, .unk, .unk, .unk, .unk, .unk, .unk, .unk, .unk, .unk, .unk, .unk,
   .unk, .unk, .unk, .unk, .unk, .unk, .unk, .unk, .unk, .unk, .unk, .unk, .unk, .unk, .unk, .unk, .unk, .unk, .unk, .unk, .unk, .unk, .unk, .unk, .unk, .unk, .unk, .unk,
   .unk, .unk, .unk, .unk, .ok (iv H), .ok (iv y), .unk, .unk, .unk, .unk, .unk, .unk, .unk, .unk, .unk, .unk, .ok (SV.ptr 18 0), .unk, .unk, .unk, .unk, .unk,
   .unk, .unk, .unk, .unk, .unk, .unk, .unk, .unk, .unk, .unk, .unk, .unk, .unk, .unk, .unk, .unk, .unk, .unk, .unk, .unk, .unk, .unk, .unk, .unk, .unk, .unk, .unk, .unk,
   .unk, .unk, .unk, .unk, .unk, .unk, .unk, .unk, .unk, .unk],
   hp :=
   [some (.cells [iv (0 : Int), iv (0 : Int), iv (0 : Int), iv (0 : Int), SV.d (DV.x (.slice none 0 0)), SV.d (DV.x (.slice none 0 0))]), none, none, none, none, none, none,
   none, none, none, none, none, none, none, none, some (.cells [iv W, iv H, iv T, iv P, SV.row 19 0 0 (List.length K) 1, SV.d (DV.x (.slice none 0 0))]), none,
   none, some (.iter (strB u) q), some (.row (List.length K) 1 (BPr_q4 K))],
   next := 20, hint := .nil })))

theorem BPr_eq (s : List UInt8) (n : Nat) (C : Nat → List UInt8) (E : List Int) (W H T P : Int) (K : List Int) (y : Int) (u : List UInt8) (q : Nat) : cutT 19 [(.cell (.base 15) 4, 19)] [0, 2, 3, 4, 5, 6, 81, 82, 93] [1, 2, 3, 4, 5, 6, 7, 8, 9, 10, 11, 12, 13, 14, 16] 20 .nil (exec Tryz.prog CK2 DK2 200 bodyPr (invPr s n C E W H T P K y u q)) = BPr s n C E W H T P K y u q := by kernel_rfl

noncomputable def KPr_q1 (C : Nat → List UInt8) (i : Nat) (x : Nat) : DV :=
  DV.x (.string (strB (C i)))
noncomputable def KPr_q2 (E : List Int) (i : Nat) (x : Nat) : DV :=
  DV.x (.int .i64 (List.getD E i (0 : Int)))
noncomputable def KPr_q3 (K2 : List Int) (i : Nat) (x : Nat) : DV :=
  DV.x (.int .i64 (List.getD K2 i (0 : Int)))
noncomputable def KPr (s : List UInt8) (n : Nat) (C : Nat → List UInt8) (E : List Int) (W H T P : Int) (K : List Int) (y : Int) (K2 : List Int) (u : List UInt8) (q : Nat) : Tree (Ex × AS) :=
  .ret
  (.normal,
   {
   tm :=
   [.ok (SV.d (DV.x (.string (strB s)))), .unk, .ok (SV.ptr 0 0), .ok (iv (0 : Int)), .ok (SV.d (DV.ro n 1 (KPr_q1 C))),
   .ok (SV.d (DV.ro (List.length E) 1 (KPr_q2 E))), .ok (SV.ptr 15 0), .unk, .unk, .unk, .unk, .unk, .unk, .unk, .unk, .unk, .unk, .unk, .unk, .unk, .unk,
   .unk, .unk, .unk, .unk, .unk, .unk, .unk, .unk, .unk, .unk, .unk, .unk, .unk, .unk, .unk, .unk, .unk, .unk, .unk, .unk, .unk, .unk, .unk, .unk, .unk, .unk, .unk, .unk,
   .unk, .unk, .unk, .unk, .unk, .unk, .unk, .unk, .unk, .unk, .unk, .unk, .unk, .unk, .unk, .unk, .unk, .unk, .unk, .unk, .unk, .unk, .unk, .unk, .unk, .unk, .unk, .unk,
   .unk, .unk, .unk, .unk, .ok (iv H), .ok (iv (w64 (y + (1 : Int)))), .unk, .unk, .unk, .unk, .unk, .unk, .unk, .unk, .unk, .unk, .unk, .unk, .unk, .unk, .unk, .unk, .unk, .unk,
   .unk, .unk, .unk, .unk, .unk, .unk, .unk, .unk, .unk, .unk, .unk, .unk, .unk, .unk, .unk, .unk, .unk, .unk, .unk, .unk, .unk, .unk, .unk, .unk, .unk, .unk, .unk, .unk,
   .unk, .unk, .unk, .unk, .unk, .unk, .unk, .unk],
   hp :=
   [some (.cells [iv (0 : Int), iv (0 : Int), iv (0 : Int), iv (0 : Int), SV.d (DV.x (.slice none 0 0)), SV.d (DV.x (.slice none 0 0))]), none, none, none, none, none, none, none,
   none, none, none, none, none, none, none, some (.cells [iv W, iv H, iv T, iv P, SV.row 17 0 0 (List.length K2) 1, SV.d (DV.x (.slice none 0 0))]), none,
   some (.row (List.length K2) 1 (KPr_q3 K2))],
   next := 18, hint := .nil })

theorem KPr_eq (s : List UInt8) (n : Nat) (C : Nat → List UInt8) (E : List Int) (W H T P : Int) (K : List Int) (y : Int) (K2 : List Int) (u : List UInt8) (q : Nat) : codeK (sub [0, 0, 0] (tPb s n C E W H T P K y)) (.exit 2) (invPr s n C E W H T P K2 y u q) = KPr s n C E W H T P K y K2 u q := by kernel_rfl

noncomputable def tPc (s : List UInt8) (n : Nat) (C : Nat → List UInt8) (E : List Int) (W H T P : Int) (K : List Int) (y : Int) : Tree SV := codeK (sub [0, 0, 1, 0, 0, 0, 0, 0, 0, 0, 0, 1, 0, 0, 0, 0, 0] (tPa s)) (.exit 0) (invPa s n C E W H T P K y)
noncomputable def KPa (s : List UInt8) (n : Nat) (C : Nat → List UInt8) (E : List Int) (W H T P : Int) (K : List Int) (y : Int) : Tree SV :=
  .need ((0 : Int) ≤ (2 : Int) ∧ (2 : Int) < (↑(List.length E) : Int))
  (.need (True ∧ (0 : Int) ≤ w64 ((1 : Int) + List.getD E 2 (0 : Int)) ∧ Int.toNat (w64 ((1 : Int) + List.getD E 2 (0 : Int))) ≤ n)
   (.code (codeC (sub [(0 : Nat), (0 : Nat)] (tPc s n C E W H T P K y))) (codeS (sub [(0 : Nat), (0 : Nat)] (tPc s n C E W H T P K y))) (codeK (sub [(0 : Nat), (0 : Nat)] (tPc s n C E W H T P K y)))))

theorem KPa_eq (s : List UInt8) (n : Nat) (C : Nat → List UInt8) (E : List Int) (W H T P : Int) (K : List Int) (y : Int) : tPc s n C E W H T P K y = KPa s n C E W H T P K y := by kernel_rfl


end Go.Proofs.YtgahnelicbddcaaGreatDoor

namespace Go.Proofs.YtgahnelicbddcaaGreatDoor
open Go.Sx
set_option maxRecDepth 100000
noncomputable def invPs (s : List UInt8) (W H T P : Int) (K : List Int) (n : Nat) (C : Nat → List UInt8) (S : List (List Int × List Int)) (z : Int) : AS := ⟨[.ok (strV s), .unk, .ok (.ptr 0 0), .ok (iv 0), .unk, .unk, .ok (.ptr 15 0)] ++ List.replicate 105 .unk ++ [.ok (strC n C), .ok (iv n), .ok (iv z)] ++ List.replicate 22 .unk, [some (.cells [iv 0, iv 0, iv 0, iv 0, nilD, nilD])] ++ List.replicate 14 none ++ [some (.cells [iv W, iv H, iv T, iv P, .row 17 0 0 K.length 1, .row 18 0 0 S.length 2]), none, some (lB K), some (.row S.length 2 (badC S))], 19, .nil⟩
noncomputable def bodyPs : Code := loopN (bodyOf Tryz.prog 46) 2
noncomputable def BPs_q1 (C : Nat → List UInt8) (i : Nat) (x : Nat) : DV :=
  DV.x (.string (strB (C i)))
noncomputable def BPs_q2 (K : List Int) (i : Nat) (x : Nat) : DV :=
  DV.x (.int .i64 (List.getD K i (0 : Int)))
noncomputable def BPs_q3 (C : Nat → List UInt8) (z : Int) (i : Nat) (x : Nat) : DV :=
  DV.x (.int .i64 (List.getD (slA (Array.toList (ByteArray.data (strB (C (Int.toNat z)))))) i (0 : Int)))
noncomputable def BPs_q4 (C : Nat → List UInt8) (z : Int) (i : Nat) (x : Nat) : DV :=
  DV.x (.int .i64 (List.getD (slB (Array.toList (ByteArray.data (strB (C (Int.toNat z)))))) i (0 : Int)))
noncomputable def BPs_q5 (C : Nat → List UInt8) (S : List (List Int × List Int)) (z : Int) (a : Nat) (b : Nat) : DV :=
  selD (decide (a < List.length S)) (DV.ro (List.length (bdL S (0 + a) b)) 1 fun i x => DV.x (.int .i64 (List.getD (bdL S (0 + a) b) i (0 : Int))))
  (dsAt
   [DV.ro (List.length (slA (Array.toList (ByteArray.data (strB (C (Int.toNat z))))))) 1 (BPs_q3 C z),
   DV.ro (List.length (slB (Array.toList (ByteArray.data (strB (C (Int.toNat z))))))) 1 (BPs_q4 C z)]
   (0 + (0 + (a - List.length S)) * 2 + b))
noncomputable def BPs_q6 (S : List (List Int × List Int)) (i : Nat) (j : Nat) : DV :=
  DV.ro (List.length (bdL S i j)) 1 fun i_1 x => DV.x (.int .i64 (List.getD (bdL S i j) i_1 (0 : Int)))
noncomputable def BPs (s : List UInt8) (W H T P : Int) (K : List Int) (n : Nat) (C : Nat → List UInt8) (S : List (List Int × List Int)) (z : Int) : Tree (Ex × AS) :=
  .ite (decide (z < (↑n : Int)))
  (.need ((0 : Int) ≤ z ∧ z < (↑n : Int))
   (.need (ByteArray.size (strB (C (Int.toNat z))) ≤ 900000)
   (.need (0 + List.length S ≤ List.length S ∧ 2 ≤ 2 ∧ (List.length S + 1) * 48 ≤ 140737488355328)
   (.ret
   (.normal,
   {
   tm :=
   [.ok (SV.d (DV.x (.string (strB s)))), .unk, .ok (SV.ptr 0 0), .ok (iv (0 : Int)), .unk, .unk, .ok (SV.ptr 15 0), .unk, .unk, .unk, .unk, .unk, .unk,
   .unk, .unk, .unk, .unk, .unk, .unk, .unk, .unk, .unk, .unk, .unk, .unk, .unk, .unk, .unk, .unk, .unk, .unk, .unk, .unk, .unk, .unk, .unk, .unk, .unk, .unk, .unk,
   .unk, .unk, .unk, .unk, .unk, .unk, .unk, .unk, .unk, .unk, .unk, .unk, .unk, .unk, .unk, .unk, .unk, .unk, .unk, .unk, .unk, .unk, .unk, .unk, .unk, .unk, .unk,
   .unk, .unk, .unk, .unk, .unk, .unk, .unk, .unk, .unk, .unk, .unk, .unk, .unk, .unk, .unk, .unk, .unk, .unk, .unk, .unk, .unk, .unk, .unk, .unk, .unk, .unk, .unk,
   .unk, .unk, .unk, .unk, .unk, .unk, .unk, .unk, .unk, .unk, .unk, .unk, .unk, .unk, .unk, .unk, .unk, .unk, .ok (SV.d (DV.ro n 1 (BPs_q1 C))),
   .ok (iv (↑n : Int)), .ok (iv (w64 (z + (1 : Int)))), .unk, .unk, .unk, .unk, .unk, .unk, .unk, .unk, .unk, .unk, .unk, .unk, .unk, .unk, .unk, .unk, .unk, .unk, .unk, .unk,
   .unk, .unk],
   hp :=
   [some (.cells [iv (0 : Int), iv (0 : Int), iv (0 : Int), iv (0 : Int), SV.d (DV.x (.slice none 0 0)), SV.d (DV.x (.slice none 0 0))]), none, none, none, none, none, none,
   none, none, none, none, none, none, none, none,
   some (.cells [iv W, iv H, iv T, iv P, SV.row 17 0 0 (List.length K) 1, SV.row 18 0 0 (List.length S + 1) 2]), none,
   some (.row (List.length K) 1 (BPs_q2 K)), some (.row (List.length S + 1) 2 (BPs_q5 C S z))],
   next := 19, hint := .nil })))))
  (.ret
   (.exit 4,
   {
   tm :=
   [.ok (SV.d (DV.x (.string (strB s)))), .unk, .ok (SV.ptr 0 0), .ok (iv (0 : Int)), .unk, .unk, .ok (SV.ptr 15 0), .unk, .unk, .unk, .unk, .unk, .unk, .unk,
   .unk, .unk, .unk, .unk, .unk, .unk, .unk, .unk, .unk, .unk, .unk, .unk, .unk, .unk, .unk, .unk, .unk, .unk, .unk, .unk, .unk, .unk, .unk, .unk, .unk, .unk, .unk, .unk,
   .unk, .unk, .unk, .unk, .unk, .unk, .unk, .unk, .unk, .unk, .unk, .unk, .unk, .unk, .unk, .unk, .unk, .unk, .unk, .unk, .unk, .unk, .unk, .unk, .unk, .unk, .unk, .unk,
   .unk, .unk, .unk, .unk, .unk, .unk, .unk, .unk, .unk, .unk, .unk, .unk, .unk, .unk, .unk, .unk, .unk, .unk, .unk, .unk, .unk, .unk, .unk, .unk, .unk, .unk, .unk, .unk,
   .unk, .unk, .unk, .unk, .unk, .unk, .unk, .unk, .unk, .unk, .unk, .unk, .unk, .unk, .ok (SV.d (DV.ro n 1 (BPs_q1 C))), .ok (iv (↑n : Int)), .ok (iv z), .unk, .unk,
   .unk, .unk, .unk, .unk, .unk, .unk, .unk, .unk, .unk, .unk, .unk, .unk, .unk, .unk, .unk, .unk, .unk, .unk, .unk, .unk],
   hp :=
   [some (.cells [iv (0 : Int), iv (0 : Int), iv (0 : Int), iv (0 : Int), SV.d (DV.x (.slice none 0 0)), SV.d (DV.x (.slice none 0 0))]), none, none, none, none, none, none, none,
   none, none, none, none, none, none, none,
   some (.cells [iv W, iv H, iv T, iv P, SV.row 17 0 0 (List.length K) 1, SV.row 18 0 0 (List.length S) 2]), none,
   some (.row (List.length K) 1 (BPs_q2 K)), some (.row (List.length S) 2 (BPs_q6 S))],
   next := 19, hint := .nil }))

theorem BPs_eq (s : List UInt8) (W H T P : Int) (K : List Int) (n : Nat) (C : Nat → List UInt8) (S : List (List Int × List Int)) (z : Int) : cutT 18 [(.cell (.base 15) 5, 18)] [0, 2, 3, 6, 112, 113, 114] [1, 2, 3, 4, 5, 6, 7, 8, 9, 10, 11, 12, 13, 14, 16] 19 .nil (exec Tryz.prog CK2 DK2 200 bodyPs (invPs s W H T P K n C S z)) = BPs s W H T P K n C S z := by kernel_rfl

noncomputable def tPd (s : List UInt8) (n : Nat) (C : Nat → List UInt8) (E : List Int) (W H T P : Int) (K : List Int) (y : Int) (n2 : Nat) (C2 : Nat → List UInt8) (S : List (List Int × List Int)) (z : Int) : Tree SV := codeK (sub [0, 0] (tPc s n C E W H T P K y)) (.exit 4) (invPs s W H T P K n2 C2 S z)
noncomputable def KPs_q1 (K : List Int) (i : Nat) (x : Nat) : DV :=
  DV.x (.int .i64 (List.getD K i (0 : Int)))
noncomputable def KPs_q2 (K : List Int) (i : Nat) (j : Nat) : DV :=
  KPs_q1 K ((0 : Nat) + i) j
noncomputable def KPs_q3 (S : List (List Int × List Int)) (i : Nat) (j : Nat) : DV :=
  badC S ((0 : Nat) + i) j
noncomputable def KPs_q4 (K : List Int) (i : Nat) (j : Nat) : DV :=
  DV.x (.int .i64 (List.getD K (0 + i) (0 : Int)))
noncomputable def KPs_q5 (S : List (List Int × List Int)) (i : Nat) (j : Nat) : DV :=
  DV.ro (List.length (bdL S (0 + i) j)) 1 fun i_1 x => DV.x (.int .i64 (List.getD (bdL S (0 + i) j) i_1 (0 : Int)))
noncomputable def KPs_q6 (W : Int) (H : Int) (T : Int) (P : Int) (K : List Int) (S : List (List Int × List Int)) : Bool :=
  vchD W H T P (DV.ro (List.length K) 1 (KPs_q4 K)) (DV.ro (List.length S) 2 (KPs_q5 S)) != (0 : Int)
noncomputable def KPs (s : List UInt8) (n : Nat) (C : Nat → List UInt8) (E : List Int) (W H T P : Int) (K : List Int) (y : Int) (n2 : Nat) (C2 : Nat → List UInt8) (S : List (List Int × List Int)) (z : Int) : Tree SV :=
  .need (0 + List.length K ≤ List.length K)
  (.need (0 + List.length S ≤ List.length S)
   (.need (ChOK (DV.ro (List.length K) (1 : Nat) (KPs_q2 K)) (DV.ro (List.length S) (2 : Nat) (KPs_q3 S)))
   (.need (KPs_q6 W H T P K S = false → 0 + List.length K ≤ List.length K)
   (.need (KPs_q6 W H T P K S = false → 0 + List.length S ≤ List.length S)
   (.need (KPs_q6 W H T P K S = false → TxtRO W H T P (List.length K) (KPs_q4 K) (List.length S) (KPs_q5 S))
   (.ite (KPs_q6 W H T P K S || !strEq (strB (txtT W H T P (intsD (DV.ro (List.length K) 1 (KPs_q4 K))) (badsD (DV.ro (List.length S) 2 (KPs_q5 S))))) (strB s))
   (.ret (SV.tup [SV.agg [iv (0 : Int), iv (0 : Int), iv (0 : Int), iv (0 : Int), SV.d (DV.x (.slice none 0 0)), SV.d (DV.x (.slice none 0 0))], iv (5 : Int)]))
   (.need (0 + List.length K ≤ List.length K)
   (.need (0 + List.length S ≤ List.length S)
   (.ret (SV.tup [SV.agg [iv W, iv H, iv T, iv P, SV.d (DV.ro (List.length K) 1 (KPs_q4 K)), SV.d (DV.ro (List.length S) 2 (KPs_q5 S))], iv (0 : Int)]))))))))))

theorem KPs_eq (s : List UInt8) (n : Nat) (C : Nat → List UInt8) (E : List Int) (W H T P : Int) (K : List Int) (y : Int) (n2 : Nat) (C2 : Nat → List UInt8) (S : List (List Int × List Int)) (z : Int) : tPd s n C E W H T P K y n2 C2 S z = KPs s n C E W H T P K y n2 C2 S z := by kernel_rfl


end Go.Proofs.YtgahnelicbddcaaGreatDoor

/- chip.Parse: its loops. -/
namespace Go.Sx
theorem dec_ok' (s : ByteArray) (i : Nat) (x : Nat × Nat) (hx : x = Utf8.decode s i) : 1 ≤ x.2 ∧ Proofs.RuneOK (x.1 : Int) := by
  have hv : ∀ c : Nat, Utf8.valid (c : Int) = true → (c < 55296 ∨ (57343 < c ∧ c ≤ 1114111)) := fun c h => by
    simp only [Utf8.valid, Bool.and_eq_true, Bool.or_eq_true, decide_eq_true_eq, Bool.not_eq_true', decide_eq_false_iff_not] at h
    omega
  have hr : 1 ≤ ((Utf8.runeError, 1) : Nat × Nat).2 ∧ Proofs.RuneOK ((((Utf8.runeError, 1) : Nat × Nat).1 : Nat) : Int) := by
    refine ⟨Nat.le_refl _, ?_⟩
    unfold Proofs.RuneOK
    show 0 ≤ ((65533 : Nat) : Int) ∧ _
    simp [Utf8.runeError]
  have h1 := (s.get! (i + 1)).toNat_lt
  have h2 := (s.get! (i + 2)).toNat_lt
  have h3 := (s.get! (i + 3)).toNat_lt
  unfold Utf8.decode at hx
  simp only at hx
  unfold Proofs.RuneOK at *
  split at hx
  · subst hx; refine ⟨by simp, ?_⟩; simp only; omega
  split at hx
  · split at hx
    · subst hx; refine ⟨by simp, ?_⟩; simp only; omega
    · subst hx; exact hr
  split at hx
  · split at hx
    · rename_i h
      subst hx; refine ⟨by simp, ?_⟩
      simp only [Bool.and_eq_true] at h
      have := hv _ h.2
      simp only; omega
    · subst hx; exact hr
  split at hx
  · split at hx
    · rename_i h
      subst hx; refine ⟨by simp, ?_⟩
      simp only [Bool.and_eq_true] at h
      have := hv _ h.2
      simp only; omega
    · subst hx; exact hr
  · subst hx; exact hr
theorem dec_ok (s : ByteArray) (i : Nat) : 1 ≤ (Utf8.decode s i).2 ∧ Proofs.RuneOK ((Utf8.decode s i).1 : Int) := dec_ok' s i _ rfl
/-- The kinds that the runes of a line say, from a place on. -/
def rnL (u : List UInt8) : Nat → Nat → List Int
  | 0, _ => []
  | f + 1, q => if q < u.length then kindR ((Utf8.decode (strB u) q).1 : Int) :: rnL u f (q + (Utf8.decode (strB u) q).2) else []
def lnK (u : List UInt8) : List Int := rnL u u.length 0
theorem rnL_len (u : List UInt8) : ∀ f q, (rnL u f q).length ≤ f
  | 0, q => by simp [rnL]
  | f + 1, q => by
    unfold rnL; split
    · have := rnL_len u f (q + (Utf8.decode (strB u) q).2)
      simp only [List.length_cons]; omega
    · simp
/-- More fuel changes nothing. -/
theorem rnL_fuel (u : List UInt8) : ∀ f q, u.length ≤ f + q → rnL u (f + 1) q = rnL u f q
  | 0, q, h => by unfold rnL; rw [if_neg (by omega)]
  | f + 1, q, h => by
    have hd := (dec_ok (strB u) q).1
    show (if q < u.length then _ :: rnL u (f + 1) (q + (Utf8.decode (strB u) q).2) else []) = (if q < u.length then _ :: rnL u f (q + (Utf8.decode (strB u) q).2) else [])
    by_cases hq : q < u.length
    · rw [if_pos hq, if_pos hq, rnL_fuel u f _ (by omega)]
    · rw [if_neg hq, if_neg hq]
end Go.Sx
namespace Go.Proofs.YtgahnelicbddcaaGreatDoor
open Go.Sx
set_option maxRecDepth 100000
theorem pr_loop {s : List UInt8} {n : Nat} {C : Nat → List UInt8} {E : List Int} {W H T P : Int} {K : List Int} {y : Int} {u : List UInt8} (hu : C (w64 (E.getD 2 0 - y)).toNat = u) (hul : u.length ≤ 1000000) (hK : K.length ≤ 100000000) :
    Tree.sat Tryz.prog (.code (codeC (sub [0, 0, 0] (tPb s n C E W H T P K y))) (codeS (sub [0, 0, 0] (tPb s n C E W H T P K y))) (codeK (sub [0, 0, 0] (tPb s n C E W H T P K y))))
      fun r => r.1 = .normal ∧ Gc 17 r.2 (invPa s n C E W H T P (K ++ lnK u) (w64 (y + 1))) := by
  have ent : Gc 19 (ups (codeS (sub [0, 0, 0] (tPb s n C E W H T P K y))) 19) (invPr s n C E W H T P K y (C (w64 (E.getD 2 0 - y)).toNat) 0) :=
    entA_sound (roots := [(.cell (.base 15) 4, 19)]) (keep := [0, 2, 3, 4, 5, 6, 81, 82, 93]) (drop := [1, 2, 3, 4, 5, 6, 7, 8, 9, 10, 11, 12, 13, 14, 16]) (nx := 20) (h := .nil) (by kernel_rfl)
  rw [hu] at ent
  refine code_satS CK2_ok DK2_ok (n := 200) (n0 := 19) (nx := 20) (roots := [(.cell (.base 15) 4, 19)]) (keep := [0, 2, 3, 4, 5, 6, 81, 82, 93]) (drop := [1, 2, 3, 4, 5, 6, 7, 8, 9, 10, 11, 12, 13, 14, 16]) (h := .nil) (body := bodyPr) (by kernel_rfl) (by kernel_rfl)
    (fun m t => ∃ (q : Nat) (L : List Int), m = u.length - q ∧ L.length ≤ q ∧ L.length ≤ u.length ∧ L ++ rnL u u.length q = lnK u ∧ t = invPr s n C E W H T P (K ++ L) y u q)
    (fun e t => e = .exit 2 ∧ ∃ q, t = invPr s n C E W H T P (K ++ lnK u) y u q)
    ⟨_, _, ⟨0, [], rfl, by simp, by simp, rfl, by rw [List.append_nil]⟩, ent⟩ ?_ ?_
  · rintro m t ⟨q, L, rfl, hL, hL2, he, rfl⟩
    refine Sat.of_eq (BPr_eq s n C E W H T P (K ++ L) y u q) ?_
    constructor; unfold BPr
    have hd := dec_ok (strB u) q
    rw [strB_size]
    refine ⟨fun h1 => ⟨fun _ => ?_, fun h => (by cases h)⟩, fun h1 => ⟨fun h => (by cases h), fun _ => ?_⟩⟩
    · simp only [decide_eq_true_eq] at h1
      have hu1 : ∃ f, u.length = f + 1 := ⟨u.length - 1, by omega⟩
      obtain ⟨f, hf⟩ := hu1
      have e1 : rnL u u.length q = kindR ((Utf8.decode (strB u) q).1 : Int) :: rnL u u.length (q + (Utf8.decode (strB u) q).2) := by
        have e2 : rnL u (f + 1) q = kindR ((Utf8.decode (strB u) q).1 : Int) :: rnL u f (q + (Utf8.decode (strB u) q).2) := by
          show (if q < u.length then _ else _) = _
          rw [if_pos h1]
        rw [hf, e2]
        congr 1
        rw [rnL_fuel u f _ (by omega)]
      have hlk : (L ++ [kindR ((Utf8.decode (strB u) q).1 : Int)]).length ≤ u.length := by
        have h4 : (lnK u).length ≤ u.length := rnL_len u _ _
        rw [← he, e1, List.length_append, List.length_cons] at h4
        rw [List.length_append]; simp only [List.length_cons, List.length_nil]; omega
      have hlen : (K ++ L).length ≤ 101000000 := by rw [List.length_append]; omega
      refine ⟨⟨rfl, hd.2⟩, ⟨by omega, by omega, by omega⟩, ?_⟩
      refine ⟨u.length - (q + (Utf8.decode (strB u) q).2), _, by omega, ⟨q + (Utf8.decode (strB u) q).2, L ++ [kindR ((Utf8.decode (strB u) q).1 : Int)], rfl, by rw [List.length_append]; simp only [List.length_cons, List.length_nil]; omega, hlk, by rw [List.append_assoc, ← he, e1]; rfl, rfl⟩, ?_⟩
      rw [← List.append_assoc]
      generalize K ++ L = M at *
      refine gc_hp rfl rfl ⟨.inr ⟨_, _, rfl, rfl, .refl _⟩, .inl rfl, .inl rfl, .inl rfl, .inl rfl, .inl rfl, .inl rfl, .inl rfl, .inl rfl, .inl rfl, .inl rfl, .inl rfl, .inl rfl, .inl rfl, .inl rfl, .inr ⟨_, _, rfl, by rw [List.length_append]; rfl, .refl _⟩, .inl rfl, .inl rfl, .inr ⟨_, _, rfl, rfl, .refl _⟩, .inr ⟨_, _, rfl, rfl, lB_app fun i hi => ?_⟩, trivial⟩
      unfold BPr_q3
      exact app_sel M _ i hi
    · simp only [decide_eq_false_iff_not] at h1
      have e1 : rnL u u.length q = [] := by
        cases hf : u.length with
        | zero => rfl
        | succ f => unfold rnL; rw [if_neg (by omega)]
      rw [e1, List.append_nil] at he
      subst he
      exact ⟨_, ⟨rfl, q, rfl⟩, Gc.refl _ _⟩
  · rintro e t ⟨rfl, q, rfl⟩
    refine Sat.of_eq (KPr_eq s n C E W H T P K y (K ++ lnK u) u q) ⟨?_⟩
    exact ⟨rfl, Gc.refl _ _⟩
end Go.Proofs.YtgahnelicbddcaaGreatDoor

/- chip.Parse: what it reads. -/
namespace Go.Sx
open Proofs.YtgahnelicbddcaaGreatDoor (txtT)
/-- The kinds of the rows of tiles, the uppermost line last. -/
def kdL (C : Nat → List UInt8) (H : Nat) (y : Nat) : List Int := (List.range y).flatMap fun i => lnK (C (H - i))
def slL (C : Nat → List UInt8) (k z : Nat) : List (List Int × List Int) := (List.range z).map fun i => slotS (C (k + i))
def lnC (s : List UInt8) : Nat → List UInt8 := fun i => (cutB s [10]).getD (0 + i) []
def hdL (s : List UInt8) : List Int := ((cutB ((cutB s [10]).getD 0 []) [32])).map numW
/-- What the head of a text says. -/
def rW (s : List UInt8) : Int := (hdL s).getD 1 0
def rH (s : List UInt8) : Int := (hdL s).getD 2 0
def rT (s : List UInt8) : Int := (hdL s).getD 3 0
def rP (s : List UInt8) : Int := (hdL s).getD 4 0
def rKd (s : List UInt8) : List Int := kdL (lnC s) (rH s).toNat (rH s).toNat
def rSl (s : List UInt8) : List (List Int × List Int) := slL (lnC s) (1 + (rH s).toNat) ((cutB s [10]).length - 1 - (1 + (rH s).toNat))
/-- Can a chip be read at all? -/
def rdy (s : List UInt8) : Prop := 1 < (cutB s [10]).length ∧ (hdL s).length = 5 ∧ (1 ≤ rW s ∧ rW s ≤ 8) ∧ (1 ≤ rH s ∧ rH s ≤ 8) ∧ 1 + rH s ≤ ((cutB s [10]).length : Int) - 1
def okP (s : List UInt8) : Prop := rdy s ∧ vchP (rW s) (rH s) (rT s) (rP s) (rKd s) (rSl s) ∧ txtT (rW s) (rH s) (rT s) (rP s) (rKd s) (rSl s) = s
instance (s : List UInt8) : Decidable (rdy s) := by unfold rdy; exact inferInstance
instance (s : List UInt8) : Decidable (okP s) := by unfold okP; exact inferInstance
def pW (s : List UInt8) : Int := if okP s then rW s else 0
def pH (s : List UInt8) : Int := if okP s then rH s else 0
def pT (s : List UInt8) : Int := if okP s then rT s else 0
def pP (s : List UInt8) : Int := if okP s then rP s else 0
def pK (s : List UInt8) : List Int := if okP s then rKd s else []
def pS (s : List UInt8) : List (List Int × List Int) := if okP s then rSl s else []
def pE (s : List UInt8) : Int := if okP s then 0 else 5
theorem kdL_succ (C : Nat → List UInt8) (H y : Nat) : kdL C H (y + 1) = kdL C H y ++ lnK (C (H - y)) := by
  unfold kdL; rw [List.range_succ, List.flatMap_append]; simp
theorem kdL_len {C : Nat → List UInt8} {H m : Nat} (hC : ∀ i, (C i).length ≤ m) : ∀ y, (kdL C H y).length ≤ y * m
  | 0 => by simp [kdL]
  | y + 1 => by
    rw [kdL_succ, List.length_append, Nat.add_mul]
    have h1 := kdL_len (H := H) hC y
    have h2 : (lnK (C (H - y))).length ≤ (C (H - y)).length := rnL_len _ _ _
    have h3 := hC (H - y)
    omega
theorem slL_succ (C : Nat → List UInt8) (k z : Nat) : slL C k (z + 1) = slL C k z ++ [slotS (C (k + z))] := by
  unfold slL; rw [List.range_succ, List.map_append]; rfl
theorem slL_len (C : Nat → List UInt8) (k z : Nat) : (slL C k z).length = z := by unfold slL; simp
theorem badsD_badC (S : List (List Int × List Int)) : badsD (.ro S.length 2 (badC S)) = S := by
  show (List.range S.length).map (fun i => (intsD (badC S i 0), intsD (badC S i 1))) = S
  have h1 : ∀ L : List Int, intsD (ivD L) = L := fun L => lsOf_cellL L
  refine List.ext_getElem (by simp) fun i a b => ?_
  simp only [List.getElem_map, List.getElem_range, badC, h1]
  show S.getD i ([], []) = _
  rw [List.getD_eq_getElem?_getD, List.getElem?_eq_getElem b]; rfl
theorem badsD_ok (S : List (List Int × List Int)) : BadsD (.ro S.length 2 (badC S)) := ⟨rfl, fun i hi => ⟨⟨rfl, fun j hj => rfl⟩, rfl, fun j hj => rfl⟩⟩
theorem slot_len {u : List UInt8} {m : Nat} (h : u.length ≤ m) : (slotS u).1.length ≤ m + 1 ∧ (slotS u).2.length ≤ m + 1 := by
  have h1 := trimB_len u sTiles
  have h2 := cutL_len 32 (trimB u sTiles)
  have e : (wdS u).length = (cutL 32 (trimB u sTiles)).length := rfl
  constructor
  · show (slA u).length ≤ _
    unfold slA
    simp only [List.length_map, List.length_drop, List.length_take]; omega
  · show (slB u).length ≤ _
    unfold slB
    simp only [List.length_map, List.length_drop]; omega
end Go.Sx
namespace Go.Proofs.YtgahnelicbddcaaGreatDoor
open Go.Sx
set_option maxRecDepth 100000
theorem pa_loop {s : List UInt8} {n : Nat} {C : Nat → List UInt8} {E : List Int} {W T P : Int} {H m0 : Nat} (hE : E.length = 5) (hH : E.getD 2 0 = H) (h8 : H ≤ 8) (hn : 1 + H ≤ n) (hC : ∀ i, (C i).length ≤ 800000) :
    ∀ (y : Nat), ∀ t, t = invPa s n C E W H T P (kdL C H y) y → y ≤ H →
    Sat Tryz.prog (tPb s n C E W H T P (kdL C H y) y) fun r => match r.1 with
      | .normal => y < H ∧ Gc 17 r.2 (invPa s n C E W H T P (kdL C H (y + 1)) (y + 1 : Nat))
      | e => e = .exit 0 ∧ y = H ∧ Gc 17 r.2 (invPa s n C E W H T P (kdL C H y) y) := by
  intro y t _ hy
  refine Sat.of_eq (BPa_eq s n C E W H T P (kdL C H y) y) ⟨?_⟩
  unfold BPa
  refine ⟨fun h1 => ?_, fun h1 => ?_⟩
  · simp only [decide_eq_true_eq] at h1
    have e1 : w64 (E.getD 2 0 - (y : Int)) = ((H - y : Nat) : Int) := by rw [hH, w64_of (by omega) (by omega)]; omega
    refine ⟨by omega, ⟨by rw [e1]; omega, by rw [e1]; omega⟩, ?_⟩
    have hk := kdL_len (H := H) hC y
    have hk2 : y * 800000 ≤ 8 * 800000 := Nat.mul_le_mul_right _ (by omega)
    refine Tree.sat_mono (fun r hr => ?_) (pr_loop (u := C (H - y)) (by rw [e1, Int.toNat_natCast]) (by have := hC (H - y); omega) (by omega))
    obtain ⟨ex, st⟩ := r
    obtain ⟨e2, e3⟩ := hr
    simp only at e2; subst e2
    refine ⟨by omega, ?_⟩
    rw [kdL_succ]
    rw [w64_of (by omega) (by omega)] at e3
    exact e3
  · simp only [decide_eq_false_iff_not] at h1
    have : y = H := by omega
    exact ⟨rfl, this, Gc.refl _ _⟩
end Go.Proofs.YtgahnelicbddcaaGreatDoor

/- chip.Parse: the contract. -/
namespace Go.Proofs.YtgahnelicbddcaaGreatDoor
open Go.Sx
set_option maxRecDepth 100000
noncomputable def okV (w h t p : Int) (K : List Int) (S : List (List Int × List Int)) : SV := .tup [chS w h t p K S, iv 0]
noncomputable def noV : SV := .tup [chS 0 0 0 0 [] [], iv 5]
theorem no_le : leSV 0 [] [] (.tup [.agg [iv 0, iv 0, iv 0, iv 0, nilD, nilD], iv 5]) noV := by
  unfold noV chS nilD ivL iv
  simp [leSV, leSVs, leD]
theorem ok_le {w h t p : Int} {K : List Int} {S : List (List Int × List Int)} : leSV 0 [] [] (.tup [.agg [iv w, iv h, iv t, iv p, .d (.ro K.length 1 (KPs_q4 K)), .d (.ro S.length 2 (KPs_q5 S))], iv 0]) (okV w h t p K S) := by
  unfold okV chS ivL iv
  simp only [leSV, leSVs, leD, and_true, true_and]
  refine ⟨fun i j hi hj => ?_, fun i j hi hj => ?_⟩
  · unfold KPs_q4; rw [Nat.zero_add]
  · unfold KPs_q5 badC ivD; rw [Nat.zero_add]
theorem ris_bd {L : List Int} {n : Int} (h : risP L n) (hn : n ≤ 10000) : L.length ≤ 10000 ∧ ∀ x ∈ L, 0 ≤ x ∧ x ≤ 10000 := by
  have h1 : ∀ i : Nat, i < L.length → (i : Int) ≤ L.getD i 0 := by
    intro i
    induction i with
    | zero => intro hi; exact (h 0 hi).1.1
    | succ i ih =>
      intro hi
      have a := ih (by omega)
      have b := (h (i + 1) hi).2 (by omega)
      rw [Nat.add_sub_cancel] at b
      omega
  constructor
  · rcases Nat.eq_zero_or_pos L.length with h0 | h0
    · omega
    · have a := h1 (L.length - 1) (by omega)
      have b := (h (L.length - 1) (by omega)).1.2
      omega
  · intro x hx
    obtain ⟨i, hi, e⟩ := List.getElem_of_mem hx
    have := (h i hi).1
    rw [List.getD_eq_getElem?_getD, List.getElem?_eq_getElem hi] at this
    have e2 : (some L[i]).getD 0 = x := e
    rw [e2] at this; omega
theorem vch_txt {W H T P : Int} {K : List Int} {S : List (List Int × List Int)} (h : vchP W H T P K S) : OkTx W H T P K S := by
  obtain ⟨⟨⟨a1, a2, a3, a4⟩, a5, a6⟩, b1, b2⟩ := h
  have hg : okG W H T P := ⟨a1, a2, a3, a4⟩
  have hN := (cnt_le hg.gr).2
  have hc : gN W H T P = ((gr W H T P).cnt : Int) := rfl
  have hwh : W * H ≤ 8 * 8 := Int.mul_le_mul (by omega) (by omega) (by omega) (by omega)
  refine ⟨⟨a1, a2, by omega, by omega⟩, ⟨?_, fun k hk => ?_⟩, by omega, fun s hs => ?_⟩
  · have : ((W.toNat * H.toNat : Nat) : Int) = W * H := by rw [Int.natCast_mul, Int.toNat_of_nonneg (by omega), Int.toNat_of_nonneg (by omega)]
    omega
  · obtain ⟨i, hi, e⟩ := List.getElem_of_mem hk
    have := a6 i hi
    rw [List.getD_eq_getElem?_getD, List.getElem?_eq_getElem hi] at this
    have e2 : (some K[i]).getD 0 = k := e
    rw [e2] at this; exact this
  · obtain ⟨r1, r2⟩ := b2 s hs
    obtain ⟨c1, c2⟩ := ris_bd r1 (by omega)
    obtain ⟨d1, d2⟩ := ris_bd r2 (by omega)
    exact ⟨⟨by omega, fun n hn => by have := c2 n hn; omega⟩, by omega, fun n hn => by have := d2 n hn; omega⟩
theorem fin_sat {s : List UInt8} {n : Nat} {C : Nat → List UInt8} {E : List Int} {W H T P : Int} {K : List Int} {y : Int} {n2 : Nat} {C2 : Nat → List UInt8} {S : List (List Int × List Int)} {z : Int} (hl : ChLen K S) {R : SV}
    (hR : R = if vchP W H T P K S ∧ txtT W H T P K S = s then okV W H T P K S else noV) : Sat Tryz.prog (tPd s n C E W H T P K y n2 C2 S z) fun r => leSV 0 [] [] r R := by
  refine Sat.of_eq (KPs_eq s n C E W H T P K y n2 C2 S z) ⟨?_⟩
  unfold KPs
  have k2 : KPs_q2 K = KPs_q4 K := by funext i j; rfl
  have k4 : KPs_q4 K = fun i _ => .x (.int .i64 (K.getD i 0)) := by funext i j; unfold KPs_q4; rw [Nat.zero_add]
  have k3 : KPs_q3 S = badC S := by funext i j; unfold KPs_q3; rw [Nat.zero_add]
  have k5 : KPs_q5 S = badC S := by funext i j; unfold KPs_q5 badC ivD; rw [Nat.zero_add]
  have iK : intsD (.ro K.length 1 (KPs_q4 K)) = K := by rw [k4]; exact lsOf_cellL K
  have iS : badsD (.ro S.length 2 (KPs_q5 S)) = S := by rw [k5]; exact badsD_badC S
  have oK : IntsD (.ro K.length 1 (KPs_q4 K)) := ⟨rfl, fun i hi => rfl⟩
  have oS : BadsD (.ro S.length 2 (KPs_q5 S)) := by rw [k5]; exact badsD_ok S
  have e6 : KPs_q6 W H T P K S = !decide (vchP W H T P K S) := by
    unfold KPs_q6 vchD
    rw [iK, iS]
    unfold vchE
    split
    · rename_i h; rw [decide_eq_true h]; rfl
    · rename_i h; rw [decide_eq_false h]; rfl
  have ch : ChOK (.ro K.length 1 (KPs_q2 K)) (.ro S.length 2 (KPs_q3 S)) := by
    rw [k2, k3, ← k5]
    exact ⟨oK, oS, by rw [iK, iS]; exact hl⟩
  have tx : KPs_q6 W H T P K S = false → TxtRO W H T P K.length (KPs_q4 K) S.length (KPs_q5 S) := fun h => by
    rw [e6, Bool.not_eq_false', decide_eq_true_eq] at h
    exact ⟨oK, oS, by rw [iK, iS]; exact vch_txt h⟩
  rw [iK, iS, strEq_list]
  refine ⟨by omega, by omega, ch, fun _ => by omega, fun _ => by omega, tx, fun h1 => ?_, fun h1 => ⟨by omega, by omega, ?_⟩⟩
  · rw [e6, Bool.or_eq_true, Bool.not_eq_true', decide_eq_false_iff_not, Bool.not_eq_true', beq_eq_false_iff_ne] at h1
    rw [hR, if_neg (fun h => by rcases h1 with h1 | h1; exact h1 h.1; exact h1 h.2)]
    exact no_le
  · rw [e6, Bool.or_eq_false_iff, Bool.not_eq_false', decide_eq_true_eq, Bool.not_eq_false', beq_iff_eq] at h1
    rw [hR, if_pos h1]
    exact ok_le
theorem tPd_eq (s : List UInt8) (n : Nat) (C : Nat → List UInt8) (E : List Int) (W H T P : Int) (K : List Int) (y : Int) (n2 : Nat) (C2 : Nat → List UInt8) (S : List (List Int × List Int)) (z : Int) : codeK (sub [0, 0] (tPc s n C E W H T P K y)) (.exit 4) (invPs s W H T P K n2 C2 S z) = tPd s n C E W H T P K y n2 C2 S z := rfl
theorem bdL_app1 {S : List (List Int × List Int)} {x : List Int × List Int} {i j : Nat} (h : i < S.length) : bdL (S ++ [x]) i j = bdL S i j := by
  unfold bdL
  rw [List.getD_eq_getElem?_getD, List.getD_eq_getElem?_getD, List.getElem?_append_left h]
theorem bdL_app2 {S : List (List Int × List Int)} {x : List Int × List Int} {j : Nat} : bdL (S ++ [x]) S.length j = if j = 0 then x.1 else x.2 := by
  unfold bdL
  rw [List.getD_eq_getElem?_getD]; simp
theorem ps_sat {s : List UInt8} {n : Nat} {C : Nat → List UInt8} {E : List Int} {W T P : Int} {H : Nat} {K : List Int} {y : Int} (hE : E.length = 5) (hH : E.getD 2 0 = H) (h8 : H ≤ 8) (hn : 1 + H ≤ n) (hn2 : n ≤ 1000000) (hC : ∀ i, (C i).length ≤ 800000) (hK : K.length ≤ 100000000) {R : SV}
    (hR : R = if vchP W H T P K (slL C (1 + H) (n - (1 + H))) ∧ txtT W H T P K (slL C (1 + H) (n - (1 + H))) = s then okV W H T P K (slL C (1 + H) (n - (1 + H))) else noV) :
    Sat Tryz.prog (tPc s n C E W H T P K y) fun r => leSV 0 [] [] r R := by
  refine Sat.of_eq (KPa_eq s n C E W H T P K y) ⟨?_⟩
  unfold KPa
  have e1 : w64 (1 + E.getD 2 0) = ((1 + H : Nat) : Int) := by rw [hH, w64_of (by omega) (by omega)]; omega
  have ent : Gc 18 (ups (codeS (sub [0, 0] (tPc s n C E W H T P K y))) 18)
      ⟨[.ok (strV s), .unk, .ok (.ptr 0 0), .ok (iv 0), .unk, .unk, .ok (.ptr 15 0)] ++ List.replicate 105 .unk ++ [.ok (strC (n - (w64 (1 + E.getD 2 0)).toNat) fun i => C ((w64 (1 + E.getD 2 0)).toNat + i)), .ok (iv ((n - (w64 (1 + E.getD 2 0)).toNat : Nat) : Int)), .ok (iv 0)] ++ List.replicate 22 .unk,
        [some (.cells [iv 0, iv 0, iv 0, iv 0, nilD, nilD])] ++ List.replicate 14 none ++ [some (.cells [iv W, iv H, iv T, iv P, .row 17 0 0 K.length 1, nilD]), none, some (lB K)], 18, .nil⟩ :=
    entA_sound (roots := []) (keep := [0, 2, 3, 6, 112, 113, 114]) (drop := [1, 2, 3, 4, 5, 6, 7, 8, 9, 10, 11, 12, 13, 14, 16]) (nx := 18) (h := .nil) (by kernel_rfl)
  rw [e1, Int.toNat_natCast] at ent ⊢
  refine ⟨⟨by omega, by omega⟩, ⟨trivial, by omega, by omega⟩, ?_⟩
  refine code_satS CK2_ok DK2_ok (n := 200) (n0 := 18) (nx := 19) (roots := [(.cell (.base 15) 5, 18)]) (keep := [0, 2, 3, 6, 112, 113, 114]) (drop := [1, 2, 3, 4, 5, 6, 7, 8, 9, 10, 11, 12, 13, 14, 16]) (h := .nil) (body := bodyPs) (by kernel_rfl) (by kernel_rfl)
    (fun m t => ∃ z : Nat, m = n - (1 + H) - z ∧ z ≤ n - (1 + H) ∧ t = invPs s W H T P K (n - (1 + H)) (fun i => C (1 + H + i)) (slL C (1 + H) z) z)
    (fun e t => e = .exit 4 ∧ ∃ z, t = invPs s W H T P K (n - (1 + H)) (fun i => C (1 + H + i)) (slL C (1 + H) (n - (1 + H))) z)
    ⟨_, _, ⟨0, rfl, by omega, rfl⟩, ?_⟩ ?_ ?_
  · refine ent.trans ?_
    refine gc_sound [] [18] rfl ?_ ?_
    · simp [invPs, leTm, leTV, leSV, leSVs, rn, iv, leD, List.replicate, strC, strV]
    · simp [invPs, leHp, leBlk, leSVs, leSV, rn, iv, leD, srcOf, hget, lB, nilD, slL, List.replicate]
  · rintro m t ⟨z, rfl, hz, rfl⟩
    refine Sat.of_eq (BPs_eq s W H T P K _ _ _ z) ?_
    constructor; unfold BPs
    have hl := slL_len C (1 + H) z
    refine ⟨fun h1 => ?_, fun h1 => ?_⟩
    · simp only [decide_eq_true_eq] at h1
      have hc : ((fun i => C (1 + H + i)) z).length ≤ 800000 := hC (1 + H + z)
      rw [Int.toNat_natCast, strB_size, w64_of (n := (z : Int) + 1) (by omega) (by omega)]
      refine ⟨by omega, by omega, ⟨by omega, by omega, by omega⟩, n - (1 + H) - (z + 1), _, by omega, ⟨z + 1, rfl, by omega, rfl⟩, ?_⟩
      rw [slL_succ]
      have e5 : ∀ a b, a < (slL C (1 + H) z).length + 1 → b < 2 → BPs_q5 (fun i => C (1 + H + i)) (slL C (1 + H) z) (z : Int) a b = badC (slL C (1 + H) z ++ [slotS (C (1 + H + z))]) a b := fun a b ha hb => by
        generalize slL C (1 + H) z = S at *
        unfold BPs_q5 badC
        rw [Nat.zero_add, Int.toNat_natCast]
        by_cases h5 : a < S.length
        · rw [decide_eq_true h5, bdL_app1 h5]; rfl
        · obtain rfl : a = S.length := by omega
          rw [decide_eq_false h5, bdL_app2]
          have e3 : BPs_q3 (fun i => C (1 + H + i)) (z : Int) = fun i _ => .x (.int .i64 ((slA (C (1 + H + z))).getD i 0)) := by
            funext i j; unfold BPs_q3; rw [Int.toNat_natCast, strB_list]
          have e4 : BPs_q4 (fun i => C (1 + H + i)) (z : Int) = fun i _ => .x (.int .i64 ((slB (C (1 + H + z))).getD i 0)) := by
            funext i j; unfold BPs_q4; rw [Int.toNat_natCast, strB_list]
          rw [e3, e4, strB_list, Nat.sub_self]
          match b, hb with
          | 0, _ => rfl
          | 1, _ => rfl
      generalize slL C (1 + H) z = S at *
      refine gc_hp rfl rfl ⟨.inr ⟨_, _, rfl, rfl, .refl _⟩, .inl rfl, .inl rfl, .inl rfl, .inl rfl, .inl rfl, .inl rfl, .inl rfl, .inl rfl, .inl rfl, .inl rfl, .inl rfl, .inl rfl, .inl rfl, .inl rfl, .inr ⟨_, _, rfl, by rw [List.length_append]; rfl, .refl _⟩, .inl rfl, .inr ⟨_, _, rfl, rfl, .refl _⟩, .inr ⟨_, _, rfl, by rw [List.length_append]; rfl, .row fun i j hi hj => e5 i j hi hj⟩, trivial⟩
    · simp only [decide_eq_false_iff_not] at h1
      obtain rfl : z = n - (1 + H) := by omega
      exact ⟨_, ⟨rfl, _, rfl⟩, Gc.refl _ _⟩
  · rintro e t ⟨rfl, z, rfl⟩
    have hl : ChLen K (slL C (1 + H) (n - (1 + H))) := ⟨by omega, by rw [slL_len]; omega, fun x hx => by
      obtain ⟨i, hi, rfl⟩ := List.mem_map.1 hx
      have := slot_len (u := C (1 + H + i)) (hC _)
      omega⟩
    have k0 := fin_sat (s := s) (n := n) (C := C) (E := E) (y := y) (n2 := n - (1 + H)) (C2 := fun i => C (1 + H + i)) (z := z) hl hR
    exact Sat.of_eq (tPd_eq s n C E W H T P K y (n - (1 + H)) (fun i => C (1 + H + i)) (slL C (1 + H) (n - (1 + H))) z) k0
end Go.Proofs.YtgahnelicbddcaaGreatDoor

/- chip.Parse: the contract. -/
namespace Go.Sx
def wdH (s : List UInt8) : List (List UInt8) := cutB ((cutB s [10]).getD 0 []) [32]
def hdR (s : List UInt8) : List Int := numsL (wdH s).length (rowS (wdH s))
def nP (s : List UInt8) : Nat := (w64 (((cutB s [10]).length : Int) - 1)).toNat - 0
def q2P (s : List UInt8) : Bool := ((hdR s).length : Int) != 5
def q3P (s : List UInt8) : Bool := q2P s || decide ((hdR s).getD 1 0 < 1)
def q4P (s : List UInt8) : Bool := q3P s || decide ((hdR s).getD 1 0 > 8)
def q5P (s : List UInt8) : Bool := q4P s || decide ((hdR s).getD 2 0 < 1)
def q6P (s : List UInt8) : Bool := q5P s || decide ((hdR s).getD 2 0 > 8)
theorem hdR_eq (s : List UInt8) : hdR s = hdL s := by
  unfold hdR numsL hdL
  rw [cellsT_rowS]; rfl
end Go.Sx
namespace Go.Proofs.YtgahnelicbddcaaGreatDoor
open Go.Sx
set_option maxRecDepth 100000
noncomputable def noR : SV := .tup [.agg [iv 0, iv 0, iv 0, iv 0, nilD, nilD], iv 5]
noncomputable def LPh (s : List UInt8) : Tree SV :=
  .need (OneB (strB [10]) ∧ (strB s).size ≤ 1000000)
  (.need ((0 ≤ w64 (((cutB s [10]).length : Int) - 1) ∧ (w64 (((cutB s [10]).length : Int) - 1)).toNat ≤ (cutB s [10]).length) ∧ True)
  (.ite ((nP s : Int) == 0) (.ret noR)
  (.need ((0 : Int) ≤ 0 ∧ 0 < (nP s : Int))
  (.need (OneB (strB [32]) ∧ (strB ((cutB s [10]).getD 0 [])).size ≤ 1000000)
  (.need (StrsOK (wdH s).length (rowS (wdH s)))
  (.need (q2P s = false → (0 : Int) ≤ 1 ∧ 1 < ((hdR s).length : Int))
  (.need (q3P s = false → (0 : Int) ≤ 1 ∧ 1 < ((hdR s).length : Int))
  (.need (q4P s = false → (0 : Int) ≤ 2 ∧ 2 < ((hdR s).length : Int))
  (.need (q5P s = false → (0 : Int) ≤ 2 ∧ 2 < ((hdR s).length : Int))
  (.need (q6P s = false → (0 : Int) ≤ 2 ∧ 2 < ((hdR s).length : Int))
  (.ite (q6P s || decide ((nP s : Int) < w64 (1 + (hdR s).getD 2 0))) (.ret noR)
  (.need ((0 : Int) ≤ 1 ∧ 1 < ((hdR s).length : Int))
  (.need ((0 : Int) ≤ 2 ∧ 2 < ((hdR s).length : Int))
  (.need ((0 : Int) ≤ 3 ∧ 3 < ((hdR s).length : Int))
  (.need ((0 : Int) ≤ 4 ∧ 4 < ((hdR s).length : Int))
  (.need ((0 : Int) ≤ 2 ∧ 2 < ((hdR s).length : Int))
  (.code (codeC (sub [0, 0, 1, 0, 0, 0, 0, 0, 0, 0, 0, 1, 0, 0, 0, 0, 0] (tPa s))) (codeS (sub [0, 0, 1, 0, 0, 0, 0, 0, 0, 0, 0, 1, 0, 0, 0, 0, 0] (tPa s))) (codeK (sub [0, 0, 1, 0, 0, 0, 0, 0, 0, 0, 0, 1, 0, 0, 0, 0, 0] (tPa s))))))))))))))))))))
theorem LPh_eq (s : List UInt8) : tPa s = LPh s := by kernel_rfl
theorem tPc_eq (s : List UInt8) (n : Nat) (C : Nat → List UInt8) (E : List Int) (W H T P : Int) (K : List Int) (y : Int) : codeK (sub [0, 0, 1, 0, 0, 0, 0, 0, 0, 0, 0, 1, 0, 0, 0, 0, 0] (tPa s)) (.exit 0) (invPa s n C E W H T P K y) = tPc s n C E W H T P K y := rfl
theorem cut_mem {s w : List UInt8} {c : UInt8} (h : w ∈ cutB s [c]) : w.length ≤ s.length := cutL_mem c s w h
theorem lnC_len (s : List UInt8) (i : Nat) : (lnC s i).length ≤ s.length := by
  unfold lnC
  rcases Nat.lt_or_ge (0 + i) (cutB s [10]).length with h | h
  · rw [List.getD_eq_getElem?_getD, List.getElem?_eq_getElem h]
    exact cut_mem (List.getElem_mem h)
  · rw [List.getD_eq_getElem?_getD, List.getElem?_eq_none (by omega)]; simp
theorem pa_sat {s : List UInt8} (hs : s.length ≤ 800000) : Sat Tryz.prog (tPa s) fun r => leSV 0 [] [] r (if okP s then okV (rW s) (rH s) (rT s) (rP s) (rKd s) (rSl s) else noV) := by
  refine Sat.of_eq (LPh_eq s) ⟨?_⟩
  have ent : Gc 17 (ups (codeS (sub [0, 0, 1, 0, 0, 0, 0, 0, 0, 0, 0, 1, 0, 0, 0, 0, 0] (tPa s))) 17)
      ⟨[.ok (strV s), .unk, .ok (.ptr 0 0), .ok (iv 0), .ok (strC (nP s) (lnC s)), .ok (ivL (hdR s)), .ok (.ptr 15 0)] ++ List.replicate 74 .unk ++ [.ok (iv ((hdR s).getD 2 0)), .ok (iv 0)] ++ List.replicate 54 .unk, [some (.cells [iv 0, iv 0, iv 0, iv 0, nilD, nilD])] ++ List.replicate 14 none ++ [some (.cells [iv ((hdR s).getD 1 0), iv ((hdR s).getD 2 0), iv ((hdR s).getD 3 0), iv ((hdR s).getD 4 0), nilD, nilD]), none], 17, .nil⟩ :=
    entA_sound (roots := []) (keep := [0, 2, 3, 4, 5, 6, 81, 82]) (drop := [1, 2, 3, 4, 5, 6, 7, 8, 9, 10, 11, 12, 13, 14, 16]) (nx := 17) (h := .nil) (by kernel_rfl)
  have hcl := cutL_len 10 s
  have hcb : (cutB s [10]).length = (cutL 10 s).length := rfl
  have hw : w64 (((cutB s [10]).length : Int) - 1) = (((cutB s [10]).length - 1 : Nat) : Int) := by rw [w64_of (by omega) (by omega)]; omega
  have hn : nP s = (cutB s [10]).length - 1 := by unfold nP; rw [hw, Int.toNat_natCast]; rfl
  have hl0 : ((cutB s [10]).getD 0 []).length ≤ 800000 := by
    have := lnC_len s 0
    unfold lnC at this
    rw [Nat.zero_add] at this
    omega
  have hwd := cutL_len 32 ((cutB s [10]).getD 0 [])
  have hwb : (wdH s).length = (cutL 32 ((cutB s [10]).getD 0 [])).length := rfl
  have hso : StrsOK (wdH s).length (rowS (wdH s)) := by
    have := strsOK_rowS (W := wdH s) (k := 0) (n := (wdH s).length) (m := 800000) (by omega) (by omega) (fun w h => by have := cut_mem h; omega)
    simp only [Nat.zero_add] at this; exact this
  have he := hdR_eq s
  have e1 : (hdR s).getD 1 0 = rW s := by rw [he]; rfl
  have e2 : (hdR s).getD 2 0 = rH s := by rw [he]; rfl
  have e3 : (hdR s).getD 3 0 = rT s := by rw [he]; rfl
  have e4 : (hdR s).getD 4 0 = rP s := by rw [he]; rfl
  have hlen : (hdR s).length = (hdL s).length := by rw [he]
  have q2e : q2P s = false → (hdR s).length = 5 := fun h => by
    unfold q2P at h; rw [bne_eq_false_iff_eq] at h; omega
  have q3e : q3P s = false → (hdR s).length = 5 := fun h => by
    unfold q3P at h; rw [Bool.or_eq_false_iff] at h; exact q2e h.1
  have q4e : q4P s = false → (hdR s).length = 5 := fun h => by
    unfold q4P at h; rw [Bool.or_eq_false_iff] at h; exact q3e h.1
  have q5e : q5P s = false → (hdR s).length = 5 := fun h => by
    unfold q5P at h; rw [Bool.or_eq_false_iff] at h; exact q4e h.1
  have q6e : q6P s = false → (hdR s).length = 5 := fun h => by
    unfold q6P at h; rw [Bool.or_eq_false_iff] at h; exact q5e h.1
  have hq6 : q6P s = false ↔ (hdL s).length = 5 ∧ (1 ≤ rW s ∧ rW s ≤ 8) ∧ (1 ≤ rH s ∧ rH s ≤ 8) := by
    unfold q6P q5P q4P q3P q2P
    rw [e1, e2, hlen]
    simp only [Bool.or_eq_false_iff, bne_eq_false_iff_eq, decide_eq_false_iff_not]
    omega
  have hno : ¬ rdy s → leSV 0 [] [] noR (if okP s then okV (rW s) (rH s) (rT s) (rP s) (rKd s) (rSl s) else noV) := fun h => by
    rw [if_neg (fun h2 : okP s => h h2.1)]
    exact no_le
  unfold LPh
  rw [hw, hn, Int.toNat_natCast, strB_size, strB_size]
  refine ⟨⟨rfl, by omega⟩, ⟨⟨by omega, by omega⟩, trivial⟩, fun h1 => ?_, fun h1 => ?_⟩
  · rw [beq_iff_eq] at h1
    exact hno fun h => by have := h.1; omega
  rw [beq_eq_false_iff_ne] at h1
  refine ⟨⟨by omega, by omega⟩, ⟨rfl, by omega⟩, hso, fun h => ⟨by omega, by rw [q2e h]; omega⟩, fun h => ⟨by omega, by rw [q3e h]; omega⟩, fun h => ⟨by omega, by rw [q4e h]; omega⟩, fun h => ⟨by omega, by rw [q5e h]; omega⟩, fun h => ⟨by omega, by rw [q6e h]; omega⟩, fun h2 => ?_, fun h2 => ?_⟩
  · refine hno fun h => ?_
    obtain ⟨r1, r2, r3, r4, r5⟩ := h
    rw [hq6.2 ⟨r2, r3, r4⟩, Bool.false_or, decide_eq_true_eq, e2, w64_of (by omega) (by omega)] at h2
    omega
  rw [Bool.or_eq_false_iff, decide_eq_false_iff_not] at h2
  obtain ⟨h2, h3⟩ := h2
  obtain ⟨r2, r3, r4⟩ := hq6.1 h2
  rw [e2, w64_of (by omega) (by omega)] at h3
  have hr : rdy s := ⟨by omega, r2, r3, r4, by omega⟩
  have h5 : (hdR s).length = 5 := q6e h2
  obtain ⟨H, hH⟩ : ∃ H : Nat, rH s = H := ⟨(rH s).toNat, by omega⟩
  rw [e1, e2, e3, e4, hn] at ent
  rw [hH] at ent
  have hC : ∀ i, (lnC s i).length ≤ 800000 := fun i => by have := lnC_len s i; omega
  have eK : rKd s = kdL (lnC s) H H := by unfold rKd; rw [hH, Int.toNat_natCast]
  have eS : rSl s = slL (lnC s) (1 + H) ((cutB s [10]).length - 1 - (1 + H)) := by unfold rSl; rw [hH, Int.toNat_natCast]
  have hR : (if okP s then okV (rW s) (rH s) (rT s) (rP s) (rKd s) (rSl s) else noV) = if vchP (rW s) H (rT s) (rP s) (kdL (lnC s) H H) (slL (lnC s) (1 + H) ((cutB s [10]).length - 1 - (1 + H))) ∧ txtT (rW s) H (rT s) (rP s) (kdL (lnC s) H H) (slL (lnC s) (1 + H) ((cutB s [10]).length - 1 - (1 + H))) = s then okV (rW s) H (rT s) (rP s) (kdL (lnC s) H H) (slL (lnC s) (1 + H) ((cutB s [10]).length - 1 - (1 + H))) else noV := by
    rw [← eK, ← eS, ← hH]
    by_cases h : vchP (rW s) (rH s) (rT s) (rP s) (rKd s) (rSl s) ∧ txtT (rW s) (rH s) (rT s) (rP s) (rKd s) (rSl s) = s
    · rw [if_pos h, if_pos (show okP s from ⟨hr, h⟩)]
    · rw [if_neg h, if_neg (fun h2 : okP s => h h2.2)]
  refine ⟨⟨by omega, by omega⟩, ⟨by omega, by omega⟩, ⟨by omega, by omega⟩, ⟨by omega, by omega⟩, ⟨by omega, by omega⟩, ?_⟩
  refine code_satS CK2_ok DK2_ok (n := 200) (n0 := 17) (nx := 18) (roots := [(.cell (.base 15) 4, 17)]) (keep := [0, 2, 3, 4, 5, 6, 81, 82]) (drop := [1, 2, 3, 4, 5, 6, 7, 8, 9, 10, 11, 12, 13, 14, 16]) (h := .nil) (body := bodyPa) (by kernel_rfl) (by kernel_rfl)
    (fun m t => ∃ y : Nat, m = H - y ∧ y ≤ H ∧ t = invPa s ((cutB s [10]).length - 1) (lnC s) (hdR s) (rW s) H (rT s) (rP s) (kdL (lnC s) H y) y)
    (fun e t => e = .exit 0 ∧ t = invPa s ((cutB s [10]).length - 1) (lnC s) (hdR s) (rW s) H (rT s) (rP s) (kdL (lnC s) H H) H)
    ⟨_, _, ⟨0, rfl, by omega, rfl⟩, ?_⟩ ?_ ?_
  · refine ent.trans ?_
    refine gc_sound [] [17] rfl ?_ ?_
    · simp [invPa, leTm, leTV, leSV, leSVs, rn, iv, leD, List.replicate, strC, strV, ivL]
    · simp [invPa, leHp, leBlk, leSVs, leSV, rn, iv, leD, srcOf, hget, lB, nilD, kdL, List.replicate]
  · rintro m t ⟨y, rfl, hy, rfl⟩
    have k0 := pa_loop (s := s) (n := (cutB s [10]).length - 1) (C := lnC s) (E := hdR s) (W := rW s) (T := rT s) (P := rP s) (H := H) (m0 := 0) h5 (by rw [e2, hH]) (by omega) (by omega) hC y _ rfl hy
    refine ⟨Tree.sat_mono (fun r hr => ?_) k0.ok⟩
    obtain ⟨ex, st⟩ := r
    cases ex with
    | normal => exact ⟨H - (y + 1), _, by have := hr.1; omega, ⟨y + 1, rfl, by have := hr.1; omega, rfl⟩, hr.2⟩
    | _ =>
      obtain ⟨h6, h7, h8⟩ := hr
      subst h7
      exact ⟨_, ⟨h6, rfl⟩, h8⟩
  · rintro e t ⟨rfl, rfl⟩
    rw [hR]
    have hk := kdL_len (H := H) hC H
    have hk2 : H * 800000 ≤ 8 * 800000 := Nat.mul_le_mul_right _ (by omega)
    have k0 := ps_sat (s := s) (n := (cutB s [10]).length - 1) (C := lnC s) (E := hdR s) (W := rW s) (T := rT s) (P := rP s) (H := H) (K := kdL (lnC s) H H) (y := H) h5 (by rw [e2, hH]) (by omega) (by omega) (by omega) hC (by omega) rfl
    exact Sat.of_eq (tPc_eq s _ _ _ _ _ _ _ _ _) k0
noncomputable def cPar : Ctr := fun ss => match ss with
  | [.d (.x (.string s))] => .need (s.size ≤ 800000) (.ret (.tup [.agg [iv (pW s.data.toList), iv (pH s.data.toList), iv (pT s.data.toList), iv (pP s.data.toList), ivL (pK s.data.toList), .d (.ro (pS s.data.toList).length 2 (badC (pS s.data.toList)))], iv (pE s.data.toList)]))
  | _ => .fail
theorem cPar_ok : CtrOK Tryz.prog 46 cPar := by
  refine ctrOK_leR CK2_ok DK2_ok (by kernel_rfl) (by kernel_rfl) fun ss r hr => ?_
  unfold cPar at hr
  split at hr
  · rename_i s
    obtain ⟨h1, rfl⟩ := hr
    have k0 := pa_sat (s := s.data.toList) (by simpa using h1)
    have e : (if okP s.data.toList then okV (rW s.data.toList) (rH s.data.toList) (rT s.data.toList) (rP s.data.toList) (rKd s.data.toList) (rSl s.data.toList) else noV) = .tup [.agg [iv (pW s.data.toList), iv (pH s.data.toList), iv (pT s.data.toList), iv (pP s.data.toList), ivL (pK s.data.toList), .d (.ro (pS s.data.toList).length 2 (badC (pS s.data.toList)))], iv (pE s.data.toList)] := by
      unfold pW pH pT pP pK pS pE
      by_cases h : okP s.data.toList
      · simp only [if_pos h]; rfl
      · simp only [if_neg h]; rfl
    rw [e] at k0
    refine ⟨_, 200, .nil, ?_, k0⟩
    exact ⟨rfl, by simp only [leSVs]⟩
  · exact hr.elim
end Go.Proofs.YtgahnelicbddcaaGreatDoor

/- The text of a chip is read as this chip. -/
namespace Go.Sx
theorem cutL_app {c : UInt8} : ∀ {w r : List UInt8}, c ∉ w → cutL c (w ++ c :: r) = w :: cutL c r
  | [], r, _ => by simp [cutL]
  | b :: w, r, h => by
    have hb : (b == c) = false := beq_eq_false_iff_ne.2 fun e => h (by simp [e])
    have ih := cutL_app (c := c) (w := w) (r := r) fun e => h (List.mem_cons_of_mem _ e)
    show (if (b == c) = true then _ else match cutL c (w ++ c :: r) with | [] => [[b]] | x :: r => (b :: x) :: r) = _
    rw [hb, if_neg (by decide), ih]
theorem cutL_end {c : UInt8} : ∀ {w : List UInt8}, c ∉ w → cutL c w = [w]
  | [], _ => rfl
  | b :: w, h => by
    have hb : (b == c) = false := beq_eq_false_iff_ne.2 fun e => h (by simp [e])
    have ih := cutL_end (c := c) (w := w) fun e => h (List.mem_cons_of_mem _ e)
    show (if (b == c) = true then _ else match cutL c w with | [] => [[b]] | x :: r => (b :: x) :: r) = _
    rw [hb, if_neg (by decide), ih]
theorem cut_lines : ∀ {L : List (List UInt8)}, (∀ w ∈ L, (10 : UInt8) ∉ w) → cutL 10 (L.flatMap fun w => w ++ [10]) = L ++ [[]]
  | [], _ => rfl
  | w :: L, h => by
    rw [List.flatMap_cons, List.append_assoc, List.singleton_append, cutL_app (h w (by simp)), cut_lines fun v hv => h v (List.mem_cons_of_mem _ hv)]; rfl
theorem itoaC_dig {n : Int} (h0 : 0 ≤ n) : ∀ x ∈ itoaC n, 48 ≤ x.toNat ∧ x.toNat ≤ 57 := fun x hx => by
  unfold itoaC at hx
  rw [if_neg (by omega)] at hx
  exact decF_dig _ _ _ hx
theorem numW_itoa {n : Int} (h0 : 0 ≤ n) (h1 : n ≤ 1000000) : numW (itoaC n) = n := by
  have h := atoi_dec (u := n.toNat) (by omega)
  have e : itoaC n = decF 19 n.toNat := by unfold itoaC; rw [if_neg (by omega)]
  unfold numW atoiOK atoiV
  rw [e, h]
  simp only [if_true]
  omega
theorem itoaC_no {n : Int} (h0 : 0 ≤ n) {c : UInt8} (hc : c.toNat < 48) : c ∉ itoaC n := fun h => by
  have := itoaC_dig h0 c h; omega
theorem map_numW {L : List Int} (h : ∀ n ∈ L, 0 ≤ n ∧ n ≤ 1000000) : (L.map itoaC).map numW = L := by
  rw [List.map_map]
  conv => rhs; rw [← List.map_id L]
  exact List.map_congr_left fun n hn => numW_itoa (h n hn).1 (h n hn).2
theorem letB_lt (k : Int) : (Proofs.YtgahnelicbddcaaGreatDoor.letB k).toNat < 128 := by
  unfold Proofs.YtgahnelicbddcaaGreatDoor.letB
  match k.toNat with
  | 0 => decide
  | 1 => decide
  | 2 => decide
  | n + 3 => simp
theorem dec_ascii {u : List UInt8} {q : Nat} (hq : q < u.length) (h : (u.getD q 0).toNat < 128) : Utf8.decode (strB u) q = ((u.getD q 0).toNat, 1) := by
  have e : (strB u).get! (q + 0) = u.getD q 0 := by
    show (strB u).data[q + 0]! = _
    rw [Nat.add_zero]
    show u.toArray[q]! = _
    rw [List.getElem!_toArray, List.getD_eq_getElem?_getD, List.getElem!_eq_getElem?_getD]; rfl
  unfold Utf8.decode
  simp only [e]
  rw [if_pos h]
theorem rnL_ascii {L : List Int} (hL : ∀ k ∈ L, 0 ≤ k ∧ k ≤ 2) : ∀ (f q : Nat), L.length ≤ f + q → rnL (L.map Proofs.YtgahnelicbddcaaGreatDoor.letB) f q = L.drop q
  | 0, q, h => by rw [List.drop_of_length_le (by omega)]; rfl
  | f + 1, q, h => by
    unfold rnL
    rw [List.length_map]
    by_cases hq : q < L.length
    · have e : (L.map Proofs.YtgahnelicbddcaaGreatDoor.letB).getD q 0 = Proofs.YtgahnelicbddcaaGreatDoor.letB L[q] := by
        rw [List.getD_eq_getElem?_getD, List.getElem?_map, List.getElem?_eq_getElem hq]; rfl
      rw [if_pos hq, dec_ascii (by rw [List.length_map]; exact hq) (by rw [e]; exact letB_lt _), e, rnL_ascii hL f (q + 1) (by omega)]
      have hk := hL L[q] (List.getElem_mem hq)
      have : kindR ((Proofs.YtgahnelicbddcaaGreatDoor.letB L[q]).toNat : Int) = L[q] := by
        generalize L[q] = k at hk
        have : k = 0 ∨ k = 1 ∨ k = 2 := by omega
        rcases this with rfl | rfl | rfl <;> decide
      rw [this, List.drop_eq_getElem_cons hq]
    · rw [if_neg hq, List.drop_of_length_le (by omega)]
theorem lnK_ascii {L : List Int} (hL : ∀ k ∈ L, 0 ≤ k ∧ k ≤ 2) : lnK (L.map Proofs.YtgahnelicbddcaaGreatDoor.letB) = L := by
  unfold lnK
  rw [List.length_map, rnL_ascii hL _ _ (by omega)]; rfl
theorem flat_rows (K : List Int) (w : Nat) : ∀ y : Nat, (List.range y).flatMap (fun i => (K.drop (i * w)).take w) = K.take (y * w)
  | 0 => by simp
  | y + 1 => by
    rw [List.range_succ, List.flatMap_append, flat_rows K w y, List.flatMap_cons, List.flatMap_nil, List.append_nil, Nat.add_mul, Nat.one_mul, List.take_add]
end Go.Sx
namespace Go.Proofs.YtgahnelicbddcaaGreatDoor
open Go.Sx
set_option maxRecDepth 100000
theorem cut_num {L : List Int} (hL : ∀ n ∈ L, 0 ≤ n) : ∀ {u : List UInt8}, (32 : UInt8) ∉ u → cutL 32 (u ++ numT L) = u :: L.map itoaC := by
  induction L with
  | nil => intro u hu; unfold numT; rw [List.flatMap_nil, List.append_nil, cutL_end hu]; rfl
  | cons n L ih =>
    intro u hu
    unfold numT at ih ⊢
    rw [List.flatMap_cons, List.cons_append, cutL_app hu, ih (fun m hm => hL m (List.mem_cons_of_mem _ hm)) (itoaC_no (hL n (by simp)) (by decide))]; rfl
theorem cut_num2 {L : List Int} (hL : ∀ n ∈ L, 0 ≤ n) {r : List UInt8} : ∀ {u : List UInt8}, (32 : UInt8) ∉ u → cutL 32 (u ++ (numT L ++ 32 :: r)) = u :: (L.map itoaC ++ cutL 32 r) := by
  induction L with
  | nil => intro u hu; unfold numT; rw [List.flatMap_nil, List.nil_append, cutL_app hu]; rfl
  | cons n L ih =>
    intro u hu
    unfold numT at ih ⊢
    rw [List.flatMap_cons, List.cons_append, List.cons_append, cutL_app hu, List.append_assoc, ih (fun m hm => hL m (List.mem_cons_of_mem _ hm)) (itoaC_no (hL n (by simp)) (by decide))]; rfl
theorem numT_no {L : List Int} (hL : ∀ n ∈ L, 0 ≤ n) : (10 : UInt8) ∉ numT L := fun h => by
  unfold numT at h
  obtain ⟨n, hn, hx⟩ := List.mem_flatMap.1 h
  rcases List.mem_cons.1 hx with hx | hx
  · cases hx
  · exact itoaC_no (hL n hn) (by decide) hx
def slotW (s : List Int × List Int) : List UInt8 := sTil ++ (numT s.1 ++ (sNod ++ numT s.2))
theorem slotW_eq (s : List Int × List Int) : slotW s ++ [10] = slotT s := by unfold slotW slotT; simp only [List.append_assoc]
theorem slot_read {a b : List Int} (ha : ∀ n ∈ a, 0 ≤ n ∧ n ≤ 1000000) (hb : ∀ n ∈ b, 0 ≤ n ∧ n ≤ 1000000) : slotS (slotW (a, b)) = (a, b) := by
  have e1 : trimB (slotW (a, b)) sTiles = numT a ++ (sNod ++ numT b) := by
    unfold trimB slotW Lib.trimPrefix
    rw [if_pos (by unfold Lib.hasPrefix; rfl)]
    rfl
  have e2 : wdS (slotW (a, b)) = [] :: (a.map itoaC ++ sNodes :: b.map itoaC) := by
    unfold wdS cutB
    rw [e1]
    show cutL 32 ([] ++ (numT a ++ 32 :: (sNodes ++ numT b))) = _
    rw [cut_num2 (fun n hn => (ha n hn).1) (by simp), cut_num (fun n hn => (hb n hn).1) (by decide)]
  have hne : ∀ n : Int, 0 ≤ n → strB (itoaC n) ≠ strB sNodes := fun n hn h => by
    have h2 : itoaC n = sNodes := by rw [← strB_list (itoaC n), h, strB_list]
    have := itoaC_dig hn 110 (by rw [h2]; simp [sNodes])
    have h110 : (110 : UInt8).toNat = 110 := rfl
    omega
  have e3 : idxL (wdS (slotW (a, b))) sNodes = ((1 + a.length : Nat) : Int) := by
    unfold idxL
    have hl : ((wdS (slotW (a, b))).map strB).length = a.length + b.length + 2 := by
      rw [e2]; simp; omega
    have := Lib.idxOfS_hit ((wdS (slotW (a, b))).map strB) (a.length + b.length + 2) (1 + a.length) (strB sNodes) (by omega) (by omega) ?_ ?_
    · rw [List.take_of_length_le (by omega)] at this
      exact this
    · rw [e2]
      rw [List.getD_eq_getElem?_getD, List.getElem?_map, show 1 + a.length = a.length + 1 by omega, List.getElem?_cons_succ, List.getElem?_append_right (by simp)]
      simp
    · intro j hj
      rw [e2]
      match j with
      | 0 =>
        intro h
        have : strB [] = strB sNodes := h
        have h2 := congrArg ByteArray.size this
        rw [strB_size, strB_size] at h2
        cases h2
      | j + 1 =>
        have hja : j < a.length := by omega
        rw [List.getD_eq_getElem?_getD, List.getElem?_map, List.getElem?_cons_succ, List.getElem?_append_left (by simpa using hja), List.getElem?_map, List.getElem?_eq_getElem hja]
        exact hne _ (ha _ (List.getElem_mem hja)).1
  have e4 : atS (slotW (a, b)) = ((1 + a.length : Nat) : Int) := by
    unfold atS
    rw [idxW_L, e3]
    split
    · omega
    · rfl
  unfold slotS slA slB
  rw [e4, e2, Int.toNat_natCast]
  refine Prod.ext ?_ ?_
  · show ((([] :: (a.map itoaC ++ sNodes :: b.map itoaC)).take (1 + a.length)).drop 1).map numW = a
    rw [show 1 + a.length = a.length + 1 by omega, List.take_succ_cons, List.drop_succ_cons, List.drop_zero, List.take_append_of_le_length (by simp), List.take_of_length_le (by simp)]
    exact map_numW ha
  · show (([] :: (a.map itoaC ++ sNodes :: b.map itoaC)).drop (1 + a.length + 1)).map numW = b
    have e5 : (a.map itoaC ++ sNodes :: b.map itoaC).drop (a.length + 1) = b.map itoaC := by
      rw [← List.singleton_append, ← List.append_assoc]
      exact List.drop_left' (by simp)
    rw [show 1 + a.length + 1 = (a.length + 1) + 1 by omega, List.drop_succ_cons, e5]
    exact map_numW hb
def rowB (w : Nat) (K : List Int) (y : Nat) : List UInt8 := ((K.drop (y * w)).take w).map letB
def rowLs (w : Nat) (K : List Int) : Nat → List (List UInt8)
  | 0 => []
  | y + 1 => rowB w K y :: rowLs w K y
theorem rowLs_len (w : Nat) (K : List Int) : ∀ h, (rowLs w K h).length = h
  | 0 => rfl
  | y + 1 => by simp [rowLs, rowLs_len w K y]
theorem rowLs_get (w : Nat) (K : List Int) : ∀ h i, i < h → (rowLs w K h)[i]? = some (rowB w K (h - 1 - i))
  | y + 1, 0, _ => by simp [rowLs]
  | y + 1, i + 1, hi => by
    simp only [rowLs, List.getElem?_cons_succ]
    rw [rowLs_get w K y i (by omega), show y + 1 - 1 - (i + 1) = y - 1 - i by omega]
theorem rowsT_flat (w : Nat) (K : List Int) : ∀ h, rowsT w K h = (rowLs w K h).flatMap fun l => l ++ [10]
  | 0 => rfl
  | y + 1 => by rw [rowLs, List.flatMap_cons, rowsT, rowsT_flat w K y]; rfl
def headW (w h t p : Int) : List UInt8 := sGrd ++ numT [w, h, t, p]
def linesW (w h t p : Int) (K : List Int) (S : List (List Int × List Int)) : List (List UInt8) := headW w h t p :: (rowLs w.toNat K h.toNat ++ S.map slotW)
theorem txt_lines (w h t p : Int) (K : List Int) (S : List (List Int × List Int)) : txtT w h t p K S = (linesW w h t p K S).flatMap fun l => l ++ [10] := by
  unfold linesW txtT headT headW
  rw [List.flatMap_cons, List.flatMap_append, ← rowsT_flat, List.flatMap_map]
  have e : S.flatMap slotT = S.flatMap fun a => slotW a ++ [10] := by
    congr 1; funext a; rw [slotW_eq]
  rw [e]; simp only [List.append_assoc]
structure Rds (w h t p : Int) (K : List Int) (S : List (List Int × List Int)) (s : List UInt8) : Prop where
  rd : rdy s
  w : rW s = w
  h : rH s = h
  t : rT s = t
  p : rP s = p
  k : rKd s = K
  s : rSl s = S
theorem let_no (L : List Int) : (10 : UInt8) ∉ L.map letB := fun h => by
  obtain ⟨k, _, e⟩ := List.mem_map.1 h
  unfold letB at e
  match hk : k.toNat with
  | 0 => rw [hk] at e; revert e; decide
  | 1 => rw [hk] at e; revert e; decide
  | 2 => rw [hk] at e; revert e; decide
  | n + 3 => rw [hk] at e; revert e; simp
theorem round {w h t p : Int} {K : List Int} {S : List (List Int × List Int)} (hv : vchP w h t p K S) : Rds w h t p K S (txtT w h t p K S) := by
  have ht := vch_txt hv
  obtain ⟨⟨⟨a1, a2, a3, a4⟩, a5, a6⟩, b1, b2⟩ := hv
  have hg : okG w h t p := ⟨a1, a2, a3, a4⟩
  have hN := (cnt_le hg.gr).2
  have hc : gN w h t p = ((gr w h t p).cnt : Int) := rfl
  have hwh : w * h ≤ 8 * 8 := Int.mul_le_mul (by omega) (by omega) (by omega) (by omega)
  have hK : ∀ k ∈ K, 0 ≤ k ∧ k ≤ 2 := ht.2.1.2
  have hKl : K.length = w.toNat * h.toNat := ht.2.1.1
  have hS : ∀ s ∈ S, (∀ n ∈ s.1, 0 ≤ n ∧ n ≤ 1000000) ∧ (∀ n ∈ s.2, 0 ≤ n ∧ n ≤ 1000000) := fun s hs => by
    obtain ⟨r1, r2⟩ := b2 s hs
    exact ⟨fun n hn => by have := (ris_bd r1 (by omega)).2 n hn; omega, fun n hn => by have := (ris_bd r2 (by omega)).2 n hn; omega⟩
  have hhd : ∀ n ∈ [w, h, t, p], (0 : Int) ≤ n ∧ n ≤ 1000000 := fun n hn => by
    simp only [List.mem_cons, List.not_mem_nil, or_false] at hn
    rcases hn with rfl | rfl | rfl | rfl <;> omega
  have hno : ∀ l ∈ linesW w h t p K S, (10 : UInt8) ∉ l := fun l hl hx => by
    unfold linesW at hl
    rcases List.mem_cons.1 hl with rfl | hl
    · unfold headW at hx
      rcases List.mem_append.1 hx with hx | hx
      · revert hx; decide
      · exact numT_no (fun n hn => (hhd n hn).1) hx
    rcases List.mem_append.1 hl with hl | hl
    · obtain ⟨i, hi, e⟩ := List.getElem_of_mem hl
      rw [rowLs_len] at hi
      have := rowLs_get w.toNat K h.toNat i hi
      rw [List.getElem?_eq_getElem (by rw [rowLs_len]; exact hi), Option.some.injEq] at this
      rw [e] at this
      subst this
      exact let_no _ hx
    · obtain ⟨q, hq, rfl⟩ := List.mem_map.1 hl
      unfold slotW at hx
      rcases List.mem_append.1 hx with hx | hx
      · revert hx; decide
      rcases List.mem_append.1 hx with hx | hx
      · exact numT_no (fun n hn => ((hS q hq).1 n hn).1) hx
      rcases List.mem_append.1 hx with hx | hx
      · revert hx; decide
      · exact numT_no (fun n hn => ((hS q hq).2 n hn).1) hx
  have hcut : cutB (txtT w h t p K S) [10] = linesW w h t p K S ++ [[]] := by
    rw [txt_lines]; exact cut_lines hno
  have hll : (linesW w h t p K S).length = 1 + h.toNat + S.length := by
    unfold linesW; rw [List.length_cons, List.length_append, rowLs_len, List.length_map]; omega
  have hln : ∀ i, i < 1 + h.toNat + S.length → lnC (txtT w h t p K S) i = (linesW w h t p K S).getD i [] := fun i hi => by
    unfold lnC
    rw [hcut, Nat.zero_add, List.getD_eq_getElem?_getD, List.getElem?_append_left (by omega), List.getD_eq_getElem?_getD]
  have hhdL : hdL (txtT w h t p K S) = [numW sGrd, w, h, t, p] := by
    unfold hdL
    rw [hcut]
    show (cutB (headW w h t p) [32]).map numW = _
    unfold cutB headW
    show (cutL 32 (sGrd ++ numT [w, h, t, p])).map numW = _
    rw [cut_num (fun n hn => (hhd n hn).1) (by decide), List.map_cons, map_numW hhd]
  have eW : rW (txtT w h t p K S) = w := by unfold rW; rw [hhdL]; rfl
  have eH : rH (txtT w h t p K S) = h := by unfold rH; rw [hhdL]; rfl
  have eT : rT (txtT w h t p K S) = t := by unfold rT; rw [hhdL]; rfl
  have eP : rP (txtT w h t p K S) = p := by unfold rP; rw [hhdL]; rfl
  have hcl : (cutB (txtT w h t p K S) [10]).length = 2 + h.toNat + S.length := by rw [hcut, List.length_append, hll]; simp; omega
  refine ⟨⟨by omega, by rw [hhdL]; rfl, by rw [eW]; omega, by rw [eH]; omega, by rw [eH, hcl]; omega⟩, eW, eH, eT, eP, ?_, ?_⟩
  · unfold rKd kdL
    rw [eH]
    have : (List.range h.toNat).flatMap (fun i => lnK (lnC (txtT w h t p K S) (h.toNat - i))) = (List.range h.toNat).flatMap (fun i => (K.drop (i * w.toNat)).take w.toNat) := by
      rw [List.flatMap_def, List.flatMap_def]
      congr 1
      refine List.map_congr_left fun i hi => ?_
      have hi := List.mem_range.1 hi
      rw [hln _ (by omega)]
      have e : (linesW w h t p K S).getD (h.toNat - i) [] = rowB w.toNat K i := by
        unfold linesW
        rw [List.getD_eq_getElem?_getD, show h.toNat - i = (h.toNat - i - 1) + 1 by omega, List.getElem?_cons_succ, List.getElem?_append_left (by rw [rowLs_len]; omega), rowLs_get _ _ _ _ (by omega), show h.toNat - 1 - (h.toNat - i - 1) = i by omega]; rfl
      rw [e]
      exact lnK_ascii fun k hk => hK k (List.mem_of_mem_drop (List.mem_of_mem_take hk))
    rw [this, flat_rows, Nat.mul_comm, ← hKl, List.take_length]
  · unfold rSl slL
    rw [eH, hcl]
    rw [show 2 + h.toNat + S.length - 1 - (1 + h.toNat) = S.length by omega]
    refine List.ext_getElem (by simp) fun i hi1 hi2 => ?_
    rw [List.getElem_map, List.getElem_range, hln _ (by omega)]
    have e : (linesW w h t p K S).getD (1 + h.toNat + i) [] = slotW S[i] := by
      unfold linesW
      rw [List.getD_eq_getElem?_getD, show 1 + h.toNat + i = (h.toNat + i) + 1 by omega, List.getElem?_cons_succ, List.getElem?_append_right (by rw [rowLs_len]; omega), rowLs_len, show h.toNat + i - h.toNat = i by omega, List.getElem?_map, List.getElem?_eq_getElem hi2]; rfl
    rw [e]
    have := hS S[i] (List.getElem_mem hi2)
    exact slot_read this.1 this.2
theorem okP_txt {w h t p : Int} {K : List Int} {S : List (List Int × List Int)} (hv : vchP w h t p K S) : okP (txtT w h t p K S) := by
  obtain ⟨h1, h2, h3, h4, h5, h6, h7⟩ := round hv
  exact ⟨h1, by rw [h2, h3, h4, h5, h6, h7]; exact hv, by rw [h2, h3, h4, h5, h6, h7]⟩
end Go.Proofs.YtgahnelicbddcaaGreatDoor

namespace Go.Proofs.YtgahnelicbddcaaGreatDoor
open Go.Sx
set_option maxRecDepth 100000
noncomputable def tWt (L : List Int) (n : Int) : Tree SV := T0 .nil 41 [ivL L, iv n]
noncomputable def LWt (L : List Int) (n : Int) : Tree SV :=
  .code (codeC (sub [] (tWt L n))) (codeS (sub [] (tWt L n))) (codeK (sub [] (tWt L n)))

theorem LWt_eq (L : List Int) (n : Int) : tWt L n = LWt L n := by kernel_rfl

noncomputable def invWt (L : List Int) (n : Int) (z : Int) : AS := ⟨[.ok (ivL L), .ok (iv n), .unk, .unk, .unk, .ok (iv z)] ++ List.replicate 39 .unk, [], 0, .nil⟩
noncomputable def bodyWt : Code := loopN (bodyOf Tryz.prog 41) 0
noncomputable def BWt_q1 (L : List Int) (z : Int) : Bool :=
  decide (z < (↑(List.length L) : Int))
noncomputable def BWt_q2 (L : List Int) (i : Nat) (x : Nat) : DV :=
  DV.x (.int .i64 (List.getD L i (0 : Int)))
noncomputable def BWt (L : List Int) (n : Int) (z : Int) : Tree (Ex × AS) :=
  .need (BWt_q1 L z = true → (0 : Int) ≤ z ∧ z < (↑(List.length L) : Int))
  (.ite (BWt_q1 L z && decide (List.getD L (Int.toNat z) (0 : Int) < n))
   (.ret
   (.normal,
   {
   tm :=
   [.ok (SV.d (DV.ro (List.length L) 1 (BWt_q2 L))), .ok (iv n), .unk, .unk, .unk, .ok (iv (w64 (z + (1 : Int)))), .unk, .unk, .unk, .unk, .unk, .unk, .unk, .unk, .unk, .unk,
   .unk, .unk, .unk, .unk, .unk, .unk, .unk, .unk, .unk, .unk, .unk, .unk, .unk, .unk, .unk, .unk, .unk, .unk, .unk, .unk, .unk, .unk, .unk, .unk, .unk, .unk, .unk, .unk,
   .unk],
   hp := [], next := 0, hint := .nil }))
   (.ret
   (.exit 0,
   {
   tm :=
   [.ok (SV.d (DV.ro (List.length L) 1 (BWt_q2 L))), .ok (iv n), .unk, .unk, .unk, .ok (iv z), .unk, .unk, .unk, .unk, .unk, .unk, .unk, .unk, .unk, .unk, .unk, .unk, .unk,
   .unk, .unk, .unk, .unk, .unk, .unk, .unk, .unk, .unk, .unk, .unk, .unk, .unk, .unk, .unk, .unk, .unk, .unk, .unk, .unk, .unk, .unk, .unk, .unk, .unk, .unk],
   hp := [], next := 0, hint := .nil })))

theorem BWt_eq (L : List Int) (n : Int) (z : Int) : cutT 0 [] [0, 1, 5] [] 0 .nil (exec Tryz.prog C0 D0 200 bodyWt (invWt L n z)) = BWt L n z := by kernel_rfl

noncomputable def KWt_q1 (L : List Int) (z : Int) : Bool :=
  decide (z < (↑(List.length L) : Int))
noncomputable def KWt_q2 (L : List Int) (i : Nat) (x : Nat) : DV :=
  DV.x (.int .i64 (List.getD L i (0 : Int)))
noncomputable def KWt_q3 (L : List Int) (n : Int) (z : Int) (i : Nat) (j : Nat) : DV :=
  selD (decide (0 + i < 0 + (Int.toNat z - 0) + 1))
  (selD (decide (0 + (0 + i) < 0 + (Int.toNat z - 0))) (DV.x (.int .i64 (List.getD L (0 + (0 + (0 + (0 + i)) - 0)) (0 : Int))))
   (dsAt [DV.x (.int .i64 n)] (0 + (0 + (0 + (0 + i) - (0 + (Int.toNat z - 0)))) * 1 + j)))
  (DV.x (.int .i64 (List.getD L (Int.toNat z + (0 + i - (0 + (Int.toNat z - 0) + 1))) (0 : Int))))
noncomputable def KWt (L : List Int) (n : Int) (z : Int) : Tree SV :=
  .need (KWt_q1 L z = true → (0 : Int) ≤ z ∧ z < (↑(List.length L) : Int))
  (.ite (KWt_q1 L z && List.getD L (Int.toNat z) (0 : Int) == n) (.ret (SV.d (DV.ro (List.length L) 1 (KWt_q2 L))))
   (.need (((0 : Int) ≤ z ∧ Int.toNat z ≤ List.length L) ∧ True)
   (.need (0 ≤ 0 ∧ True ∧ (0 + (Int.toNat z - 0)) * 8 ≤ 140737488355328)
   (.need (0 + (0 + (Int.toNat z - 0)) ≤ 0 + (Int.toNat z - 0) ∧ 1 ≤ 1 ∧ (0 + (Int.toNat z - 0) + 1) * 8 ≤ 140737488355328)
   (.need (True ∧ (0 : Int) ≤ z ∧ Int.toNat z ≤ List.length L)
   (.need
   (0 + (0 + (Int.toNat z - 0) + 1) ≤ 0 + (Int.toNat z - 0) + 1 ∧
   True ∧ (0 + (Int.toNat z - 0) + 1 + (List.length L - Int.toNat z)) * 8 ≤ 140737488355328)
   (.need (0 + (0 + (Int.toNat z - 0) + 1 + (List.length L - Int.toNat z)) ≤ 0 + (Int.toNat z - 0) + 1 + (List.length L - Int.toNat z))
   (.ret (SV.d (DV.ro (0 + (Int.toNat z - 0) + 1 + (List.length L - Int.toNat z)) 1 (KWt_q3 L n z)))))))))))

theorem KWt_eq (L : List Int) (n : Int) (z : Int) : codeK (sub [] (tWt L n)) (.exit 0) (invWt L n z) = KWt L n z := by kernel_rfl


end Go.Proofs.YtgahnelicbddcaaGreatDoor

/- A rising list with one more number. -/
namespace Go.Sx
/-- How many numbers at the front are less. -/
def ltC (n : Int) : List Int → Nat
  | [] => 0
  | a :: L => if a < n then ltC n L + 1 else 0
def wthL (L : List Int) (n : Int) : List Int := if ltC n L < L.length ∧ L.getD (ltC n L) 0 = n then L else L.take (ltC n L) ++ n :: L.drop (ltC n L)
def wthD (d : DV) (n : Int) : List Int := wthL (intsD d) n
theorem ltC_le (n : Int) : ∀ L : List Int, ltC n L ≤ L.length
  | [] => Nat.le_refl _
  | a :: L => by
    unfold ltC; split
    · have := ltC_le n L; simp only [List.length_cons]; omega
    · omega
theorem ltC_lt (n : Int) : ∀ (L : List Int) (i : Nat), i < ltC n L → L.getD i 0 < n
  | [], i, h => by simp [ltC] at h
  | a :: L, i, h => by
    unfold ltC at h
    split at h
    · match i with
      | 0 => simpa
      | i + 1 => rw [List.getD_cons_succ]; exact ltC_lt n L i (by omega)
    · omega
theorem ltC_ge (n : Int) : ∀ (L : List Int), ltC n L < L.length → n ≤ L.getD (ltC n L) 0
  | [], h => by simp at h
  | a :: L, h => by
    unfold ltC at h ⊢
    split
    · rename_i h1
      rw [if_pos h1] at h
      rw [List.getD_cons_succ]; exact ltC_ge n L (by simp only [List.length_cons] at h; omega)
    · simp; omega
theorem ltC_uni {n : Int} {L : List Int} {k : Nat} (h1 : ∀ i, i < k → L.getD i 0 < n) (hk : k ≤ L.length) (h2 : k < L.length → n ≤ L.getD k 0) : k = ltC n L := by
  rcases Nat.lt_trichotomy k (ltC n L) with h | h | h
  · have a := ltC_lt n L k h
    have b := ltC_le n L
    have := h2 (by omega); omega
  · exact h
  · have a := h1 _ h
    have := ltC_ge n L (by omega); omega
theorem wth_ris {L : List Int} {n M : Int} (h : risP L M) (hn : 0 ≤ n ∧ n < M) : risP (wthL L n) M := by
  unfold wthL
  split
  · exact h
  rename_i hne
  have hk := ltC_le n L
  have a1 := ltC_lt n L
  have a2 := ltC_ge n L
  generalize ltC n L = k at *
  have a3 : k < L.length → n < L.getD k 0 := fun hl => by
    have := a2 hl
    have : L.getD k 0 ≠ n := fun e => hne ⟨hl, e⟩
    omega
  intro i hi
  simp only [List.length_append, List.length_take, List.length_cons, List.length_drop] at hi
  have hi : i < L.length + 1 := by omega
  rw [ins_get hk]
  by_cases c1 : i < k
  · rw [if_pos c1]
    have r := h i (by omega)
    refine ⟨r.1, fun h0 => ?_⟩
    rw [ins_get hk, if_pos (by omega)]
    exact r.2 h0
  · rw [if_neg c1]
    by_cases c2 : i = k
    · rw [if_pos c2]
      refine ⟨hn, fun h0 => ?_⟩
      rw [ins_get hk, if_pos (by omega)]
      exact a1 (i - 1) (by omega)
    · rw [if_neg c2]
      have r := h (i - 1) (by omega)
      refine ⟨r.1, fun h0 => ?_⟩
      rw [ins_get hk, if_neg (by omega)]
      by_cases c3 : i - 1 = k
      · rw [if_pos c3]
        have := a3 (by omega)
        rw [c3]; exact this
      · rw [if_neg c3]
        exact r.2 (by omega)
theorem wth_len (L : List Int) (n : Int) : (wthL L n).length ≤ L.length + 1 := by
  unfold wthL
  have := ltC_le n L
  split
  · omega
  · simp only [List.length_append, List.length_take, List.length_cons, List.length_drop]; omega
end Go.Sx
namespace Go.Proofs.YtgahnelicbddcaaGreatDoor
open Go.Sx
set_option maxRecDepth 100000
theorem wt_sat {L : List Int} {n : Int} (hl : L.length ≤ 1000000) : Sat Tryz.prog (tWt L n) fun r => leSV 0 [] [] r (ivL (wthL L n)) := by
  constructor
  rw [LWt_eq]; unfold LWt
  refine code_satS C0_ok D0_ok (n := 200) (n0 := 0) (nx := 0) (roots := []) (keep := [0, 1, 5]) (drop := []) (h := .nil) (c := codeC (sub [] (tWt L n))) (st := codeS (sub [] (tWt L n))) (k := codeK (sub [] (tWt L n))) (body := bodyWt) (by kernel_rfl) (by kernel_rfl)
    (fun q s => ∃ j : Nat, q = L.length - j ∧ j ≤ L.length ∧ (∀ i, i < j → L.getD i 0 < n) ∧ s = invWt L n j)
    (fun e s => e = .exit 0 ∧ s = invWt L n (ltC n L : Nat))
    ⟨_, _, ⟨0, rfl, by omega, fun i hi => by omega, rfl⟩, ?_⟩ ?_ ?_
  · exact entA_sound (roots := []) (keep := [0, 1, 5]) (drop := []) (nx := 0) (h := .nil) (by kernel_rfl)
  · rintro q s ⟨j, rfl, hj, hn, rfl⟩
    refine Sat.of_eq (BWt_eq L n j) ?_
    constructor; unfold BWt BWt_q1
    rw [Int.toNat_natCast]
    refine ⟨fun h1 => ?_, fun h1 => ?_, fun h1 => ?_⟩
    · rw [decide_eq_true_eq] at h1; omega
    · simp only [Bool.and_eq_true, decide_eq_true_eq] at h1
      rw [w64_of (n := (j : Int) + 1) (by omega) (by omega)]
      refine ⟨L.length - (j + 1), _, by omega, ⟨j + 1, rfl, by omega, fun i hi => ?_, rfl⟩, Gc.refl _ _⟩
      by_cases hij : i = j
      · subst hij; exact h1.2
      · exact hn i (by omega)
    · simp only [Bool.and_eq_false_iff, decide_eq_false_iff_not] at h1
      have hu := ltC_uni (n := n) (L := L) (k := j) hn hj (fun h => by omega)
      refine ⟨_, ⟨rfl, ?_⟩, Gc.refl _ _⟩
      rw [← hu]; rfl
  · rintro e s ⟨rfl, rfl⟩
    refine Sat.of_eq (KWt_eq L n _) ⟨?_⟩
    unfold KWt KWt_q1
    have hk := ltC_le n L
    have e0 : wthL L n = if ltC n L < L.length ∧ L.getD (ltC n L) 0 = n then L else L.take (ltC n L) ++ n :: L.drop (ltC n L) := rfl
    have e3 : ∀ i, KWt_q3 L n (ltC n L : Nat) i 0 = .x (.int .i64 ((L.take (ltC n L) ++ n :: L.drop (ltC n L)).getD i 0)) := fun i => by
      have := ins_sel L n (ltC n L) i hk
      unfold KWt_q3
      rw [Int.toNat_natCast]
      simp only [Nat.zero_add, Nat.sub_zero] at this ⊢
      exact this
    rw [e0]
    generalize ltC n L = k at *
    rw [Int.toNat_natCast]
    refine ⟨fun h1 => by rw [decide_eq_true_eq] at h1; omega, fun h1 => ?_, fun h1 => ?_⟩
    · simp only [Bool.and_eq_true, decide_eq_true_eq, beq_iff_eq] at h1
      rw [if_pos ⟨by omega, h1.2⟩]
      exact ⟨rfl, rfl, fun i j hi hj => rfl⟩
    · simp only [Bool.and_eq_false_iff, decide_eq_false_iff_not, beq_eq_false_iff_ne, ne_eq] at h1
      rw [if_neg (by omega)]
      refine ⟨⟨⟨by omega, by omega⟩, trivial⟩, ⟨by omega, trivial, by omega⟩, ⟨by omega, by omega, by omega⟩, ⟨trivial, by omega, by omega⟩, ⟨by omega, trivial, by omega⟩, by omega, ?_⟩
      refine ⟨?_, rfl, fun i j hi hj => ?_⟩
      · simp only [List.length_append, List.length_take, List.length_cons, List.length_drop]; omega
      · obtain rfl : j = 0 := by omega
        exact e3 i
theorem ctrOK_repR {P : Program} {C : Ctx} {dr : Dr} (hC : CtxOK P C) (hD : DrOK P C dr) {k : FuncId} {c : Ctr} (hf : (P.funcs[k]?).isSome = true) (hb : (fnOf P k).body.isSome = true)
    (h : ∀ ss r, (c ss).ev r → ∃ ss' n hint, (∀ (w : World) (F : Nat → Prop) vs, Reps w emp F vs ss → Reps w emp F vs ss') ∧ leSVs 0 [] [] ss' ss' ∧ Sat P (fnT P C dr n (fnOf P k) (bodyOf P k) ss' hint) (fun r' => leSV 0 [] [] r' r)) : CtrOK P k c := by
  intro ss vs w F r hF hgl hr hev
  obtain ⟨ss', n, hint, h1, h0, h2⟩ := h ss r hev
  have h3 : CtrOK P k (fun s => .need (s = ss') (.ret r)) := ctrOK_leR hC hD hf hb fun s r' hr' => by
    obtain ⟨rfl, rfl⟩ := hr'
    exact ⟨s, n, hint, h0, h2⟩
  exact h3 ss' vs w F r hF hgl (h1 w F vs hr) ⟨rfl, rfl⟩
noncomputable def cWt : Ctr := fun ss => match ss with
  | [.d d, .d (.x (.int .i64 n))] => .need (IntsD d ∧ (intsD d).length ≤ 1000000) (.ret (ivL (wthD d n)))
  | _ => .fail
theorem cWt_ok : CtrOK Tryz.prog 41 cWt := by
  refine ctrOK_repR C0_ok D0_ok (by kernel_rfl) (by kernel_rfl) fun ss r hr => ?_
  unfold cWt at hr
  split at hr
  · rename_i d n
    obtain ⟨⟨h1, h2⟩, rfl⟩ := hr
    have k0 := wt_sat (n := n) h2
    refine ⟨_, 200, .nil, fun w F vs hr => ?_, ?_, k0⟩
    · exact repsB (fun v h => .d (ints_canon h1 (rep_d' h))) (fun v h => h) hr
    · exact ⟨⟨rfl, rfl, fun i j hi hj => rfl⟩, rfl, by simp only [leSVs]⟩
  · exact hr.elim
end Go.Proofs.YtgahnelicbddcaaGreatDoor

namespace Go.Proofs.YtgahnelicbddcaaGreatDoor
open Go.Sx
set_option maxRecDepth 100000
noncomputable def manB : FuncId → Option Ctr := fun k => match k with
  | 41 => some cWt
  | 25 => some cCt
  | _ => none
theorem manB_ok (k : Nat) (c : Ctr) (h : manB k = some c) : CtrOK Tryz.prog k c ∧ goodF Tryz.prog k = true := by
  unfold manB at h
  split at h
  · cases h; exact ⟨cWt_ok, by kernel_rfl⟩
  · cases h; exact ⟨cCt_ok.2, by kernel_rfl⟩
  · cases h
noncomputable def CBd : Ctx := ctxN Tryz.prog manB (fun _ => false) 200 .nil 8
theorem CBd_ok : CtxOK Tryz.prog CBd := ctxN_ok mixed manB_ok 8
noncomputable def DBd : Dr := fun _ => drawn Tryz.prog CBd
theorem DBd_ok : DrOK Tryz.prog CBd DBd := drawn_ok CBd_ok mixed
noncomputable def TB (h : Hint) (k : Nat) (args : List SV) : Tree SV := fnT Tryz.prog CBd DBd 200 (fnOf Tryz.prog k) (bodyOf Tryz.prog k) args h
noncomputable def tBd (w h t p : Int) (m : Nat) (c : Nat → Nat → DV) (k : Nat) (f : Nat → Int) : Tree SV := TB .nil 15 [gridV w h t p (.d (.ro m 1 c)), byT k f]
noncomputable def LBd (w h t p : Int) (m : Nat) (c : Nat → Nat → DV) (k : Nat) (f : Nat → Int) : Tree SV :=
  .code (codeC (sub [] (tBd w h t p m c k f))) (codeS (sub [] (tBd w h t p m c k f))) (codeK (sub [] (tBd w h t p m c k f)))

theorem LBd_eq (w h t p : Int) (m : Nat) (c : Nat → Nat → DV) (k : Nat) (f : Nat → Int) : tBd w h t p m c k f = LBd w h t p m c k f := by kernel_rfl

noncomputable def invBd (w h t p : Int) (m : Nat) (c : Nat → Nat → DV) (k : Nat) (f : Nat → Int) (T N : List Int) (z : Int) : AS := ⟨[.unk, .ok (byT k f), .ok (.ptr 0 0), .unk, .ok (.ptr 1 0), .ok (.ptr 2 0), .ok (iv z)] ++ List.replicate 52 .unk, [some (.cells [iv w, iv h, iv t, iv p, .d (.ro m 1 c)]), some (.cells [nilD, nilD]), some (.cells [ivL T, ivL N]), none], 4, .nil⟩
noncomputable def bodyBd : Code := loopN (bodyOf Tryz.prog 15) 0
noncomputable def BBd_q1 (T : List Int) (i : Nat) (x : Nat) : DV :=
  DV.x (.int .i64 (List.getD T i (0 : Int)))
noncomputable def BBd_q2 (f : Nat → Int) (i : Nat) (x : Nat) : DV :=
  DV.x (.int .u8 (f i))
noncomputable def BBd_q3 (w : Int) (h : Int) (f : Nat → Int) (T : List Int) (z : Int) (i : Nat) (x : Nat) : DV :=
  DV.x (.int .i64 (List.getD (wthD (DV.ro (List.length T) 1 (BBd_q1 T)) (Int.tmod (w64 (w64 ((256 : Int) * w64 (f (Int.toNat z))) + w64 (f (Int.toNat (w64 (z + (1 : Int))))))) (w64 (w * h)))) i (0 : Int)))
noncomputable def BBd_q4 (N : List Int) (i : Nat) (x : Nat) : DV :=
  DV.x (.int .i64 (List.getD N i (0 : Int)))
noncomputable def BBd_q5 (w : Int) (h : Int) (t : Int) (p : Int) (f : Nat → Int) (N : List Int) (z : Int) (i : Nat) (x : Nat) : DV :=
  DV.x (.int .i64 (List.getD (wthD (DV.ro (List.length N) 1 (BBd_q4 N)) (Int.tmod (w64 (w64 ((256 : Int) * w64 (f (Int.toNat z))) + w64 (f (Int.toNat (w64 (z + (1 : Int))))))) (gN w h t p))) i (0 : Int)))
noncomputable def BBd (w h t p : Int) (m : Nat) (c : Nat → Nat → DV) (k : Nat) (f : Nat → Int) (T N : List Int) (z : Int) : Tree (Ex × AS) :=
  .ite (decide (w64 (z + (1 : Int)) < (↑k : Int)) && decide (z < (12 : Int)))
  (.need ((0 : Int) ≤ z ∧ z < (↑k : Int))
   (.need ((0 : Int) ≤ w64 (z + (1 : Int)) ∧ w64 (z + (1 : Int)) < (↑k : Int))
   (.need ((0 : Int) ≤ z ∧ z < (↑k : Int))
   (.need ((4 : Int) ≠ (0 : Int))
   (.ite (Int.tmod (f (Int.toNat z)) (4 : Int) == (1 : Int))
   (.need (w64 (w * h) ≠ (0 : Int))
   (.need ((1 = 1 ∧ IntRow (List.length T) (BBd_q1 T)) ∧ List.length (intsD (DV.ro (List.length T) 1 (BBd_q1 T))) ≤ 1000000)
   (.ret
   (.normal,
   {
   tm :=
   [.unk, .ok (SV.d (DV.ro k 1 (BBd_q2 f))), .ok (SV.ptr 0 0), .unk, .ok (SV.ptr 1 0), .ok (SV.ptr 2 0),
   .ok (iv (w64 (z + (2 : Int)))), .unk, .unk, .unk, .unk, .unk, .unk, .unk, .unk, .unk, .unk, .unk, .unk, .unk, .unk, .unk, .unk, .unk, .unk, .unk, .unk, .unk, .unk,
   .unk, .unk, .unk, .unk, .unk, .unk, .unk, .unk, .unk, .unk, .unk, .unk, .unk, .unk, .unk, .unk, .unk, .unk, .unk, .unk, .unk, .unk, .unk, .unk, .unk, .unk,
   .unk, .unk, .unk, .unk],
   hp :=
   [some (.cells [iv w, iv h, iv t, iv p, SV.d (DV.ro m 1 c)]), some (.cells [SV.d (DV.x (.slice none 0 0)), SV.d (DV.x (.slice none 0 0))]),
   some
   (.cells
   [SV.d
   (DV.ro (List.length (wthD (DV.ro (List.length T) 1 (BBd_q1 T)) (Int.tmod (w64 (w64 ((256 : Int) * w64 (f (Int.toNat z))) + w64 (f (Int.toNat (w64 (z + (1 : Int))))))) (w64 (w * h)))))
   1 (BBd_q3 w h f T z)),
   SV.d (DV.ro (List.length N) 1 (BBd_q4 N))]),
   none],
   next := 4, hint := .nil }))))
   (.need (okG w h t p)
   (.need (gN w h t p ≠ (0 : Int))
   (.need ((1 = 1 ∧ IntRow (List.length N) (BBd_q4 N)) ∧ List.length (intsD (DV.ro (List.length N) 1 (BBd_q4 N))) ≤ 1000000)
   (.ret
   (.normal,
   {
   tm :=
   [.unk, .ok (SV.d (DV.ro k 1 (BBd_q2 f))), .ok (SV.ptr 0 0), .unk, .ok (SV.ptr 1 0), .ok (SV.ptr 2 0),
   .ok (iv (w64 (z + (2 : Int)))), .unk, .unk, .unk, .unk, .unk, .unk, .unk, .unk, .unk, .unk, .unk, .unk, .unk, .unk, .unk, .unk, .unk, .unk, .unk, .unk, .unk, .unk,
   .unk, .unk, .unk, .unk, .unk, .unk, .unk, .unk, .unk, .unk, .unk, .unk, .unk, .unk, .unk, .unk, .unk, .unk, .unk, .unk, .unk, .unk, .unk, .unk, .unk, .unk,
   .unk, .unk, .unk, .unk],
   hp :=
   [some (.cells [iv w, iv h, iv t, iv p, SV.d (DV.ro m 1 c)]), some (.cells [SV.d (DV.x (.slice none 0 0)), SV.d (DV.x (.slice none 0 0))]),
   some
   (.cells
   [SV.d (DV.ro (List.length T) 1 (BBd_q1 T)),
   SV.d
   (DV.ro (List.length (wthD (DV.ro (List.length N) 1 (BBd_q4 N)) (Int.tmod (w64 (w64 ((256 : Int) * w64 (f (Int.toNat z))) + w64 (f (Int.toNat (w64 (z + (1 : Int))))))) (gN w h t p))))
   1 (BBd_q5 w h t p f N z))]),
   none],
   next := 4, hint := .nil }))))))))))
  (.ret
   (.exit 0,
   {
   tm :=
   [.unk, .ok (SV.d (DV.ro k 1 (BBd_q2 f))), .ok (SV.ptr 0 0), .unk, .ok (SV.ptr 1 0), .ok (SV.ptr 2 0), .ok (iv z), .unk, .unk,
   .unk, .unk, .unk, .unk, .unk, .unk, .unk, .unk, .unk, .unk, .unk, .unk, .unk, .unk, .unk, .unk, .unk, .unk, .unk, .unk, .unk, .unk, .unk, .unk, .unk, .unk, .unk, .unk,
   .unk, .unk, .unk, .unk, .unk, .unk, .unk, .unk, .unk, .unk, .unk, .unk, .unk, .unk, .unk, .unk, .unk, .unk, .unk, .unk, .unk, .unk],
   hp :=
   [some (.cells [iv w, iv h, iv t, iv p, SV.d (DV.ro m 1 c)]), some (.cells [SV.d (DV.x (.slice none 0 0)), SV.d (DV.x (.slice none 0 0))]),
   some (.cells [SV.d (DV.ro (List.length T) 1 (BBd_q1 T)), SV.d (DV.ro (List.length N) 1 (BBd_q4 N))]), none],
   next := 4, hint := .nil }))

theorem BBd_eq (w h t p : Int) (m : Nat) (c : Nat → Nat → DV) (k : Nat) (f : Nat → Int) (T N : List Int) (z : Int) : cutT 4 [] [1, 2, 4, 5, 6] [3] 4 .nil (exec Tryz.prog CBd DBd 200 bodyBd (invBd w h t p m c k f T N z)) = BBd w h t p m c k f T N z := by kernel_rfl

noncomputable def KBd_q1 (T : List Int) (i : Nat) (x : Nat) : DV :=
  DV.x (.int .i64 (List.getD T i (0 : Int)))
noncomputable def KBd_q2 (N : List Int) (i : Nat) (x : Nat) : DV :=
  DV.x (.int .i64 (List.getD N i (0 : Int)))
noncomputable def KBd (w h t p : Int) (m : Nat) (c : Nat → Nat → DV) (k : Nat) (f : Nat → Int) (T N : List Int) (z : Int) : Tree SV :=
  .ret (SV.agg [SV.d (DV.ro (List.length T) 1 (KBd_q1 T)), SV.d (DV.ro (List.length N) 1 (KBd_q2 N))])

theorem KBd_eq (w h t p : Int) (m : Nat) (c : Nat → Nat → DV) (k : Nat) (f : Nat → Int) (T N : List Int) (z : Int) : codeK (sub [] (tBd w h t p m c k f)) (.exit 0) (invBd w h t p m c k f T N z) = KBd w h t p m c k f T N z := by kernel_rfl


end Go.Proofs.YtgahnelicbddcaaGreatDoor

/- Defects of a grid, out of bytes. -/
namespace Go.Sx
def bdSt (w h t p : Int) (f : Nat → Int) : Nat → List Int × List Int
  | 0 => ([], [])
  | j + 1 => if f (2 * j) % 4 = 1 then (wthL (bdSt w h t p f j).1 ((256 * f (2 * j) + f (2 * j + 1)) % (w * h)), (bdSt w h t p f j).2)
    else ((bdSt w h t p f j).1, wthL (bdSt w h t p f j).2 ((256 * f (2 * j) + f (2 * j + 1)) % gN w h t p))
def bdJ (k : Nat) : Nat := if k / 2 < 6 then k / 2 else 6
/-- The defects: the tiles, and the nodes. -/
def bdT (w h t p : Int) (k : Nat) (f : Nat → Nat → DV) : List Int := (bdSt w h t p (fun i => intCell (f i 0)) (bdJ k)).1
def bdNd (w h t p : Int) (k : Nat) (f : Nat → Nat → DV) : List Int := (bdSt w h t p (fun i => intCell (f i 0)) (bdJ k)).2
theorem bdSt_len (w h t p : Int) (f : Nat → Int) : ∀ j, (bdSt w h t p f j).1.length ≤ j ∧ (bdSt w h t p f j).2.length ≤ j
  | 0 => ⟨Nat.le_refl _, Nat.le_refl _⟩
  | j + 1 => by
    have ih := bdSt_len w h t p f j
    unfold bdSt
    split
    · have := wth_len (bdSt w h t p f j).1 ((256 * f (2 * j) + f (2 * j + 1)) % (w * h))
      simp only; omega
    · have := wth_len (bdSt w h t p f j).2 ((256 * f (2 * j) + f (2 * j + 1)) % gN w h t p)
      simp only; omega
theorem bdSt_ris {w h t p : Int} (h1 : 1 ≤ w * h) (h2 : 1 ≤ gN w h t p) (f : Nat → Int) : ∀ j, risP (bdSt w h t p f j).1 (w * h) ∧ risP (bdSt w h t p f j).2 (gN w h t p)
  | 0 => ⟨fun i hi => absurd hi (Nat.not_lt_zero _), fun i hi => absurd hi (Nat.not_lt_zero _)⟩
  | j + 1 => by
    have ih := bdSt_ris h1 h2 f j
    unfold bdSt
    split
    · exact ⟨wth_ris ih.1 ⟨Int.emod_nonneg _ (by omega), Int.emod_lt_of_pos _ (by omega)⟩, ih.2⟩
    · exact ⟨ih.1, wth_ris ih.2 ⟨Int.emod_nonneg _ (by omega), Int.emod_lt_of_pos _ (by omega)⟩⟩
end Go.Sx
namespace Go.Proofs.YtgahnelicbddcaaGreatDoor
open Go.Sx
set_option maxRecDepth 100000
theorem wh_pos {w h t p : Int} (hg : okG w h t p) : 1 ≤ w * h ∧ w * h ≤ 64 := by
  obtain ⟨⟨a1, a2⟩, ⟨b1, b2⟩, _⟩ := hg
  have h1 : 1 * 1 ≤ w * h := Int.mul_le_mul (by omega) (by omega) (by omega) (by omega)
  have h2 : w * h ≤ 8 * 8 := Int.mul_le_mul (by omega) (by omega) (by omega) (by omega)
  omega
theorem bd_sat {w h t p : Int} {m : Nat} {c : Nat → Nat → DV} {k : Nat} {f : Nat → Int} (hg : okG w h t p) (hf : ∀ i, i < k → 0 ≤ f i ∧ f i < 256) :
    Sat Tryz.prog (tBd w h t p m c k f) (· = .agg [ivL (bdSt w h t p f (bdJ k)).1, ivL (bdSt w h t p f (bdJ k)).2]) := by
  constructor
  rw [LBd_eq]; unfold LBd
  have ewh : w64 (w * h) = w * h := (wr hg).wh
  have hwh := wh_pos hg
  have hN := cnt_pos hg
  refine code_satS CBd_ok DBd_ok (n := 200) (n0 := 4) (nx := 4) (roots := []) (keep := [1, 2, 4, 5, 6]) (drop := [3]) (h := .nil) (c := codeC (sub [] (tBd w h t p m c k f))) (st := codeS (sub [] (tBd w h t p m c k f))) (k := codeK (sub [] (tBd w h t p m c k f))) (body := bodyBd) (by kernel_rfl) (by kernel_rfl)
    (fun q s => ∃ j : Nat, q = 7 - j ∧ j ≤ 6 ∧ 2 * j ≤ k ∧ s = invBd w h t p m c k f (bdSt w h t p f j).1 (bdSt w h t p f j).2 ((2 * j : Nat) : Int))
    (fun e s => e = .exit 0 ∧ ∃ z, s = invBd w h t p m c k f (bdSt w h t p f (bdJ k)).1 (bdSt w h t p f (bdJ k)).2 z)
    ⟨_, _, ⟨0, rfl, by omega, by omega, rfl⟩, ?_⟩ ?_ ?_
  · refine (entA_sound (s' := ⟨[.unk, .ok (byT k f), .ok (.ptr 0 0), .unk, .ok (.ptr 1 0), .ok (.ptr 2 0), .ok (iv 0)] ++ List.replicate 52 .unk, [some (.cells [iv w, iv h, iv t, iv p, .d (.ro m 1 c)]), some (.cells [nilD, nilD]), some (.cells [nilD, nilD]), none], 4, .nil⟩) (roots := []) (keep := [1, 2, 4, 5, 6]) (drop := [3]) (nx := 4) (h := .nil) (by kernel_rfl)).trans ?_
    refine gc_sound [] [] rfl ?_ ?_
    · simp [invBd, leTm, leTV, leSV, leSVs, rn, iv, leD, List.replicate, byT]
    · simp [invBd, leHp, leBlk, leSVs, leSV, rn, iv, leD, srcOf, hget, nilD, ivL, bdSt]
  · rintro q s ⟨j, rfl, hj, hjk, rfl⟩
    refine Sat.of_eq (BBd_eq w h t p m c k f _ _ _) ?_
    constructor; unfold BBd
    have hw1 : w64 (((2 * j : Nat) : Int) + 1) = ((2 * j + 1 : Nat) : Int) := by rw [w64_of (by omega) (by omega)]; omega
    have hw2 : w64 (((2 * j : Nat) : Int) + 2) = ((2 * (j + 1) : Nat) : Int) := by rw [w64_of (by omega) (by omega)]; omega
    have hl := bdSt_len w h t p f j
    have d1 : ∀ L : List Int, intsD (.ro L.length 1 fun i _ => .x (.int .i64 (L.getD i 0))) = L := fun L => lsOf_cellL L
    rw [hw1]
    refine ⟨fun h1 => ?_, fun h1 => ?_⟩
    · simp only [Bool.and_eq_true, decide_eq_true_eq] at h1
      have f0 := hf (2 * j) (by omega)
      have f1 := hf (2 * j + 1) (by omega)
      have et : Int.tmod (f (2 * j)) 4 = f (2 * j) % 4 := Int.tmod_eq_emod_of_nonneg f0.1
      have ev : w64 (w64 (256 * w64 (f (2 * j))) + w64 (f (2 * j + 1))) = 256 * f (2 * j) + f (2 * j + 1) := by
        rw [w64_of (n := f (2 * j)) (by omega) (by omega), w64_of (n := f (2 * j + 1)) (by omega) (by omega), w64_of (n := 256 * f (2 * j)) (by omega) (by omega), w64_of (by omega) (by omega)]
      have q1 : BBd_q1 (bdSt w h t p f j).1 = fun i _ => .x (.int .i64 ((bdSt w h t p f j).1.getD i 0)) := rfl
      have q4 : BBd_q4 (bdSt w h t p f j).2 = fun i _ => .x (.int .i64 ((bdSt w h t p f j).2.getD i 0)) := rfl
      have w3 : ∀ x, wthD (.ro (bdSt w h t p f j).1.length 1 (BBd_q1 (bdSt w h t p f j).1)) x = wthL (bdSt w h t p f j).1 x := fun x => by unfold wthD; rw [q1, d1]
      have w4 : ∀ x, wthD (.ro (bdSt w h t p f j).2.length 1 (BBd_q4 (bdSt w h t p f j).2)) x = wthL (bdSt w h t p f j).2 x := fun x => by unfold wthD; rw [q4, d1]
      have s1 : bdSt w h t p f (j + 1) = if f (2 * j) % 4 = 1 then (wthL (bdSt w h t p f j).1 ((256 * f (2 * j) + f (2 * j + 1)) % (w * h)), (bdSt w h t p f j).2)
          else ((bdSt w h t p f j).1, wthL (bdSt w h t p f j).2 ((256 * f (2 * j) + f (2 * j + 1)) % gN w h t p)) := rfl
      have q3 : BBd_q3 w h f (bdSt w h t p f j).1 ((2 * j : Nat) : Int) = fun i _ => .x (.int .i64 ((wthL (bdSt w h t p f j).1 ((256 * f (2 * j) + f (2 * j + 1)) % (w * h))).getD i 0)) := by
        funext i x; unfold BBd_q3; rw [w3, hw1, Int.toNat_natCast, Int.toNat_natCast, ev, ewh, Int.tmod_eq_emod_of_nonneg (by omega)]
      have q5 : BBd_q5 w h t p f (bdSt w h t p f j).2 ((2 * j : Nat) : Int) = fun i _ => .x (.int .i64 ((wthL (bdSt w h t p f j).2 ((256 * f (2 * j) + f (2 * j + 1)) % gN w h t p)).getD i 0)) := by
        funext i x; unfold BBd_q5; rw [w4, hw1, Int.toNat_natCast, Int.toNat_natCast, ev, Int.tmod_eq_emod_of_nonneg (by omega)]
      rw [w3, w4, Int.toNat_natCast, Int.toNat_natCast, ev, ewh, et, Int.tmod_eq_emod_of_nonneg (show 0 ≤ 256 * f (2 * j) + f (2 * j + 1) by omega), Int.tmod_eq_emod_of_nonneg (show 0 ≤ 256 * f (2 * j) + f (2 * j + 1) by omega), q3, q5, hw2]
      refine ⟨by omega, by omega, by omega, by omega, fun h2 => ⟨by omega, ⟨⟨rfl, fun i hi => rfl⟩, by rw [q1, d1]; omega⟩, 7 - (j + 1), _, by omega, ⟨j + 1, rfl, by omega, by omega, rfl⟩, ?_⟩, fun h2 => ⟨hg, by omega, ⟨⟨rfl, fun i hi => rfl⟩, by rw [q4, d1]; omega⟩, 7 - (j + 1), _, by omega, ⟨j + 1, rfl, by omega, by omega, rfl⟩, ?_⟩⟩
      · rw [beq_iff_eq] at h2
        rw [s1, if_pos h2]
        exact Gc.refl _ _
      · rw [beq_eq_false_iff_ne] at h2
        rw [s1, if_neg h2]
        exact Gc.refl _ _
    · simp only [Bool.and_eq_false_iff, decide_eq_false_iff_not] at h1
      have hJ : bdJ k = j := by unfold bdJ; split <;> omega
      rw [hJ]
      exact ⟨_, ⟨rfl, _, rfl⟩, Gc.refl _ _⟩
  · rintro e s ⟨rfl, z, rfl⟩
    exact Sat.of_eq (KBd_eq w h t p m c k f _ _ z) ⟨rfl⟩
noncomputable def cBad : Ctr := fun ss => match ss with
  | [.agg [.d (.x (.int .i64 w)), .d (.x (.int .i64 h)), .d (.x (.int .i64 t)), .d (.x (.int .i64 p)), .d (.ro m 1 c)], .d (.ro k 1 f)] => .nd (okG w h t p) (.need (ByteRow k f) (.ret (.agg [ivL (bdT w h t p k f), ivL (bdNd w h t p k f)])))
  | _ => .fail
theorem cBad_ok : CtrOK Tryz.prog 15 cBad := by
  refine ctrOK_leS CBd_ok DBd_ok (by kernel_rfl) (by kernel_rfl) fun ss r hr => ?_
  unfold cBad at hr
  split at hr
  · rename_i w h t p m c k f
    obtain ⟨h1, h3, rfl⟩ := hr
    have k0 := bd_sat (m := m) (c := c) (f := fun i => intCell (f i 0)) h1 (fun i hi => (h3 i hi).2)
    refine ⟨_, 200, .nil, ?_, k0⟩
    unfold gridV byT iv
    simp only [leSVs, leSV, leD, and_true, true_and]
    refine ⟨fun i j hi hj => trivial, fun i j hi hj => ?_⟩
    obtain rfl : j = 0 := by omega
    exact (h3 i hi).1
  · exact hr.elim
theorem bd_ris {w h t p : Int} {k : Nat} {f : Nat → Nat → DV} (hg : okG w h t p) : risP (bdT w h t p k f) (w * h) ∧ risP (bdNd w h t p k f) (gN w h t p) := bdSt_ris (wh_pos hg).1 (cnt_pos hg).1 _ _
end Go.Proofs.YtgahnelicbddcaaGreatDoor

/- ChipTexts: contracts whose results are told by parameters. -/
namespace Go.Sx
/-- The made grid is this one; the defects are these. -/
def _root_.Go.Proofs.MdIs (w h t p : Int) (m : Nat) (f : Nat → Nat → DV) (W H T : Int) (mk : Nat) (ck : Nat → Nat → DV) : Prop :=
  Proofs.RawOK w h t p m f ∧ anN 2 4 w = W ∧ anN 2 4 h = H ∧ anN 2 3 t = T ∧ (anK 2 4 w h m f).length = mk ∧ (fun (i _ : Nat) => DV.x (.int .i64 ((anK 2 4 w h m f).getD i 0))) = ck
def _root_.Go.Proofs.BdIs (w h t p : Int) (k : Nat) (f : Nat → Nat → DV) (n0 : Nat) (c0 : Nat → Nat → DV) (n1 : Nat) (c1 : Nat → Nat → DV) : Prop :=
  Proofs.okG w h t p ∧ Proofs.ByteRow k f ∧ (bdT w h t p k f).length = n0 ∧ (fun (i _ : Nat) => DV.x (.int .i64 ((bdT w h t p k f).getD i 0))) = c0 ∧ (bdNd w h t p k f).length = n1 ∧ (fun (i _ : Nat) => DV.x (.int .i64 ((bdNd w h t p k f).getD i 0))) = c1
end Go.Sx
namespace Go.Proofs.YtgahnelicbddcaaGreatDoor
open Go.Sx
set_option maxRecDepth 100000
noncomputable def cMdV (W H T : Int) (mk : Nat) (ck : Nat → Nat → DV) : Ctr := fun ss => match ss with
  | [.agg [.d (.x (.int .u8 w)), .d (.x (.int .u8 h)), .d (.x (.int .u8 t)), .d (.x (.int .u8 p)), .d (.ro m 1 f)]] => .need (MdIs w h t p m f W H T mk ck) (.ret (.agg [iv W, iv H, iv T, iv 24, .d (.ro mk 1 ck)]))
  | _ => .fail
theorem cMdV_ok (W H T : Int) (mk : Nat) (ck : Nat → Nat → DV) : CtrOK Tryz.prog 14 (cMdV W H T mk ck) := cMd_ok.mono fun ss r h => by
  unfold cMdV at h
  split at h
  · obtain ⟨⟨h1, rfl, rfl, rfl, rfl, rfl⟩, rfl⟩ := h
    exact ⟨h1, rfl⟩
  · exact h.elim
noncomputable def cBadV (n0 : Nat) (c0 : Nat → Nat → DV) (n1 : Nat) (c1 : Nat → Nat → DV) : Ctr := fun ss => match ss with
  | [.agg [.d (.x (.int .i64 w)), .d (.x (.int .i64 h)), .d (.x (.int .i64 t)), .d (.x (.int .i64 p)), .d (.ro m 1 c)], .d (.ro k 1 f)] => .need (BdIs w h t p k f n0 c0 n1 c1) (.ret (.agg [.d (.ro n0 1 c0), .d (.ro n1 1 c1)]))
  | _ => .fail
theorem cBadV_ok (n0 : Nat) (c0 : Nat → Nat → DV) (n1 : Nat) (c1 : Nat → Nat → DV) : CtrOK Tryz.prog 15 (cBadV n0 c0 n1 c1) := cBad_ok.mono fun ss r h => by
  unfold cBadV at h
  split at h
  · obtain ⟨⟨h1, h2, rfl, rfl, rfl, rfl⟩, rfl⟩ := h
    exact ⟨h1, h2, rfl⟩
  · exact h.elim
/-- The text of a chip, by a parameter. -/
noncomputable def cTxV (tx : Int → Int → Int → Int → DV → DV → List UInt8) : Ctr := fun ss => match ss with
  | [.agg [.d (.x (.int .i64 w)), .d (.x (.int .i64 h)), .d (.x (.int .i64 t)), .d (.x (.int .i64 p)), .d (.ro m 1 c), .d (.ro k 2 s)]] => .need (TxtRO w h t p m c k s) (.ret (strV (tx w h t p (.ro m 1 c) (.ro k 2 s))))
  | _ => .fail
def txD (w h t p : Int) (kd sd : DV) : List UInt8 := txtT w h t p (intsD kd) (badsD sd)
theorem cTxV_ok : CtrOK Tryz.prog 16 (cTxV txD) := cTxt_ok.mono fun ss r h => by
  unfold cTxV at h
  split at h
  · exact h
  · exact h.elim
/-- What is read out of a text, by parameters. -/
noncomputable def cPaV (gw gh gt gp : List UInt8 → Int) (gk : List UInt8 → List Int) (gn : List UInt8 → Nat) (gs : List UInt8 → Nat → Nat → DV) (ge : List UInt8 → Int) : Ctr := fun ss => match ss with
  | [.d (.x (.string s))] => .need (s.size ≤ 800000) (.ret (.tup [.agg [iv (gw s.data.toList), iv (gh s.data.toList), iv (gt s.data.toList), iv (gp s.data.toList), ivL (gk s.data.toList), .d (.ro (gn s.data.toList) 2 (gs s.data.toList))], iv (ge s.data.toList)]))
  | _ => .fail
def pN (s : List UInt8) : Nat := (pS s).length
def pSd (s : List UInt8) : Nat → Nat → DV := badC (pS s)
theorem cPaV_ok : CtrOK Tryz.prog 46 (cPaV pW pH pT pP pK pN pSd pE) := cPar_ok
def _root_.Go.Proofs.ChRO (m : Nat) (c : Nat → Nat → DV) (k : Nat) (s : Nat → Nat → DV) : Prop := ChOK (.ro m 1 c) (.ro k 2 s)
def _root_.Go.Sx.vchR (w h t p : Int) (m : Nat) (c : Nat → Nat → DV) (k : Nat) (s : Nat → Nat → DV) : Int := vchD w h t p (.ro m 1 c) (.ro k 2 s)
def _root_.Go.Sx.smeR (w h t p : Int) (m : Nat) (c : Nat → Nat → DV) (k : Nat) (s : Nat → Nat → DV) (w2 h2 t2 p2 : Int) (m2 : Nat) (c2 : Nat → Nat → DV) (k2 : Nat) (s2 : Nat → Nat → DV) : Bool := smeD w h t p (.ro m 1 c) (.ro k 2 s) w2 h2 t2 p2 (.ro m2 1 c2) (.ro k2 2 s2)
noncomputable def cVcR : Ctr := fun ss => match ss with
  | [.agg [.d (.x (.int .i64 w)), .d (.x (.int .i64 h)), .d (.x (.int .i64 t)), .d (.x (.int .i64 p)), .d (.ro m 1 c), .d (.ro k 2 s)]] => .need (ChRO m c k s) (.ret (iv (vchR w h t p m c k s)))
  | _ => .fail
theorem cVc20_ok : CtrOK Tryz.prog 20 cVcR := cVh_ok.mono fun ss r h => by
  unfold cVcR at h
  split at h
  · exact h
  · exact h.elim
theorem cVc19_ok : CtrOK Tryz.prog 19 cVcR := cVi_ok.mono fun ss r h => by
  unfold cVcR at h
  split at h
  · exact h
  · exact h.elim
noncomputable def cSmR : Ctr := fun ss => match ss with
  | [.agg [.d (.x (.int .i64 w)), .d (.x (.int .i64 h)), .d (.x (.int .i64 t)), .d (.x (.int .i64 p)), .d (.ro m 1 c), .d (.ro k 2 s)], .agg [.d (.x (.int .i64 w2)), .d (.x (.int .i64 h2)), .d (.x (.int .i64 t2)), .d (.x (.int .i64 p2)), .d (.ro m2 1 c2), .d (.ro k2 2 s2)]] => .need (ChRO m c k s ∧ ChRO m2 c2 k2 s2) (.ret (bv (smeR w h t p m c k s w2 h2 t2 p2 m2 c2 k2 s2)))
  | _ => .fail
theorem cSmR_ok : CtrOK Tryz.prog 18 cSmR := cSme_ok.mono fun ss r h => by
  unfold cSmR at h
  split at h
  · exact h
  · exact h.elim
end Go.Proofs.YtgahnelicbddcaaGreatDoor

/- ChipTexts: the trees of the law, by parameters. -/
namespace Go.Sx
/-- What is read out of a text. -/
structure PG where
  gw : List UInt8 → Int
  gh : List UInt8 → Int
  gt : List UInt8 → Int
  gp : List UInt8 → Int
  gk : List UInt8 → List Int
  gn : List UInt8 → Nat
  gs : List UInt8 → Nat → Nat → DV
  ge : List UInt8 → Int
abbrev bL (O : ByteArray) : List UInt8 := O.data.toList
def g4 (P : PG) (O : ByteArray) (i _ : Nat) : DV := .x (.int .i64 ((P.gk (bL O)).getD i 0))
def v4 (P : PG) (O : ByteArray) : Bool := vchR (P.gw (bL O)) (P.gh (bL O)) (P.gt (bL O)) (P.gp (bL O)) (P.gk (bL O)).length (g4 P O) (P.gn (bL O)) (P.gs (bL O)) == 0
def w4 (P : PG) (O : ByteArray) : Bool := v4 P O && (vchR (P.gw (bL O)) (P.gh (bL O)) (P.gt (bL O)) (P.gp (bL O)) (P.gk (bL O)).length (g4 P O) (P.gn (bL O)) (P.gs (bL O)) == 0)
/-- The parse of the changed text. -/
def f4 (tx : Int → Int → Int → Int → DV → DV → List UInt8) (P : PG) (S O : ByteArray) : Tree SV :=
  .need (O.size ≤ 800000) (.ite (P.ge (bL O) != 0) (.ret (bv (P.ge (bL O) == 5 && P.gw (bL O) == 0 && !strEq O S && true)))
    (.need (Proofs.ChRO (P.gk (bL O)).length (g4 P O) (P.gn (bL O)) (P.gs (bL O))) (.need (v4 P O = true → Proofs.ChRO (P.gk (bL O)).length (g4 P O) (P.gn (bL O)) (P.gs (bL O)))
    (.need (w4 P O = true → Proofs.TxtRO (P.gw (bL O)) (P.gh (bL O)) (P.gt (bL O)) (P.gp (bL O)) (P.gk (bL O)).length (g4 P O) (P.gn (bL O)) (P.gs (bL O)))
    (.ret (bv (w4 P O && strEq (strB (tx (P.gw (bL O)) (P.gh (bL O)) (P.gt (bL O)) (P.gp (bL O)) (.ro (P.gk (bL O)).length 1 (g4 P O)) (.ro (P.gn (bL O)) 2 (P.gs (bL O))))) O && true)))))))
def zq4 (zb : Int) (i j : Nat) : DV := dsAt [DV.x (.int .u8 zb)] (0 + (0 + i) * 1 + j)
def slE (n0 : Nat) (c0 : Nat → Nat → DV) (n1 : Nat) (c1 : Nat → Nat → DV) (i j : Nat) : DV := dsAt [DV.ro n0 1 c0, DV.ro n1 1 c1] (0 + (0 + i) * 2 + j)
def slO (n0 : Nat) (c0 : Nat → Nat → DV) (n1 : Nat) (c1 : Nat → Nat → DV) (i j : Nat) : DV :=
  selD (decide (0 + i < 1)) (dsAt [DV.ro n0 1 c0, DV.ro n1 1 c1] (0 + (0 + (0 + i)) * 2 + j)) (dsAt [DV.x (.slice none 0 0), DV.x (.slice none 0 0)] (0 + (0 + (0 + i - 1)) * 2 + j))
def e1 (S : ByteArray) (A : Int) : ByteArray := S.extract 0 A.toNat
def e2 (S : ByteArray) (A : Int) : ByteArray := S.extract (w64 (A + 1)).toNat S.size
def e3 (S : ByteArray) (A : Int) : ByteArray := S.extract A.toNat S.size
/-- The change of the text. -/
def m4 (tx : Int → Int → Int → Int → DV → DV → List UInt8) (P : PG) (zk zb : Int) (S : ByteArray) (A : Int) : Fin 3 → Tree SV
  | 0 => .need ((Int.tmod zk 3 == 1) = false) (.need ((3 : Int) ≠ 0) (.need ((Int.tmod zk 3 == 2) = false) (f4 tx P S (e1 S A ++ strOf 1 (zq4 zb) ++ e2 S A))))
  | 1 => .need ((Int.tmod zk 3 == 1) = true) (.need ((0 ≤ A ∧ A.toNat ≤ S.size) ∧ True) (.need (1 ≤ 1) (.need (∀ i, i < 1 → isU8 (zq4 zb i 0) = true) (.need ((e1 S A).size + 1 ≤ 9223372036854775807) (.need (True ∧ 0 ≤ A ∧ A.toNat ≤ S.size) (.need ((e1 S A ++ strOf 1 (zq4 zb)).size + (e3 S A).size ≤ 9223372036854775807)
      (.need ((3 : Int) ≠ 0) (.need ((Int.tmod zk 3 == 2) = false) (f4 tx P S (e1 S A ++ strOf 1 (zq4 zb) ++ e3 S A))))))))))
  | 2 => .need ((Int.tmod zk 3 == 1) = false) (.need ((3 : Int) ≠ 0) (.need ((Int.tmod zk 3 == 2) = true) (.need ((0 ≤ A ∧ A.toNat ≤ S.size) ∧ True) (.need (True ∧ 0 ≤ w64 (A + 1) ∧ (w64 (A + 1)).toNat ≤ S.size) (.need ((e1 S A).size + (e2 S A).size ≤ 9223372036854775807) (f4 tx P S (e1 S A ++ e2 S A)))))))
def l4 (tx : Int → Int → Int → Int → DV → DV → List UInt8) (P : PG) (W H T : Int) (mk : Nat) (ck : Nat → Nat → DV) (K : Nat) (sl : Nat → Nat → DV) (zk zb za : Int) (S : ByteArray) (r : Fin 3) : Tree SV :=
  .need (2 ≤ 2) (.need (Proofs.TxtRO W H T 24 mk ck K sl) (.need (S.size ≤ 800000) (.need ((P.ge (bL S) != 0) = false → 2 ≤ 2) (.need ((P.ge (bL S) != 0) = false → Proofs.ChRO (P.gk (bL S)).length (g4 P S) (P.gn (bL S)) (P.gs (bL S)) ∧ Proofs.ChRO mk ck K sl)
    (.need ((P.ge (bL S) != 0 || !smeR (P.gw (bL S)) (P.gh (bL S)) (P.gt (bL S)) (P.gp (bL S)) (P.gk (bL S)).length (g4 P S) (P.gn (bL S)) (P.gs (bL S)) W H T 24 mk ck K sl || decide ((S.size : Int) < 10)) = false)
    (.need ((S.size : Int) ≠ 0) (.need ((0 ≤ Int.tmod (w64 za) S.size ∧ (Int.tmod (w64 za) S.size).toNat ≤ S.size) ∧ True) (.need (1 ≤ 1) (.need (∀ i, i < 1 → isU8 (zq4 zb i 0) = true) (.need ((e1 S (Int.tmod (w64 za) S.size)).size + 1 ≤ 9223372036854775807)
    (.need (True ∧ 0 ≤ w64 (Int.tmod (w64 za) S.size + 1) ∧ (w64 (Int.tmod (w64 za) S.size + 1)).toNat ≤ S.size) (.need ((e1 S (Int.tmod (w64 za) S.size) ++ strOf 1 (zq4 zb)).size + (e2 S (Int.tmod (w64 za) S.size)).size ≤ 9223372036854775807) (.need ((3 : Int) ≠ 0)
    (m4 tx P zk zb S (Int.tmod (w64 za) S.size) r))))))))))))))
def strS (tx : Int → Int → Int → Int → DV → DV → List UInt8) (W H T : Int) (mk : Nat) (ck : Nat → Nat → DV) (K : Nat) (sl : Nat → Nat → DV) : ByteArray := strB (tx W H T 24 (.ro mk 1 ck) (.ro K 2 sl))
def t4E (w h t p : Int) (m : Nat) (f : Nat → Nat → DV) (k : Nat) (b : Nat → Nat → DV) (zk zb za : Int) (W H T : Int) (mk : Nat) (ck : Nat → Nat → DV) (n0 : Nat) (c0 : Nat → Nat → DV) (n1 : Nat) (c1 : Nat → Nat → DV) (tx : Int → Int → Int → Int → DV → DV → List UInt8) (P : PG) (r : Fin 3) : Tree SV :=
  .need (false = false) (.need (Proofs.MdIs w h t p m f W H T mk ck) (.need (Proofs.BdIs W H T 24 k b n0 c0 n1 c1) (.need ((2 : Int) ≠ 0) (.need ((Int.tmod zk 2 == 1) = false) (l4 tx P W H T mk ck 1 (slE n0 c0 n1 c1) zk zb za (strS tx W H T mk ck 1 (slE n0 c0 n1 c1)) r)))))
def t4O (w h t p : Int) (m : Nat) (f : Nat → Nat → DV) (k : Nat) (b : Nat → Nat → DV) (zk zb za : Int) (W H T : Int) (mk : Nat) (ck : Nat → Nat → DV) (n0 : Nat) (c0 : Nat → Nat → DV) (n1 : Nat) (c1 : Nat → Nat → DV) (tx : Int → Int → Int → Int → DV → DV → List UInt8) (P : PG) (r : Fin 3) : Tree SV :=
  .need (false = false) (.need (Proofs.MdIs w h t p m f W H T mk ck) (.need (Proofs.BdIs W H T 24 k b n0 c0 n1 c1) (.need ((2 : Int) ≠ 0) (.need ((Int.tmod zk 2 == 1) = true) (.need (2 ≤ 2 ∧ 2 ≤ 2 ∧ 96 ≤ 140737488355328) (l4 tx P W H T mk ck 2 (slO n0 c0 n1 c1) zk zb za (strS tx W H T mk ck 2 (slO n0 c0 n1 c1)) r))))))
end Go.Sx
namespace Go.Proofs.YtgahnelicbddcaaGreatDoor
open Go.Sx
set_option maxRecDepth 100000
noncomputable def manX (W H T : Int) (mk : Nat) (ck : Nat → Nat → DV) (n0 : Nat) (c0 : Nat → Nat → DV) (n1 : Nat) (c1 : Nat → Nat → DV) (tx : Int → Int → Int → Int → DV → DV → List UInt8) (P : PG) : FuncId → Option Ctr := fun k => match k with
  | 9 => some cEx
  | 14 => some (cMdV W H T mk ck)
  | 15 => some (cBadV n0 c0 n1 c1)
  | 16 => some (cTxV tx)
  | 46 => some (cPaV P.gw P.gh P.gt P.gp P.gk P.gn P.gs P.ge)
  | 18 => some cSmR
  | 19 => some cVcR
  | 20 => some cVcR
  | _ => none
def PD : PG := ⟨pW, pH, pT, pP, pK, pN, pSd, pE⟩
theorem manX_ok (W H T : Int) (mk : Nat) (ck : Nat → Nat → DV) (n0 : Nat) (c0 : Nat → Nat → DV) (n1 : Nat) (c1 : Nat → Nat → DV) (k : Nat) (c : Ctr) (h : manX W H T mk ck n0 c0 n1 c1 txD PD k = some c) : CtrOK Tryz.prog k c ∧ goodF Tryz.prog k = true := by
  unfold manX at h
  split at h
  · cases h; exact ⟨cEx_ok, by kernel_rfl⟩
  · cases h; exact ⟨cMdV_ok _ _ _ _ _, by kernel_rfl⟩
  · cases h; exact ⟨cBadV_ok _ _ _ _, by kernel_rfl⟩
  · cases h; exact ⟨cTxV_ok, by kernel_rfl⟩
  · cases h; exact ⟨cPaV_ok, by kernel_rfl⟩
  · cases h; exact ⟨cSmR_ok, by kernel_rfl⟩
  · cases h; exact ⟨cVc19_ok, by kernel_rfl⟩
  · cases h; exact ⟨cVc20_ok, by kernel_rfl⟩
  · cases h
noncomputable def CX4 (W H T : Int) (mk : Nat) (ck : Nat → Nat → DV) (n0 : Nat) (c0 : Nat → Nat → DV) (n1 : Nat) (c1 : Nat → Nat → DV) (tx : Int → Int → Int → Int → DV → DV → List UInt8) (P : PG) : Ctx := ctxN Tryz.prog (manX W H T mk ck n0 c0 n1 c1 tx P) (fun k => k == 17) 200 .nil 8
theorem CX4_ok (W H T : Int) (mk : Nat) (ck : Nat → Nat → DV) (n0 : Nat) (c0 : Nat → Nat → DV) (n1 : Nat) (c1 : Nat → Nat → DV) : CtxOK Tryz.prog (CX4 W H T mk ck n0 c0 n1 c1 txD PD) := ctxN_ok mixed (manX_ok W H T mk ck n0 c0 n1 c1) 8
noncomputable def DX4 (W H T : Int) (mk : Nat) (ck : Nat → Nat → DV) (n0 : Nat) (c0 : Nat → Nat → DV) (n1 : Nat) (c1 : Nat → Nat → DV) (tx : Int → Int → Int → Int → DV → DV → List UInt8) (P : PG) : Dr := fun _ => drawn Tryz.prog (CX4 W H T mk ck n0 c0 n1 c1 tx P)
theorem DX4_ok (W H T : Int) (mk : Nat) (ck : Nat → Nat → DV) (n0 : Nat) (c0 : Nat → Nat → DV) (n1 : Nat) (c1 : Nat → Nat → DV) : DrOK Tryz.prog (CX4 W H T mk ck n0 c0 n1 c1 txD PD) (DX4 W H T mk ck n0 c0 n1 c1 txD PD) := drawn_ok (CX4_ok W H T mk ck n0 c0 n1 c1) mixed
noncomputable def tL4 (w h t p : Int) (m : Nat) (f : Nat → Nat → DV) (k : Nat) (b : Nat → Nat → DV) (zk zb za : Int) (W H T : Int) (mk : Nat) (ck : Nat → Nat → DV) (n0 : Nat) (c0 : Nat → Nat → DV) (n1 : Nat) (c1 : Nat → Nat → DV) (tx : Int → Int → Int → Int → DV → DV → List UInt8) (P : PG) (hn : Hint) : Tree SV := fnT Tryz.prog (CX4 W H T mk ck n0 c0 n1 c1 tx P) (DX4 W H T mk ck n0 c0 n1 c1 tx P) 200 (fnOf Tryz.prog 4) (bodyOf Tryz.prog 4) [rawF w h t p m f, .d (.ro k 1 b), .agg [u8V zk, u8V zb, u16V za]] hn
theorem t4_E0 (w h t p : Int) (m : Nat) (f : Nat → Nat → DV) (k : Nat) (b : Nat → Nat → DV) (zk zb za : Int) (W H T : Int) (mk : Nat) (ck : Nat → Nat → DV) (n0 : Nat) (c0 : Nat → Nat → DV) (n1 : Nat) (c1 : Nat → Nat → DV) (tx : Int → Int → Int → Int → DV → DV → List UInt8) (P : PG) :
    tL4 w h t p m f k b zk zb za W H T mk ck n0 c0 n1 c1 tx P (.f (.f (.f (.f (.f .nil))))) = t4E w h t p m f k b zk zb za W H T mk ck n0 c0 n1 c1 tx P 0 := by kernel_rfl
theorem t4_E1 (w h t p : Int) (m : Nat) (f : Nat → Nat → DV) (k : Nat) (b : Nat → Nat → DV) (zk zb za : Int) (W H T : Int) (mk : Nat) (ck : Nat → Nat → DV) (n0 : Nat) (c0 : Nat → Nat → DV) (n1 : Nat) (c1 : Nat → Nat → DV) (tx : Int → Int → Int → Int → DV → DV → List UInt8) (P : PG) :
    tL4 w h t p m f k b zk zb za W H T mk ck n0 c0 n1 c1 tx P (.f (.f (.f (.t (.f .nil))))) = t4E w h t p m f k b zk zb za W H T mk ck n0 c0 n1 c1 tx P 1 := by kernel_rfl
theorem t4_E2 (w h t p : Int) (m : Nat) (f : Nat → Nat → DV) (k : Nat) (b : Nat → Nat → DV) (zk zb za : Int) (W H T : Int) (mk : Nat) (ck : Nat → Nat → DV) (n0 : Nat) (c0 : Nat → Nat → DV) (n1 : Nat) (c1 : Nat → Nat → DV) (tx : Int → Int → Int → Int → DV → DV → List UInt8) (P : PG) :
    tL4 w h t p m f k b zk zb za W H T mk ck n0 c0 n1 c1 tx P (.f (.f (.f (.f (.t .nil))))) = t4E w h t p m f k b zk zb za W H T mk ck n0 c0 n1 c1 tx P 2 := by kernel_rfl
theorem t4_O0 (w h t p : Int) (m : Nat) (f : Nat → Nat → DV) (k : Nat) (b : Nat → Nat → DV) (zk zb za : Int) (W H T : Int) (mk : Nat) (ck : Nat → Nat → DV) (n0 : Nat) (c0 : Nat → Nat → DV) (n1 : Nat) (c1 : Nat → Nat → DV) (tx : Int → Int → Int → Int → DV → DV → List UInt8) (P : PG) :
    tL4 w h t p m f k b zk zb za W H T mk ck n0 c0 n1 c1 tx P (.f (.t (.f (.f (.f .nil))))) = t4O w h t p m f k b zk zb za W H T mk ck n0 c0 n1 c1 tx P 0 := by kernel_rfl
theorem t4_O1 (w h t p : Int) (m : Nat) (f : Nat → Nat → DV) (k : Nat) (b : Nat → Nat → DV) (zk zb za : Int) (W H T : Int) (mk : Nat) (ck : Nat → Nat → DV) (n0 : Nat) (c0 : Nat → Nat → DV) (n1 : Nat) (c1 : Nat → Nat → DV) (tx : Int → Int → Int → Int → DV → DV → List UInt8) (P : PG) :
    tL4 w h t p m f k b zk zb za W H T mk ck n0 c0 n1 c1 tx P (.f (.t (.f (.t (.f .nil))))) = t4O w h t p m f k b zk zb za W H T mk ck n0 c0 n1 c1 tx P 1 := by kernel_rfl
theorem t4_O2 (w h t p : Int) (m : Nat) (f : Nat → Nat → DV) (k : Nat) (b : Nat → Nat → DV) (zk zb za : Int) (W H T : Int) (mk : Nat) (ck : Nat → Nat → DV) (n0 : Nat) (c0 : Nat → Nat → DV) (n1 : Nat) (c1 : Nat → Nat → DV) (tx : Int → Int → Int → Int → DV → DV → List UInt8) (P : PG) :
    tL4 w h t p m f k b zk zb za W H T mk ck n0 c0 n1 c1 tx P (.f (.t (.f (.f (.t .nil))))) = t4O w h t p m f k b zk zb za W H T mk ck n0 c0 n1 c1 tx P 2 := by kernel_rfl
end Go.Proofs.YtgahnelicbddcaaGreatDoor

/- ChipTexts: the law. -/
namespace Go.Sx
theorem strOf_size (n : Nat) (c : Nat → Nat → DV) : (strOf n c).size = n := by simp [strOf, ByteArray.size]
theorem bdSt_le (w h t p : Int) (k : Nat) (f : Nat → Nat → DV) : (bdT w h t p k f).length ≤ 6 ∧ (bdNd w h t p k f).length ≤ 6 := by
  have h1 : bdJ k ≤ 6 := by unfold bdJ; split <;> omega
  have h2 := bdSt_len w h t p (fun i => intCell (f i 0)) (bdJ k)
  unfold bdT bdNd; omega
end Go.Sx
namespace Go.Proofs.YtgahnelicbddcaaGreatDoor
open Go.Sx
set_option maxRecDepth 100000
theorem slotT_le {s : List Int × List Int} (h : (s.1.length ≤ 10 ∧ ∀ n ∈ s.1, -9223372036854775808 ≤ n ∧ n ≤ 9223372036854775807) ∧ (s.2.length ≤ 10 ∧ ∀ n ∈ s.2, -9223372036854775808 ≤ n ∧ n ≤ 9223372036854775807)) : (slotT s).length ≤ 1000 := by
  have h1 := numT_len h.1.2
  have h2 := numT_len h.2.2
  unfold slotT
  simp only [List.length_append]
  have : sTil.length = 10 := rfl
  have : sNod.length = 6 := rfl
  have : [(10 : UInt8)].length = 1 := rfl
  omega
theorem slots_le : ∀ {S : List (List Int × List Int)}, (∀ s ∈ S, (slotT s).length ≤ 1000) → (S.flatMap slotT).length ≤ 1000 * S.length
  | [], _ => by simp
  | s :: S, h => by
    rw [List.flatMap_cons, List.length_append, List.length_cons]
    have h1 := h s (List.mem_cons_self ..)
    have h2 := slots_le (S := S) fun x hx => h x (List.mem_cons_of_mem _ hx)
    omega
theorem txt_size {w h t p : Int} {K : List Int} {S : List (List Int × List Int)} (hv : vchP w h t p K S) (hl : ∀ s ∈ S, s.1.length ≤ 10 ∧ s.2.length ≤ 10) : 10 ≤ (txtT w h t p K S).length ∧ (txtT w h t p K S).length ≤ 20000 := by
  obtain ⟨⟨a1, a2, a3, a4⟩, a5, b1, b2⟩ := vch_txt hv
  have hS := hv.2.1
  have h1 : (headT w h t p).length ≤ 93 := headT_len (by
    intro n hn
    simp only [List.mem_cons, List.not_mem_nil, or_false] at hn
    rcases hn with rfl | rfl | rfl | rfl <;> omega)
  have h2 := rowsT_len w.toNat K h.toNat
  have h3 : (w.toNat + 1) * h.toNat ≤ 9 * 8 := Nat.mul_le_mul (by omega) (by omega)
  have h4 := slots_le (S := S) fun s hs => slotT_le ⟨⟨(hl s hs).1, (b2 s hs).1.2⟩, (hl s hs).2, (b2 s hs).2.2⟩
  have h5 : 17 ≤ (S.flatMap slotT).length := by
    cases S with
    | nil => exact absurd hS.1 (by simp)
    | cons s S =>
      rw [List.flatMap_cons, List.length_append]
      unfold slotT
      simp only [List.length_append]
      have : sTil.length = 10 := rfl
      have : sNod.length = 6 := rfl
      have : [(10 : UInt8)].length = 1 := rfl
      omega
  unfold txtT
  simp only [List.length_append]
  omega
theorem vch_len {w h t p : Int} {K : List Int} {S : List (List Int × List Int)} (hv : vchP w h t p K S) : ChLen K S := by
  obtain ⟨⟨a1, a2, a3, a4⟩, ⟨a5, a6⟩, b1, b2⟩ := vch_txt hv
  have h3 : w.toNat * h.toNat ≤ 8 * 8 := Nat.mul_le_mul (by omega) (by omega)
  refine ⟨by omega, by omega, fun s hs => ?_⟩
  have h1 := (b2 s hs).1.1
  have h2 := (b2 s hs).2.1
  omega
/-- What a read text tells. -/
theorem okP_read {s : List UInt8} (h : okP s) : pW s = rW s ∧ pH s = rH s ∧ pT s = rT s ∧ pP s = rP s ∧ pK s = rKd s ∧ pS s = rSl s ∧ pE s = 0 :=
  ⟨if_pos h, if_pos h, if_pos h, if_pos h, if_pos h, if_pos h, if_pos h⟩
theorem okP_v {s : List UInt8} (h : okP s) : vchP (pW s) (pH s) (pT s) (pP s) (pK s) (pS s) ∧ txtT (pW s) (pH s) (pT s) (pP s) (pK s) (pS s) = s := by
  obtain ⟨e1, e2, e3, e4, e5, e6, e7⟩ := okP_read h
  rw [e1, e2, e3, e4, e5, e6]
  exact h.2
theorem g4_ints (O : ByteArray) : intsD (.ro (PD.gk (bL O)).length 1 (g4 PD O)) = pK (bL O) := lsOf_cellL _
theorem g4_bads (O : ByteArray) : badsD (.ro (PD.gn (bL O)) 2 (PD.gs (bL O))) = pS (bL O) := badsD_badC _
theorem chro_okP {O : ByteArray} (h : okP (bL O)) : ChRO (PD.gk (bL O)).length (g4 PD O) (PD.gn (bL O)) (PD.gs (bL O)) :=
  ⟨⟨rfl, fun i hi => rfl⟩, badsD_ok _, by rw [g4_ints, g4_bads]; exact vch_len (okP_v h).1⟩
theorem f4_sat {S O : ByteArray} (hO : O.size ≤ 800000) (hS : okP (bL S)) : Sat Tryz.prog (f4 txD PD S O) (· = bv true) := by
  constructor
  unfold f4
  by_cases h : okP (bL O)
  · have hr := okP_read h
    have hv := okP_v h
    have e0 : PD.ge (bL O) = 0 := hr.2.2.2.2.2.2
    have e1 : vchR (PD.gw (bL O)) (PD.gh (bL O)) (PD.gt (bL O)) (PD.gp (bL O)) (PD.gk (bL O)).length (g4 PD O) (PD.gn (bL O)) (PD.gs (bL O)) = 0 := by
      show vchE _ _ _ _ (intsD _) (badsD _) = 0
      rw [g4_ints, g4_bads]
      exact if_pos hv.1
    have e2 : v4 PD O = true := by unfold v4; rw [e1]; rfl
    have e3 : w4 PD O = true := by unfold w4; rw [e2, e1]; rfl
    have e4 : strB (txD (PD.gw (bL O)) (PD.gh (bL O)) (PD.gt (bL O)) (PD.gp (bL O)) (.ro (PD.gk (bL O)).length 1 (g4 PD O)) (.ro (PD.gn (bL O)) 2 (PD.gs (bL O)))) = O := by
      unfold txD
      rw [g4_ints, g4_bads]
      have : txtT (PD.gw (bL O)) (PD.gh (bL O)) (PD.gt (bL O)) (PD.gp (bL O)) (pK (bL O)) (pS (bL O)) = bL O := hv.2
      rw [this]; rfl
    rw [e0, e3, e4]
    refine ⟨hO, fun h1 => absurd h1 (by decide), fun _ => ⟨chro_okP h, fun _ => chro_okP h, fun _ => ⟨⟨rfl, fun i hi => rfl⟩, badsD_ok _, ?_⟩, ?_⟩⟩
    · rw [g4_ints, g4_bads]; exact vch_txt hv.1
    · have : strEq O O = true := strEq_iff.2 rfl
      rw [this]; rfl
  · have e0 : PD.ge (bL O) = 5 := if_neg h
    have e1 : PD.gw (bL O) = 0 := if_neg h
    have e2 : strEq O S = false := strEq_false.2 fun e => h (e ▸ hS)
    rw [e0, e1, e2]
    exact ⟨hO, fun _ => rfl, fun h1 => absurd h1 (by decide)⟩
theorem zq_u8 {zb : Int} (hb : 0 ≤ zb ∧ zb < 256) : ∀ i, i < 1 → isU8 (zq4 zb i 0) = true := fun i hi => by
  obtain rfl : i = 0 := by omega
  show decide (0 ≤ zb ∧ zb < 256) = true
  exact decide_eq_true hb
theorem l4_sat {W H T : Int} {mk : Nat} {ck : Nat → Nat → DV} {K : Nat} {sl : Nat → Nat → DV} {zk zb za : Int} (r : Fin 3) {kl : List Int} {S : List (List Int × List Int)} (hk : IntsD (.ro mk 1 ck)) (hs : BadsD (.ro K 2 sl))
    (ek : intsD (.ro mk 1 ck) = kl) (es : badsD (.ro K 2 sl) = S) (hv : vchP W H T 24 kl S) (hl : ∀ s ∈ S, s.1.length ≤ 10 ∧ s.2.length ≤ 10) (hb : 0 ≤ zb ∧ zb < 256) (ha : 0 ≤ za ∧ za < 65536)
    (h3 : r = if Int.tmod zk 3 = 1 then 1 else if Int.tmod zk 3 = 2 then 2 else 0) : Sat Tryz.prog (l4 txD PD W H T mk ck K sl zk zb za (strS txD W H T mk ck K sl) r) (· = bv true) := by
  have hz := txt_size hv hl
  have eS : strS txD W H T mk ck K sl = strB (txtT W H T 24 kl S) := by unfold strS txD; rw [ek, es]
  rw [eS]
  have hok : okP (bL (strB (txtT W H T 24 kl S))) := okP_txt hv
  have hrd := round hv
  have hr := okP_read hok
  have g1 : PD.gw (bL (strB (txtT W H T 24 kl S))) = W := hr.1.trans hrd.w
  have g2 : PD.gh (bL (strB (txtT W H T 24 kl S))) = H := hr.2.1.trans hrd.h
  have g3 : PD.gt (bL (strB (txtT W H T 24 kl S))) = T := hr.2.2.1.trans hrd.t
  have g5 : PD.gp (bL (strB (txtT W H T 24 kl S))) = 24 := hr.2.2.2.1.trans hrd.p
  have g6 : pK (bL (strB (txtT W H T 24 kl S))) = kl := hr.2.2.2.2.1.trans hrd.k
  have g7 : pS (bL (strB (txtT W H T 24 kl S))) = S := hr.2.2.2.2.2.1.trans hrd.s
  have g8 : PD.ge (bL (strB (txtT W H T 24 kl S))) = 0 := hr.2.2.2.2.2.2
  have hc := chro_okP hok
  have e5 : smeR (PD.gw (bL (strB (txtT W H T 24 kl S)))) (PD.gh (bL (strB (txtT W H T 24 kl S)))) (PD.gt (bL (strB (txtT W H T 24 kl S)))) (PD.gp (bL (strB (txtT W H T 24 kl S)))) (PD.gk (bL (strB (txtT W H T 24 kl S)))).length (g4 PD (strB (txtT W H T 24 kl S))) (PD.gn (bL (strB (txtT W H T 24 kl S)))) (PD.gs (bL (strB (txtT W H T 24 kl S)))) W H T 24 mk ck K sl = true := by
    show smeB _ _ _ _ (intsD _) (badsD _) _ _ _ _ (intsD _) (badsD _) = true
    rw [g4_ints, g4_bads, g1, g2, g3, g5, g6, g7, ek, es]
    exact decide_eq_true ⟨⟨rfl, rfl, rfl, rfl⟩, rfl, rfl⟩
  have hsz : (strB (txtT W H T 24 kl S)).size = (txtT W H T 24 kl S).length := strB_size _
  generalize hZ : strB (txtT W H T 24 kl S) = Z at *
  have ez : w64 za = za := w64_of (by omega) (by omega)
  constructor
  unfold l4
  rw [e5, g8, ez]
  have hA0 : 0 ≤ Int.tmod za (Z.size : Int) := Int.tmod_nonneg _ ha.1
  have hA1 : Int.tmod za (Z.size : Int) < Z.size := Int.tmod_lt_of_pos _ (by omega)
  generalize Int.tmod za (Z.size : Int) = A at *
  have eA : w64 (A + 1) = A + 1 := w64_of (by omega) (by omega)
  have s1 : (e1 Z A).size = A.toNat := by unfold e1; rw [ByteArray.size_extract]; omega
  have s2 : (e2 Z A).size = Z.size - (A + 1).toNat := by unfold e2; rw [ByteArray.size_extract, eA]; omega
  have s3 : (e3 Z A).size = Z.size - A.toNat := by unfold e3; rw [ByteArray.size_extract]; omega
  have s4 := strOf_size 1 (zq4 zb)
  have s5 : (e1 Z A ++ strOf 1 (zq4 zb)).size = A.toNat + 1 := by rw [ByteArray.size_append, s1, s4]
  have hd : decide ((Z.size : Int) < 10) = false := decide_eq_false (by omega)
  rw [eA, s1, s2, s5, hd]
  refine ⟨by omega, ⟨hk, hs, by rw [ek, es]; exact vch_txt hv⟩, by omega, fun _ => by omega, fun _ => ⟨hc, hk, hs, by rw [ek, es]; exact vch_len hv⟩, rfl, by omega, ⟨⟨by omega, by omega⟩, trivial⟩, by omega, zq_u8 hb, by omega, ⟨trivial, by omega, by omega⟩, by omega, by omega, ?_⟩
  subst h3
  by_cases c1 : Int.tmod zk 3 = 1
  · rw [if_pos c1]
    unfold m4
    rw [c1, s1, s5, s3]
    refine ⟨rfl, ⟨⟨by omega, by omega⟩, trivial⟩, by omega, zq_u8 hb, by omega, ⟨trivial, by omega, by omega⟩, by omega, by omega, rfl, ?_⟩
    exact (f4_sat (by rw [ByteArray.size_append, s5, s3]; omega) hok).1
  · rw [if_neg c1]
    by_cases c2 : Int.tmod zk 3 = 2
    · rw [if_pos c2]
      unfold m4
      rw [c2, s1, s2, eA]
      refine ⟨rfl, by omega, rfl, ⟨⟨by omega, by omega⟩, trivial⟩, ⟨trivial, by omega, by omega⟩, by omega, ?_⟩
      exact (f4_sat (by rw [ByteArray.size_append, s1, s2]; omega) hok).1
    · rw [if_neg c2]
      unfold m4
      have n1 : (Int.tmod zk 3 == 1) = false := beq_eq_false_iff_ne.2 c1
      have n2 : (Int.tmod zk 3 == 2) = false := beq_eq_false_iff_ne.2 c2
      refine ⟨n1, by omega, n2, ?_⟩
      exact (f4_sat (by rw [ByteArray.size_append, s5, s2]; omega) hok).1
end Go.Proofs.YtgahnelicbddcaaGreatDoor

/- ChipTexts: the law's contract. -/
namespace Go.Proofs.YtgahnelicbddcaaGreatDoor
open Go.Sx
set_option maxRecDepth 100000
theorem s43 : (match Tryz.prog.underlying 43 with | some (.struct fs) => some (fs.toList.map (·.type)) | _ => none) = some [5, 5, 25] := by kernel_rfl
theorem fs43 : ∃ fs, Tryz.prog.underlying 43 = some (.struct fs) ∧ ∃ a b c, fs.toList = [a, b, c] ∧ a.type = 5 ∧ b.type = 5 ∧ c.type = 25 := by
  have h := s43
  split at h
  · rename_i fs hu
    refine ⟨fs, hu, ?_⟩
    simp only [Option.some.injEq] at h
    generalize fs.toList = L at h
    obtain ⟨a, l1, rfl, ta, h⟩ := List.map_eq_cons_iff.1 h
    obtain ⟨b, l2, rfl, tb, h⟩ := List.map_eq_cons_iff.1 h
    obtain ⟨c, l3, rfl, tc, h⟩ := List.map_eq_cons_iff.1 h
    obtain rfl := List.map_eq_nil_iff.1 h
    exact ⟨a, b, c, rfl, ta, tb, tc⟩
  · cases h
theorem edit_arg {ds : List DV} (h : okT Tryz.prog 6 43 ds) : ∃ k b a : Int, (0 ≤ b ∧ b < 256) ∧ (0 ≤ a ∧ a < 65536) ∧ svT Tryz.prog 43 ds = .agg [u8V k, u8V b, u16V a] := by
  obtain ⟨fs, hu, a, b, c, hl, ta, tb, tc⟩ := fs43
  unfold okT at h
  rw [hu] at h
  simp only [hl, okFs, ta, tb, tc] at h
  obtain ⟨d1, r1, rfl, k1, d2, r2, rfl, k2, d3, r3, rfl, k3, rfl⟩ := h
  obtain ⟨v1, b1, rfl⟩ := byte_arg k1
  obtain ⟨v2, b2, rfl⟩ := byte_arg k2
  obtain ⟨v3, b3, rfl⟩ := okT_int (n := 4) u25 k3
  have h0 : IntKind.u16.min = 0 := rfl
  have h1 : IntKind.u16.max = 65535 := rfl
  refine ⟨v1, v2, v3, b2, by omega, ?_⟩
  unfold svT
  rw [hu]
  rfl
theorem md4_okG (w h t : Int) : okG (anN 2 4 w) (anN 2 4 h) (anN 2 3 t) 24 := by
  have h1 := anN_ok (a := 2) (b := 4) (x := w) (by omega)
  have h2 := anN_ok (a := 2) (b := 4) (x := h) (by omega)
  have h3 := anN_ok (a := 2) (b := 3) (x := t) (by omega)
  refine ⟨⟨?_, ?_⟩, ⟨?_, ?_⟩, ⟨?_, ?_⟩, ?_, ?_⟩ <;> omega
theorem md4_vld (w h t : Int) (m : Nat) (f : Nat → Nat → DV) : vldP (anN 2 4 w) (anN 2 4 h) (anN 2 3 t) 24 (anK 2 4 w h m f) := by
  have hg := md4_okG w h t
  have h3 := anM_ok (a := 2) (b := 4) (w := w) (h := h) (by omega) (by omega) (by omega)
  obtain ⟨a1, a2, a3, a4⟩ := hg
  refine ⟨⟨a1, a2, a3, a4⟩, ?_, fun i hi => ?_⟩
  · unfold anK; rw [kiL_len]; omega
  · rw [List.getD_eq_getElem?_getD, List.getElem?_eq_getElem hi]
    exact kiL_ok (List.getElem_mem hi)
theorem ris_nil (n : Int) : risP [] n := fun i hi => absurd hi (Nat.not_lt_zero _)
theorem law4 {w h t p : Int} {m : Nat} {f : Nat → Nat → DV} {k : Nat} {b : Nat → Nat → DV} {zk zb za : Int} (hr : RawOK w h t p m f) (hb : ByteRow k b) (hz : 0 ≤ zb ∧ zb < 256) (ha : 0 ≤ za ∧ za < 65536) :
    ∃ C dr, CtxOK Tryz.prog C ∧ DrOK Tryz.prog C dr ∧ ∃ n hint, Sat Tryz.prog (fnT Tryz.prog C dr n (fnOf Tryz.prog 4) (bodyOf Tryz.prog 4) [rawF w h t p m f, .d (.ro k 1 b), .agg [u8V zk, u8V zb, u16V za]] hint) (· = bv true) := by
  have hg := md4_okG w h t
  have hv := md4_vld w h t m f
  have hB := bd_ris (k := k) (f := b) hg
  have hB6 := bdSt_le (anN 2 4 w) (anN 2 4 h) (anN 2 3 t) 24 k b
  obtain ⟨W, eW⟩ : ∃ W, anN 2 4 w = W := ⟨_, rfl⟩
  obtain ⟨H, eH⟩ : ∃ H, anN 2 4 h = H := ⟨_, rfl⟩
  obtain ⟨T, eT⟩ : ∃ T, anN 2 3 t = T := ⟨_, rfl⟩
  obtain ⟨kl, eK⟩ : ∃ kl, anK 2 4 w h m f = kl := ⟨_, rfl⟩
  obtain ⟨b0, e0⟩ : ∃ b0, bdT W H T 24 k b = b0 := ⟨_, rfl⟩
  obtain ⟨b1, e1⟩ : ∃ b1, bdNd W H T 24 k b = b1 := ⟨_, rfl⟩
  have hM : MdIs w h t p m f W H T kl.length (fun i _ => .x (.int .i64 (kl.getD i 0))) := ⟨hr, eW, eH, eT, by rw [eK], by rw [eK]⟩
  rw [eW, eH, eT] at hg hv hB hB6
  rw [eK] at hv
  have hD : BdIs W H T 24 k b b0.length (fun i _ => .x (.int .i64 (b0.getD i 0))) b1.length (fun i _ => .x (.int .i64 (b1.getD i 0))) := ⟨hg, hb, by rw [e0], by rw [e0], by rw [e1], by rw [e1]⟩
  rw [e0, e1] at hB hB6
  have i0 : ∀ L : List Int, IntsD (.ro L.length 1 fun i _ => .x (.int .i64 (L.getD i 0))) := fun L => ⟨rfl, fun i hi => rfl⟩
  have i1 : ∀ L : List Int, intsD (.ro L.length 1 fun i _ => .x (.int .i64 (L.getD i 0))) = L := fun L => lsOf_cellL L
  refine ⟨_, _, CX4_ok W H T kl.length (fun i _ => .x (.int .i64 (kl.getD i 0))) b0.length (fun i _ => .x (.int .i64 (b0.getD i 0))) b1.length (fun i _ => .x (.int .i64 (b1.getD i 0))), DX4_ok W H T kl.length (fun i _ => .x (.int .i64 (kl.getD i 0))) b0.length (fun i _ => .x (.int .i64 (b0.getD i 0))) b1.length (fun i _ => .x (.int .i64 (b1.getD i 0))), 200, ?_⟩
  have hbsE : BadsD (.ro 1 2 (slE b0.length (fun i _ => .x (.int .i64 (b0.getD i 0))) b1.length (fun i _ => .x (.int .i64 (b1.getD i 0))))) := ⟨rfl, fun i hi => by
    obtain rfl : i = 0 := by omega
    exact ⟨i0 b0, i0 b1⟩⟩
  have hbsO : BadsD (.ro 2 2 (slO b0.length (fun i _ => .x (.int .i64 (b0.getD i 0))) b1.length (fun i _ => .x (.int .i64 (b1.getD i 0))))) := ⟨rfl, fun i hi => by
    match i, hi with
    | 0, _ => exact ⟨i0 b0, i0 b1⟩
    | 1, _ => exact ⟨rfl, rfl⟩⟩
  have esE : badsD (.ro 1 2 (slE b0.length (fun i _ => .x (.int .i64 (b0.getD i 0))) b1.length (fun i _ => .x (.int .i64 (b1.getD i 0))))) = [(b0, b1)] := by
    show [(intsD (.ro b0.length 1 fun i _ => .x (.int .i64 (b0.getD i 0))), intsD (.ro b1.length 1 fun i _ => .x (.int .i64 (b1.getD i 0))))] = _
    rw [i1, i1]
  have esO : badsD (.ro 2 2 (slO b0.length (fun i _ => .x (.int .i64 (b0.getD i 0))) b1.length (fun i _ => .x (.int .i64 (b1.getD i 0))))) = [(b0, b1), ([], [])] := by
    show [(intsD (.ro b0.length 1 fun i _ => .x (.int .i64 (b0.getD i 0))), intsD (.ro b1.length 1 fun i _ => .x (.int .i64 (b1.getD i 0)))), ([], [])] = _
    rw [i1, i1]
  have vE : vchP W H T 24 kl [(b0, b1)] := ⟨hv, by simp, fun s hs => by
    simp only [List.mem_cons, List.not_mem_nil, or_false] at hs
    subst hs; exact hB⟩
  have vO : vchP W H T 24 kl [(b0, b1), ([], [])] := ⟨hv, by simp, fun s hs => by
    simp only [List.mem_cons, List.not_mem_nil, or_false] at hs
    rcases hs with rfl | rfl
    · exact hB
    · exact ⟨ris_nil _, ris_nil _⟩⟩
  have lE : ∀ s ∈ [(b0, b1)], s.1.length ≤ 10 ∧ s.2.length ≤ 10 := fun s hs => by
    simp only [List.mem_cons, List.not_mem_nil, or_false] at hs
    subst hs; simp only; omega
  have lO : ∀ s ∈ [(b0, b1), ([], [])], s.1.length ≤ 10 ∧ s.2.length ≤ 10 := fun s hs => by
    simp only [List.mem_cons, List.not_mem_nil, or_false] at hs
    rcases hs with rfl | rfl
    · simp only; omega
    · exact ⟨by decide, by decide⟩
  have E : ∀ r : Fin 3, (r = if Int.tmod zk 3 = 1 then 1 else if Int.tmod zk 3 = 2 then 2 else 0) → (Int.tmod zk 2 == 1) = false → Sat Tryz.prog (t4E w h t p m f k b zk zb za W H T kl.length (fun i _ => .x (.int .i64 (kl.getD i 0))) b0.length (fun i _ => .x (.int .i64 (b0.getD i 0))) b1.length (fun i _ => .x (.int .i64 (b1.getD i 0))) txD PD r) (· = bv true) := fun r h3 h2 => by
    constructor
    unfold t4E
    exact ⟨rfl, hM, hD, by omega, h2, (l4_sat r (i0 kl) hbsE (i1 kl) esE vE lE hz ha h3).1⟩
  have O : ∀ r : Fin 3, (r = if Int.tmod zk 3 = 1 then 1 else if Int.tmod zk 3 = 2 then 2 else 0) → (Int.tmod zk 2 == 1) = true → Sat Tryz.prog (t4O w h t p m f k b zk zb za W H T kl.length (fun i _ => .x (.int .i64 (kl.getD i 0))) b0.length (fun i _ => .x (.int .i64 (b0.getD i 0))) b1.length (fun i _ => .x (.int .i64 (b1.getD i 0))) txD PD r) (· = bv true) := fun r h3 h2 => by
    constructor
    unfold t4O
    exact ⟨rfl, hM, hD, by omega, h2, ⟨by omega, by omega, by omega⟩, (l4_sat r (i0 kl) hbsO (i1 kl) esO vO lO hz ha h3).1⟩
  cases h2 : (Int.tmod zk 2 == 1) with
  | false =>
    by_cases c1 : Int.tmod zk 3 = 1
    · exact ⟨_, Sat.of_eq (t4_E1 w h t p m f k b zk zb za W H T _ _ _ _ _ _ txD PD) (E 1 (by rw [if_pos c1]) h2)⟩
    · by_cases c2 : Int.tmod zk 3 = 2
      · exact ⟨_, Sat.of_eq (t4_E2 w h t p m f k b zk zb za W H T _ _ _ _ _ _ txD PD) (E 2 (by rw [if_neg c1, if_pos c2]) h2)⟩
      · exact ⟨_, Sat.of_eq (t4_E0 w h t p m f k b zk zb za W H T _ _ _ _ _ _ txD PD) (E 0 (by rw [if_neg c1, if_neg c2]) h2)⟩
  | true =>
    by_cases c1 : Int.tmod zk 3 = 1
    · exact ⟨_, Sat.of_eq (t4_O1 w h t p m f k b zk zb za W H T _ _ _ _ _ _ txD PD) (O 1 (by rw [if_pos c1]) h2)⟩
    · by_cases c2 : Int.tmod zk 3 = 2
      · exact ⟨_, Sat.of_eq (t4_O2 w h t p m f k b zk zb za W H T _ _ _ _ _ _ txD PD) (O 2 (by rw [if_neg c1, if_pos c2]) h2)⟩
      · exact ⟨_, Sat.of_eq (t4_O0 w h t p m f k b zk zb za W H T _ _ _ _ _ _ txD PD) (O 0 (by rw [if_neg c1, if_neg c2]) h2)⟩
theorem law_each {P : Program} {k : FuncId} {okA : List SV → Prop} (hf : (P.funcs[k]?).isSome = true) (hb : (fnOf P k).body.isSome = true)
    (h : ∀ ss, okA ss → ∃ C dr, CtxOK P C ∧ DrOK P C dr ∧ ∃ n hint, Sat P (fnT P C dr n (fnOf P k) (bodyOf P k) ss hint) (· = bv true)) :
    ∃ c : Ctr, CtrOK P k c ∧ ∀ ss, okA ss → (c ss).ev (bv true) := by
  refine ⟨fun ss => .need (okA ss) (.ret (bv true)), ?_, fun ss hs => ⟨hs, rfl⟩⟩
  intro ss vs w F r hF hgl hr hev
  obtain ⟨h1, rfl⟩ := hev
  obtain ⟨C, dr, hC, hD, n, hint, h2⟩ := h ss h1
  have h3 : CtrOK P k (fun s => .need (s = ss) (.ret (bv true))) := ctrOK_S hC hD hf hb fun s r' hr' => by
    obtain ⟨rfl, rfl⟩ := hr'
    exact ⟨n, hint, h2⟩
  exact h3 ss vs w F _ hF hgl hr ⟨rfl, rfl⟩
theorem chipTexts_ok : ∃ c : Ctr, CtrOK Tryz.prog 4 c ∧ ∀ ss, okArgs Tryz.prog 6 [24, 22, 43] ss → (c ss).ev (bv true) := by
  refine law_each (by kernel_rfl) (by kernel_rfl) fun ss h => ?_
  obtain ⟨d1, r1, rfl, k1, d2, r2, rfl, k2, d3, r3, rfl, k3, rfl⟩ := h
  obtain ⟨w, h, t, p, m, f, hr, e1⟩ := raw_arg k1
  obtain ⟨m2, f2, e2, hb⟩ := bytes_arg k2
  obtain ⟨zk, zb, za, hz, ha, e3⟩ := edit_arg k3
  have e2' : svT Tryz.prog 22 d2 = .d (.ro m2 1 f2) := by rw [e2]; unfold svT; rw [u22]; rfl
  rw [e1, e2', e3]
  exact law4 hr hb hz ha
end Go.Proofs.YtgahnelicbddcaaGreatDoor

namespace Go.Proofs.YtgahnelicbddcaaGreatDoor
open Go.Sx
set_option maxRecDepth 100000

/-! ### What the row's list of variables gives -/

def laid5 : List (String × DataW Unit) := [("math/bits.deBruijn32tab", Rows.laid_math_bits_deBruijn32tab), ("math/bits.deBruijn64tab", Rows.laid_math_bits_deBruijn64tab), ("internal/strconv.uint64pow10", Rows.laid_internal_strconv_uint64pow10), ("unicode/utf8.acceptRanges", Rows.laid_unicode_utf8_acceptRanges), ("strconv.ErrRange", Rows.laid_strconv_ErrRange), ("strconv.ErrSyntax", Rows.laid_strconv_ErrSyntax), ("unicode/utf8.first", Rows.laid_unicode_utf8_first)]
theorem glPow : Tryz.prog.globalNamed "internal/strconv.uint64pow10" = some 1 := by kernel_rfl
theorem glSyn : Tryz.prog.globalNamed "strconv.ErrSyntax" = some 2 := by kernel_rfl
theorem glRng : Tryz.prog.globalNamed "strconv.ErrRange" = some 3 := by kernel_rfl
theorem plain5 : (laid5.all fun x => x.2.handleName?.isNone) = true := by kernel_rfl
theorem var_obj {w : World} {name : String} {g : Nat} {cs : Array Value} (hg : Tryz.prog.globalNamed name = some g) (h : w.var? Tryz.prog name = some cs) : ∃ e fr, w.heap[g]? = some (.cells cs e fr) := by
  unfold World.var? at h
  rw [hg] at h
  simp only [Option.bind_some] at h
  split at h
  · rename_i c e fr heq
    simp only [Option.some.injEq] at h; subst h
    exact ⟨e, fr, heq⟩
  · cases h
theorem typePow : (Tryz.prog.globals[1]?).map (·.type) = some 168 := by kernel_rfl
theorem typeSyn : (Tryz.prog.globals[2]?).map (·.type) = some 82 := by kernel_rfl
theorem typeRng : (Tryz.prog.globals[3]?).map (·.type) = some 82 := by kernel_rfl
theorem star : "*" ++ "errors.errorString" = "*errors.errorString" := by decide
theorem rowErr (u : TypeId) (h : Tryz.prog.typeName? 3 u = some "*errors.errorString") : u = 187 :=
  typeName_ptr_named (nm := "errors.errorString") (by rw [star]; kernel_rfl) (by kernel_rfl) (by decide) u (by rw [star]; exact h)

theorem glob_of {W : World} (h : laidMetH Tryz.prog laid5 W) (hs : W.ShapedOpen Tryz.prog) : GlobOK W (fun b => b < W.heap.size) := by
  rw [MakeChecks.laidMetH_plain _ _ _ plain5] at h
  have h2 : laidMet Tryz.prog [("internal/strconv.uint64pow10", Lib.tabData .u64 Lib.pow10Tab), ("unicode/utf8.acceptRanges", Rows.laid_unicode_utf8_acceptRanges), ("strconv.ErrRange", Rows.laid_strconv_ErrRange), ("strconv.ErrSyntax", Rows.laid_strconv_ErrSyntax), ("unicode/utf8.first", Rows.laid_unicode_utf8_first)] W := h.tail.tail
  have ht := Lib.tabIs_of_head glPow typePow Tryz.underlying168 Tryz.underlying147 (by kernel_rfl) (by kernel_rfl) h2
  obtain ⟨a0, s0, hv0, -, -, -⟩ := laid_sentinel h2.tail.tail glRng typeRng Tryz.underlying82 rowErr Tryz.underlying187 Tryz.underlying189 rfl rfl Tryz.underlying9 (by kernel_rfl) (by kernel_rfl)
  obtain ⟨a1, s1, hv1, -, -, -⟩ := laid_sentinel h2.tail.tail.tail glSyn typeSyn Tryz.underlying82 rowErr Tryz.underlying187 Tryz.underlying189 rfl rfl Tryz.underlying9 (by kernel_rfl) (by kernel_rfl)
  obtain ⟨m, hm⟩ := cell_of_shapedOpen_int (g := 0) (t := 3) (zero := #[.int .i64 0]) (k := .i64) hs (of_decide_eq_true (by kernel_rfl)) (by kernel_rfl) rfl (by kernel_rfl) (by kernel_rfl) Tryz.underlying3
  have k1 : okTab Lib.pow10Tab W.heap[1]? := by
    obtain ⟨e, fr, hh⟩ := var_obj glPow ht
    exact ⟨e, fr, hh⟩
  have k2 : okErr W.heap[2]? := by
    obtain ⟨e, fr, hh⟩ := var_obj glSyn hv1
    exact ⟨_, e, fr, _, _, hh, rfl⟩
  have k3 : okErr W.heap[3]? := by
    obtain ⟨e, fr, hh⟩ := var_obj glRng hv0
    exact ⟨_, e, fr, _, _, hh, rfl⟩
  have k4 : okInt W.heap[0]? := cell_okInt hm
  have lt : ∀ {g : Nat} {o : Obj}, W.heap[g]? = some o → g < W.heap.size := fun hh => (Array.getElem?_eq_some_iff.1 hh).1
  refine ⟨fun g n cell hg => (by cases hg), fun g Q hg => ?_⟩
  match g, hg with
  | 1, hg => cases hg; exact ⟨by obtain ⟨e, fr, hh⟩ := k1; exact lt hh, k1⟩
  | 0, hg => cases hg; exact ⟨by obtain ⟨c, e, fr, m, hh, _⟩ := k4; exact lt hh, k4⟩
  | 2, hg => cases hg; exact ⟨by obtain ⟨c, e, fr, t, p, hh, _⟩ := k2; exact lt hh, k2⟩
  | 3, hg => cases hg; exact ⟨by obtain ⟨c, e, fr, t, p, hh, _⟩ := k3; exact lt hh, k3⟩

end Go.Proofs.YtgahnelicbddcaaGreatDoor

namespace Go.Proofs.YtgahnelicbddcaaGreatDoor
open Go.ChangeShapes Go.WideShapes Go.ChangeAt Go.RowKit Go.Sx

theorem own : ownKnob Tryz.prog.godebug = none := by kernel_rfl
theorem laidOut : laidOutB Tryz.prog = true := by kernel_rfl

set_option maxRecDepth 100000 in
theorem lifted (os : Os) (started : os.Started) (H : Type) (enc : TypeId × Value → H) :
    ReturnsInHanded {} Tryz.checked os 4 .any (fun w args => (Rows.chipTextsSpec.pre enc Tryz.prog Tryz.f4 Rows.chipTextsRow.domain false w args ∧ laidMetH Tryz.prog laid5 w) ∧ sizedMet enc Tryz.prog Tryz.f4 (OpenSpec.ofChange Rows.chipTextsSpec) false w args)
      (Rows.chipTextsSpec.post enc Tryz.prog Tryz.f4 false true false false) := by
  refine returnsInHanded_of_change_ands (C := Tryz.checked) (X := fun w _ => laidMetH Tryz.prog laid5 w) (fun _ _ _ hh h => h.of_heap hh) own started (by kernel_rfl) Tryz.func4
    (ChangeSpec.witness_shaped (enc := enc) (C := Tryz.checked) (os := os) (X := fun w _ => laidMetH Tryz.prog laid5 w) false (World.laidAll Tryz.prog os laid5) #[.agg #[.int .u8 0, .int .u8 0, .int .u8 0, .int .u8 0, .slice none 0 0], .slice none 0 0, .agg #[.int .u8 0, .int .u8 0, .int .u16 0]] 8 (World.laidAll_os _ _ _) (World.shaped_of_ZipB (by kernel_rfl) (by kernel_rfl)) (by kernel_rfl) (by kernel_rfl) (by kernel_rfl) (by rw [MakeChecks.laidMetH_plain _ _ _ (by kernel_rfl)]; exact laidMet_laidAll _ (by kernel_rfl) (by kernel_rfl))) ?_
  intro W base args ds gs before hval0 hW hcnd _ hL hsh _
  have hval : ∀ (j : Nat) t v, Tryz.f4.params[j]? = some t → args[j]? = some v → Value.okWide Tryz.prog W .any base t v := hval0
  have hW' := hW
  obtain ⟨p, q, hA0, hV, rfl, hfz, hnd⟩ := hW
  have hA : DataW.TrodAll enc Tryz.prog W 0 (fun _ => true) true Tryz.f4.params.toList args.toList ds p := hA0
  rw [Tryz.params4] at hA hval
  obtain ⟨rfl, rfl⟩ := trodVars_none hV
  obtain ⟨v0, vs0, d0, ds0, p0, q0, hargs, rfl, e0, h0, r0⟩ := trodAll_cons hA
  obtain ⟨v1, vs1, d1, ds1, p1, q1, e1_1, rfl, e2_1, h1, r1⟩ := trodAll_cons r0
  obtain ⟨v2, vs2, d2, ds2, p2, q2, e1_2, rfl, e2_2, h2, r2⟩ := trodAll_cons r1
  obtain ⟨e3, rfl, e4⟩ := trodAll_nil r2
  obtain ⟨c, hc, hev⟩ := chipTexts_ok
  have hlt := trodAll_lt hA
  obtain ⟨ss, o1, o2, o3⟩ := open_args (F := fun b => b < W.heap.size) (n := 6) (r := .any) (base := base) (by kernel_rfl) hA (fun j t v a b => hval j t v (by simpa using a) (by simpa using b)) (fun q hq => hlt q hq)
  refine (law_of hc (F := fun b => b < W.heap.size) (fun b hb => hb) (glob_of hL hsh) (ss := ss) ⟨by simpa using o2, fun i hi => by simpa [List.getD, Array.getD_eq_getD_getElem?] using o3 i hi⟩ (hev ss o1)).mono fun e W' ⟨he, bel⟩ => ?_
  subst he
  have hback := trodAll_below laidOut bel (by kernel_rfl) hA
  exact ⟨_, rfl, _, _, _, [], _, [], hW', trodAll_mk1 (shut_bool Tryz.underlying4 _), hback, rfl, bel.frame _, fun h => by cases h⟩

theorem over : Rows.chipTextsRow.holds Tryz.pinned (OpenSpec.ofChange Rows.chipTextsSpec) :=
  OpenClaim.holds_of_wide 4 Tryz.f4 rfl rfl rfl rfl rfl rfl rfl ⟨rfl, rfl, rfl, rfl, rfl⟩ rfl rfl rfl rfl rfl (by kernel_rfl) Tryz.func4 (by kernel_rfl)
    (of_decide_eq_true (by kernel_rfl)) (by unfold Func.isWrapper; first | (rw [if_pos (by decide +kernel)]; kernel_rfl) | (rw [if_neg (by decide +kernel)]; exact ⟨rfl, rfl⟩))
    (fun os started H enc _ => lifted os started H enc)

theorem chipTexts_holds : Rows.ChipTextsCardSaid :=
  Claim7.holds_tied_plain_at .later [] [.data, .data, .data, .data, .sentinel, .sentinel, .pinned] true (true, "852957a0fd3a95ff81f08367dbb2fe76ca4ada6cce9636746d3b1b7e667c6a4c") true
    over (fun _ h => by cases h) (by kernel_rfl) (fun _ h => by cases h) chipTexts_row_tie rfl ⟨rfl, rfl⟩ (by kernel_rfl) rfl
    (fun f fn hf hfn => by
      obtain rfl : f = 4 := Option.some.inj ((show Tryz.prog.funcNamed "wireloom/wireloomlaw28.ChipTexts" = some 4 by kernel_rfl).symm.trans hf) |>.symm
      obtain rfl : fn = Tryz.f4 := (Option.some.inj (Tryz.func4.symm.trans hfn)).symm
      exact ⟨by kernel_rfl, fun j t ht => by
        rw [Tryz.params4] at ht
        have hm : t ∈ [24, 22, 43] := by simpa using Array.mem_of_getElem? ht
        have hall : ([24, 22, 43].all fun u => !Tryz.prog.wantsStandIn u) = true := by kernel_rfl
        exact (show Tryz.prog.wantsStandIn t = false by simpa using List.all_eq_true.1 hall t hm)⟩)
    (by kernel_rfl)
#print axioms chipTexts_holds
end Go.Proofs.YtgahnelicbddcaaGreatDoor

