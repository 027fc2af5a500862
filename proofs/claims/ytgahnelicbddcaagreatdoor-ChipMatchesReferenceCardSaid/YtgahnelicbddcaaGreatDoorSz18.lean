/- Part of a proof of the given statements of this seat (SxChRw, SxChRx, SxChRy, SxChRz, SxChSa, SxChSb, SxChSc, SxChVa, SxChVb, SxChVc, SxChVd, SxChVe, SxChVf, SxChVg): no conditions beyond those typed here. -/
import Derived.Test.YtgahnelicbddcaaGreatDoorSz17
set_option linter.unusedVariables false
set_option linter.unusedSimpArgs false
set_option linter.unusedSectionVars false

namespace Go.Proofs.YtgahnelicbddcaaGreatDoor
open Go.Sx
set_option maxRecDepth 100000
noncomputable def invPr (s : List UInt8) (n : Nat) (C : Nat → List UInt8) (E : List Int) (W H T P : Int) (K : List Int) (y : Int) (u : List UInt8) (q : Nat) : AS := ⟨[.ok (strV s), .unk, .ok (.ptr 0 0), .ok (iv 0), .ok (strC n C), .ok (ivL E), .ok (.ptr 15 0)] ++ List.replicate 74 .unk ++ [.ok (iv H), .ok (iv y)] ++ List.replicate 10 .unk ++ [.ok (.ptr 18 0)] ++ List.replicate 43 .unk, [some (.cells [iv 0, iv 0, iv 0, iv 0, nilD, nilD])] ++ List.replicate 14 none ++ [some (.cells [iv W, iv H, iv T, iv P, .row 19 0 0 K.length 1, nilD]), none, none, some (.iter (strB u) q), some (lB K)], 20, .nil⟩
noncomputable def bodyPr : Code := loopN (bodyOf Tryz.prog 46) 1
noncomputable def BPr_q1 (C : Nat → List UInt8) (i : Nat) (x : Nat) : DV :=
  DV.x (.string (strB (C i)))
noncomputable def BPr_q2 (E : List Int) (i : Nat) (x : Nat) : DV :=
  DV.x (.int .i64 (List.getD E i (0 : Int)))
noncomputable def BPr_q3 (K : List Int) (u : List UInt8) (q : Nat) (a : Nat) (b : Nat) : DV :=
  selD (decide (a < List.length K)) (DV.x (.int .i64 (List.getD K (0 + a) (0 : Int))))
  (dsAt [DV.x (.int .i64 (kindR (↑(Prod.fst (Utf8.decode (strB u) q)) : Int)))] (0 + (0 + (a - List.length K)) * 1 + b))
noncomputable def BPr_q4 (K : List Int) (i : Nat) (x : Nat) : DV :=
  DV.x (.int .i64 (List.getD K i (0 : Int)))
noncomputable def BPr (s : List UInt8) (n : Nat) (C : Nat → List UInt8) (E : List Int) (W H T P : Int) (K : List Int) (y : Int) (u : List UInt8) (q : Nat) : Tree (Ex × AS) :=
 .ite (decide (q < ByteArray.size (strB u)))
 (.ite true
 (.need (LetS { data := #[(46 : UInt8), (76 : UInt8), (77 : UInt8)] } ∧ RuneOK (↑(Prod.fst (Utf8.decode (strB u) q)) : Int))
 (.need (0 + List.length K ≤ List.length K ∧ 1 ≤ 1 ∧ (List.length K + 1) * 8 ≤ 140737488355328)
 (.ret
 (.normal,
 {
 tm :=
 [.ok (SV.d (DV.x (.string (strB s)))), .unk, .ok (SV.ptr 0 0), .ok (iv (0 : Int)), .ok (SV.d (DV.ro n 1 (BPr_q1 C))),
 .ok (SV.d (DV.ro (List.length E) 1 (BPr_q2 E))), .ok (SV.ptr 15 0), .unk, .unk, .unk, .unk, .unk, .unk, .unk, .unk, .unk, .unk, .unk, .unk, .unk,
 .unk, .unk, .unk, .unk, .unk, .unk, .unk, .unk, .unk, .unk, .unk, .unk, .unk, .unk, .unk, .unk, .unk, .unk, .unk, .unk, .unk, .unk, .unk, .unk, .unk, .unk, .unk,
 .unk, .unk, .unk, .unk, .unk, .unk, .unk, .unk, .unk, .unk, .unk, .unk, .unk, .unk, .unk, .unk, .unk, .unk, .unk, .unk, .unk, .unk, .unk, .unk, .unk, .unk, .unk,
 .unk, .unk, .unk, .unk, .unk, .unk, .unk, .ok (iv H), .ok (iv y), .unk, .unk, .unk, .unk, .unk, .unk, .unk, .unk, .unk, .unk, .ok (SV.ptr 18 0), .unk, .unk,
 .unk, .unk, .unk, .unk, .unk, .unk, .unk, .unk, .unk, .unk, .unk, .unk, .unk, .unk, .unk, .unk, .unk, .unk, .unk, .unk, .unk, .unk, .unk, .unk, .unk, .unk, .unk,
 .unk, .unk, .unk, .unk, .unk, .unk, .unk, .unk, .unk, .unk, .unk, .unk, .unk, .unk],
 hp :=
 [some (.cells [iv (0 : Int), iv (0 : Int), iv (0 : Int), iv (0 : Int), SV.d (DV.x (.slice none 0 0)), SV.d (DV.x (.slice none 0 0))]), none, none, none, none, none, none,
 none, none, none, none, none, none, none, none,
 some (.cells [iv W, iv H, iv T, iv P, SV.row 19 0 0 (List.length K + 1) 1, SV.d (DV.x (.slice none 0 0))]), none, none,
 some (.iter (strB u) (q + Prod.snd (Utf8.decode (strB u) q))), some (.row (List.length K + 1) 1 (BPr_q3 K u q))],
 next := 20, hint := .nil }))))
 (.ret
 (.exit 2,
 {
 tm :=
 [.ok (SV.d (DV.x (.string (strB s)))), .unk, .ok (SV.ptr 0 0), .ok (iv (0 : Int)), .ok (SV.d (DV.ro n 1 (BPr_q1 C))),
 .ok (SV.d (DV.ro (List.length E) 1 (BPr_q2 E))), .ok (SV.ptr 15 0), .unk, .unk, .unk, .unk, .unk, .unk, .unk, .unk, .unk, .unk, .unk, .unk, .unk, .unk,
 .unk, .unk, .unk, .unk, .unk, .unk, .unk, .unk, .unk, .unk, .unk, .unk, .unk, .unk, .unk, .unk, .unk, .unk, .unk, .unk, .unk, .unk, .unk, .unk, .unk, .unk, .unk, .unk,
 .unk, .unk, .unk, .unk, .unk, .unk, .unk, .unk, .unk, .unk, .unk, .unk, .unk, .unk, .unk, .unk, .unk, .unk, .unk, .unk, .unk, .unk, .unk, .unk, .unk, .unk, .unk, .unk,
 .unk, .unk, .unk, .unk, .ok (iv H), .ok (iv y), .unk, .unk, .unk, .unk, .unk, .unk, .unk, .unk, .unk, .unk, .ok (SV.ptr 18 0), .unk, .unk, .unk, .unk, .unk,
 .unk, .unk, .unk, .unk, .unk, .unk, .unk, .unk, .unk, .unk, .unk, .unk, .unk, .unk, .unk, .unk, .unk, .unk, .unk, .unk, .unk, .unk, .unk, .unk, .unk, .unk, .unk, .unk,
 .unk, .unk, .unk, .unk, .unk, .unk, .unk, .unk, .unk, .unk],
 hp :=
 [some (.cells [iv (0 : Int), iv (0 : Int), iv (0 : Int), iv (0 : Int), SV.d (DV.x (.slice none 0 0)), SV.d (DV.x (.slice none 0 0))]), none, none, none, none, none, none,
 none, none, none, none, none, none, none, none, some (.cells [iv W, iv H, iv T, iv P, SV.row 19 0 0 (List.length K) 1, SV.d (DV.x (.slice none 0 0))]), none,
 none, some (.iter (strB u) (q + Prod.snd (Utf8.decode (strB u) q))), some (.row (List.length K) 1 (BPr_q4 K))],
 next := 20, hint := .nil })))
 (.ite false .fail
 (.ret
 (.exit 2,
 {
 tm :=
 [.ok (SV.d (DV.x (.string (strB s)))), .unk, .ok (SV.ptr 0 0), .ok (iv (0 : Int)), .ok (SV.d (DV.ro n 1 (BPr_q1 C))),
 .ok (SV.d (DV.ro (List.length E) 1 (BPr_q2 E))), .ok (SV.ptr 15 0), .unk, .unk, .unk, .unk, .unk, .unk, .unk, .unk, .unk, .unk, .unk, .unk, .unk, .unk,
 .unk, .unk, .unk, .unk, .unk, .unk, .unk, .unk, .unk, .unk, .unk, .unk, .unk, .unk, .unk, .unk, .unk, .unk, .unk, .unk, .unk, .unk, .unk, .unk, .unk, .unk, .unk, .unk,
 .unk, .unk, .unk, .unk, .unk, .unk, .unk, .unk, .unk, .unk, .unk, .unk, .unk, .unk, .unk, .unk, .unk, .unk, .unk, .unk, .unk, .unk, .unk, .unk, .unk, .unk, .unk, .unk,
 .unk, .unk, .unk, .unk, .ok (iv H), .ok (iv y), .unk, .unk, .unk, .unk, .unk, .unk, .unk, .unk, .unk, .unk, .ok (SV.ptr 18 0), .unk, .unk, .unk, .unk, .unk,
 .unk, .unk, .unk, .unk, .unk, .unk, .unk, .unk, .unk, .unk, .unk, .unk, .unk, .unk, .unk, .unk, .unk, .unk, .unk, .unk, .unk, .unk, .unk, .unk, .unk, .unk, .unk, .unk,
 .unk, .unk, .unk, .unk, .unk, .unk, .unk, .unk, .unk, .unk],
 hp :=
 [some (.cells [iv (0 : Int), iv (0 : Int), iv (0 : Int), iv (0 : Int), SV.d (DV.x (.slice none 0 0)), SV.d (DV.x (.slice none 0 0))]), none, none, none, none, none, none,
 none, none, none, none, none, none, none, none, some (.cells [iv W, iv H, iv T, iv P, SV.row 19 0 0 (List.length K) 1, SV.d (DV.x (.slice none 0 0))]), none,
 none, some (.iter (strB u) q), some (.row (List.length K) 1 (BPr_q4 K))],
 next := 20, hint := .nil })))

theorem BPr_eq (s : List UInt8) (n : Nat) (C : Nat → List UInt8) (E : List Int) (W H T P : Int) (K : List Int) (y : Int) (u : List UInt8) (q : Nat) : cutT 19 [(.cell (.base 15) 4, 19)] [0, 2, 3, 4, 5, 6, 81, 82, 93] [1, 2, 3, 4, 5, 6, 7, 8, 9, 10, 11, 12, 13, 14, 16] 20 .nil (exec Tryz.prog CK2 DK2 200 bodyPr (invPr s n C E W H T P K y u q)) = BPr s n C E W H T P K y u q := by kernel_rfl

noncomputable def KPr_q1 (C : Nat → List UInt8) (i : Nat) (x : Nat) : DV :=
  DV.x (.string (strB (C i)))
noncomputable def KPr_q2 (E : List Int) (i : Nat) (x : Nat) : DV :=
  DV.x (.int .i64 (List.getD E i (0 : Int)))
noncomputable def KPr_q3 (K2 : List Int) (i : Nat) (x : Nat) : DV :=
  DV.x (.int .i64 (List.getD K2 i (0 : Int)))
noncomputable def KPr (s : List UInt8) (n : Nat) (C : Nat → List UInt8) (E : List Int) (W H T P : Int) (K : List Int) (y : Int) (K2 : List Int) (u : List UInt8) (q : Nat) : Tree (Ex × AS) :=
 .ret
 (.normal,
 {
 tm :=
 [.ok (SV.d (DV.x (.string (strB s)))), .unk, .ok (SV.ptr 0 0), .ok (iv (0 : Int)), .ok (SV.d (DV.ro n 1 (KPr_q1 C))),
 .ok (SV.d (DV.ro (List.length E) 1 (KPr_q2 E))), .ok (SV.ptr 15 0), .unk, .unk, .unk, .unk, .unk, .unk, .unk, .unk, .unk, .unk, .unk, .unk, .unk, .unk,
 .unk, .unk, .unk, .unk, .unk, .unk, .unk, .unk, .unk, .unk, .unk, .unk, .unk, .unk, .unk, .unk, .unk, .unk, .unk, .unk, .unk, .unk, .unk, .unk, .unk, .unk, .unk, .unk,
 .unk, .unk, .unk, .unk, .unk, .unk, .unk, .unk, .unk, .unk, .unk, .unk, .unk, .unk, .unk, .unk, .unk, .unk, .unk, .unk, .unk, .unk, .unk, .unk, .unk, .unk, .unk, .unk,
 .unk, .unk, .unk, .unk, .ok (iv H), .ok (iv (w64 (y + (1 : Int)))), .unk, .unk, .unk, .unk, .unk, .unk, .unk, .unk, .unk, .unk, .unk, .unk, .unk, .unk, .unk, .unk, .unk, .unk,
 .unk, .unk, .unk, .unk, .unk, .unk, .unk, .unk, .unk, .unk, .unk, .unk, .unk, .unk, .unk, .unk, .unk, .unk, .unk, .unk, .unk, .unk, .unk, .unk, .unk, .unk, .unk, .unk,
 .unk, .unk, .unk, .unk, .unk, .unk, .unk, .unk],
 hp :=
 [some (.cells [iv (0 : Int), iv (0 : Int), iv (0 : Int), iv (0 : Int), SV.d (DV.x (.slice none 0 0)), SV.d (DV.x (.slice none 0 0))]), none, none, none, none, none, none, none,
 none, none, none, none, none, none, none, some (.cells [iv W, iv H, iv T, iv P, SV.row 17 0 0 (List.length K2) 1, SV.d (DV.x (.slice none 0 0))]), none,
 some (.row (List.length K2) 1 (KPr_q3 K2))],
 next := 18, hint := .nil })

theorem KPr_eq (s : List UInt8) (n : Nat) (C : Nat → List UInt8) (E : List Int) (W H T P : Int) (K : List Int) (y : Int) (K2 : List Int) (u : List UInt8) (q : Nat) : codeK (sub [0, 0, 0] (tPb s n C E W H T P K y)) (.exit 2) (invPr s n C E W H T P K2 y u q) = KPr s n C E W H T P K y K2 u q := by kernel_rfl

noncomputable def tPc (s : List UInt8) (n : Nat) (C : Nat → List UInt8) (E : List Int) (W H T P : Int) (K : List Int) (y : Int) : Tree SV := codeK (sub [0, 0, 1, 0, 0, 0, 0, 0, 0, 0, 0, 1, 0, 0, 0, 0, 0] (tPa s)) (.exit 0) (invPa s n C E W H T P K y)
noncomputable def KPa (s : List UInt8) (n : Nat) (C : Nat → List UInt8) (E : List Int) (W H T P : Int) (K : List Int) (y : Int) : Tree SV :=
  .need ((0 : Int) ≤ (2 : Int) ∧ (2 : Int) < (↑(List.length E) : Int))
  (.need (True ∧ (0 : Int) ≤ w64 ((1 : Int) + List.getD E 2 (0 : Int)) ∧ Int.toNat (w64 ((1 : Int) + List.getD E 2 (0 : Int))) ≤ n)
   (.code (codeC (sub [(0 : Nat), (0 : Nat)] (tPc s n C E W H T P K y))) (codeS (sub [(0 : Nat), (0 : Nat)] (tPc s n C E W H T P K y))) (codeK (sub [(0 : Nat), (0 : Nat)] (tPc s n C E W H T P K y)))))

theorem KPa_eq (s : List UInt8) (n : Nat) (C : Nat → List UInt8) (E : List Int) (W H T P : Int) (K : List Int) (y : Int) : tPc s n C E W H T P K y = KPa s n C E W H T P K y := by kernel_rfl


end Go.Proofs.YtgahnelicbddcaaGreatDoor

namespace Go.Proofs.YtgahnelicbddcaaGreatDoor
open Go.Sx
set_option maxRecDepth 100000
noncomputable def invPs (s : List UInt8) (W H T P : Int) (K : List Int) (n : Nat) (C : Nat → List UInt8) (S : List (List Int × List Int)) (z : Int) : AS := ⟨[.ok (strV s), .unk, .ok (.ptr 0 0), .ok (iv 0), .unk, .unk, .ok (.ptr 15 0)] ++ List.replicate 105 .unk ++ [.ok (strC n C), .ok (iv n), .ok (iv z)] ++ List.replicate 22 .unk, [some (.cells [iv 0, iv 0, iv 0, iv 0, nilD, nilD])] ++ List.replicate 14 none ++ [some (.cells [iv W, iv H, iv T, iv P, .row 17 0 0 K.length 1, .row 18 0 0 S.length 2]), none, some (lB K), some (.row S.length 2 (badC S))], 19, .nil⟩
noncomputable def bodyPs : Code := loopN (bodyOf Tryz.prog 46) 2
noncomputable def BPs_q1 (C : Nat → List UInt8) (i : Nat) (x : Nat) : DV :=
  DV.x (.string (strB (C i)))
noncomputable def BPs_q2 (K : List Int) (i : Nat) (x : Nat) : DV :=
  DV.x (.int .i64 (List.getD K i (0 : Int)))
noncomputable def BPs_q3 (C : Nat → List UInt8) (z : Int) (i : Nat) (x : Nat) : DV :=
  DV.x (.int .i64 (List.getD (slA (Array.toList (ByteArray.data (strB (C (Int.toNat z)))))) i (0 : Int)))
noncomputable def BPs_q4 (C : Nat → List UInt8) (z : Int) (i : Nat) (x : Nat) : DV :=
  DV.x (.int .i64 (List.getD (slB (Array.toList (ByteArray.data (strB (C (Int.toNat z)))))) i (0 : Int)))
noncomputable def BPs_q5 (C : Nat → List UInt8) (S : List (List Int × List Int)) (z : Int) (a : Nat) (b : Nat) : DV :=
  selD (decide (a < List.length S)) (DV.ro (List.length (bdL S (0 + a) b)) 1 fun i x => DV.x (.int .i64 (List.getD (bdL S (0 + a) b) i (0 : Int))))
  (dsAt
   [DV.ro (List.length (slA (Array.toList (ByteArray.data (strB (C (Int.toNat z))))))) 1 (BPs_q3 C z),
   DV.ro (List.length (slB (Array.toList (ByteArray.data (strB (C (Int.toNat z))))))) 1 (BPs_q4 C z)]
   (0 + (0 + (a - List.length S)) * 2 + b))
noncomputable def BPs_q6 (S : List (List Int × List Int)) (i : Nat) (j : Nat) : DV :=
  DV.ro (List.length (bdL S i j)) 1 fun i_1 x => DV.x (.int .i64 (List.getD (bdL S i j) i_1 (0 : Int)))
noncomputable def BPs (s : List UInt8) (W H T P : Int) (K : List Int) (n : Nat) (C : Nat → List UInt8) (S : List (List Int × List Int)) (z : Int) : Tree (Ex × AS) :=
 .ite (decide (z < (↑n : Int)))
 (.need ((0 : Int) ≤ z ∧ z < (↑n : Int))
 (.need (ByteArray.size (strB (C (Int.toNat z))) ≤ 900000)
 (.need (0 + List.length S ≤ List.length S ∧ 2 ≤ 2 ∧ (List.length S + 1) * 48 ≤ 140737488355328)
 (.ret
 (.normal,
 {
 tm :=
 [.ok (SV.d (DV.x (.string (strB s)))), .unk, .ok (SV.ptr 0 0), .ok (iv (0 : Int)), .unk, .unk, .ok (SV.ptr 15 0), .unk, .unk, .unk, .unk, .unk, .unk,
 .unk, .unk, .unk, .unk, .unk, .unk, .unk, .unk, .unk, .unk, .unk, .unk, .unk, .unk, .unk, .unk, .unk, .unk, .unk, .unk, .unk, .unk, .unk, .unk, .unk, .unk, .unk,
 .unk, .unk, .unk, .unk, .unk, .unk, .unk, .unk, .unk, .unk, .unk, .unk, .unk, .unk, .unk, .unk, .unk, .unk, .unk, .unk, .unk, .unk, .unk, .unk, .unk, .unk, .unk,
 .unk, .unk, .unk, .unk, .unk, .unk, .unk, .unk, .unk, .unk, .unk, .unk, .unk, .unk, .unk, .unk, .unk, .unk, .unk, .unk, .unk, .unk, .unk, .unk, .unk, .unk, .unk,
 .unk, .unk, .unk, .unk, .unk, .unk, .unk, .unk, .unk, .unk, .unk, .unk, .unk, .unk, .unk, .unk, .unk, .unk, .ok (SV.d (DV.ro n 1 (BPs_q1 C))),
 .ok (iv (↑n : Int)), .ok (iv (w64 (z + (1 : Int)))), .unk, .unk, .unk, .unk, .unk, .unk, .unk, .unk, .unk, .unk, .unk, .unk, .unk, .unk, .unk, .unk, .unk, .unk, .unk, .unk,
 .unk, .unk],
 hp :=
 [some (.cells [iv (0 : Int), iv (0 : Int), iv (0 : Int), iv (0 : Int), SV.d (DV.x (.slice none 0 0)), SV.d (DV.x (.slice none 0 0))]), none, none, none, none, none, none,
 none, none, none, none, none, none, none, none,
 some (.cells [iv W, iv H, iv T, iv P, SV.row 17 0 0 (List.length K) 1, SV.row 18 0 0 (List.length S + 1) 2]), none,
 some (.row (List.length K) 1 (BPs_q2 K)), some (.row (List.length S + 1) 2 (BPs_q5 C S z))],
 next := 19, hint := .nil })))))
 (.ret
 (.exit 4,
 {
 tm :=
 [.ok (SV.d (DV.x (.string (strB s)))), .unk, .ok (SV.ptr 0 0), .ok (iv (0 : Int)), .unk, .unk, .ok (SV.ptr 15 0), .unk, .unk, .unk, .unk, .unk, .unk, .unk,
 .unk, .unk, .unk, .unk, .unk, .unk, .unk, .unk, .unk, .unk, .unk, .unk, .unk, .unk, .unk, .unk, .unk, .unk, .unk, .unk, .unk, .unk, .unk, .unk, .unk, .unk, .unk, .unk,
 .unk, .unk, .unk, .unk, .unk, .unk, .unk, .unk, .unk, .unk, .unk, .unk, .unk, .unk, .unk, .unk, .unk, .unk, .unk, .unk, .unk, .unk, .unk, .unk, .unk, .unk, .unk, .unk,
 .unk, .unk, .unk, .unk, .unk, .unk, .unk, .unk, .unk, .unk, .unk, .unk, .unk, .unk, .unk, .unk, .unk, .unk, .unk, .unk, .unk, .unk, .unk, .unk, .unk, .unk, .unk, .unk,
 .unk, .unk, .unk, .unk, .unk, .unk, .unk, .unk, .unk, .unk, .unk, .unk, .unk, .unk, .ok (SV.d (DV.ro n 1 (BPs_q1 C))), .ok (iv (↑n : Int)), .ok (iv z), .unk, .unk,
 .unk, .unk, .unk, .unk, .unk, .unk, .unk, .unk, .unk, .unk, .unk, .unk, .unk, .unk, .unk, .unk, .unk, .unk, .unk, .unk],
 hp :=
 [some (.cells [iv (0 : Int), iv (0 : Int), iv (0 : Int), iv (0 : Int), SV.d (DV.x (.slice none 0 0)), SV.d (DV.x (.slice none 0 0))]), none, none, none, none, none, none, none,
 none, none, none, none, none, none, none,
 some (.cells [iv W, iv H, iv T, iv P, SV.row 17 0 0 (List.length K) 1, SV.row 18 0 0 (List.length S) 2]), none,
 some (.row (List.length K) 1 (BPs_q2 K)), some (.row (List.length S) 2 (BPs_q6 S))],
 next := 19, hint := .nil }))

theorem BPs_eq (s : List UInt8) (W H T P : Int) (K : List Int) (n : Nat) (C : Nat → List UInt8) (S : List (List Int × List Int)) (z : Int) : cutT 18 [(.cell (.base 15) 5, 18)] [0, 2, 3, 6, 112, 113, 114] [1, 2, 3, 4, 5, 6, 7, 8, 9, 10, 11, 12, 13, 14, 16] 19 .nil (exec Tryz.prog CK2 DK2 200 bodyPs (invPs s W H T P K n C S z)) = BPs s W H T P K n C S z := by kernel_rfl

noncomputable def tPd (s : List UInt8) (n : Nat) (C : Nat → List UInt8) (E : List Int) (W H T P : Int) (K : List Int) (y : Int) (n2 : Nat) (C2 : Nat → List UInt8) (S : List (List Int × List Int)) (z : Int) : Tree SV := codeK (sub [0, 0] (tPc s n C E W H T P K y)) (.exit 4) (invPs s W H T P K n2 C2 S z)
noncomputable def KPs_q1 (K : List Int) (i : Nat) (x : Nat) : DV :=
  DV.x (.int .i64 (List.getD K i (0 : Int)))
noncomputable def KPs_q2 (K : List Int) (i : Nat) (j : Nat) : DV :=
  KPs_q1 K ((0 : Nat) + i) j
noncomputable def KPs_q3 (S : List (List Int × List Int)) (i : Nat) (j : Nat) : DV :=
  badC S ((0 : Nat) + i) j
noncomputable def KPs_q4 (K : List Int) (i : Nat) (j : Nat) : DV :=
  DV.x (.int .i64 (List.getD K (0 + i) (0 : Int)))
noncomputable def KPs_q5 (S : List (List Int × List Int)) (i : Nat) (j : Nat) : DV :=
  DV.ro (List.length (bdL S (0 + i) j)) 1 fun i_1 x => DV.x (.int .i64 (List.getD (bdL S (0 + i) j) i_1 (0 : Int)))
noncomputable def KPs_q6 (W : Int) (H : Int) (T : Int) (P : Int) (K : List Int) (S : List (List Int × List Int)) : Bool :=
  vchD W H T P (DV.ro (List.length K) 1 (KPs_q4 K)) (DV.ro (List.length S) 2 (KPs_q5 S)) != (0 : Int)
noncomputable def KPs (s : List UInt8) (n : Nat) (C : Nat → List UInt8) (E : List Int) (W H T P : Int) (K : List Int) (y : Int) (n2 : Nat) (C2 : Nat → List UInt8) (S : List (List Int × List Int)) (z : Int) : Tree SV :=
  .need (0 + List.length K ≤ List.length K)
  (.need (0 + List.length S ≤ List.length S)
   (.need (ChOK (DV.ro (List.length K) (1 : Nat) (KPs_q2 K)) (DV.ro (List.length S) (2 : Nat) (KPs_q3 S)))
   (.need (KPs_q6 W H T P K S = false → 0 + List.length K ≤ List.length K)
   (.need (KPs_q6 W H T P K S = false → 0 + List.length S ≤ List.length S)
   (.need (KPs_q6 W H T P K S = false → TxtRO W H T P (List.length K) (KPs_q4 K) (List.length S) (KPs_q5 S))
   (.ite (KPs_q6 W H T P K S || !strEq (strB (txtT W H T P (intsD (DV.ro (List.length K) 1 (KPs_q4 K))) (badsD (DV.ro (List.length S) 2 (KPs_q5 S))))) (strB s))
   (.ret (SV.tup [SV.agg [iv (0 : Int), iv (0 : Int), iv (0 : Int), iv (0 : Int), SV.d (DV.x (.slice none 0 0)), SV.d (DV.x (.slice none 0 0))], iv (5 : Int)]))
   (.need (0 + List.length K ≤ List.length K)
   (.need (0 + List.length S ≤ List.length S)
   (.ret (SV.tup [SV.agg [iv W, iv H, iv T, iv P, SV.d (DV.ro (List.length K) 1 (KPs_q4 K)), SV.d (DV.ro (List.length S) 2 (KPs_q5 S))], iv (0 : Int)]))))))))))

theorem KPs_eq (s : List UInt8) (n : Nat) (C : Nat → List UInt8) (E : List Int) (W H T P : Int) (K : List Int) (y : Int) (n2 : Nat) (C2 : Nat → List UInt8) (S : List (List Int × List Int)) (z : Int) : tPd s n C E W H T P K y n2 C2 S z = KPs s n C E W H T P K y n2 C2 S z := by kernel_rfl


end Go.Proofs.YtgahnelicbddcaaGreatDoor

namespace Go.Sx
theorem dec_ok' (s : ByteArray) (i : Nat) (x : Nat × Nat) (hx : x = Utf8.decode s i) : 1 ≤ x.2 ∧ Proofs.RuneOK (x.1 : Int) := by
  have hv : ∀ c : Nat, Utf8.valid (c : Int) = true → (c < 55296 ∨ (57343 < c ∧ c ≤ 1114111)) := fun c h => by
    simp only [Utf8.valid, Bool.and_eq_true, Bool.or_eq_true, decide_eq_true_eq, Bool.not_eq_true', decide_eq_false_iff_not] at h
    omega
  have hr : 1 ≤ ((Utf8.runeError, 1) : Nat × Nat).2 ∧ Proofs.RuneOK ((((Utf8.runeError, 1) : Nat × Nat).1 : Nat) : Int) := by
    refine ⟨Nat.le_refl _, ?_⟩
    unfold Proofs.RuneOK
    show 0 ≤ ((65533 : Nat) : Int) ∧ _
    simp [Utf8.runeError]
  have h1 := (s.get! (i + 1)).toNat_lt
  have h2 := (s.get! (i + 2)).toNat_lt
  have h3 := (s.get! (i + 3)).toNat_lt
  unfold Utf8.decode at hx
  simp only at hx
  unfold Proofs.RuneOK at *
  split at hx
  · subst hx; refine ⟨by simp, ?_⟩; simp only; omega
  split at hx
  · split at hx
    · subst hx; refine ⟨by simp, ?_⟩; simp only; omega
    · subst hx; exact hr
  split at hx
  · split at hx
    · rename_i h
      subst hx; refine ⟨by simp, ?_⟩
      simp only [Bool.and_eq_true] at h
      have := hv _ h.2
      simp only; omega
    · subst hx; exact hr
  split at hx
  · split at hx
    · rename_i h
      subst hx; refine ⟨by simp, ?_⟩
      simp only [Bool.and_eq_true] at h
      have := hv _ h.2
      simp only; omega
    · subst hx; exact hr
  · subst hx; exact hr
theorem dec_ok (s : ByteArray) (i : Nat) : 1 ≤ (Utf8.decode s i).2 ∧ Proofs.RuneOK ((Utf8.decode s i).1 : Int) := dec_ok' s i _ rfl
def rnL (u : List UInt8) : Nat → Nat → List Int
  | 0, _ => []
  | f + 1, q => if q < u.length then kindR ((Utf8.decode (strB u) q).1 : Int) :: rnL u f (q + (Utf8.decode (strB u) q).2) else []
def lnK (u : List UInt8) : List Int := rnL u u.length 0
theorem rnL_len (u : List UInt8) : ∀ f q, (rnL u f q).length ≤ f
  | 0, q => by simp [rnL]
  | f + 1, q => by
    unfold rnL; split
    · have := rnL_len u f (q + (Utf8.decode (strB u) q).2)
      simp only [List.length_cons]; omega
    · simp
theorem rnL_fuel (u : List UInt8) : ∀ f q, u.length ≤ f + q → rnL u (f + 1) q = rnL u f q
  | 0, q, h => by unfold rnL; rw [if_neg (by omega)]
  | f + 1, q, h => by
    have hd := (dec_ok (strB u) q).1
    show (if q < u.length then _ :: rnL u (f + 1) (q + (Utf8.decode (strB u) q).2) else []) = (if q < u.length then _ :: rnL u f (q + (Utf8.decode (strB u) q).2) else [])
    by_cases hq : q < u.length
    · rw [if_pos hq, if_pos hq, rnL_fuel u f _ (by omega)]
    · rw [if_neg hq, if_neg hq]
end Go.Sx
namespace Go.Proofs.YtgahnelicbddcaaGreatDoor
open Go.Sx
set_option maxRecDepth 100000
theorem pr_loop {s : List UInt8} {n : Nat} {C : Nat → List UInt8} {E : List Int} {W H T P : Int} {K : List Int} {y : Int} {u : List UInt8} (hu : C (w64 (E.getD 2 0 - y)).toNat = u) (hul : u.length ≤ 1000000) (hK : K.length ≤ 100000000) :
    Tree.sat Tryz.prog (.code (codeC (sub [0, 0, 0] (tPb s n C E W H T P K y))) (codeS (sub [0, 0, 0] (tPb s n C E W H T P K y))) (codeK (sub [0, 0, 0] (tPb s n C E W H T P K y))))
      fun r => r.1 = .normal ∧ Gc 17 r.2 (invPa s n C E W H T P (K ++ lnK u) (w64 (y + 1))) := by
  have ent : Gc 19 (ups (codeS (sub [0, 0, 0] (tPb s n C E W H T P K y))) 19) (invPr s n C E W H T P K y (C (w64 (E.getD 2 0 - y)).toNat) 0) :=
    entA_sound (roots := [(.cell (.base 15) 4, 19)]) (keep := [0, 2, 3, 4, 5, 6, 81, 82, 93]) (drop := [1, 2, 3, 4, 5, 6, 7, 8, 9, 10, 11, 12, 13, 14, 16]) (nx := 20) (h := .nil) (by kernel_rfl)
  rw [hu] at ent
  refine code_satS CK2_ok DK2_ok (n := 200) (n0 := 19) (nx := 20) (roots := [(.cell (.base 15) 4, 19)]) (keep := [0, 2, 3, 4, 5, 6, 81, 82, 93]) (drop := [1, 2, 3, 4, 5, 6, 7, 8, 9, 10, 11, 12, 13, 14, 16]) (h := .nil) (body := bodyPr) (by kernel_rfl) (by kernel_rfl)
    (fun m t => ∃ (q : Nat) (L : List Int), m = u.length - q ∧ L.length ≤ q ∧ L.length ≤ u.length ∧ L ++ rnL u u.length q = lnK u ∧ t = invPr s n C E W H T P (K ++ L) y u q)
    (fun e t => e = .exit 2 ∧ ∃ q, t = invPr s n C E W H T P (K ++ lnK u) y u q)
    ⟨_, _, ⟨0, [], rfl, by simp, by simp, rfl, by rw [List.append_nil]⟩, ent⟩ ?_ ?_
  · rintro m t ⟨q, L, rfl, hL, hL2, he, rfl⟩
    refine Sat.of_eq (BPr_eq s n C E W H T P (K ++ L) y u q) ?_
    constructor; unfold BPr
    have hd := dec_ok (strB u) q
    rw [strB_size]
    refine ⟨fun h1 => ⟨fun _ => ?_, fun h => (by cases h)⟩, fun h1 => ⟨fun h => (by cases h), fun _ => ?_⟩⟩
    · simp only [decide_eq_true_eq] at h1
      have hu1 : ∃ f, u.length = f + 1 := ⟨u.length - 1, by omega⟩
      obtain ⟨f, hf⟩ := hu1
      have e1 : rnL u u.length q = kindR ((Utf8.decode (strB u) q).1 : Int) :: rnL u u.length (q + (Utf8.decode (strB u) q).2) := by
        have e2 : rnL u (f + 1) q = kindR ((Utf8.decode (strB u) q).1 : Int) :: rnL u f (q + (Utf8.decode (strB u) q).2) := by
          show (if q < u.length then _ else _) = _
          rw [if_pos h1]
        rw [hf, e2]
        congr 1
        rw [rnL_fuel u f _ (by omega)]
      have hlk : (L ++ [kindR ((Utf8.decode (strB u) q).1 : Int)]).length ≤ u.length := by
        have h4 : (lnK u).length ≤ u.length := rnL_len u _ _
        rw [← he, e1, List.length_append, List.length_cons] at h4
        rw [List.length_append]; simp only [List.length_cons, List.length_nil]; omega
      have hlen : (K ++ L).length ≤ 101000000 := by rw [List.length_append]; omega
      refine ⟨⟨rfl, hd.2⟩, ⟨by omega, by omega, by omega⟩, ?_⟩
      refine ⟨u.length - (q + (Utf8.decode (strB u) q).2), _, by omega, ⟨q + (Utf8.decode (strB u) q).2, L ++ [kindR ((Utf8.decode (strB u) q).1 : Int)], rfl, by rw [List.length_append]; simp only [List.length_cons, List.length_nil]; omega, hlk, by rw [List.append_assoc, ← he, e1]; rfl, rfl⟩, ?_⟩
      rw [← List.append_assoc]
      generalize K ++ L = M at *
      refine gc_hp rfl rfl ⟨.inr ⟨_, _, rfl, rfl, .refl _⟩, .inl rfl, .inl rfl, .inl rfl, .inl rfl, .inl rfl, .inl rfl, .inl rfl, .inl rfl, .inl rfl, .inl rfl, .inl rfl, .inl rfl, .inl rfl, .inl rfl, .inr ⟨_, _, rfl, by rw [List.length_append]; rfl, .refl _⟩, .inl rfl, .inl rfl, .inr ⟨_, _, rfl, rfl, .refl _⟩, .inr ⟨_, _, rfl, rfl, lB_app fun i hi => ?_⟩, trivial⟩
      unfold BPr_q3
      exact app_sel M _ i hi
    · simp only [decide_eq_false_iff_not] at h1
      have e1 : rnL u u.length q = [] := by
        cases hf : u.length with
        | zero => rfl
        | succ f => unfold rnL; rw [if_neg (by omega)]
      rw [e1, List.append_nil] at he
      subst he
      exact ⟨_, ⟨rfl, q, rfl⟩, Gc.refl _ _⟩
  · rintro e t ⟨rfl, q, rfl⟩
    refine Sat.of_eq (KPr_eq s n C E W H T P K y (K ++ lnK u) u q) ⟨?_⟩
    exact ⟨rfl, Gc.refl _ _⟩
end Go.Proofs.YtgahnelicbddcaaGreatDoor

namespace Go.Sx
open Proofs.YtgahnelicbddcaaGreatDoor (txtT)
def kdL (C : Nat → List UInt8) (H : Nat) (y : Nat) : List Int := (List.range y).flatMap fun i => lnK (C (H - i))
def slL (C : Nat → List UInt8) (k z : Nat) : List (List Int × List Int) := (List.range z).map fun i => slotS (C (k + i))
def lnC (s : List UInt8) : Nat → List UInt8 := fun i => (cutB s [10]).getD (0 + i) []
def hdL (s : List UInt8) : List Int := ((cutB ((cutB s [10]).getD 0 []) [32])).map numW
def rW (s : List UInt8) : Int := (hdL s).getD 1 0
def rH (s : List UInt8) : Int := (hdL s).getD 2 0
def rT (s : List UInt8) : Int := (hdL s).getD 3 0
def rP (s : List UInt8) : Int := (hdL s).getD 4 0
def rKd (s : List UInt8) : List Int := kdL (lnC s) (rH s).toNat (rH s).toNat
def rSl (s : List UInt8) : List (List Int × List Int) := slL (lnC s) (1 + (rH s).toNat) ((cutB s [10]).length - 1 - (1 + (rH s).toNat))
def rdy (s : List UInt8) : Prop := 1 < (cutB s [10]).length ∧ (hdL s).length = 5 ∧ (1 ≤ rW s ∧ rW s ≤ 8) ∧ (1 ≤ rH s ∧ rH s ≤ 8) ∧ 1 + rH s ≤ ((cutB s [10]).length : Int) - 1
def okP (s : List UInt8) : Prop := rdy s ∧ vchP (rW s) (rH s) (rT s) (rP s) (rKd s) (rSl s) ∧ txtT (rW s) (rH s) (rT s) (rP s) (rKd s) (rSl s) = s
instance (s : List UInt8) : Decidable (rdy s) := by unfold rdy; exact inferInstance
instance (s : List UInt8) : Decidable (okP s) := by unfold okP; exact inferInstance
def pW (s : List UInt8) : Int := if okP s then rW s else 0
def pH (s : List UInt8) : Int := if okP s then rH s else 0
def pT (s : List UInt8) : Int := if okP s then rT s else 0
def pP (s : List UInt8) : Int := if okP s then rP s else 0
def pK (s : List UInt8) : List Int := if okP s then rKd s else []
def pS (s : List UInt8) : List (List Int × List Int) := if okP s then rSl s else []
def pE (s : List UInt8) : Int := if okP s then 0 else 5
theorem kdL_succ (C : Nat → List UInt8) (H y : Nat) : kdL C H (y + 1) = kdL C H y ++ lnK (C (H - y)) := by
  unfold kdL; rw [List.range_succ, List.flatMap_append]; simp
theorem kdL_len {C : Nat → List UInt8} {H m : Nat} (hC : ∀ i, (C i).length ≤ m) : ∀ y, (kdL C H y).length ≤ y * m
  | 0 => by simp [kdL]
  | y + 1 => by
    rw [kdL_succ, List.length_append, Nat.add_mul]
    have h1 := kdL_len (H := H) hC y
    have h2 : (lnK (C (H - y))).length ≤ (C (H - y)).length := rnL_len _ _ _
    have h3 := hC (H - y)
    omega
theorem slL_succ (C : Nat → List UInt8) (k z : Nat) : slL C k (z + 1) = slL C k z ++ [slotS (C (k + z))] := by
  unfold slL; rw [List.range_succ, List.map_append]; rfl
theorem slL_len (C : Nat → List UInt8) (k z : Nat) : (slL C k z).length = z := by unfold slL; simp
theorem badsD_badC (S : List (List Int × List Int)) : badsD (.ro S.length 2 (badC S)) = S := by
  show (List.range S.length).map (fun i => (intsD (badC S i 0), intsD (badC S i 1))) = S
  have h1 : ∀ L : List Int, intsD (ivD L) = L := fun L => lsOf_cellL L
  refine List.ext_getElem (by simp) fun i a b => ?_
  simp only [List.getElem_map, List.getElem_range, badC, h1]
  show S.getD i ([], []) = _
  rw [List.getD_eq_getElem?_getD, List.getElem?_eq_getElem b]; rfl
theorem badsD_ok (S : List (List Int × List Int)) : BadsD (.ro S.length 2 (badC S)) := ⟨rfl, fun i hi => ⟨⟨rfl, fun j hj => rfl⟩, rfl, fun j hj => rfl⟩⟩
theorem slot_len {u : List UInt8} {m : Nat} (h : u.length ≤ m) : (slotS u).1.length ≤ m + 1 ∧ (slotS u).2.length ≤ m + 1 := by
  have h1 := trimB_len u sTiles
  have h2 := cutL_len 32 (trimB u sTiles)
  have e : (wdS u).length = (cutL 32 (trimB u sTiles)).length := rfl
  constructor
  · show (slA u).length ≤ _
    unfold slA
    simp only [List.length_map, List.length_drop, List.length_take]; omega
  · show (slB u).length ≤ _
    unfold slB
    simp only [List.length_map, List.length_drop]; omega
end Go.Sx
namespace Go.Proofs.YtgahnelicbddcaaGreatDoor
open Go.Sx
set_option maxRecDepth 100000
theorem pa_loop {s : List UInt8} {n : Nat} {C : Nat → List UInt8} {E : List Int} {W T P : Int} {H m0 : Nat} (hE : E.length = 5) (hH : E.getD 2 0 = H) (h8 : H ≤ 8) (hn : 1 + H ≤ n) (hC : ∀ i, (C i).length ≤ 800000) :
    ∀ (y : Nat), ∀ t, t = invPa s n C E W H T P (kdL C H y) y → y ≤ H →
    Sat Tryz.prog (tPb s n C E W H T P (kdL C H y) y) fun r => match r.1 with
      | .normal => y < H ∧ Gc 17 r.2 (invPa s n C E W H T P (kdL C H (y + 1)) (y + 1 : Nat))
      | e => e = .exit 0 ∧ y = H ∧ Gc 17 r.2 (invPa s n C E W H T P (kdL C H y) y) := by
  intro y t _ hy
  refine Sat.of_eq (BPa_eq s n C E W H T P (kdL C H y) y) ⟨?_⟩
  unfold BPa
  refine ⟨fun h1 => ?_, fun h1 => ?_⟩
  · simp only [decide_eq_true_eq] at h1
    have e1 : w64 (E.getD 2 0 - (y : Int)) = ((H - y : Nat) : Int) := by rw [hH, w64_of (by omega) (by omega)]; omega
    refine ⟨by omega, ⟨by rw [e1]; omega, by rw [e1]; omega⟩, ?_⟩
    have hk := kdL_len (H := H) hC y
    have hk2 : y * 800000 ≤ 8 * 800000 := Nat.mul_le_mul_right _ (by omega)
    refine Tree.sat_mono (fun r hr => ?_) (pr_loop (u := C (H - y)) (by rw [e1, Int.toNat_natCast]) (by have := hC (H - y); omega) (by omega))
    obtain ⟨ex, st⟩ := r
    obtain ⟨e2, e3⟩ := hr
    simp only at e2; subst e2
    refine ⟨by omega, ?_⟩
    rw [kdL_succ]
    rw [w64_of (by omega) (by omega)] at e3
    exact e3
  · simp only [decide_eq_false_iff_not] at h1
    have : y = H := by omega
    exact ⟨rfl, this, Gc.refl _ _⟩
end Go.Proofs.YtgahnelicbddcaaGreatDoor

namespace Go.Proofs.YtgahnelicbddcaaGreatDoor
open Go.Sx
set_option maxRecDepth 100000
noncomputable def okV (w h t p : Int) (K : List Int) (S : List (List Int × List Int)) : SV := .tup [chS w h t p K S, iv 0]
noncomputable def noV : SV := .tup [chS 0 0 0 0 [] [], iv 5]
theorem no_le : leSV 0 [] [] (.tup [.agg [iv 0, iv 0, iv 0, iv 0, nilD, nilD], iv 5]) noV := by
  unfold noV chS nilD ivL iv
  simp [leSV, leSVs, leD]
theorem ok_le {w h t p : Int} {K : List Int} {S : List (List Int × List Int)} : leSV 0 [] [] (.tup [.agg [iv w, iv h, iv t, iv p, .d (.ro K.length 1 (KPs_q4 K)), .d (.ro S.length 2 (KPs_q5 S))], iv 0]) (okV w h t p K S) := by
  unfold okV chS ivL iv
  simp only [leSV, leSVs, leD, and_true, true_and]
  refine ⟨fun i j hi hj => ?_, fun i j hi hj => ?_⟩
  · unfold KPs_q4; rw [Nat.zero_add]
  · unfold KPs_q5 badC ivD; rw [Nat.zero_add]
theorem ris_bd {L : List Int} {n : Int} (h : risP L n) (hn : n ≤ 10000) : L.length ≤ 10000 ∧ ∀ x ∈ L, 0 ≤ x ∧ x ≤ 10000 := by
  have h1 : ∀ i : Nat, i < L.length → (i : Int) ≤ L.getD i 0 := by
    intro i
    induction i with
    | zero => intro hi; exact (h 0 hi).1.1
    | succ i ih =>
      intro hi
      have a := ih (by omega)
      have b := (h (i + 1) hi).2 (by omega)
      rw [Nat.add_sub_cancel] at b
      omega
  constructor
  · rcases Nat.eq_zero_or_pos L.length with h0 | h0
    · omega
    · have a := h1 (L.length - 1) (by omega)
      have b := (h (L.length - 1) (by omega)).1.2
      omega
  · intro x hx
    obtain ⟨i, hi, e⟩ := List.getElem_of_mem hx
    have := (h i hi).1
    rw [List.getD_eq_getElem?_getD, List.getElem?_eq_getElem hi] at this
    have e2 : (some L[i]).getD 0 = x := e
    rw [e2] at this; omega
theorem vch_txt {W H T P : Int} {K : List Int} {S : List (List Int × List Int)} (h : vchP W H T P K S) : OkTx W H T P K S := by
  obtain ⟨⟨⟨a1, a2, a3, a4⟩, a5, a6⟩, b1, b2⟩ := h
  have hg : okG W H T P := ⟨a1, a2, a3, a4⟩
  have hN := (cnt_le hg.gr).2
  have hc : gN W H T P = ((gr W H T P).cnt : Int) := rfl
  have hwh : W * H ≤ 8 * 8 := Int.mul_le_mul (by omega) (by omega) (by omega) (by omega)
  refine ⟨⟨a1, a2, by omega, by omega⟩, ⟨?_, fun k hk => ?_⟩, by omega, fun s hs => ?_⟩
  · have : ((W.toNat * H.toNat : Nat) : Int) = W * H := by rw [Int.natCast_mul, Int.toNat_of_nonneg (by omega), Int.toNat_of_nonneg (by omega)]
    omega
  · obtain ⟨i, hi, e⟩ := List.getElem_of_mem hk
    have := a6 i hi
    rw [List.getD_eq_getElem?_getD, List.getElem?_eq_getElem hi] at this
    have e2 : (some K[i]).getD 0 = k := e
    rw [e2] at this; exact this
  · obtain ⟨r1, r2⟩ := b2 s hs
    obtain ⟨c1, c2⟩ := ris_bd r1 (by omega)
    obtain ⟨d1, d2⟩ := ris_bd r2 (by omega)
    exact ⟨⟨by omega, fun n hn => by have := c2 n hn; omega⟩, by omega, fun n hn => by have := d2 n hn; omega⟩
theorem fin_sat {s : List UInt8} {n : Nat} {C : Nat → List UInt8} {E : List Int} {W H T P : Int} {K : List Int} {y : Int} {n2 : Nat} {C2 : Nat → List UInt8} {S : List (List Int × List Int)} {z : Int} (hl : ChLen K S) {R : SV}
    (hR : R = if vchP W H T P K S ∧ txtT W H T P K S = s then okV W H T P K S else noV) : Sat Tryz.prog (tPd s n C E W H T P K y n2 C2 S z) fun r => leSV 0 [] [] r R := by
  refine Sat.of_eq (KPs_eq s n C E W H T P K y n2 C2 S z) ⟨?_⟩
  unfold KPs
  have k2 : KPs_q2 K = KPs_q4 K := by funext i j; rfl
  have k4 : KPs_q4 K = fun i _ => .x (.int .i64 (K.getD i 0)) := by funext i j; unfold KPs_q4; rw [Nat.zero_add]
  have k3 : KPs_q3 S = badC S := by funext i j; unfold KPs_q3; rw [Nat.zero_add]
  have k5 : KPs_q5 S = badC S := by funext i j; unfold KPs_q5 badC ivD; rw [Nat.zero_add]
  have iK : intsD (.ro K.length 1 (KPs_q4 K)) = K := by rw [k4]; exact lsOf_cellL K
  have iS : badsD (.ro S.length 2 (KPs_q5 S)) = S := by rw [k5]; exact badsD_badC S
  have oK : IntsD (.ro K.length 1 (KPs_q4 K)) := ⟨rfl, fun i hi => rfl⟩
  have oS : BadsD (.ro S.length 2 (KPs_q5 S)) := by rw [k5]; exact badsD_ok S
  have e6 : KPs_q6 W H T P K S = !decide (vchP W H T P K S) := by
    unfold KPs_q6 vchD
    rw [iK, iS]
    unfold vchE
    split
    · rename_i h; rw [decide_eq_true h]; rfl
    · rename_i h; rw [decide_eq_false h]; rfl
  have ch : ChOK (.ro K.length 1 (KPs_q2 K)) (.ro S.length 2 (KPs_q3 S)) := by
    rw [k2, k3, ← k5]
    exact ⟨oK, oS, by rw [iK, iS]; exact hl⟩
  have tx : KPs_q6 W H T P K S = false → TxtRO W H T P K.length (KPs_q4 K) S.length (KPs_q5 S) := fun h => by
    rw [e6, Bool.not_eq_false', decide_eq_true_eq] at h
    exact ⟨oK, oS, by rw [iK, iS]; exact vch_txt h⟩
  rw [iK, iS, strEq_list]
  refine ⟨by omega, by omega, ch, fun _ => by omega, fun _ => by omega, tx, fun h1 => ?_, fun h1 => ⟨by omega, by omega, ?_⟩⟩
  · rw [e6, Bool.or_eq_true, Bool.not_eq_true', decide_eq_false_iff_not, Bool.not_eq_true', beq_eq_false_iff_ne] at h1
    rw [hR, if_neg (fun h => by rcases h1 with h1 | h1; exact h1 h.1; exact h1 h.2)]
    exact no_le
  · rw [e6, Bool.or_eq_false_iff, Bool.not_eq_false', decide_eq_true_eq, Bool.not_eq_false', beq_iff_eq] at h1
    rw [hR, if_pos h1]
    exact ok_le
theorem tPd_eq (s : List UInt8) (n : Nat) (C : Nat → List UInt8) (E : List Int) (W H T P : Int) (K : List Int) (y : Int) (n2 : Nat) (C2 : Nat → List UInt8) (S : List (List Int × List Int)) (z : Int) : codeK (sub [0, 0] (tPc s n C E W H T P K y)) (.exit 4) (invPs s W H T P K n2 C2 S z) = tPd s n C E W H T P K y n2 C2 S z := rfl
theorem bdL_app1 {S : List (List Int × List Int)} {x : List Int × List Int} {i j : Nat} (h : i < S.length) : bdL (S ++ [x]) i j = bdL S i j := by
  unfold bdL
  rw [List.getD_eq_getElem?_getD, List.getD_eq_getElem?_getD, List.getElem?_append_left h]
theorem bdL_app2 {S : List (List Int × List Int)} {x : List Int × List Int} {j : Nat} : bdL (S ++ [x]) S.length j = if j = 0 then x.1 else x.2 := by
  unfold bdL
  rw [List.getD_eq_getElem?_getD]; simp
theorem ps_sat {s : List UInt8} {n : Nat} {C : Nat → List UInt8} {E : List Int} {W T P : Int} {H : Nat} {K : List Int} {y : Int} (hE : E.length = 5) (hH : E.getD 2 0 = H) (h8 : H ≤ 8) (hn : 1 + H ≤ n) (hn2 : n ≤ 1000000) (hC : ∀ i, (C i).length ≤ 800000) (hK : K.length ≤ 100000000) {R : SV}
    (hR : R = if vchP W H T P K (slL C (1 + H) (n - (1 + H))) ∧ txtT W H T P K (slL C (1 + H) (n - (1 + H))) = s then okV W H T P K (slL C (1 + H) (n - (1 + H))) else noV) :
    Sat Tryz.prog (tPc s n C E W H T P K y) fun r => leSV 0 [] [] r R := by
  refine Sat.of_eq (KPa_eq s n C E W H T P K y) ⟨?_⟩
  unfold KPa
  have e1 : w64 (1 + E.getD 2 0) = ((1 + H : Nat) : Int) := by rw [hH, w64_of (by omega) (by omega)]; omega
  have ent : Gc 18 (ups (codeS (sub [0, 0] (tPc s n C E W H T P K y))) 18)
      ⟨[.ok (strV s), .unk, .ok (.ptr 0 0), .ok (iv 0), .unk, .unk, .ok (.ptr 15 0)] ++ List.replicate 105 .unk ++ [.ok (strC (n - (w64 (1 + E.getD 2 0)).toNat) fun i => C ((w64 (1 + E.getD 2 0)).toNat + i)), .ok (iv ((n - (w64 (1 + E.getD 2 0)).toNat : Nat) : Int)), .ok (iv 0)] ++ List.replicate 22 .unk,
        [some (.cells [iv 0, iv 0, iv 0, iv 0, nilD, nilD])] ++ List.replicate 14 none ++ [some (.cells [iv W, iv H, iv T, iv P, .row 17 0 0 K.length 1, nilD]), none, some (lB K)], 18, .nil⟩ :=
    entA_sound (roots := []) (keep := [0, 2, 3, 6, 112, 113, 114]) (drop := [1, 2, 3, 4, 5, 6, 7, 8, 9, 10, 11, 12, 13, 14, 16]) (nx := 18) (h := .nil) (by kernel_rfl)
  rw [e1, Int.toNat_natCast] at ent ⊢
  refine ⟨⟨by omega, by omega⟩, ⟨trivial, by omega, by omega⟩, ?_⟩
  refine code_satS CK2_ok DK2_ok (n := 200) (n0 := 18) (nx := 19) (roots := [(.cell (.base 15) 5, 18)]) (keep := [0, 2, 3, 6, 112, 113, 114]) (drop := [1, 2, 3, 4, 5, 6, 7, 8, 9, 10, 11, 12, 13, 14, 16]) (h := .nil) (body := bodyPs) (by kernel_rfl) (by kernel_rfl)
    (fun m t => ∃ z : Nat, m = n - (1 + H) - z ∧ z ≤ n - (1 + H) ∧ t = invPs s W H T P K (n - (1 + H)) (fun i => C (1 + H + i)) (slL C (1 + H) z) z)
    (fun e t => e = .exit 4 ∧ ∃ z, t = invPs s W H T P K (n - (1 + H)) (fun i => C (1 + H + i)) (slL C (1 + H) (n - (1 + H))) z)
    ⟨_, _, ⟨0, rfl, by omega, rfl⟩, ?_⟩ ?_ ?_
  · refine ent.trans ?_
    refine gc_sound [] [18] rfl ?_ ?_
    · simp [invPs, leTm, leTV, leSV, leSVs, rn, iv, leD, List.replicate, strC, strV]
    · simp [invPs, leHp, leBlk, leSVs, leSV, rn, iv, leD, srcOf, hget, lB, nilD, slL, List.replicate]
  · rintro m t ⟨z, rfl, hz, rfl⟩
    refine Sat.of_eq (BPs_eq s W H T P K _ _ _ z) ?_
    constructor; unfold BPs
    have hl := slL_len C (1 + H) z
    refine ⟨fun h1 => ?_, fun h1 => ?_⟩
    · simp only [decide_eq_true_eq] at h1
      have hc : ((fun i => C (1 + H + i)) z).length ≤ 800000 := hC (1 + H + z)
      rw [Int.toNat_natCast, strB_size, w64_of (n := (z : Int) + 1) (by omega) (by omega)]
      refine ⟨by omega, by omega, ⟨by omega, by omega, by omega⟩, n - (1 + H) - (z + 1), _, by omega, ⟨z + 1, rfl, by omega, rfl⟩, ?_⟩
      rw [slL_succ]
      have e5 : ∀ a b, a < (slL C (1 + H) z).length + 1 → b < 2 → BPs_q5 (fun i => C (1 + H + i)) (slL C (1 + H) z) (z : Int) a b = badC (slL C (1 + H) z ++ [slotS (C (1 + H + z))]) a b := fun a b ha hb => by
        generalize slL C (1 + H) z = S at *
        unfold BPs_q5 badC
        rw [Nat.zero_add, Int.toNat_natCast]
        by_cases h5 : a < S.length
        · rw [decide_eq_true h5, bdL_app1 h5]; rfl
        · obtain rfl : a = S.length := by omega
          rw [decide_eq_false h5, bdL_app2]
          have e3 : BPs_q3 (fun i => C (1 + H + i)) (z : Int) = fun i _ => .x (.int .i64 ((slA (C (1 + H + z))).getD i 0)) := by
            funext i j; unfold BPs_q3; rw [Int.toNat_natCast, strB_list]
          have e4 : BPs_q4 (fun i => C (1 + H + i)) (z : Int) = fun i _ => .x (.int .i64 ((slB (C (1 + H + z))).getD i 0)) := by
            funext i j; unfold BPs_q4; rw [Int.toNat_natCast, strB_list]
          rw [e3, e4, strB_list, Nat.sub_self]
          match b, hb with
          | 0, _ => rfl
          | 1, _ => rfl
      generalize slL C (1 + H) z = S at *
      refine gc_hp rfl rfl ⟨.inr ⟨_, _, rfl, rfl, .refl _⟩, .inl rfl, .inl rfl, .inl rfl, .inl rfl, .inl rfl, .inl rfl, .inl rfl, .inl rfl, .inl rfl, .inl rfl, .inl rfl, .inl rfl, .inl rfl, .inl rfl, .inr ⟨_, _, rfl, by rw [List.length_append]; rfl, .refl _⟩, .inl rfl, .inr ⟨_, _, rfl, rfl, .refl _⟩, .inr ⟨_, _, rfl, by rw [List.length_append]; rfl, .row fun i j hi hj => e5 i j hi hj⟩, trivial⟩
    · simp only [decide_eq_false_iff_not] at h1
      obtain rfl : z = n - (1 + H) := by omega
      exact ⟨_, ⟨rfl, _, rfl⟩, Gc.refl _ _⟩
  · rintro e t ⟨rfl, z, rfl⟩
    have hl : ChLen K (slL C (1 + H) (n - (1 + H))) := ⟨by omega, by rw [slL_len]; omega, fun x hx => by
      obtain ⟨i, hi, rfl⟩ := List.mem_map.1 hx
      have := slot_len (u := C (1 + H + i)) (hC _)
      omega⟩
    have k0 := fin_sat (s := s) (n := n) (C := C) (E := E) (y := y) (n2 := n - (1 + H)) (C2 := fun i => C (1 + H + i)) (z := z) hl hR
    exact Sat.of_eq (tPd_eq s n C E W H T P K y (n - (1 + H)) (fun i => C (1 + H + i)) (slL C (1 + H) (n - (1 + H))) z) k0
end Go.Proofs.YtgahnelicbddcaaGreatDoor

namespace Go.Sx
def wdH (s : List UInt8) : List (List UInt8) := cutB ((cutB s [10]).getD 0 []) [32]
def hdR (s : List UInt8) : List Int := numsL (wdH s).length (rowS (wdH s))
def nP (s : List UInt8) : Nat := (w64 (((cutB s [10]).length : Int) - 1)).toNat - 0
def q2P (s : List UInt8) : Bool := ((hdR s).length : Int) != 5
def q3P (s : List UInt8) : Bool := q2P s || decide ((hdR s).getD 1 0 < 1)
def q4P (s : List UInt8) : Bool := q3P s || decide ((hdR s).getD 1 0 > 8)
def q5P (s : List UInt8) : Bool := q4P s || decide ((hdR s).getD 2 0 < 1)
def q6P (s : List UInt8) : Bool := q5P s || decide ((hdR s).getD 2 0 > 8)
theorem hdR_eq (s : List UInt8) : hdR s = hdL s := by
  unfold hdR numsL hdL
  rw [cellsT_rowS]; rfl
end Go.Sx
namespace Go.Proofs.YtgahnelicbddcaaGreatDoor
open Go.Sx
set_option maxRecDepth 100000
noncomputable def noR : SV := .tup [.agg [iv 0, iv 0, iv 0, iv 0, nilD, nilD], iv 5]
noncomputable def LPh (s : List UInt8) : Tree SV :=
  .need (OneB (strB [10]) ∧ (strB s).size ≤ 1000000)
  (.need ((0 ≤ w64 (((cutB s [10]).length : Int) - 1) ∧ (w64 (((cutB s [10]).length : Int) - 1)).toNat ≤ (cutB s [10]).length) ∧ True)
  (.ite ((nP s : Int) == 0) (.ret noR)
  (.need ((0 : Int) ≤ 0 ∧ 0 < (nP s : Int))
  (.need (OneB (strB [32]) ∧ (strB ((cutB s [10]).getD 0 [])).size ≤ 1000000)
  (.need (StrsOK (wdH s).length (rowS (wdH s)))
  (.need (q2P s = false → (0 : Int) ≤ 1 ∧ 1 < ((hdR s).length : Int))
  (.need (q3P s = false → (0 : Int) ≤ 1 ∧ 1 < ((hdR s).length : Int))
  (.need (q4P s = false → (0 : Int) ≤ 2 ∧ 2 < ((hdR s).length : Int))
  (.need (q5P s = false → (0 : Int) ≤ 2 ∧ 2 < ((hdR s).length : Int))
  (.need (q6P s = false → (0 : Int) ≤ 2 ∧ 2 < ((hdR s).length : Int))
  (.ite (q6P s || decide ((nP s : Int) < w64 (1 + (hdR s).getD 2 0))) (.ret noR)
  (.need ((0 : Int) ≤ 1 ∧ 1 < ((hdR s).length : Int))
  (.need ((0 : Int) ≤ 2 ∧ 2 < ((hdR s).length : Int))
  (.need ((0 : Int) ≤ 3 ∧ 3 < ((hdR s).length : Int))
  (.need ((0 : Int) ≤ 4 ∧ 4 < ((hdR s).length : Int))
  (.need ((0 : Int) ≤ 2 ∧ 2 < ((hdR s).length : Int))
  (.code (codeC (sub [0, 0, 1, 0, 0, 0, 0, 0, 0, 0, 0, 1, 0, 0, 0, 0, 0] (tPa s))) (codeS (sub [0, 0, 1, 0, 0, 0, 0, 0, 0, 0, 0, 1, 0, 0, 0, 0, 0] (tPa s))) (codeK (sub [0, 0, 1, 0, 0, 0, 0, 0, 0, 0, 0, 1, 0, 0, 0, 0, 0] (tPa s))))))))))))))))))))
theorem LPh_eq (s : List UInt8) : tPa s = LPh s := by kernel_rfl
theorem tPc_eq (s : List UInt8) (n : Nat) (C : Nat → List UInt8) (E : List Int) (W H T P : Int) (K : List Int) (y : Int) : codeK (sub [0, 0, 1, 0, 0, 0, 0, 0, 0, 0, 0, 1, 0, 0, 0, 0, 0] (tPa s)) (.exit 0) (invPa s n C E W H T P K y) = tPc s n C E W H T P K y := rfl
theorem cut_mem {s w : List UInt8} {c : UInt8} (h : w ∈ cutB s [c]) : w.length ≤ s.length := cutL_mem c s w h
theorem lnC_len (s : List UInt8) (i : Nat) : (lnC s i).length ≤ s.length := by
  unfold lnC
  rcases Nat.lt_or_ge (0 + i) (cutB s [10]).length with h | h
  · rw [List.getD_eq_getElem?_getD, List.getElem?_eq_getElem h]
    exact cut_mem (List.getElem_mem h)
  · rw [List.getD_eq_getElem?_getD, List.getElem?_eq_none (by omega)]; simp
theorem pa_sat {s : List UInt8} (hs : s.length ≤ 800000) : Sat Tryz.prog (tPa s) fun r => leSV 0 [] [] r (if okP s then okV (rW s) (rH s) (rT s) (rP s) (rKd s) (rSl s) else noV) := by
  refine Sat.of_eq (LPh_eq s) ⟨?_⟩
  have ent : Gc 17 (ups (codeS (sub [0, 0, 1, 0, 0, 0, 0, 0, 0, 0, 0, 1, 0, 0, 0, 0, 0] (tPa s))) 17)
      ⟨[.ok (strV s), .unk, .ok (.ptr 0 0), .ok (iv 0), .ok (strC (nP s) (lnC s)), .ok (ivL (hdR s)), .ok (.ptr 15 0)] ++ List.replicate 74 .unk ++ [.ok (iv ((hdR s).getD 2 0)), .ok (iv 0)] ++ List.replicate 54 .unk, [some (.cells [iv 0, iv 0, iv 0, iv 0, nilD, nilD])] ++ List.replicate 14 none ++ [some (.cells [iv ((hdR s).getD 1 0), iv ((hdR s).getD 2 0), iv ((hdR s).getD 3 0), iv ((hdR s).getD 4 0), nilD, nilD]), none], 17, .nil⟩ :=
    entA_sound (roots := []) (keep := [0, 2, 3, 4, 5, 6, 81, 82]) (drop := [1, 2, 3, 4, 5, 6, 7, 8, 9, 10, 11, 12, 13, 14, 16]) (nx := 17) (h := .nil) (by kernel_rfl)
  have hcl := cutL_len 10 s
  have hcb : (cutB s [10]).length = (cutL 10 s).length := rfl
  have hw : w64 (((cutB s [10]).length : Int) - 1) = (((cutB s [10]).length - 1 : Nat) : Int) := by rw [w64_of (by omega) (by omega)]; omega
  have hn : nP s = (cutB s [10]).length - 1 := by unfold nP; rw [hw, Int.toNat_natCast]; rfl
  have hl0 : ((cutB s [10]).getD 0 []).length ≤ 800000 := by
    have := lnC_len s 0
    unfold lnC at this
    rw [Nat.zero_add] at this
    omega
  have hwd := cutL_len 32 ((cutB s [10]).getD 0 [])
  have hwb : (wdH s).length = (cutL 32 ((cutB s [10]).getD 0 [])).length := rfl
  have hso : StrsOK (wdH s).length (rowS (wdH s)) := by
    have := strsOK_rowS (W := wdH s) (k := 0) (n := (wdH s).length) (m := 800000) (by omega) (by omega) (fun w h => by have := cut_mem h; omega)
    simp only [Nat.zero_add] at this; exact this
  have he := hdR_eq s
  have e1 : (hdR s).getD 1 0 = rW s := by rw [he]; rfl
  have e2 : (hdR s).getD 2 0 = rH s := by rw [he]; rfl
  have e3 : (hdR s).getD 3 0 = rT s := by rw [he]; rfl
  have e4 : (hdR s).getD 4 0 = rP s := by rw [he]; rfl
  have hlen : (hdR s).length = (hdL s).length := by rw [he]
  have q2e : q2P s = false → (hdR s).length = 5 := fun h => by
    unfold q2P at h; rw [bne_eq_false_iff_eq] at h; omega
  have q3e : q3P s = false → (hdR s).length = 5 := fun h => by
    unfold q3P at h; rw [Bool.or_eq_false_iff] at h; exact q2e h.1
  have q4e : q4P s = false → (hdR s).length = 5 := fun h => by
    unfold q4P at h; rw [Bool.or_eq_false_iff] at h; exact q3e h.1
  have q5e : q5P s = false → (hdR s).length = 5 := fun h => by
    unfold q5P at h; rw [Bool.or_eq_false_iff] at h; exact q4e h.1
  have q6e : q6P s = false → (hdR s).length = 5 := fun h => by
    unfold q6P at h; rw [Bool.or_eq_false_iff] at h; exact q5e h.1
  have hq6 : q6P s = false ↔ (hdL s).length = 5 ∧ (1 ≤ rW s ∧ rW s ≤ 8) ∧ (1 ≤ rH s ∧ rH s ≤ 8) := by
    unfold q6P q5P q4P q3P q2P
    rw [e1, e2, hlen]
    simp only [Bool.or_eq_false_iff, bne_eq_false_iff_eq, decide_eq_false_iff_not]
    omega
  have hno : ¬ rdy s → leSV 0 [] [] noR (if okP s then okV (rW s) (rH s) (rT s) (rP s) (rKd s) (rSl s) else noV) := fun h => by
    rw [if_neg (fun h2 : okP s => h h2.1)]
    exact no_le
  unfold LPh
  rw [hw, hn, Int.toNat_natCast, strB_size, strB_size]
  refine ⟨⟨rfl, by omega⟩, ⟨⟨by omega, by omega⟩, trivial⟩, fun h1 => ?_, fun h1 => ?_⟩
  · rw [beq_iff_eq] at h1
    exact hno fun h => by have := h.1; omega
  rw [beq_eq_false_iff_ne] at h1
  refine ⟨⟨by omega, by omega⟩, ⟨rfl, by omega⟩, hso, fun h => ⟨by omega, by rw [q2e h]; omega⟩, fun h => ⟨by omega, by rw [q3e h]; omega⟩, fun h => ⟨by omega, by rw [q4e h]; omega⟩, fun h => ⟨by omega, by rw [q5e h]; omega⟩, fun h => ⟨by omega, by rw [q6e h]; omega⟩, fun h2 => ?_, fun h2 => ?_⟩
  · refine hno fun h => ?_
    obtain ⟨r1, r2, r3, r4, r5⟩ := h
    rw [hq6.2 ⟨r2, r3, r4⟩, Bool.false_or, decide_eq_true_eq, e2, w64_of (by omega) (by omega)] at h2
    omega
  rw [Bool.or_eq_false_iff, decide_eq_false_iff_not] at h2
  obtain ⟨h2, h3⟩ := h2
  obtain ⟨r2, r3, r4⟩ := hq6.1 h2
  rw [e2, w64_of (by omega) (by omega)] at h3
  have hr : rdy s := ⟨by omega, r2, r3, r4, by omega⟩
  have h5 : (hdR s).length = 5 := q6e h2
  obtain ⟨H, hH⟩ : ∃ H : Nat, rH s = H := ⟨(rH s).toNat, by omega⟩
  rw [e1, e2, e3, e4, hn] at ent
  rw [hH] at ent
  have hC : ∀ i, (lnC s i).length ≤ 800000 := fun i => by have := lnC_len s i; omega
  have eK : rKd s = kdL (lnC s) H H := by unfold rKd; rw [hH, Int.toNat_natCast]
  have eS : rSl s = slL (lnC s) (1 + H) ((cutB s [10]).length - 1 - (1 + H)) := by unfold rSl; rw [hH, Int.toNat_natCast]
  have hR : (if okP s then okV (rW s) (rH s) (rT s) (rP s) (rKd s) (rSl s) else noV) = if vchP (rW s) H (rT s) (rP s) (kdL (lnC s) H H) (slL (lnC s) (1 + H) ((cutB s [10]).length - 1 - (1 + H))) ∧ txtT (rW s) H (rT s) (rP s) (kdL (lnC s) H H) (slL (lnC s) (1 + H) ((cutB s [10]).length - 1 - (1 + H))) = s then okV (rW s) H (rT s) (rP s) (kdL (lnC s) H H) (slL (lnC s) (1 + H) ((cutB s [10]).length - 1 - (1 + H))) else noV := by
    rw [← eK, ← eS, ← hH]
    by_cases h : vchP (rW s) (rH s) (rT s) (rP s) (rKd s) (rSl s) ∧ txtT (rW s) (rH s) (rT s) (rP s) (rKd s) (rSl s) = s
    · rw [if_pos h, if_pos (show okP s from ⟨hr, h⟩)]
    · rw [if_neg h, if_neg (fun h2 : okP s => h h2.2)]
  refine ⟨⟨by omega, by omega⟩, ⟨by omega, by omega⟩, ⟨by omega, by omega⟩, ⟨by omega, by omega⟩, ⟨by omega, by omega⟩, ?_⟩
  refine code_satS CK2_ok DK2_ok (n := 200) (n0 := 17) (nx := 18) (roots := [(.cell (.base 15) 4, 17)]) (keep := [0, 2, 3, 4, 5, 6, 81, 82]) (drop := [1, 2, 3, 4, 5, 6, 7, 8, 9, 10, 11, 12, 13, 14, 16]) (h := .nil) (body := bodyPa) (by kernel_rfl) (by kernel_rfl)
    (fun m t => ∃ y : Nat, m = H - y ∧ y ≤ H ∧ t = invPa s ((cutB s [10]).length - 1) (lnC s) (hdR s) (rW s) H (rT s) (rP s) (kdL (lnC s) H y) y)
    (fun e t => e = .exit 0 ∧ t = invPa s ((cutB s [10]).length - 1) (lnC s) (hdR s) (rW s) H (rT s) (rP s) (kdL (lnC s) H H) H)
    ⟨_, _, ⟨0, rfl, by omega, rfl⟩, ?_⟩ ?_ ?_
  · refine ent.trans ?_
    refine gc_sound [] [17] rfl ?_ ?_
    · simp [invPa, leTm, leTV, leSV, leSVs, rn, iv, leD, List.replicate, strC, strV, ivL]
    · simp [invPa, leHp, leBlk, leSVs, leSV, rn, iv, leD, srcOf, hget, lB, nilD, kdL, List.replicate]
  · rintro m t ⟨y, rfl, hy, rfl⟩
    have k0 := pa_loop (s := s) (n := (cutB s [10]).length - 1) (C := lnC s) (E := hdR s) (W := rW s) (T := rT s) (P := rP s) (H := H) (m0 := 0) h5 (by rw [e2, hH]) (by omega) (by omega) hC y _ rfl hy
    refine ⟨Tree.sat_mono (fun r hr => ?_) k0.ok⟩
    obtain ⟨ex, st⟩ := r
    cases ex with
    | normal => exact ⟨H - (y + 1), _, by have := hr.1; omega, ⟨y + 1, rfl, by have := hr.1; omega, rfl⟩, hr.2⟩
    | _ =>
      obtain ⟨h6, h7, h8⟩ := hr
      subst h7
      exact ⟨_, ⟨h6, rfl⟩, h8⟩
  · rintro e t ⟨rfl, rfl⟩
    rw [hR]
    have hk := kdL_len (H := H) hC H
    have hk2 : H * 800000 ≤ 8 * 800000 := Nat.mul_le_mul_right _ (by omega)
    have k0 := ps_sat (s := s) (n := (cutB s [10]).length - 1) (C := lnC s) (E := hdR s) (W := rW s) (T := rT s) (P := rP s) (H := H) (K := kdL (lnC s) H H) (y := H) h5 (by rw [e2, hH]) (by omega) (by omega) (by omega) hC (by omega) rfl
    exact Sat.of_eq (tPc_eq s _ _ _ _ _ _ _ _ _) k0
noncomputable def cPar : Ctr := fun ss => match ss with
  | [.d (.x (.string s))] => .need (s.size ≤ 800000) (.ret (.tup [.agg [iv (pW s.data.toList), iv (pH s.data.toList), iv (pT s.data.toList), iv (pP s.data.toList), ivL (pK s.data.toList), .d (.ro (pS s.data.toList).length 2 (badC (pS s.data.toList)))], iv (pE s.data.toList)]))
  | _ => .fail
theorem cPar_ok : CtrOK Tryz.prog 46 cPar := by
  refine ctrOK_leR CK2_ok DK2_ok (by kernel_rfl) (by kernel_rfl) fun ss r hr => ?_
  unfold cPar at hr
  split at hr
  · rename_i s
    obtain ⟨h1, rfl⟩ := hr
    have k0 := pa_sat (s := s.data.toList) (by simpa using h1)
    have e : (if okP s.data.toList then okV (rW s.data.toList) (rH s.data.toList) (rT s.data.toList) (rP s.data.toList) (rKd s.data.toList) (rSl s.data.toList) else noV) = .tup [.agg [iv (pW s.data.toList), iv (pH s.data.toList), iv (pT s.data.toList), iv (pP s.data.toList), ivL (pK s.data.toList), .d (.ro (pS s.data.toList).length 2 (badC (pS s.data.toList)))], iv (pE s.data.toList)] := by
      unfold pW pH pT pP pK pS pE
      by_cases h : okP s.data.toList
      · simp only [if_pos h]; rfl
      · simp only [if_neg h]; rfl
    rw [e] at k0
    refine ⟨_, 200, .nil, ?_, k0⟩
    exact ⟨rfl, by simp only [leSVs]⟩
  · exact hr.elim
end Go.Proofs.YtgahnelicbddcaaGreatDoor

namespace Go.Sx
theorem cutL_app {c : UInt8} : ∀ {w r : List UInt8}, c ∉ w → cutL c (w ++ c :: r) = w :: cutL c r
  | [], r, _ => by simp [cutL]
  | b :: w, r, h => by
    have hb : (b == c) = false := beq_eq_false_iff_ne.2 fun e => h (by simp [e])
    have ih := cutL_app (c := c) (w := w) (r := r) fun e => h (List.mem_cons_of_mem _ e)
    show (if (b == c) = true then _ else match cutL c (w ++ c :: r) with | [] => [[b]] | x :: r => (b :: x) :: r) = _
    rw [hb, if_neg (by decide), ih]
theorem cutL_end {c : UInt8} : ∀ {w : List UInt8}, c ∉ w → cutL c w = [w]
  | [], _ => rfl
  | b :: w, h => by
    have hb : (b == c) = false := beq_eq_false_iff_ne.2 fun e => h (by simp [e])
    have ih := cutL_end (c := c) (w := w) fun e => h (List.mem_cons_of_mem _ e)
    show (if (b == c) = true then _ else match cutL c w with | [] => [[b]] | x :: r => (b :: x) :: r) = _
    rw [hb, if_neg (by decide), ih]
theorem cut_lines : ∀ {L : List (List UInt8)}, (∀ w ∈ L, (10 : UInt8) ∉ w) → cutL 10 (L.flatMap fun w => w ++ [10]) = L ++ [[]]
  | [], _ => rfl
  | w :: L, h => by
    rw [List.flatMap_cons, List.append_assoc, List.singleton_append, cutL_app (h w (by simp)), cut_lines fun v hv => h v (List.mem_cons_of_mem _ hv)]; rfl
theorem itoaC_dig {n : Int} (h0 : 0 ≤ n) : ∀ x ∈ itoaC n, 48 ≤ x.toNat ∧ x.toNat ≤ 57 := fun x hx => by
  unfold itoaC at hx
  rw [if_neg (by omega)] at hx
  exact decF_dig _ _ _ hx
theorem numW_itoa {n : Int} (h0 : 0 ≤ n) (h1 : n ≤ 1000000) : numW (itoaC n) = n := by
  have h := atoi_dec (u := n.toNat) (by omega)
  have e : itoaC n = decF 19 n.toNat := by unfold itoaC; rw [if_neg (by omega)]
  unfold numW atoiOK atoiV
  rw [e, h]
  simp only [if_true]
  omega
theorem itoaC_no {n : Int} (h0 : 0 ≤ n) {c : UInt8} (hc : c.toNat < 48) : c ∉ itoaC n := fun h => by
  have := itoaC_dig h0 c h; omega
theorem map_numW {L : List Int} (h : ∀ n ∈ L, 0 ≤ n ∧ n ≤ 1000000) : (L.map itoaC).map numW = L := by
  rw [List.map_map]
  conv => rhs; rw [← List.map_id L]
  exact List.map_congr_left fun n hn => numW_itoa (h n hn).1 (h n hn).2
theorem letB_lt (k : Int) : (Proofs.YtgahnelicbddcaaGreatDoor.letB k).toNat < 128 := by
  unfold Proofs.YtgahnelicbddcaaGreatDoor.letB
  match k.toNat with
  | 0 => decide
  | 1 => decide
  | 2 => decide
  | n + 3 => simp
theorem dec_ascii {u : List UInt8} {q : Nat} (hq : q < u.length) (h : (u.getD q 0).toNat < 128) : Utf8.decode (strB u) q = ((u.getD q 0).toNat, 1) := by
  have e : (strB u).get! (q + 0) = u.getD q 0 := by
    show (strB u).data[q + 0]! = _
    rw [Nat.add_zero]
    show u.toArray[q]! = _
    rw [List.getElem!_toArray, List.getD_eq_getElem?_getD, List.getElem!_eq_getElem?_getD]; rfl
  unfold Utf8.decode
  simp only [e]
  rw [if_pos h]
theorem rnL_ascii {L : List Int} (hL : ∀ k ∈ L, 0 ≤ k ∧ k ≤ 2) : ∀ (f q : Nat), L.length ≤ f + q → rnL (L.map Proofs.YtgahnelicbddcaaGreatDoor.letB) f q = L.drop q
  | 0, q, h => by rw [List.drop_of_length_le (by omega)]; rfl
  | f + 1, q, h => by
    unfold rnL
    rw [List.length_map]
    by_cases hq : q < L.length
    · have e : (L.map Proofs.YtgahnelicbddcaaGreatDoor.letB).getD q 0 = Proofs.YtgahnelicbddcaaGreatDoor.letB L[q] := by
        rw [List.getD_eq_getElem?_getD, List.getElem?_map, List.getElem?_eq_getElem hq]; rfl
      rw [if_pos hq, dec_ascii (by rw [List.length_map]; exact hq) (by rw [e]; exact letB_lt _), e, rnL_ascii hL f (q + 1) (by omega)]
      have hk := hL L[q] (List.getElem_mem hq)
      have : kindR ((Proofs.YtgahnelicbddcaaGreatDoor.letB L[q]).toNat : Int) = L[q] := by
        generalize L[q] = k at hk
        have : k = 0 ∨ k = 1 ∨ k = 2 := by omega
        rcases this with rfl | rfl | rfl <;> decide
      rw [this, List.drop_eq_getElem_cons hq]
    · rw [if_neg hq, List.drop_of_length_le (by omega)]
theorem lnK_ascii {L : List Int} (hL : ∀ k ∈ L, 0 ≤ k ∧ k ≤ 2) : lnK (L.map Proofs.YtgahnelicbddcaaGreatDoor.letB) = L := by
  unfold lnK
  rw [List.length_map, rnL_ascii hL _ _ (by omega)]; rfl
theorem flat_rows (K : List Int) (w : Nat) : ∀ y : Nat, (List.range y).flatMap (fun i => (K.drop (i * w)).take w) = K.take (y * w)
  | 0 => by simp
  | y + 1 => by
    rw [List.range_succ, List.flatMap_append, flat_rows K w y, List.flatMap_cons, List.flatMap_nil, List.append_nil, Nat.add_mul, Nat.one_mul, List.take_add]
end Go.Sx
namespace Go.Proofs.YtgahnelicbddcaaGreatDoor
open Go.Sx
set_option maxRecDepth 100000
theorem cut_num {L : List Int} (hL : ∀ n ∈ L, 0 ≤ n) : ∀ {u : List UInt8}, (32 : UInt8) ∉ u → cutL 32 (u ++ numT L) = u :: L.map itoaC := by
  induction L with
  | nil => intro u hu; unfold numT; rw [List.flatMap_nil, List.append_nil, cutL_end hu]; rfl
  | cons n L ih =>
    intro u hu
    unfold numT at ih ⊢
    rw [List.flatMap_cons, List.cons_append, cutL_app hu, ih (fun m hm => hL m (List.mem_cons_of_mem _ hm)) (itoaC_no (hL n (by simp)) (by decide))]; rfl
theorem cut_num2 {L : List Int} (hL : ∀ n ∈ L, 0 ≤ n) {r : List UInt8} : ∀ {u : List UInt8}, (32 : UInt8) ∉ u → cutL 32 (u ++ (numT L ++ 32 :: r)) = u :: (L.map itoaC ++ cutL 32 r) := by
  induction L with
  | nil => intro u hu; unfold numT; rw [List.flatMap_nil, List.nil_append, cutL_app hu]; rfl
  | cons n L ih =>
    intro u hu
    unfold numT at ih ⊢
    rw [List.flatMap_cons, List.cons_append, List.cons_append, cutL_app hu, List.append_assoc, ih (fun m hm => hL m (List.mem_cons_of_mem _ hm)) (itoaC_no (hL n (by simp)) (by decide))]; rfl
theorem numT_no {L : List Int} (hL : ∀ n ∈ L, 0 ≤ n) : (10 : UInt8) ∉ numT L := fun h => by
  unfold numT at h
  obtain ⟨n, hn, hx⟩ := List.mem_flatMap.1 h
  rcases List.mem_cons.1 hx with hx | hx
  · cases hx
  · exact itoaC_no (hL n hn) (by decide) hx
def slotW (s : List Int × List Int) : List UInt8 := sTil ++ (numT s.1 ++ (sNod ++ numT s.2))
theorem slotW_eq (s : List Int × List Int) : slotW s ++ [10] = slotT s := by unfold slotW slotT; simp only [List.append_assoc]
theorem slot_read {a b : List Int} (ha : ∀ n ∈ a, 0 ≤ n ∧ n ≤ 1000000) (hb : ∀ n ∈ b, 0 ≤ n ∧ n ≤ 1000000) : slotS (slotW (a, b)) = (a, b) := by
  have e1 : trimB (slotW (a, b)) sTiles = numT a ++ (sNod ++ numT b) := by
    unfold trimB slotW Lib.trimPrefix
    rw [if_pos (by unfold Lib.hasPrefix; rfl)]
    rfl
  have e2 : wdS (slotW (a, b)) = [] :: (a.map itoaC ++ sNodes :: b.map itoaC) := by
    unfold wdS cutB
    rw [e1]
    show cutL 32 ([] ++ (numT a ++ 32 :: (sNodes ++ numT b))) = _
    rw [cut_num2 (fun n hn => (ha n hn).1) (by simp), cut_num (fun n hn => (hb n hn).1) (by decide)]
  have hne : ∀ n : Int, 0 ≤ n → strB (itoaC n) ≠ strB sNodes := fun n hn h => by
    have h2 : itoaC n = sNodes := by rw [← strB_list (itoaC n), h, strB_list]
    have := itoaC_dig hn 110 (by rw [h2]; simp [sNodes])
    have h110 : (110 : UInt8).toNat = 110 := rfl
    omega
  have e3 : idxL (wdS (slotW (a, b))) sNodes = ((1 + a.length : Nat) : Int) := by
    unfold idxL
    have hl : ((wdS (slotW (a, b))).map strB).length = a.length + b.length + 2 := by
      rw [e2]; simp; omega
    have := Lib.idxOfS_hit ((wdS (slotW (a, b))).map strB) (a.length + b.length + 2) (1 + a.length) (strB sNodes) (by omega) (by omega) ?_ ?_
    · rw [List.take_of_length_le (by omega)] at this
      exact this
    · rw [e2]
      rw [List.getD_eq_getElem?_getD, List.getElem?_map, show 1 + a.length = a.length + 1 by omega, List.getElem?_cons_succ, List.getElem?_append_right (by simp)]
      simp
    · intro j hj
      rw [e2]
      match j with
      | 0 =>
        intro h
        have : strB [] = strB sNodes := h
        have h2 := congrArg ByteArray.size this
        rw [strB_size, strB_size] at h2
        cases h2
      | j + 1 =>
        have hja : j < a.length := by omega
        rw [List.getD_eq_getElem?_getD, List.getElem?_map, List.getElem?_cons_succ, List.getElem?_append_left (by simpa using hja), List.getElem?_map, List.getElem?_eq_getElem hja]
        exact hne _ (ha _ (List.getElem_mem hja)).1
  have e4 : atS (slotW (a, b)) = ((1 + a.length : Nat) : Int) := by
    unfold atS
    rw [idxW_L, e3]
    split
    · omega
    · rfl
  unfold slotS slA slB
  rw [e4, e2, Int.toNat_natCast]
  refine Prod.ext ?_ ?_
  · show ((([] :: (a.map itoaC ++ sNodes :: b.map itoaC)).take (1 + a.length)).drop 1).map numW = a
    rw [show 1 + a.length = a.length + 1 by omega, List.take_succ_cons, List.drop_succ_cons, List.drop_zero, List.take_append_of_le_length (by simp), List.take_of_length_le (by simp)]
    exact map_numW ha
  · show (([] :: (a.map itoaC ++ sNodes :: b.map itoaC)).drop (1 + a.length + 1)).map numW = b
    have e5 : (a.map itoaC ++ sNodes :: b.map itoaC).drop (a.length + 1) = b.map itoaC := by
      rw [← List.singleton_append, ← List.append_assoc]
      exact List.drop_left' (by simp)
    rw [show 1 + a.length + 1 = (a.length + 1) + 1 by omega, List.drop_succ_cons, e5]
    exact map_numW hb
def rowB (w : Nat) (K : List Int) (y : Nat) : List UInt8 := ((K.drop (y * w)).take w).map letB
def rowLs (w : Nat) (K : List Int) : Nat → List (List UInt8)
  | 0 => []
  | y + 1 => rowB w K y :: rowLs w K y
theorem rowLs_len (w : Nat) (K : List Int) : ∀ h, (rowLs w K h).length = h
  | 0 => rfl
  | y + 1 => by simp [rowLs, rowLs_len w K y]
theorem rowLs_get (w : Nat) (K : List Int) : ∀ h i, i < h → (rowLs w K h)[i]? = some (rowB w K (h - 1 - i))
  | y + 1, 0, _ => by simp [rowLs]
  | y + 1, i + 1, hi => by
    simp only [rowLs, List.getElem?_cons_succ]
    rw [rowLs_get w K y i (by omega), show y + 1 - 1 - (i + 1) = y - 1 - i by omega]
theorem rowsT_flat (w : Nat) (K : List Int) : ∀ h, rowsT w K h = (rowLs w K h).flatMap fun l => l ++ [10]
  | 0 => rfl
  | y + 1 => by rw [rowLs, List.flatMap_cons, rowsT, rowsT_flat w K y]; rfl
def headW (w h t p : Int) : List UInt8 := sGrd ++ numT [w, h, t, p]
def linesW (w h t p : Int) (K : List Int) (S : List (List Int × List Int)) : List (List UInt8) := headW w h t p :: (rowLs w.toNat K h.toNat ++ S.map slotW)
theorem txt_lines (w h t p : Int) (K : List Int) (S : List (List Int × List Int)) : txtT w h t p K S = (linesW w h t p K S).flatMap fun l => l ++ [10] := by
  unfold linesW txtT headT headW
  rw [List.flatMap_cons, List.flatMap_append, ← rowsT_flat, List.flatMap_map]
  have e : S.flatMap slotT = S.flatMap fun a => slotW a ++ [10] := by
    congr 1; funext a; rw [slotW_eq]
  rw [e]; simp only [List.append_assoc]
structure Rds (w h t p : Int) (K : List Int) (S : List (List Int × List Int)) (s : List UInt8) : Prop where
  rd : rdy s
  w : rW s = w
  h : rH s = h
  t : rT s = t
  p : rP s = p
  k : rKd s = K
  s : rSl s = S
theorem let_no (L : List Int) : (10 : UInt8) ∉ L.map letB := fun h => by
  obtain ⟨k, _, e⟩ := List.mem_map.1 h
  unfold letB at e
  match hk : k.toNat with
  | 0 => rw [hk] at e; revert e; decide
  | 1 => rw [hk] at e; revert e; decide
  | 2 => rw [hk] at e; revert e; decide
  | n + 3 => rw [hk] at e; revert e; simp
theorem round {w h t p : Int} {K : List Int} {S : List (List Int × List Int)} (hv : vchP w h t p K S) : Rds w h t p K S (txtT w h t p K S) := by
  have ht := vch_txt hv
  obtain ⟨⟨⟨a1, a2, a3, a4⟩, a5, a6⟩, b1, b2⟩ := hv
  have hg : okG w h t p := ⟨a1, a2, a3, a4⟩
  have hN := (cnt_le hg.gr).2
  have hc : gN w h t p = ((gr w h t p).cnt : Int) := rfl
  have hwh : w * h ≤ 8 * 8 := Int.mul_le_mul (by omega) (by omega) (by omega) (by omega)
  have hK : ∀ k ∈ K, 0 ≤ k ∧ k ≤ 2 := ht.2.1.2
  have hKl : K.length = w.toNat * h.toNat := ht.2.1.1
  have hS : ∀ s ∈ S, (∀ n ∈ s.1, 0 ≤ n ∧ n ≤ 1000000) ∧ (∀ n ∈ s.2, 0 ≤ n ∧ n ≤ 1000000) := fun s hs => by
    obtain ⟨r1, r2⟩ := b2 s hs
    exact ⟨fun n hn => by have := (ris_bd r1 (by omega)).2 n hn; omega, fun n hn => by have := (ris_bd r2 (by omega)).2 n hn; omega⟩
  have hhd : ∀ n ∈ [w, h, t, p], (0 : Int) ≤ n ∧ n ≤ 1000000 := fun n hn => by
    simp only [List.mem_cons, List.not_mem_nil, or_false] at hn
    rcases hn with rfl | rfl | rfl | rfl <;> omega
  have hno : ∀ l ∈ linesW w h t p K S, (10 : UInt8) ∉ l := fun l hl hx => by
    unfold linesW at hl
    rcases List.mem_cons.1 hl with rfl | hl
    · unfold headW at hx
      rcases List.mem_append.1 hx with hx | hx
      · revert hx; decide
      · exact numT_no (fun n hn => (hhd n hn).1) hx
    rcases List.mem_append.1 hl with hl | hl
    · obtain ⟨i, hi, e⟩ := List.getElem_of_mem hl
      rw [rowLs_len] at hi
      have := rowLs_get w.toNat K h.toNat i hi
      rw [List.getElem?_eq_getElem (by rw [rowLs_len]; exact hi), Option.some.injEq] at this
      rw [e] at this
      subst this
      exact let_no _ hx
    · obtain ⟨q, hq, rfl⟩ := List.mem_map.1 hl
      unfold slotW at hx
      rcases List.mem_append.1 hx with hx | hx
      · revert hx; decide
      rcases List.mem_append.1 hx with hx | hx
      · exact numT_no (fun n hn => ((hS q hq).1 n hn).1) hx
      rcases List.mem_append.1 hx with hx | hx
      · revert hx; decide
      · exact numT_no (fun n hn => ((hS q hq).2 n hn).1) hx
  have hcut : cutB (txtT w h t p K S) [10] = linesW w h t p K S ++ [[]] := by
    rw [txt_lines]; exact cut_lines hno
  have hll : (linesW w h t p K S).length = 1 + h.toNat + S.length := by
    unfold linesW; rw [List.length_cons, List.length_append, rowLs_len, List.length_map]; omega
  have hln : ∀ i, i < 1 + h.toNat + S.length → lnC (txtT w h t p K S) i = (linesW w h t p K S).getD i [] := fun i hi => by
    unfold lnC
    rw [hcut, Nat.zero_add, List.getD_eq_getElem?_getD, List.getElem?_append_left (by omega), List.getD_eq_getElem?_getD]
  have hhdL : hdL (txtT w h t p K S) = [numW sGrd, w, h, t, p] := by
    unfold hdL
    rw [hcut]
    show (cutB (headW w h t p) [32]).map numW = _
    unfold cutB headW
    show (cutL 32 (sGrd ++ numT [w, h, t, p])).map numW = _
    rw [cut_num (fun n hn => (hhd n hn).1) (by decide), List.map_cons, map_numW hhd]
  have eW : rW (txtT w h t p K S) = w := by unfold rW; rw [hhdL]; rfl
  have eH : rH (txtT w h t p K S) = h := by unfold rH; rw [hhdL]; rfl
  have eT : rT (txtT w h t p K S) = t := by unfold rT; rw [hhdL]; rfl
  have eP : rP (txtT w h t p K S) = p := by unfold rP; rw [hhdL]; rfl
  have hcl : (cutB (txtT w h t p K S) [10]).length = 2 + h.toNat + S.length := by rw [hcut, List.length_append, hll]; simp; omega
  refine ⟨⟨by omega, by rw [hhdL]; rfl, by rw [eW]; omega, by rw [eH]; omega, by rw [eH, hcl]; omega⟩, eW, eH, eT, eP, ?_, ?_⟩
  · unfold rKd kdL
    rw [eH]
    have : (List.range h.toNat).flatMap (fun i => lnK (lnC (txtT w h t p K S) (h.toNat - i))) = (List.range h.toNat).flatMap (fun i => (K.drop (i * w.toNat)).take w.toNat) := by
      rw [List.flatMap_def, List.flatMap_def]
      congr 1
      refine List.map_congr_left fun i hi => ?_
      have hi := List.mem_range.1 hi
      rw [hln _ (by omega)]
      have e : (linesW w h t p K S).getD (h.toNat - i) [] = rowB w.toNat K i := by
        unfold linesW
        rw [List.getD_eq_getElem?_getD, show h.toNat - i = (h.toNat - i - 1) + 1 by omega, List.getElem?_cons_succ, List.getElem?_append_left (by rw [rowLs_len]; omega), rowLs_get _ _ _ _ (by omega), show h.toNat - 1 - (h.toNat - i - 1) = i by omega]; rfl
      rw [e]
      exact lnK_ascii fun k hk => hK k (List.mem_of_mem_drop (List.mem_of_mem_take hk))
    rw [this, flat_rows, Nat.mul_comm, ← hKl, List.take_length]
  · unfold rSl slL
    rw [eH, hcl]
    rw [show 2 + h.toNat + S.length - 1 - (1 + h.toNat) = S.length by omega]
    refine List.ext_getElem (by simp) fun i hi1 hi2 => ?_
    rw [List.getElem_map, List.getElem_range, hln _ (by omega)]
    have e : (linesW w h t p K S).getD (1 + h.toNat + i) [] = slotW S[i] := by
      unfold linesW
      rw [List.getD_eq_getElem?_getD, show 1 + h.toNat + i = (h.toNat + i) + 1 by omega, List.getElem?_cons_succ, List.getElem?_append_right (by rw [rowLs_len]; omega), rowLs_len, show h.toNat + i - h.toNat = i by omega, List.getElem?_map, List.getElem?_eq_getElem hi2]; rfl
    rw [e]
    have := hS S[i] (List.getElem_mem hi2)
    exact slot_read this.1 this.2
theorem okP_txt {w h t p : Int} {K : List Int} {S : List (List Int × List Int)} (hv : vchP w h t p K S) : okP (txtT w h t p K S) := by
  obtain ⟨h1, h2, h3, h4, h5, h6, h7⟩ := round hv
  exact ⟨h1, by rw [h2, h3, h4, h5, h6, h7]; exact hv, by rw [h2, h3, h4, h5, h6, h7]⟩
end Go.Proofs.YtgahnelicbddcaaGreatDoor

namespace Go.Proofs.YtgahnelicbddcaaGreatDoor
open Go.Sx
set_option maxRecDepth 100000
noncomputable def sB (L : List (List UInt8)) : Blk := .row L.length 1 fun i _ => .x (.string (strB (L.getD i [])))
noncomputable def tNr5 (s : List UInt8) : Tree SV := T0 .nil 53 [strV s]
noncomputable def LNr5 (s : List UInt8) : Tree SV :=
  .code (codeC (sub [] (tNr5 s))) (codeS (sub [] (tNr5 s))) (codeK (sub [] (tNr5 s)))

theorem LNr5_eq (s : List UInt8) : tNr5 s = LNr5 s := by kernel_rfl

noncomputable def invNr5 (s : List UInt8) (n i : Int) : AS := ⟨[.ok (strV s), .unk, .ok (iv 0), .ok (iv n), .ok (iv i)] ++ List.replicate 30 .unk, [], 0, .nil⟩
noncomputable def bodyNr5 : Code := loopN (bodyOf Tryz.prog 53) 0
noncomputable def BNr5_q1 (s : List UInt8) (i : Int) : Bool :=
  decide ((↑(UInt8.toNat (Array.getD (ByteArray.data (strB s)) (Int.toNat i) (0 : UInt8))) : Int) < (48 : Int))
noncomputable def BNr5 (s : List UInt8) (n i : Int) : Tree (Ex × AS) :=
 .ite (decide (i < (↑(ByteArray.size (strB s)) : Int)) && decide ((↑(ByteArray.size (strB s)) : Int) ≤ (5 : Int))) (.need ((0 : Int) ≤ i ∧ i < (↑(ByteArray.size (strB s)) : Int)) (.need (BNr5_q1 s i = false → (0 : Int) ≤ i ∧ i < (↑(ByteArray.size (strB s)) : Int)) (.ite (BNr5_q1 s i || decide ((↑(UInt8.toNat (Array.getD (ByteArray.data (strB s)) (Int.toNat i) (0 : UInt8))) : Int) > (57 : Int))) (.ret (.ret, { tm := [.ok (SV.d (DV.x (.string (strB s)))), .unk, .ok (iv (0 : Int)), .ok (iv n), .ok (iv i), .unk, .unk, .unk, .unk, .unk, .unk, .unk, .unk, .unk, .unk, .unk, .unk, .unk, .unk, .unk, .unk, .unk, .unk, .unk, .unk, .unk, .unk, .unk, .unk, .unk, .unk, .unk, .unk, .unk, .unk], hp := [], next := 0, hint := .nil })) (.need ((0 : Int) ≤ i ∧ i < (↑(ByteArray.size (strB s)) : Int)) (.ret (.normal, { tm := [.ok (SV.d (DV.x (.string (strB s)))), .unk, .ok (iv (0 : Int)), .ok (iv (w64 (w64 ((10 : Int) * n) + w64 (IntKind.wrap .u8 ((↑(UInt8.toNat (Array.getD (ByteArray.data (strB s)) (Int.toNat i) (0 : UInt8))) : Int) - (48 : Int)))))), .ok (iv (w64 (i + (1 : Int)))), .unk, .unk, .unk, .unk, .unk, .unk, .unk, .unk, .unk, .unk, .unk, .unk, .unk, .unk, .unk, .unk, .unk, .unk, .unk, .unk, .unk, .unk, .unk, .unk, .unk, .unk, .unk, .unk, .unk, .unk], hp := [], next := 0, hint := .nil })))))) (.ret (.exit 0, { tm := [.ok (SV.d (DV.x (.string (strB s)))), .unk, .ok (iv (0 : Int)), .ok (iv n), .ok (iv i), .unk, .unk, .unk, .unk, .unk, .unk, .unk, .unk, .unk, .unk, .unk, .unk, .unk, .unk, .unk, .unk, .unk, .unk, .unk, .unk, .unk, .unk, .unk, .unk, .unk, .unk, .unk, .unk, .unk, .unk], hp := [], next := 0, hint := .nil }))

theorem BNr5_eq (s : List UInt8) (n i : Int) : cutT 0 [] [0, 2, 3, 4] [] 0 .nil (exec Tryz.prog C0 D0 200 bodyNr5 (invNr5 s n i)) = BNr5 s n i := by kernel_rfl

noncomputable def KNr5 (s : List UInt8) (n i : Int) : Tree SV :=
  .ret (iv n)

theorem KNr5_eq (s : List UInt8) (n i : Int) : codeK (sub [] (tNr5 s)) (.exit 0) (invNr5 s n i) = KNr5 s n i := by kernel_rfl

noncomputable def tLn5 (s : List UInt8) : Tree SV := T0 .nil 51 [strV s]
noncomputable def LLn5 (s : List UInt8) : Tree SV :=
  .code (codeC (sub [] (tLn5 s))) (codeS (sub [] (tLn5 s))) (codeK (sub [] (tLn5 s)))

theorem LLn5_eq (s : List UInt8) : tLn5 s = LLn5 s := by kernel_rfl

noncomputable def invLn5 (s : List UInt8) (L : List (List UInt8)) (g i : Int) : AS := ⟨[.ok (strV s), .unk, .unk, .ok (.row 1 0 0 L.length 1), .ok (iv g), .ok (iv i)] ++ List.replicate 21 .unk, [none, some (sB L)], 2, .nil⟩
noncomputable def bodyLn5 : Code := loopN (bodyOf Tryz.prog 51) 0
noncomputable def BLn5_q1 (s : List UInt8) (L : List (List UInt8)) (g : Int) (i : Int) (a : Nat) (b : Nat) : DV :=
  selD (decide (a < List.length L)) (DV.x (.string (strB (List.getD L (0 + a) []))))
  (dsAt [DV.x (.string (ByteArray.extract (strB s) (Int.toNat g) (Int.toNat i)))] (0 + (0 + (a - List.length L)) * 1 + b))
noncomputable def BLn5_q2 (L : List (List UInt8)) (i : Nat) (x : Nat) : DV :=
  DV.x (.string (strB (List.getD L i [])))
noncomputable def BLn5 (s : List UInt8) (L : List (List UInt8)) (g i : Int) : Tree (Ex × AS) :=
 .ite (decide (i < (↑(ByteArray.size (strB s)) : Int))) (.need ((0 : Int) ≤ i ∧ i < (↑(ByteArray.size (strB s)) : Int)) (.ite ((↑(UInt8.toNat (Array.getD (ByteArray.data (strB s)) (Int.toNat i) (0 : UInt8))) : Int) == (10 : Int)) (.need (((0 : Int) ≤ i ∧ Int.toNat i ≤ ByteArray.size (strB s)) ∧ (0 : Int) ≤ g ∧ Int.toNat g ≤ Int.toNat i) (.need (0 + List.length L ≤ List.length L ∧ 1 ≤ 1 ∧ (List.length L + 1) * 16 ≤ 140737488355328) (.ret (.normal, { tm := [.ok (SV.d (DV.x (.string (strB s)))), .unk, .unk, .ok (SV.row 1 0 0 (List.length L + 1) 1), .ok (iv (w64 (i + (1 : Int)))), .ok (iv (w64 (i + (1 : Int)))), .unk, .unk, .unk, .unk, .unk, .unk, .unk, .unk, .unk, .unk, .unk, .unk, .unk, .unk, .unk, .unk, .unk, .unk, .unk, .unk, .unk], hp := [none, some (.row (List.length L + 1) 1 (BLn5_q1 s L g i))], next := 2, hint := .nil })))) (.ret (.normal, { tm := [.ok (SV.d (DV.x (.string (strB s)))), .unk, .unk, .ok (SV.row 1 0 0 (List.length L) 1), .ok (iv g), .ok (iv (w64 (i + (1 : Int)))), .unk, .unk, .unk, .unk, .unk, .unk, .unk, .unk, .unk, .unk, .unk, .unk, .unk, .unk, .unk, .unk, .unk, .unk, .unk, .unk, .unk], hp := [none, some (.row (List.length L) 1 (BLn5_q2 L))], next := 2, hint := .nil })))) (.ret (.exit 0, { tm := [.ok (SV.d (DV.x (.string (strB s)))), .unk, .unk, .ok (SV.row 1 0 0 (List.length L) 1), .ok (iv g), .ok (iv i), .unk, .unk, .unk, .unk, .unk, .unk, .unk, .unk, .unk, .unk, .unk, .unk, .unk, .unk, .unk, .unk, .unk, .unk, .unk, .unk, .unk], hp := [none, some (.row (List.length L) 1 (BLn5_q2 L))], next := 2, hint := .nil }))

theorem BLn5_eq (s : List UInt8) (L : List (List UInt8)) (g i : Int) : cutT 1 [(.slot 3, 1)] [0, 3, 4, 5] [] 2 .nil (exec Tryz.prog C0 D0 200 bodyLn5 (invLn5 s L g i)) = BLn5 s L g i := by kernel_rfl

noncomputable def KLn5_q1 (L : List (List UInt8)) (i : Nat) (j : Nat) : DV :=
  DV.x (.string (strB (List.getD L (0 + i) [])))
noncomputable def KLn5 (s : List UInt8) (L : List (List UInt8)) (g i : Int) : Tree SV :=
  .need (0 + List.length L ≤ List.length L) (.ret (SV.d (DV.ro (List.length L) 1 (KLn5_q1 L))))

theorem KLn5_eq (s : List UInt8) (L : List (List UInt8)) (g i : Int) : codeK (sub [] (tLn5 s)) (.exit 0) (invLn5 s L g i) = KLn5 s L g i := by kernel_rfl

noncomputable def tWd5 (s : List UInt8) : Tree SV := T0 .nil 52 [strV s]
noncomputable def LWd5 (s : List UInt8) : Tree SV :=
  .code (codeC (sub [] (tWd5 s))) (codeS (sub [] (tWd5 s))) (codeK (sub [] (tWd5 s)))

theorem LWd5_eq (s : List UInt8) : tWd5 s = LWd5 s := by kernel_rfl

noncomputable def invWd5 (s : List UInt8) (L : List (List UInt8)) (g i : Int) : AS := ⟨[.ok (strV s), .unk, .unk, .ok (.row 1 0 0 L.length 1), .ok (iv g), .ok (iv i)] ++ List.replicate 27 .unk, [none, some (sB L)], 2, .nil⟩
noncomputable def bodyWd5 : Code := loopN (bodyOf Tryz.prog 52) 0
noncomputable def BWd5_q1 (s : List UInt8) (L : List (List UInt8)) (g : Int) (i : Int) (a : Nat) (b : Nat) : DV :=
  selD (decide (a < List.length L)) (DV.x (.string (strB (List.getD L (0 + a) []))))
  (dsAt [DV.x (.string (ByteArray.extract (strB s) (Int.toNat g) (Int.toNat i)))] (0 + (0 + (a - List.length L)) * 1 + b))
noncomputable def BWd5_q2 (L : List (List UInt8)) (i : Nat) (x : Nat) : DV :=
  DV.x (.string (strB (List.getD L i [])))
noncomputable def BWd5 (s : List UInt8) (L : List (List UInt8)) (g i : Int) : Tree (Ex × AS) :=
 .ite (decide (i ≤ (↑(ByteArray.size (strB s)) : Int))) (.need ((i == (↑(ByteArray.size (strB s)) : Int)) = false → (0 : Int) ≤ i ∧ i < (↑(ByteArray.size (strB s)) : Int)) (.ite (i == (↑(ByteArray.size (strB s)) : Int) || (↑(UInt8.toNat (Array.getD (ByteArray.data (strB s)) (Int.toNat i) (0 : UInt8))) : Int) == (32 : Int)) (.need (((0 : Int) ≤ i ∧ Int.toNat i ≤ ByteArray.size (strB s)) ∧ (0 : Int) ≤ g ∧ Int.toNat g ≤ Int.toNat i) (.need (0 + List.length L ≤ List.length L ∧ 1 ≤ 1 ∧ (List.length L + 1) * 16 ≤ 140737488355328) (.ret (.normal, { tm := [.ok (SV.d (DV.x (.string (strB s)))), .unk, .unk, .ok (SV.row 1 0 0 (List.length L + 1) 1), .ok (iv (w64 (i + (1 : Int)))), .ok (iv (w64 (i + (1 : Int)))), .unk, .unk, .unk, .unk, .unk, .unk, .unk, .unk, .unk, .unk, .unk, .unk, .unk, .unk, .unk, .unk, .unk, .unk, .unk, .unk, .unk, .unk, .unk, .unk, .unk, .unk, .unk], hp := [none, some (.row (List.length L + 1) 1 (BWd5_q1 s L g i))], next := 2, hint := .nil })))) (.ret (.normal, { tm := [.ok (SV.d (DV.x (.string (strB s)))), .unk, .unk, .ok (SV.row 1 0 0 (List.length L) 1), .ok (iv g), .ok (iv (w64 (i + (1 : Int)))), .unk, .unk, .unk, .unk, .unk, .unk, .unk, .unk, .unk, .unk, .unk, .unk, .unk, .unk, .unk, .unk, .unk, .unk, .unk, .unk, .unk, .unk, .unk, .unk, .unk, .unk, .unk], hp := [none, some (.row (List.length L) 1 (BWd5_q2 L))], next := 2, hint := .nil })))) (.ret (.exit 0, { tm := [.ok (SV.d (DV.x (.string (strB s)))), .unk, .unk, .ok (SV.row 1 0 0 (List.length L) 1), .ok (iv g), .ok (iv i), .unk, .unk, .unk, .unk, .unk, .unk, .unk, .unk, .unk, .unk, .unk, .unk, .unk, .unk, .unk, .unk, .unk, .unk, .unk, .unk, .unk, .unk, .unk, .unk, .unk, .unk, .unk], hp := [none, some (.row (List.length L) 1 (BWd5_q2 L))], next := 2, hint := .nil }))

theorem BWd5_eq (s : List UInt8) (L : List (List UInt8)) (g i : Int) : cutT 1 [(.slot 3, 1)] [0, 3, 4, 5] [] 2 .nil (exec Tryz.prog C0 D0 200 bodyWd5 (invWd5 s L g i)) = BWd5 s L g i := by kernel_rfl

noncomputable def KWd5_q1 (L : List (List UInt8)) (i : Nat) (j : Nat) : DV :=
  DV.x (.string (strB (List.getD L (0 + i) [])))
noncomputable def KWd5 (s : List UInt8) (L : List (List UInt8)) (g i : Int) : Tree SV :=
  .need (0 + List.length L ≤ List.length L) (.ret (SV.d (DV.ro (List.length L) 1 (KWd5_q1 L))))

theorem KWd5_eq (s : List UInt8) (L : List (List UInt8)) (g i : Int) : codeK (sub [] (tWd5 s)) (.exit 0) (invWd5 s L g i) = KWd5 s L g i := by kernel_rfl


end Go.Proofs.YtgahnelicbddcaaGreatDoor

namespace Go.Sx
def nrF : List UInt8 → Int → Int
  | [], n => n
  | b :: l, n => if 48 ≤ b.toNat ∧ b.toNat ≤ 57 then nrF l (10 * n + ((b.toNat : Int) - 48)) else 0
def numR (s : List UInt8) : Int := if s.length ≤ 5 then nrF s 0 else 0
def linesR (s : List UInt8) : List (List UInt8) := (cutL 10 s).dropLast
def wordsR (s : List UInt8) : List (List UInt8) := cutL 32 s
theorem drop_one {s : List UInt8} {i : Nat} (h : i < s.length) : s.drop i = s.getD i 0 :: s.drop (i + 1) := by
  rw [List.drop_eq_getElem_cons h, List.getD_eq_getElem?_getD, List.getElem?_eq_getElem h]; rfl
theorem take_snoc {s : List UInt8} {g i : Nat} (h1 : g ≤ i) (h : i < s.length) : (s.take (i + 1)).drop g = (s.take i).drop g ++ [s.getD i 0] := by
  rw [List.take_add_one, List.getElem?_eq_getElem h, Option.toList_some, List.drop_append_of_le_length (by rw [List.length_take]; omega)]
  rw [List.getD_eq_getElem?_getD, List.getElem?_eq_getElem h]; rfl
theorem drop_split {s : List UInt8} {g i : Nat} (h1 : g ≤ i) (h : i ≤ s.length) : s.drop g = (s.take i).drop g ++ s.drop i := by
  rw [← List.drop_append_of_le_length (by rw [List.length_take]; omega), List.take_append_drop]
theorem strs_app (L : List (List UInt8)) (v : ByteArray) (w : List UInt8) (hv : v = strB w) (i : Nat) (hi : i < L.length + 1) : selD (decide (i < L.length)) (.x (.string (strB (L.getD (0 + i) [])))) (dsAt [.x (.string v)] (0 + (0 + (i - L.length)) * 1 + 0)) = .x (.string (strB ((L ++ [w]).getD i []))) := by
  have e : i - L.length = 0 := by omega
  rw [e, Nat.zero_add i]
  by_cases h : i < L.length
  · rw [decide_eq_true h, List.getD_eq_getElem?_getD (l := L ++ [w]), List.getElem?_append_left h, List.getD_eq_getElem?_getD]
    rfl
  · have : i = L.length := by omega
    subst this
    rw [decide_eq_false h, List.getD_eq_getElem?_getD (l := L ++ [w]), List.getElem?_append_right (Nat.le_refl _), Nat.sub_self, hv]
    rfl
end Go.Sx
namespace Go.Proofs.YtgahnelicbddcaaGreatDoor
open Go.Sx
set_option maxRecDepth 100000
theorem sB_app {L : List (List UInt8)} {w : List UInt8} {f : Nat → Nat → DV} (h : ∀ i, i < L.length + 1 → f i 0 = .x (.string (strB ((L ++ [w]).getD i [])))) : BlkLe (.row (L.length + 1) 1 f) (sB (L ++ [w])) := by
  have e : sB (L ++ [w]) = .row (L.length + 1) 1 fun i _ => .x (.string (strB ((L ++ [w]).getD i []))) := by unfold sB; rw [List.length_append]; rfl
  rw [e]
  refine .row fun i j hi hj => ?_
  obtain rfl : j = 0 := by omega
  exact h i hi
theorem nr_sat {s : List UInt8} (hs : s.length ≤ 1000000) : Sat Tryz.prog (tNr5 s) (· = iv (numR s)) := by
  constructor
  rw [LNr5_eq]; unfold LNr5
  refine code_satS C0_ok D0_ok (n := 200) (n0 := 0) (nx := 0) (roots := []) (keep := [0, 2, 3, 4]) (drop := []) (h := .nil) (c := codeC (sub [] (tNr5 s))) (st := codeS (sub [] (tNr5 s))) (k := codeK (sub [] (tNr5 s))) (body := bodyNr5) (by kernel_rfl) (by kernel_rfl)
    (fun q t => ∃ (i : Nat) (n : Int), q = s.length - i ∧ i ≤ s.length ∧ (s.length ≤ 5 ∨ i = 0) ∧ (0 ≤ n ∧ n < 10 ^ i) ∧ (i = 0 → n = 0) ∧ nrF s 0 = nrF (s.drop i) n ∧ t = invNr5 s n i)
    (fun e t => (e = .exit 0 ∧ ∃ i, t = invNr5 s (numR s) i) ∨ (e = .ret ∧ numR s = 0 ∧ ∃ n i, t = invNr5 s n i))
    ⟨_, _, ⟨0, 0, rfl, by omega, .inr rfl, by decide, fun _ => rfl, rfl, rfl⟩, ?_⟩ ?_ ?_
  · exact entA_sound (roots := []) (keep := [0, 2, 3, 4]) (drop := []) (nx := 0) (h := .nil) (by kernel_rfl)
  · rintro q t ⟨i, n, rfl, hi, h5, hn, hz, hf, rfl⟩
    refine Sat.of_eq (BNr5_eq s n i) ?_
    constructor; unfold BNr5 BNr5_q1
    simp only [strB_size, strB_at, Int.toNat_natCast]
    refine ⟨fun h1 => ?_, fun h1 => ?_⟩
    · simp only [Bool.and_eq_true, decide_eq_true_eq] at h1
      have hd := drop_one (s := s) (i := i) (by omega)
      rw [hd] at hf
      generalize s.getD i 0 = b at hf
      have hb : b.toNat < 256 := b.toNat_lt
      refine ⟨by omega, fun _ => by omega, fun h2 => ?_, fun h2 => ?_⟩
      · simp only [Bool.or_eq_true, decide_eq_true_eq] at h2
        refine ⟨_, .inr ⟨rfl, ?_, n, (i : Int), rfl⟩, Gc.refl _ _⟩
        unfold numR
        rw [if_pos (by omega), hf]
        unfold nrF
        rw [if_neg (by omega)]
      · simp only [Bool.or_eq_false_iff, decide_eq_false_iff_not] at h2
        have e1 : IntKind.wrap .u8 ((b.toNat : Int) - 48) = (b.toNat : Int) - 48 := by
          have : IntKind.wrap .u8 ((b.toNat : Int) - 48) = ((b.toNat : Int) - 48) % 256 := by unfold IntKind.wrap; rfl
          rw [this]; omega
        have hp : (10 : Int) ^ i ≤ 10 ^ 5 := by
          have : (10 : Nat) ^ i ≤ 10 ^ 5 := Nat.pow_le_pow_right (by decide) (by omega)
          exact_mod_cast this
        have e2 : w64 (w64 (10 * n) + w64 (IntKind.wrap .u8 ((b.toNat : Int) - 48))) = 10 * n + ((b.toNat : Int) - 48) := by
          rw [e1, w64_of (n := 10 * n) (by omega) (by omega), w64_of (n := (b.toNat : Int) - 48) (by omega) (by omega), w64_of (by omega) (by omega)]
        rw [e2, w64_of (n := (i : Int) + 1) (by omega) (by omega)]
        refine ⟨by omega, s.length - (i + 1), _, by omega, ⟨i + 1, _, rfl, by omega, .inl (by omega), ⟨by omega, ?_⟩, fun h => by omega, ?_, rfl⟩, Gc.refl _ _⟩
        · rw [Int.pow_succ]; omega
        · rw [hf]
          show nrF (b :: _) n = _
          conv => lhs; unfold nrF
          rw [if_pos (by omega)]
    · simp only [Bool.and_eq_false_iff, decide_eq_false_iff_not] at h1
      refine ⟨_, .inl ⟨rfl, (i : Int), ?_⟩, Gc.refl _ _⟩
      have : numR s = n := by
        unfold numR
        by_cases h6 : s.length ≤ 5
        · rw [if_pos h6, hf, List.drop_eq_nil_of_le (by omega)]; rfl
        · rw [if_neg h6, hz (by omega)]
      rw [this]; rfl
  · rintro e t (⟨rfl, i, rfl⟩ | ⟨rfl, h0, n, i, rfl⟩)
    · exact Sat.of_eq (KNr5_eq s _ i) ⟨rfl⟩
    · have hk : codeK (sub [] (tNr5 s)) .ret (invNr5 s n i) = .ret (iv 0) := by kernel_rfl
      rw [h0]
      exact Sat.of_eq hk ⟨rfl⟩
theorem ln_sat {s : List UInt8} (hs : s.length ≤ 1000000) : Sat Tryz.prog (tLn5 s) (· = .d (.ro (linesR s).length 1 fun i _ => .x (.string (strB ((linesR s).getD i []))))) := by
  constructor
  rw [LLn5_eq]; unfold LLn5
  refine code_satS C0_ok D0_ok (n := 200) (n0 := 1) (nx := 2) (roots := [(.slot 3, 1)]) (keep := [0, 3, 4, 5]) (drop := []) (h := .nil) (c := codeC (sub [] (tLn5 s))) (st := codeS (sub [] (tLn5 s))) (k := codeK (sub [] (tLn5 s))) (body := bodyLn5) (by kernel_rfl) (by kernel_rfl)
    (fun q t => ∃ (g i : Nat) (L : List (List UInt8)), q = s.length - i ∧ g ≤ i ∧ i ≤ s.length ∧ L.length ≤ g ∧ (10 : UInt8) ∉ (s.take i).drop g ∧ cutL 10 s = L ++ cutL 10 (s.drop g) ∧ t = invLn5 s L g i)
    (fun e t => e = .exit 0 ∧ ∃ g i, t = invLn5 s (linesR s) g i)
    ⟨_, _, ⟨0, 0, [], rfl, by omega, by omega, by simp, by simp, by simp, rfl⟩, ?_⟩ ?_ ?_
  · refine (entA_sound (s' := ⟨[.ok (strV s), .unk, .unk, .ok (.row 1 0 0 0 1), .ok (iv 0), .ok (iv 0)] ++ List.replicate 21 .unk, [none, some (.cells [])], 2, .nil⟩) (roots := [(.slot 3, 1)]) (keep := [0, 3, 4, 5]) (drop := []) (nx := 2) (h := .nil) (by kernel_rfl)).trans ?_
    refine gc_hp rfl rfl ⟨.inl rfl, .inr ⟨_, _, rfl, rfl, .cells rfl fun i j hi hj => ?_⟩, trivial⟩
    exact absurd hi (Nat.not_lt_zero _)
  · rintro q t ⟨g, i, L, rfl, hgi, hi, hL, hno, hc, rfl⟩
    refine Sat.of_eq (BLn5_eq s L g i) ?_
    constructor; unfold BLn5
    simp only [strB_size, strB_at, Int.toNat_natCast]
    refine ⟨fun h1 => ?_, fun h1 => ?_⟩
    · simp only [decide_eq_true_eq] at h1
      have hlt : i < s.length := by omega
      have ht := take_snoc hgi hlt
      have hd := drop_one hlt
      have hsp := drop_split (s := s) hgi (by omega)
      have wi : w64 ((i : Int) + 1) = ((i + 1 : Nat) : Int) := by rw [w64_of (by omega) (by omega)]; omega
      rw [wi]
      refine ⟨by omega, fun h2 => ?_, fun h2 => ?_⟩
      · have hb : s.getD i 0 = 10 := by
          rw [beq_iff_eq] at h2
          exact UInt8.toNat_inj.1 (by show _ = 10; omega)
        rw [hd, hb] at hsp
        refine ⟨by omega, by omega, s.length - (i + 1), _, by omega, ⟨i + 1, i + 1, L ++ [(s.take i).drop g], rfl, by omega, by omega, by rw [List.length_append, List.length_singleton]; omega, by simp, ?_, rfl⟩, ?_⟩
        · rw [hc, hsp, cutL_app hno, List.append_assoc]; rfl
        · refine gc_hp (by rw [List.length_append]; rfl) rfl ⟨.inl rfl, .inr ⟨_, _, rfl, rfl, sB_app fun a ha => ?_⟩, trivial⟩
          exact strs_app L _ _ (by rw [Int.toNat_natCast, Int.toNat_natCast, strB_extract]) a ha
      · rw [beq_eq_false_iff_ne] at h2
        refine ⟨s.length - (i + 1), _, by omega, ⟨g, i + 1, L, rfl, by omega, by omega, hL, ?_, hc, rfl⟩, Gc.refl _ _⟩
        rw [ht, List.mem_append, List.mem_singleton]
        rintro (h | h)
        · exact hno h
        · exact h2 (by rw [← h]; rfl)
    · simp only [decide_eq_false_iff_not] at h1
      obtain rfl : i = s.length := by omega
      refine ⟨_, ⟨rfl, (g : Int), (s.length : Int), ?_⟩, Gc.refl _ _⟩
      rw [List.take_length] at hno
      have : linesR s = L := by unfold linesR; rw [hc, cutL_end hno, List.dropLast_concat]
      rw [this]; rfl
  · rintro e t ⟨rfl, g, i, rfl⟩
    refine Sat.of_eq (KLn5_eq s _ g i) ⟨?_⟩
    unfold KLn5
    refine ⟨by omega, ?_⟩
    have : KLn5_q1 (linesR s) = fun i _ => .x (.string (strB ((linesR s).getD i []))) := by funext i j; unfold KLn5_q1; rw [Nat.zero_add]
    rw [this]; rfl
theorem wd_sat {s : List UInt8} (hs : s.length ≤ 1000000) : Sat Tryz.prog (tWd5 s) (· = .d (.ro (wordsR s).length 1 fun i _ => .x (.string (strB ((wordsR s).getD i []))))) := by
  constructor
  rw [LWd5_eq]; unfold LWd5
  refine code_satS C0_ok D0_ok (n := 200) (n0 := 1) (nx := 2) (roots := [(.slot 3, 1)]) (keep := [0, 3, 4, 5]) (drop := []) (h := .nil) (c := codeC (sub [] (tWd5 s))) (st := codeS (sub [] (tWd5 s))) (k := codeK (sub [] (tWd5 s))) (body := bodyWd5) (by kernel_rfl) (by kernel_rfl)
    (fun q t => ∃ (g i : Nat) (L : List (List UInt8)), q = s.length + 1 - i ∧ ((g ≤ i ∧ i ≤ s.length ∧ L.length ≤ g ∧ (32 : UInt8) ∉ (s.take i).drop g ∧ cutL 32 s = L ++ cutL 32 (s.drop g)) ∨ (i = s.length + 1 ∧ L = cutL 32 s)) ∧ t = invWd5 s L g i)
    (fun e t => e = .exit 0 ∧ ∃ g i, t = invWd5 s (wordsR s) g i)
    ⟨_, _, ⟨0, 0, [], rfl, .inl ⟨by omega, by omega, by simp, by simp, by simp⟩, rfl⟩, ?_⟩ ?_ ?_
  · refine (entA_sound (s' := ⟨[.ok (strV s), .unk, .unk, .ok (.row 1 0 0 0 1), .ok (iv 0), .ok (iv 0)] ++ List.replicate 27 .unk, [none, some (.cells [])], 2, .nil⟩) (roots := [(.slot 3, 1)]) (keep := [0, 3, 4, 5]) (drop := []) (nx := 2) (h := .nil) (by kernel_rfl)).trans ?_
    refine gc_hp rfl rfl ⟨.inl rfl, .inr ⟨_, _, rfl, rfl, .cells rfl fun i j hi hj => ?_⟩, trivial⟩
    exact absurd hi (Nat.not_lt_zero _)
  · rintro q t ⟨g, i, L, rfl, hI, rfl⟩
    refine Sat.of_eq (BWd5_eq s L g i) ?_
    constructor; unfold BWd5
    simp only [strB_size, strB_at, Int.toNat_natCast]
    refine ⟨fun h1 => ?_, fun h1 => ?_⟩
    · simp only [decide_eq_true_eq] at h1
      obtain ⟨hgi, hi, hL, hno, hc⟩ | ⟨h, _⟩ := hI
      rotate_left
      · omega
      have hsp := drop_split (s := s) hgi (by omega)
      have wi : w64 ((i : Int) + 1) = ((i + 1 : Nat) : Int) := by rw [w64_of (by omega) (by omega)]; omega
      rw [wi]
      refine ⟨fun h => ?_, fun h2 => ?_, fun h2 => ?_⟩
      · rw [beq_eq_false_iff_ne] at h; omega
      · have hgc : Gc 1 ⟨[.ok (strV s), .unk, .unk, .ok (.row 1 0 0 (L.length + 1) 1), .ok (iv ((i + 1 : Nat) : Int)), .ok (iv ((i + 1 : Nat) : Int))] ++ List.replicate 27 .unk, [none, some (.row (L.length + 1) 1 (BWd5_q1 s L g i))], 2, .nil⟩ (invWd5 s (L ++ [(s.take i).drop g]) ((i + 1 : Nat) : Int) ((i + 1 : Nat) : Int)) := by
          refine gc_hp (by rw [List.length_append]; rfl) rfl ⟨.inl rfl, .inr ⟨_, _, rfl, rfl, sB_app fun a ha => ?_⟩, trivial⟩
          exact strs_app L _ _ (by rw [Int.toNat_natCast, Int.toNat_natCast, strB_extract]) a ha
        by_cases he : i = s.length
        · refine ⟨by omega, by omega, s.length + 1 - (i + 1), _, by omega, ⟨i + 1, i + 1, L ++ [(s.take i).drop g], rfl, .inr ⟨by omega, ?_⟩, rfl⟩, hgc⟩
          subst he
          rw [List.take_length] at hno ⊢
          rw [hc, cutL_end hno]
        · have hd := drop_one (s := s) (i := i) (by omega)
          have hb : s.getD i 0 = 32 := by
            rw [Bool.or_eq_true, beq_iff_eq, beq_iff_eq] at h2
            exact UInt8.toNat_inj.1 (by show _ = 32; omega)
          rw [hd, hb] at hsp
          refine ⟨by omega, by omega, s.length + 1 - (i + 1), _, by omega, ⟨i + 1, i + 1, L ++ [(s.take i).drop g], rfl, .inl ⟨by omega, by omega, by rw [List.length_append, List.length_singleton]; omega, by simp, ?_⟩, rfl⟩, hgc⟩
          rw [hc, hsp, cutL_app hno, List.append_assoc]; rfl
      · rw [Bool.or_eq_false_iff, beq_eq_false_iff_ne, beq_eq_false_iff_ne] at h2
        have ht := take_snoc (s := s) hgi (by omega)
        refine ⟨s.length + 1 - (i + 1), _, by omega, ⟨g, i + 1, L, rfl, .inl ⟨by omega, by omega, hL, ?_, hc⟩, rfl⟩, Gc.refl _ _⟩
        rw [ht, List.mem_append, List.mem_singleton]
        rintro (h | h)
        · exact hno h
        · exact h2.2 (by rw [← h]; rfl)
    · simp only [decide_eq_false_iff_not] at h1
      obtain ⟨hgi, hi, _⟩ | ⟨h, hL⟩ := hI
      · omega
      · refine ⟨_, ⟨rfl, (g : Int), (i : Int), ?_⟩, Gc.refl _ _⟩
        rw [hL]; rfl
  · rintro e t ⟨rfl, g, i, rfl⟩
    refine Sat.of_eq (KWd5_eq s _ g i) ⟨?_⟩
    unfold KWd5
    refine ⟨by omega, ?_⟩
    have : KWd5_q1 (wordsR s) = fun i _ => .x (.string (strB ((wordsR s).getD i []))) := by funext i j; unfold KWd5_q1; rw [Nat.zero_add]
    rw [this]; rfl
noncomputable def cNr5 : Ctr := fun ss => match ss with
  | [.d (.x (.string s))] => .need (s.size ≤ 1000000) (.ret (iv (numR s.data.toList)))
  | _ => .fail
theorem cNr5_ok : CtrOK Tryz.prog 53 cNr5 := by
  refine ctrOK_S C0_ok D0_ok (by kernel_rfl) (by kernel_rfl) fun ss r hr => ?_
  unfold cNr5 at hr
  split at hr
  · rename_i s
    obtain ⟨h1, rfl⟩ := hr
    exact ⟨200, .nil, nr_sat (s := s.data.toList) h1⟩
  · exact hr.elim
noncomputable def cLn5 : Ctr := fun ss => match ss with
  | [.d (.x (.string s))] => .need (s.size ≤ 1000000) (.ret (.d (.ro (linesR s.data.toList).length 1 fun i _ => .x (.string (strB ((linesR s.data.toList).getD i []))))))
  | _ => .fail
theorem cLn5_ok : CtrOK Tryz.prog 51 cLn5 := by
  refine ctrOK_S C0_ok D0_ok (by kernel_rfl) (by kernel_rfl) fun ss r hr => ?_
  unfold cLn5 at hr
  split at hr
  · rename_i s
    obtain ⟨h1, rfl⟩ := hr
    exact ⟨200, .nil, ln_sat (s := s.data.toList) h1⟩
  · exact hr.elim
noncomputable def cWd5 : Ctr := fun ss => match ss with
  | [.d (.x (.string s))] => .need (s.size ≤ 1000000) (.ret (.d (.ro (wordsR s.data.toList).length 1 fun i _ => .x (.string (strB ((wordsR s.data.toList).getD i []))))))
  | _ => .fail
theorem cWd5_ok : CtrOK Tryz.prog 52 cWd5 := by
  refine ctrOK_S C0_ok D0_ok (by kernel_rfl) (by kernel_rfl) fun ss r hr => ?_
  unfold cWd5 at hr
  split at hr
  · rename_i s
    obtain ⟨h1, rfl⟩ := hr
    exact ⟨200, .nil, wd_sat (s := s.data.toList) h1⟩
  · exact hr.elim
end Go.Proofs.YtgahnelicbddcaaGreatDoor

namespace Go.Proofs.YtgahnelicbddcaaGreatDoor
open Go.Sx
set_option maxRecDepth 100000
noncomputable def manW5 : FuncId → Option Ctr := fun k => match k with
  | 52 => some cWd5
  | 53 => some cNr5
  | _ => none
theorem manW5_ok (k : Nat) (c : Ctr) (h : manW5 k = some c) : CtrOK Tryz.prog k c ∧ goodF Tryz.prog k = true := by
  unfold manW5 at h
  split at h
  · cases h; exact ⟨cWd5_ok, by kernel_rfl⟩
  · cases h; exact ⟨cNr5_ok, by kernel_rfl⟩
  · cases h
noncomputable def CW5 : Ctx := ctxN Tryz.prog manW5 (fun _ => false) 200 .nil 8
theorem CW5_ok : CtxOK Tryz.prog CW5 := ctxN_ok mixed manW5_ok 8
noncomputable def DW5 : Dr := fun _ => drawn Tryz.prog CW5
theorem DW5_ok : DrOK Tryz.prog CW5 DW5 := drawn_ok CW5_ok mixed
noncomputable def TW5 (h : Hint) (k : Nat) (args : List SV) : Tree SV := fnT Tryz.prog CW5 DW5 200 (fnOf Tryz.prog k) (bodyOf Tryz.prog k) args h
noncomputable def tSl5 (s : List UInt8) : Tree SV := TW5 .nil 54 [strV s]
noncomputable def LSl5 (s : List UInt8) : Tree SV :=
  .need (ByteArray.size (strB s) ≤ 1000000) (.code (codeC (sub [(0 : Nat)] (tSl5 s))) (codeS (sub [(0 : Nat)] (tSl5 s))) (codeK (sub [(0 : Nat)] (tSl5 s))))

theorem LSl5_eq (s : List UInt8) : tSl5 s = LSl5 s := by kernel_rfl

noncomputable def invSl5 (n : Nat) (c : Nat → List UInt8) (ta nb : List Int) (nd : Bool) (i : Int) : AS := ⟨[.unk, .unk, .ok (.ptr 0 0), .ok (.ptr 1 0), .ok (strC n c), .ok (bv nd), .ok (iv i)] ++ List.replicate 36 .unk, [some (.cells [nilD, nilD]), some (.cells [.row 3 0 0 ta.length 1, .row 4 0 0 nb.length 1]), none, some (lB ta), some (lB nb)], 5, .nil⟩
noncomputable def bodySl5 : Code := loopN (bodyOf Tryz.prog 54) 0
noncomputable def BSl5_q1 (c : Nat → List UInt8) (i : Nat) (x : Nat) : DV :=
  DV.x (.string (strB (c i)))
noncomputable def BSl5_q2 (ta : List Int) (i : Nat) (x : Nat) : DV :=
  DV.x (.int .i64 (List.getD ta i (0 : Int)))
noncomputable def BSl5_q3 (nb : List Int) (i : Nat) (x : Nat) : DV :=
  DV.x (.int .i64 (List.getD nb i (0 : Int)))
noncomputable def BSl5_q4 (c : Nat → List UInt8) (nb : List Int) (i : Int) (a : Nat) (b : Nat) : DV :=
  selD (decide (a < List.length nb)) (DV.x (.int .i64 (List.getD nb (0 + a) (0 : Int))))
  (dsAt [DV.x (.int .i64 (numR (Array.toList (ByteArray.data (strB (c (Int.toNat i)))))))] (0 + (0 + (a - List.length nb)) * 1 + b))
noncomputable def BSl5_q5 (c : Nat → List UInt8) (ta : List Int) (i : Int) (a : Nat) (b : Nat) : DV :=
  selD (decide (a < List.length ta)) (DV.x (.int .i64 (List.getD ta (0 + a) (0 : Int))))
  (dsAt [DV.x (.int .i64 (numR (Array.toList (ByteArray.data (strB (c (Int.toNat i)))))))] (0 + (0 + (a - List.length ta)) * 1 + b))
noncomputable def BSl5 (n : Nat) (c : Nat → List UInt8) (ta nb : List Int) (nd : Bool) (i : Int) : Tree (Ex × AS) :=
 .ite (decide (i < (↑n : Int)))
 (.need ((0 : Int) ≤ i ∧ i < (↑n : Int))
 (.ite (strEq (strB (c (Int.toNat i))) (strB [(110 : UInt8), (111 : UInt8), (100 : UInt8), (101 : UInt8), (115 : UInt8)]))
 (.ret
 (.normal,
 {
 tm :=
 [.unk, .unk, .ok (SV.ptr 0 0), .ok (SV.ptr 1 0), .ok (SV.d (DV.ro n 1 (BSl5_q1 c))), .ok (bv true), .ok (iv (w64 (i + (1 : Int)))), .unk, .unk,
 .unk, .unk, .unk, .unk, .unk, .unk, .unk, .unk, .unk, .unk, .unk, .unk, .unk, .unk, .unk, .unk, .unk, .unk, .unk, .unk, .unk, .unk, .unk, .unk, .unk, .unk, .unk, .unk,
 .unk, .unk, .unk, .unk, .unk, .unk],
 hp :=
 [some (.cells [SV.d (DV.x (.slice none 0 0)), SV.d (DV.x (.slice none 0 0))]),
 some (.cells [SV.row 3 0 0 (List.length ta) 1, SV.row 4 0 0 (List.length nb) 1]), none,
 some (.row (List.length ta) 1 (BSl5_q2 ta)), some (.row (List.length nb) 1 (BSl5_q3 nb))],
 next := 5, hint := .nil }))
 (.ite nd
 (.need ((0 : Int) ≤ i ∧ i < (↑n : Int))
 (.need (ByteArray.size (strB (c (Int.toNat i))) ≤ 1000000)
 (.need (0 + List.length nb ≤ List.length nb ∧ 1 ≤ 1 ∧ (List.length nb + 1) * 8 ≤ 140737488355328)
 (.ret
 (.normal,
 {
 tm :=
 [.unk, .unk, .ok (SV.ptr 0 0), .ok (SV.ptr 1 0), .ok (SV.d (DV.ro n 1 (BSl5_q1 c))), .ok (bv nd), .ok (iv (w64 (i + (1 : Int)))), .unk,
 .unk, .unk, .unk, .unk, .unk, .unk, .unk, .unk, .unk, .unk, .unk, .unk, .unk, .unk, .unk, .unk, .unk, .unk, .unk, .unk, .unk, .unk, .unk, .unk, .unk, .unk, .unk,
 .unk, .unk, .unk, .unk, .unk, .unk, .unk, .unk],
 hp :=
 [some (.cells [SV.d (DV.x (.slice none 0 0)), SV.d (DV.x (.slice none 0 0))]),
 some (.cells [SV.row 3 0 0 (List.length ta) 1, SV.row 4 0 0 (List.length nb + 1) 1]), none,
 some (.row (List.length ta) 1 (BSl5_q2 ta)), some (.row (List.length nb + 1) 1 (BSl5_q4 c nb i))],
 next := 5, hint := .nil })))))
 (.need ((0 : Int) ≤ i ∧ i < (↑n : Int))
 (.need (ByteArray.size (strB (c (Int.toNat i))) ≤ 1000000)
 (.need (0 + List.length ta ≤ List.length ta ∧ 1 ≤ 1 ∧ (List.length ta + 1) * 8 ≤ 140737488355328)
 (.ret
 (.normal,
 {
 tm :=
 [.unk, .unk, .ok (SV.ptr 0 0), .ok (SV.ptr 1 0), .ok (SV.d (DV.ro n 1 (BSl5_q1 c))), .ok (bv nd), .ok (iv (w64 (i + (1 : Int)))), .unk,
 .unk, .unk, .unk, .unk, .unk, .unk, .unk, .unk, .unk, .unk, .unk, .unk, .unk, .unk, .unk, .unk, .unk, .unk, .unk, .unk, .unk, .unk, .unk, .unk, .unk, .unk, .unk,
 .unk, .unk, .unk, .unk, .unk, .unk, .unk, .unk],
 hp :=
 [some (.cells [SV.d (DV.x (.slice none 0 0)), SV.d (DV.x (.slice none 0 0))]),
 some (.cells [SV.row 3 0 0 (List.length ta + 1) 1, SV.row 4 0 0 (List.length nb) 1]), none,
 some (.row (List.length ta + 1) 1 (BSl5_q5 c ta i)), some (.row (List.length nb) 1 (BSl5_q3 nb))],
 next := 5, hint := .nil }))))))))
 (.ret
 (.exit 0,
 {
 tm :=
 [.unk, .unk, .ok (SV.ptr 0 0), .ok (SV.ptr 1 0), .ok (SV.d (DV.ro n 1 (BSl5_q1 c))), .ok (bv nd), .ok (iv i), .unk, .unk, .unk, .unk, .unk,
 .unk, .unk, .unk, .unk, .unk, .unk, .unk, .unk, .unk, .unk, .unk, .unk, .unk, .unk, .unk, .unk, .unk, .unk, .unk, .unk, .unk, .unk, .unk, .unk, .unk, .unk, .unk, .unk,
 .unk, .unk, .unk],
 hp :=
 [some (.cells [SV.d (DV.x (.slice none 0 0)), SV.d (DV.x (.slice none 0 0))]),
 some (.cells [SV.row 3 0 0 (List.length ta) 1, SV.row 4 0 0 (List.length nb) 1]), none,
 some (.row (List.length ta) 1 (BSl5_q2 ta)), some (.row (List.length nb) 1 (BSl5_q3 nb))],
 next := 5, hint := .nil }))

theorem BSl5_eq (n : Nat) (c : Nat → List UInt8) (ta nb : List Int) (nd : Bool) (i : Int) : cutT 3 [(.cell (.base 1) 0, 3), (.cell (.base 1) 1, 4)] [2, 3, 4, 5, 6] [2] 5 .nil (exec Tryz.prog CW5 DW5 200 bodySl5 (invSl5 n c ta nb nd i)) = BSl5 n c ta nb nd i := by kernel_rfl

noncomputable def KSl5_q1 (ta : List Int) (i : Nat) (j : Nat) : DV :=
  DV.x (.int .i64 (List.getD ta (0 + i) (0 : Int)))
noncomputable def KSl5_q2 (nb : List Int) (i : Nat) (j : Nat) : DV :=
  DV.x (.int .i64 (List.getD nb (0 + i) (0 : Int)))
noncomputable def KSl5 (s : List UInt8) (n : Nat) (c : Nat → List UInt8) (ta nb : List Int) (nd : Bool) (i : Int) : Tree SV :=
  .need (0 + List.length ta ≤ List.length ta)
  (.need (0 + List.length nb ≤ List.length nb) (.ret (SV.agg [SV.d (DV.ro (List.length ta) 1 (KSl5_q1 ta)), SV.d (DV.ro (List.length nb) 1 (KSl5_q2 nb))])))

theorem KSl5_eq (s : List UInt8) (n : Nat) (c : Nat → List UInt8) (ta nb : List Int) (nd : Bool) (i : Int) : codeK (sub [0] (tSl5 s)) (.exit 0) (invSl5 n c ta nb nd i) = KSl5 s n c ta nb nd i := by kernel_rfl


end Go.Proofs.YtgahnelicbddcaaGreatDoor

namespace Go.Sx
def wdNodes : List UInt8 := [110, 111, 100, 101, 115]
def slR : List (List UInt8) → Bool → List Int × List Int → List Int × List Int
  | [], _, r => r
  | w :: l, nd, r => if w = wdNodes then slR l true r else if nd = true then slR l nd (r.1, r.2 ++ [numR w]) else slR l nd (r.1 ++ [numR w], r.2)
def slotR (s : List UInt8) : List Int × List Int := slR ((wordsR s).drop 2) false ([], [])
theorem drop_oneL {α : Type} (d : α) {s : List α} {i : Nat} (h : i < s.length) : s.drop i = s.getD i d :: s.drop (i + 1) := by
  rw [List.drop_eq_getElem_cons h, List.getD_eq_getElem?_getD, List.getElem?_eq_getElem h]; rfl
theorem cut_el {c : UInt8} : ∀ {s w : List UInt8}, w ∈ cutL c s → w.length ≤ s.length
  | [], w, h => by
    have h : w ∈ [[]] := h
    rw [List.mem_singleton] at h; subst h; simp
  | b :: s, w, h => by
    have ih := fun w h => cut_el (c := c) (s := s) (w := w) h
    have h : w ∈ (if (b == c) = true then [] :: cutL c s else match cutL c s with | [] => [[b]] | x :: r => (b :: x) :: r) := h
    rw [List.length_cons]
    split at h
    · rcases List.mem_cons.1 h with rfl | h
      · simp
      · have := ih w h; omega
    · cases hx : cutL c s with
      | nil => rw [hx] at h; rw [List.mem_singleton] at h; subst h; simp
      | cons x r =>
        rw [hx] at h ih
        rcases List.mem_cons.1 h with rfl | h
        · have := ih x List.mem_cons_self; rw [List.length_cons]; omega
        · have := ih w (List.mem_cons_of_mem _ h); omega
theorem get_el {s : List (List UInt8)} {m : Nat} (h : ∀ w ∈ s, w.length ≤ m) (i : Nat) : (s.getD i []).length ≤ m := by
  rw [List.getD_eq_getElem?_getD]
  cases hx : s[i]? with
  | none => simp
  | some w => exact h w (List.mem_of_getElem? hx)
end Go.Sx
namespace Go.Proofs.YtgahnelicbddcaaGreatDoor
open Go.Sx
set_option maxRecDepth 100000
theorem sl5_sat {s : List UInt8} (hs : s.length ≤ 900000) : Sat Tryz.prog (tSl5 s) (· = .agg [ivL (slotR s).1, ivL (slotR s).2]) := by
  constructor
  rw [LSl5_eq]; unfold LSl5
  have hl : (wordsR s).length ≤ 900001 := by have := cutL_len 32 s; unfold wordsR; omega
  have hw : ∀ i, ((wordsR s).getD i []).length ≤ 900000 := fun i => by
    have := get_el (s := wordsR s) (m := s.length) (fun w hw => cut_el hw) i; omega
  refine ⟨by rw [strB_size]; omega, ?_⟩
  refine code_satS CW5_ok DW5_ok (n := 200) (n0 := 3) (nx := 5) (roots := [(.cell (.base 1) 0, 3), (.cell (.base 1) 1, 4)]) (keep := [2, 3, 4, 5, 6]) (drop := [2]) (h := .nil) (c := codeC (sub [0] (tSl5 s))) (st := codeS (sub [0] (tSl5 s))) (k := codeK (sub [0] (tSl5 s))) (body := bodySl5) (by kernel_rfl) (by kernel_rfl)
    (fun q t => ∃ (i : Nat) (ta nb : List Int) (nd : Bool), q = (wordsR s).length - i ∧ ta.length ≤ i ∧ nb.length ≤ i ∧ i ≤ 1000001 ∧ slR ((wordsR s).drop i) nd (ta, nb) = slotR s ∧ t = invSl5 (wordsR s).length (fun i => (wordsR s).getD i []) ta nb nd i)
    (fun e t => e = .exit 0 ∧ ∃ nd i, t = invSl5 (wordsR s).length (fun i => (wordsR s).getD i []) (slotR s).1 (slotR s).2 nd i)
    ⟨_, _, ⟨2, [], [], false, rfl, by simp, by simp, by omega, rfl, rfl⟩, ?_⟩ ?_ ?_
  · refine (entA_sound (s' := ⟨[.unk, .unk, .ok (.ptr 0 0), .ok (.ptr 1 0), .ok (strC (wordsR s).length fun i => (wordsR s).getD i []), .ok (bv false), .ok (iv 2)] ++ List.replicate 36 .unk, [some (.cells [nilD, nilD]), some (.cells [nilD, nilD]), none], 3, .nil⟩) (roots := []) (keep := [2, 3, 4, 5, 6]) (drop := [2]) (nx := 3) (h := .nil) (by kernel_rfl)).trans ?_
    refine gc_sound [] [3, 4] rfl ?_ ?_
    · simp [invSl5, leTm, leTV, leSV, leSVs, rn, iv, bv, leD, List.replicate, strC]
    · simp [invSl5, leHp, leBlk, leSVs, leSV, rn, iv, leD, srcOf, hget, lB, nilD]
  · rintro q t ⟨i, ta, nb, nd, rfl, ha, hb, hi, hf, rfl⟩
    refine Sat.of_eq (BSl5_eq _ _ ta nb nd i) ?_
    constructor; unfold BSl5
    have wi : w64 ((i : Int) + 1) = ((i + 1 : Nat) : Int) := by rw [w64_of (by omega) (by omega)]; omega
    rw [wi]
    simp only [Int.toNat_natCast]
    refine ⟨fun h1 => ?_, fun h1 => ?_⟩
    · simp only [decide_eq_true_eq] at h1
      have hd := drop_oneL [] (s := wordsR s) (i := i) (by omega)
      have hwi := hw i
      rw [hd] at hf
      generalize hv : (wordsR s).getD i [] = v at hf hwi
      rw [strB_size]
      have q4 : ∀ a, a < nb.length + 1 → BSl5_q4 (fun i => (wordsR s).getD i []) nb (i : Int) a 0 = .x (.int .i64 ((nb ++ [numR v]).getD a 0)) := fun a ha => by
        unfold BSl5_q4
        dsimp only; rw [Int.toNat_natCast, hv, strB_list]
        exact app_sel nb _ a ha
      have q5 : ∀ a, a < ta.length + 1 → BSl5_q5 (fun i => (wordsR s).getD i []) ta (i : Int) a 0 = .x (.int .i64 ((ta ++ [numR v]).getD a 0)) := fun a ha => by
        unfold BSl5_q5
        dsimp only; rw [Int.toNat_natCast, hv, strB_list]
        exact app_sel ta _ a ha
      refine ⟨by omega, fun h2 => ?_, fun h2 => ⟨fun h3 => ?_, fun h3 => ?_⟩⟩
      · have h2 : strEq (strB v) (strB wdNodes) = true := h2
        rw [strEq_list, beq_iff_eq] at h2
        unfold slR at hf
        rw [if_pos h2] at hf
        exact ⟨(wordsR s).length - (i + 1), _, by omega, ⟨i + 1, ta, nb, true, rfl, by omega, by omega, by omega, hf, rfl⟩, Gc.refl _ _⟩
      all_goals
        have h2 : strEq (strB v) (strB wdNodes) = false := h2
        rw [strEq_list, beq_eq_false_iff_ne] at h2
        unfold slR at hf
        rw [if_neg h2, h3] at hf
      · rw [if_pos rfl] at hf
        refine ⟨by omega, by omega, by omega, (wordsR s).length - (i + 1), _, by omega, ⟨i + 1, ta, nb ++ [numR v], true, rfl, by omega, by rw [List.length_append, List.length_singleton]; omega, by omega, hf, rfl⟩, ?_⟩
        rw [h3]
        refine gc_hp rfl rfl ⟨.inr ⟨_, _, rfl, rfl, .refl _⟩, .inr ⟨_, _, rfl, rfl, by rw [List.length_append]; exact .refl _⟩, .inl rfl, .inr ⟨_, _, rfl, rfl, .refl _⟩, .inr ⟨_, _, rfl, rfl, lB_app q4⟩, trivial⟩
      · rw [if_neg (by decide)] at hf
        refine ⟨by omega, by omega, by omega, (wordsR s).length - (i + 1), _, by omega, ⟨i + 1, ta ++ [numR v], nb, false, rfl, by rw [List.length_append, List.length_singleton]; omega, by omega, by omega, hf, rfl⟩, ?_⟩
        rw [h3]
        refine gc_hp rfl rfl ⟨.inr ⟨_, _, rfl, rfl, .refl _⟩, .inr ⟨_, _, rfl, rfl, by rw [List.length_append]; exact .refl _⟩, .inl rfl, .inr ⟨_, _, rfl, rfl, lB_app q5⟩, .inr ⟨_, _, rfl, rfl, .refl _⟩, trivial⟩
    · simp only [decide_eq_false_iff_not] at h1
      rw [List.drop_eq_nil_of_le (by omega)] at hf
      have hf : (ta, nb) = slotR s := hf
      rw [← hf]
      exact ⟨_, ⟨rfl, nd, (i : Int), rfl⟩, Gc.refl _ _⟩
  · rintro e t ⟨rfl, nd, i, rfl⟩
    refine Sat.of_eq (KSl5_eq s _ _ _ _ nd i) ⟨?_⟩
    unfold KSl5
    refine ⟨by omega, by omega, ?_⟩
    have k1 : ∀ L, KSl5_q1 L = fun i _ => .x (.int .i64 (L.getD i 0)) := fun L => by funext i j; unfold KSl5_q1; rw [Nat.zero_add]
    have k2 : ∀ L, KSl5_q2 L = fun i _ => .x (.int .i64 (L.getD i 0)) := fun L => by funext i j; unfold KSl5_q2; rw [Nat.zero_add]
    rw [k1, k2]; rfl
noncomputable def cSl5 : Ctr := fun ss => match ss with
  | [.d (.x (.string s))] => .need (s.size ≤ 900000) (.ret (.agg [ivL (slotR s.data.toList).1, ivL (slotR s.data.toList).2]))
  | _ => .fail
theorem cSl5_ok : CtrOK Tryz.prog 54 cSl5 := by
  refine ctrOK_S CW5_ok DW5_ok (by kernel_rfl) (by kernel_rfl) fun ss r hr => ?_
  unfold cSl5 at hr
  split at hr
  · rename_i s
    obtain ⟨h1, rfl⟩ := hr
    exact ⟨200, .nil, sl5_sat (s := s.data.toList) h1⟩
  · exact hr.elim
end Go.Proofs.YtgahnelicbddcaaGreatDoor

namespace Go.Proofs.YtgahnelicbddcaaGreatDoor
open Go.Sx
set_option maxRecDepth 100000
noncomputable def cDe5 (m : Nat) : Ctr := fun ss => match ss with
  | [.d (.x (.int .i64 n))] => .need (0 < m ∧ 0 ≤ n ∧ n < 10 ^ m ∧ n ≤ 9223372036854775807) (.ret (strV (decF m n.toNat)))
  | _ => .fail
noncomputable def manG5 (m : Nat) : FuncId → Option Ctr := fun k => match k with
  | 86 => some (cDe5 m)
  | _ => none
noncomputable def CG5 (m : Nat) : Ctx := ctxN Tryz.prog (manG5 m) (fun _ => false) 200 .nil 6
noncomputable def DG5 (m : Nat) : Dr := fun _ => drawn Tryz.prog (CG5 m)
noncomputable def TG5 (m : Nat) (h : Hint) (k : Nat) (args : List SV) : Tree SV := fnT Tryz.prog (CG5 m) (DG5 m) 200 (fnOf Tryz.prog k) (bodyOf Tryz.prog k) args h
noncomputable def LDe5_q1 (n : Int) (i : Nat) (j : Nat) : DV :=
  dsAt ((fun x => DV.x (.int .u8 (IntKind.wrap .u8 (w64 ((48 : Int) + n)))) :: x) []) ((0 : Nat) + ((0 : Nat) + i) * (1 : Nat) + j)
noncomputable def LDe5_q2 (n : Int) (i : Nat) (j : Nat) : DV :=
  dsAt [DV.x (.int .u8 (IntKind.wrap .u8 (w64 ((48 : Int) + n))))] (0 + (0 + i) * 1 + j)
noncomputable def LDe5_q3 (n : Int) (i : Nat) (j : Nat) : DV :=
  dsAt ((fun x => DV.x (.int .u8 (IntKind.wrap .u8 (w64 ((48 : Int) + Int.tmod n (10 : Int))))) :: x) []) ((0 : Nat) + ((0 : Nat) + i) * (1 : Nat) + j)
noncomputable def LDe5_q4 (n : Int) (i : Nat) (j : Nat) : DV :=
  dsAt [DV.x (.int .u8 (IntKind.wrap .u8 (w64 ((48 : Int) + Int.tmod n (10 : Int)))))] (0 + (0 + i) * 1 + j)
noncomputable def LDe5 (m : Nat) (n : Int) : Tree SV :=
  .ite (decide (n < (10 : Int)))
  (.need (1 ≤ 1) (.need (∀ (i : Nat), i < (1 : Nat) → isU8 (LDe5_q1 n i (0 : Nat)) = true) (.ret (SV.d (DV.x (.string (strOf 1 (LDe5_q2 n))))))))
  (.need ((10 : Int) ≠ (0 : Int))
   (.need (0 < m ∧ (0 : Int) ≤ w64 (Int.tdiv n (10 : Int)) ∧ w64 (Int.tdiv n (10 : Int)) < (10 : Int) ^ m ∧ w64 (Int.tdiv n (10 : Int)) ≤ (9223372036854775807 : Int))
   (.need ((10 : Int) ≠ (0 : Int))
   (.need (1 ≤ 1)
   (.need (∀ (i : Nat), i < (1 : Nat) → isU8 (LDe5_q3 n i (0 : Nat)) = true)
   (.need (ByteArray.size (strB (decF m (Int.toNat (w64 (Int.tdiv n (10 : Int)))))) + 1 ≤ 9223372036854775807)
   (.ret (SV.d (DV.x (.string (strB (decF m (Int.toNat (w64 (Int.tdiv n (10 : Int))))) ++ strOf 1 (LDe5_q4 n))))))))))))

theorem LDe5_eq (m : Nat) (n : Int) : TG5 m .nil 86 [iv n] = LDe5 m n := by kernel_rfl

noncomputable def cDi5 : Ctr := fun ss => match ss with
  | [.d (.x (.int .i64 n))] => .need (0 ≤ n ∧ n ≤ 9223372036854775807) (.ret (strV (itoaC n)))
  | _ => .fail
noncomputable def manI5 : FuncId → Option Ctr := fun k => match k with
  | 86 => some cDi5
  | _ => none
noncomputable def CI5 : Ctx := ctxN Tryz.prog manI5 (fun _ => false) 200 .nil 6
noncomputable def DI5 : Dr := fun _ => drawn Tryz.prog CI5
noncomputable def TI5 (h : Hint) (k : Nat) (args : List SV) : Tree SV := fnT Tryz.prog CI5 DI5 200 (fnOf Tryz.prog k) (bodyOf Tryz.prog k) args h
noncomputable def tNm5 (L : List Int) : Tree SV := TI5 .nil 67 [ivL L]
noncomputable def LNm5 (L : List Int) : Tree SV :=
  .code (codeC (sub [] (tNm5 L))) (codeS (sub [] (tNm5 L))) (codeK (sub [] (tNm5 L)))

theorem LNm5_eq (L : List Int) : tNm5 L = LNm5 L := by kernel_rfl

noncomputable def invNm5 (L : List Int) (z : List UInt8) (i : Int) : AS := ⟨[.ok (ivL L), .unk, .unk, .ok (strV z), .ok (iv i)] ++ List.replicate 15 .unk, [], 0, .nil⟩
noncomputable def bodyNm5 : Code := loopN (bodyOf Tryz.prog 67) 0
noncomputable def BNm5_q1 (L : List Int) (i : Nat) (x : Nat) : DV :=
  DV.x (.int .i64 (List.getD L i (0 : Int)))
noncomputable def BNm5 (L : List Int) (z : List UInt8) (i : Int) : Tree (Ex × AS) :=
  .ite (decide (i < (↑(List.length L) : Int)))
  (.need ((0 : Int) ≤ i ∧ i < (↑(List.length L) : Int))
   (.need ((0 : Int) ≤ List.getD L (Int.toNat i) (0 : Int) ∧ List.getD L (Int.toNat i) (0 : Int) ≤ (9223372036854775807 : Int))
   (.need (1 + ByteArray.size (strB (itoaC (List.getD L (Int.toNat i) (0 : Int)))) ≤ 9223372036854775807)
   (.need (ByteArray.size (strB z) + ByteArray.size (strB [(32 : UInt8)] ++ strB (itoaC (List.getD L (Int.toNat i) (0 : Int)))) ≤ 9223372036854775807)
   (.ret
   (.normal,
   {
   tm :=
   [.ok (SV.d (DV.ro (List.length L) 1 (BNm5_q1 L))), .unk, .unk, .ok (SV.d (DV.x (.string (strB z ++ (strB [(32 : UInt8)] ++ strB (itoaC (List.getD L (Int.toNat i) (0 : Int)))))))),
   .ok (iv (w64 (i + (1 : Int)))), .unk, .unk, .unk, .unk, .unk, .unk, .unk, .unk, .unk, .unk, .unk, .unk, .unk, .unk, .unk],
   hp := [], next := 0, hint := .nil }))))))
  (.ret
   (.exit 0,
   {
   tm :=
   [.ok (SV.d (DV.ro (List.length L) 1 (BNm5_q1 L))), .unk, .unk, .ok (SV.d (DV.x (.string (strB z)))), .ok (iv i), .unk, .unk, .unk, .unk, .unk, .unk, .unk, .unk, .unk, .unk,
   .unk, .unk, .unk, .unk, .unk],
   hp := [], next := 0, hint := .nil }))

theorem BNm5_eq (L : List Int) (z : List UInt8) (i : Int) : cutT 0 [] [0, 3, 4] [] 0 .nil (exec Tryz.prog CI5 DI5 200 bodyNm5 (invNm5 L z i)) = BNm5 L z i := by kernel_rfl

noncomputable def KNm5 (L : List Int) (z : List UInt8) (i : Int) : Tree SV :=
  .ret (SV.d (DV.x (.string (strB z))))

theorem KNm5_eq (L : List Int) (z : List UInt8) (i : Int) : codeK (sub [] (tNm5 L)) (.exit 0) (invNm5 L z i) = KNm5 L z i := by kernel_rfl


end Go.Proofs.YtgahnelicbddcaaGreatDoor

namespace Go.Sx
theorem strOf_one (v : Nat) : strOf 1 (fun i j => dsAt [DV.x (.int .u8 (v : Int))] (0 + (0 + i) * 1 + j)) = strB [UInt8.ofNat v] := rfl
theorem dec_u8 {n : Int} (h : 0 ≤ n ∧ n < 10) : IntKind.wrap .u8 (w64 (48 + n)) = ((48 + n.toNat : Nat) : Int) := by
  have h1 : w64 (48 + n) = 48 + n := by
    unfold w64 IntKind.wrap
    simp [IntKind.signed, IntKind.bits]
    omega
  have h2 : IntKind.wrap .u8 (48 + n) = (48 + n) % 256 := by unfold IntKind.wrap; rfl
  rw [h1, h2]; omega
theorem decF_ln : ∀ (m u : Nat), (decF m u).length ≤ m + 1
  | 0, u => by unfold decF; simp
  | m + 1, u => by
    unfold decF; split
    · simp
    · rw [List.length_append, List.length_singleton]; have := decF_ln m (u / 10); omega
def _root_.Go.Proofs.NumsOK (n : Nat) (c : Nat → Nat → DV) : Prop := n ≤ 1000000 ∧ Proofs.IntRow n c ∧ ∀ x ∈ lsOf n c, 0 ≤ x ∧ x ≤ 1000000
end Go.Sx
namespace Go.Proofs.YtgahnelicbddcaaGreatDoor
open Go.Sx
set_option maxRecDepth 100000
theorem manG5_ok {m : Nat} (h : CtrOK Tryz.prog 86 (cDe5 m)) (k : Nat) (c : Ctr) (hk : manG5 m k = some c) : CtrOK Tryz.prog k c ∧ goodF Tryz.prog k = true := by
  unfold manG5 at hk
  split at hk <;> first | (cases hk; done) | (cases hk)
  exact ⟨h, by kernel_rfl⟩
theorem de5_sat {m : Nat} {n : Int} (h0 : 0 ≤ n) (h1 : n < 10 ^ (m + 1)) (h2 : n ≤ 9223372036854775807) (hm : m ≤ 1000) : Sat Tryz.prog (TG5 m .nil 86 [iv n]) (· = strV (decF (m + 1) n.toNat)) := by
  constructor
  rw [LDe5_eq]; unfold LDe5
  have e0 : Int.tdiv n 10 = n / 10 := Int.tdiv_eq_ediv_of_nonneg h0
  have e1 : Int.tmod n 10 = n % 10 := Int.tmod_eq_emod_of_nonneg h0
  refine ⟨fun h => ?_, fun h => ?_⟩
  · simp only [decide_eq_true_eq] at h
    have e := dec_u8 ⟨h0, h⟩
    have q : LDe5_q2 n = fun i j => dsAt [DV.x (.int .u8 ((48 + n.toNat : Nat) : Int))] (0 + (0 + i) * 1 + j) := by funext i j; unfold LDe5_q2; rw [e]
    rw [q, strOf_one]
    refine ⟨by omega, fun i hi => ?_, ?_⟩
    · obtain rfl : i = 0 := by omega
      unfold LDe5_q1
      rw [e]
      show decide _ = true
      exact decide_eq_true ⟨by omega, by omega⟩
    · rw [decF_pos _ _ (by omega) (by omega)]; rfl
  · simp only [decide_eq_false_iff_not] at h
    have hm0 : 0 < m := by
      rcases Nat.eq_zero_or_pos m with h3 | h3
      · subst h3; simp at h1; omega
      · exact h3
    have hq : n / 10 < 10 ^ m := by rw [Int.pow_succ] at h1; omega
    have e := dec_u8 (n := n % 10) ⟨by omega, by omega⟩
    have q : LDe5_q4 n = fun i j => dsAt [DV.x (.int .u8 ((48 + (n % 10).toNat : Nat) : Int))] (0 + (0 + i) * 1 + j) := by funext i j; unfold LDe5_q4; rw [e1, e]
    rw [e0, w64_of (n := n / 10) (by omega) (by omega), q, strOf_one]
    refine ⟨by omega, ⟨hm0, by omega, hq, by omega⟩, by omega, by omega, fun i hi => ?_, ?_, ?_⟩
    · obtain rfl : i = 0 := by omega
      unfold LDe5_q3
      rw [e1, e]
      show decide _ = true
      exact decide_eq_true ⟨by omega, by omega⟩
    · rw [strB_size]
      have := decF_ln m (n / 10).toNat
      omega
    · have h5 : decF (m + 1) n.toNat = decF m (n.toNat / 10) ++ [UInt8.ofNat (48 + n.toNat % 10)] := by
        conv => lhs; unfold decF
        rw [if_neg (by omega)]
      have h6 : (n / 10).toNat = n.toNat / 10 := by omega
      have h7 : (n % 10).toNat = n.toNat % 10 := by omega
      rw [h5, h6, h7, strB_append]; rfl
theorem cDe5_ok : ∀ m : Nat, m ≤ 1000 → CtrOK Tryz.prog 86 (cDe5 m)
  | 0, _ => by
    refine ctrOK_S C0_ok D0_ok (by kernel_rfl) (by kernel_rfl) fun ss r hr => ?_
    unfold cDe5 at hr
    split at hr
    · exact absurd hr.1.1 (by omega)
    · exact hr.elim
  | m + 1, hm => by
    have hC := ctxN_ok (fuel := 200) (h := .nil) (inl := fun _ => false) mixed (manG5_ok (cDe5_ok m (by omega))) 6
    refine ctrOK_S hC (drawn_ok hC mixed) (by kernel_rfl) (by kernel_rfl) fun ss r hr => ?_
    unfold cDe5 at hr
    split at hr
    · obtain ⟨⟨_, h0, h1, h2⟩, rfl⟩ := hr
      exact ⟨200, .nil, de5_sat h0 h1 h2 (by omega)⟩
    · exact hr.elim
theorem cDi5_ok : CtrOK Tryz.prog 86 cDi5 := (cDe5_ok 19 (by omega)).mono fun ss r h => by
  unfold cDi5 at h
  split at h
  · obtain ⟨⟨h0, h1⟩, rfl⟩ := h
    refine ⟨⟨by omega, h0, ?_, h1⟩, ?_⟩
    · have : (10 : Int) ^ 19 = 10000000000000000000 := by decide
      omega
    · unfold itoaC; rw [if_neg (by omega)]; rfl
  · exact h.elim
theorem manI5_ok (k : Nat) (c : Ctr) (hk : manI5 k = some c) : CtrOK Tryz.prog k c ∧ goodF Tryz.prog k = true := by
  unfold manI5 at hk
  split at hk <;> first | (cases hk; done) | (cases hk)
  exact ⟨cDi5_ok, by kernel_rfl⟩
theorem CI5_ok : CtxOK Tryz.prog CI5 := ctxN_ok mixed manI5_ok 6
theorem DI5_ok : DrOK Tryz.prog CI5 DI5 := drawn_ok CI5_ok mixed
theorem getD_mem5 {L : List Int} {j : Nat} (h : j < L.length) : L.getD j 0 ∈ L := by
  rw [List.getD_eq_getElem?_getD, List.getElem?_eq_getElem h]; exact List.getElem_mem h
theorem nm5_sat {L : List Int} (hl : L.length ≤ 1000000) (hL : ∀ n ∈ L, 0 ≤ n ∧ n ≤ 1000000) : Sat Tryz.prog (tNm5 L) (· = strV (numT L)) := by
  constructor
  rw [LNm5_eq]; unfold LNm5
  refine code_satS CI5_ok DI5_ok (n := 200) (n0 := 0) (nx := 0) (roots := []) (keep := [0, 3, 4]) (drop := []) (h := .nil) (c := codeC (sub [] (tNm5 L))) (st := codeS (sub [] (tNm5 L))) (k := codeK (sub [] (tNm5 L))) (body := bodyNm5) (by kernel_rfl) (by kernel_rfl)
    (fun q t => ∃ i : Nat, q = L.length - i ∧ i ≤ L.length ∧ t = invNm5 L (numT (L.take i)) i)
    (fun e t => e = .exit 0 ∧ ∃ i, t = invNm5 L (numT L) i)
    ⟨_, _, ⟨0, rfl, by omega, rfl⟩, ?_⟩ ?_ ?_
  · exact entA_sound (roots := []) (keep := [0, 3, 4]) (drop := []) (nx := 0) (h := .nil) (by kernel_rfl)
  · rintro q t ⟨i, rfl, hi, rfl⟩
    refine Sat.of_eq (BNm5_eq L _ i) ?_
    constructor; unfold BNm5
    simp only [Int.toNat_natCast]
    refine ⟨fun h1 => ?_, fun h1 => ?_⟩
    · simp only [decide_eq_true_eq] at h1
      have hlt : i < L.length := by omega
      have hx := hL _ (getD_mem5 hlt)
      have ht : L.take (i + 1) = L.take i ++ [L.getD i 0] := by
        rw [List.take_add_one, List.getElem?_eq_getElem hlt, List.getD_eq_getElem?_getD, List.getElem?_eq_getElem hlt]; rfl
      have hn := numT_len (L := L.take i) fun n hn => by have := hL n (List.mem_of_mem_take hn); omega
      rw [List.length_take] at hn
      have hit := itoaC_len (n := L.getD i 0) (by omega) (by omega)
      have e1 : strB [(32 : UInt8)] ++ strB (itoaC (L.getD i 0)) = strB (32 :: itoaC (L.getD i 0)) := by rw [strB_append]; rfl
      rw [e1, strB_append, ← numT_snoc, ← ht, w64_of (n := (i : Int) + 1) (by omega) (by omega)]
      simp only [strB_size, List.length_cons]
      exact ⟨by omega, by omega, by omega, by omega, L.length - (i + 1), _, by omega, ⟨i + 1, rfl, by omega, rfl⟩, Gc.refl _ _⟩
    · simp only [decide_eq_false_iff_not] at h1
      have : i = L.length := by omega
      refine ⟨_, ⟨rfl, (i : Int), ?_⟩, Gc.refl _ _⟩
      rw [this, List.take_length]; rfl
  · rintro e t ⟨rfl, i, rfl⟩
    exact Sat.of_eq (KNm5_eq L _ i) ⟨rfl⟩
noncomputable def cNm5 : Ctr := fun ss => match ss with
  | [.d (.ro n 1 c)] => .need (NumsOK n c) (.ret (strV (numT (lsOf n c))))
  | [.d (.x v)] => .need (v = .slice none 0 0) (.ret (strV []))
  | _ => .fail
theorem cNm5_ok : CtrOK Tryz.prog 67 cNm5 := by
  refine ctrOK_repS CI5_ok DI5_ok (by kernel_rfl) (by kernel_rfl) fun ss r hr => ?_
  unfold cNm5 at hr
  split at hr
  · rename_i n c
    obtain ⟨⟨h1, h2, h3⟩, rfl⟩ := hr
    have k0 := nm5_sat (L := lsOf n c) (by rw [lsOf_len]; exact h1) h3
    refine ⟨_, 200, .nil, fun w' F vs hr => ?_, k0⟩
    exact repsA (fun v hv => .d (ints_canon (d := .ro n 1 c) ⟨rfl, h2⟩ (rep_d' hv))) hr
  · obtain ⟨rfl, rfl⟩ := hr
    have k0 := nm5_sat (L := []) (by simp) (by simp)
    refine ⟨_, 200, .nil, fun w' F vs hr => ?_, k0⟩
    exact repsA (fun v hv => .d (ints_canon (d := .x (.slice none 0 0)) rfl (rep_d' hv))) hr
  · exact hr.elim
end Go.Proofs.YtgahnelicbddcaaGreatDoor

namespace Go.Proofs.YtgahnelicbddcaaGreatDoor
open Go.Sx
set_option maxRecDepth 100000
noncomputable def manX5 : FuncId → Option Ctr := fun k => match k with
  | 67 => some cNm5
  | _ => none
theorem manX5_ok (k : Nat) (c : Ctr) (hk : manX5 k = some c) : CtrOK Tryz.prog k c ∧ goodF Tryz.prog k = true := by
  unfold manX5 at hk
  split at hk <;> first | (cases hk; done) | (cases hk)
  exact ⟨cNm5_ok, by kernel_rfl⟩
noncomputable def CX5 : Ctx := ctxN Tryz.prog manX5 (fun _ => false) 200 .nil 6
theorem CX5_ok : CtxOK Tryz.prog CX5 := ctxN_ok mixed manX5_ok 6
noncomputable def DX5 : Dr := fun _ => drawn Tryz.prog CX5
theorem DX5_ok : DrOK Tryz.prog CX5 DX5 := drawn_ok CX5_ok mixed
noncomputable def tTx5 (w h t p : Int) (K : List Int) (S : List (List Int × List Int)) : Tree SV := fnT Tryz.prog CX5 DX5 200 (fnOf Tryz.prog 33) (bodyOf Tryz.prog 33) [chS w h t p K S] .nil
noncomputable def LTx5_q1 (w : Int) (h : Int) (t : Int) (p : Int) (i : Nat) (j : Nat) : DV :=
  dsAt [DV.x (.int .i64 w), DV.x (.int .i64 h), DV.x (.int .i64 t), DV.x (.int .i64 p)] (0 + (0 + i) * 1 + j)
noncomputable def LTx5 (w h t p : Int) (K : List Int) (S : List (List Int × List Int)) : Tree SV :=
  .need (4 ≤ 4)
  (.need (NumsOK 4 (LTx5_q1 w h t p))
   (.need (4 + ByteArray.size (strB (numT [w, h, t, p])) ≤ 9223372036854775807)
   (.need (ByteArray.size (strB [(103 : UInt8), (114 : UInt8), (105 : UInt8), (100 : UInt8)] ++ strB (numT [w, h, t, p])) + 1 ≤ 9223372036854775807)
   (.code (codeC (sub [(0 : Nat), (0 : Nat), (0 : Nat), (0 : Nat)] (tTx5 w h t p K S))) (codeS (sub [(0 : Nat), (0 : Nat), (0 : Nat), (0 : Nat)] (tTx5 w h t p K S)))
   (codeK (sub [(0 : Nat), (0 : Nat), (0 : Nat), (0 : Nat)] (tTx5 w h t p K S)))))))

theorem LTx5_eq (w h t p : Int) (K : List Int) (S : List (List Int × List Int)) : tTx5 w h t p K S = LTx5 w h t p K S := by kernel_rfl

noncomputable def hpTx5 (w h t p : Int) (K : List Int) (S : List (List Int × List Int)) : List (Option Blk) := [some (.cells [iv w, iv h, iv t, iv p, ivL K, .d (.ro S.length 2 (badC S))]), some (.cells [iv w, iv h, iv t, iv p, ivL K]), none, none]
noncomputable def invTx5 (w h t p : Int) (K : List Int) (S : List (List Int × List Int)) (z : List UInt8) (y : Int) : AS := ⟨[.unk, .ok (.ptr 0 0), .unk, .ok (.ptr 1 0), .ok (strV z), .ok (iv y)] ++ List.replicate 83 .unk, hpTx5 w h t p K S, 4, .nil⟩
noncomputable def bodyTx5 : Code := loopN (bodyOf Tryz.prog 33) 0
noncomputable def bTx5 (w h t p : Int) (K : List Int) (S : List (List Int × List Int)) (z : List UInt8) (y : Int) : Tree (Ex × AS) := cutT 4 [] [1, 3, 4, 5] [2, 3] 4 .nil (exec Tryz.prog CX5 DX5 200 bodyTx5 (invTx5 w h t p K S z y))
noncomputable def BTx5_q1 (K : List Int) (i : Nat) (x : Nat) : DV :=
  DV.x (.int .i64 (List.getD K i (0 : Int)))
noncomputable def BTx5_q2 (S : List (List Int × List Int)) (i : Nat) (j : Nat) : DV :=
  DV.ro (List.length (bdL S i j)) 1 fun i_1 x => DV.x (.int .i64 (List.getD (bdL S i j) i_1 (0 : Int)))
noncomputable def BTx5 (w h t p : Int) (K : List Int) (S : List (List Int × List Int)) (z : List UInt8) (y : Int) : Tree (Ex × AS) :=
  .ite (decide (y ≥ (0 : Int))) (.code (codeC (sub [(0 : Nat)] (bTx5 w h t p K S z y))) (codeS (sub [(0 : Nat)] (bTx5 w h t p K S z y))) (codeK (sub [(0 : Nat)] (bTx5 w h t p K S z y))))
  (.ret
   (.exit 0,
   {
   tm :=
   [.unk, .ok (SV.ptr 0 0), .unk, .ok (SV.ptr 1 0), .ok (SV.d (DV.x (.string (strB z)))), .ok (iv y), .unk, .unk, .unk, .unk, .unk, .unk, .unk, .unk, .unk,
   .unk, .unk, .unk, .unk, .unk, .unk, .unk, .unk, .unk, .unk, .unk, .unk, .unk, .unk, .unk, .unk, .unk, .unk, .unk, .unk, .unk, .unk, .unk, .unk, .unk, .unk, .unk, .unk,
   .unk, .unk, .unk, .unk, .unk, .unk, .unk, .unk, .unk, .unk, .unk, .unk, .unk, .unk, .unk, .unk, .unk, .unk, .unk, .unk, .unk, .unk, .unk, .unk, .unk, .unk, .unk, .unk,
   .unk, .unk, .unk, .unk, .unk, .unk, .unk, .unk, .unk, .unk, .unk, .unk, .unk, .unk, .unk, .unk, .unk, .unk],
   hp :=
   [some (.cells [iv w, iv h, iv t, iv p, SV.d (DV.ro (List.length K) 1 (BTx5_q1 K)), SV.d (DV.ro (List.length S) 2 (BTx5_q2 S))]),
   some (.cells [iv w, iv h, iv t, iv p, SV.d (DV.ro (List.length K) 1 (BTx5_q1 K))]), none, none],
   next := 4, hint := .nil }))

theorem BTx5_eq (w h t p : Int) (K : List Int) (S : List (List Int × List Int)) (z : List UInt8) (y : Int) : bTx5 w h t p K S z y = BTx5 w h t p K S z y := by kernel_rfl

noncomputable def invTy5 (w h t p : Int) (K : List Int) (S : List (List Int × List Int)) (z : List UInt8) (y x : Int) : AS := ⟨[.unk, .ok (.ptr 0 0), .unk, .ok (.ptr 1 0), .ok (strV z), .ok (iv y), .ok (iv x)] ++ List.replicate 82 .unk, hpTx5 w h t p K S, 4, .nil⟩
noncomputable def bodyTy5 : Code := loopN (bodyOf Tryz.prog 33) 1
noncomputable def BTy5_q1 (K : List Int) (i : Nat) (x : Nat) : DV :=
  DV.x (.int .i64 (List.getD K i (0 : Int)))
noncomputable def BTy5_q2 (S : List (List Int × List Int)) (i : Nat) (j : Nat) : DV :=
  DV.ro (List.length (bdL S i j)) 1 fun i_1 x => DV.x (.int .i64 (List.getD (bdL S i j) i_1 (0 : Int)))
noncomputable def BTy5 (w h t p : Int) (K : List Int) (S : List (List Int × List Int)) (z : List UInt8) (y x : Int) : Tree (Ex × AS) :=
 .ite (decide (x < w))
 (.need ((0 : Int) ≤ w64 (w64 (y * w) + x) ∧ w64 (w64 (y * w) + x) < (↑(List.length K) : Int))
 (.need ((0 : Int) ≤ w64 (w64 (y * w) + x) ∧ w64 (w64 (y * w) + x) < (↑(List.length K) : Int))
 (.need
 (((0 : Int) ≤ w64 (List.getD K (Int.toNat (w64 (w64 (y * w) + x))) (0 : Int) + (1 : Int)) ∧ Int.toNat (w64 (List.getD K (Int.toNat (w64 (w64 (y * w) + x))) (0 : Int) + (1 : Int))) ≤ 3) ∧
 (0 : Int) ≤ List.getD K (Int.toNat (w64 (w64 (y * w) + x))) (0 : Int) ∧
 Int.toNat (List.getD K (Int.toNat (w64 (w64 (y * w) + x))) (0 : Int)) ≤ Int.toNat (w64 (List.getD K (Int.toNat (w64 (w64 (y * w) + x))) (0 : Int) + (1 : Int))))
 (.need
 (ByteArray.size (strB z) +
 ByteArray.size
 (ByteArray.extract (strB [(46 : UInt8), (76 : UInt8), (77 : UInt8)]) (Int.toNat (List.getD K (Int.toNat (w64 (w64 (y * w) + x))) (0 : Int)))
 (Int.toNat (w64 (List.getD K (Int.toNat (w64 (w64 (y * w) + x))) (0 : Int) + (1 : Int))))) ≤
 9223372036854775807)
 (.ret
 (.normal,
 {
 tm :=
 [.unk, .ok (SV.ptr 0 0), .unk, .ok (SV.ptr 1 0),
 .ok
 (SV.d
 (DV.x
 (.string
 (strB z ++
 ByteArray.extract (strB [(46 : UInt8), (76 : UInt8), (77 : UInt8)]) (Int.toNat (List.getD K (Int.toNat (w64 (w64 (y * w) + x))) (0 : Int)))
 (Int.toNat (w64 (List.getD K (Int.toNat (w64 (w64 (y * w) + x))) (0 : Int) + (1 : Int)))))))),
 .ok (iv y), .ok (iv (w64 (x + (1 : Int)))), .unk, .unk, .unk, .unk, .unk, .unk, .unk, .unk, .unk, .unk, .unk, .unk, .unk, .unk, .unk, .unk, .unk, .unk, .unk, .unk, .unk,
 .unk, .unk, .unk, .unk, .unk, .unk, .unk, .unk, .unk, .unk, .unk, .unk, .unk, .unk, .unk, .unk, .unk, .unk, .unk, .unk, .unk, .unk, .unk, .unk, .unk, .unk, .unk,
 .unk, .unk, .unk, .unk, .unk, .unk, .unk, .unk, .unk, .unk, .unk, .unk, .unk, .unk, .unk, .unk, .unk, .unk, .unk, .unk, .unk, .unk, .unk, .unk, .unk, .unk, .unk,
 .unk, .unk, .unk, .unk, .unk, .unk, .unk],
 hp :=
 [some (.cells [iv w, iv h, iv t, iv p, SV.d (DV.ro (List.length K) 1 (BTy5_q1 K)), SV.d (DV.ro (List.length S) 2 (BTy5_q2 S))]),
 some (.cells [iv w, iv h, iv t, iv p, SV.d (DV.ro (List.length K) 1 (BTy5_q1 K))]), none, none],
 next := 4, hint := .nil }))))))
 (.ret
 (.exit 2,
 {
 tm :=
 [.unk, .ok (SV.ptr 0 0), .unk, .ok (SV.ptr 1 0), .ok (SV.d (DV.x (.string (strB z)))), .ok (iv y), .ok (iv x), .unk, .unk, .unk, .unk, .unk, .unk, .unk,
 .unk, .unk, .unk, .unk, .unk, .unk, .unk, .unk, .unk, .unk, .unk, .unk, .unk, .unk, .unk, .unk, .unk, .unk, .unk, .unk, .unk, .unk, .unk, .unk, .unk, .unk, .unk, .unk,
 .unk, .unk, .unk, .unk, .unk, .unk, .unk, .unk, .unk, .unk, .unk, .unk, .unk, .unk, .unk, .unk, .unk, .unk, .unk, .unk, .unk, .unk, .unk, .unk, .unk, .unk, .unk, .unk,
 .unk, .unk, .unk, .unk, .unk, .unk, .unk, .unk, .unk, .unk, .unk, .unk, .unk, .unk, .unk, .unk, .unk, .unk, .unk],
 hp :=
 [some (.cells [iv w, iv h, iv t, iv p, SV.d (DV.ro (List.length K) 1 (BTy5_q1 K)), SV.d (DV.ro (List.length S) 2 (BTy5_q2 S))]),
 some (.cells [iv w, iv h, iv t, iv p, SV.d (DV.ro (List.length K) 1 (BTy5_q1 K))]), none, none],
 next := 4, hint := .nil }))

theorem BTy5_eq (w h t p : Int) (K : List Int) (S : List (List Int × List Int)) (z : List UInt8) (y x : Int) : cutT 4 [] [1, 3, 4, 5, 6] [2, 3] 4 .nil (exec Tryz.prog CX5 DX5 200 bodyTy5 (invTy5 w h t p K S z y x)) = BTy5 w h t p K S z y x := by kernel_rfl

noncomputable def KTy5_q1 (K : List Int) (i : Nat) (x : Nat) : DV :=
  DV.x (.int .i64 (List.getD K i (0 : Int)))
noncomputable def KTy5_q2 (S : List (List Int × List Int)) (i : Nat) (j : Nat) : DV :=
  DV.ro (List.length (bdL S i j)) 1 fun i_1 x => DV.x (.int .i64 (List.getD (bdL S i j) i_1 (0 : Int)))
noncomputable def KTy5 (w h t p : Int) (K : List Int) (S : List (List Int × List Int)) (z : List UInt8) (y : Int) (z2 : List UInt8) (x : Int) : Tree (Ex × AS) :=
  .need (ByteArray.size (strB z2) + 1 ≤ 9223372036854775807)
  (.ret
   (.normal,
   {
   tm :=
   [.unk, .ok (SV.ptr 0 0), .unk, .ok (SV.ptr 1 0), .ok (SV.d (DV.x (.string (strB z2 ++ strB [(10 : UInt8)])))), .ok (iv (w64 (y - (1 : Int)))), .unk, .unk, .unk,
   .unk, .unk, .unk, .unk, .unk, .unk, .unk, .unk, .unk, .unk, .unk, .unk, .unk, .unk, .unk, .unk, .unk, .unk, .unk, .unk, .unk, .unk, .unk, .unk, .unk, .unk, .unk, .unk,
   .unk, .unk, .unk, .unk, .unk, .unk, .unk, .unk, .unk, .unk, .unk, .unk, .unk, .unk, .unk, .unk, .unk, .unk, .unk, .unk, .unk, .unk, .unk, .unk, .unk, .unk, .unk, .unk,
   .unk, .unk, .unk, .unk, .unk, .unk, .unk, .unk, .unk, .unk, .unk, .unk, .unk, .unk, .unk, .unk, .unk, .unk, .unk, .unk, .unk, .unk, .unk, .unk],
   hp :=
   [some (.cells [iv w, iv h, iv t, iv p, SV.d (DV.ro (List.length K) 1 (KTy5_q1 K)), SV.d (DV.ro (List.length S) 2 (KTy5_q2 S))]),
   some (.cells [iv w, iv h, iv t, iv p, SV.d (DV.ro (List.length K) 1 (KTy5_q1 K))]), none, none],
   next := 4, hint := .nil }))

theorem KTy5_eq (w h t p : Int) (K : List Int) (S : List (List Int × List Int)) (z : List UInt8) (y : Int) (z2 : List UInt8) (x : Int) : codeK (sub [0] (bTx5 w h t p K S z y)) (.exit 2) (invTy5 w h t p K S z2 y x) = KTy5 w h t p K S z y z2 x := by kernel_rfl

noncomputable def tTz5 (w h t p : Int) (K : List Int) (S : List (List Int × List Int)) (z : List UInt8) (y : Int) : Tree SV := codeK (sub [0, 0, 0, 0] (tTx5 w h t p K S)) (.exit 0) (invTx5 w h t p K S z y)
noncomputable def KTx5 (w h t p : Int) (K : List Int) (S : List (List Int × List Int)) (z : List UInt8) (y : Int) : Tree SV :=
  .code (codeC (sub [] (tTz5 w h t p K S z y))) (codeS (sub [] (tTz5 w h t p K S z y))) (codeK (sub [] (tTz5 w h t p K S z y)))

theorem KTx5_eq (w h t p : Int) (K : List Int) (S : List (List Int × List Int)) (z : List UInt8) (y : Int) : tTz5 w h t p K S z y = KTx5 w h t p K S z y := by kernel_rfl

noncomputable def invTz5 (w h t p : Int) (K : List Int) (S : List (List Int × List Int)) (z : List UInt8) (g : Int) : AS := ⟨[.unk, .ok (.ptr 0 0), .unk, .unk, .ok (strV z), .unk, .unk, .ok (iv g)] ++ List.replicate 81 .unk, [some (.cells [iv w, iv h, iv t, iv p, ivL K, .d (.ro S.length 2 (badC S))]), none, none, none], 4, .nil⟩
noncomputable def bodyTz5 : Code := loopN (bodyOf Tryz.prog 33) 2
noncomputable def BTz5_q1 (S : List (List Int × List Int)) (g : Int) (i : Nat) (x : Nat) : DV :=
  DV.x (.int .i64 (List.getD (bdL S (Int.toNat g) 0) i (0 : Int)))
noncomputable def BTz5_q2 (S : List (List Int × List Int)) (g : Int) (i : Nat) (x : Nat) : DV :=
  DV.x (.int .i64 (List.getD (bdL S (Int.toNat g) 1) i (0 : Int)))
noncomputable def BTz5_q3 (K : List Int) (i : Nat) (x : Nat) : DV :=
  DV.x (.int .i64 (List.getD K i (0 : Int)))
noncomputable def BTz5_q4 (S : List (List Int × List Int)) (i : Nat) (j : Nat) : DV :=
  DV.ro (List.length (bdL S i j)) 1 fun i_1 x => DV.x (.int .i64 (List.getD (bdL S i j) i_1 (0 : Int)))
noncomputable def BTz5 (w h t p : Int) (K : List Int) (S : List (List Int × List Int)) (z : List UInt8) (g : Int) : Tree (Ex × AS) :=
 .ite (decide (g < (↑(List.length S) : Int)))
 (.need ((0 : Int) ≤ g ∧ g < (↑(List.length S) : Int))
 (.need (NumsOK (List.length (bdL S (Int.toNat g) 0)) (BTz5_q1 S g))
 (.need (10 + ByteArray.size (strB (numT (lsOf (List.length (bdL S (Int.toNat g) 0)) (BTz5_q1 S g)))) ≤ 9223372036854775807)
 (.need
 (ByteArray.size
 (strB [(115 : UInt8), (108 : UInt8), (111 : UInt8), (116 : UInt8), (32 : UInt8), (116 : UInt8), (105 : UInt8), (108 : UInt8), (101 : UInt8), (115 : UInt8)] ++
 strB (numT (lsOf (List.length (bdL S (Int.toNat g) 0)) (BTz5_q1 S g)))) +
 6 ≤
 9223372036854775807)
 (.need ((0 : Int) ≤ g ∧ g < (↑(List.length S) : Int))
 (.need (NumsOK (List.length (bdL S (Int.toNat g) 1)) (BTz5_q2 S g))
 (.need
 (ByteArray.size
 (strB [(115 : UInt8), (108 : UInt8), (111 : UInt8), (116 : UInt8), (32 : UInt8), (116 : UInt8), (105 : UInt8), (108 : UInt8), (101 : UInt8), (115 : UInt8)] ++
 strB (numT (lsOf (List.length (bdL S (Int.toNat g) 0)) (BTz5_q1 S g))) ++
 strB [(32 : UInt8), (110 : UInt8), (111 : UInt8), (100 : UInt8), (101 : UInt8), (115 : UInt8)]) +
 ByteArray.size (strB (numT (lsOf (List.length (bdL S (Int.toNat g) 1)) (BTz5_q2 S g)))) ≤
 9223372036854775807)
 (.need
 (ByteArray.size
 (strB [(115 : UInt8), (108 : UInt8), (111 : UInt8), (116 : UInt8), (32 : UInt8), (116 : UInt8), (105 : UInt8), (108 : UInt8), (101 : UInt8), (115 : UInt8)] ++
 strB (numT (lsOf (List.length (bdL S (Int.toNat g) 0)) (BTz5_q1 S g))) ++
 strB [(32 : UInt8), (110 : UInt8), (111 : UInt8), (100 : UInt8), (101 : UInt8), (115 : UInt8)] ++
 strB (numT (lsOf (List.length (bdL S (Int.toNat g) 1)) (BTz5_q2 S g)))) +
 1 ≤
 9223372036854775807)
 (.need
 (ByteArray.size (strB z) +
 ByteArray.size
 (strB [(115 : UInt8), (108 : UInt8), (111 : UInt8), (116 : UInt8), (32 : UInt8), (116 : UInt8), (105 : UInt8), (108 : UInt8), (101 : UInt8), (115 : UInt8)] ++
 strB (numT (lsOf (List.length (bdL S (Int.toNat g) 0)) (BTz5_q1 S g))) ++
 strB [(32 : UInt8), (110 : UInt8), (111 : UInt8), (100 : UInt8), (101 : UInt8), (115 : UInt8)] ++
 strB (numT (lsOf (List.length (bdL S (Int.toNat g) 1)) (BTz5_q2 S g))) ++
 strB [(10 : UInt8)]) ≤
 9223372036854775807)
 (.ret
 (.normal,
 {
 tm :=
 [.unk, .ok (SV.ptr 0 0), .unk, .unk,
 .ok
 (SV.d
 (DV.x
 (.string
 (strB z ++
 (strB [(115 : UInt8), (108 : UInt8), (111 : UInt8), (116 : UInt8), (32 : UInt8), (116 : UInt8), (105 : UInt8), (108 : UInt8), (101 : UInt8), (115 : UInt8)] ++
 strB (numT (lsOf (List.length (bdL S (Int.toNat g) 0)) (BTz5_q1 S g))) ++
 strB [(32 : UInt8), (110 : UInt8), (111 : UInt8), (100 : UInt8), (101 : UInt8), (115 : UInt8)] ++
 strB (numT (lsOf (List.length (bdL S (Int.toNat g) 1)) (BTz5_q2 S g))) ++
 strB [(10 : UInt8)]))))),
 .unk, .unk, .ok (iv (w64 (g + (1 : Int)))), .unk, .unk, .unk, .unk, .unk, .unk, .unk, .unk, .unk, .unk, .unk, .unk, .unk, .unk, .unk, .unk, .unk, .unk, .unk, .unk,
 .unk, .unk, .unk, .unk, .unk, .unk, .unk, .unk, .unk, .unk, .unk, .unk, .unk, .unk, .unk, .unk, .unk, .unk, .unk, .unk, .unk, .unk, .unk, .unk, .unk, .unk,
 .unk, .unk, .unk, .unk, .unk, .unk, .unk, .unk, .unk, .unk, .unk, .unk, .unk, .unk, .unk, .unk, .unk, .unk, .unk, .unk, .unk, .unk, .unk, .unk, .unk, .unk,
 .unk, .unk, .unk, .unk, .unk, .unk, .unk, .unk, .unk],
 hp := [some (.cells [iv w, iv h, iv t, iv p, SV.d (DV.ro (List.length K) 1 (BTz5_q3 K)), SV.d (DV.ro (List.length S) 2 (BTz5_q4 S))]), none, none, none],
 next := 4, hint := .nil })))))))))))
 (.ret
 (.exit 4,
 {
 tm :=
 [.unk, .ok (SV.ptr 0 0), .unk, .unk, .ok (SV.d (DV.x (.string (strB z)))), .unk, .unk, .ok (iv g), .unk, .unk, .unk, .unk, .unk, .unk, .unk, .unk, .unk, .unk, .unk,
 .unk, .unk, .unk, .unk, .unk, .unk, .unk, .unk, .unk, .unk, .unk, .unk, .unk, .unk, .unk, .unk, .unk, .unk, .unk, .unk, .unk, .unk, .unk, .unk, .unk, .unk, .unk, .unk,
 .unk, .unk, .unk, .unk, .unk, .unk, .unk, .unk, .unk, .unk, .unk, .unk, .unk, .unk, .unk, .unk, .unk, .unk, .unk, .unk, .unk, .unk, .unk, .unk, .unk, .unk, .unk, .unk,
 .unk, .unk, .unk, .unk, .unk, .unk, .unk, .unk, .unk, .unk, .unk, .unk, .unk, .unk],
 hp := [some (.cells [iv w, iv h, iv t, iv p, SV.d (DV.ro (List.length K) 1 (BTz5_q3 K)), SV.d (DV.ro (List.length S) 2 (BTz5_q4 S))]), none, none, none], next := 4,
 hint := .nil }))

theorem BTz5_eq (w h t p : Int) (K : List Int) (S : List (List Int × List Int)) (z : List UInt8) (g : Int) : cutT 4 [] [1, 4, 7] [1, 2, 3] 4 .nil (exec Tryz.prog CX5 DX5 200 bodyTz5 (invTz5 w h t p K S z g)) = BTz5 w h t p K S z g := by kernel_rfl

noncomputable def KTz5 (w h t p : Int) (K : List Int) (S : List (List Int × List Int)) (z : List UInt8) (y : Int) (z2 : List UInt8) (g : Int) : Tree SV :=
  .ret (SV.d (DV.x (.string (strB z2))))

theorem KTz5_eq (w h t p : Int) (K : List Int) (S : List (List Int × List Int)) (z : List UInt8) (y : Int) (z2 : List UInt8) (g : Int) : codeK (sub [] (tTz5 w h t p K S z y)) (.exit 4) (invTz5 w h t p K S z2 g) = KTz5 w h t p K S z y z2 g := by kernel_rfl


end Go.Proofs.YtgahnelicbddcaaGreatDoor

