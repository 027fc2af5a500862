/- Part of a proof of the given statements of this seat (SxChQk, SxChQl, SxChQm, SxChLq7, SxChGl, SxChG7J): no conditions beyond those typed here. -/
import Derived.Test.YtgahnelicbddcaaGreatDoorSz16
import Derived.Test.YtgahnelicbddcaaGreatDoorSz04
import Derived.Lib.LaidTab
import Derived.Stop.LaidErr
import Derived.Shelf.Vars
import Derived.MakeChecks
import Derived.Test.YtgahnelicbddcaaGreatDoorRows
import Derived.Test.YtgahnelicbddcaaGreatDoorChecked
import Derived.Test.YtgahnelicbddcaaGreatDoorCards
import Derived.Test.YtgahnelicbddcaaGreatDoorTie
import Derived.SevenTiedAt
import Derived.Lay
set_option linter.unusedVariables false
set_option linter.unusedSimpArgs false
set_option linter.unusedSectionVars false

namespace Go.Proofs.YtgahnelicbddcaaGreatDoor
open Go.Sx
set_option maxRecDepth 100000
noncomputable def tL7 (w h t p : Int) (m : Nat) (f : Nat → Nat → DV) (m2 : Nat) (f2 : Nat → Nat → DV) (k : Int) : Tree SV := TN .nil 7 [rawF w h t p m f, .d (.ro m2 1 f2), u16V k]
noncomputable def L7T_q1 (t : Int) (m2 : Nat) (f2 : Nat → Nat → DV) (i : Nat) (x : Nat) : DV :=
  DV.x (.int .i64 (List.getD (shL (anN (2 : Int) (3 : Int) t) m2 f2) i (0 : Int)))
noncomputable def L7T (w h t p : Int) (m : Nat) (f : Nat → Nat → DV) (m2 : Nat) (f2 : Nat → Nat → DV) (k : Int) : Tree SV :=
  .ite false (.ret (bv false))
  (.need (RawOK w h t p m f)
   (.need (((0 : Int) ≤ anN (2 : Int) (3 : Int) t ∧ anN (2 : Int) (3 : Int) t ≤ (1000 : Int)) ∧ ByteRow m2 f2)
   (.need (okG (anN (2 : Int) (4 : Int) w) (anN (2 : Int) (4 : Int) h) (anN (2 : Int) (3 : Int) t) (24 : Int))
   (.need (gN (anN (2 : Int) (4 : Int) w) (anN (2 : Int) (4 : Int) h) (anN (2 : Int) (3 : Int) t) (24 : Int) ≠ (0 : Int))
   (.need (okG (anN (2 : Int) (4 : Int) w) (anN (2 : Int) (4 : Int) h) (anN (2 : Int) (3 : Int) t) (24 : Int))
   (.need (i64B (Int.tmod (w64 k) (gN (anN (2 : Int) (4 : Int) w) (anN (2 : Int) (4 : Int) h) (anN (2 : Int) (3 : Int) t) (24 : Int))))
   (.need (okG (anN (2 : Int) (4 : Int) w) (anN (2 : Int) (4 : Int) h) (anN (2 : Int) (3 : Int) t) (24 : Int))
   (.need
   ((0 : Int) ≤ Int.tmod (w64 k) (gN (anN (2 : Int) (4 : Int) w) (anN (2 : Int) (4 : Int) h) (anN (2 : Int) (3 : Int) t) (24 : Int)) ∧
   Int.tmod (w64 k) (gN (anN (2 : Int) (4 : Int) w) (anN (2 : Int) (4 : Int) h) (anN (2 : Int) (3 : Int) t) (24 : Int)) < gN (anN (2 : Int) (4 : Int) w) (anN (2 : Int) (4 : Int) h) (anN (2 : Int) (3 : Int) t) (24 : Int))
   (.need ((↑(List.length (shL (anN (2 : Int) (3 : Int) t) m2 f2)) : Int) = anN (2 : Int) (3 : Int) t ∧ IntRow (List.length (shL (anN (2 : Int) (3 : Int) t) m2 f2)) (L7T_q1 t m2 f2))
   (.need (okG (anN (2 : Int) (4 : Int) w) (anN (2 : Int) (4 : Int) h) (anN (2 : Int) (3 : Int) t) (24 : Int))
   (.need
   (i64B
   (rnN (anN (2 : Int) (4 : Int) w) (anN (2 : Int) (4 : Int) h) (anN (2 : Int) (3 : Int) t) (24 : Int) (lsOf (List.length (shL (anN (2 : Int) (3 : Int) t) m2 f2)) (L7T_q1 t m2 f2))
   (Int.tmod (w64 k) (gN (anN (2 : Int) (4 : Int) w) (anN (2 : Int) (4 : Int) h) (anN (2 : Int) (3 : Int) t) (24 : Int)))))
   (.need (okG (anN (2 : Int) (4 : Int) w) (anN (2 : Int) (4 : Int) h) (anN (2 : Int) (3 : Int) t) (24 : Int))
   (.need (i64B (Int.tmod (w64 k) (gN (anN (2 : Int) (4 : Int) w) (anN (2 : Int) (4 : Int) h) (anN (2 : Int) (3 : Int) t) (24 : Int))))
   (.ite
   ((↑(List.length
   (refN (anN (2 : Int) (4 : Int) w) (anN (2 : Int) (4 : Int) h) (anN (2 : Int) (3 : Int) t) (24 : Int)
   (Int.tmod (w64 k) (gN (anN (2 : Int) (4 : Int) w) (anN (2 : Int) (4 : Int) h) (anN (2 : Int) (3 : Int) t) (24 : Int))))) :
   Int) !=
   (↑(List.length
   (refN (anN (2 : Int) (4 : Int) w) (anN (2 : Int) (4 : Int) h) (anN (2 : Int) (3 : Int) t) (24 : Int)
   (rnN (anN (2 : Int) (4 : Int) w) (anN (2 : Int) (4 : Int) h) (anN (2 : Int) (3 : Int) t) (24 : Int) (lsOf (List.length (shL (anN (2 : Int) (3 : Int) t) m2 f2)) (L7T_q1 t m2 f2))
   (Int.tmod (w64 k) (gN (anN (2 : Int) (4 : Int) w) (anN (2 : Int) (4 : Int) h) (anN (2 : Int) (3 : Int) t) (24 : Int)))))) :
   Int) ||
   gK (anN (2 : Int) (4 : Int) w) (anN (2 : Int) (4 : Int) h) (anN (2 : Int) (3 : Int) t) (24 : Int)
   (Int.tmod (w64 k) (gN (anN (2 : Int) (4 : Int) w) (anN (2 : Int) (4 : Int) h) (anN (2 : Int) (3 : Int) t) (24 : Int))) ==
   (0 : Int))
   (.ret (bv false))
   (.code
   (codeC (sub [(1 : Nat), (0 : Nat), (0 : Nat), (0 : Nat), (0 : Nat), (0 : Nat), (0 : Nat), (0 : Nat), (0 : Nat), (0 : Nat), (0 : Nat), (0 : Nat), (0 : Nat), (0 : Nat), (1 : Nat)] (tL7 w h t p m f m2 f2 k)))
   (codeS (sub [(1 : Nat), (0 : Nat), (0 : Nat), (0 : Nat), (0 : Nat), (0 : Nat), (0 : Nat), (0 : Nat), (0 : Nat), (0 : Nat), (0 : Nat), (0 : Nat), (0 : Nat), (0 : Nat), (1 : Nat)] (tL7 w h t p m f m2 f2 k)))
   (codeK
   (sub [(1 : Nat), (0 : Nat), (0 : Nat), (0 : Nat), (0 : Nat), (0 : Nat), (0 : Nat), (0 : Nat), (0 : Nat), (0 : Nat), (0 : Nat), (0 : Nat), (0 : Nat), (0 : Nat), (1 : Nat)]
   (tL7 w h t p m f m2 f2 k))))))))))))))))))

theorem L7T_eq (w h t p : Int) (m : Nat) (f : Nat → Nat → DV) (m2 : Nat) (f2 : Nat → Nat → DV) (k : Int) : tL7 w h t p m f m2 f2 k = L7T w h t p m f m2 f2 k := by kernel_rfl


end Go.Proofs.YtgahnelicbddcaaGreatDoor

namespace Go.Proofs.YtgahnelicbddcaaGreatDoor
open Go.Sx
set_option maxRecDepth 100000
noncomputable def invL7 (W H T : Int) (mk : Nat) (ck : Nat → Nat → DV) (r : Bool) (S L M : List Int) (sk sx sy si z : Int) : AS := ⟨List.replicate 6 .unk ++ [.ok (bv r), .ok (bv true), .ok (.ptr 1 0), .ok (ivL S), .unk, .ok (ivL L), .ok (ivL M), .ok (.ptr 14 0), .ok (iv z)] ++ List.replicate 107 .unk, [none, some (.cells [iv W, iv H, iv T, iv 24, .d (.ro mk 1 ck)])] ++ List.replicate 12 none ++ [some (.cells [iv sk, iv sx, iv sy, iv si]), none], 16, .nil⟩
noncomputable def bodyL7 : Code := loopN (bodyOf Tryz.prog 7) 0
noncomputable def B7_q1 (L : List Int) (z : Int) : Bool :=
  decide (List.getD L (Int.toNat z) (0 : Int) < (0 : Int))
noncomputable def B7_q2 (W : Int) (H : Int) (T : Int) (L : List Int) (z : Int) : Bool :=
  B7_q1 L z || decide (List.getD L (Int.toNat z) (0 : Int) ≥ gN W H T (24 : Int))
noncomputable def B7_q3 (S : List Int) (i : Nat) (x : Nat) : DV :=
  DV.x (.int .i64 (List.getD S i (0 : Int)))
noncomputable def B7_q4 (M : List Int) (i : Nat) (x : Nat) : DV :=
  DV.x (.int .i64 (List.getD M i (0 : Int)))
noncomputable def B7_q5 (L : List Int) (i : Nat) (x : Nat) : DV :=
  DV.x (.int .i64 (List.getD L i (0 : Int)))
noncomputable def B7 (W H T : Int) (mk : Nat) (ck : Nat → Nat → DV) (r : Bool) (S L M : List Int) (sk sx sy si z : Int) : Tree (Ex × AS) :=
  .ite (decide (z < (↑(List.length L) : Int)))
  (.need ((0 : Int) ≤ z ∧ z < (↑(List.length L) : Int))
   (.need (B7_q1 L z = false → (0 : Int) ≤ z ∧ z < (↑(List.length L) : Int))
   (.need (B7_q1 L z = false → okG W H T (24 : Int))
   (.need (B7_q2 W H T L z = false → (0 : Int) ≤ z ∧ z < (↑(List.length L) : Int))
   (.need (B7_q2 W H T L z = false → okG W H T (24 : Int))
   (.need (B7_q2 W H T L z = false → (0 : Int) ≤ List.getD L (Int.toNat z) (0 : Int) ∧ List.getD L (Int.toNat z) (0 : Int) < gN W H T (24 : Int))
   (.need (B7_q2 W H T L z = false → (↑(List.length S) : Int) = T ∧ IntRow (List.length S) (B7_q3 S))
   (.need (B7_q2 W H T L z = false → RowOK (List.length M) (B7_q4 M))
   (.ite (B7_q2 W H T L z || !hasB (List.length M) (B7_q4 M) (rnN W H T (24 : Int) (lsOf (List.length S) (B7_q3 S)) (List.getD L (Int.toNat z) (0 : Int))))
   (.ret
   (.ret,
   {
   tm :=
   [.unk, .unk, .unk, .unk, .unk, .unk, .ok (bv false), .ok (bv true), .ok (SV.ptr 1 0), .ok (SV.d (DV.ro (List.length S) 1 (B7_q3 S))), .unk,
   .ok (SV.d (DV.ro (List.length L) 1 (B7_q5 L))), .ok (SV.d (DV.ro (List.length M) 1 (B7_q4 M))), .ok (SV.ptr 14 0), .ok (iv z), .unk,
   .unk, .unk, .unk, .unk, .unk, .unk, .unk, .unk, .unk, .unk, .unk, .unk, .unk, .unk, .unk, .unk, .unk, .unk, .unk, .unk, .unk, .unk, .unk, .unk, .unk, .unk,
   .unk, .unk, .unk, .unk, .unk, .unk, .unk, .unk, .unk, .unk, .unk, .unk, .unk, .unk, .unk, .unk, .unk, .unk, .unk, .unk, .unk, .unk, .unk, .unk, .unk, .unk,
   .unk, .unk, .unk, .unk, .unk, .unk, .unk, .unk, .unk, .unk, .unk, .unk, .unk, .unk, .unk, .unk, .unk, .unk, .unk, .unk, .unk, .unk, .unk, .unk, .unk, .unk,
   .unk, .unk, .unk, .unk, .unk, .unk, .unk, .unk, .unk, .unk, .unk, .unk, .unk, .unk, .unk, .unk, .unk, .unk, .unk, .unk, .unk, .unk, .unk, .unk, .unk, .unk,
   .unk, .unk],
   hp :=
   [none, some (.cells [iv W, iv H, iv T, iv (24 : Int), SV.d (DV.ro mk 1 ck)]), none, none, none, none, none, none, none, none, none, none, none, none, some (.cells [iv sk, iv sx, iv sy, iv si]),
   none],
   next := 16, hint := .nil }))
   (.need ((0 : Int) ≤ z ∧ z < (↑(List.length L) : Int))
   (.need (okG W H T (24 : Int))
   (.need (i64B (List.getD L (Int.toNat z) (0 : Int)))
   (.ite
   ((sk == (4 : Int) || sk == (5 : Int)) && (gK W H T (24 : Int) (List.getD L (Int.toNat z) (0 : Int)) == (4 : Int) || gK W H T (24 : Int) (List.getD L (Int.toNat z) (0 : Int)) == (5 : Int)) &&
   si != gI W H T (24 : Int) (List.getD L (Int.toNat z) (0 : Int)))
   (.ret
   (.ret,
   {
   tm :=
   [.unk, .unk, .unk, .unk, .unk, .unk, .ok (bv false), .ok (bv true), .ok (SV.ptr 1 0), .ok (SV.d (DV.ro (List.length S) 1 (B7_q3 S))), .unk,
   .ok (SV.d (DV.ro (List.length L) 1 (B7_q5 L))), .ok (SV.d (DV.ro (List.length M) 1 (B7_q4 M))), .ok (SV.ptr 14 0), .ok (iv z),
   .unk, .unk, .unk, .unk, .unk, .unk, .unk, .unk, .unk, .unk, .unk, .unk, .unk, .unk, .unk, .unk, .unk, .unk, .unk, .unk, .unk, .unk, .unk, .unk, .unk,
   .unk, .unk, .unk, .unk, .unk, .unk, .unk, .unk, .unk, .unk, .unk, .unk, .unk, .unk, .unk, .unk, .unk, .unk, .unk, .unk, .unk, .unk, .unk, .unk, .unk,
   .unk, .unk, .unk, .unk, .unk, .unk, .unk, .unk, .unk, .unk, .unk, .unk, .unk, .unk, .unk, .unk, .unk, .unk, .unk, .unk, .unk, .unk, .unk, .unk, .unk,
   .unk, .unk, .unk, .unk, .unk, .unk, .unk, .unk, .unk, .unk, .unk, .unk, .unk, .unk, .unk, .unk, .unk, .unk, .unk, .unk, .unk, .unk, .unk, .unk, .unk,
   .unk, .unk, .unk, .unk, .unk, .unk, .unk],
   hp :=
   [none, some (.cells [iv W, iv H, iv T, iv (24 : Int), SV.d (DV.ro mk 1 ck)]), none, none, none, none, none, none, none, none, none, none, none, none,
   some (.cells [iv sk, iv sx, iv sy, iv si]), none],
   next := 16, hint := .nil }))
   (.ret
   (.normal,
   {
   tm :=
   [.unk, .unk, .unk, .unk, .unk, .unk, .ok (bv r), .ok (bv true), .ok (SV.ptr 1 0), .ok (SV.d (DV.ro (List.length S) 1 (B7_q3 S))), .unk,
   .ok (SV.d (DV.ro (List.length L) 1 (B7_q5 L))), .ok (SV.d (DV.ro (List.length M) 1 (B7_q4 M))), .ok (SV.ptr 14 0),
   .ok (iv (w64 (z + (1 : Int)))), .unk, .unk, .unk, .unk, .unk, .unk, .unk, .unk, .unk, .unk, .unk, .unk, .unk, .unk, .unk, .unk, .unk, .unk, .unk, .unk, .unk,
   .unk, .unk, .unk, .unk, .unk, .unk, .unk, .unk, .unk, .unk, .unk, .unk, .unk, .unk, .unk, .unk, .unk, .unk, .unk, .unk, .unk, .unk, .unk, .unk, .unk,
   .unk, .unk, .unk, .unk, .unk, .unk, .unk, .unk, .unk, .unk, .unk, .unk, .unk, .unk, .unk, .unk, .unk, .unk, .unk, .unk, .unk, .unk, .unk, .unk, .unk,
   .unk, .unk, .unk, .unk, .unk, .unk, .unk, .unk, .unk, .unk, .unk, .unk, .unk, .unk, .unk, .unk, .unk, .unk, .unk, .unk, .unk, .unk, .unk, .unk, .unk,
   .unk, .unk, .unk, .unk, .unk, .unk, .unk, .unk, .unk, .unk, .unk],
   hp :=
   [none, some (.cells [iv W, iv H, iv T, iv (24 : Int), SV.d (DV.ro mk 1 ck)]), none, none, none, none, none, none, none, none, none, none, none, none,
   some (.cells [iv sk, iv sx, iv sy, iv si]), none],
   next := 16, hint := .nil })))))))))))))))
  (.ret
   (.exit 0,
   {
   tm :=
   [.unk, .unk, .unk, .unk, .unk, .unk, .ok (bv r), .ok (bv true), .ok (SV.ptr 1 0), .ok (SV.d (DV.ro (List.length S) 1 (B7_q3 S))), .unk,
   .ok (SV.d (DV.ro (List.length L) 1 (B7_q5 L))), .ok (SV.d (DV.ro (List.length M) 1 (B7_q4 M))), .ok (SV.ptr 14 0), .ok (iv z), .unk, .unk, .unk, .unk,
   .unk, .unk, .unk, .unk, .unk, .unk, .unk, .unk, .unk, .unk, .unk, .unk, .unk, .unk, .unk, .unk, .unk, .unk, .unk, .unk, .unk, .unk, .unk, .unk, .unk, .unk, .unk, .unk,
   .unk, .unk, .unk, .unk, .unk, .unk, .unk, .unk, .unk, .unk, .unk, .unk, .unk, .unk, .unk, .unk, .unk, .unk, .unk, .unk, .unk, .unk, .unk, .unk, .unk, .unk, .unk, .unk,
   .unk, .unk, .unk, .unk, .unk, .unk, .unk, .unk, .unk, .unk, .unk, .unk, .unk, .unk, .unk, .unk, .unk, .unk, .unk, .unk, .unk, .unk, .unk, .unk, .unk, .unk, .unk, .unk,
   .unk, .unk, .unk, .unk, .unk, .unk, .unk, .unk, .unk, .unk, .unk, .unk, .unk, .unk, .unk, .unk, .unk, .unk, .unk],
   hp := [none, some (.cells [iv W, iv H, iv T, iv (24 : Int), SV.d (DV.ro mk 1 ck)]), none, none, none, none, none, none, none, none, none, none, none, none, some (.cells [iv sk, iv sx, iv sy, iv si]), none],
   next := 16, hint := .nil }))

theorem B7_eq (W H T : Int) (mk : Nat) (ck : Nat → Nat → DV) (r : Bool) (S L M : List Int) (sk sx sy si z : Int) : cutT 16 [] [6, 7, 8, 9, 11, 12, 13, 14] [0, 2, 3, 4, 5, 6, 7, 8, 9, 10, 11, 12, 13, 15] 16 .nil (exec Tryz.prog CN DN 200 bodyL7 (invL7 W H T mk ck r S L M sk sx sy si z)) = B7 W H T mk ck r S L M sk sx sy si z := by kernel_rfl

noncomputable def K7 (w h t p : Int) (m : Nat) (f : Nat → Nat → DV) (m2 : Nat) (f2 : Nat → Nat → DV) (k : Int) (W H T : Int) (mk : Nat) (ck : Nat → Nat → DV) (r : Bool) (S L M : List Int) (sk sx sy si z : Int) : Tree SV :=
  .ret (bv true)

theorem K7_eq (w h t p : Int) (m : Nat) (f : Nat → Nat → DV) (m2 : Nat) (f2 : Nat → Nat → DV) (k : Int) (W H T : Int) (mk : Nat) (ck : Nat → Nat → DV) (r : Bool) (S L M : List Int) (sk sx sy si z : Int) : codeK (sub [1, 0, 0, 0, 0, 0, 0, 0, 0, 0, 0, 0, 0, 0, 1] (tL7 w h t p m f m2 f2 k)) (.exit 0) (invL7 W H T mk ck r S L M sk sx sy si z) = K7 w h t p m f m2 f2 k W H T mk ck r S L M sk sx sy si z := by kernel_rfl


end Go.Proofs.YtgahnelicbddcaaGreatDoor

/- ChipTracks. -/
namespace Go.Proofs.YtgahnelicbddcaaGreatDoor
open Go.Sx
set_option maxRecDepth 100000
abbrev cellI (L : List Int) : Nat → Nat → DV := fun i _ => .x (.int .i64 (L.getD i 0))
theorem law7 {w h t p : Int} {m m2 : Nat} {f f2 : Nat → Nat → DV} {k : Int} (hr : RawOK w h t p m f) (hb2 : ByteRow m2 f2) (hk : 0 ≤ k ∧ k < 65536) : Sat Tryz.prog (tL7 w h t p m f m2 f2 k) (· = bv true) := by
  refine Sat.of_eq (L7T_eq w h t p m f m2 f2 k) ⟨?_⟩
  have hg := md_okG hr
  have q1 : L7T_q1 t m2 f2 = cellI (shL (anN 2 3 t) m2 f2) := rfl
  have ent : Gc 16 (ups (codeS (sub [1, 0, 0, 0, 0, 0, 0, 0, 0, 0, 0, 0, 0, 0, 1] (tL7 w h t p m f m2 f2 k))) 16) (invL7 (anN 2 4 w) (anN 2 4 h) (anN 2 3 t) (anK 2 4 w h m f).length (cellI (anK 2 4 w h m f)) false
      (shL (anN 2 3 t) m2 f2)
      (refN (anN 2 4 w) (anN 2 4 h) (anN 2 3 t) 24 (Int.tmod (w64 k) (gN (anN 2 4 w) (anN 2 4 h) (anN 2 3 t) 24)))
      (refN (anN 2 4 w) (anN 2 4 h) (anN 2 3 t) 24 (rnN (anN 2 4 w) (anN 2 4 h) (anN 2 3 t) 24 (lsOf (shL (anN 2 3 t) m2 f2).length (cellI (shL (anN 2 3 t) m2 f2))) (Int.tmod (w64 k) (gN (anN 2 4 w) (anN 2 4 h) (anN 2 3 t) 24))))
      (gK (anN 2 4 w) (anN 2 4 h) (anN 2 3 t) 24 (Int.tmod (w64 k) (gN (anN 2 4 w) (anN 2 4 h) (anN 2 3 t) 24)))
      (gX (anN 2 4 w) (anN 2 4 h) (anN 2 3 t) 24 (Int.tmod (w64 k) (gN (anN 2 4 w) (anN 2 4 h) (anN 2 3 t) 24)))
      (gY (anN 2 4 w) (anN 2 4 h) (anN 2 3 t) 24 (Int.tmod (w64 k) (gN (anN 2 4 w) (anN 2 4 h) (anN 2 3 t) 24)))
      (gI (anN 2 4 w) (anN 2 4 h) (anN 2 3 t) 24 (Int.tmod (w64 k) (gN (anN 2 4 w) (anN 2 4 h) (anN 2 3 t) 24))) 0) :=
    entA_sound (roots := []) (keep := [6, 7, 8, 9, 11, 12, 13, 14]) (drop := [0, 2, 3, 4, 5, 6, 7, 8, 9, 10, 11, 12, 13, 15]) (nx := 16) (h := .nil) (by kernel_rfl)
  unfold L7T
  have hS : TrOK (anN 2 3 t) (shL (anN 2 3 t) m2 f2) := shL_ok
  have hls : lsOf (shL (anN 2 3 t) m2 f2).length (cellI (shL (anN 2 3 t) m2 f2)) = shL (anN 2 3 t) m2 f2 := lsOf_cellL _
  rw [q1]
  rw [hls] at ent ⊢
  generalize (anK 2 4 w h m f).length = mk at *
  generalize cellI (anK 2 4 w h m f) = ck at *
  generalize shL (anN 2 3 t) m2 f2 = S at *
  generalize anN 2 4 w = W at *
  generalize anN 2 4 h = H at *
  generalize anN 2 3 t = T at *
  have hN := cnt_pos hg
  rw [w64_of (n := k) (by omega) (by omega)] at *
  have ha0 : 0 ≤ Int.tmod k (gN W H T 24) := Int.tmod_nonneg _ hk.1
  have ha1 : Int.tmod k (gN W H T 24) < gN W H T 24 := Int.tmod_lt_of_pos _ (by omega)
  generalize Int.tmod k (gN W H T 24) = a at *
  have hc : gN W H T 24 = ((gr W H T 24).cnt : Int) := rfl
  have hT := hg.2.2.1
  have hSl := hS.len
  have hST : (S.length : Int) = T := by omega
  have hSr : IntRow S.length (cellI S) := fun i hi => rfl
  have ran := rn_at hg hS ha0 (by omega)
  have len := rn_len hg hS ha0 (by omega)
  have lb := ref_len (n := rnN W H T 24 S a) hg
  have la := ref_len (n := a) hg
  have ia : i64B a := ⟨by omega, by omega⟩
  have ib : i64B (rnN W H T 24 S a) := ⟨by have := ran.r0; omega, by have := ran.r1; omega⟩
  have hf := (ndF hg ha0 (by omega)).ok
  have hk0 : (gK W H T 24 a == 0) = false := beq_eq_false_iff_ne.2 (by omega)
  have hcan : ∀ j : Nat, j < (refN W H T 24 a).length → (refN W H T 24 a).getD j 0 ∈ refN W H T 24 a := fun j hj => getD_mem hj
  have hl0 : (((refN W H T 24 a).length : Int) != ((refN W H T 24 (rnN W H T 24 S a)).length : Int)) = false := by rw [len]; simp
  rw [hl0, hk0]
  refine ⟨fun h => (by cases h), fun _ => ⟨hr, ⟨⟨by omega, by omega⟩, hb2⟩, hg, by omega, hg, ia, hg, ⟨ha0, ha1⟩, ⟨hST, hSr⟩, hg, ib, hg, ia, fun h => (by cases h), fun _ => ?_⟩⟩
  generalize hR : gX W H T 24 a = sx at ent
  generalize hR2 : gY W H T 24 a = sy at ent
  refine code_satS CN_ok DN_ok (n := 200) (n0 := 16) (nx := 16) (roots := []) (keep := [6, 7, 8, 9, 11, 12, 13, 14]) (drop := [0, 2, 3, 4, 5, 6, 7, 8, 9, 10, 11, 12, 13, 15]) (h := .nil) (body := bodyL7) (by kernel_rfl) (by kernel_rfl)
    (fun q s => ∃ j : Nat, q = (refN W H T 24 a).length - j ∧ j ≤ (refN W H T 24 a).length ∧ s = invL7 W H T mk ck false S (refN W H T 24 a) (refN W H T 24 (rnN W H T 24 S a)) (gK W H T 24 a) sx sy (gI W H T 24 a) j)
    (fun e s => e = .exit 0 ∧ ∃ j : Nat, s = invL7 W H T mk ck false S (refN W H T 24 a) (refN W H T 24 (rnN W H T 24 S a)) (gK W H T 24 a) sx sy (gI W H T 24 a) j)
    ⟨_, _, ⟨0, rfl, by omega, rfl⟩, ent⟩ ?_ ?_
  · rintro q s ⟨j, rfl, hj, rfl⟩
    refine Sat.of_eq (B7_eq W H T mk ck false S _ _ _ sx sy _ j) ?_
    constructor; unfold B7
    refine ⟨fun h1 => ?_, fun h1 => ?_⟩
    · simp only [decide_eq_true_eq] at h1
      have h1 : j < (refN W H T 24 a).length := by omega
      have hm := hcan j h1
      obtain ⟨_, ⟨c1, c2⟩, _⟩ := mem_refN.1 hm
      have q3 : B7_q3 S = cellI S := rfl
      have q4 : B7_q4 (refN W H T 24 (rnN W H T 24 S a)) = cellI (refN W H T 24 (rnN W H T 24 S a)) := rfl
      have hls : lsOf S.length (cellI S) = S := lsOf_cellL _
      have hmem := rn_mem hg hS hm
      have hv : hasB (refN W H T 24 (rnN W H T 24 S a)).length (cellI (refN W H T 24 (rnN W H T 24 S a))) (rnN W H T 24 S ((refN W H T 24 a).getD j 0)) = true := by
        rw [hasB_cell, decide_eq_true hmem]
      have q2 : B7_q2 W H T (refN W H T 24 a) (j : Int) = false := by
        unfold B7_q2 B7_q1
        simp only [Int.toNat_natCast, Bool.or_eq_false_iff, decide_eq_false_iff_not]
        exact ⟨by omega, by omega⟩
      rw [q3, q4, hls, Int.toNat_natCast, hv, q2]
      refine ⟨by omega, fun _ => by omega, fun _ => hg, fun _ => by omega, fun _ => hg, fun _ => ⟨by omega, by omega⟩, fun _ => ⟨hST, hSr⟩, fun _ => rowOK_cell (by omega), ⟨(fun h => by cases h), fun _ => ⟨by omega, hg, ⟨by omega, by omega⟩, fun h2 => ?_, fun _ => ?_⟩⟩⟩
      · exfalso
        simp only [Bool.and_eq_true, Bool.or_eq_true, beq_iff_eq, bne_iff_ne, ne_eq] at h2
        exact h2.2 (rn_own hm h2.1.1 h2.1.2)
      · rw [w64_of (n := (j : Int) + 1) (by omega) (by omega)]
        exact ⟨(refN W H T 24 a).length - (j + 1), _, by omega, ⟨j + 1, rfl, by omega, rfl⟩, Gc.refl _ _⟩
    · exact ⟨_, ⟨rfl, _, rfl⟩, Gc.refl _ _⟩
  · rintro e s ⟨rfl, j, rfl⟩
    exact Sat.of_eq (K7_eq w h t p m f m2 f2 k W H T mk ck false S _ _ _ sx sy _ j) ⟨rfl⟩
end Go.Proofs.YtgahnelicbddcaaGreatDoor

/- ChipTracks: the law's contract. -/
namespace Go.Proofs.YtgahnelicbddcaaGreatDoor
open Go.Sx
set_option maxRecDepth 100000
theorem chipTracks_ok : ∃ c : Ctr, CtrOK Tryz.prog 7 c ∧ ∀ ss, okArgs Tryz.prog 6 [24, 22, 25] ss → (c ss).ev (bv true) := by
  refine law_ctr CN_ok DN_ok (by kernel_rfl) (by kernel_rfl) fun ss h => ?_
  obtain ⟨d1, r1, rfl, k1, d2, r2, rfl, k2, d3, r3, rfl, k3, rfl⟩ := h
  obtain ⟨w, h, t, p, m, f, hr, e1⟩ := raw_arg k1
  obtain ⟨m2, f2, e2, hb⟩ := bytes_arg k2
  obtain ⟨k, hk, e3⟩ := u16_arg k3
  have e2' : svT Tryz.prog 22 d2 = .d (.ro m2 1 f2) := by rw [e2]; unfold svT; rw [u22]; rfl
  rw [e1, e2', e3]
  exact ⟨200, .nil, law7 hr hb hk⟩
end Go.Proofs.YtgahnelicbddcaaGreatDoor

namespace Go.Proofs.YtgahnelicbddcaaGreatDoor
open Go.Sx
set_option maxRecDepth 100000

/-! ### What the row's list of variables gives -/

def laid5 : List (String × DataW Unit) := [("math/bits.deBruijn32tab", Rows.laid_math_bits_deBruijn32tab), ("math/bits.deBruijn64tab", Rows.laid_math_bits_deBruijn64tab), ("internal/strconv.uint64pow10", Rows.laid_internal_strconv_uint64pow10), ("unicode/utf8.acceptRanges", Rows.laid_unicode_utf8_acceptRanges), ("strconv.ErrRange", Rows.laid_strconv_ErrRange), ("strconv.ErrSyntax", Rows.laid_strconv_ErrSyntax), ("unicode/utf8.first", Rows.laid_unicode_utf8_first)]
theorem glPow : Tryz.prog.globalNamed "internal/strconv.uint64pow10" = some 1 := by kernel_rfl
theorem glSyn : Tryz.prog.globalNamed "strconv.ErrSyntax" = some 2 := by kernel_rfl
theorem glRng : Tryz.prog.globalNamed "strconv.ErrRange" = some 3 := by kernel_rfl
theorem plain5 : (laid5.all fun x => x.2.handleName?.isNone) = true := by kernel_rfl
theorem var_obj {w : World} {name : String} {g : Nat} {cs : Array Value} (hg : Tryz.prog.globalNamed name = some g) (h : w.var? Tryz.prog name = some cs) : ∃ e fr, w.heap[g]? = some (.cells cs e fr) := by
  unfold World.var? at h
  rw [hg] at h
  simp only [Option.bind_some] at h
  split at h
  · rename_i c e fr heq
    simp only [Option.some.injEq] at h; subst h
    exact ⟨e, fr, heq⟩
  · cases h
theorem typePow : (Tryz.prog.globals[1]?).map (·.type) = some 168 := by kernel_rfl
theorem typeSyn : (Tryz.prog.globals[2]?).map (·.type) = some 82 := by kernel_rfl
theorem typeRng : (Tryz.prog.globals[3]?).map (·.type) = some 82 := by kernel_rfl
theorem star : "*" ++ "errors.errorString" = "*errors.errorString" := by decide
theorem rowErr (u : TypeId) (h : Tryz.prog.typeName? 3 u = some "*errors.errorString") : u = 187 :=
  typeName_ptr_named (nm := "errors.errorString") (by rw [star]; kernel_rfl) (by kernel_rfl) (by decide) u (by rw [star]; exact h)

theorem glob_of {W : World} (h : laidMetH Tryz.prog laid5 W) (hs : W.ShapedOpen Tryz.prog) : GlobOK W (fun b => b < W.heap.size) := by
  rw [MakeChecks.laidMetH_plain _ _ _ plain5] at h
  have h2 : laidMet Tryz.prog [("internal/strconv.uint64pow10", Lib.tabData .u64 Lib.pow10Tab), ("unicode/utf8.acceptRanges", Rows.laid_unicode_utf8_acceptRanges), ("strconv.ErrRange", Rows.laid_strconv_ErrRange), ("strconv.ErrSyntax", Rows.laid_strconv_ErrSyntax), ("unicode/utf8.first", Rows.laid_unicode_utf8_first)] W := h.tail.tail
  have ht := Lib.tabIs_of_head glPow typePow Tryz.underlying168 Tryz.underlying147 (by kernel_rfl) (by kernel_rfl) h2
  obtain ⟨a0, s0, hv0, -, -, -⟩ := laid_sentinel h2.tail.tail glRng typeRng Tryz.underlying82 rowErr Tryz.underlying187 Tryz.underlying189 rfl rfl Tryz.underlying9 (by kernel_rfl) (by kernel_rfl)
  obtain ⟨a1, s1, hv1, -, -, -⟩ := laid_sentinel h2.tail.tail.tail glSyn typeSyn Tryz.underlying82 rowErr Tryz.underlying187 Tryz.underlying189 rfl rfl Tryz.underlying9 (by kernel_rfl) (by kernel_rfl)
  obtain ⟨m, hm⟩ := cell_of_shapedOpen_int (g := 0) (t := 3) (zero := #[.int .i64 0]) (k := .i64) hs (of_decide_eq_true (by kernel_rfl)) (by kernel_rfl) rfl (by kernel_rfl) (by kernel_rfl) Tryz.underlying3
  have k1 : okTab Lib.pow10Tab W.heap[1]? := by
    obtain ⟨e, fr, hh⟩ := var_obj glPow ht
    exact ⟨e, fr, hh⟩
  have k2 : okErr W.heap[2]? := by
    obtain ⟨e, fr, hh⟩ := var_obj glSyn hv1
    exact ⟨_, e, fr, _, _, hh, rfl⟩
  have k3 : okErr W.heap[3]? := by
    obtain ⟨e, fr, hh⟩ := var_obj glRng hv0
    exact ⟨_, e, fr, _, _, hh, rfl⟩
  have k4 : okInt W.heap[0]? := cell_okInt hm
  have lt : ∀ {g : Nat} {o : Obj}, W.heap[g]? = some o → g < W.heap.size := fun hh => (Array.getElem?_eq_some_iff.1 hh).1
  refine ⟨fun g n cell hg => (by cases hg), fun g Q hg => ?_⟩
  match g, hg with
  | 1, hg => cases hg; exact ⟨by obtain ⟨e, fr, hh⟩ := k1; exact lt hh, k1⟩
  | 0, hg => cases hg; exact ⟨by obtain ⟨c, e, fr, m, hh, _⟩ := k4; exact lt hh, k4⟩
  | 2, hg => cases hg; exact ⟨by obtain ⟨c, e, fr, t, p, hh, _⟩ := k2; exact lt hh, k2⟩
  | 3, hg => cases hg; exact ⟨by obtain ⟨c, e, fr, t, p, hh, _⟩ := k3; exact lt hh, k3⟩

end Go.Proofs.YtgahnelicbddcaaGreatDoor

namespace Go.Proofs.YtgahnelicbddcaaGreatDoor
open Go.ChangeShapes Go.WideShapes Go.ChangeAt Go.RowKit Go.Sx

theorem own : ownKnob Tryz.prog.godebug = none := by kernel_rfl
theorem laidOut : laidOutB Tryz.prog = true := by kernel_rfl

set_option maxRecDepth 100000 in
theorem lifted (os : Os) (started : os.Started) (H : Type) (enc : TypeId × Value → H) :
    ReturnsInHanded {} Tryz.checked os 7 .any (fun w args => (Rows.chipTracksSpec.pre enc Tryz.prog Tryz.f7 Rows.chipTracksRow.domain false w args ∧ laidMetH Tryz.prog laid5 w) ∧ sizedMet enc Tryz.prog Tryz.f7 (OpenSpec.ofChange Rows.chipTracksSpec) false w args)
      (Rows.chipTracksSpec.post enc Tryz.prog Tryz.f7 false true false false) := by
  refine returnsInHanded_of_change_ands (C := Tryz.checked) (X := fun w _ => laidMetH Tryz.prog laid5 w) (fun _ _ _ hh h => h.of_heap hh) own started (by kernel_rfl) Tryz.func7
    (ChangeSpec.witness_shaped (enc := enc) (C := Tryz.checked) (os := os) (X := fun w _ => laidMetH Tryz.prog laid5 w) false (World.laidAll Tryz.prog os laid5) #[.agg #[.int .u8 0, .int .u8 0, .int .u8 0, .int .u8 0, .slice none 0 0], .slice none 0 0, .int .u16 0] 8 (World.laidAll_os _ _ _) (World.shaped_of_ZipB (by kernel_rfl) (by kernel_rfl)) (by kernel_rfl) (by kernel_rfl) (by kernel_rfl) (by rw [MakeChecks.laidMetH_plain _ _ _ (by kernel_rfl)]; exact laidMet_laidAll _ (by kernel_rfl) (by kernel_rfl))) ?_
  intro W base args ds gs before hval0 hW hcnd _ hL hsh _
  have hval : ∀ (j : Nat) t v, Tryz.f7.params[j]? = some t → args[j]? = some v → Value.okWide Tryz.prog W .any base t v := hval0
  have hW' := hW
  obtain ⟨p, q, hA0, hV, rfl, hfz, hnd⟩ := hW
  have hA : DataW.TrodAll enc Tryz.prog W 0 (fun _ => true) true Tryz.f7.params.toList args.toList ds p := hA0
  rw [Tryz.params7] at hA hval
  obtain ⟨rfl, rfl⟩ := trodVars_none hV
  obtain ⟨v0, vs0, d0, ds0, p0, q0, hargs, rfl, e0, h0, r0⟩ := trodAll_cons hA
  obtain ⟨v1, vs1, d1, ds1, p1, q1, e1_1, rfl, e2_1, h1, r1⟩ := trodAll_cons r0
  obtain ⟨v2, vs2, d2, ds2, p2, q2, e1_2, rfl, e2_2, h2, r2⟩ := trodAll_cons r1
  obtain ⟨e3, rfl, e4⟩ := trodAll_nil r2
  obtain ⟨c, hc, hev⟩ := chipTracks_ok
  have hlt := trodAll_lt hA
  obtain ⟨ss, o1, o2, o3⟩ := open_args (F := fun b => b < W.heap.size) (n := 6) (r := .any) (base := base) (by kernel_rfl) hA (fun j t v a b => hval j t v (by simpa using a) (by simpa using b)) (fun q hq => hlt q hq)
  refine (law_of hc (F := fun b => b < W.heap.size) (fun b hb => hb) (glob_of hL hsh) (ss := ss) ⟨by simpa using o2, fun i hi => by simpa [List.getD, Array.getD_eq_getD_getElem?] using o3 i hi⟩ (hev ss o1)).mono fun e W' ⟨he, bel⟩ => ?_
  subst he
  have hback := trodAll_below laidOut bel (by kernel_rfl) hA
  exact ⟨_, rfl, _, _, _, [], _, [], hW', trodAll_mk1 (shut_bool Tryz.underlying4 _), hback, rfl, bel.frame _, fun h => by cases h⟩

theorem over : Rows.chipTracksRow.holds Tryz.pinned (OpenSpec.ofChange Rows.chipTracksSpec) :=
  OpenClaim.holds_of_wide 7 Tryz.f7 rfl rfl rfl rfl rfl rfl rfl ⟨rfl, rfl, rfl, rfl, rfl⟩ rfl rfl rfl rfl rfl (by kernel_rfl) Tryz.func7 (by kernel_rfl)
    (of_decide_eq_true (by kernel_rfl)) (by unfold Func.isWrapper; first | (rw [if_pos (by decide +kernel)]; kernel_rfl) | (rw [if_neg (by decide +kernel)]; exact ⟨rfl, rfl⟩))
    (fun os started H enc _ => lifted os started H enc)

theorem chipTracks_holds : Rows.ChipTracksCardSaid :=
  Claim7.holds_tied_plain_at .later [] [.data, .data, .data, .data, .sentinel, .sentinel, .pinned] true (true, "852957a0fd3a95ff81f08367dbb2fe76ca4ada6cce9636746d3b1b7e667c6a4c") true
    over (fun _ h => by cases h) (by kernel_rfl) (fun _ h => by cases h) chipTracks_row_tie rfl ⟨rfl, rfl⟩ (by kernel_rfl) rfl
    (fun f fn hf hfn => by
      obtain rfl : f = 7 := Option.some.inj ((show Tryz.prog.funcNamed "wireloom/wireloomlaw28.ChipTracks" = some 7 by kernel_rfl).symm.trans hf) |>.symm
      obtain rfl : fn = Tryz.f7 := (Option.some.inj (Tryz.func7.symm.trans hfn)).symm
      exact ⟨by kernel_rfl, fun j t ht => by
        rw [Tryz.params7] at ht
        have hm : t ∈ [24, 22, 25] := by simpa using Array.mem_of_getElem? ht
        have hall : ([24, 22, 25].all fun u => !Tryz.prog.wantsStandIn u) = true := by kernel_rfl
        exact (show Tryz.prog.wantsStandIn t = false by simpa using List.all_eq_true.1 hall t hm)⟩)
    (by kernel_rfl)
#print axioms chipTracks_holds
end Go.Proofs.YtgahnelicbddcaaGreatDoor

