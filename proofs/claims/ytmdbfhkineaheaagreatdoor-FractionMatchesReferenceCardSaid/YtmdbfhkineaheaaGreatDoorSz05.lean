/- Part of a proof of the given statements of this seat (SxFzK): no conditions beyond those typed here. -/
import Derived.Test.YtmdbfhkineaheaaGreatDoorSz04
set_option linter.unusedVariables false
set_option linter.unusedSimpArgs false
set_option linter.unusedSectionVars false

namespace Go.Proofs.YtmdbfhkineaheaaGreatDoor
open Go.Sx
set_option maxRecDepth 100000

noncomputable def man4 : FuncId → Option Ctr := fun k => match k with
  | 34 => some cGcd
  | 35 => some cSize
  | 45 => some cBits
  | 42 => some cDivL
  | 44 => some cTimesL
  | 41 => some cProd
  | 40 => some cSum
  | 43 => some cFin
  | _ => none
theorem man4_ok (k : Nat) (c : Ctr) (h : man4 k = some c) : CtrOK Tryz.prog k c ∧ goodF Tryz.prog k = true := by
  unfold man4 at h
  split at h <;> first | (cases h; done) | (cases h)
  · exact ⟨cGcd_ok, by kernel_rfl⟩
  · exact ⟨cSize_ok, by kernel_rfl⟩
  · exact ⟨cBits_ok, by kernel_rfl⟩
  · exact ⟨cDivL_ok, by kernel_rfl⟩
  · exact ⟨cTimesL_ok, by kernel_rfl⟩
  · exact ⟨cProd_ok, by kernel_rfl⟩
  · exact ⟨cSum_ok, by kernel_rfl⟩
  · exact ⟨cFin_ok, by kernel_rfl⟩
noncomputable def C4 : Ctx := ctxN Tryz.prog man4 (fun _ => false) 200 .nil 6
theorem C4_ok : CtxOK Tryz.prog C4 := ctxN_ok mixed man4_ok 6
noncomputable def D4 : Dr := fun _ => drawn Tryz.prog C4
theorem D4_ok : DrOK Tryz.prog C4 D4 := drawn_ok C4_ok mixed
noncomputable def T4 (k : Nat) (args : List SV) : Tree SV := fnT Tryz.prog C4 D4 200 (fnOf Tryz.prog k) (bodyOf Tryz.prog k) args .nil

noncomputable def LAddR (a b c d : Int) : Tree SV :=
  .need ((0 : Int) ≤ b ∧ (0 : Int) ≤ d)
  (.need ((↑(Int.gcd b d) : Int) ≠ (0 : Int))
   (.need (((-9223372036854775807 : Int) ≤ a ∧ a ≤ (9223372036854775807 : Int)) ∧ (-9223372036854775807 : Int) ≤ w64 (Int.tdiv d (↑(Int.gcd b d) : Int)) ∧ w64 (Int.tdiv d (↑(Int.gcd b d) : Int)) ≤ (9223372036854775807 : Int))
   (.need ((↑(Int.gcd b d) : Int) ≠ (0 : Int))
   (.need (((-9223372036854775807 : Int) ≤ c ∧ c ≤ (9223372036854775807 : Int)) ∧ (-9223372036854775807 : Int) ≤ w64 (Int.tdiv b (↑(Int.gcd b d) : Int)) ∧ w64 (Int.tdiv b (↑(Int.gcd b d) : Int)) ≤ (9223372036854775807 : Int))
   (.need
   (blen (Int.natAbs a * Int.natAbs (w64 (Int.tdiv d (↑(Int.gcd b d) : Int)))) ≤ 500000 ∧
   blen (Int.natAbs c * Int.natAbs (w64 (Int.tdiv b (↑(Int.gcd b d) : Int)))) ≤ 500000 ∧
   (BitC (blen (Int.natAbs a * Int.natAbs (w64 (Int.tdiv d (↑(Int.gcd b d) : Int))))) fun i x =>
   DV.x (.int .i64 ((fun i => (↑(bitN (Int.natAbs a * Int.natAbs (w64 (Int.tdiv d (↑(Int.gcd b d) : Int)))) i) : Int)) i))) ∧
   BitC (blen (Int.natAbs c * Int.natAbs (w64 (Int.tdiv b (↑(Int.gcd b d) : Int))))) fun i x =>
   DV.x (.int .i64 ((fun i => (↑(bitN (Int.natAbs c * Int.natAbs (w64 (Int.tdiv b (↑(Int.gcd b d) : Int)))) i) : Int)) i)))
   (.ite
   ((↑(blen
   (sV (!decide (a < (0 : Int)) == decide (w64 (Int.tdiv d (↑(Int.gcd b d) : Int)) < (0 : Int)))
   (valN (fun i => (↑(bitN (Int.natAbs a * Int.natAbs (w64 (Int.tdiv d (↑(Int.gcd b d) : Int)))) i) : Int)) (blen (Int.natAbs a * Int.natAbs (w64 (Int.tdiv d (↑(Int.gcd b d) : Int))))))
   (!decide (c < (0 : Int)) == decide (w64 (Int.tdiv b (↑(Int.gcd b d) : Int)) < (0 : Int)))
   (valN (fun i => (↑(bitN (Int.natAbs c * Int.natAbs (w64 (Int.tdiv b (↑(Int.gcd b d) : Int)))) i) : Int)) (blen (Int.natAbs c * Int.natAbs (w64 (Int.tdiv b (↑(Int.gcd b d) : Int)))))))) :
   Int) ==
   (0 : Int))
   (.ret (SV.agg [iv (0 : Int), iv (1 : Int), iv (0 : Int)]))
   (.need
   (blen
   (sV (!decide (a < (0 : Int)) == decide (w64 (Int.tdiv d (↑(Int.gcd b d) : Int)) < (0 : Int)))
   (valN (fun i => (↑(bitN (Int.natAbs a * Int.natAbs (w64 (Int.tdiv d (↑(Int.gcd b d) : Int)))) i) : Int)) (blen (Int.natAbs a * Int.natAbs (w64 (Int.tdiv d (↑(Int.gcd b d) : Int))))))
   (!decide (c < (0 : Int)) == decide (w64 (Int.tdiv b (↑(Int.gcd b d) : Int)) < (0 : Int)))
   (valN (fun i => (↑(bitN (Int.natAbs c * Int.natAbs (w64 (Int.tdiv b (↑(Int.gcd b d) : Int)))) i) : Int)) (blen (Int.natAbs c * Int.natAbs (w64 (Int.tdiv b (↑(Int.gcd b d) : Int))))))) ≤
   1000000 ∧
   (BitC
   (blen
   (sV (!decide (a < (0 : Int)) == decide (w64 (Int.tdiv d (↑(Int.gcd b d) : Int)) < (0 : Int)))
   (valN (fun i => (↑(bitN (Int.natAbs a * Int.natAbs (w64 (Int.tdiv d (↑(Int.gcd b d) : Int)))) i) : Int)) (blen (Int.natAbs a * Int.natAbs (w64 (Int.tdiv d (↑(Int.gcd b d) : Int))))))
   (!decide (c < (0 : Int)) == decide (w64 (Int.tdiv b (↑(Int.gcd b d) : Int)) < (0 : Int)))
   (valN (fun i => (↑(bitN (Int.natAbs c * Int.natAbs (w64 (Int.tdiv b (↑(Int.gcd b d) : Int)))) i) : Int)) (blen (Int.natAbs c * Int.natAbs (w64 (Int.tdiv b (↑(Int.gcd b d) : Int))))))))
   fun i x =>
   DV.x
   (.int .i64
   ((fun i =>
   (↑(bitN
   (sV (!decide (a < (0 : Int)) == decide (w64 (Int.tdiv d (↑(Int.gcd b d) : Int)) < (0 : Int)))
   (valN (intCell fun i x => DV.x (.int .i64 ((fun i => (↑(bitN (Int.natAbs a * Int.natAbs (w64 (Int.tdiv d (↑(Int.gcd b d) : Int)))) i) : Int)) i)))
   (blen (Int.natAbs a * Int.natAbs (w64 (Int.tdiv d (↑(Int.gcd b d) : Int))))))
   (!decide (c < (0 : Int)) == decide (w64 (Int.tdiv b (↑(Int.gcd b d) : Int)) < (0 : Int)))
   (valN (intCell fun i x => DV.x (.int .i64 ((fun i => (↑(bitN (Int.natAbs c * Int.natAbs (w64 (Int.tdiv b (↑(Int.gcd b d) : Int)))) i) : Int)) i)))
   (blen (Int.natAbs c * Int.natAbs (w64 (Int.tdiv b (↑(Int.gcd b d) : Int)))))))
   i) :
   Int))
   i))) ∧
   (1 : Int) ≤ (↑(Int.gcd b d) : Int) ∧ (↑(Int.gcd b d) : Int) ≤ (4611686018427387904 : Int))
   (.need
   ((0 : Int) ≤
   (↑(valN
   (fun i =>
   (↑(bitN
   (sV (!decide (a < (0 : Int)) == decide (w64 (Int.tdiv d (↑(Int.gcd b d) : Int)) < (0 : Int)))
   (valN (fun i => (↑(bitN (Int.natAbs a * Int.natAbs (w64 (Int.tdiv d (↑(Int.gcd b d) : Int)))) i) : Int)) (blen (Int.natAbs a * Int.natAbs (w64 (Int.tdiv d (↑(Int.gcd b d) : Int))))))
   (!decide (c < (0 : Int)) == decide (w64 (Int.tdiv b (↑(Int.gcd b d) : Int)) < (0 : Int)))
   (valN (fun i => (↑(bitN (Int.natAbs c * Int.natAbs (w64 (Int.tdiv b (↑(Int.gcd b d) : Int)))) i) : Int)) (blen (Int.natAbs c * Int.natAbs (w64 (Int.tdiv b (↑(Int.gcd b d) : Int)))))))
   i) :
   Int))
   (blen
   (sV (!decide (a < (0 : Int)) == decide (w64 (Int.tdiv d (↑(Int.gcd b d) : Int)) < (0 : Int)))
   (valN (fun i => (↑(bitN (Int.natAbs a * Int.natAbs (w64 (Int.tdiv d (↑(Int.gcd b d) : Int)))) i) : Int)) (blen (Int.natAbs a * Int.natAbs (w64 (Int.tdiv d (↑(Int.gcd b d) : Int))))))
   (!decide (c < (0 : Int)) == decide (w64 (Int.tdiv b (↑(Int.gcd b d) : Int)) < (0 : Int)))
   (valN (fun i => (↑(bitN (Int.natAbs c * Int.natAbs (w64 (Int.tdiv b (↑(Int.gcd b d) : Int)))) i) : Int)) (blen (Int.natAbs c * Int.natAbs (w64 (Int.tdiv b (↑(Int.gcd b d) : Int)))))))) %
   Int.toNat (↑(Int.gcd b d) : Int)) :
   Int) ∧
   (0 : Int) ≤ (↑(Int.gcd b d) : Int))
   (.need
   (blen
   (sV (!decide (a < (0 : Int)) == decide (w64 (Int.tdiv d (↑(Int.gcd b d) : Int)) < (0 : Int)))
   (valN (fun i => (↑(bitN (Int.natAbs a * Int.natAbs (w64 (Int.tdiv d (↑(Int.gcd b d) : Int)))) i) : Int)) (blen (Int.natAbs a * Int.natAbs (w64 (Int.tdiv d (↑(Int.gcd b d) : Int))))))
   (!decide (c < (0 : Int)) == decide (w64 (Int.tdiv b (↑(Int.gcd b d) : Int)) < (0 : Int)))
   (valN (fun i => (↑(bitN (Int.natAbs c * Int.natAbs (w64 (Int.tdiv b (↑(Int.gcd b d) : Int)))) i) : Int)) (blen (Int.natAbs c * Int.natAbs (w64 (Int.tdiv b (↑(Int.gcd b d) : Int))))))) ≤
   1000000 ∧
   (BitC
   (blen
   (sV (!decide (a < (0 : Int)) == decide (w64 (Int.tdiv d (↑(Int.gcd b d) : Int)) < (0 : Int)))
   (valN (fun i => (↑(bitN (Int.natAbs a * Int.natAbs (w64 (Int.tdiv d (↑(Int.gcd b d) : Int)))) i) : Int)) (blen (Int.natAbs a * Int.natAbs (w64 (Int.tdiv d (↑(Int.gcd b d) : Int))))))
   (!decide (c < (0 : Int)) == decide (w64 (Int.tdiv b (↑(Int.gcd b d) : Int)) < (0 : Int)))
   (valN (fun i => (↑(bitN (Int.natAbs c * Int.natAbs (w64 (Int.tdiv b (↑(Int.gcd b d) : Int)))) i) : Int)) (blen (Int.natAbs c * Int.natAbs (w64 (Int.tdiv b (↑(Int.gcd b d) : Int))))))))
   fun i x =>
   DV.x
   (.int .i64
   ((fun i =>
   (↑(bitN
   (sV (!decide (a < (0 : Int)) == decide (w64 (Int.tdiv d (↑(Int.gcd b d) : Int)) < (0 : Int)))
   (valN (intCell fun i x => DV.x (.int .i64 ((fun i => (↑(bitN (Int.natAbs a * Int.natAbs (w64 (Int.tdiv d (↑(Int.gcd b d) : Int)))) i) : Int)) i)))
   (blen (Int.natAbs a * Int.natAbs (w64 (Int.tdiv d (↑(Int.gcd b d) : Int))))))
   (!decide (c < (0 : Int)) == decide (w64 (Int.tdiv b (↑(Int.gcd b d) : Int)) < (0 : Int)))
   (valN (intCell fun i x => DV.x (.int .i64 ((fun i => (↑(bitN (Int.natAbs c * Int.natAbs (w64 (Int.tdiv b (↑(Int.gcd b d) : Int)))) i) : Int)) i)))
   (blen (Int.natAbs c * Int.natAbs (w64 (Int.tdiv b (↑(Int.gcd b d) : Int)))))))
   i) :
   Int))
   i))) ∧
   (1 : Int) ≤
   (↑(Int.gcd
   (↑(valN
   (fun i =>
   (↑(bitN
   (sV (!decide (a < (0 : Int)) == decide (w64 (Int.tdiv d (↑(Int.gcd b d) : Int)) < (0 : Int)))
   (valN (fun i => (↑(bitN (Int.natAbs a * Int.natAbs (w64 (Int.tdiv d (↑(Int.gcd b d) : Int)))) i) : Int)) (blen (Int.natAbs a * Int.natAbs (w64 (Int.tdiv d (↑(Int.gcd b d) : Int))))))
   (!decide (c < (0 : Int)) == decide (w64 (Int.tdiv b (↑(Int.gcd b d) : Int)) < (0 : Int)))
   (valN (fun i => (↑(bitN (Int.natAbs c * Int.natAbs (w64 (Int.tdiv b (↑(Int.gcd b d) : Int)))) i) : Int)) (blen (Int.natAbs c * Int.natAbs (w64 (Int.tdiv b (↑(Int.gcd b d) : Int)))))))
   i) :
   Int))
   (blen
   (sV (!decide (a < (0 : Int)) == decide (w64 (Int.tdiv d (↑(Int.gcd b d) : Int)) < (0 : Int)))
   (valN (fun i => (↑(bitN (Int.natAbs a * Int.natAbs (w64 (Int.tdiv d (↑(Int.gcd b d) : Int)))) i) : Int)) (blen (Int.natAbs a * Int.natAbs (w64 (Int.tdiv d (↑(Int.gcd b d) : Int))))))
   (!decide (c < (0 : Int)) == decide (w64 (Int.tdiv b (↑(Int.gcd b d) : Int)) < (0 : Int)))
   (valN (fun i => (↑(bitN (Int.natAbs c * Int.natAbs (w64 (Int.tdiv b (↑(Int.gcd b d) : Int)))) i) : Int)) (blen (Int.natAbs c * Int.natAbs (w64 (Int.tdiv b (↑(Int.gcd b d) : Int)))))))) %
   Int.toNat (↑(Int.gcd b d) : Int)) :
   Int)
   (↑(Int.gcd b d) : Int)) :
   Int) ∧
   (↑(Int.gcd
   (↑(valN
   (fun i =>
   (↑(bitN
   (sV (!decide (a < (0 : Int)) == decide (w64 (Int.tdiv d (↑(Int.gcd b d) : Int)) < (0 : Int)))
   (valN (fun i => (↑(bitN (Int.natAbs a * Int.natAbs (w64 (Int.tdiv d (↑(Int.gcd b d) : Int)))) i) : Int)) (blen (Int.natAbs a * Int.natAbs (w64 (Int.tdiv d (↑(Int.gcd b d) : Int))))))
   (!decide (c < (0 : Int)) == decide (w64 (Int.tdiv b (↑(Int.gcd b d) : Int)) < (0 : Int)))
   (valN (fun i => (↑(bitN (Int.natAbs c * Int.natAbs (w64 (Int.tdiv b (↑(Int.gcd b d) : Int)))) i) : Int)) (blen (Int.natAbs c * Int.natAbs (w64 (Int.tdiv b (↑(Int.gcd b d) : Int)))))))
   i) :
   Int))
   (blen
   (sV (!decide (a < (0 : Int)) == decide (w64 (Int.tdiv d (↑(Int.gcd b d) : Int)) < (0 : Int)))
   (valN (fun i => (↑(bitN (Int.natAbs a * Int.natAbs (w64 (Int.tdiv d (↑(Int.gcd b d) : Int)))) i) : Int)) (blen (Int.natAbs a * Int.natAbs (w64 (Int.tdiv d (↑(Int.gcd b d) : Int))))))
   (!decide (c < (0 : Int)) == decide (w64 (Int.tdiv b (↑(Int.gcd b d) : Int)) < (0 : Int)))
   (valN (fun i => (↑(bitN (Int.natAbs c * Int.natAbs (w64 (Int.tdiv b (↑(Int.gcd b d) : Int)))) i) : Int)) (blen (Int.natAbs c * Int.natAbs (w64 (Int.tdiv b (↑(Int.gcd b d) : Int)))))))) %
   Int.toNat (↑(Int.gcd b d) : Int)) :
   Int)
   (↑(Int.gcd b d) : Int)) :
   Int) ≤
   (4611686018427387904 : Int))
   (.need ((↑(Int.gcd b d) : Int) ≠ (0 : Int))
   (.need ((0 : Int) ≤ w64 (Int.tdiv b (↑(Int.gcd b d) : Int)) ∧ w64 (Int.tdiv b (↑(Int.gcd b d) : Int)) ≤ (9223372036854775807 : Int))
   (.need
   ((↑(Int.gcd
   (↑(valN
   (fun i =>
   (↑(bitN
   (sV (!decide (a < (0 : Int)) == decide (w64 (Int.tdiv d (↑(Int.gcd b d) : Int)) < (0 : Int)))
   (valN (fun i => (↑(bitN (Int.natAbs a * Int.natAbs (w64 (Int.tdiv d (↑(Int.gcd b d) : Int)))) i) : Int)) (blen (Int.natAbs a * Int.natAbs (w64 (Int.tdiv d (↑(Int.gcd b d) : Int))))))
   (!decide (c < (0 : Int)) == decide (w64 (Int.tdiv b (↑(Int.gcd b d) : Int)) < (0 : Int)))
   (valN (fun i => (↑(bitN (Int.natAbs c * Int.natAbs (w64 (Int.tdiv b (↑(Int.gcd b d) : Int)))) i) : Int)) (blen (Int.natAbs c * Int.natAbs (w64 (Int.tdiv b (↑(Int.gcd b d) : Int)))))))
   i) :
   Int))
   (blen
   (sV (!decide (a < (0 : Int)) == decide (w64 (Int.tdiv d (↑(Int.gcd b d) : Int)) < (0 : Int)))
   (valN (fun i => (↑(bitN (Int.natAbs a * Int.natAbs (w64 (Int.tdiv d (↑(Int.gcd b d) : Int)))) i) : Int)) (blen (Int.natAbs a * Int.natAbs (w64 (Int.tdiv d (↑(Int.gcd b d) : Int))))))
   (!decide (c < (0 : Int)) == decide (w64 (Int.tdiv b (↑(Int.gcd b d) : Int)) < (0 : Int)))
   (valN (fun i => (↑(bitN (Int.natAbs c * Int.natAbs (w64 (Int.tdiv b (↑(Int.gcd b d) : Int)))) i) : Int)) (blen (Int.natAbs c * Int.natAbs (w64 (Int.tdiv b (↑(Int.gcd b d) : Int)))))))) %
   Int.toNat (↑(Int.gcd b d) : Int)) :
   Int)
   (↑(Int.gcd b d) : Int)) :
   Int) ≠
   (0 : Int))
   (.need
   ((0 : Int) ≤
   w64
   (Int.tdiv d
   (↑(Int.gcd
   (↑(valN
   (fun i =>
   (↑(bitN
   (sV (!decide (a < (0 : Int)) == decide (w64 (Int.tdiv d (↑(Int.gcd b d) : Int)) < (0 : Int)))
   (valN (fun i => (↑(bitN (Int.natAbs a * Int.natAbs (w64 (Int.tdiv d (↑(Int.gcd b d) : Int)))) i) : Int))
   (blen (Int.natAbs a * Int.natAbs (w64 (Int.tdiv d (↑(Int.gcd b d) : Int))))))
   (!decide (c < (0 : Int)) == decide (w64 (Int.tdiv b (↑(Int.gcd b d) : Int)) < (0 : Int)))
   (valN (fun i => (↑(bitN (Int.natAbs c * Int.natAbs (w64 (Int.tdiv b (↑(Int.gcd b d) : Int)))) i) : Int))
   (blen (Int.natAbs c * Int.natAbs (w64 (Int.tdiv b (↑(Int.gcd b d) : Int)))))))
   i) :
   Int))
   (blen
   (sV (!decide (a < (0 : Int)) == decide (w64 (Int.tdiv d (↑(Int.gcd b d) : Int)) < (0 : Int)))
   (valN (fun i => (↑(bitN (Int.natAbs a * Int.natAbs (w64 (Int.tdiv d (↑(Int.gcd b d) : Int)))) i) : Int)) (blen (Int.natAbs a * Int.natAbs (w64 (Int.tdiv d (↑(Int.gcd b d) : Int))))))
   (!decide (c < (0 : Int)) == decide (w64 (Int.tdiv b (↑(Int.gcd b d) : Int)) < (0 : Int)))
   (valN (fun i => (↑(bitN (Int.natAbs c * Int.natAbs (w64 (Int.tdiv b (↑(Int.gcd b d) : Int)))) i) : Int)) (blen (Int.natAbs c * Int.natAbs (w64 (Int.tdiv b (↑(Int.gcd b d) : Int)))))))) %
   Int.toNat (↑(Int.gcd b d) : Int)) :
   Int)
   (↑(Int.gcd b d) : Int)) :
   Int)) ∧
   w64
   (Int.tdiv d
   (↑(Int.gcd
   (↑(valN
   (fun i =>
   (↑(bitN
   (sV (!decide (a < (0 : Int)) == decide (w64 (Int.tdiv d (↑(Int.gcd b d) : Int)) < (0 : Int)))
   (valN (fun i => (↑(bitN (Int.natAbs a * Int.natAbs (w64 (Int.tdiv d (↑(Int.gcd b d) : Int)))) i) : Int))
   (blen (Int.natAbs a * Int.natAbs (w64 (Int.tdiv d (↑(Int.gcd b d) : Int))))))
   (!decide (c < (0 : Int)) == decide (w64 (Int.tdiv b (↑(Int.gcd b d) : Int)) < (0 : Int)))
   (valN (fun i => (↑(bitN (Int.natAbs c * Int.natAbs (w64 (Int.tdiv b (↑(Int.gcd b d) : Int)))) i) : Int))
   (blen (Int.natAbs c * Int.natAbs (w64 (Int.tdiv b (↑(Int.gcd b d) : Int)))))))
   i) :
   Int))
   (blen
   (sV (!decide (a < (0 : Int)) == decide (w64 (Int.tdiv d (↑(Int.gcd b d) : Int)) < (0 : Int)))
   (valN (fun i => (↑(bitN (Int.natAbs a * Int.natAbs (w64 (Int.tdiv d (↑(Int.gcd b d) : Int)))) i) : Int)) (blen (Int.natAbs a * Int.natAbs (w64 (Int.tdiv d (↑(Int.gcd b d) : Int))))))
   (!decide (c < (0 : Int)) == decide (w64 (Int.tdiv b (↑(Int.gcd b d) : Int)) < (0 : Int)))
   (valN (fun i => (↑(bitN (Int.natAbs c * Int.natAbs (w64 (Int.tdiv b (↑(Int.gcd b d) : Int)))) i) : Int)) (blen (Int.natAbs c * Int.natAbs (w64 (Int.tdiv b (↑(Int.gcd b d) : Int)))))))) %
   Int.toNat (↑(Int.gcd b d) : Int)) :
   Int)
   (↑(Int.gcd b d) : Int)) :
   Int)) ≤
   (9223372036854775807 : Int))
   (.need
   (blen (Int.toNat (w64 (Int.tdiv b (↑(Int.gcd b d) : Int)))) ≤ 1000 ∧
   blen
   (Int.toNat
   (w64
   (Int.tdiv d
   (↑(Int.gcd
   (↑(valN
   (fun i =>
   (↑(bitN
   (sV (!decide (a < (0 : Int)) == decide (w64 (Int.tdiv d (↑(Int.gcd b d) : Int)) < (0 : Int)))
   (valN (fun i => (↑(bitN (Int.natAbs a * Int.natAbs (w64 (Int.tdiv d (↑(Int.gcd b d) : Int)))) i) : Int))
   (blen (Int.natAbs a * Int.natAbs (w64 (Int.tdiv d (↑(Int.gcd b d) : Int))))))
   (!decide (c < (0 : Int)) == decide (w64 (Int.tdiv b (↑(Int.gcd b d) : Int)) < (0 : Int)))
   (valN (fun i => (↑(bitN (Int.natAbs c * Int.natAbs (w64 (Int.tdiv b (↑(Int.gcd b d) : Int)))) i) : Int))
   (blen (Int.natAbs c * Int.natAbs (w64 (Int.tdiv b (↑(Int.gcd b d) : Int)))))))
   i) :
   Int))
   (blen
   (sV (!decide (a < (0 : Int)) == decide (w64 (Int.tdiv d (↑(Int.gcd b d) : Int)) < (0 : Int)))
   (valN (fun i => (↑(bitN (Int.natAbs a * Int.natAbs (w64 (Int.tdiv d (↑(Int.gcd b d) : Int)))) i) : Int))
   (blen (Int.natAbs a * Int.natAbs (w64 (Int.tdiv d (↑(Int.gcd b d) : Int))))))
   (!decide (c < (0 : Int)) == decide (w64 (Int.tdiv b (↑(Int.gcd b d) : Int)) < (0 : Int)))
   (valN (fun i => (↑(bitN (Int.natAbs c * Int.natAbs (w64 (Int.tdiv b (↑(Int.gcd b d) : Int)))) i) : Int))
   (blen (Int.natAbs c * Int.natAbs (w64 (Int.tdiv b (↑(Int.gcd b d) : Int)))))))) %
   Int.toNat (↑(Int.gcd b d) : Int)) :
   Int)
   (↑(Int.gcd b d) : Int)) :
   Int)))) ≤
   1000 ∧
   (BitC (blen (Int.toNat (w64 (Int.tdiv b (↑(Int.gcd b d) : Int))))) fun i x => DV.x (.int .i64 ((fun i => (↑(bitN (Int.toNat (w64 (Int.tdiv b (↑(Int.gcd b d) : Int)))) i) : Int)) i))) ∧
   BitC
   (blen
   (Int.toNat
   (w64
   (Int.tdiv d
   (↑(Int.gcd
   (↑(valN
   (fun i =>
   (↑(bitN
   (sV (!decide (a < (0 : Int)) == decide (w64 (Int.tdiv d (↑(Int.gcd b d) : Int)) < (0 : Int)))
   (valN (fun i => (↑(bitN (Int.natAbs a * Int.natAbs (w64 (Int.tdiv d (↑(Int.gcd b d) : Int)))) i) : Int))
   (blen (Int.natAbs a * Int.natAbs (w64 (Int.tdiv d (↑(Int.gcd b d) : Int))))))
   (!decide (c < (0 : Int)) == decide (w64 (Int.tdiv b (↑(Int.gcd b d) : Int)) < (0 : Int)))
   (valN (fun i => (↑(bitN (Int.natAbs c * Int.natAbs (w64 (Int.tdiv b (↑(Int.gcd b d) : Int)))) i) : Int))
   (blen (Int.natAbs c * Int.natAbs (w64 (Int.tdiv b (↑(Int.gcd b d) : Int)))))))
   i) :
   Int))
   (blen
   (sV (!decide (a < (0 : Int)) == decide (w64 (Int.tdiv d (↑(Int.gcd b d) : Int)) < (0 : Int)))
   (valN (fun i => (↑(bitN (Int.natAbs a * Int.natAbs (w64 (Int.tdiv d (↑(Int.gcd b d) : Int)))) i) : Int))
   (blen (Int.natAbs a * Int.natAbs (w64 (Int.tdiv d (↑(Int.gcd b d) : Int))))))
   (!decide (c < (0 : Int)) == decide (w64 (Int.tdiv b (↑(Int.gcd b d) : Int)) < (0 : Int)))
   (valN (fun i => (↑(bitN (Int.natAbs c * Int.natAbs (w64 (Int.tdiv b (↑(Int.gcd b d) : Int)))) i) : Int))
   (blen (Int.natAbs c * Int.natAbs (w64 (Int.tdiv b (↑(Int.gcd b d) : Int)))))))) %
   Int.toNat (↑(Int.gcd b d) : Int)) :
   Int)
   (↑(Int.gcd b d) : Int)) :
   Int)))))
   fun i x =>
   DV.x
   (.int .i64
   ((fun i =>
   (↑(bitN
   (Int.toNat
   (w64
   (Int.tdiv d
   (↑(Int.gcd
   (↑(valN
   (intCell fun i x =>
   DV.x
   (.int .i64
   ((fun i =>
   (↑(bitN
   (sV (!decide (a < (0 : Int)) == decide (w64 (Int.tdiv d (↑(Int.gcd b d) : Int)) < (0 : Int)))
   (valN
   (intCell fun i x =>
   DV.x (.int .i64 ((fun i => (↑(bitN (Int.natAbs a * Int.natAbs (w64 (Int.tdiv d (↑(Int.gcd b d) : Int)))) i) : Int)) i)))
   (blen (Int.natAbs a * Int.natAbs (w64 (Int.tdiv d (↑(Int.gcd b d) : Int))))))
   (!decide (c < (0 : Int)) == decide (w64 (Int.tdiv b (↑(Int.gcd b d) : Int)) < (0 : Int)))
   (valN
   (intCell fun i x =>
   DV.x (.int .i64 ((fun i => (↑(bitN (Int.natAbs c * Int.natAbs (w64 (Int.tdiv b (↑(Int.gcd b d) : Int)))) i) : Int)) i)))
   (blen (Int.natAbs c * Int.natAbs (w64 (Int.tdiv b (↑(Int.gcd b d) : Int)))))))
   i) :
   Int))
   i)))
   (blen
   (sV (!decide (a < (0 : Int)) == decide (w64 (Int.tdiv d (↑(Int.gcd b d) : Int)) < (0 : Int)))
   (valN (intCell fun i x => DV.x (.int .i64 ((fun i => (↑(bitN (Int.natAbs a * Int.natAbs (w64 (Int.tdiv d (↑(Int.gcd b d) : Int)))) i) : Int)) i)))
   (blen (Int.natAbs a * Int.natAbs (w64 (Int.tdiv d (↑(Int.gcd b d) : Int))))))
   (!decide (c < (0 : Int)) == decide (w64 (Int.tdiv b (↑(Int.gcd b d) : Int)) < (0 : Int)))
   (valN (intCell fun i x => DV.x (.int .i64 ((fun i => (↑(bitN (Int.natAbs c * Int.natAbs (w64 (Int.tdiv b (↑(Int.gcd b d) : Int)))) i) : Int)) i)))
   (blen (Int.natAbs c * Int.natAbs (w64 (Int.tdiv b (↑(Int.gcd b d) : Int)))))))) %
   Int.toNat (↑(Int.gcd b d) : Int)) :
   Int)
   (↑(Int.gcd b d) : Int)) :
   Int))))
   i) :
   Int))
   i)))
   (.need
   (blen
   (valN
   (fun i =>
   (↑(bitN
   (sV (!decide (a < (0 : Int)) == decide (w64 (Int.tdiv d (↑(Int.gcd b d) : Int)) < (0 : Int)))
   (valN (fun i => (↑(bitN (Int.natAbs a * Int.natAbs (w64 (Int.tdiv d (↑(Int.gcd b d) : Int)))) i) : Int)) (blen (Int.natAbs a * Int.natAbs (w64 (Int.tdiv d (↑(Int.gcd b d) : Int))))))
   (!decide (c < (0 : Int)) == decide (w64 (Int.tdiv b (↑(Int.gcd b d) : Int)) < (0 : Int)))
   (valN (fun i => (↑(bitN (Int.natAbs c * Int.natAbs (w64 (Int.tdiv b (↑(Int.gcd b d) : Int)))) i) : Int)) (blen (Int.natAbs c * Int.natAbs (w64 (Int.tdiv b (↑(Int.gcd b d) : Int)))))))
   i) :
   Int))
   (blen
   (sV (!decide (a < (0 : Int)) == decide (w64 (Int.tdiv d (↑(Int.gcd b d) : Int)) < (0 : Int)))
   (valN (fun i => (↑(bitN (Int.natAbs a * Int.natAbs (w64 (Int.tdiv d (↑(Int.gcd b d) : Int)))) i) : Int)) (blen (Int.natAbs a * Int.natAbs (w64 (Int.tdiv d (↑(Int.gcd b d) : Int))))))
   (!decide (c < (0 : Int)) == decide (w64 (Int.tdiv b (↑(Int.gcd b d) : Int)) < (0 : Int)))
   (valN (fun i => (↑(bitN (Int.natAbs c * Int.natAbs (w64 (Int.tdiv b (↑(Int.gcd b d) : Int)))) i) : Int)) (blen (Int.natAbs c * Int.natAbs (w64 (Int.tdiv b (↑(Int.gcd b d) : Int)))))))) /
   Int.toNat
   (↑(Int.gcd
   (↑(valN
   (fun i =>
   (↑(bitN
   (sV (!decide (a < (0 : Int)) == decide (w64 (Int.tdiv d (↑(Int.gcd b d) : Int)) < (0 : Int)))
   (valN (fun i => (↑(bitN (Int.natAbs a * Int.natAbs (w64 (Int.tdiv d (↑(Int.gcd b d) : Int)))) i) : Int))
   (blen (Int.natAbs a * Int.natAbs (w64 (Int.tdiv d (↑(Int.gcd b d) : Int))))))
   (!decide (c < (0 : Int)) == decide (w64 (Int.tdiv b (↑(Int.gcd b d) : Int)) < (0 : Int)))
   (valN (fun i => (↑(bitN (Int.natAbs c * Int.natAbs (w64 (Int.tdiv b (↑(Int.gcd b d) : Int)))) i) : Int))
   (blen (Int.natAbs c * Int.natAbs (w64 (Int.tdiv b (↑(Int.gcd b d) : Int)))))))
   i) :
   Int))
   (blen
   (sV (!decide (a < (0 : Int)) == decide (w64 (Int.tdiv d (↑(Int.gcd b d) : Int)) < (0 : Int)))
   (valN (fun i => (↑(bitN (Int.natAbs a * Int.natAbs (w64 (Int.tdiv d (↑(Int.gcd b d) : Int)))) i) : Int))
   (blen (Int.natAbs a * Int.natAbs (w64 (Int.tdiv d (↑(Int.gcd b d) : Int))))))
   (!decide (c < (0 : Int)) == decide (w64 (Int.tdiv b (↑(Int.gcd b d) : Int)) < (0 : Int)))
   (valN (fun i => (↑(bitN (Int.natAbs c * Int.natAbs (w64 (Int.tdiv b (↑(Int.gcd b d) : Int)))) i) : Int))
   (blen (Int.natAbs c * Int.natAbs (w64 (Int.tdiv b (↑(Int.gcd b d) : Int)))))))) %
   Int.toNat (↑(Int.gcd b d) : Int)) :
   Int)
   (↑(Int.gcd b d) : Int)) :
   Int)) ≤
   500000 ∧
   blen
   (valN (fun i => (↑(bitN (Int.toNat (w64 (Int.tdiv b (↑(Int.gcd b d) : Int)))) i) : Int)) (blen (Int.toNat (w64 (Int.tdiv b (↑(Int.gcd b d) : Int))))) *
   valN
   (fun i =>
   (↑(bitN
   (Int.toNat
   (w64
   (Int.tdiv d
   (↑(Int.gcd
   (↑(valN
   (fun i =>
   (↑(bitN
   (sV (!decide (a < (0 : Int)) == decide (w64 (Int.tdiv d (↑(Int.gcd b d) : Int)) < (0 : Int)))
   (valN (fun i => (↑(bitN (Int.natAbs a * Int.natAbs (w64 (Int.tdiv d (↑(Int.gcd b d) : Int)))) i) : Int))
   (blen (Int.natAbs a * Int.natAbs (w64 (Int.tdiv d (↑(Int.gcd b d) : Int))))))
   (!decide (c < (0 : Int)) == decide (w64 (Int.tdiv b (↑(Int.gcd b d) : Int)) < (0 : Int)))
   (valN (fun i => (↑(bitN (Int.natAbs c * Int.natAbs (w64 (Int.tdiv b (↑(Int.gcd b d) : Int)))) i) : Int))
   (blen (Int.natAbs c * Int.natAbs (w64 (Int.tdiv b (↑(Int.gcd b d) : Int)))))))
   i) :
   Int))
   (blen
   (sV (!decide (a < (0 : Int)) == decide (w64 (Int.tdiv d (↑(Int.gcd b d) : Int)) < (0 : Int)))
   (valN (fun i => (↑(bitN (Int.natAbs a * Int.natAbs (w64 (Int.tdiv d (↑(Int.gcd b d) : Int)))) i) : Int))
   (blen (Int.natAbs a * Int.natAbs (w64 (Int.tdiv d (↑(Int.gcd b d) : Int))))))
   (!decide (c < (0 : Int)) == decide (w64 (Int.tdiv b (↑(Int.gcd b d) : Int)) < (0 : Int)))
   (valN (fun i => (↑(bitN (Int.natAbs c * Int.natAbs (w64 (Int.tdiv b (↑(Int.gcd b d) : Int)))) i) : Int))
   (blen (Int.natAbs c * Int.natAbs (w64 (Int.tdiv b (↑(Int.gcd b d) : Int)))))))) %
   Int.toNat (↑(Int.gcd b d) : Int)) :
   Int)
   (↑(Int.gcd b d) : Int)) :
   Int))))
   i) :
   Int))
   (blen
   (Int.toNat
   (w64
   (Int.tdiv d
   (↑(Int.gcd
   (↑(valN
   (fun i =>
   (↑(bitN
   (sV (!decide (a < (0 : Int)) == decide (w64 (Int.tdiv d (↑(Int.gcd b d) : Int)) < (0 : Int)))
   (valN (fun i => (↑(bitN (Int.natAbs a * Int.natAbs (w64 (Int.tdiv d (↑(Int.gcd b d) : Int)))) i) : Int))
   (blen (Int.natAbs a * Int.natAbs (w64 (Int.tdiv d (↑(Int.gcd b d) : Int))))))
   (!decide (c < (0 : Int)) == decide (w64 (Int.tdiv b (↑(Int.gcd b d) : Int)) < (0 : Int)))
   (valN (fun i => (↑(bitN (Int.natAbs c * Int.natAbs (w64 (Int.tdiv b (↑(Int.gcd b d) : Int)))) i) : Int))
   (blen (Int.natAbs c * Int.natAbs (w64 (Int.tdiv b (↑(Int.gcd b d) : Int)))))))
   i) :
   Int))
   (blen
   (sV (!decide (a < (0 : Int)) == decide (w64 (Int.tdiv d (↑(Int.gcd b d) : Int)) < (0 : Int)))
   (valN (fun i => (↑(bitN (Int.natAbs a * Int.natAbs (w64 (Int.tdiv d (↑(Int.gcd b d) : Int)))) i) : Int))
   (blen (Int.natAbs a * Int.natAbs (w64 (Int.tdiv d (↑(Int.gcd b d) : Int))))))
   (!decide (c < (0 : Int)) == decide (w64 (Int.tdiv b (↑(Int.gcd b d) : Int)) < (0 : Int)))
   (valN (fun i => (↑(bitN (Int.natAbs c * Int.natAbs (w64 (Int.tdiv b (↑(Int.gcd b d) : Int)))) i) : Int))
   (blen (Int.natAbs c * Int.natAbs (w64 (Int.tdiv b (↑(Int.gcd b d) : Int)))))))) %
   Int.toNat (↑(Int.gcd b d) : Int)) :
   Int)
   (↑(Int.gcd b d) : Int)) :
   Int)))))) ≤
   500000 ∧
   (BitC
   (blen
   (valN
   (fun i =>
   (↑(bitN
   (sV (!decide (a < (0 : Int)) == decide (w64 (Int.tdiv d (↑(Int.gcd b d) : Int)) < (0 : Int)))
   (valN (fun i => (↑(bitN (Int.natAbs a * Int.natAbs (w64 (Int.tdiv d (↑(Int.gcd b d) : Int)))) i) : Int)) (blen (Int.natAbs a * Int.natAbs (w64 (Int.tdiv d (↑(Int.gcd b d) : Int))))))
   (!decide (c < (0 : Int)) == decide (w64 (Int.tdiv b (↑(Int.gcd b d) : Int)) < (0 : Int)))
   (valN (fun i => (↑(bitN (Int.natAbs c * Int.natAbs (w64 (Int.tdiv b (↑(Int.gcd b d) : Int)))) i) : Int)) (blen (Int.natAbs c * Int.natAbs (w64 (Int.tdiv b (↑(Int.gcd b d) : Int)))))))
   i) :
   Int))
   (blen
   (sV (!decide (a < (0 : Int)) == decide (w64 (Int.tdiv d (↑(Int.gcd b d) : Int)) < (0 : Int)))
   (valN (fun i => (↑(bitN (Int.natAbs a * Int.natAbs (w64 (Int.tdiv d (↑(Int.gcd b d) : Int)))) i) : Int)) (blen (Int.natAbs a * Int.natAbs (w64 (Int.tdiv d (↑(Int.gcd b d) : Int))))))
   (!decide (c < (0 : Int)) == decide (w64 (Int.tdiv b (↑(Int.gcd b d) : Int)) < (0 : Int)))
   (valN (fun i => (↑(bitN (Int.natAbs c * Int.natAbs (w64 (Int.tdiv b (↑(Int.gcd b d) : Int)))) i) : Int)) (blen (Int.natAbs c * Int.natAbs (w64 (Int.tdiv b (↑(Int.gcd b d) : Int)))))))) /
   Int.toNat
   (↑(Int.gcd
   (↑(valN
   (fun i =>
   (↑(bitN
   (sV (!decide (a < (0 : Int)) == decide (w64 (Int.tdiv d (↑(Int.gcd b d) : Int)) < (0 : Int)))
   (valN (fun i => (↑(bitN (Int.natAbs a * Int.natAbs (w64 (Int.tdiv d (↑(Int.gcd b d) : Int)))) i) : Int))
   (blen (Int.natAbs a * Int.natAbs (w64 (Int.tdiv d (↑(Int.gcd b d) : Int))))))
   (!decide (c < (0 : Int)) == decide (w64 (Int.tdiv b (↑(Int.gcd b d) : Int)) < (0 : Int)))
   (valN (fun i => (↑(bitN (Int.natAbs c * Int.natAbs (w64 (Int.tdiv b (↑(Int.gcd b d) : Int)))) i) : Int))
   (blen (Int.natAbs c * Int.natAbs (w64 (Int.tdiv b (↑(Int.gcd b d) : Int)))))))
   i) :
   Int))
   (blen
   (sV (!decide (a < (0 : Int)) == decide (w64 (Int.tdiv d (↑(Int.gcd b d) : Int)) < (0 : Int)))
   (valN (fun i => (↑(bitN (Int.natAbs a * Int.natAbs (w64 (Int.tdiv d (↑(Int.gcd b d) : Int)))) i) : Int))
   (blen (Int.natAbs a * Int.natAbs (w64 (Int.tdiv d (↑(Int.gcd b d) : Int))))))
   (!decide (c < (0 : Int)) == decide (w64 (Int.tdiv b (↑(Int.gcd b d) : Int)) < (0 : Int)))
   (valN (fun i => (↑(bitN (Int.natAbs c * Int.natAbs (w64 (Int.tdiv b (↑(Int.gcd b d) : Int)))) i) : Int))
   (blen (Int.natAbs c * Int.natAbs (w64 (Int.tdiv b (↑(Int.gcd b d) : Int)))))))) %
   Int.toNat (↑(Int.gcd b d) : Int)) :
   Int)
   (↑(Int.gcd b d) : Int)) :
   Int)))
   fun i x =>
   DV.x
   (.int .i64
   ((fun i =>
   (↑(bitN
   (valN
   (intCell fun i x =>
   DV.x
   (.int .i64
   ((fun i =>
   (↑(bitN
   (sV (!decide (a < (0 : Int)) == decide (w64 (Int.tdiv d (↑(Int.gcd b d) : Int)) < (0 : Int)))
   (valN (intCell fun i x => DV.x (.int .i64 ((fun i => (↑(bitN (Int.natAbs a * Int.natAbs (w64 (Int.tdiv d (↑(Int.gcd b d) : Int)))) i) : Int)) i)))
   (blen (Int.natAbs a * Int.natAbs (w64 (Int.tdiv d (↑(Int.gcd b d) : Int))))))
   (!decide (c < (0 : Int)) == decide (w64 (Int.tdiv b (↑(Int.gcd b d) : Int)) < (0 : Int)))
   (valN (intCell fun i x => DV.x (.int .i64 ((fun i => (↑(bitN (Int.natAbs c * Int.natAbs (w64 (Int.tdiv b (↑(Int.gcd b d) : Int)))) i) : Int)) i)))
   (blen (Int.natAbs c * Int.natAbs (w64 (Int.tdiv b (↑(Int.gcd b d) : Int)))))))
   i) :
   Int))
   i)))
   (blen
   (sV (!decide (a < (0 : Int)) == decide (w64 (Int.tdiv d (↑(Int.gcd b d) : Int)) < (0 : Int)))
   (valN (intCell fun i x => DV.x (.int .i64 ((fun i => (↑(bitN (Int.natAbs a * Int.natAbs (w64 (Int.tdiv d (↑(Int.gcd b d) : Int)))) i) : Int)) i)))
   (blen (Int.natAbs a * Int.natAbs (w64 (Int.tdiv d (↑(Int.gcd b d) : Int))))))
   (!decide (c < (0 : Int)) == decide (w64 (Int.tdiv b (↑(Int.gcd b d) : Int)) < (0 : Int)))
   (valN (intCell fun i x => DV.x (.int .i64 ((fun i => (↑(bitN (Int.natAbs c * Int.natAbs (w64 (Int.tdiv b (↑(Int.gcd b d) : Int)))) i) : Int)) i)))
   (blen (Int.natAbs c * Int.natAbs (w64 (Int.tdiv b (↑(Int.gcd b d) : Int)))))))) /
   Int.toNat
   (↑(Int.gcd
   (↑(valN
   (intCell fun i x =>
   DV.x
   (.int .i64
   ((fun i =>
   (↑(bitN
   (sV (!decide (a < (0 : Int)) == decide (w64 (Int.tdiv d (↑(Int.gcd b d) : Int)) < (0 : Int)))
   (valN
   (intCell fun i x =>
   DV.x (.int .i64 ((fun i => (↑(bitN (Int.natAbs a * Int.natAbs (w64 (Int.tdiv d (↑(Int.gcd b d) : Int)))) i) : Int)) i)))
   (blen (Int.natAbs a * Int.natAbs (w64 (Int.tdiv d (↑(Int.gcd b d) : Int))))))
   (!decide (c < (0 : Int)) == decide (w64 (Int.tdiv b (↑(Int.gcd b d) : Int)) < (0 : Int)))
   (valN
   (intCell fun i x =>
   DV.x (.int .i64 ((fun i => (↑(bitN (Int.natAbs c * Int.natAbs (w64 (Int.tdiv b (↑(Int.gcd b d) : Int)))) i) : Int)) i)))
   (blen (Int.natAbs c * Int.natAbs (w64 (Int.tdiv b (↑(Int.gcd b d) : Int)))))))
   i) :
   Int))
   i)))
   (blen
   (sV (!decide (a < (0 : Int)) == decide (w64 (Int.tdiv d (↑(Int.gcd b d) : Int)) < (0 : Int)))
   (valN (intCell fun i x => DV.x (.int .i64 ((fun i => (↑(bitN (Int.natAbs a * Int.natAbs (w64 (Int.tdiv d (↑(Int.gcd b d) : Int)))) i) : Int)) i)))
   (blen (Int.natAbs a * Int.natAbs (w64 (Int.tdiv d (↑(Int.gcd b d) : Int))))))
   (!decide (c < (0 : Int)) == decide (w64 (Int.tdiv b (↑(Int.gcd b d) : Int)) < (0 : Int)))
   (valN (intCell fun i x => DV.x (.int .i64 ((fun i => (↑(bitN (Int.natAbs c * Int.natAbs (w64 (Int.tdiv b (↑(Int.gcd b d) : Int)))) i) : Int)) i)))
   (blen (Int.natAbs c * Int.natAbs (w64 (Int.tdiv b (↑(Int.gcd b d) : Int)))))))) %
   Int.toNat (↑(Int.gcd b d) : Int)) :
   Int)
   (↑(Int.gcd b d) : Int)) :
   Int))
   i) :
   Int))
   i))) ∧
   BitC
   (blen
   (valN (fun i => (↑(bitN (Int.toNat (w64 (Int.tdiv b (↑(Int.gcd b d) : Int)))) i) : Int)) (blen (Int.toNat (w64 (Int.tdiv b (↑(Int.gcd b d) : Int))))) *
   valN
   (fun i =>
   (↑(bitN
   (Int.toNat
   (w64
   (Int.tdiv d
   (↑(Int.gcd
   (↑(valN
   (fun i =>
   (↑(bitN
   (sV (!decide (a < (0 : Int)) == decide (w64 (Int.tdiv d (↑(Int.gcd b d) : Int)) < (0 : Int)))
   (valN (fun i => (↑(bitN (Int.natAbs a * Int.natAbs (w64 (Int.tdiv d (↑(Int.gcd b d) : Int)))) i) : Int))
   (blen (Int.natAbs a * Int.natAbs (w64 (Int.tdiv d (↑(Int.gcd b d) : Int))))))
   (!decide (c < (0 : Int)) == decide (w64 (Int.tdiv b (↑(Int.gcd b d) : Int)) < (0 : Int)))
   (valN (fun i => (↑(bitN (Int.natAbs c * Int.natAbs (w64 (Int.tdiv b (↑(Int.gcd b d) : Int)))) i) : Int))
   (blen (Int.natAbs c * Int.natAbs (w64 (Int.tdiv b (↑(Int.gcd b d) : Int)))))))
   i) :
   Int))
   (blen
   (sV (!decide (a < (0 : Int)) == decide (w64 (Int.tdiv d (↑(Int.gcd b d) : Int)) < (0 : Int)))
   (valN (fun i => (↑(bitN (Int.natAbs a * Int.natAbs (w64 (Int.tdiv d (↑(Int.gcd b d) : Int)))) i) : Int))
   (blen (Int.natAbs a * Int.natAbs (w64 (Int.tdiv d (↑(Int.gcd b d) : Int))))))
   (!decide (c < (0 : Int)) == decide (w64 (Int.tdiv b (↑(Int.gcd b d) : Int)) < (0 : Int)))
   (valN (fun i => (↑(bitN (Int.natAbs c * Int.natAbs (w64 (Int.tdiv b (↑(Int.gcd b d) : Int)))) i) : Int))
   (blen (Int.natAbs c * Int.natAbs (w64 (Int.tdiv b (↑(Int.gcd b d) : Int)))))))) %
   Int.toNat (↑(Int.gcd b d) : Int)) :
   Int)
   (↑(Int.gcd b d) : Int)) :
   Int))))
   i) :
   Int))
   (blen
   (Int.toNat
   (w64
   (Int.tdiv d
   (↑(Int.gcd
   (↑(valN
   (fun i =>
   (↑(bitN
   (sV (!decide (a < (0 : Int)) == decide (w64 (Int.tdiv d (↑(Int.gcd b d) : Int)) < (0 : Int)))
   (valN (fun i => (↑(bitN (Int.natAbs a * Int.natAbs (w64 (Int.tdiv d (↑(Int.gcd b d) : Int)))) i) : Int))
   (blen (Int.natAbs a * Int.natAbs (w64 (Int.tdiv d (↑(Int.gcd b d) : Int))))))
   (!decide (c < (0 : Int)) == decide (w64 (Int.tdiv b (↑(Int.gcd b d) : Int)) < (0 : Int)))
   (valN (fun i => (↑(bitN (Int.natAbs c * Int.natAbs (w64 (Int.tdiv b (↑(Int.gcd b d) : Int)))) i) : Int))
   (blen (Int.natAbs c * Int.natAbs (w64 (Int.tdiv b (↑(Int.gcd b d) : Int)))))))
   i) :
   Int))
   (blen
   (sV (!decide (a < (0 : Int)) == decide (w64 (Int.tdiv d (↑(Int.gcd b d) : Int)) < (0 : Int)))
   (valN (fun i => (↑(bitN (Int.natAbs a * Int.natAbs (w64 (Int.tdiv d (↑(Int.gcd b d) : Int)))) i) : Int))
   (blen (Int.natAbs a * Int.natAbs (w64 (Int.tdiv d (↑(Int.gcd b d) : Int))))))
   (!decide (c < (0 : Int)) == decide (w64 (Int.tdiv b (↑(Int.gcd b d) : Int)) < (0 : Int)))
   (valN (fun i => (↑(bitN (Int.natAbs c * Int.natAbs (w64 (Int.tdiv b (↑(Int.gcd b d) : Int)))) i) : Int))
   (blen (Int.natAbs c * Int.natAbs (w64 (Int.tdiv b (↑(Int.gcd b d) : Int)))))))) %
   Int.toNat (↑(Int.gcd b d) : Int)) :
   Int)
   (↑(Int.gcd b d) : Int)) :
   Int)))))))
   fun i x =>
   DV.x
   (.int .i64
   ((fun i =>
   (↑(bitN
   (valN (intCell fun i x => DV.x (.int .i64 ((fun i => (↑(bitN (Int.toNat (w64 (Int.tdiv b (↑(Int.gcd b d) : Int)))) i) : Int)) i)))
   (blen (Int.toNat (w64 (Int.tdiv b (↑(Int.gcd b d) : Int))))) *
   valN
   (intCell fun i x =>
   DV.x
   (.int .i64
   ((fun i =>
   (↑(bitN
   (Int.toNat
   (w64
   (Int.tdiv d
   (↑(Int.gcd
   (↑(valN
   (intCell fun i x =>
   DV.x
   (.int .i64
   ((fun i =>
   (↑(bitN
   (sV (!decide (a < (0 : Int)) == decide (w64 (Int.tdiv d (↑(Int.gcd b d) : Int)) < (0 : Int)))
   (valN
   (intCell fun i x =>
   DV.x
   (.int .i64
   ((fun i => (↑(bitN (Int.natAbs a * Int.natAbs (w64 (Int.tdiv d (↑(Int.gcd b d) : Int)))) i) : Int)) i)))
   (blen (Int.natAbs a * Int.natAbs (w64 (Int.tdiv d (↑(Int.gcd b d) : Int))))))
   (!decide (c < (0 : Int)) == decide (w64 (Int.tdiv b (↑(Int.gcd b d) : Int)) < (0 : Int)))
   (valN
   (intCell fun i x =>
   DV.x
   (.int .i64
   ((fun i => (↑(bitN (Int.natAbs c * Int.natAbs (w64 (Int.tdiv b (↑(Int.gcd b d) : Int)))) i) : Int)) i)))
   (blen (Int.natAbs c * Int.natAbs (w64 (Int.tdiv b (↑(Int.gcd b d) : Int)))))))
   i) :
   Int))
   i)))
   (blen
   (sV (!decide (a < (0 : Int)) == decide (w64 (Int.tdiv d (↑(Int.gcd b d) : Int)) < (0 : Int)))
   (valN
   (intCell fun i x =>
   DV.x (.int .i64 ((fun i => (↑(bitN (Int.natAbs a * Int.natAbs (w64 (Int.tdiv d (↑(Int.gcd b d) : Int)))) i) : Int)) i)))
   (blen (Int.natAbs a * Int.natAbs (w64 (Int.tdiv d (↑(Int.gcd b d) : Int))))))
   (!decide (c < (0 : Int)) == decide (w64 (Int.tdiv b (↑(Int.gcd b d) : Int)) < (0 : Int)))
   (valN
   (intCell fun i x =>
   DV.x (.int .i64 ((fun i => (↑(bitN (Int.natAbs c * Int.natAbs (w64 (Int.tdiv b (↑(Int.gcd b d) : Int)))) i) : Int)) i)))
   (blen (Int.natAbs c * Int.natAbs (w64 (Int.tdiv b (↑(Int.gcd b d) : Int)))))))) %
   Int.toNat (↑(Int.gcd b d) : Int)) :
   Int)
   (↑(Int.gcd b d) : Int)) :
   Int))))
   i) :
   Int))
   i)))
   (blen
   (Int.toNat
   (w64
   (Int.tdiv d
   (↑(Int.gcd
   (↑(valN
   (intCell fun i x =>
   DV.x
   (.int .i64
   ((fun i =>
   (↑(bitN
   (sV (!decide (a < (0 : Int)) == decide (w64 (Int.tdiv d (↑(Int.gcd b d) : Int)) < (0 : Int)))
   (valN
   (intCell fun i x =>
   DV.x (.int .i64 ((fun i => (↑(bitN (Int.natAbs a * Int.natAbs (w64 (Int.tdiv d (↑(Int.gcd b d) : Int)))) i) : Int)) i)))
   (blen (Int.natAbs a * Int.natAbs (w64 (Int.tdiv d (↑(Int.gcd b d) : Int))))))
   (!decide (c < (0 : Int)) == decide (w64 (Int.tdiv b (↑(Int.gcd b d) : Int)) < (0 : Int)))
   (valN
   (intCell fun i x =>
   DV.x (.int .i64 ((fun i => (↑(bitN (Int.natAbs c * Int.natAbs (w64 (Int.tdiv b (↑(Int.gcd b d) : Int)))) i) : Int)) i)))
   (blen (Int.natAbs c * Int.natAbs (w64 (Int.tdiv b (↑(Int.gcd b d) : Int)))))))
   i) :
   Int))
   i)))
   (blen
   (sV (!decide (a < (0 : Int)) == decide (w64 (Int.tdiv d (↑(Int.gcd b d) : Int)) < (0 : Int)))
   (valN
   (intCell fun i x => DV.x (.int .i64 ((fun i => (↑(bitN (Int.natAbs a * Int.natAbs (w64 (Int.tdiv d (↑(Int.gcd b d) : Int)))) i) : Int)) i)))
   (blen (Int.natAbs a * Int.natAbs (w64 (Int.tdiv d (↑(Int.gcd b d) : Int))))))
   (!decide (c < (0 : Int)) == decide (w64 (Int.tdiv b (↑(Int.gcd b d) : Int)) < (0 : Int)))
   (valN
   (intCell fun i x => DV.x (.int .i64 ((fun i => (↑(bitN (Int.natAbs c * Int.natAbs (w64 (Int.tdiv b (↑(Int.gcd b d) : Int)))) i) : Int)) i)))
   (blen (Int.natAbs c * Int.natAbs (w64 (Int.tdiv b (↑(Int.gcd b d) : Int)))))))) %
   Int.toNat (↑(Int.gcd b d) : Int)) :
   Int)
   (↑(Int.gcd b d) : Int)) :
   Int))))))
   i) :
   Int))
   i)))
   (.ret
   (SV.agg
   [iv
   (finN
   (sN (!decide (a < (0 : Int)) == decide (w64 (Int.tdiv d (↑(Int.gcd b d) : Int)) < (0 : Int)))
   (valN (fun i => (↑(bitN (Int.natAbs a * Int.natAbs (w64 (Int.tdiv d (↑(Int.gcd b d) : Int)))) i) : Int)) (blen (Int.natAbs a * Int.natAbs (w64 (Int.tdiv d (↑(Int.gcd b d) : Int))))))
   (!decide (c < (0 : Int)) == decide (w64 (Int.tdiv b (↑(Int.gcd b d) : Int)) < (0 : Int)))
   (valN (fun i => (↑(bitN (Int.natAbs c * Int.natAbs (w64 (Int.tdiv b (↑(Int.gcd b d) : Int)))) i) : Int)) (blen (Int.natAbs c * Int.natAbs (w64 (Int.tdiv b (↑(Int.gcd b d) : Int)))))))
   (valN
   (fun i =>
   (↑(bitN
   (valN
   (fun i =>
   (↑(bitN
   (sV (!decide (a < (0 : Int)) == decide (w64 (Int.tdiv d (↑(Int.gcd b d) : Int)) < (0 : Int)))
   (valN (fun i => (↑(bitN (Int.natAbs a * Int.natAbs (w64 (Int.tdiv d (↑(Int.gcd b d) : Int)))) i) : Int))
   (blen (Int.natAbs a * Int.natAbs (w64 (Int.tdiv d (↑(Int.gcd b d) : Int))))))
   (!decide (c < (0 : Int)) == decide (w64 (Int.tdiv b (↑(Int.gcd b d) : Int)) < (0 : Int)))
   (valN (fun i => (↑(bitN (Int.natAbs c * Int.natAbs (w64 (Int.tdiv b (↑(Int.gcd b d) : Int)))) i) : Int))
   (blen (Int.natAbs c * Int.natAbs (w64 (Int.tdiv b (↑(Int.gcd b d) : Int)))))))
   i) :
   Int))
   (blen
   (sV (!decide (a < (0 : Int)) == decide (w64 (Int.tdiv d (↑(Int.gcd b d) : Int)) < (0 : Int)))
   (valN (fun i => (↑(bitN (Int.natAbs a * Int.natAbs (w64 (Int.tdiv d (↑(Int.gcd b d) : Int)))) i) : Int))
   (blen (Int.natAbs a * Int.natAbs (w64 (Int.tdiv d (↑(Int.gcd b d) : Int))))))
   (!decide (c < (0 : Int)) == decide (w64 (Int.tdiv b (↑(Int.gcd b d) : Int)) < (0 : Int)))
   (valN (fun i => (↑(bitN (Int.natAbs c * Int.natAbs (w64 (Int.tdiv b (↑(Int.gcd b d) : Int)))) i) : Int))
   (blen (Int.natAbs c * Int.natAbs (w64 (Int.tdiv b (↑(Int.gcd b d) : Int)))))))) /
   Int.toNat
   (↑(Int.gcd
   (↑(valN
   (fun i =>
   (↑(bitN
   (sV (!decide (a < (0 : Int)) == decide (w64 (Int.tdiv d (↑(Int.gcd b d) : Int)) < (0 : Int)))
   (valN (fun i => (↑(bitN (Int.natAbs a * Int.natAbs (w64 (Int.tdiv d (↑(Int.gcd b d) : Int)))) i) : Int))
   (blen (Int.natAbs a * Int.natAbs (w64 (Int.tdiv d (↑(Int.gcd b d) : Int))))))
   (!decide (c < (0 : Int)) == decide (w64 (Int.tdiv b (↑(Int.gcd b d) : Int)) < (0 : Int)))
   (valN (fun i => (↑(bitN (Int.natAbs c * Int.natAbs (w64 (Int.tdiv b (↑(Int.gcd b d) : Int)))) i) : Int))
   (blen (Int.natAbs c * Int.natAbs (w64 (Int.tdiv b (↑(Int.gcd b d) : Int)))))))
   i) :
   Int))
   (blen
   (sV (!decide (a < (0 : Int)) == decide (w64 (Int.tdiv d (↑(Int.gcd b d) : Int)) < (0 : Int)))
   (valN (fun i => (↑(bitN (Int.natAbs a * Int.natAbs (w64 (Int.tdiv d (↑(Int.gcd b d) : Int)))) i) : Int))
   (blen (Int.natAbs a * Int.natAbs (w64 (Int.tdiv d (↑(Int.gcd b d) : Int))))))
   (!decide (c < (0 : Int)) == decide (w64 (Int.tdiv b (↑(Int.gcd b d) : Int)) < (0 : Int)))
   (valN (fun i => (↑(bitN (Int.natAbs c * Int.natAbs (w64 (Int.tdiv b (↑(Int.gcd b d) : Int)))) i) : Int))
   (blen (Int.natAbs c * Int.natAbs (w64 (Int.tdiv b (↑(Int.gcd b d) : Int)))))))) %
   Int.toNat (↑(Int.gcd b d) : Int)) :
   Int)
   (↑(Int.gcd b d) : Int)) :
   Int))
   i) :
   Int))
   (blen
   (valN
   (fun i =>
   (↑(bitN
   (sV (!decide (a < (0 : Int)) == decide (w64 (Int.tdiv d (↑(Int.gcd b d) : Int)) < (0 : Int)))
   (valN (fun i => (↑(bitN (Int.natAbs a * Int.natAbs (w64 (Int.tdiv d (↑(Int.gcd b d) : Int)))) i) : Int))
   (blen (Int.natAbs a * Int.natAbs (w64 (Int.tdiv d (↑(Int.gcd b d) : Int))))))
   (!decide (c < (0 : Int)) == decide (w64 (Int.tdiv b (↑(Int.gcd b d) : Int)) < (0 : Int)))
   (valN (fun i => (↑(bitN (Int.natAbs c * Int.natAbs (w64 (Int.tdiv b (↑(Int.gcd b d) : Int)))) i) : Int))
   (blen (Int.natAbs c * Int.natAbs (w64 (Int.tdiv b (↑(Int.gcd b d) : Int)))))))
   i) :
   Int))
   (blen
   (sV (!decide (a < (0 : Int)) == decide (w64 (Int.tdiv d (↑(Int.gcd b d) : Int)) < (0 : Int)))
   (valN (fun i => (↑(bitN (Int.natAbs a * Int.natAbs (w64 (Int.tdiv d (↑(Int.gcd b d) : Int)))) i) : Int)) (blen (Int.natAbs a * Int.natAbs (w64 (Int.tdiv d (↑(Int.gcd b d) : Int))))))
   (!decide (c < (0 : Int)) == decide (w64 (Int.tdiv b (↑(Int.gcd b d) : Int)) < (0 : Int)))
   (valN (fun i => (↑(bitN (Int.natAbs c * Int.natAbs (w64 (Int.tdiv b (↑(Int.gcd b d) : Int)))) i) : Int)) (blen (Int.natAbs c * Int.natAbs (w64 (Int.tdiv b (↑(Int.gcd b d) : Int)))))))) /
   Int.toNat
   (↑(Int.gcd
   (↑(valN
   (fun i =>
   (↑(bitN
   (sV (!decide (a < (0 : Int)) == decide (w64 (Int.tdiv d (↑(Int.gcd b d) : Int)) < (0 : Int)))
   (valN (fun i => (↑(bitN (Int.natAbs a * Int.natAbs (w64 (Int.tdiv d (↑(Int.gcd b d) : Int)))) i) : Int))
   (blen (Int.natAbs a * Int.natAbs (w64 (Int.tdiv d (↑(Int.gcd b d) : Int))))))
   (!decide (c < (0 : Int)) == decide (w64 (Int.tdiv b (↑(Int.gcd b d) : Int)) < (0 : Int)))
   (valN (fun i => (↑(bitN (Int.natAbs c * Int.natAbs (w64 (Int.tdiv b (↑(Int.gcd b d) : Int)))) i) : Int))
   (blen (Int.natAbs c * Int.natAbs (w64 (Int.tdiv b (↑(Int.gcd b d) : Int)))))))
   i) :
   Int))
   (blen
   (sV (!decide (a < (0 : Int)) == decide (w64 (Int.tdiv d (↑(Int.gcd b d) : Int)) < (0 : Int)))
   (valN (fun i => (↑(bitN (Int.natAbs a * Int.natAbs (w64 (Int.tdiv d (↑(Int.gcd b d) : Int)))) i) : Int))
   (blen (Int.natAbs a * Int.natAbs (w64 (Int.tdiv d (↑(Int.gcd b d) : Int))))))
   (!decide (c < (0 : Int)) == decide (w64 (Int.tdiv b (↑(Int.gcd b d) : Int)) < (0 : Int)))
   (valN (fun i => (↑(bitN (Int.natAbs c * Int.natAbs (w64 (Int.tdiv b (↑(Int.gcd b d) : Int)))) i) : Int))
   (blen (Int.natAbs c * Int.natAbs (w64 (Int.tdiv b (↑(Int.gcd b d) : Int)))))))) %
   Int.toNat (↑(Int.gcd b d) : Int)) :
   Int)
   (↑(Int.gcd b d) : Int)) :
   Int))))
   (valN
   (fun i =>
   (↑(bitN
   (valN (fun i => (↑(bitN (Int.toNat (w64 (Int.tdiv b (↑(Int.gcd b d) : Int)))) i) : Int)) (blen (Int.toNat (w64 (Int.tdiv b (↑(Int.gcd b d) : Int))))) *
   valN
   (fun i =>
   (↑(bitN
   (Int.toNat
   (w64
   (Int.tdiv d
   (↑(Int.gcd
   (↑(valN
   (fun i =>
   (↑(bitN
   (sV (!decide (a < (0 : Int)) == decide (w64 (Int.tdiv d (↑(Int.gcd b d) : Int)) < (0 : Int)))
   (valN (fun i => (↑(bitN (Int.natAbs a * Int.natAbs (w64 (Int.tdiv d (↑(Int.gcd b d) : Int)))) i) : Int))
   (blen (Int.natAbs a * Int.natAbs (w64 (Int.tdiv d (↑(Int.gcd b d) : Int))))))
   (!decide (c < (0 : Int)) == decide (w64 (Int.tdiv b (↑(Int.gcd b d) : Int)) < (0 : Int)))
   (valN (fun i => (↑(bitN (Int.natAbs c * Int.natAbs (w64 (Int.tdiv b (↑(Int.gcd b d) : Int)))) i) : Int))
   (blen (Int.natAbs c * Int.natAbs (w64 (Int.tdiv b (↑(Int.gcd b d) : Int)))))))
   i) :
   Int))
   (blen
   (sV (!decide (a < (0 : Int)) == decide (w64 (Int.tdiv d (↑(Int.gcd b d) : Int)) < (0 : Int)))
   (valN (fun i => (↑(bitN (Int.natAbs a * Int.natAbs (w64 (Int.tdiv d (↑(Int.gcd b d) : Int)))) i) : Int))
   (blen (Int.natAbs a * Int.natAbs (w64 (Int.tdiv d (↑(Int.gcd b d) : Int))))))
   (!decide (c < (0 : Int)) == decide (w64 (Int.tdiv b (↑(Int.gcd b d) : Int)) < (0 : Int)))
   (valN (fun i => (↑(bitN (Int.natAbs c * Int.natAbs (w64 (Int.tdiv b (↑(Int.gcd b d) : Int)))) i) : Int))
   (blen (Int.natAbs c * Int.natAbs (w64 (Int.tdiv b (↑(Int.gcd b d) : Int)))))))) %
   Int.toNat (↑(Int.gcd b d) : Int)) :
   Int)
   (↑(Int.gcd b d) : Int)) :
   Int))))
   i) :
   Int))
   (blen
   (Int.toNat
   (w64
   (Int.tdiv d
   (↑(Int.gcd
   (↑(valN
   (fun i =>
   (↑(bitN
   (sV (!decide (a < (0 : Int)) == decide (w64 (Int.tdiv d (↑(Int.gcd b d) : Int)) < (0 : Int)))
   (valN (fun i => (↑(bitN (Int.natAbs a * Int.natAbs (w64 (Int.tdiv d (↑(Int.gcd b d) : Int)))) i) : Int))
   (blen (Int.natAbs a * Int.natAbs (w64 (Int.tdiv d (↑(Int.gcd b d) : Int))))))
   (!decide (c < (0 : Int)) == decide (w64 (Int.tdiv b (↑(Int.gcd b d) : Int)) < (0 : Int)))
   (valN (fun i => (↑(bitN (Int.natAbs c * Int.natAbs (w64 (Int.tdiv b (↑(Int.gcd b d) : Int)))) i) : Int))
   (blen (Int.natAbs c * Int.natAbs (w64 (Int.tdiv b (↑(Int.gcd b d) : Int)))))))
   i) :
   Int))
   (blen
   (sV (!decide (a < (0 : Int)) == decide (w64 (Int.tdiv d (↑(Int.gcd b d) : Int)) < (0 : Int)))
   (valN (fun i => (↑(bitN (Int.natAbs a * Int.natAbs (w64 (Int.tdiv d (↑(Int.gcd b d) : Int)))) i) : Int))
   (blen (Int.natAbs a * Int.natAbs (w64 (Int.tdiv d (↑(Int.gcd b d) : Int))))))
   (!decide (c < (0 : Int)) == decide (w64 (Int.tdiv b (↑(Int.gcd b d) : Int)) < (0 : Int)))
   (valN (fun i => (↑(bitN (Int.natAbs c * Int.natAbs (w64 (Int.tdiv b (↑(Int.gcd b d) : Int)))) i) : Int))
   (blen (Int.natAbs c * Int.natAbs (w64 (Int.tdiv b (↑(Int.gcd b d) : Int)))))))) %
   Int.toNat (↑(Int.gcd b d) : Int)) :
   Int)
   (↑(Int.gcd b d) : Int)) :
   Int))))))
   i) :
   Int))
   (blen
   (valN (fun i => (↑(bitN (Int.toNat (w64 (Int.tdiv b (↑(Int.gcd b d) : Int)))) i) : Int)) (blen (Int.toNat (w64 (Int.tdiv b (↑(Int.gcd b d) : Int))))) *
   valN
   (fun i =>
   (↑(bitN
   (Int.toNat
   (w64
   (Int.tdiv d
   (↑(Int.gcd
   (↑(valN
   (fun i =>
   (↑(bitN
   (sV (!decide (a < (0 : Int)) == decide (w64 (Int.tdiv d (↑(Int.gcd b d) : Int)) < (0 : Int)))
   (valN (fun i => (↑(bitN (Int.natAbs a * Int.natAbs (w64 (Int.tdiv d (↑(Int.gcd b d) : Int)))) i) : Int))
   (blen (Int.natAbs a * Int.natAbs (w64 (Int.tdiv d (↑(Int.gcd b d) : Int))))))
   (!decide (c < (0 : Int)) == decide (w64 (Int.tdiv b (↑(Int.gcd b d) : Int)) < (0 : Int)))
   (valN (fun i => (↑(bitN (Int.natAbs c * Int.natAbs (w64 (Int.tdiv b (↑(Int.gcd b d) : Int)))) i) : Int))
   (blen (Int.natAbs c * Int.natAbs (w64 (Int.tdiv b (↑(Int.gcd b d) : Int)))))))
   i) :
   Int))
   (blen
   (sV (!decide (a < (0 : Int)) == decide (w64 (Int.tdiv d (↑(Int.gcd b d) : Int)) < (0 : Int)))
   (valN (fun i => (↑(bitN (Int.natAbs a * Int.natAbs (w64 (Int.tdiv d (↑(Int.gcd b d) : Int)))) i) : Int))
   (blen (Int.natAbs a * Int.natAbs (w64 (Int.tdiv d (↑(Int.gcd b d) : Int))))))
   (!decide (c < (0 : Int)) == decide (w64 (Int.tdiv b (↑(Int.gcd b d) : Int)) < (0 : Int)))
   (valN (fun i => (↑(bitN (Int.natAbs c * Int.natAbs (w64 (Int.tdiv b (↑(Int.gcd b d) : Int)))) i) : Int))
   (blen (Int.natAbs c * Int.natAbs (w64 (Int.tdiv b (↑(Int.gcd b d) : Int)))))))) %
   Int.toNat (↑(Int.gcd b d) : Int)) :
   Int)
   (↑(Int.gcd b d) : Int)) :
   Int))))
   i) :
   Int))
   (blen
   (Int.toNat
   (w64
   (Int.tdiv d
   (↑(Int.gcd
   (↑(valN
   (fun i =>
   (↑(bitN
   (sV (!decide (a < (0 : Int)) == decide (w64 (Int.tdiv d (↑(Int.gcd b d) : Int)) < (0 : Int)))
   (valN (fun i => (↑(bitN (Int.natAbs a * Int.natAbs (w64 (Int.tdiv d (↑(Int.gcd b d) : Int)))) i) : Int))
   (blen (Int.natAbs a * Int.natAbs (w64 (Int.tdiv d (↑(Int.gcd b d) : Int))))))
   (!decide (c < (0 : Int)) == decide (w64 (Int.tdiv b (↑(Int.gcd b d) : Int)) < (0 : Int)))
   (valN (fun i => (↑(bitN (Int.natAbs c * Int.natAbs (w64 (Int.tdiv b (↑(Int.gcd b d) : Int)))) i) : Int))
   (blen (Int.natAbs c * Int.natAbs (w64 (Int.tdiv b (↑(Int.gcd b d) : Int)))))))
   i) :
   Int))
   (blen
   (sV (!decide (a < (0 : Int)) == decide (w64 (Int.tdiv d (↑(Int.gcd b d) : Int)) < (0 : Int)))
   (valN (fun i => (↑(bitN (Int.natAbs a * Int.natAbs (w64 (Int.tdiv d (↑(Int.gcd b d) : Int)))) i) : Int))
   (blen (Int.natAbs a * Int.natAbs (w64 (Int.tdiv d (↑(Int.gcd b d) : Int))))))
   (!decide (c < (0 : Int)) == decide (w64 (Int.tdiv b (↑(Int.gcd b d) : Int)) < (0 : Int)))
   (valN (fun i => (↑(bitN (Int.natAbs c * Int.natAbs (w64 (Int.tdiv b (↑(Int.gcd b d) : Int)))) i) : Int))
   (blen (Int.natAbs c * Int.natAbs (w64 (Int.tdiv b (↑(Int.gcd b d) : Int)))))))) %
   Int.toNat (↑(Int.gcd b d) : Int)) :
   Int)
   (↑(Int.gcd b d) : Int)) :
   Int))))))))),
   iv
   (finD
   (valN
   (fun i =>
   (↑(bitN
   (valN
   (fun i =>
   (↑(bitN
   (sV (!decide (a < (0 : Int)) == decide (w64 (Int.tdiv d (↑(Int.gcd b d) : Int)) < (0 : Int)))
   (valN (fun i => (↑(bitN (Int.natAbs a * Int.natAbs (w64 (Int.tdiv d (↑(Int.gcd b d) : Int)))) i) : Int))
   (blen (Int.natAbs a * Int.natAbs (w64 (Int.tdiv d (↑(Int.gcd b d) : Int))))))
   (!decide (c < (0 : Int)) == decide (w64 (Int.tdiv b (↑(Int.gcd b d) : Int)) < (0 : Int)))
   (valN (fun i => (↑(bitN (Int.natAbs c * Int.natAbs (w64 (Int.tdiv b (↑(Int.gcd b d) : Int)))) i) : Int))
   (blen (Int.natAbs c * Int.natAbs (w64 (Int.tdiv b (↑(Int.gcd b d) : Int)))))))
   i) :
   Int))
   (blen
   (sV (!decide (a < (0 : Int)) == decide (w64 (Int.tdiv d (↑(Int.gcd b d) : Int)) < (0 : Int)))
   (valN (fun i => (↑(bitN (Int.natAbs a * Int.natAbs (w64 (Int.tdiv d (↑(Int.gcd b d) : Int)))) i) : Int))
   (blen (Int.natAbs a * Int.natAbs (w64 (Int.tdiv d (↑(Int.gcd b d) : Int))))))
   (!decide (c < (0 : Int)) == decide (w64 (Int.tdiv b (↑(Int.gcd b d) : Int)) < (0 : Int)))
   (valN (fun i => (↑(bitN (Int.natAbs c * Int.natAbs (w64 (Int.tdiv b (↑(Int.gcd b d) : Int)))) i) : Int))
   (blen (Int.natAbs c * Int.natAbs (w64 (Int.tdiv b (↑(Int.gcd b d) : Int)))))))) /
   Int.toNat
   (↑(Int.gcd
   (↑(valN
   (fun i =>
   (↑(bitN
   (sV (!decide (a < (0 : Int)) == decide (w64 (Int.tdiv d (↑(Int.gcd b d) : Int)) < (0 : Int)))
   (valN (fun i => (↑(bitN (Int.natAbs a * Int.natAbs (w64 (Int.tdiv d (↑(Int.gcd b d) : Int)))) i) : Int))
   (blen (Int.natAbs a * Int.natAbs (w64 (Int.tdiv d (↑(Int.gcd b d) : Int))))))
   (!decide (c < (0 : Int)) == decide (w64 (Int.tdiv b (↑(Int.gcd b d) : Int)) < (0 : Int)))
   (valN (fun i => (↑(bitN (Int.natAbs c * Int.natAbs (w64 (Int.tdiv b (↑(Int.gcd b d) : Int)))) i) : Int))
   (blen (Int.natAbs c * Int.natAbs (w64 (Int.tdiv b (↑(Int.gcd b d) : Int)))))))
   i) :
   Int))
   (blen
   (sV (!decide (a < (0 : Int)) == decide (w64 (Int.tdiv d (↑(Int.gcd b d) : Int)) < (0 : Int)))
   (valN (fun i => (↑(bitN (Int.natAbs a * Int.natAbs (w64 (Int.tdiv d (↑(Int.gcd b d) : Int)))) i) : Int))
   (blen (Int.natAbs a * Int.natAbs (w64 (Int.tdiv d (↑(Int.gcd b d) : Int))))))
   (!decide (c < (0 : Int)) == decide (w64 (Int.tdiv b (↑(Int.gcd b d) : Int)) < (0 : Int)))
   (valN (fun i => (↑(bitN (Int.natAbs c * Int.natAbs (w64 (Int.tdiv b (↑(Int.gcd b d) : Int)))) i) : Int))
   (blen (Int.natAbs c * Int.natAbs (w64 (Int.tdiv b (↑(Int.gcd b d) : Int)))))))) %
   Int.toNat (↑(Int.gcd b d) : Int)) :
   Int)
   (↑(Int.gcd b d) : Int)) :
   Int))
   i) :
   Int))
   (blen
   (valN
   (fun i =>
   (↑(bitN
   (sV (!decide (a < (0 : Int)) == decide (w64 (Int.tdiv d (↑(Int.gcd b d) : Int)) < (0 : Int)))
   (valN (fun i => (↑(bitN (Int.natAbs a * Int.natAbs (w64 (Int.tdiv d (↑(Int.gcd b d) : Int)))) i) : Int))
   (blen (Int.natAbs a * Int.natAbs (w64 (Int.tdiv d (↑(Int.gcd b d) : Int))))))
   (!decide (c < (0 : Int)) == decide (w64 (Int.tdiv b (↑(Int.gcd b d) : Int)) < (0 : Int)))
   (valN (fun i => (↑(bitN (Int.natAbs c * Int.natAbs (w64 (Int.tdiv b (↑(Int.gcd b d) : Int)))) i) : Int))
   (blen (Int.natAbs c * Int.natAbs (w64 (Int.tdiv b (↑(Int.gcd b d) : Int)))))))
   i) :
   Int))
   (blen
   (sV (!decide (a < (0 : Int)) == decide (w64 (Int.tdiv d (↑(Int.gcd b d) : Int)) < (0 : Int)))
   (valN (fun i => (↑(bitN (Int.natAbs a * Int.natAbs (w64 (Int.tdiv d (↑(Int.gcd b d) : Int)))) i) : Int)) (blen (Int.natAbs a * Int.natAbs (w64 (Int.tdiv d (↑(Int.gcd b d) : Int))))))
   (!decide (c < (0 : Int)) == decide (w64 (Int.tdiv b (↑(Int.gcd b d) : Int)) < (0 : Int)))
   (valN (fun i => (↑(bitN (Int.natAbs c * Int.natAbs (w64 (Int.tdiv b (↑(Int.gcd b d) : Int)))) i) : Int)) (blen (Int.natAbs c * Int.natAbs (w64 (Int.tdiv b (↑(Int.gcd b d) : Int)))))))) /
   Int.toNat
   (↑(Int.gcd
   (↑(valN
   (fun i =>
   (↑(bitN
   (sV (!decide (a < (0 : Int)) == decide (w64 (Int.tdiv d (↑(Int.gcd b d) : Int)) < (0 : Int)))
   (valN (fun i => (↑(bitN (Int.natAbs a * Int.natAbs (w64 (Int.tdiv d (↑(Int.gcd b d) : Int)))) i) : Int))
   (blen (Int.natAbs a * Int.natAbs (w64 (Int.tdiv d (↑(Int.gcd b d) : Int))))))
   (!decide (c < (0 : Int)) == decide (w64 (Int.tdiv b (↑(Int.gcd b d) : Int)) < (0 : Int)))
   (valN (fun i => (↑(bitN (Int.natAbs c * Int.natAbs (w64 (Int.tdiv b (↑(Int.gcd b d) : Int)))) i) : Int))
   (blen (Int.natAbs c * Int.natAbs (w64 (Int.tdiv b (↑(Int.gcd b d) : Int)))))))
   i) :
   Int))
   (blen
   (sV (!decide (a < (0 : Int)) == decide (w64 (Int.tdiv d (↑(Int.gcd b d) : Int)) < (0 : Int)))
   (valN (fun i => (↑(bitN (Int.natAbs a * Int.natAbs (w64 (Int.tdiv d (↑(Int.gcd b d) : Int)))) i) : Int))
   (blen (Int.natAbs a * Int.natAbs (w64 (Int.tdiv d (↑(Int.gcd b d) : Int))))))
   (!decide (c < (0 : Int)) == decide (w64 (Int.tdiv b (↑(Int.gcd b d) : Int)) < (0 : Int)))
   (valN (fun i => (↑(bitN (Int.natAbs c * Int.natAbs (w64 (Int.tdiv b (↑(Int.gcd b d) : Int)))) i) : Int))
   (blen (Int.natAbs c * Int.natAbs (w64 (Int.tdiv b (↑(Int.gcd b d) : Int)))))))) %
   Int.toNat (↑(Int.gcd b d) : Int)) :
   Int)
   (↑(Int.gcd b d) : Int)) :
   Int))))
   (valN
   (fun i =>
   (↑(bitN
   (valN (fun i => (↑(bitN (Int.toNat (w64 (Int.tdiv b (↑(Int.gcd b d) : Int)))) i) : Int)) (blen (Int.toNat (w64 (Int.tdiv b (↑(Int.gcd b d) : Int))))) *
   valN
   (fun i =>
   (↑(bitN
   (Int.toNat
   (w64
   (Int.tdiv d
   (↑(Int.gcd
   (↑(valN
   (fun i =>
   (↑(bitN
   (sV (!decide (a < (0 : Int)) == decide (w64 (Int.tdiv d (↑(Int.gcd b d) : Int)) < (0 : Int)))
   (valN (fun i => (↑(bitN (Int.natAbs a * Int.natAbs (w64 (Int.tdiv d (↑(Int.gcd b d) : Int)))) i) : Int))
   (blen (Int.natAbs a * Int.natAbs (w64 (Int.tdiv d (↑(Int.gcd b d) : Int))))))
   (!decide (c < (0 : Int)) == decide (w64 (Int.tdiv b (↑(Int.gcd b d) : Int)) < (0 : Int)))
   (valN (fun i => (↑(bitN (Int.natAbs c * Int.natAbs (w64 (Int.tdiv b (↑(Int.gcd b d) : Int)))) i) : Int))
   (blen (Int.natAbs c * Int.natAbs (w64 (Int.tdiv b (↑(Int.gcd b d) : Int)))))))
   i) :
   Int))
   (blen
   (sV (!decide (a < (0 : Int)) == decide (w64 (Int.tdiv d (↑(Int.gcd b d) : Int)) < (0 : Int)))
   (valN (fun i => (↑(bitN (Int.natAbs a * Int.natAbs (w64 (Int.tdiv d (↑(Int.gcd b d) : Int)))) i) : Int))
   (blen (Int.natAbs a * Int.natAbs (w64 (Int.tdiv d (↑(Int.gcd b d) : Int))))))
   (!decide (c < (0 : Int)) == decide (w64 (Int.tdiv b (↑(Int.gcd b d) : Int)) < (0 : Int)))
   (valN (fun i => (↑(bitN (Int.natAbs c * Int.natAbs (w64 (Int.tdiv b (↑(Int.gcd b d) : Int)))) i) : Int))
   (blen (Int.natAbs c * Int.natAbs (w64 (Int.tdiv b (↑(Int.gcd b d) : Int)))))))) %
   Int.toNat (↑(Int.gcd b d) : Int)) :
   Int)
   (↑(Int.gcd b d) : Int)) :
   Int))))
   i) :
   Int))
   (blen
   (Int.toNat
   (w64
   (Int.tdiv d
   (↑(Int.gcd
   (↑(valN
   (fun i =>
   (↑(bitN
   (sV (!decide (a < (0 : Int)) == decide (w64 (Int.tdiv d (↑(Int.gcd b d) : Int)) < (0 : Int)))
   (valN (fun i => (↑(bitN (Int.natAbs a * Int.natAbs (w64 (Int.tdiv d (↑(Int.gcd b d) : Int)))) i) : Int))
   (blen (Int.natAbs a * Int.natAbs (w64 (Int.tdiv d (↑(Int.gcd b d) : Int))))))
   (!decide (c < (0 : Int)) == decide (w64 (Int.tdiv b (↑(Int.gcd b d) : Int)) < (0 : Int)))
   (valN (fun i => (↑(bitN (Int.natAbs c * Int.natAbs (w64 (Int.tdiv b (↑(Int.gcd b d) : Int)))) i) : Int))
   (blen (Int.natAbs c * Int.natAbs (w64 (Int.tdiv b (↑(Int.gcd b d) : Int)))))))
   i) :
   Int))
   (blen
   (sV (!decide (a < (0 : Int)) == decide (w64 (Int.tdiv d (↑(Int.gcd b d) : Int)) < (0 : Int)))
   (valN (fun i => (↑(bitN (Int.natAbs a * Int.natAbs (w64 (Int.tdiv d (↑(Int.gcd b d) : Int)))) i) : Int))
   (blen (Int.natAbs a * Int.natAbs (w64 (Int.tdiv d (↑(Int.gcd b d) : Int))))))
   (!decide (c < (0 : Int)) == decide (w64 (Int.tdiv b (↑(Int.gcd b d) : Int)) < (0 : Int)))
   (valN (fun i => (↑(bitN (Int.natAbs c * Int.natAbs (w64 (Int.tdiv b (↑(Int.gcd b d) : Int)))) i) : Int))
   (blen (Int.natAbs c * Int.natAbs (w64 (Int.tdiv b (↑(Int.gcd b d) : Int)))))))) %
   Int.toNat (↑(Int.gcd b d) : Int)) :
   Int)
   (↑(Int.gcd b d) : Int)) :
   Int))))))
   i) :
   Int))
   (blen
   (valN (fun i => (↑(bitN (Int.toNat (w64 (Int.tdiv b (↑(Int.gcd b d) : Int)))) i) : Int)) (blen (Int.toNat (w64 (Int.tdiv b (↑(Int.gcd b d) : Int))))) *
   valN
   (fun i =>
   (↑(bitN
   (Int.toNat
   (w64
   (Int.tdiv d
   (↑(Int.gcd
   (↑(valN
   (fun i =>
   (↑(bitN
   (sV (!decide (a < (0 : Int)) == decide (w64 (Int.tdiv d (↑(Int.gcd b d) : Int)) < (0 : Int)))
   (valN (fun i => (↑(bitN (Int.natAbs a * Int.natAbs (w64 (Int.tdiv d (↑(Int.gcd b d) : Int)))) i) : Int))
   (blen (Int.natAbs a * Int.natAbs (w64 (Int.tdiv d (↑(Int.gcd b d) : Int))))))
   (!decide (c < (0 : Int)) == decide (w64 (Int.tdiv b (↑(Int.gcd b d) : Int)) < (0 : Int)))
   (valN (fun i => (↑(bitN (Int.natAbs c * Int.natAbs (w64 (Int.tdiv b (↑(Int.gcd b d) : Int)))) i) : Int))
   (blen (Int.natAbs c * Int.natAbs (w64 (Int.tdiv b (↑(Int.gcd b d) : Int)))))))
   i) :
   Int))
   (blen
   (sV (!decide (a < (0 : Int)) == decide (w64 (Int.tdiv d (↑(Int.gcd b d) : Int)) < (0 : Int)))
   (valN (fun i => (↑(bitN (Int.natAbs a * Int.natAbs (w64 (Int.tdiv d (↑(Int.gcd b d) : Int)))) i) : Int))
   (blen (Int.natAbs a * Int.natAbs (w64 (Int.tdiv d (↑(Int.gcd b d) : Int))))))
   (!decide (c < (0 : Int)) == decide (w64 (Int.tdiv b (↑(Int.gcd b d) : Int)) < (0 : Int)))
   (valN (fun i => (↑(bitN (Int.natAbs c * Int.natAbs (w64 (Int.tdiv b (↑(Int.gcd b d) : Int)))) i) : Int))
   (blen (Int.natAbs c * Int.natAbs (w64 (Int.tdiv b (↑(Int.gcd b d) : Int)))))))) %
   Int.toNat (↑(Int.gcd b d) : Int)) :
   Int)
   (↑(Int.gcd b d) : Int)) :
   Int))))
   i) :
   Int))
   (blen
   (Int.toNat
   (w64
   (Int.tdiv d
   (↑(Int.gcd
   (↑(valN
   (fun i =>
   (↑(bitN
   (sV (!decide (a < (0 : Int)) == decide (w64 (Int.tdiv d (↑(Int.gcd b d) : Int)) < (0 : Int)))
   (valN (fun i => (↑(bitN (Int.natAbs a * Int.natAbs (w64 (Int.tdiv d (↑(Int.gcd b d) : Int)))) i) : Int))
   (blen (Int.natAbs a * Int.natAbs (w64 (Int.tdiv d (↑(Int.gcd b d) : Int))))))
   (!decide (c < (0 : Int)) == decide (w64 (Int.tdiv b (↑(Int.gcd b d) : Int)) < (0 : Int)))
   (valN (fun i => (↑(bitN (Int.natAbs c * Int.natAbs (w64 (Int.tdiv b (↑(Int.gcd b d) : Int)))) i) : Int))
   (blen (Int.natAbs c * Int.natAbs (w64 (Int.tdiv b (↑(Int.gcd b d) : Int)))))))
   i) :
   Int))
   (blen
   (sV (!decide (a < (0 : Int)) == decide (w64 (Int.tdiv d (↑(Int.gcd b d) : Int)) < (0 : Int)))
   (valN (fun i => (↑(bitN (Int.natAbs a * Int.natAbs (w64 (Int.tdiv d (↑(Int.gcd b d) : Int)))) i) : Int))
   (blen (Int.natAbs a * Int.natAbs (w64 (Int.tdiv d (↑(Int.gcd b d) : Int))))))
   (!decide (c < (0 : Int)) == decide (w64 (Int.tdiv b (↑(Int.gcd b d) : Int)) < (0 : Int)))
   (valN (fun i => (↑(bitN (Int.natAbs c * Int.natAbs (w64 (Int.tdiv b (↑(Int.gcd b d) : Int)))) i) : Int))
   (blen (Int.natAbs c * Int.natAbs (w64 (Int.tdiv b (↑(Int.gcd b d) : Int)))))))) %
   Int.toNat (↑(Int.gcd b d) : Int)) :
   Int)
   (↑(Int.gcd b d) : Int)) :
   Int))))))))),
   iv
   (finE
   (valN
   (fun i =>
   (↑(bitN
   (valN
   (fun i =>
   (↑(bitN
   (sV (!decide (a < (0 : Int)) == decide (w64 (Int.tdiv d (↑(Int.gcd b d) : Int)) < (0 : Int)))
   (valN (fun i => (↑(bitN (Int.natAbs a * Int.natAbs (w64 (Int.tdiv d (↑(Int.gcd b d) : Int)))) i) : Int))
   (blen (Int.natAbs a * Int.natAbs (w64 (Int.tdiv d (↑(Int.gcd b d) : Int))))))
   (!decide (c < (0 : Int)) == decide (w64 (Int.tdiv b (↑(Int.gcd b d) : Int)) < (0 : Int)))
   (valN (fun i => (↑(bitN (Int.natAbs c * Int.natAbs (w64 (Int.tdiv b (↑(Int.gcd b d) : Int)))) i) : Int))
   (blen (Int.natAbs c * Int.natAbs (w64 (Int.tdiv b (↑(Int.gcd b d) : Int)))))))
   i) :
   Int))
   (blen
   (sV (!decide (a < (0 : Int)) == decide (w64 (Int.tdiv d (↑(Int.gcd b d) : Int)) < (0 : Int)))
   (valN (fun i => (↑(bitN (Int.natAbs a * Int.natAbs (w64 (Int.tdiv d (↑(Int.gcd b d) : Int)))) i) : Int))
   (blen (Int.natAbs a * Int.natAbs (w64 (Int.tdiv d (↑(Int.gcd b d) : Int))))))
   (!decide (c < (0 : Int)) == decide (w64 (Int.tdiv b (↑(Int.gcd b d) : Int)) < (0 : Int)))
   (valN (fun i => (↑(bitN (Int.natAbs c * Int.natAbs (w64 (Int.tdiv b (↑(Int.gcd b d) : Int)))) i) : Int))
   (blen (Int.natAbs c * Int.natAbs (w64 (Int.tdiv b (↑(Int.gcd b d) : Int)))))))) /
   Int.toNat
   (↑(Int.gcd
   (↑(valN
   (fun i =>
   (↑(bitN
   (sV (!decide (a < (0 : Int)) == decide (w64 (Int.tdiv d (↑(Int.gcd b d) : Int)) < (0 : Int)))
   (valN (fun i => (↑(bitN (Int.natAbs a * Int.natAbs (w64 (Int.tdiv d (↑(Int.gcd b d) : Int)))) i) : Int))
   (blen (Int.natAbs a * Int.natAbs (w64 (Int.tdiv d (↑(Int.gcd b d) : Int))))))
   (!decide (c < (0 : Int)) == decide (w64 (Int.tdiv b (↑(Int.gcd b d) : Int)) < (0 : Int)))
   (valN (fun i => (↑(bitN (Int.natAbs c * Int.natAbs (w64 (Int.tdiv b (↑(Int.gcd b d) : Int)))) i) : Int))
   (blen (Int.natAbs c * Int.natAbs (w64 (Int.tdiv b (↑(Int.gcd b d) : Int)))))))
   i) :
   Int))
   (blen
   (sV (!decide (a < (0 : Int)) == decide (w64 (Int.tdiv d (↑(Int.gcd b d) : Int)) < (0 : Int)))
   (valN (fun i => (↑(bitN (Int.natAbs a * Int.natAbs (w64 (Int.tdiv d (↑(Int.gcd b d) : Int)))) i) : Int))
   (blen (Int.natAbs a * Int.natAbs (w64 (Int.tdiv d (↑(Int.gcd b d) : Int))))))
   (!decide (c < (0 : Int)) == decide (w64 (Int.tdiv b (↑(Int.gcd b d) : Int)) < (0 : Int)))
   (valN (fun i => (↑(bitN (Int.natAbs c * Int.natAbs (w64 (Int.tdiv b (↑(Int.gcd b d) : Int)))) i) : Int))
   (blen (Int.natAbs c * Int.natAbs (w64 (Int.tdiv b (↑(Int.gcd b d) : Int)))))))) %
   Int.toNat (↑(Int.gcd b d) : Int)) :
   Int)
   (↑(Int.gcd b d) : Int)) :
   Int))
   i) :
   Int))
   (blen
   (valN
   (fun i =>
   (↑(bitN
   (sV (!decide (a < (0 : Int)) == decide (w64 (Int.tdiv d (↑(Int.gcd b d) : Int)) < (0 : Int)))
   (valN (fun i => (↑(bitN (Int.natAbs a * Int.natAbs (w64 (Int.tdiv d (↑(Int.gcd b d) : Int)))) i) : Int))
   (blen (Int.natAbs a * Int.natAbs (w64 (Int.tdiv d (↑(Int.gcd b d) : Int))))))
   (!decide (c < (0 : Int)) == decide (w64 (Int.tdiv b (↑(Int.gcd b d) : Int)) < (0 : Int)))
   (valN (fun i => (↑(bitN (Int.natAbs c * Int.natAbs (w64 (Int.tdiv b (↑(Int.gcd b d) : Int)))) i) : Int))
   (blen (Int.natAbs c * Int.natAbs (w64 (Int.tdiv b (↑(Int.gcd b d) : Int)))))))
   i) :
   Int))
   (blen
   (sV (!decide (a < (0 : Int)) == decide (w64 (Int.tdiv d (↑(Int.gcd b d) : Int)) < (0 : Int)))
   (valN (fun i => (↑(bitN (Int.natAbs a * Int.natAbs (w64 (Int.tdiv d (↑(Int.gcd b d) : Int)))) i) : Int)) (blen (Int.natAbs a * Int.natAbs (w64 (Int.tdiv d (↑(Int.gcd b d) : Int))))))
   (!decide (c < (0 : Int)) == decide (w64 (Int.tdiv b (↑(Int.gcd b d) : Int)) < (0 : Int)))
   (valN (fun i => (↑(bitN (Int.natAbs c * Int.natAbs (w64 (Int.tdiv b (↑(Int.gcd b d) : Int)))) i) : Int)) (blen (Int.natAbs c * Int.natAbs (w64 (Int.tdiv b (↑(Int.gcd b d) : Int)))))))) /
   Int.toNat
   (↑(Int.gcd
   (↑(valN
   (fun i =>
   (↑(bitN
   (sV (!decide (a < (0 : Int)) == decide (w64 (Int.tdiv d (↑(Int.gcd b d) : Int)) < (0 : Int)))
   (valN (fun i => (↑(bitN (Int.natAbs a * Int.natAbs (w64 (Int.tdiv d (↑(Int.gcd b d) : Int)))) i) : Int))
   (blen (Int.natAbs a * Int.natAbs (w64 (Int.tdiv d (↑(Int.gcd b d) : Int))))))
   (!decide (c < (0 : Int)) == decide (w64 (Int.tdiv b (↑(Int.gcd b d) : Int)) < (0 : Int)))
   (valN (fun i => (↑(bitN (Int.natAbs c * Int.natAbs (w64 (Int.tdiv b (↑(Int.gcd b d) : Int)))) i) : Int))
   (blen (Int.natAbs c * Int.natAbs (w64 (Int.tdiv b (↑(Int.gcd b d) : Int)))))))
   i) :
   Int))
   (blen
   (sV (!decide (a < (0 : Int)) == decide (w64 (Int.tdiv d (↑(Int.gcd b d) : Int)) < (0 : Int)))
   (valN (fun i => (↑(bitN (Int.natAbs a * Int.natAbs (w64 (Int.tdiv d (↑(Int.gcd b d) : Int)))) i) : Int))
   (blen (Int.natAbs a * Int.natAbs (w64 (Int.tdiv d (↑(Int.gcd b d) : Int))))))
   (!decide (c < (0 : Int)) == decide (w64 (Int.tdiv b (↑(Int.gcd b d) : Int)) < (0 : Int)))
   (valN (fun i => (↑(bitN (Int.natAbs c * Int.natAbs (w64 (Int.tdiv b (↑(Int.gcd b d) : Int)))) i) : Int))
   (blen (Int.natAbs c * Int.natAbs (w64 (Int.tdiv b (↑(Int.gcd b d) : Int)))))))) %
   Int.toNat (↑(Int.gcd b d) : Int)) :
   Int)
   (↑(Int.gcd b d) : Int)) :
   Int))))
   (valN
   (fun i =>
   (↑(bitN
   (valN (fun i => (↑(bitN (Int.toNat (w64 (Int.tdiv b (↑(Int.gcd b d) : Int)))) i) : Int)) (blen (Int.toNat (w64 (Int.tdiv b (↑(Int.gcd b d) : Int))))) *
   valN
   (fun i =>
   (↑(bitN
   (Int.toNat
   (w64
   (Int.tdiv d
   (↑(Int.gcd
   (↑(valN
   (fun i =>
   (↑(bitN
   (sV (!decide (a < (0 : Int)) == decide (w64 (Int.tdiv d (↑(Int.gcd b d) : Int)) < (0 : Int)))
   (valN (fun i => (↑(bitN (Int.natAbs a * Int.natAbs (w64 (Int.tdiv d (↑(Int.gcd b d) : Int)))) i) : Int))
   (blen (Int.natAbs a * Int.natAbs (w64 (Int.tdiv d (↑(Int.gcd b d) : Int))))))
   (!decide (c < (0 : Int)) == decide (w64 (Int.tdiv b (↑(Int.gcd b d) : Int)) < (0 : Int)))
   (valN (fun i => (↑(bitN (Int.natAbs c * Int.natAbs (w64 (Int.tdiv b (↑(Int.gcd b d) : Int)))) i) : Int))
   (blen (Int.natAbs c * Int.natAbs (w64 (Int.tdiv b (↑(Int.gcd b d) : Int)))))))
   i) :
   Int))
   (blen
   (sV (!decide (a < (0 : Int)) == decide (w64 (Int.tdiv d (↑(Int.gcd b d) : Int)) < (0 : Int)))
   (valN (fun i => (↑(bitN (Int.natAbs a * Int.natAbs (w64 (Int.tdiv d (↑(Int.gcd b d) : Int)))) i) : Int))
   (blen (Int.natAbs a * Int.natAbs (w64 (Int.tdiv d (↑(Int.gcd b d) : Int))))))
   (!decide (c < (0 : Int)) == decide (w64 (Int.tdiv b (↑(Int.gcd b d) : Int)) < (0 : Int)))
   (valN (fun i => (↑(bitN (Int.natAbs c * Int.natAbs (w64 (Int.tdiv b (↑(Int.gcd b d) : Int)))) i) : Int))
   (blen (Int.natAbs c * Int.natAbs (w64 (Int.tdiv b (↑(Int.gcd b d) : Int)))))))) %
   Int.toNat (↑(Int.gcd b d) : Int)) :
   Int)
   (↑(Int.gcd b d) : Int)) :
   Int))))
   i) :
   Int))
   (blen
   (Int.toNat
   (w64
   (Int.tdiv d
   (↑(Int.gcd
   (↑(valN
   (fun i =>
   (↑(bitN
   (sV (!decide (a < (0 : Int)) == decide (w64 (Int.tdiv d (↑(Int.gcd b d) : Int)) < (0 : Int)))
   (valN (fun i => (↑(bitN (Int.natAbs a * Int.natAbs (w64 (Int.tdiv d (↑(Int.gcd b d) : Int)))) i) : Int))
   (blen (Int.natAbs a * Int.natAbs (w64 (Int.tdiv d (↑(Int.gcd b d) : Int))))))
   (!decide (c < (0 : Int)) == decide (w64 (Int.tdiv b (↑(Int.gcd b d) : Int)) < (0 : Int)))
   (valN (fun i => (↑(bitN (Int.natAbs c * Int.natAbs (w64 (Int.tdiv b (↑(Int.gcd b d) : Int)))) i) : Int))
   (blen (Int.natAbs c * Int.natAbs (w64 (Int.tdiv b (↑(Int.gcd b d) : Int)))))))
   i) :
   Int))
   (blen
   (sV (!decide (a < (0 : Int)) == decide (w64 (Int.tdiv d (↑(Int.gcd b d) : Int)) < (0 : Int)))
   (valN (fun i => (↑(bitN (Int.natAbs a * Int.natAbs (w64 (Int.tdiv d (↑(Int.gcd b d) : Int)))) i) : Int))
   (blen (Int.natAbs a * Int.natAbs (w64 (Int.tdiv d (↑(Int.gcd b d) : Int))))))
   (!decide (c < (0 : Int)) == decide (w64 (Int.tdiv b (↑(Int.gcd b d) : Int)) < (0 : Int)))
   (valN (fun i => (↑(bitN (Int.natAbs c * Int.natAbs (w64 (Int.tdiv b (↑(Int.gcd b d) : Int)))) i) : Int))
   (blen (Int.natAbs c * Int.natAbs (w64 (Int.tdiv b (↑(Int.gcd b d) : Int)))))))) %
   Int.toNat (↑(Int.gcd b d) : Int)) :
   Int)
   (↑(Int.gcd b d) : Int)) :
   Int))))))
   i) :
   Int))
   (blen
   (valN (fun i => (↑(bitN (Int.toNat (w64 (Int.tdiv b (↑(Int.gcd b d) : Int)))) i) : Int)) (blen (Int.toNat (w64 (Int.tdiv b (↑(Int.gcd b d) : Int))))) *
   valN
   (fun i =>
   (↑(bitN
   (Int.toNat
   (w64
   (Int.tdiv d
   (↑(Int.gcd
   (↑(valN
   (fun i =>
   (↑(bitN
   (sV (!decide (a < (0 : Int)) == decide (w64 (Int.tdiv d (↑(Int.gcd b d) : Int)) < (0 : Int)))
   (valN (fun i => (↑(bitN (Int.natAbs a * Int.natAbs (w64 (Int.tdiv d (↑(Int.gcd b d) : Int)))) i) : Int))
   (blen (Int.natAbs a * Int.natAbs (w64 (Int.tdiv d (↑(Int.gcd b d) : Int))))))
   (!decide (c < (0 : Int)) == decide (w64 (Int.tdiv b (↑(Int.gcd b d) : Int)) < (0 : Int)))
   (valN (fun i => (↑(bitN (Int.natAbs c * Int.natAbs (w64 (Int.tdiv b (↑(Int.gcd b d) : Int)))) i) : Int))
   (blen (Int.natAbs c * Int.natAbs (w64 (Int.tdiv b (↑(Int.gcd b d) : Int)))))))
   i) :
   Int))
   (blen
   (sV (!decide (a < (0 : Int)) == decide (w64 (Int.tdiv d (↑(Int.gcd b d) : Int)) < (0 : Int)))
   (valN (fun i => (↑(bitN (Int.natAbs a * Int.natAbs (w64 (Int.tdiv d (↑(Int.gcd b d) : Int)))) i) : Int))
   (blen (Int.natAbs a * Int.natAbs (w64 (Int.tdiv d (↑(Int.gcd b d) : Int))))))
   (!decide (c < (0 : Int)) == decide (w64 (Int.tdiv b (↑(Int.gcd b d) : Int)) < (0 : Int)))
   (valN (fun i => (↑(bitN (Int.natAbs c * Int.natAbs (w64 (Int.tdiv b (↑(Int.gcd b d) : Int)))) i) : Int))
   (blen (Int.natAbs c * Int.natAbs (w64 (Int.tdiv b (↑(Int.gcd b d) : Int)))))))) %
   Int.toNat (↑(Int.gcd b d) : Int)) :
   Int)
   (↑(Int.gcd b d) : Int)) :
   Int))))
   i) :
   Int))
   (blen
   (Int.toNat
   (w64
   (Int.tdiv d
   (↑(Int.gcd
   (↑(valN
   (fun i =>
   (↑(bitN
   (sV (!decide (a < (0 : Int)) == decide (w64 (Int.tdiv d (↑(Int.gcd b d) : Int)) < (0 : Int)))
   (valN (fun i => (↑(bitN (Int.natAbs a * Int.natAbs (w64 (Int.tdiv d (↑(Int.gcd b d) : Int)))) i) : Int))
   (blen (Int.natAbs a * Int.natAbs (w64 (Int.tdiv d (↑(Int.gcd b d) : Int))))))
   (!decide (c < (0 : Int)) == decide (w64 (Int.tdiv b (↑(Int.gcd b d) : Int)) < (0 : Int)))
   (valN (fun i => (↑(bitN (Int.natAbs c * Int.natAbs (w64 (Int.tdiv b (↑(Int.gcd b d) : Int)))) i) : Int))
   (blen (Int.natAbs c * Int.natAbs (w64 (Int.tdiv b (↑(Int.gcd b d) : Int)))))))
   i) :
   Int))
   (blen
   (sV (!decide (a < (0 : Int)) == decide (w64 (Int.tdiv d (↑(Int.gcd b d) : Int)) < (0 : Int)))
   (valN (fun i => (↑(bitN (Int.natAbs a * Int.natAbs (w64 (Int.tdiv d (↑(Int.gcd b d) : Int)))) i) : Int))
   (blen (Int.natAbs a * Int.natAbs (w64 (Int.tdiv d (↑(Int.gcd b d) : Int))))))
   (!decide (c < (0 : Int)) == decide (w64 (Int.tdiv b (↑(Int.gcd b d) : Int)) < (0 : Int)))
   (valN (fun i => (↑(bitN (Int.natAbs c * Int.natAbs (w64 (Int.tdiv b (↑(Int.gcd b d) : Int)))) i) : Int))
   (blen (Int.natAbs c * Int.natAbs (w64 (Int.tdiv b (↑(Int.gcd b d) : Int)))))))) %
   Int.toNat (↑(Int.gcd b d) : Int)) :
   Int)
   (↑(Int.gcd b d) : Int)) :
   Int)))))))))])))))))))))))))))

theorem LAddR_eq (a b c d : Int) : T4 11 [.agg [iv a, iv b], .agg [iv c, iv d]] = LAddR a b c d := by kernel_rfl

noncomputable def LMulR (a b c d : Int) : Tree SV :=
  .need ((-9223372036854775807 : Int) ≤ a ∧ a ≤ (9223372036854775807 : Int))
  (.need ((0 : Int) ≤ (↑(Int.natAbs a) : Int) ∧ (0 : Int) ≤ d)
   (.need ((-9223372036854775807 : Int) ≤ c ∧ c ≤ (9223372036854775807 : Int))
   (.need ((0 : Int) ≤ (↑(Int.natAbs c) : Int) ∧ (0 : Int) ≤ b)
   (.ite (a == (0 : Int) || c == (0 : Int)) (.ret (SV.agg [iv (0 : Int), iv (1 : Int), iv (0 : Int)]))
   (.need ((↑(Int.gcd (↑(Int.natAbs a) : Int) d) : Int) ≠ (0 : Int))
   (.need ((↑(Int.gcd (↑(Int.natAbs c) : Int) b) : Int) ≠ (0 : Int))
   (.need
   (((-9223372036854775807 : Int) ≤ w64 (Int.tdiv a (↑(Int.gcd (↑(Int.natAbs a) : Int) d) : Int)) ∧ w64 (Int.tdiv a (↑(Int.gcd (↑(Int.natAbs a) : Int) d) : Int)) ≤ (9223372036854775807 : Int)) ∧
   (-9223372036854775807 : Int) ≤ w64 (Int.tdiv c (↑(Int.gcd (↑(Int.natAbs c) : Int) b) : Int)) ∧ w64 (Int.tdiv c (↑(Int.gcd (↑(Int.natAbs c) : Int) b) : Int)) ≤ (9223372036854775807 : Int))
   (.need ((↑(Int.gcd (↑(Int.natAbs c) : Int) b) : Int) ≠ (0 : Int))
   (.need ((0 : Int) ≤ w64 (Int.tdiv b (↑(Int.gcd (↑(Int.natAbs c) : Int) b) : Int)) ∧ w64 (Int.tdiv b (↑(Int.gcd (↑(Int.natAbs c) : Int) b) : Int)) ≤ (9223372036854775807 : Int))
   (.need ((↑(Int.gcd (↑(Int.natAbs a) : Int) d) : Int) ≠ (0 : Int))
   (.need ((0 : Int) ≤ w64 (Int.tdiv d (↑(Int.gcd (↑(Int.natAbs a) : Int) d) : Int)) ∧ w64 (Int.tdiv d (↑(Int.gcd (↑(Int.natAbs a) : Int) d) : Int)) ≤ (9223372036854775807 : Int))
   (.need
   (blen (Int.toNat (w64 (Int.tdiv b (↑(Int.gcd (↑(Int.natAbs c) : Int) b) : Int)))) ≤ 1000 ∧
   blen (Int.toNat (w64 (Int.tdiv d (↑(Int.gcd (↑(Int.natAbs a) : Int) d) : Int)))) ≤ 1000 ∧
   (BitC (blen (Int.toNat (w64 (Int.tdiv b (↑(Int.gcd (↑(Int.natAbs c) : Int) b) : Int))))) fun i x =>
   DV.x (.int .i64 ((fun i => (↑(bitN (Int.toNat (w64 (Int.tdiv b (↑(Int.gcd (↑(Int.natAbs c) : Int) b) : Int)))) i) : Int)) i))) ∧
   BitC (blen (Int.toNat (w64 (Int.tdiv d (↑(Int.gcd (↑(Int.natAbs a) : Int) d) : Int))))) fun i x =>
   DV.x (.int .i64 ((fun i => (↑(bitN (Int.toNat (w64 (Int.tdiv d (↑(Int.gcd (↑(Int.natAbs a) : Int) d) : Int)))) i) : Int)) i)))
   (.need
   (blen (Int.natAbs (w64 (Int.tdiv a (↑(Int.gcd (↑(Int.natAbs a) : Int) d) : Int))) * Int.natAbs (w64 (Int.tdiv c (↑(Int.gcd (↑(Int.natAbs c) : Int) b) : Int)))) ≤ 500000 ∧
   blen
   (valN (fun i => (↑(bitN (Int.toNat (w64 (Int.tdiv b (↑(Int.gcd (↑(Int.natAbs c) : Int) b) : Int)))) i) : Int)) (blen (Int.toNat (w64 (Int.tdiv b (↑(Int.gcd (↑(Int.natAbs c) : Int) b) : Int))))) *
   valN (fun i => (↑(bitN (Int.toNat (w64 (Int.tdiv d (↑(Int.gcd (↑(Int.natAbs a) : Int) d) : Int)))) i) : Int)) (blen (Int.toNat (w64 (Int.tdiv d (↑(Int.gcd (↑(Int.natAbs a) : Int) d) : Int)))))) ≤
   500000 ∧
   (BitC (blen (Int.natAbs (w64 (Int.tdiv a (↑(Int.gcd (↑(Int.natAbs a) : Int) d) : Int))) * Int.natAbs (w64 (Int.tdiv c (↑(Int.gcd (↑(Int.natAbs c) : Int) b) : Int))))) fun i x =>
   DV.x
   (.int .i64
   ((fun i => (↑(bitN (Int.natAbs (w64 (Int.tdiv a (↑(Int.gcd (↑(Int.natAbs a) : Int) d) : Int))) * Int.natAbs (w64 (Int.tdiv c (↑(Int.gcd (↑(Int.natAbs c) : Int) b) : Int)))) i) : Int)) i))) ∧
   BitC
   (blen
   (valN (fun i => (↑(bitN (Int.toNat (w64 (Int.tdiv b (↑(Int.gcd (↑(Int.natAbs c) : Int) b) : Int)))) i) : Int)) (blen (Int.toNat (w64 (Int.tdiv b (↑(Int.gcd (↑(Int.natAbs c) : Int) b) : Int))))) *
   valN (fun i => (↑(bitN (Int.toNat (w64 (Int.tdiv d (↑(Int.gcd (↑(Int.natAbs a) : Int) d) : Int)))) i) : Int)) (blen (Int.toNat (w64 (Int.tdiv d (↑(Int.gcd (↑(Int.natAbs a) : Int) d) : Int)))))))
   fun i x =>
   DV.x
   (.int .i64
   ((fun i =>
   (↑(bitN
   (valN (intCell fun i x => DV.x (.int .i64 ((fun i => (↑(bitN (Int.toNat (w64 (Int.tdiv b (↑(Int.gcd (↑(Int.natAbs c) : Int) b) : Int)))) i) : Int)) i)))
   (blen (Int.toNat (w64 (Int.tdiv b (↑(Int.gcd (↑(Int.natAbs c) : Int) b) : Int))))) *
   valN (intCell fun i x => DV.x (.int .i64 ((fun i => (↑(bitN (Int.toNat (w64 (Int.tdiv d (↑(Int.gcd (↑(Int.natAbs a) : Int) d) : Int)))) i) : Int)) i)))
   (blen (Int.toNat (w64 (Int.tdiv d (↑(Int.gcd (↑(Int.natAbs a) : Int) d) : Int))))))
   i) :
   Int))
   i)))
   (.ret
   (SV.agg
   [iv
   (finN (!decide (w64 (Int.tdiv a (↑(Int.gcd (↑(Int.natAbs a) : Int) d) : Int)) < (0 : Int)) == decide (w64 (Int.tdiv c (↑(Int.gcd (↑(Int.natAbs c) : Int) b) : Int)) < (0 : Int)))
   (valN (fun i => (↑(bitN (Int.natAbs (w64 (Int.tdiv a (↑(Int.gcd (↑(Int.natAbs a) : Int) d) : Int))) * Int.natAbs (w64 (Int.tdiv c (↑(Int.gcd (↑(Int.natAbs c) : Int) b) : Int)))) i) : Int))
   (blen (Int.natAbs (w64 (Int.tdiv a (↑(Int.gcd (↑(Int.natAbs a) : Int) d) : Int))) * Int.natAbs (w64 (Int.tdiv c (↑(Int.gcd (↑(Int.natAbs c) : Int) b) : Int))))))
   (valN
   (fun i =>
   (↑(bitN
   (valN (fun i => (↑(bitN (Int.toNat (w64 (Int.tdiv b (↑(Int.gcd (↑(Int.natAbs c) : Int) b) : Int)))) i) : Int))
   (blen (Int.toNat (w64 (Int.tdiv b (↑(Int.gcd (↑(Int.natAbs c) : Int) b) : Int))))) *
   valN (fun i => (↑(bitN (Int.toNat (w64 (Int.tdiv d (↑(Int.gcd (↑(Int.natAbs a) : Int) d) : Int)))) i) : Int))
   (blen (Int.toNat (w64 (Int.tdiv d (↑(Int.gcd (↑(Int.natAbs a) : Int) d) : Int))))))
   i) :
   Int))
   (blen
   (valN (fun i => (↑(bitN (Int.toNat (w64 (Int.tdiv b (↑(Int.gcd (↑(Int.natAbs c) : Int) b) : Int)))) i) : Int)) (blen (Int.toNat (w64 (Int.tdiv b (↑(Int.gcd (↑(Int.natAbs c) : Int) b) : Int))))) *
   valN (fun i => (↑(bitN (Int.toNat (w64 (Int.tdiv d (↑(Int.gcd (↑(Int.natAbs a) : Int) d) : Int)))) i) : Int))
   (blen (Int.toNat (w64 (Int.tdiv d (↑(Int.gcd (↑(Int.natAbs a) : Int) d) : Int))))))))),
   iv
   (finD
   (valN (fun i => (↑(bitN (Int.natAbs (w64 (Int.tdiv a (↑(Int.gcd (↑(Int.natAbs a) : Int) d) : Int))) * Int.natAbs (w64 (Int.tdiv c (↑(Int.gcd (↑(Int.natAbs c) : Int) b) : Int)))) i) : Int))
   (blen (Int.natAbs (w64 (Int.tdiv a (↑(Int.gcd (↑(Int.natAbs a) : Int) d) : Int))) * Int.natAbs (w64 (Int.tdiv c (↑(Int.gcd (↑(Int.natAbs c) : Int) b) : Int))))))
   (valN
   (fun i =>
   (↑(bitN
   (valN (fun i => (↑(bitN (Int.toNat (w64 (Int.tdiv b (↑(Int.gcd (↑(Int.natAbs c) : Int) b) : Int)))) i) : Int))
   (blen (Int.toNat (w64 (Int.tdiv b (↑(Int.gcd (↑(Int.natAbs c) : Int) b) : Int))))) *
   valN (fun i => (↑(bitN (Int.toNat (w64 (Int.tdiv d (↑(Int.gcd (↑(Int.natAbs a) : Int) d) : Int)))) i) : Int))
   (blen (Int.toNat (w64 (Int.tdiv d (↑(Int.gcd (↑(Int.natAbs a) : Int) d) : Int))))))
   i) :
   Int))
   (blen
   (valN (fun i => (↑(bitN (Int.toNat (w64 (Int.tdiv b (↑(Int.gcd (↑(Int.natAbs c) : Int) b) : Int)))) i) : Int)) (blen (Int.toNat (w64 (Int.tdiv b (↑(Int.gcd (↑(Int.natAbs c) : Int) b) : Int))))) *
   valN (fun i => (↑(bitN (Int.toNat (w64 (Int.tdiv d (↑(Int.gcd (↑(Int.natAbs a) : Int) d) : Int)))) i) : Int))
   (blen (Int.toNat (w64 (Int.tdiv d (↑(Int.gcd (↑(Int.natAbs a) : Int) d) : Int))))))))),
   iv
   (finE
   (valN (fun i => (↑(bitN (Int.natAbs (w64 (Int.tdiv a (↑(Int.gcd (↑(Int.natAbs a) : Int) d) : Int))) * Int.natAbs (w64 (Int.tdiv c (↑(Int.gcd (↑(Int.natAbs c) : Int) b) : Int)))) i) : Int))
   (blen (Int.natAbs (w64 (Int.tdiv a (↑(Int.gcd (↑(Int.natAbs a) : Int) d) : Int))) * Int.natAbs (w64 (Int.tdiv c (↑(Int.gcd (↑(Int.natAbs c) : Int) b) : Int))))))
   (valN
   (fun i =>
   (↑(bitN
   (valN (fun i => (↑(bitN (Int.toNat (w64 (Int.tdiv b (↑(Int.gcd (↑(Int.natAbs c) : Int) b) : Int)))) i) : Int))
   (blen (Int.toNat (w64 (Int.tdiv b (↑(Int.gcd (↑(Int.natAbs c) : Int) b) : Int))))) *
   valN (fun i => (↑(bitN (Int.toNat (w64 (Int.tdiv d (↑(Int.gcd (↑(Int.natAbs a) : Int) d) : Int)))) i) : Int))
   (blen (Int.toNat (w64 (Int.tdiv d (↑(Int.gcd (↑(Int.natAbs a) : Int) d) : Int))))))
   i) :
   Int))
   (blen
   (valN (fun i => (↑(bitN (Int.toNat (w64 (Int.tdiv b (↑(Int.gcd (↑(Int.natAbs c) : Int) b) : Int)))) i) : Int)) (blen (Int.toNat (w64 (Int.tdiv b (↑(Int.gcd (↑(Int.natAbs c) : Int) b) : Int))))) *
   valN (fun i => (↑(bitN (Int.toNat (w64 (Int.tdiv d (↑(Int.gcd (↑(Int.natAbs a) : Int) d) : Int)))) i) : Int))
   (blen (Int.toNat (w64 (Int.tdiv d (↑(Int.gcd (↑(Int.natAbs a) : Int) d) : Int)))))))))])))))))))))))))

theorem LMulR_eq (a b c d : Int) : T4 15 [.agg [iv a, iv b], .agg [iv c, iv d]] = LMulR a b c d := by kernel_rfl

noncomputable def LCmpR (a b c d : Int) : Tree SV :=
  .need (((-9223372036854775807 : Int) ≤ a ∧ a ≤ (9223372036854775807 : Int)) ∧ (-9223372036854775807 : Int) ≤ d ∧ d ≤ (9223372036854775807 : Int))
  (.need (((-9223372036854775807 : Int) ≤ c ∧ c ≤ (9223372036854775807 : Int)) ∧ (-9223372036854775807 : Int) ≤ b ∧ b ≤ (9223372036854775807 : Int))
   (.need
   (blen (Int.natAbs a * Int.natAbs d) ≤ 500000 ∧
   blen (Int.natAbs c * Int.natAbs b) ≤ 500000 ∧
   (BitC (blen (Int.natAbs a * Int.natAbs d)) fun i x => DV.x (.int .i64 ((fun i => (↑(bitN (Int.natAbs a * Int.natAbs d) i) : Int)) i))) ∧
   BitC (blen (Int.natAbs c * Int.natAbs b)) fun i x => DV.x (.int .i64 ((fun i => (↑(bitN (Int.natAbs c * Int.natAbs b) i) : Int)) i)))
   (.ite
   ((↑(blen
   (sV (!decide (a < (0 : Int)) == decide (d < (0 : Int))) (valN (fun i => (↑(bitN (Int.natAbs a * Int.natAbs d) i) : Int)) (blen (Int.natAbs a * Int.natAbs d))) (!!decide (c < (0 : Int)) == decide (b < (0 : Int)))
   (valN (fun i => (↑(bitN (Int.natAbs c * Int.natAbs b) i) : Int)) (blen (Int.natAbs c * Int.natAbs b))))) :
   Int) ==
   (0 : Int))
   (.ret (iv (0 : Int)))
   (.ite
   (sN (!decide (a < (0 : Int)) == decide (d < (0 : Int))) (valN (fun i => (↑(bitN (Int.natAbs a * Int.natAbs d) i) : Int)) (blen (Int.natAbs a * Int.natAbs d))) (!!decide (c < (0 : Int)) == decide (b < (0 : Int)))
   (valN (fun i => (↑(bitN (Int.natAbs c * Int.natAbs b) i) : Int)) (blen (Int.natAbs c * Int.natAbs b))))
   (.ret (iv (-1 : Int))) (.ret (iv (1 : Int)))))))

theorem LCmpR_eq (a b c d : Int) : T4 19 [.agg [iv a, iv b], .agg [iv c, iv d]] = LCmpR a b c d := by kernel_rfl

noncomputable def LValR (a b : Int) : Tree SV :=
  .need
  ((decide (b ≥ (1 : Int)) && decide (b ≤ (4611686018427387904 : Int)) && decide (a ≥ (-4611686018427387904 : Int)) && decide (a ≤ (4611686018427387904 : Int))) = true → (-9223372036854775807 : Int) ≤ a ∧ a ≤ (9223372036854775807 : Int))
  (.need ((decide (b ≥ (1 : Int)) && decide (b ≤ (4611686018427387904 : Int)) && decide (a ≥ (-4611686018427387904 : Int)) && decide (a ≤ (4611686018427387904 : Int))) = true → (0 : Int) ≤ (↑(Int.natAbs a) : Int) ∧ (0 : Int) ≤ b)
    (.ret (bv (decide (b ≥ (1 : Int)) && decide (b ≤ (4611686018427387904 : Int)) && decide (a ≥ (-4611686018427387904 : Int)) && decide (a ≤ (4611686018427387904 : Int)) && (↑(Int.gcd (↑(Int.natAbs a) : Int) b) : Int) == (1 : Int)))))

theorem LValR_eq (a b : Int) : T4 8 [.agg [iv a, iv b]] = LValR a b := by kernel_rfl


end Go.Proofs.YtmdbfhkineaheaaGreatDoor

