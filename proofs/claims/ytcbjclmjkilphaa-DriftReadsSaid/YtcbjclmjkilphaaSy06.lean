/- Part of a proof of the given statements of this seat (SxMrWc): no conditions beyond those typed here. -/
import Derived.Test.YtcbjclmjkilphaaSy05
set_option linter.unusedVariables false
set_option linter.unusedSimpArgs false

namespace Go.Proofs.Ytcbjclmjkilphaa.Fr
open Go.Sx
set_option maxRecDepth 100000

noncomputable def cRm : Ctr := fun ss => match ss with
  | [.d (.x (.int .u64 y)), .d (.x (.int .u64 x)), .d (.x (.int .u64 d))] => .need (0 ≤ y ∧ (0 ≤ x ∧ x < 18446744073709551616) ∧ (1 ≤ d ∧ d < 18446744073709551616)) (.ret (u6 (wN y x % d.toNat : Nat)))
  | _ => .fail
theorem cRm_ok : CtrOK Try.prog 103 cRm := by
  refine ctrOK_leS C7_ok D7_ok (by kernel_rfl) (by kernel_rfl) fun ss r h => ?_
  unfold cRm at h
  split at h
  · rename_i y x d
    obtain ⟨⟨y0, ⟨x0, x1⟩, d0, d1⟩, rfl⟩ := h
    refine ⟨[u6 y, u6 x, u6 d], 200, .nil, by simp [leSVs, leSV, u6, leD], Sat.of_eq (LRm_eq y x d) ⟨?_⟩⟩
    unfold LRm
    rw [tmod_lit y0]
    have h1 := Int.emod_nonneg y (show d ≠ 0 by omega)
    have h2 := Int.emod_lt_of_pos y (show 0 < d by omega)
    refine ⟨by omega, ⟨⟨h1, h2⟩, ⟨x0, x1⟩, d1⟩, ?_⟩
    have : (y % d * 18446744073709551616 + x) % d = ((wN y x % d.toNat : Nat) : Int) := by
      rw [Int.add_emod, Int.mul_emod, Int.emod_emod, ← Int.mul_emod, ← Int.add_emod]
      unfold wN
      rw [Int.natCast_emod, Int.natCast_add, Int.natCast_mul, Int.toNat_of_nonneg y0, Int.toNat_of_nonneg x0, Int.toNat_of_nonneg (by omega)]
      rfl
    rw [this]; exact rfl
  · exact h.elim

noncomputable def cOv : Ctr := fun ss => match ss with
  | [.agg [.d (.x (.bool s)), .d (.x (.int .u64 h)), .d (.x (.int .u64 l))], .d (.x (.int .u64 m))] => .need ((0 ≤ h ∧ h < 18446744073709551616) ∧ (0 ≤ l ∧ l < 18446744073709551616) ∧ (1 ≤ m ∧ m < 18446744073709551616)) (.ret (wSV s (wN h l / m.toNat)))
  | _ => .fail
theorem cOv_ok : CtrOK Try.prog 104 cOv := by
  refine ctrOK_leS C7_ok D7_ok (by kernel_rfl) (by kernel_rfl) fun ss r h => ?_
  unfold cOv at h
  split at h
  · rename_i s h l m
    obtain ⟨⟨⟨h0, h1⟩, ⟨l0, l1⟩, m0, m1⟩, rfl⟩ := h
    refine ⟨[.agg [bv s, u6 h, u6 l], u6 m], 200, .nil, by simp [leSVs, leSV, u6, bv, leD], Sat.of_eq (LOv7_eq s h l m) ⟨?_⟩⟩
    unfold LOv7
    rw [tmod_lit h0, tdiv_nn h0]
    have e1 := Int.emod_nonneg h (show m ≠ 0 by omega)
    have e2 := Int.emod_lt_of_pos h (show 0 < m by omega)
    refine ⟨by omega, ⟨⟨e1, e2⟩, ⟨l0, l1⟩, m1⟩, by omega, ?_⟩
    have e3 := Int.ediv_nonneg h0 (show 0 ≤ m by omega)
    have e4 := Int.ediv_le_self m h0
    rw [wu_of e3 (by have := Int.ediv_le_self m h0; omega)]
    have e5 := Int.emod_add_mul_ediv h m
    have q0 : 0 ≤ (h % m * 18446744073709551616 + l) / m := Int.ediv_nonneg (by omega) (by omega)
    have q1 : (h % m * 18446744073709551616 + l) / m < 18446744073709551616 := Int.ediv_lt_of_lt_mul (by omega) (by omega)
    have key : ((wN h l / m.toNat : Nat) : Int) = h / m * 18446744073709551616 + (h % m * 18446744073709551616 + l) / m := by
      have : ((wN h l : Nat) : Int) = h * 18446744073709551616 + l := by unfold wN; omega
      rw [Int.natCast_ediv, this, Int.toNat_of_nonneg (by omega)]
      have : h * 18446744073709551616 + l = (h % m * 18446744073709551616 + l) + m * (h / m * 18446744073709551616) := by
        rw [← Int.mul_assoc]; omega
      rw [this, Int.add_mul_ediv_left _ _ (by omega), Int.add_comm]
    have k1 : ((wN h l / m.toNat / 18446744073709551616 : Nat) : Int) = h / m := by omega
    have k2 : ((wN h l / m.toNat % 18446744073709551616 : Nat) : Int) = (h % m * 18446744073709551616 + l) / m := by omega
    unfold wSV
    rw [k1, k2]; exact rfl
  · exact h.elim

noncomputable def man8 : FuncId → Option Ctr := fun k => match k with
  | 104 => some cOv
  | 103 => some cRm
  | k => man7 k
theorem man8_ok (k : Nat) (c : Ctr) (h : man8 k = some c) : CtrOK Try.prog k c ∧ goodF Try.prog k = true := by
  unfold man8 at h
  split at h
  · cases h; exact ⟨cOv_ok, by kernel_rfl⟩
  · cases h; exact ⟨cRm_ok, by kernel_rfl⟩
  · exact man7_ok _ _ h
noncomputable def C8 : Ctx := ctxN Try.prog man8 (fun _ => false) 200 .nil 6
theorem C8_ok : CtxOK Try.prog C8 := ctxN_ok mixed man8_ok 6
noncomputable def D8 : Dr := fun _ => drawn Try.prog C8
theorem D8_ok : DrOK Try.prog C8 D8 := drawn_ok C8_ok mixed
noncomputable def T8 (k : Nat) (args : List SV) : Tree SV := fnT Try.prog C8 D8 200 (fnOf Try.prog k) (bodyOf Try.prog k) args .nil

noncomputable def LAd (a b c d : Int) : Tree SV :=
  .need (2 ≤ List.length [SV.d (DV.x (.int .u64 (IntKind.wrap .u64 b))), SV.d (DV.x (.int .u64 (IntKind.wrap .u64 d)))])
  (.need ((0 : Int) ≤ IntKind.wrap .u64 b ∧ (0 : Int) ≤ IntKind.wrap .u64 d)
   (.need (w64 (↑(Int.gcd (IntKind.wrap .u64 b) (IntKind.wrap .u64 d)) : Int) ≠ (0 : Int))
   (.need
   (((-9223372036854775808 : Int) ≤ a ∧ a ≤ (9223372036854775807 : Int)) ∧
   (-9223372036854775808 : Int) ≤ w64 (Int.tdiv d (w64 (↑(Int.gcd (IntKind.wrap .u64 b) (IntKind.wrap .u64 d)) : Int))) ∧
   w64 (Int.tdiv d (w64 (↑(Int.gcd (IntKind.wrap .u64 b) (IntKind.wrap .u64 d)) : Int))) ≤ (9223372036854775807 : Int))
   (.need (w64 (↑(Int.gcd (IntKind.wrap .u64 b) (IntKind.wrap .u64 d)) : Int) ≠ (0 : Int))
   (.need
   (((-9223372036854775808 : Int) ≤ c ∧ c ≤ (9223372036854775807 : Int)) ∧
   (-9223372036854775808 : Int) ≤ w64 (Int.tdiv b (w64 (↑(Int.gcd (IntKind.wrap .u64 b) (IntKind.wrap .u64 d)) : Int))) ∧
   w64 (Int.tdiv b (w64 (↑(Int.gcd (IntKind.wrap .u64 b) (IntKind.wrap .u64 d)) : Int))) ≤ (9223372036854775807 : Int))
   (.need
   (((0 : Int) ≤ (↑(Int.natAbs a * Int.natAbs (w64 (Int.tdiv d (w64 (↑(Int.gcd (IntKind.wrap .u64 b) (IntKind.wrap .u64 d)) : Int)))) / 18446744073709551616) : Int) ∧
   (↑(Int.natAbs a * Int.natAbs (w64 (Int.tdiv d (w64 (↑(Int.gcd (IntKind.wrap .u64 b) (IntKind.wrap .u64 d)) : Int)))) / 18446744073709551616) : Int) < (9223372036854775808 : Int)) ∧
   ((0 : Int) ≤ (↑(Int.natAbs a * Int.natAbs (w64 (Int.tdiv d (w64 (↑(Int.gcd (IntKind.wrap .u64 b) (IntKind.wrap .u64 d)) : Int)))) % 18446744073709551616) : Int) ∧
   (↑(Int.natAbs a * Int.natAbs (w64 (Int.tdiv d (w64 (↑(Int.gcd (IntKind.wrap .u64 b) (IntKind.wrap .u64 d)) : Int)))) % 18446744073709551616) : Int) < (18446744073709551616 : Int)) ∧
   ((0 : Int) ≤ (↑(Int.natAbs c * Int.natAbs (w64 (Int.tdiv b (w64 (↑(Int.gcd (IntKind.wrap .u64 b) (IntKind.wrap .u64 d)) : Int)))) / 18446744073709551616) : Int) ∧
   (↑(Int.natAbs c * Int.natAbs (w64 (Int.tdiv b (w64 (↑(Int.gcd (IntKind.wrap .u64 b) (IntKind.wrap .u64 d)) : Int)))) / 18446744073709551616) : Int) < (9223372036854775808 : Int)) ∧
   (0 : Int) ≤ (↑(Int.natAbs c * Int.natAbs (w64 (Int.tdiv b (w64 (↑(Int.gcd (IntKind.wrap .u64 b) (IntKind.wrap .u64 d)) : Int)))) % 18446744073709551616) : Int) ∧
   (↑(Int.natAbs c * Int.natAbs (w64 (Int.tdiv b (w64 (↑(Int.gcd (IntKind.wrap .u64 b) (IntKind.wrap .u64 d)) : Int)))) % 18446744073709551616) : Int) < (18446744073709551616 : Int))
   (.ite
   ((↑(sV (!decide (a < (0 : Int)) == decide (w64 (Int.tdiv d (w64 (↑(Int.gcd (IntKind.wrap .u64 b) (IntKind.wrap .u64 d)) : Int))) < (0 : Int)))
   (wN (↑(Int.natAbs a * Int.natAbs (w64 (Int.tdiv d (w64 (↑(Int.gcd (IntKind.wrap .u64 b) (IntKind.wrap .u64 d)) : Int)))) / 18446744073709551616) : Int)
   (↑(Int.natAbs a * Int.natAbs (w64 (Int.tdiv d (w64 (↑(Int.gcd (IntKind.wrap .u64 b) (IntKind.wrap .u64 d)) : Int)))) % 18446744073709551616) : Int))
   (!decide (c < (0 : Int)) == decide (w64 (Int.tdiv b (w64 (↑(Int.gcd (IntKind.wrap .u64 b) (IntKind.wrap .u64 d)) : Int))) < (0 : Int)))
   (wN (↑(Int.natAbs c * Int.natAbs (w64 (Int.tdiv b (w64 (↑(Int.gcd (IntKind.wrap .u64 b) (IntKind.wrap .u64 d)) : Int)))) / 18446744073709551616) : Int)
   (↑(Int.natAbs c * Int.natAbs (w64 (Int.tdiv b (w64 (↑(Int.gcd (IntKind.wrap .u64 b) (IntKind.wrap .u64 d)) : Int)))) % 18446744073709551616) : Int)) /
   18446744073709551616) :
   Int) ==
   (0 : Int) &&
   (↑(sV (!decide (a < (0 : Int)) == decide (w64 (Int.tdiv d (w64 (↑(Int.gcd (IntKind.wrap .u64 b) (IntKind.wrap .u64 d)) : Int))) < (0 : Int)))
   (wN (↑(Int.natAbs a * Int.natAbs (w64 (Int.tdiv d (w64 (↑(Int.gcd (IntKind.wrap .u64 b) (IntKind.wrap .u64 d)) : Int)))) / 18446744073709551616) : Int)
   (↑(Int.natAbs a * Int.natAbs (w64 (Int.tdiv d (w64 (↑(Int.gcd (IntKind.wrap .u64 b) (IntKind.wrap .u64 d)) : Int)))) % 18446744073709551616) : Int))
   (!decide (c < (0 : Int)) == decide (w64 (Int.tdiv b (w64 (↑(Int.gcd (IntKind.wrap .u64 b) (IntKind.wrap .u64 d)) : Int))) < (0 : Int)))
   (wN (↑(Int.natAbs c * Int.natAbs (w64 (Int.tdiv b (w64 (↑(Int.gcd (IntKind.wrap .u64 b) (IntKind.wrap .u64 d)) : Int)))) / 18446744073709551616) : Int)
   (↑(Int.natAbs c * Int.natAbs (w64 (Int.tdiv b (w64 (↑(Int.gcd (IntKind.wrap .u64 b) (IntKind.wrap .u64 d)) : Int)))) % 18446744073709551616) : Int)) %
   18446744073709551616) :
   Int) ==
   (0 : Int))
   (.ret (SV.tup [SV.agg [iv (0 : Int), iv (1 : Int)], iv (0 : Int)]))
   (.need
   ((0 : Int) ≤
   (↑(sV (!decide (a < (0 : Int)) == decide (w64 (Int.tdiv d (w64 (↑(Int.gcd (IntKind.wrap .u64 b) (IntKind.wrap .u64 d)) : Int))) < (0 : Int)))
   (wN (↑(Int.natAbs a * Int.natAbs (w64 (Int.tdiv d (w64 (↑(Int.gcd (IntKind.wrap .u64 b) (IntKind.wrap .u64 d)) : Int)))) / 18446744073709551616) : Int)
   (↑(Int.natAbs a * Int.natAbs (w64 (Int.tdiv d (w64 (↑(Int.gcd (IntKind.wrap .u64 b) (IntKind.wrap .u64 d)) : Int)))) % 18446744073709551616) : Int))
   (!decide (c < (0 : Int)) == decide (w64 (Int.tdiv b (w64 (↑(Int.gcd (IntKind.wrap .u64 b) (IntKind.wrap .u64 d)) : Int))) < (0 : Int)))
   (wN (↑(Int.natAbs c * Int.natAbs (w64 (Int.tdiv b (w64 (↑(Int.gcd (IntKind.wrap .u64 b) (IntKind.wrap .u64 d)) : Int)))) / 18446744073709551616) : Int)
   (↑(Int.natAbs c * Int.natAbs (w64 (Int.tdiv b (w64 (↑(Int.gcd (IntKind.wrap .u64 b) (IntKind.wrap .u64 d)) : Int)))) % 18446744073709551616) : Int)) /
   18446744073709551616) :
   Int) ∧
   ((0 : Int) ≤
   (↑(sV (!decide (a < (0 : Int)) == decide (w64 (Int.tdiv d (w64 (↑(Int.gcd (IntKind.wrap .u64 b) (IntKind.wrap .u64 d)) : Int))) < (0 : Int)))
   (wN (↑(Int.natAbs a * Int.natAbs (w64 (Int.tdiv d (w64 (↑(Int.gcd (IntKind.wrap .u64 b) (IntKind.wrap .u64 d)) : Int)))) / 18446744073709551616) : Int)
   (↑(Int.natAbs a * Int.natAbs (w64 (Int.tdiv d (w64 (↑(Int.gcd (IntKind.wrap .u64 b) (IntKind.wrap .u64 d)) : Int)))) % 18446744073709551616) : Int))
   (!decide (c < (0 : Int)) == decide (w64 (Int.tdiv b (w64 (↑(Int.gcd (IntKind.wrap .u64 b) (IntKind.wrap .u64 d)) : Int))) < (0 : Int)))
   (wN (↑(Int.natAbs c * Int.natAbs (w64 (Int.tdiv b (w64 (↑(Int.gcd (IntKind.wrap .u64 b) (IntKind.wrap .u64 d)) : Int)))) / 18446744073709551616) : Int)
   (↑(Int.natAbs c * Int.natAbs (w64 (Int.tdiv b (w64 (↑(Int.gcd (IntKind.wrap .u64 b) (IntKind.wrap .u64 d)) : Int)))) % 18446744073709551616) : Int)) %
   18446744073709551616) :
   Int) ∧
   (↑(sV (!decide (a < (0 : Int)) == decide (w64 (Int.tdiv d (w64 (↑(Int.gcd (IntKind.wrap .u64 b) (IntKind.wrap .u64 d)) : Int))) < (0 : Int)))
   (wN (↑(Int.natAbs a * Int.natAbs (w64 (Int.tdiv d (w64 (↑(Int.gcd (IntKind.wrap .u64 b) (IntKind.wrap .u64 d)) : Int)))) / 18446744073709551616) : Int)
   (↑(Int.natAbs a * Int.natAbs (w64 (Int.tdiv d (w64 (↑(Int.gcd (IntKind.wrap .u64 b) (IntKind.wrap .u64 d)) : Int)))) % 18446744073709551616) : Int))
   (!decide (c < (0 : Int)) == decide (w64 (Int.tdiv b (w64 (↑(Int.gcd (IntKind.wrap .u64 b) (IntKind.wrap .u64 d)) : Int))) < (0 : Int)))
   (wN (↑(Int.natAbs c * Int.natAbs (w64 (Int.tdiv b (w64 (↑(Int.gcd (IntKind.wrap .u64 b) (IntKind.wrap .u64 d)) : Int)))) / 18446744073709551616) : Int)
   (↑(Int.natAbs c * Int.natAbs (w64 (Int.tdiv b (w64 (↑(Int.gcd (IntKind.wrap .u64 b) (IntKind.wrap .u64 d)) : Int)))) % 18446744073709551616) : Int)) %
   18446744073709551616) :
   Int) <
   (18446744073709551616 : Int)) ∧
   (1 : Int) ≤ (↑(Int.gcd (IntKind.wrap .u64 b) (IntKind.wrap .u64 d)) : Int) ∧ (↑(Int.gcd (IntKind.wrap .u64 b) (IntKind.wrap .u64 d)) : Int) < (18446744073709551616 : Int))
   (.need
   (2 ≤
   List.length
   [SV.d
   (DV.x
   (.int .u64
   (↑(wN
   (↑(sV (!decide (a < (0 : Int)) == decide (w64 (Int.tdiv d (w64 (↑(Int.gcd (IntKind.wrap .u64 b) (IntKind.wrap .u64 d)) : Int))) < (0 : Int)))
   (wN (↑(Int.natAbs a * Int.natAbs (w64 (Int.tdiv d (w64 (↑(Int.gcd (IntKind.wrap .u64 b) (IntKind.wrap .u64 d)) : Int)))) / 18446744073709551616) : Int)
   (↑(Int.natAbs a * Int.natAbs (w64 (Int.tdiv d (w64 (↑(Int.gcd (IntKind.wrap .u64 b) (IntKind.wrap .u64 d)) : Int)))) % 18446744073709551616) : Int))
   (!decide (c < (0 : Int)) == decide (w64 (Int.tdiv b (w64 (↑(Int.gcd (IntKind.wrap .u64 b) (IntKind.wrap .u64 d)) : Int))) < (0 : Int)))
   (wN (↑(Int.natAbs c * Int.natAbs (w64 (Int.tdiv b (w64 (↑(Int.gcd (IntKind.wrap .u64 b) (IntKind.wrap .u64 d)) : Int)))) / 18446744073709551616) : Int)
   (↑(Int.natAbs c * Int.natAbs (w64 (Int.tdiv b (w64 (↑(Int.gcd (IntKind.wrap .u64 b) (IntKind.wrap .u64 d)) : Int)))) % 18446744073709551616) : Int)) /
   18446744073709551616) :
   Int)
   (↑(sV (!decide (a < (0 : Int)) == decide (w64 (Int.tdiv d (w64 (↑(Int.gcd (IntKind.wrap .u64 b) (IntKind.wrap .u64 d)) : Int))) < (0 : Int)))
   (wN (↑(Int.natAbs a * Int.natAbs (w64 (Int.tdiv d (w64 (↑(Int.gcd (IntKind.wrap .u64 b) (IntKind.wrap .u64 d)) : Int)))) / 18446744073709551616) : Int)
   (↑(Int.natAbs a * Int.natAbs (w64 (Int.tdiv d (w64 (↑(Int.gcd (IntKind.wrap .u64 b) (IntKind.wrap .u64 d)) : Int)))) % 18446744073709551616) : Int))
   (!decide (c < (0 : Int)) == decide (w64 (Int.tdiv b (w64 (↑(Int.gcd (IntKind.wrap .u64 b) (IntKind.wrap .u64 d)) : Int))) < (0 : Int)))
   (wN (↑(Int.natAbs c * Int.natAbs (w64 (Int.tdiv b (w64 (↑(Int.gcd (IntKind.wrap .u64 b) (IntKind.wrap .u64 d)) : Int)))) / 18446744073709551616) : Int)
   (↑(Int.natAbs c * Int.natAbs (w64 (Int.tdiv b (w64 (↑(Int.gcd (IntKind.wrap .u64 b) (IntKind.wrap .u64 d)) : Int)))) % 18446744073709551616) : Int)) %
   18446744073709551616) :
   Int) %
   Int.toNat (↑(Int.gcd (IntKind.wrap .u64 b) (IntKind.wrap .u64 d)) : Int)) :
   Int))),
   SV.d (DV.x (.int .u64 (↑(Int.gcd (IntKind.wrap .u64 b) (IntKind.wrap .u64 d)) : Int)))])
   (.need
   ((0 : Int) ≤
   (↑(wN
   (↑(sV (!decide (a < (0 : Int)) == decide (w64 (Int.tdiv d (w64 (↑(Int.gcd (IntKind.wrap .u64 b) (IntKind.wrap .u64 d)) : Int))) < (0 : Int)))
   (wN (↑(Int.natAbs a * Int.natAbs (w64 (Int.tdiv d (w64 (↑(Int.gcd (IntKind.wrap .u64 b) (IntKind.wrap .u64 d)) : Int)))) / 18446744073709551616) : Int)
   (↑(Int.natAbs a * Int.natAbs (w64 (Int.tdiv d (w64 (↑(Int.gcd (IntKind.wrap .u64 b) (IntKind.wrap .u64 d)) : Int)))) % 18446744073709551616) : Int))
   (!decide (c < (0 : Int)) == decide (w64 (Int.tdiv b (w64 (↑(Int.gcd (IntKind.wrap .u64 b) (IntKind.wrap .u64 d)) : Int))) < (0 : Int)))
   (wN (↑(Int.natAbs c * Int.natAbs (w64 (Int.tdiv b (w64 (↑(Int.gcd (IntKind.wrap .u64 b) (IntKind.wrap .u64 d)) : Int)))) / 18446744073709551616) : Int)
   (↑(Int.natAbs c * Int.natAbs (w64 (Int.tdiv b (w64 (↑(Int.gcd (IntKind.wrap .u64 b) (IntKind.wrap .u64 d)) : Int)))) % 18446744073709551616) : Int)) /
   18446744073709551616) :
   Int)
   (↑(sV (!decide (a < (0 : Int)) == decide (w64 (Int.tdiv d (w64 (↑(Int.gcd (IntKind.wrap .u64 b) (IntKind.wrap .u64 d)) : Int))) < (0 : Int)))
   (wN (↑(Int.natAbs a * Int.natAbs (w64 (Int.tdiv d (w64 (↑(Int.gcd (IntKind.wrap .u64 b) (IntKind.wrap .u64 d)) : Int)))) / 18446744073709551616) : Int)
   (↑(Int.natAbs a * Int.natAbs (w64 (Int.tdiv d (w64 (↑(Int.gcd (IntKind.wrap .u64 b) (IntKind.wrap .u64 d)) : Int)))) % 18446744073709551616) : Int))
   (!decide (c < (0 : Int)) == decide (w64 (Int.tdiv b (w64 (↑(Int.gcd (IntKind.wrap .u64 b) (IntKind.wrap .u64 d)) : Int))) < (0 : Int)))
   (wN (↑(Int.natAbs c * Int.natAbs (w64 (Int.tdiv b (w64 (↑(Int.gcd (IntKind.wrap .u64 b) (IntKind.wrap .u64 d)) : Int)))) / 18446744073709551616) : Int)
   (↑(Int.natAbs c * Int.natAbs (w64 (Int.tdiv b (w64 (↑(Int.gcd (IntKind.wrap .u64 b) (IntKind.wrap .u64 d)) : Int)))) % 18446744073709551616) : Int)) %
   18446744073709551616) :
   Int) %
   Int.toNat (↑(Int.gcd (IntKind.wrap .u64 b) (IntKind.wrap .u64 d)) : Int)) :
   Int) ∧
   (0 : Int) ≤ (↑(Int.gcd (IntKind.wrap .u64 b) (IntKind.wrap .u64 d)) : Int))
   (.need
   (((0 : Int) ≤
   (↑(sV (!decide (a < (0 : Int)) == decide (w64 (Int.tdiv d (w64 (↑(Int.gcd (IntKind.wrap .u64 b) (IntKind.wrap .u64 d)) : Int))) < (0 : Int)))
   (wN (↑(Int.natAbs a * Int.natAbs (w64 (Int.tdiv d (w64 (↑(Int.gcd (IntKind.wrap .u64 b) (IntKind.wrap .u64 d)) : Int)))) / 18446744073709551616) : Int)
   (↑(Int.natAbs a * Int.natAbs (w64 (Int.tdiv d (w64 (↑(Int.gcd (IntKind.wrap .u64 b) (IntKind.wrap .u64 d)) : Int)))) % 18446744073709551616) : Int))
   (!decide (c < (0 : Int)) == decide (w64 (Int.tdiv b (w64 (↑(Int.gcd (IntKind.wrap .u64 b) (IntKind.wrap .u64 d)) : Int))) < (0 : Int)))
   (wN (↑(Int.natAbs c * Int.natAbs (w64 (Int.tdiv b (w64 (↑(Int.gcd (IntKind.wrap .u64 b) (IntKind.wrap .u64 d)) : Int)))) / 18446744073709551616) : Int)
   (↑(Int.natAbs c * Int.natAbs (w64 (Int.tdiv b (w64 (↑(Int.gcd (IntKind.wrap .u64 b) (IntKind.wrap .u64 d)) : Int)))) % 18446744073709551616) : Int)) /
   18446744073709551616) :
   Int) ∧
   (↑(sV (!decide (a < (0 : Int)) == decide (w64 (Int.tdiv d (w64 (↑(Int.gcd (IntKind.wrap .u64 b) (IntKind.wrap .u64 d)) : Int))) < (0 : Int)))
   (wN (↑(Int.natAbs a * Int.natAbs (w64 (Int.tdiv d (w64 (↑(Int.gcd (IntKind.wrap .u64 b) (IntKind.wrap .u64 d)) : Int)))) / 18446744073709551616) : Int)
   (↑(Int.natAbs a * Int.natAbs (w64 (Int.tdiv d (w64 (↑(Int.gcd (IntKind.wrap .u64 b) (IntKind.wrap .u64 d)) : Int)))) % 18446744073709551616) : Int))
   (!decide (c < (0 : Int)) == decide (w64 (Int.tdiv b (w64 (↑(Int.gcd (IntKind.wrap .u64 b) (IntKind.wrap .u64 d)) : Int))) < (0 : Int)))
   (wN (↑(Int.natAbs c * Int.natAbs (w64 (Int.tdiv b (w64 (↑(Int.gcd (IntKind.wrap .u64 b) (IntKind.wrap .u64 d)) : Int)))) / 18446744073709551616) : Int)
   (↑(Int.natAbs c * Int.natAbs (w64 (Int.tdiv b (w64 (↑(Int.gcd (IntKind.wrap .u64 b) (IntKind.wrap .u64 d)) : Int)))) % 18446744073709551616) : Int)) /
   18446744073709551616) :
   Int) <
   (18446744073709551616 : Int)) ∧
   ((0 : Int) ≤
   (↑(sV (!decide (a < (0 : Int)) == decide (w64 (Int.tdiv d (w64 (↑(Int.gcd (IntKind.wrap .u64 b) (IntKind.wrap .u64 d)) : Int))) < (0 : Int)))
   (wN (↑(Int.natAbs a * Int.natAbs (w64 (Int.tdiv d (w64 (↑(Int.gcd (IntKind.wrap .u64 b) (IntKind.wrap .u64 d)) : Int)))) / 18446744073709551616) : Int)
   (↑(Int.natAbs a * Int.natAbs (w64 (Int.tdiv d (w64 (↑(Int.gcd (IntKind.wrap .u64 b) (IntKind.wrap .u64 d)) : Int)))) % 18446744073709551616) : Int))
   (!decide (c < (0 : Int)) == decide (w64 (Int.tdiv b (w64 (↑(Int.gcd (IntKind.wrap .u64 b) (IntKind.wrap .u64 d)) : Int))) < (0 : Int)))
   (wN (↑(Int.natAbs c * Int.natAbs (w64 (Int.tdiv b (w64 (↑(Int.gcd (IntKind.wrap .u64 b) (IntKind.wrap .u64 d)) : Int)))) / 18446744073709551616) : Int)
   (↑(Int.natAbs c * Int.natAbs (w64 (Int.tdiv b (w64 (↑(Int.gcd (IntKind.wrap .u64 b) (IntKind.wrap .u64 d)) : Int)))) % 18446744073709551616) : Int)) %
   18446744073709551616) :
   Int) ∧
   (↑(sV (!decide (a < (0 : Int)) == decide (w64 (Int.tdiv d (w64 (↑(Int.gcd (IntKind.wrap .u64 b) (IntKind.wrap .u64 d)) : Int))) < (0 : Int)))
   (wN (↑(Int.natAbs a * Int.natAbs (w64 (Int.tdiv d (w64 (↑(Int.gcd (IntKind.wrap .u64 b) (IntKind.wrap .u64 d)) : Int)))) / 18446744073709551616) : Int)
   (↑(Int.natAbs a * Int.natAbs (w64 (Int.tdiv d (w64 (↑(Int.gcd (IntKind.wrap .u64 b) (IntKind.wrap .u64 d)) : Int)))) % 18446744073709551616) : Int))
   (!decide (c < (0 : Int)) == decide (w64 (Int.tdiv b (w64 (↑(Int.gcd (IntKind.wrap .u64 b) (IntKind.wrap .u64 d)) : Int))) < (0 : Int)))
   (wN (↑(Int.natAbs c * Int.natAbs (w64 (Int.tdiv b (w64 (↑(Int.gcd (IntKind.wrap .u64 b) (IntKind.wrap .u64 d)) : Int)))) / 18446744073709551616) : Int)
   (↑(Int.natAbs c * Int.natAbs (w64 (Int.tdiv b (w64 (↑(Int.gcd (IntKind.wrap .u64 b) (IntKind.wrap .u64 d)) : Int)))) % 18446744073709551616) : Int)) %
   18446744073709551616) :
   Int) <
   (18446744073709551616 : Int)) ∧
   (1 : Int) ≤
   (↑(Int.gcd
   (↑(wN
   (↑(sV (!decide (a < (0 : Int)) == decide (w64 (Int.tdiv d (w64 (↑(Int.gcd (IntKind.wrap .u64 b) (IntKind.wrap .u64 d)) : Int))) < (0 : Int)))
   (wN (↑(Int.natAbs a * Int.natAbs (w64 (Int.tdiv d (w64 (↑(Int.gcd (IntKind.wrap .u64 b) (IntKind.wrap .u64 d)) : Int)))) / 18446744073709551616) : Int)
   (↑(Int.natAbs a * Int.natAbs (w64 (Int.tdiv d (w64 (↑(Int.gcd (IntKind.wrap .u64 b) (IntKind.wrap .u64 d)) : Int)))) % 18446744073709551616) : Int))
   (!decide (c < (0 : Int)) == decide (w64 (Int.tdiv b (w64 (↑(Int.gcd (IntKind.wrap .u64 b) (IntKind.wrap .u64 d)) : Int))) < (0 : Int)))
   (wN (↑(Int.natAbs c * Int.natAbs (w64 (Int.tdiv b (w64 (↑(Int.gcd (IntKind.wrap .u64 b) (IntKind.wrap .u64 d)) : Int)))) / 18446744073709551616) : Int)
   (↑(Int.natAbs c * Int.natAbs (w64 (Int.tdiv b (w64 (↑(Int.gcd (IntKind.wrap .u64 b) (IntKind.wrap .u64 d)) : Int)))) % 18446744073709551616) : Int)) /
   18446744073709551616) :
   Int)
   (↑(sV (!decide (a < (0 : Int)) == decide (w64 (Int.tdiv d (w64 (↑(Int.gcd (IntKind.wrap .u64 b) (IntKind.wrap .u64 d)) : Int))) < (0 : Int)))
   (wN (↑(Int.natAbs a * Int.natAbs (w64 (Int.tdiv d (w64 (↑(Int.gcd (IntKind.wrap .u64 b) (IntKind.wrap .u64 d)) : Int)))) / 18446744073709551616) : Int)
   (↑(Int.natAbs a * Int.natAbs (w64 (Int.tdiv d (w64 (↑(Int.gcd (IntKind.wrap .u64 b) (IntKind.wrap .u64 d)) : Int)))) % 18446744073709551616) : Int))
   (!decide (c < (0 : Int)) == decide (w64 (Int.tdiv b (w64 (↑(Int.gcd (IntKind.wrap .u64 b) (IntKind.wrap .u64 d)) : Int))) < (0 : Int)))
   (wN (↑(Int.natAbs c * Int.natAbs (w64 (Int.tdiv b (w64 (↑(Int.gcd (IntKind.wrap .u64 b) (IntKind.wrap .u64 d)) : Int)))) / 18446744073709551616) : Int)
   (↑(Int.natAbs c * Int.natAbs (w64 (Int.tdiv b (w64 (↑(Int.gcd (IntKind.wrap .u64 b) (IntKind.wrap .u64 d)) : Int)))) % 18446744073709551616) : Int)) %
   18446744073709551616) :
   Int) %
   Int.toNat (↑(Int.gcd (IntKind.wrap .u64 b) (IntKind.wrap .u64 d)) : Int)) :
   Int)
   (↑(Int.gcd (IntKind.wrap .u64 b) (IntKind.wrap .u64 d)) : Int)) :
   Int) ∧
   (↑(Int.gcd
   (↑(wN
   (↑(sV (!decide (a < (0 : Int)) == decide (w64 (Int.tdiv d (w64 (↑(Int.gcd (IntKind.wrap .u64 b) (IntKind.wrap .u64 d)) : Int))) < (0 : Int)))
   (wN (↑(Int.natAbs a * Int.natAbs (w64 (Int.tdiv d (w64 (↑(Int.gcd (IntKind.wrap .u64 b) (IntKind.wrap .u64 d)) : Int)))) / 18446744073709551616) : Int)
   (↑(Int.natAbs a * Int.natAbs (w64 (Int.tdiv d (w64 (↑(Int.gcd (IntKind.wrap .u64 b) (IntKind.wrap .u64 d)) : Int)))) % 18446744073709551616) : Int))
   (!decide (c < (0 : Int)) == decide (w64 (Int.tdiv b (w64 (↑(Int.gcd (IntKind.wrap .u64 b) (IntKind.wrap .u64 d)) : Int))) < (0 : Int)))
   (wN (↑(Int.natAbs c * Int.natAbs (w64 (Int.tdiv b (w64 (↑(Int.gcd (IntKind.wrap .u64 b) (IntKind.wrap .u64 d)) : Int)))) / 18446744073709551616) : Int)
   (↑(Int.natAbs c * Int.natAbs (w64 (Int.tdiv b (w64 (↑(Int.gcd (IntKind.wrap .u64 b) (IntKind.wrap .u64 d)) : Int)))) % 18446744073709551616) : Int)) /
   18446744073709551616) :
   Int)
   (↑(sV (!decide (a < (0 : Int)) == decide (w64 (Int.tdiv d (w64 (↑(Int.gcd (IntKind.wrap .u64 b) (IntKind.wrap .u64 d)) : Int))) < (0 : Int)))
   (wN (↑(Int.natAbs a * Int.natAbs (w64 (Int.tdiv d (w64 (↑(Int.gcd (IntKind.wrap .u64 b) (IntKind.wrap .u64 d)) : Int)))) / 18446744073709551616) : Int)
   (↑(Int.natAbs a * Int.natAbs (w64 (Int.tdiv d (w64 (↑(Int.gcd (IntKind.wrap .u64 b) (IntKind.wrap .u64 d)) : Int)))) % 18446744073709551616) : Int))
   (!decide (c < (0 : Int)) == decide (w64 (Int.tdiv b (w64 (↑(Int.gcd (IntKind.wrap .u64 b) (IntKind.wrap .u64 d)) : Int))) < (0 : Int)))
   (wN (↑(Int.natAbs c * Int.natAbs (w64 (Int.tdiv b (w64 (↑(Int.gcd (IntKind.wrap .u64 b) (IntKind.wrap .u64 d)) : Int)))) / 18446744073709551616) : Int)
   (↑(Int.natAbs c * Int.natAbs (w64 (Int.tdiv b (w64 (↑(Int.gcd (IntKind.wrap .u64 b) (IntKind.wrap .u64 d)) : Int)))) % 18446744073709551616) : Int)) %
   18446744073709551616) :
   Int) %
   Int.toNat (↑(Int.gcd (IntKind.wrap .u64 b) (IntKind.wrap .u64 d)) : Int)) :
   Int)
   (↑(Int.gcd (IntKind.wrap .u64 b) (IntKind.wrap .u64 d)) : Int)) :
   Int) <
   (18446744073709551616 : Int))
   (.need (w64 (↑(Int.gcd (IntKind.wrap .u64 b) (IntKind.wrap .u64 d)) : Int) ≠ (0 : Int))
   (.need
   (w64
   (↑(Int.gcd
   (↑(wN
   (↑(sV (!decide (a < (0 : Int)) == decide (w64 (Int.tdiv d (w64 (↑(Int.gcd (IntKind.wrap .u64 b) (IntKind.wrap .u64 d)) : Int))) < (0 : Int)))
   (wN (↑(Int.natAbs a * Int.natAbs (w64 (Int.tdiv d (w64 (↑(Int.gcd (IntKind.wrap .u64 b) (IntKind.wrap .u64 d)) : Int)))) / 18446744073709551616) : Int)
   (↑(Int.natAbs a * Int.natAbs (w64 (Int.tdiv d (w64 (↑(Int.gcd (IntKind.wrap .u64 b) (IntKind.wrap .u64 d)) : Int)))) % 18446744073709551616) : Int))
   (!decide (c < (0 : Int)) == decide (w64 (Int.tdiv b (w64 (↑(Int.gcd (IntKind.wrap .u64 b) (IntKind.wrap .u64 d)) : Int))) < (0 : Int)))
   (wN (↑(Int.natAbs c * Int.natAbs (w64 (Int.tdiv b (w64 (↑(Int.gcd (IntKind.wrap .u64 b) (IntKind.wrap .u64 d)) : Int)))) / 18446744073709551616) : Int)
   (↑(Int.natAbs c * Int.natAbs (w64 (Int.tdiv b (w64 (↑(Int.gcd (IntKind.wrap .u64 b) (IntKind.wrap .u64 d)) : Int)))) % 18446744073709551616) : Int)) /
   18446744073709551616) :
   Int)
   (↑(sV (!decide (a < (0 : Int)) == decide (w64 (Int.tdiv d (w64 (↑(Int.gcd (IntKind.wrap .u64 b) (IntKind.wrap .u64 d)) : Int))) < (0 : Int)))
   (wN (↑(Int.natAbs a * Int.natAbs (w64 (Int.tdiv d (w64 (↑(Int.gcd (IntKind.wrap .u64 b) (IntKind.wrap .u64 d)) : Int)))) / 18446744073709551616) : Int)
   (↑(Int.natAbs a * Int.natAbs (w64 (Int.tdiv d (w64 (↑(Int.gcd (IntKind.wrap .u64 b) (IntKind.wrap .u64 d)) : Int)))) % 18446744073709551616) : Int))
   (!decide (c < (0 : Int)) == decide (w64 (Int.tdiv b (w64 (↑(Int.gcd (IntKind.wrap .u64 b) (IntKind.wrap .u64 d)) : Int))) < (0 : Int)))
   (wN (↑(Int.natAbs c * Int.natAbs (w64 (Int.tdiv b (w64 (↑(Int.gcd (IntKind.wrap .u64 b) (IntKind.wrap .u64 d)) : Int)))) / 18446744073709551616) : Int)
   (↑(Int.natAbs c * Int.natAbs (w64 (Int.tdiv b (w64 (↑(Int.gcd (IntKind.wrap .u64 b) (IntKind.wrap .u64 d)) : Int)))) % 18446744073709551616) : Int)) %
   18446744073709551616) :
   Int) %
   Int.toNat (↑(Int.gcd (IntKind.wrap .u64 b) (IntKind.wrap .u64 d)) : Int)) :
   Int)
   (↑(Int.gcd (IntKind.wrap .u64 b) (IntKind.wrap .u64 d)) : Int)) :
   Int) ≠
   (0 : Int))
   (.need
   (((-9223372036854775808 : Int) ≤ w64 (Int.tdiv b (w64 (↑(Int.gcd (IntKind.wrap .u64 b) (IntKind.wrap .u64 d)) : Int))) ∧
   w64 (Int.tdiv b (w64 (↑(Int.gcd (IntKind.wrap .u64 b) (IntKind.wrap .u64 d)) : Int))) ≤ (9223372036854775807 : Int)) ∧
   (-9223372036854775808 : Int) ≤
   w64
   (Int.tdiv d
   (w64
   (↑(Int.gcd
   (↑(wN
   (↑(sV (!decide (a < (0 : Int)) == decide (w64 (Int.tdiv d (w64 (↑(Int.gcd (IntKind.wrap .u64 b) (IntKind.wrap .u64 d)) : Int))) < (0 : Int)))
   (wN (↑(Int.natAbs a * Int.natAbs (w64 (Int.tdiv d (w64 (↑(Int.gcd (IntKind.wrap .u64 b) (IntKind.wrap .u64 d)) : Int)))) / 18446744073709551616) : Int)
   (↑(Int.natAbs a * Int.natAbs (w64 (Int.tdiv d (w64 (↑(Int.gcd (IntKind.wrap .u64 b) (IntKind.wrap .u64 d)) : Int)))) % 18446744073709551616) : Int))
   (!decide (c < (0 : Int)) == decide (w64 (Int.tdiv b (w64 (↑(Int.gcd (IntKind.wrap .u64 b) (IntKind.wrap .u64 d)) : Int))) < (0 : Int)))
   (wN (↑(Int.natAbs c * Int.natAbs (w64 (Int.tdiv b (w64 (↑(Int.gcd (IntKind.wrap .u64 b) (IntKind.wrap .u64 d)) : Int)))) / 18446744073709551616) : Int)
   (↑(Int.natAbs c * Int.natAbs (w64 (Int.tdiv b (w64 (↑(Int.gcd (IntKind.wrap .u64 b) (IntKind.wrap .u64 d)) : Int)))) % 18446744073709551616) : Int)) /
   18446744073709551616) :
   Int)
   (↑(sV (!decide (a < (0 : Int)) == decide (w64 (Int.tdiv d (w64 (↑(Int.gcd (IntKind.wrap .u64 b) (IntKind.wrap .u64 d)) : Int))) < (0 : Int)))
   (wN (↑(Int.natAbs a * Int.natAbs (w64 (Int.tdiv d (w64 (↑(Int.gcd (IntKind.wrap .u64 b) (IntKind.wrap .u64 d)) : Int)))) / 18446744073709551616) : Int)
   (↑(Int.natAbs a * Int.natAbs (w64 (Int.tdiv d (w64 (↑(Int.gcd (IntKind.wrap .u64 b) (IntKind.wrap .u64 d)) : Int)))) % 18446744073709551616) : Int))
   (!decide (c < (0 : Int)) == decide (w64 (Int.tdiv b (w64 (↑(Int.gcd (IntKind.wrap .u64 b) (IntKind.wrap .u64 d)) : Int))) < (0 : Int)))
   (wN (↑(Int.natAbs c * Int.natAbs (w64 (Int.tdiv b (w64 (↑(Int.gcd (IntKind.wrap .u64 b) (IntKind.wrap .u64 d)) : Int)))) / 18446744073709551616) : Int)
   (↑(Int.natAbs c * Int.natAbs (w64 (Int.tdiv b (w64 (↑(Int.gcd (IntKind.wrap .u64 b) (IntKind.wrap .u64 d)) : Int)))) % 18446744073709551616) : Int)) %
   18446744073709551616) :
   Int) %
   Int.toNat (↑(Int.gcd (IntKind.wrap .u64 b) (IntKind.wrap .u64 d)) : Int)) :
   Int)
   (↑(Int.gcd (IntKind.wrap .u64 b) (IntKind.wrap .u64 d)) : Int)) :
   Int))) ∧
   w64
   (Int.tdiv d
   (w64
   (↑(Int.gcd
   (↑(wN
   (↑(sV (!decide (a < (0 : Int)) == decide (w64 (Int.tdiv d (w64 (↑(Int.gcd (IntKind.wrap .u64 b) (IntKind.wrap .u64 d)) : Int))) < (0 : Int)))
   (wN (↑(Int.natAbs a * Int.natAbs (w64 (Int.tdiv d (w64 (↑(Int.gcd (IntKind.wrap .u64 b) (IntKind.wrap .u64 d)) : Int)))) / 18446744073709551616) : Int)
   (↑(Int.natAbs a * Int.natAbs (w64 (Int.tdiv d (w64 (↑(Int.gcd (IntKind.wrap .u64 b) (IntKind.wrap .u64 d)) : Int)))) % 18446744073709551616) : Int))
   (!decide (c < (0 : Int)) == decide (w64 (Int.tdiv b (w64 (↑(Int.gcd (IntKind.wrap .u64 b) (IntKind.wrap .u64 d)) : Int))) < (0 : Int)))
   (wN (↑(Int.natAbs c * Int.natAbs (w64 (Int.tdiv b (w64 (↑(Int.gcd (IntKind.wrap .u64 b) (IntKind.wrap .u64 d)) : Int)))) / 18446744073709551616) : Int)
   (↑(Int.natAbs c * Int.natAbs (w64 (Int.tdiv b (w64 (↑(Int.gcd (IntKind.wrap .u64 b) (IntKind.wrap .u64 d)) : Int)))) % 18446744073709551616) : Int)) /
   18446744073709551616) :
   Int)
   (↑(sV (!decide (a < (0 : Int)) == decide (w64 (Int.tdiv d (w64 (↑(Int.gcd (IntKind.wrap .u64 b) (IntKind.wrap .u64 d)) : Int))) < (0 : Int)))
   (wN (↑(Int.natAbs a * Int.natAbs (w64 (Int.tdiv d (w64 (↑(Int.gcd (IntKind.wrap .u64 b) (IntKind.wrap .u64 d)) : Int)))) / 18446744073709551616) : Int)
   (↑(Int.natAbs a * Int.natAbs (w64 (Int.tdiv d (w64 (↑(Int.gcd (IntKind.wrap .u64 b) (IntKind.wrap .u64 d)) : Int)))) % 18446744073709551616) : Int))
   (!decide (c < (0 : Int)) == decide (w64 (Int.tdiv b (w64 (↑(Int.gcd (IntKind.wrap .u64 b) (IntKind.wrap .u64 d)) : Int))) < (0 : Int)))
   (wN (↑(Int.natAbs c * Int.natAbs (w64 (Int.tdiv b (w64 (↑(Int.gcd (IntKind.wrap .u64 b) (IntKind.wrap .u64 d)) : Int)))) / 18446744073709551616) : Int)
   (↑(Int.natAbs c * Int.natAbs (w64 (Int.tdiv b (w64 (↑(Int.gcd (IntKind.wrap .u64 b) (IntKind.wrap .u64 d)) : Int)))) % 18446744073709551616) : Int)) %
   18446744073709551616) :
   Int) %
   Int.toNat (↑(Int.gcd (IntKind.wrap .u64 b) (IntKind.wrap .u64 d)) : Int)) :
   Int)
   (↑(Int.gcd (IntKind.wrap .u64 b) (IntKind.wrap .u64 d)) : Int)) :
   Int))) ≤
   (9223372036854775807 : Int))
   (.need
   (((0 : Int) ≤
   (↑(wN
   (↑(sV (!decide (a < (0 : Int)) == decide (w64 (Int.tdiv d (w64 (↑(Int.gcd (IntKind.wrap .u64 b) (IntKind.wrap .u64 d)) : Int))) < (0 : Int)))
   (wN (↑(Int.natAbs a * Int.natAbs (w64 (Int.tdiv d (w64 (↑(Int.gcd (IntKind.wrap .u64 b) (IntKind.wrap .u64 d)) : Int)))) / 18446744073709551616) : Int)
   (↑(Int.natAbs a * Int.natAbs (w64 (Int.tdiv d (w64 (↑(Int.gcd (IntKind.wrap .u64 b) (IntKind.wrap .u64 d)) : Int)))) % 18446744073709551616) : Int))
   (!decide (c < (0 : Int)) == decide (w64 (Int.tdiv b (w64 (↑(Int.gcd (IntKind.wrap .u64 b) (IntKind.wrap .u64 d)) : Int))) < (0 : Int)))
   (wN (↑(Int.natAbs c * Int.natAbs (w64 (Int.tdiv b (w64 (↑(Int.gcd (IntKind.wrap .u64 b) (IntKind.wrap .u64 d)) : Int)))) / 18446744073709551616) : Int)
   (↑(Int.natAbs c * Int.natAbs (w64 (Int.tdiv b (w64 (↑(Int.gcd (IntKind.wrap .u64 b) (IntKind.wrap .u64 d)) : Int)))) % 18446744073709551616) : Int)) /
   18446744073709551616) :
   Int)
   (↑(sV (!decide (a < (0 : Int)) == decide (w64 (Int.tdiv d (w64 (↑(Int.gcd (IntKind.wrap .u64 b) (IntKind.wrap .u64 d)) : Int))) < (0 : Int)))
   (wN (↑(Int.natAbs a * Int.natAbs (w64 (Int.tdiv d (w64 (↑(Int.gcd (IntKind.wrap .u64 b) (IntKind.wrap .u64 d)) : Int)))) / 18446744073709551616) : Int)
   (↑(Int.natAbs a * Int.natAbs (w64 (Int.tdiv d (w64 (↑(Int.gcd (IntKind.wrap .u64 b) (IntKind.wrap .u64 d)) : Int)))) % 18446744073709551616) : Int))
   (!decide (c < (0 : Int)) == decide (w64 (Int.tdiv b (w64 (↑(Int.gcd (IntKind.wrap .u64 b) (IntKind.wrap .u64 d)) : Int))) < (0 : Int)))
   (wN (↑(Int.natAbs c * Int.natAbs (w64 (Int.tdiv b (w64 (↑(Int.gcd (IntKind.wrap .u64 b) (IntKind.wrap .u64 d)) : Int)))) / 18446744073709551616) : Int)
   (↑(Int.natAbs c * Int.natAbs (w64 (Int.tdiv b (w64 (↑(Int.gcd (IntKind.wrap .u64 b) (IntKind.wrap .u64 d)) : Int)))) % 18446744073709551616) : Int)) %
   18446744073709551616) :
   Int) /
   Int.toNat
   (↑(Int.gcd
   (↑(wN
   (↑(sV (!decide (a < (0 : Int)) == decide (w64 (Int.tdiv d (w64 (↑(Int.gcd (IntKind.wrap .u64 b) (IntKind.wrap .u64 d)) : Int))) < (0 : Int)))
   (wN
   (↑(Int.natAbs a * Int.natAbs (w64 (Int.tdiv d (w64 (↑(Int.gcd (IntKind.wrap .u64 b) (IntKind.wrap .u64 d)) : Int)))) / 18446744073709551616) :
   Int)
   (↑(Int.natAbs a * Int.natAbs (w64 (Int.tdiv d (w64 (↑(Int.gcd (IntKind.wrap .u64 b) (IntKind.wrap .u64 d)) : Int)))) % 18446744073709551616) :
   Int))
   (!decide (c < (0 : Int)) == decide (w64 (Int.tdiv b (w64 (↑(Int.gcd (IntKind.wrap .u64 b) (IntKind.wrap .u64 d)) : Int))) < (0 : Int)))
   (wN
   (↑(Int.natAbs c * Int.natAbs (w64 (Int.tdiv b (w64 (↑(Int.gcd (IntKind.wrap .u64 b) (IntKind.wrap .u64 d)) : Int)))) / 18446744073709551616) :
   Int)
   (↑(Int.natAbs c * Int.natAbs (w64 (Int.tdiv b (w64 (↑(Int.gcd (IntKind.wrap .u64 b) (IntKind.wrap .u64 d)) : Int)))) % 18446744073709551616) :
   Int)) /
   18446744073709551616) :
   Int)
   (↑(sV (!decide (a < (0 : Int)) == decide (w64 (Int.tdiv d (w64 (↑(Int.gcd (IntKind.wrap .u64 b) (IntKind.wrap .u64 d)) : Int))) < (0 : Int)))
   (wN
   (↑(Int.natAbs a * Int.natAbs (w64 (Int.tdiv d (w64 (↑(Int.gcd (IntKind.wrap .u64 b) (IntKind.wrap .u64 d)) : Int)))) / 18446744073709551616) :
   Int)
   (↑(Int.natAbs a * Int.natAbs (w64 (Int.tdiv d (w64 (↑(Int.gcd (IntKind.wrap .u64 b) (IntKind.wrap .u64 d)) : Int)))) % 18446744073709551616) :
   Int))
   (!decide (c < (0 : Int)) == decide (w64 (Int.tdiv b (w64 (↑(Int.gcd (IntKind.wrap .u64 b) (IntKind.wrap .u64 d)) : Int))) < (0 : Int)))
   (wN
   (↑(Int.natAbs c * Int.natAbs (w64 (Int.tdiv b (w64 (↑(Int.gcd (IntKind.wrap .u64 b) (IntKind.wrap .u64 d)) : Int)))) / 18446744073709551616) :
   Int)
   (↑(Int.natAbs c * Int.natAbs (w64 (Int.tdiv b (w64 (↑(Int.gcd (IntKind.wrap .u64 b) (IntKind.wrap .u64 d)) : Int)))) % 18446744073709551616) :
   Int)) %
   18446744073709551616) :
   Int) %
   Int.toNat (↑(Int.gcd (IntKind.wrap .u64 b) (IntKind.wrap .u64 d)) : Int)) :
   Int)
   (↑(Int.gcd (IntKind.wrap .u64 b) (IntKind.wrap .u64 d)) : Int)) :
   Int) /
   18446744073709551616) :
   Int) ∧
   (0 : Int) ≤
   (↑(wN
   (↑(sV (!decide (a < (0 : Int)) == decide (w64 (Int.tdiv d (w64 (↑(Int.gcd (IntKind.wrap .u64 b) (IntKind.wrap .u64 d)) : Int))) < (0 : Int)))
   (wN (↑(Int.natAbs a * Int.natAbs (w64 (Int.tdiv d (w64 (↑(Int.gcd (IntKind.wrap .u64 b) (IntKind.wrap .u64 d)) : Int)))) / 18446744073709551616) : Int)
   (↑(Int.natAbs a * Int.natAbs (w64 (Int.tdiv d (w64 (↑(Int.gcd (IntKind.wrap .u64 b) (IntKind.wrap .u64 d)) : Int)))) % 18446744073709551616) : Int))
   (!decide (c < (0 : Int)) == decide (w64 (Int.tdiv b (w64 (↑(Int.gcd (IntKind.wrap .u64 b) (IntKind.wrap .u64 d)) : Int))) < (0 : Int)))
   (wN (↑(Int.natAbs c * Int.natAbs (w64 (Int.tdiv b (w64 (↑(Int.gcd (IntKind.wrap .u64 b) (IntKind.wrap .u64 d)) : Int)))) / 18446744073709551616) : Int)
   (↑(Int.natAbs c * Int.natAbs (w64 (Int.tdiv b (w64 (↑(Int.gcd (IntKind.wrap .u64 b) (IntKind.wrap .u64 d)) : Int)))) % 18446744073709551616) : Int)) /
   18446744073709551616) :
   Int)
   (↑(sV (!decide (a < (0 : Int)) == decide (w64 (Int.tdiv d (w64 (↑(Int.gcd (IntKind.wrap .u64 b) (IntKind.wrap .u64 d)) : Int))) < (0 : Int)))
   (wN (↑(Int.natAbs a * Int.natAbs (w64 (Int.tdiv d (w64 (↑(Int.gcd (IntKind.wrap .u64 b) (IntKind.wrap .u64 d)) : Int)))) / 18446744073709551616) : Int)
   (↑(Int.natAbs a * Int.natAbs (w64 (Int.tdiv d (w64 (↑(Int.gcd (IntKind.wrap .u64 b) (IntKind.wrap .u64 d)) : Int)))) % 18446744073709551616) : Int))
   (!decide (c < (0 : Int)) == decide (w64 (Int.tdiv b (w64 (↑(Int.gcd (IntKind.wrap .u64 b) (IntKind.wrap .u64 d)) : Int))) < (0 : Int)))
   (wN (↑(Int.natAbs c * Int.natAbs (w64 (Int.tdiv b (w64 (↑(Int.gcd (IntKind.wrap .u64 b) (IntKind.wrap .u64 d)) : Int)))) / 18446744073709551616) : Int)
   (↑(Int.natAbs c * Int.natAbs (w64 (Int.tdiv b (w64 (↑(Int.gcd (IntKind.wrap .u64 b) (IntKind.wrap .u64 d)) : Int)))) % 18446744073709551616) : Int)) %
   18446744073709551616) :
   Int) /
   Int.toNat
   (↑(Int.gcd
   (↑(wN
   (↑(sV (!decide (a < (0 : Int)) == decide (w64 (Int.tdiv d (w64 (↑(Int.gcd (IntKind.wrap .u64 b) (IntKind.wrap .u64 d)) : Int))) < (0 : Int)))
   (wN
   (↑(Int.natAbs a * Int.natAbs (w64 (Int.tdiv d (w64 (↑(Int.gcd (IntKind.wrap .u64 b) (IntKind.wrap .u64 d)) : Int)))) / 18446744073709551616) :
   Int)
   (↑(Int.natAbs a * Int.natAbs (w64 (Int.tdiv d (w64 (↑(Int.gcd (IntKind.wrap .u64 b) (IntKind.wrap .u64 d)) : Int)))) % 18446744073709551616) :
   Int))
   (!decide (c < (0 : Int)) == decide (w64 (Int.tdiv b (w64 (↑(Int.gcd (IntKind.wrap .u64 b) (IntKind.wrap .u64 d)) : Int))) < (0 : Int)))
   (wN
   (↑(Int.natAbs c * Int.natAbs (w64 (Int.tdiv b (w64 (↑(Int.gcd (IntKind.wrap .u64 b) (IntKind.wrap .u64 d)) : Int)))) / 18446744073709551616) :
   Int)
   (↑(Int.natAbs c * Int.natAbs (w64 (Int.tdiv b (w64 (↑(Int.gcd (IntKind.wrap .u64 b) (IntKind.wrap .u64 d)) : Int)))) % 18446744073709551616) :
   Int)) /
   18446744073709551616) :
   Int)
   (↑(sV (!decide (a < (0 : Int)) == decide (w64 (Int.tdiv d (w64 (↑(Int.gcd (IntKind.wrap .u64 b) (IntKind.wrap .u64 d)) : Int))) < (0 : Int)))
   (wN
   (↑(Int.natAbs a * Int.natAbs (w64 (Int.tdiv d (w64 (↑(Int.gcd (IntKind.wrap .u64 b) (IntKind.wrap .u64 d)) : Int)))) / 18446744073709551616) :
   Int)
   (↑(Int.natAbs a * Int.natAbs (w64 (Int.tdiv d (w64 (↑(Int.gcd (IntKind.wrap .u64 b) (IntKind.wrap .u64 d)) : Int)))) % 18446744073709551616) :
   Int))
   (!decide (c < (0 : Int)) == decide (w64 (Int.tdiv b (w64 (↑(Int.gcd (IntKind.wrap .u64 b) (IntKind.wrap .u64 d)) : Int))) < (0 : Int)))
   (wN
   (↑(Int.natAbs c * Int.natAbs (w64 (Int.tdiv b (w64 (↑(Int.gcd (IntKind.wrap .u64 b) (IntKind.wrap .u64 d)) : Int)))) / 18446744073709551616) :
   Int)
   (↑(Int.natAbs c * Int.natAbs (w64 (Int.tdiv b (w64 (↑(Int.gcd (IntKind.wrap .u64 b) (IntKind.wrap .u64 d)) : Int)))) % 18446744073709551616) :
   Int)) %
   18446744073709551616) :
   Int) %
   Int.toNat (↑(Int.gcd (IntKind.wrap .u64 b) (IntKind.wrap .u64 d)) : Int)) :
   Int)
   (↑(Int.gcd (IntKind.wrap .u64 b) (IntKind.wrap .u64 d)) : Int)) :
   Int) %
   18446744073709551616) :
   Int) ∧
   (↑(wN
   (↑(sV (!decide (a < (0 : Int)) == decide (w64 (Int.tdiv d (w64 (↑(Int.gcd (IntKind.wrap .u64 b) (IntKind.wrap .u64 d)) : Int))) < (0 : Int)))
   (wN (↑(Int.natAbs a * Int.natAbs (w64 (Int.tdiv d (w64 (↑(Int.gcd (IntKind.wrap .u64 b) (IntKind.wrap .u64 d)) : Int)))) / 18446744073709551616) : Int)
   (↑(Int.natAbs a * Int.natAbs (w64 (Int.tdiv d (w64 (↑(Int.gcd (IntKind.wrap .u64 b) (IntKind.wrap .u64 d)) : Int)))) % 18446744073709551616) : Int))
   (!decide (c < (0 : Int)) == decide (w64 (Int.tdiv b (w64 (↑(Int.gcd (IntKind.wrap .u64 b) (IntKind.wrap .u64 d)) : Int))) < (0 : Int)))
   (wN (↑(Int.natAbs c * Int.natAbs (w64 (Int.tdiv b (w64 (↑(Int.gcd (IntKind.wrap .u64 b) (IntKind.wrap .u64 d)) : Int)))) / 18446744073709551616) : Int)
   (↑(Int.natAbs c * Int.natAbs (w64 (Int.tdiv b (w64 (↑(Int.gcd (IntKind.wrap .u64 b) (IntKind.wrap .u64 d)) : Int)))) % 18446744073709551616) : Int)) /
   18446744073709551616) :
   Int)
   (↑(sV (!decide (a < (0 : Int)) == decide (w64 (Int.tdiv d (w64 (↑(Int.gcd (IntKind.wrap .u64 b) (IntKind.wrap .u64 d)) : Int))) < (0 : Int)))
   (wN (↑(Int.natAbs a * Int.natAbs (w64 (Int.tdiv d (w64 (↑(Int.gcd (IntKind.wrap .u64 b) (IntKind.wrap .u64 d)) : Int)))) / 18446744073709551616) : Int)
   (↑(Int.natAbs a * Int.natAbs (w64 (Int.tdiv d (w64 (↑(Int.gcd (IntKind.wrap .u64 b) (IntKind.wrap .u64 d)) : Int)))) % 18446744073709551616) : Int))
   (!decide (c < (0 : Int)) == decide (w64 (Int.tdiv b (w64 (↑(Int.gcd (IntKind.wrap .u64 b) (IntKind.wrap .u64 d)) : Int))) < (0 : Int)))
   (wN (↑(Int.natAbs c * Int.natAbs (w64 (Int.tdiv b (w64 (↑(Int.gcd (IntKind.wrap .u64 b) (IntKind.wrap .u64 d)) : Int)))) / 18446744073709551616) : Int)
   (↑(Int.natAbs c * Int.natAbs (w64 (Int.tdiv b (w64 (↑(Int.gcd (IntKind.wrap .u64 b) (IntKind.wrap .u64 d)) : Int)))) % 18446744073709551616) : Int)) %
   18446744073709551616) :
   Int) /
   Int.toNat
   (↑(Int.gcd
   (↑(wN
   (↑(sV (!decide (a < (0 : Int)) == decide (w64 (Int.tdiv d (w64 (↑(Int.gcd (IntKind.wrap .u64 b) (IntKind.wrap .u64 d)) : Int))) < (0 : Int)))
   (wN
   (↑(Int.natAbs a * Int.natAbs (w64 (Int.tdiv d (w64 (↑(Int.gcd (IntKind.wrap .u64 b) (IntKind.wrap .u64 d)) : Int)))) / 18446744073709551616) :
   Int)
   (↑(Int.natAbs a * Int.natAbs (w64 (Int.tdiv d (w64 (↑(Int.gcd (IntKind.wrap .u64 b) (IntKind.wrap .u64 d)) : Int)))) % 18446744073709551616) :
   Int))
   (!decide (c < (0 : Int)) == decide (w64 (Int.tdiv b (w64 (↑(Int.gcd (IntKind.wrap .u64 b) (IntKind.wrap .u64 d)) : Int))) < (0 : Int)))
   (wN
   (↑(Int.natAbs c * Int.natAbs (w64 (Int.tdiv b (w64 (↑(Int.gcd (IntKind.wrap .u64 b) (IntKind.wrap .u64 d)) : Int)))) / 18446744073709551616) :
   Int)
   (↑(Int.natAbs c * Int.natAbs (w64 (Int.tdiv b (w64 (↑(Int.gcd (IntKind.wrap .u64 b) (IntKind.wrap .u64 d)) : Int)))) % 18446744073709551616) :
   Int)) /
   18446744073709551616) :
   Int)
   (↑(sV (!decide (a < (0 : Int)) == decide (w64 (Int.tdiv d (w64 (↑(Int.gcd (IntKind.wrap .u64 b) (IntKind.wrap .u64 d)) : Int))) < (0 : Int)))
   (wN
   (↑(Int.natAbs a * Int.natAbs (w64 (Int.tdiv d (w64 (↑(Int.gcd (IntKind.wrap .u64 b) (IntKind.wrap .u64 d)) : Int)))) / 18446744073709551616) :
   Int)
   (↑(Int.natAbs a * Int.natAbs (w64 (Int.tdiv d (w64 (↑(Int.gcd (IntKind.wrap .u64 b) (IntKind.wrap .u64 d)) : Int)))) % 18446744073709551616) :
   Int))
   (!decide (c < (0 : Int)) == decide (w64 (Int.tdiv b (w64 (↑(Int.gcd (IntKind.wrap .u64 b) (IntKind.wrap .u64 d)) : Int))) < (0 : Int)))
   (wN
   (↑(Int.natAbs c * Int.natAbs (w64 (Int.tdiv b (w64 (↑(Int.gcd (IntKind.wrap .u64 b) (IntKind.wrap .u64 d)) : Int)))) / 18446744073709551616) :
   Int)
   (↑(Int.natAbs c * Int.natAbs (w64 (Int.tdiv b (w64 (↑(Int.gcd (IntKind.wrap .u64 b) (IntKind.wrap .u64 d)) : Int)))) % 18446744073709551616) :
   Int)) %
   18446744073709551616) :
   Int) %
   Int.toNat (↑(Int.gcd (IntKind.wrap .u64 b) (IntKind.wrap .u64 d)) : Int)) :
   Int)
   (↑(Int.gcd (IntKind.wrap .u64 b) (IntKind.wrap .u64 d)) : Int)) :
   Int) %
   18446744073709551616) :
   Int) <
   (18446744073709551616 : Int)) ∧
   ((0 : Int) ≤
   (↑(Int.natAbs (w64 (Int.tdiv b (w64 (↑(Int.gcd (IntKind.wrap .u64 b) (IntKind.wrap .u64 d)) : Int)))) *
   Int.natAbs
   (w64
   (Int.tdiv d
   (w64
   (↑(Int.gcd
   (↑(wN
   (↑(sV (!decide (a < (0 : Int)) == decide (w64 (Int.tdiv d (w64 (↑(Int.gcd (IntKind.wrap .u64 b) (IntKind.wrap .u64 d)) : Int))) < (0 : Int)))
   (wN
   (↑(Int.natAbs a * Int.natAbs (w64 (Int.tdiv d (w64 (↑(Int.gcd (IntKind.wrap .u64 b) (IntKind.wrap .u64 d)) : Int)))) /
   18446744073709551616) :
   Int)
   (↑(Int.natAbs a * Int.natAbs (w64 (Int.tdiv d (w64 (↑(Int.gcd (IntKind.wrap .u64 b) (IntKind.wrap .u64 d)) : Int)))) %
   18446744073709551616) :
   Int))
   (!decide (c < (0 : Int)) == decide (w64 (Int.tdiv b (w64 (↑(Int.gcd (IntKind.wrap .u64 b) (IntKind.wrap .u64 d)) : Int))) < (0 : Int)))
   (wN
   (↑(Int.natAbs c * Int.natAbs (w64 (Int.tdiv b (w64 (↑(Int.gcd (IntKind.wrap .u64 b) (IntKind.wrap .u64 d)) : Int)))) /
   18446744073709551616) :
   Int)
   (↑(Int.natAbs c * Int.natAbs (w64 (Int.tdiv b (w64 (↑(Int.gcd (IntKind.wrap .u64 b) (IntKind.wrap .u64 d)) : Int)))) %
   18446744073709551616) :
   Int)) /
   18446744073709551616) :
   Int)
   (↑(sV (!decide (a < (0 : Int)) == decide (w64 (Int.tdiv d (w64 (↑(Int.gcd (IntKind.wrap .u64 b) (IntKind.wrap .u64 d)) : Int))) < (0 : Int)))
   (wN
   (↑(Int.natAbs a * Int.natAbs (w64 (Int.tdiv d (w64 (↑(Int.gcd (IntKind.wrap .u64 b) (IntKind.wrap .u64 d)) : Int)))) /
   18446744073709551616) :
   Int)
   (↑(Int.natAbs a * Int.natAbs (w64 (Int.tdiv d (w64 (↑(Int.gcd (IntKind.wrap .u64 b) (IntKind.wrap .u64 d)) : Int)))) %
   18446744073709551616) :
   Int))
   (!decide (c < (0 : Int)) == decide (w64 (Int.tdiv b (w64 (↑(Int.gcd (IntKind.wrap .u64 b) (IntKind.wrap .u64 d)) : Int))) < (0 : Int)))
   (wN
   (↑(Int.natAbs c * Int.natAbs (w64 (Int.tdiv b (w64 (↑(Int.gcd (IntKind.wrap .u64 b) (IntKind.wrap .u64 d)) : Int)))) /
   18446744073709551616) :
   Int)
   (↑(Int.natAbs c * Int.natAbs (w64 (Int.tdiv b (w64 (↑(Int.gcd (IntKind.wrap .u64 b) (IntKind.wrap .u64 d)) : Int)))) %
   18446744073709551616) :
   Int)) %
   18446744073709551616) :
   Int) %
   Int.toNat (↑(Int.gcd (IntKind.wrap .u64 b) (IntKind.wrap .u64 d)) : Int)) :
   Int)
   (↑(Int.gcd (IntKind.wrap .u64 b) (IntKind.wrap .u64 d)) : Int)) :
   Int)))) /
   18446744073709551616) :
   Int) ∧
   (0 : Int) ≤
   (↑(Int.natAbs (w64 (Int.tdiv b (w64 (↑(Int.gcd (IntKind.wrap .u64 b) (IntKind.wrap .u64 d)) : Int)))) *
   Int.natAbs
   (w64
   (Int.tdiv d
   (w64
   (↑(Int.gcd
   (↑(wN
   (↑(sV (!decide (a < (0 : Int)) == decide (w64 (Int.tdiv d (w64 (↑(Int.gcd (IntKind.wrap .u64 b) (IntKind.wrap .u64 d)) : Int))) < (0 : Int)))
   (wN
   (↑(Int.natAbs a * Int.natAbs (w64 (Int.tdiv d (w64 (↑(Int.gcd (IntKind.wrap .u64 b) (IntKind.wrap .u64 d)) : Int)))) /
   18446744073709551616) :
   Int)
   (↑(Int.natAbs a * Int.natAbs (w64 (Int.tdiv d (w64 (↑(Int.gcd (IntKind.wrap .u64 b) (IntKind.wrap .u64 d)) : Int)))) %
   18446744073709551616) :
   Int))
   (!decide (c < (0 : Int)) == decide (w64 (Int.tdiv b (w64 (↑(Int.gcd (IntKind.wrap .u64 b) (IntKind.wrap .u64 d)) : Int))) < (0 : Int)))
   (wN
   (↑(Int.natAbs c * Int.natAbs (w64 (Int.tdiv b (w64 (↑(Int.gcd (IntKind.wrap .u64 b) (IntKind.wrap .u64 d)) : Int)))) /
   18446744073709551616) :
   Int)
   (↑(Int.natAbs c * Int.natAbs (w64 (Int.tdiv b (w64 (↑(Int.gcd (IntKind.wrap .u64 b) (IntKind.wrap .u64 d)) : Int)))) %
   18446744073709551616) :
   Int)) /
   18446744073709551616) :
   Int)
   (↑(sV (!decide (a < (0 : Int)) == decide (w64 (Int.tdiv d (w64 (↑(Int.gcd (IntKind.wrap .u64 b) (IntKind.wrap .u64 d)) : Int))) < (0 : Int)))
   (wN
   (↑(Int.natAbs a * Int.natAbs (w64 (Int.tdiv d (w64 (↑(Int.gcd (IntKind.wrap .u64 b) (IntKind.wrap .u64 d)) : Int)))) /
   18446744073709551616) :
   Int)
   (↑(Int.natAbs a * Int.natAbs (w64 (Int.tdiv d (w64 (↑(Int.gcd (IntKind.wrap .u64 b) (IntKind.wrap .u64 d)) : Int)))) %
   18446744073709551616) :
   Int))
   (!decide (c < (0 : Int)) == decide (w64 (Int.tdiv b (w64 (↑(Int.gcd (IntKind.wrap .u64 b) (IntKind.wrap .u64 d)) : Int))) < (0 : Int)))
   (wN
   (↑(Int.natAbs c * Int.natAbs (w64 (Int.tdiv b (w64 (↑(Int.gcd (IntKind.wrap .u64 b) (IntKind.wrap .u64 d)) : Int)))) /
   18446744073709551616) :
   Int)
   (↑(Int.natAbs c * Int.natAbs (w64 (Int.tdiv b (w64 (↑(Int.gcd (IntKind.wrap .u64 b) (IntKind.wrap .u64 d)) : Int)))) %
   18446744073709551616) :
   Int)) %
   18446744073709551616) :
   Int) %
   Int.toNat (↑(Int.gcd (IntKind.wrap .u64 b) (IntKind.wrap .u64 d)) : Int)) :
   Int)
   (↑(Int.gcd (IntKind.wrap .u64 b) (IntKind.wrap .u64 d)) : Int)) :
   Int)))) %
   18446744073709551616) :
   Int) ∧
   (↑(Int.natAbs (w64 (Int.tdiv b (w64 (↑(Int.gcd (IntKind.wrap .u64 b) (IntKind.wrap .u64 d)) : Int)))) *
   Int.natAbs
   (w64
   (Int.tdiv d
   (w64
   (↑(Int.gcd
   (↑(wN
   (↑(sV (!decide (a < (0 : Int)) == decide (w64 (Int.tdiv d (w64 (↑(Int.gcd (IntKind.wrap .u64 b) (IntKind.wrap .u64 d)) : Int))) < (0 : Int)))
   (wN
   (↑(Int.natAbs a * Int.natAbs (w64 (Int.tdiv d (w64 (↑(Int.gcd (IntKind.wrap .u64 b) (IntKind.wrap .u64 d)) : Int)))) /
   18446744073709551616) :
   Int)
   (↑(Int.natAbs a * Int.natAbs (w64 (Int.tdiv d (w64 (↑(Int.gcd (IntKind.wrap .u64 b) (IntKind.wrap .u64 d)) : Int)))) %
   18446744073709551616) :
   Int))
   (!decide (c < (0 : Int)) == decide (w64 (Int.tdiv b (w64 (↑(Int.gcd (IntKind.wrap .u64 b) (IntKind.wrap .u64 d)) : Int))) < (0 : Int)))
   (wN
   (↑(Int.natAbs c * Int.natAbs (w64 (Int.tdiv b (w64 (↑(Int.gcd (IntKind.wrap .u64 b) (IntKind.wrap .u64 d)) : Int)))) /
   18446744073709551616) :
   Int)
   (↑(Int.natAbs c * Int.natAbs (w64 (Int.tdiv b (w64 (↑(Int.gcd (IntKind.wrap .u64 b) (IntKind.wrap .u64 d)) : Int)))) %
   18446744073709551616) :
   Int)) /
   18446744073709551616) :
   Int)
   (↑(sV (!decide (a < (0 : Int)) == decide (w64 (Int.tdiv d (w64 (↑(Int.gcd (IntKind.wrap .u64 b) (IntKind.wrap .u64 d)) : Int))) < (0 : Int)))
   (wN
   (↑(Int.natAbs a * Int.natAbs (w64 (Int.tdiv d (w64 (↑(Int.gcd (IntKind.wrap .u64 b) (IntKind.wrap .u64 d)) : Int)))) /
   18446744073709551616) :
   Int)
   (↑(Int.natAbs a * Int.natAbs (w64 (Int.tdiv d (w64 (↑(Int.gcd (IntKind.wrap .u64 b) (IntKind.wrap .u64 d)) : Int)))) %
   18446744073709551616) :
   Int))
   (!decide (c < (0 : Int)) == decide (w64 (Int.tdiv b (w64 (↑(Int.gcd (IntKind.wrap .u64 b) (IntKind.wrap .u64 d)) : Int))) < (0 : Int)))
   (wN
   (↑(Int.natAbs c * Int.natAbs (w64 (Int.tdiv b (w64 (↑(Int.gcd (IntKind.wrap .u64 b) (IntKind.wrap .u64 d)) : Int)))) /
   18446744073709551616) :
   Int)
   (↑(Int.natAbs c * Int.natAbs (w64 (Int.tdiv b (w64 (↑(Int.gcd (IntKind.wrap .u64 b) (IntKind.wrap .u64 d)) : Int)))) %
   18446744073709551616) :
   Int)) %
   18446744073709551616) :
   Int) %
   Int.toNat (↑(Int.gcd (IntKind.wrap .u64 b) (IntKind.wrap .u64 d)) : Int)) :
   Int)
   (↑(Int.gcd (IntKind.wrap .u64 b) (IntKind.wrap .u64 d)) : Int)) :
   Int)))) %
   18446744073709551616) :
   Int) <
   (18446744073709551616 : Int)) ∧
   (!decide (w64 (Int.tdiv b (w64 (↑(Int.gcd (IntKind.wrap .u64 b) (IntKind.wrap .u64 d)) : Int))) < (0 : Int)) ==
   decide
   (w64
   (Int.tdiv d
   (w64
   (↑(Int.gcd
   (↑(wN
   (↑(sV (!decide (a < (0 : Int)) == decide (w64 (Int.tdiv d (w64 (↑(Int.gcd (IntKind.wrap .u64 b) (IntKind.wrap .u64 d)) : Int))) < (0 : Int)))
   (wN
   (↑(Int.natAbs a * Int.natAbs (w64 (Int.tdiv d (w64 (↑(Int.gcd (IntKind.wrap .u64 b) (IntKind.wrap .u64 d)) : Int)))) / 18446744073709551616) :
   Int)
   (↑(Int.natAbs a * Int.natAbs (w64 (Int.tdiv d (w64 (↑(Int.gcd (IntKind.wrap .u64 b) (IntKind.wrap .u64 d)) : Int)))) % 18446744073709551616) :
   Int))
   (!decide (c < (0 : Int)) == decide (w64 (Int.tdiv b (w64 (↑(Int.gcd (IntKind.wrap .u64 b) (IntKind.wrap .u64 d)) : Int))) < (0 : Int)))
   (wN
   (↑(Int.natAbs c * Int.natAbs (w64 (Int.tdiv b (w64 (↑(Int.gcd (IntKind.wrap .u64 b) (IntKind.wrap .u64 d)) : Int)))) / 18446744073709551616) :
   Int)
   (↑(Int.natAbs c * Int.natAbs (w64 (Int.tdiv b (w64 (↑(Int.gcd (IntKind.wrap .u64 b) (IntKind.wrap .u64 d)) : Int)))) % 18446744073709551616) :
   Int)) /
   18446744073709551616) :
   Int)
   (↑(sV (!decide (a < (0 : Int)) == decide (w64 (Int.tdiv d (w64 (↑(Int.gcd (IntKind.wrap .u64 b) (IntKind.wrap .u64 d)) : Int))) < (0 : Int)))
   (wN
   (↑(Int.natAbs a * Int.natAbs (w64 (Int.tdiv d (w64 (↑(Int.gcd (IntKind.wrap .u64 b) (IntKind.wrap .u64 d)) : Int)))) / 18446744073709551616) :
   Int)
   (↑(Int.natAbs a * Int.natAbs (w64 (Int.tdiv d (w64 (↑(Int.gcd (IntKind.wrap .u64 b) (IntKind.wrap .u64 d)) : Int)))) % 18446744073709551616) :
   Int))
   (!decide (c < (0 : Int)) == decide (w64 (Int.tdiv b (w64 (↑(Int.gcd (IntKind.wrap .u64 b) (IntKind.wrap .u64 d)) : Int))) < (0 : Int)))
   (wN
   (↑(Int.natAbs c * Int.natAbs (w64 (Int.tdiv b (w64 (↑(Int.gcd (IntKind.wrap .u64 b) (IntKind.wrap .u64 d)) : Int)))) / 18446744073709551616) :
   Int)
   (↑(Int.natAbs c * Int.natAbs (w64 (Int.tdiv b (w64 (↑(Int.gcd (IntKind.wrap .u64 b) (IntKind.wrap .u64 d)) : Int)))) % 18446744073709551616) :
   Int)) %
   18446744073709551616) :
   Int) %
   Int.toNat (↑(Int.gcd (IntKind.wrap .u64 b) (IntKind.wrap .u64 d)) : Int)) :
   Int)
   (↑(Int.gcd (IntKind.wrap .u64 b) (IntKind.wrap .u64 d)) : Int)) :
   Int))) <
   (0 : Int))) =
   false)
   (.ret
   (SV.tup
   [SV.agg
   [iv
   (finN
   (sN (!decide (a < (0 : Int)) == decide (w64 (Int.tdiv d (w64 (↑(Int.gcd (IntKind.wrap .u64 b) (IntKind.wrap .u64 d)) : Int))) < (0 : Int)))
   (wN (↑(Int.natAbs a * Int.natAbs (w64 (Int.tdiv d (w64 (↑(Int.gcd (IntKind.wrap .u64 b) (IntKind.wrap .u64 d)) : Int)))) / 18446744073709551616) : Int)
   (↑(Int.natAbs a * Int.natAbs (w64 (Int.tdiv d (w64 (↑(Int.gcd (IntKind.wrap .u64 b) (IntKind.wrap .u64 d)) : Int)))) % 18446744073709551616) : Int))
   (!decide (c < (0 : Int)) == decide (w64 (Int.tdiv b (w64 (↑(Int.gcd (IntKind.wrap .u64 b) (IntKind.wrap .u64 d)) : Int))) < (0 : Int)))
   (wN (↑(Int.natAbs c * Int.natAbs (w64 (Int.tdiv b (w64 (↑(Int.gcd (IntKind.wrap .u64 b) (IntKind.wrap .u64 d)) : Int)))) / 18446744073709551616) : Int)
   (↑(Int.natAbs c * Int.natAbs (w64 (Int.tdiv b (w64 (↑(Int.gcd (IntKind.wrap .u64 b) (IntKind.wrap .u64 d)) : Int)))) % 18446744073709551616) : Int)))
   (wN
   (↑(wN
   (↑(sV (!decide (a < (0 : Int)) == decide (w64 (Int.tdiv d (w64 (↑(Int.gcd (IntKind.wrap .u64 b) (IntKind.wrap .u64 d)) : Int))) < (0 : Int)))
   (wN (↑(Int.natAbs a * Int.natAbs (w64 (Int.tdiv d (w64 (↑(Int.gcd (IntKind.wrap .u64 b) (IntKind.wrap .u64 d)) : Int)))) / 18446744073709551616) : Int)
   (↑(Int.natAbs a * Int.natAbs (w64 (Int.tdiv d (w64 (↑(Int.gcd (IntKind.wrap .u64 b) (IntKind.wrap .u64 d)) : Int)))) % 18446744073709551616) : Int))
   (!decide (c < (0 : Int)) == decide (w64 (Int.tdiv b (w64 (↑(Int.gcd (IntKind.wrap .u64 b) (IntKind.wrap .u64 d)) : Int))) < (0 : Int)))
   (wN (↑(Int.natAbs c * Int.natAbs (w64 (Int.tdiv b (w64 (↑(Int.gcd (IntKind.wrap .u64 b) (IntKind.wrap .u64 d)) : Int)))) / 18446744073709551616) : Int)
   (↑(Int.natAbs c * Int.natAbs (w64 (Int.tdiv b (w64 (↑(Int.gcd (IntKind.wrap .u64 b) (IntKind.wrap .u64 d)) : Int)))) % 18446744073709551616) : Int)) /
   18446744073709551616) :
   Int)
   (↑(sV (!decide (a < (0 : Int)) == decide (w64 (Int.tdiv d (w64 (↑(Int.gcd (IntKind.wrap .u64 b) (IntKind.wrap .u64 d)) : Int))) < (0 : Int)))
   (wN (↑(Int.natAbs a * Int.natAbs (w64 (Int.tdiv d (w64 (↑(Int.gcd (IntKind.wrap .u64 b) (IntKind.wrap .u64 d)) : Int)))) / 18446744073709551616) : Int)
   (↑(Int.natAbs a * Int.natAbs (w64 (Int.tdiv d (w64 (↑(Int.gcd (IntKind.wrap .u64 b) (IntKind.wrap .u64 d)) : Int)))) % 18446744073709551616) : Int))
   (!decide (c < (0 : Int)) == decide (w64 (Int.tdiv b (w64 (↑(Int.gcd (IntKind.wrap .u64 b) (IntKind.wrap .u64 d)) : Int))) < (0 : Int)))
   (wN (↑(Int.natAbs c * Int.natAbs (w64 (Int.tdiv b (w64 (↑(Int.gcd (IntKind.wrap .u64 b) (IntKind.wrap .u64 d)) : Int)))) / 18446744073709551616) : Int)
   (↑(Int.natAbs c * Int.natAbs (w64 (Int.tdiv b (w64 (↑(Int.gcd (IntKind.wrap .u64 b) (IntKind.wrap .u64 d)) : Int)))) % 18446744073709551616) : Int)) %
   18446744073709551616) :
   Int) /
   Int.toNat
   (↑(Int.gcd
   (↑(wN
   (↑(sV (!decide (a < (0 : Int)) == decide (w64 (Int.tdiv d (w64 (↑(Int.gcd (IntKind.wrap .u64 b) (IntKind.wrap .u64 d)) : Int))) < (0 : Int)))
   (wN
   (↑(Int.natAbs a * Int.natAbs (w64 (Int.tdiv d (w64 (↑(Int.gcd (IntKind.wrap .u64 b) (IntKind.wrap .u64 d)) : Int)))) /
   18446744073709551616) :
   Int)
   (↑(Int.natAbs a * Int.natAbs (w64 (Int.tdiv d (w64 (↑(Int.gcd (IntKind.wrap .u64 b) (IntKind.wrap .u64 d)) : Int)))) %
   18446744073709551616) :
   Int))
   (!decide (c < (0 : Int)) == decide (w64 (Int.tdiv b (w64 (↑(Int.gcd (IntKind.wrap .u64 b) (IntKind.wrap .u64 d)) : Int))) < (0 : Int)))
   (wN
   (↑(Int.natAbs c * Int.natAbs (w64 (Int.tdiv b (w64 (↑(Int.gcd (IntKind.wrap .u64 b) (IntKind.wrap .u64 d)) : Int)))) /
   18446744073709551616) :
   Int)
   (↑(Int.natAbs c * Int.natAbs (w64 (Int.tdiv b (w64 (↑(Int.gcd (IntKind.wrap .u64 b) (IntKind.wrap .u64 d)) : Int)))) %
   18446744073709551616) :
   Int)) /
   18446744073709551616) :
   Int)
   (↑(sV (!decide (a < (0 : Int)) == decide (w64 (Int.tdiv d (w64 (↑(Int.gcd (IntKind.wrap .u64 b) (IntKind.wrap .u64 d)) : Int))) < (0 : Int)))
   (wN
   (↑(Int.natAbs a * Int.natAbs (w64 (Int.tdiv d (w64 (↑(Int.gcd (IntKind.wrap .u64 b) (IntKind.wrap .u64 d)) : Int)))) /
   18446744073709551616) :
   Int)
   (↑(Int.natAbs a * Int.natAbs (w64 (Int.tdiv d (w64 (↑(Int.gcd (IntKind.wrap .u64 b) (IntKind.wrap .u64 d)) : Int)))) %
   18446744073709551616) :
   Int))
   (!decide (c < (0 : Int)) == decide (w64 (Int.tdiv b (w64 (↑(Int.gcd (IntKind.wrap .u64 b) (IntKind.wrap .u64 d)) : Int))) < (0 : Int)))
   (wN
   (↑(Int.natAbs c * Int.natAbs (w64 (Int.tdiv b (w64 (↑(Int.gcd (IntKind.wrap .u64 b) (IntKind.wrap .u64 d)) : Int)))) /
   18446744073709551616) :
   Int)
   (↑(Int.natAbs c * Int.natAbs (w64 (Int.tdiv b (w64 (↑(Int.gcd (IntKind.wrap .u64 b) (IntKind.wrap .u64 d)) : Int)))) %
   18446744073709551616) :
   Int)) %
   18446744073709551616) :
   Int) %
   Int.toNat (↑(Int.gcd (IntKind.wrap .u64 b) (IntKind.wrap .u64 d)) : Int)) :
   Int)
   (↑(Int.gcd (IntKind.wrap .u64 b) (IntKind.wrap .u64 d)) : Int)) :
   Int) /
   18446744073709551616) :
   Int)
   (↑(wN
   (↑(sV (!decide (a < (0 : Int)) == decide (w64 (Int.tdiv d (w64 (↑(Int.gcd (IntKind.wrap .u64 b) (IntKind.wrap .u64 d)) : Int))) < (0 : Int)))
   (wN (↑(Int.natAbs a * Int.natAbs (w64 (Int.tdiv d (w64 (↑(Int.gcd (IntKind.wrap .u64 b) (IntKind.wrap .u64 d)) : Int)))) / 18446744073709551616) : Int)
   (↑(Int.natAbs a * Int.natAbs (w64 (Int.tdiv d (w64 (↑(Int.gcd (IntKind.wrap .u64 b) (IntKind.wrap .u64 d)) : Int)))) % 18446744073709551616) : Int))
   (!decide (c < (0 : Int)) == decide (w64 (Int.tdiv b (w64 (↑(Int.gcd (IntKind.wrap .u64 b) (IntKind.wrap .u64 d)) : Int))) < (0 : Int)))
   (wN (↑(Int.natAbs c * Int.natAbs (w64 (Int.tdiv b (w64 (↑(Int.gcd (IntKind.wrap .u64 b) (IntKind.wrap .u64 d)) : Int)))) / 18446744073709551616) : Int)
   (↑(Int.natAbs c * Int.natAbs (w64 (Int.tdiv b (w64 (↑(Int.gcd (IntKind.wrap .u64 b) (IntKind.wrap .u64 d)) : Int)))) % 18446744073709551616) : Int)) /
   18446744073709551616) :
   Int)
   (↑(sV (!decide (a < (0 : Int)) == decide (w64 (Int.tdiv d (w64 (↑(Int.gcd (IntKind.wrap .u64 b) (IntKind.wrap .u64 d)) : Int))) < (0 : Int)))
   (wN (↑(Int.natAbs a * Int.natAbs (w64 (Int.tdiv d (w64 (↑(Int.gcd (IntKind.wrap .u64 b) (IntKind.wrap .u64 d)) : Int)))) / 18446744073709551616) : Int)
   (↑(Int.natAbs a * Int.natAbs (w64 (Int.tdiv d (w64 (↑(Int.gcd (IntKind.wrap .u64 b) (IntKind.wrap .u64 d)) : Int)))) % 18446744073709551616) : Int))
   (!decide (c < (0 : Int)) == decide (w64 (Int.tdiv b (w64 (↑(Int.gcd (IntKind.wrap .u64 b) (IntKind.wrap .u64 d)) : Int))) < (0 : Int)))
   (wN (↑(Int.natAbs c * Int.natAbs (w64 (Int.tdiv b (w64 (↑(Int.gcd (IntKind.wrap .u64 b) (IntKind.wrap .u64 d)) : Int)))) / 18446744073709551616) : Int)
   (↑(Int.natAbs c * Int.natAbs (w64 (Int.tdiv b (w64 (↑(Int.gcd (IntKind.wrap .u64 b) (IntKind.wrap .u64 d)) : Int)))) % 18446744073709551616) : Int)) %
   18446744073709551616) :
   Int) /
   Int.toNat
   (↑(Int.gcd
   (↑(wN
   (↑(sV (!decide (a < (0 : Int)) == decide (w64 (Int.tdiv d (w64 (↑(Int.gcd (IntKind.wrap .u64 b) (IntKind.wrap .u64 d)) : Int))) < (0 : Int)))
   (wN
   (↑(Int.natAbs a * Int.natAbs (w64 (Int.tdiv d (w64 (↑(Int.gcd (IntKind.wrap .u64 b) (IntKind.wrap .u64 d)) : Int)))) /
   18446744073709551616) :
   Int)
   (↑(Int.natAbs a * Int.natAbs (w64 (Int.tdiv d (w64 (↑(Int.gcd (IntKind.wrap .u64 b) (IntKind.wrap .u64 d)) : Int)))) %
   18446744073709551616) :
   Int))
   (!decide (c < (0 : Int)) == decide (w64 (Int.tdiv b (w64 (↑(Int.gcd (IntKind.wrap .u64 b) (IntKind.wrap .u64 d)) : Int))) < (0 : Int)))
   (wN
   (↑(Int.natAbs c * Int.natAbs (w64 (Int.tdiv b (w64 (↑(Int.gcd (IntKind.wrap .u64 b) (IntKind.wrap .u64 d)) : Int)))) /
   18446744073709551616) :
   Int)
   (↑(Int.natAbs c * Int.natAbs (w64 (Int.tdiv b (w64 (↑(Int.gcd (IntKind.wrap .u64 b) (IntKind.wrap .u64 d)) : Int)))) %
   18446744073709551616) :
   Int)) /
   18446744073709551616) :
   Int)
   (↑(sV (!decide (a < (0 : Int)) == decide (w64 (Int.tdiv d (w64 (↑(Int.gcd (IntKind.wrap .u64 b) (IntKind.wrap .u64 d)) : Int))) < (0 : Int)))
   (wN
   (↑(Int.natAbs a * Int.natAbs (w64 (Int.tdiv d (w64 (↑(Int.gcd (IntKind.wrap .u64 b) (IntKind.wrap .u64 d)) : Int)))) /
   18446744073709551616) :
   Int)
   (↑(Int.natAbs a * Int.natAbs (w64 (Int.tdiv d (w64 (↑(Int.gcd (IntKind.wrap .u64 b) (IntKind.wrap .u64 d)) : Int)))) %
   18446744073709551616) :
   Int))
   (!decide (c < (0 : Int)) == decide (w64 (Int.tdiv b (w64 (↑(Int.gcd (IntKind.wrap .u64 b) (IntKind.wrap .u64 d)) : Int))) < (0 : Int)))
   (wN
   (↑(Int.natAbs c * Int.natAbs (w64 (Int.tdiv b (w64 (↑(Int.gcd (IntKind.wrap .u64 b) (IntKind.wrap .u64 d)) : Int)))) /
   18446744073709551616) :
   Int)
   (↑(Int.natAbs c * Int.natAbs (w64 (Int.tdiv b (w64 (↑(Int.gcd (IntKind.wrap .u64 b) (IntKind.wrap .u64 d)) : Int)))) %
   18446744073709551616) :
   Int)) %
   18446744073709551616) :
   Int) %
   Int.toNat (↑(Int.gcd (IntKind.wrap .u64 b) (IntKind.wrap .u64 d)) : Int)) :
   Int)
   (↑(Int.gcd (IntKind.wrap .u64 b) (IntKind.wrap .u64 d)) : Int)) :
   Int) %
   18446744073709551616) :
   Int))
   (wN
   (↑(Int.natAbs (w64 (Int.tdiv b (w64 (↑(Int.gcd (IntKind.wrap .u64 b) (IntKind.wrap .u64 d)) : Int)))) *
   Int.natAbs
   (w64
   (Int.tdiv d
   (w64
   (↑(Int.gcd
   (↑(wN
   (↑(sV (!decide (a < (0 : Int)) == decide (w64 (Int.tdiv d (w64 (↑(Int.gcd (IntKind.wrap .u64 b) (IntKind.wrap .u64 d)) : Int))) < (0 : Int)))
   (wN
   (↑(Int.natAbs a * Int.natAbs (w64 (Int.tdiv d (w64 (↑(Int.gcd (IntKind.wrap .u64 b) (IntKind.wrap .u64 d)) : Int)))) /
   18446744073709551616) :
   Int)
   (↑(Int.natAbs a * Int.natAbs (w64 (Int.tdiv d (w64 (↑(Int.gcd (IntKind.wrap .u64 b) (IntKind.wrap .u64 d)) : Int)))) %
   18446744073709551616) :
   Int))
   (!decide (c < (0 : Int)) == decide (w64 (Int.tdiv b (w64 (↑(Int.gcd (IntKind.wrap .u64 b) (IntKind.wrap .u64 d)) : Int))) < (0 : Int)))
   (wN
   (↑(Int.natAbs c * Int.natAbs (w64 (Int.tdiv b (w64 (↑(Int.gcd (IntKind.wrap .u64 b) (IntKind.wrap .u64 d)) : Int)))) /
   18446744073709551616) :
   Int)
   (↑(Int.natAbs c * Int.natAbs (w64 (Int.tdiv b (w64 (↑(Int.gcd (IntKind.wrap .u64 b) (IntKind.wrap .u64 d)) : Int)))) %
   18446744073709551616) :
   Int)) /
   18446744073709551616) :
   Int)
   (↑(sV (!decide (a < (0 : Int)) == decide (w64 (Int.tdiv d (w64 (↑(Int.gcd (IntKind.wrap .u64 b) (IntKind.wrap .u64 d)) : Int))) < (0 : Int)))
   (wN
   (↑(Int.natAbs a * Int.natAbs (w64 (Int.tdiv d (w64 (↑(Int.gcd (IntKind.wrap .u64 b) (IntKind.wrap .u64 d)) : Int)))) /
   18446744073709551616) :
   Int)
   (↑(Int.natAbs a * Int.natAbs (w64 (Int.tdiv d (w64 (↑(Int.gcd (IntKind.wrap .u64 b) (IntKind.wrap .u64 d)) : Int)))) %
   18446744073709551616) :
   Int))
   (!decide (c < (0 : Int)) == decide (w64 (Int.tdiv b (w64 (↑(Int.gcd (IntKind.wrap .u64 b) (IntKind.wrap .u64 d)) : Int))) < (0 : Int)))
   (wN
   (↑(Int.natAbs c * Int.natAbs (w64 (Int.tdiv b (w64 (↑(Int.gcd (IntKind.wrap .u64 b) (IntKind.wrap .u64 d)) : Int)))) /
   18446744073709551616) :
   Int)
   (↑(Int.natAbs c * Int.natAbs (w64 (Int.tdiv b (w64 (↑(Int.gcd (IntKind.wrap .u64 b) (IntKind.wrap .u64 d)) : Int)))) %
   18446744073709551616) :
   Int)) %
   18446744073709551616) :
   Int) %
   Int.toNat (↑(Int.gcd (IntKind.wrap .u64 b) (IntKind.wrap .u64 d)) : Int)) :
   Int)
   (↑(Int.gcd (IntKind.wrap .u64 b) (IntKind.wrap .u64 d)) : Int)) :
   Int)))) /
   18446744073709551616) :
   Int)
   (↑(Int.natAbs (w64 (Int.tdiv b (w64 (↑(Int.gcd (IntKind.wrap .u64 b) (IntKind.wrap .u64 d)) : Int)))) *
   Int.natAbs
   (w64
   (Int.tdiv d
   (w64
   (↑(Int.gcd
   (↑(wN
   (↑(sV (!decide (a < (0 : Int)) == decide (w64 (Int.tdiv d (w64 (↑(Int.gcd (IntKind.wrap .u64 b) (IntKind.wrap .u64 d)) : Int))) < (0 : Int)))
   (wN
   (↑(Int.natAbs a * Int.natAbs (w64 (Int.tdiv d (w64 (↑(Int.gcd (IntKind.wrap .u64 b) (IntKind.wrap .u64 d)) : Int)))) /
   18446744073709551616) :
   Int)
   (↑(Int.natAbs a * Int.natAbs (w64 (Int.tdiv d (w64 (↑(Int.gcd (IntKind.wrap .u64 b) (IntKind.wrap .u64 d)) : Int)))) %
   18446744073709551616) :
   Int))
   (!decide (c < (0 : Int)) == decide (w64 (Int.tdiv b (w64 (↑(Int.gcd (IntKind.wrap .u64 b) (IntKind.wrap .u64 d)) : Int))) < (0 : Int)))
   (wN
   (↑(Int.natAbs c * Int.natAbs (w64 (Int.tdiv b (w64 (↑(Int.gcd (IntKind.wrap .u64 b) (IntKind.wrap .u64 d)) : Int)))) /
   18446744073709551616) :
   Int)
   (↑(Int.natAbs c * Int.natAbs (w64 (Int.tdiv b (w64 (↑(Int.gcd (IntKind.wrap .u64 b) (IntKind.wrap .u64 d)) : Int)))) %
   18446744073709551616) :
   Int)) /
   18446744073709551616) :
   Int)
   (↑(sV (!decide (a < (0 : Int)) == decide (w64 (Int.tdiv d (w64 (↑(Int.gcd (IntKind.wrap .u64 b) (IntKind.wrap .u64 d)) : Int))) < (0 : Int)))
   (wN
   (↑(Int.natAbs a * Int.natAbs (w64 (Int.tdiv d (w64 (↑(Int.gcd (IntKind.wrap .u64 b) (IntKind.wrap .u64 d)) : Int)))) /
   18446744073709551616) :
   Int)
   (↑(Int.natAbs a * Int.natAbs (w64 (Int.tdiv d (w64 (↑(Int.gcd (IntKind.wrap .u64 b) (IntKind.wrap .u64 d)) : Int)))) %
   18446744073709551616) :
   Int))
   (!decide (c < (0 : Int)) == decide (w64 (Int.tdiv b (w64 (↑(Int.gcd (IntKind.wrap .u64 b) (IntKind.wrap .u64 d)) : Int))) < (0 : Int)))
   (wN
   (↑(Int.natAbs c * Int.natAbs (w64 (Int.tdiv b (w64 (↑(Int.gcd (IntKind.wrap .u64 b) (IntKind.wrap .u64 d)) : Int)))) /
   18446744073709551616) :
   Int)
   (↑(Int.natAbs c * Int.natAbs (w64 (Int.tdiv b (w64 (↑(Int.gcd (IntKind.wrap .u64 b) (IntKind.wrap .u64 d)) : Int)))) %
   18446744073709551616) :
   Int)) %
   18446744073709551616) :
   Int) %
   Int.toNat (↑(Int.gcd (IntKind.wrap .u64 b) (IntKind.wrap .u64 d)) : Int)) :
   Int)
   (↑(Int.gcd (IntKind.wrap .u64 b) (IntKind.wrap .u64 d)) : Int)) :
   Int)))) %
   18446744073709551616) :
   Int))),
   iv
   (finD
   (wN
   (↑(wN
   (↑(sV (!decide (a < (0 : Int)) == decide (w64 (Int.tdiv d (w64 (↑(Int.gcd (IntKind.wrap .u64 b) (IntKind.wrap .u64 d)) : Int))) < (0 : Int)))
   (wN (↑(Int.natAbs a * Int.natAbs (w64 (Int.tdiv d (w64 (↑(Int.gcd (IntKind.wrap .u64 b) (IntKind.wrap .u64 d)) : Int)))) / 18446744073709551616) : Int)
   (↑(Int.natAbs a * Int.natAbs (w64 (Int.tdiv d (w64 (↑(Int.gcd (IntKind.wrap .u64 b) (IntKind.wrap .u64 d)) : Int)))) % 18446744073709551616) : Int))
   (!decide (c < (0 : Int)) == decide (w64 (Int.tdiv b (w64 (↑(Int.gcd (IntKind.wrap .u64 b) (IntKind.wrap .u64 d)) : Int))) < (0 : Int)))
   (wN (↑(Int.natAbs c * Int.natAbs (w64 (Int.tdiv b (w64 (↑(Int.gcd (IntKind.wrap .u64 b) (IntKind.wrap .u64 d)) : Int)))) / 18446744073709551616) : Int)
   (↑(Int.natAbs c * Int.natAbs (w64 (Int.tdiv b (w64 (↑(Int.gcd (IntKind.wrap .u64 b) (IntKind.wrap .u64 d)) : Int)))) % 18446744073709551616) : Int)) /
   18446744073709551616) :
   Int)
   (↑(sV (!decide (a < (0 : Int)) == decide (w64 (Int.tdiv d (w64 (↑(Int.gcd (IntKind.wrap .u64 b) (IntKind.wrap .u64 d)) : Int))) < (0 : Int)))
   (wN (↑(Int.natAbs a * Int.natAbs (w64 (Int.tdiv d (w64 (↑(Int.gcd (IntKind.wrap .u64 b) (IntKind.wrap .u64 d)) : Int)))) / 18446744073709551616) : Int)
   (↑(Int.natAbs a * Int.natAbs (w64 (Int.tdiv d (w64 (↑(Int.gcd (IntKind.wrap .u64 b) (IntKind.wrap .u64 d)) : Int)))) % 18446744073709551616) : Int))
   (!decide (c < (0 : Int)) == decide (w64 (Int.tdiv b (w64 (↑(Int.gcd (IntKind.wrap .u64 b) (IntKind.wrap .u64 d)) : Int))) < (0 : Int)))
   (wN (↑(Int.natAbs c * Int.natAbs (w64 (Int.tdiv b (w64 (↑(Int.gcd (IntKind.wrap .u64 b) (IntKind.wrap .u64 d)) : Int)))) / 18446744073709551616) : Int)
   (↑(Int.natAbs c * Int.natAbs (w64 (Int.tdiv b (w64 (↑(Int.gcd (IntKind.wrap .u64 b) (IntKind.wrap .u64 d)) : Int)))) % 18446744073709551616) : Int)) %
   18446744073709551616) :
   Int) /
   Int.toNat
   (↑(Int.gcd
   (↑(wN
   (↑(sV (!decide (a < (0 : Int)) == decide (w64 (Int.tdiv d (w64 (↑(Int.gcd (IntKind.wrap .u64 b) (IntKind.wrap .u64 d)) : Int))) < (0 : Int)))
   (wN
   (↑(Int.natAbs a * Int.natAbs (w64 (Int.tdiv d (w64 (↑(Int.gcd (IntKind.wrap .u64 b) (IntKind.wrap .u64 d)) : Int)))) /
   18446744073709551616) :
   Int)
   (↑(Int.natAbs a * Int.natAbs (w64 (Int.tdiv d (w64 (↑(Int.gcd (IntKind.wrap .u64 b) (IntKind.wrap .u64 d)) : Int)))) %
   18446744073709551616) :
   Int))
   (!decide (c < (0 : Int)) == decide (w64 (Int.tdiv b (w64 (↑(Int.gcd (IntKind.wrap .u64 b) (IntKind.wrap .u64 d)) : Int))) < (0 : Int)))
   (wN
   (↑(Int.natAbs c * Int.natAbs (w64 (Int.tdiv b (w64 (↑(Int.gcd (IntKind.wrap .u64 b) (IntKind.wrap .u64 d)) : Int)))) /
   18446744073709551616) :
   Int)
   (↑(Int.natAbs c * Int.natAbs (w64 (Int.tdiv b (w64 (↑(Int.gcd (IntKind.wrap .u64 b) (IntKind.wrap .u64 d)) : Int)))) %
   18446744073709551616) :
   Int)) /
   18446744073709551616) :
   Int)
   (↑(sV (!decide (a < (0 : Int)) == decide (w64 (Int.tdiv d (w64 (↑(Int.gcd (IntKind.wrap .u64 b) (IntKind.wrap .u64 d)) : Int))) < (0 : Int)))
   (wN
   (↑(Int.natAbs a * Int.natAbs (w64 (Int.tdiv d (w64 (↑(Int.gcd (IntKind.wrap .u64 b) (IntKind.wrap .u64 d)) : Int)))) /
   18446744073709551616) :
   Int)
   (↑(Int.natAbs a * Int.natAbs (w64 (Int.tdiv d (w64 (↑(Int.gcd (IntKind.wrap .u64 b) (IntKind.wrap .u64 d)) : Int)))) %
   18446744073709551616) :
   Int))
   (!decide (c < (0 : Int)) == decide (w64 (Int.tdiv b (w64 (↑(Int.gcd (IntKind.wrap .u64 b) (IntKind.wrap .u64 d)) : Int))) < (0 : Int)))
   (wN
   (↑(Int.natAbs c * Int.natAbs (w64 (Int.tdiv b (w64 (↑(Int.gcd (IntKind.wrap .u64 b) (IntKind.wrap .u64 d)) : Int)))) /
   18446744073709551616) :
   Int)
   (↑(Int.natAbs c * Int.natAbs (w64 (Int.tdiv b (w64 (↑(Int.gcd (IntKind.wrap .u64 b) (IntKind.wrap .u64 d)) : Int)))) %
   18446744073709551616) :
   Int)) %
   18446744073709551616) :
   Int) %
   Int.toNat (↑(Int.gcd (IntKind.wrap .u64 b) (IntKind.wrap .u64 d)) : Int)) :
   Int)
   (↑(Int.gcd (IntKind.wrap .u64 b) (IntKind.wrap .u64 d)) : Int)) :
   Int) /
   18446744073709551616) :
   Int)
   (↑(wN
   (↑(sV (!decide (a < (0 : Int)) == decide (w64 (Int.tdiv d (w64 (↑(Int.gcd (IntKind.wrap .u64 b) (IntKind.wrap .u64 d)) : Int))) < (0 : Int)))
   (wN (↑(Int.natAbs a * Int.natAbs (w64 (Int.tdiv d (w64 (↑(Int.gcd (IntKind.wrap .u64 b) (IntKind.wrap .u64 d)) : Int)))) / 18446744073709551616) : Int)
   (↑(Int.natAbs a * Int.natAbs (w64 (Int.tdiv d (w64 (↑(Int.gcd (IntKind.wrap .u64 b) (IntKind.wrap .u64 d)) : Int)))) % 18446744073709551616) : Int))
   (!decide (c < (0 : Int)) == decide (w64 (Int.tdiv b (w64 (↑(Int.gcd (IntKind.wrap .u64 b) (IntKind.wrap .u64 d)) : Int))) < (0 : Int)))
   (wN (↑(Int.natAbs c * Int.natAbs (w64 (Int.tdiv b (w64 (↑(Int.gcd (IntKind.wrap .u64 b) (IntKind.wrap .u64 d)) : Int)))) / 18446744073709551616) : Int)
   (↑(Int.natAbs c * Int.natAbs (w64 (Int.tdiv b (w64 (↑(Int.gcd (IntKind.wrap .u64 b) (IntKind.wrap .u64 d)) : Int)))) % 18446744073709551616) : Int)) /
   18446744073709551616) :
   Int)
   (↑(sV (!decide (a < (0 : Int)) == decide (w64 (Int.tdiv d (w64 (↑(Int.gcd (IntKind.wrap .u64 b) (IntKind.wrap .u64 d)) : Int))) < (0 : Int)))
   (wN (↑(Int.natAbs a * Int.natAbs (w64 (Int.tdiv d (w64 (↑(Int.gcd (IntKind.wrap .u64 b) (IntKind.wrap .u64 d)) : Int)))) / 18446744073709551616) : Int)
   (↑(Int.natAbs a * Int.natAbs (w64 (Int.tdiv d (w64 (↑(Int.gcd (IntKind.wrap .u64 b) (IntKind.wrap .u64 d)) : Int)))) % 18446744073709551616) : Int))
   (!decide (c < (0 : Int)) == decide (w64 (Int.tdiv b (w64 (↑(Int.gcd (IntKind.wrap .u64 b) (IntKind.wrap .u64 d)) : Int))) < (0 : Int)))
   (wN (↑(Int.natAbs c * Int.natAbs (w64 (Int.tdiv b (w64 (↑(Int.gcd (IntKind.wrap .u64 b) (IntKind.wrap .u64 d)) : Int)))) / 18446744073709551616) : Int)
   (↑(Int.natAbs c * Int.natAbs (w64 (Int.tdiv b (w64 (↑(Int.gcd (IntKind.wrap .u64 b) (IntKind.wrap .u64 d)) : Int)))) % 18446744073709551616) : Int)) %
   18446744073709551616) :
   Int) /
   Int.toNat
   (↑(Int.gcd
   (↑(wN
   (↑(sV (!decide (a < (0 : Int)) == decide (w64 (Int.tdiv d (w64 (↑(Int.gcd (IntKind.wrap .u64 b) (IntKind.wrap .u64 d)) : Int))) < (0 : Int)))
   (wN
   (↑(Int.natAbs a * Int.natAbs (w64 (Int.tdiv d (w64 (↑(Int.gcd (IntKind.wrap .u64 b) (IntKind.wrap .u64 d)) : Int)))) /
   18446744073709551616) :
   Int)
   (↑(Int.natAbs a * Int.natAbs (w64 (Int.tdiv d (w64 (↑(Int.gcd (IntKind.wrap .u64 b) (IntKind.wrap .u64 d)) : Int)))) %
   18446744073709551616) :
   Int))
   (!decide (c < (0 : Int)) == decide (w64 (Int.tdiv b (w64 (↑(Int.gcd (IntKind.wrap .u64 b) (IntKind.wrap .u64 d)) : Int))) < (0 : Int)))
   (wN
   (↑(Int.natAbs c * Int.natAbs (w64 (Int.tdiv b (w64 (↑(Int.gcd (IntKind.wrap .u64 b) (IntKind.wrap .u64 d)) : Int)))) /
   18446744073709551616) :
   Int)
   (↑(Int.natAbs c * Int.natAbs (w64 (Int.tdiv b (w64 (↑(Int.gcd (IntKind.wrap .u64 b) (IntKind.wrap .u64 d)) : Int)))) %
   18446744073709551616) :
   Int)) /
   18446744073709551616) :
   Int)
   (↑(sV (!decide (a < (0 : Int)) == decide (w64 (Int.tdiv d (w64 (↑(Int.gcd (IntKind.wrap .u64 b) (IntKind.wrap .u64 d)) : Int))) < (0 : Int)))
   (wN
   (↑(Int.natAbs a * Int.natAbs (w64 (Int.tdiv d (w64 (↑(Int.gcd (IntKind.wrap .u64 b) (IntKind.wrap .u64 d)) : Int)))) /
   18446744073709551616) :
   Int)
   (↑(Int.natAbs a * Int.natAbs (w64 (Int.tdiv d (w64 (↑(Int.gcd (IntKind.wrap .u64 b) (IntKind.wrap .u64 d)) : Int)))) %
   18446744073709551616) :
   Int))
   (!decide (c < (0 : Int)) == decide (w64 (Int.tdiv b (w64 (↑(Int.gcd (IntKind.wrap .u64 b) (IntKind.wrap .u64 d)) : Int))) < (0 : Int)))
   (wN
   (↑(Int.natAbs c * Int.natAbs (w64 (Int.tdiv b (w64 (↑(Int.gcd (IntKind.wrap .u64 b) (IntKind.wrap .u64 d)) : Int)))) /
   18446744073709551616) :
   Int)
   (↑(Int.natAbs c * Int.natAbs (w64 (Int.tdiv b (w64 (↑(Int.gcd (IntKind.wrap .u64 b) (IntKind.wrap .u64 d)) : Int)))) %
   18446744073709551616) :
   Int)) %
   18446744073709551616) :
   Int) %
   Int.toNat (↑(Int.gcd (IntKind.wrap .u64 b) (IntKind.wrap .u64 d)) : Int)) :
   Int)
   (↑(Int.gcd (IntKind.wrap .u64 b) (IntKind.wrap .u64 d)) : Int)) :
   Int) %
   18446744073709551616) :
   Int))
   (wN
   (↑(Int.natAbs (w64 (Int.tdiv b (w64 (↑(Int.gcd (IntKind.wrap .u64 b) (IntKind.wrap .u64 d)) : Int)))) *
   Int.natAbs
   (w64
   (Int.tdiv d
   (w64
   (↑(Int.gcd
   (↑(wN
   (↑(sV (!decide (a < (0 : Int)) == decide (w64 (Int.tdiv d (w64 (↑(Int.gcd (IntKind.wrap .u64 b) (IntKind.wrap .u64 d)) : Int))) < (0 : Int)))
   (wN
   (↑(Int.natAbs a * Int.natAbs (w64 (Int.tdiv d (w64 (↑(Int.gcd (IntKind.wrap .u64 b) (IntKind.wrap .u64 d)) : Int)))) /
   18446744073709551616) :
   Int)
   (↑(Int.natAbs a * Int.natAbs (w64 (Int.tdiv d (w64 (↑(Int.gcd (IntKind.wrap .u64 b) (IntKind.wrap .u64 d)) : Int)))) %
   18446744073709551616) :
   Int))
   (!decide (c < (0 : Int)) == decide (w64 (Int.tdiv b (w64 (↑(Int.gcd (IntKind.wrap .u64 b) (IntKind.wrap .u64 d)) : Int))) < (0 : Int)))
   (wN
   (↑(Int.natAbs c * Int.natAbs (w64 (Int.tdiv b (w64 (↑(Int.gcd (IntKind.wrap .u64 b) (IntKind.wrap .u64 d)) : Int)))) /
   18446744073709551616) :
   Int)
   (↑(Int.natAbs c * Int.natAbs (w64 (Int.tdiv b (w64 (↑(Int.gcd (IntKind.wrap .u64 b) (IntKind.wrap .u64 d)) : Int)))) %
   18446744073709551616) :
   Int)) /
   18446744073709551616) :
   Int)
   (↑(sV (!decide (a < (0 : Int)) == decide (w64 (Int.tdiv d (w64 (↑(Int.gcd (IntKind.wrap .u64 b) (IntKind.wrap .u64 d)) : Int))) < (0 : Int)))
   (wN
   (↑(Int.natAbs a * Int.natAbs (w64 (Int.tdiv d (w64 (↑(Int.gcd (IntKind.wrap .u64 b) (IntKind.wrap .u64 d)) : Int)))) /
   18446744073709551616) :
   Int)
   (↑(Int.natAbs a * Int.natAbs (w64 (Int.tdiv d (w64 (↑(Int.gcd (IntKind.wrap .u64 b) (IntKind.wrap .u64 d)) : Int)))) %
   18446744073709551616) :
   Int))
   (!decide (c < (0 : Int)) == decide (w64 (Int.tdiv b (w64 (↑(Int.gcd (IntKind.wrap .u64 b) (IntKind.wrap .u64 d)) : Int))) < (0 : Int)))
   (wN
   (↑(Int.natAbs c * Int.natAbs (w64 (Int.tdiv b (w64 (↑(Int.gcd (IntKind.wrap .u64 b) (IntKind.wrap .u64 d)) : Int)))) /
   18446744073709551616) :
   Int)
   (↑(Int.natAbs c * Int.natAbs (w64 (Int.tdiv b (w64 (↑(Int.gcd (IntKind.wrap .u64 b) (IntKind.wrap .u64 d)) : Int)))) %
   18446744073709551616) :
   Int)) %
   18446744073709551616) :
   Int) %
   Int.toNat (↑(Int.gcd (IntKind.wrap .u64 b) (IntKind.wrap .u64 d)) : Int)) :
   Int)
   (↑(Int.gcd (IntKind.wrap .u64 b) (IntKind.wrap .u64 d)) : Int)) :
   Int)))) /
   18446744073709551616) :
   Int)
   (↑(Int.natAbs (w64 (Int.tdiv b (w64 (↑(Int.gcd (IntKind.wrap .u64 b) (IntKind.wrap .u64 d)) : Int)))) *
   Int.natAbs
   (w64
   (Int.tdiv d
   (w64
   (↑(Int.gcd
   (↑(wN
   (↑(sV (!decide (a < (0 : Int)) == decide (w64 (Int.tdiv d (w64 (↑(Int.gcd (IntKind.wrap .u64 b) (IntKind.wrap .u64 d)) : Int))) < (0 : Int)))
   (wN
   (↑(Int.natAbs a * Int.natAbs (w64 (Int.tdiv d (w64 (↑(Int.gcd (IntKind.wrap .u64 b) (IntKind.wrap .u64 d)) : Int)))) /
   18446744073709551616) :
   Int)
   (↑(Int.natAbs a * Int.natAbs (w64 (Int.tdiv d (w64 (↑(Int.gcd (IntKind.wrap .u64 b) (IntKind.wrap .u64 d)) : Int)))) %
   18446744073709551616) :
   Int))
   (!decide (c < (0 : Int)) == decide (w64 (Int.tdiv b (w64 (↑(Int.gcd (IntKind.wrap .u64 b) (IntKind.wrap .u64 d)) : Int))) < (0 : Int)))
   (wN
   (↑(Int.natAbs c * Int.natAbs (w64 (Int.tdiv b (w64 (↑(Int.gcd (IntKind.wrap .u64 b) (IntKind.wrap .u64 d)) : Int)))) /
   18446744073709551616) :
   Int)
   (↑(Int.natAbs c * Int.natAbs (w64 (Int.tdiv b (w64 (↑(Int.gcd (IntKind.wrap .u64 b) (IntKind.wrap .u64 d)) : Int)))) %
   18446744073709551616) :
   Int)) /
   18446744073709551616) :
   Int)
   (↑(sV (!decide (a < (0 : Int)) == decide (w64 (Int.tdiv d (w64 (↑(Int.gcd (IntKind.wrap .u64 b) (IntKind.wrap .u64 d)) : Int))) < (0 : Int)))
   (wN
   (↑(Int.natAbs a * Int.natAbs (w64 (Int.tdiv d (w64 (↑(Int.gcd (IntKind.wrap .u64 b) (IntKind.wrap .u64 d)) : Int)))) /
   18446744073709551616) :
   Int)
   (↑(Int.natAbs a * Int.natAbs (w64 (Int.tdiv d (w64 (↑(Int.gcd (IntKind.wrap .u64 b) (IntKind.wrap .u64 d)) : Int)))) %
   18446744073709551616) :
   Int))
   (!decide (c < (0 : Int)) == decide (w64 (Int.tdiv b (w64 (↑(Int.gcd (IntKind.wrap .u64 b) (IntKind.wrap .u64 d)) : Int))) < (0 : Int)))
   (wN
   (↑(Int.natAbs c * Int.natAbs (w64 (Int.tdiv b (w64 (↑(Int.gcd (IntKind.wrap .u64 b) (IntKind.wrap .u64 d)) : Int)))) /
   18446744073709551616) :
   Int)
   (↑(Int.natAbs c * Int.natAbs (w64 (Int.tdiv b (w64 (↑(Int.gcd (IntKind.wrap .u64 b) (IntKind.wrap .u64 d)) : Int)))) %
   18446744073709551616) :
   Int)) %
   18446744073709551616) :
   Int) %
   Int.toNat (↑(Int.gcd (IntKind.wrap .u64 b) (IntKind.wrap .u64 d)) : Int)) :
   Int)
   (↑(Int.gcd (IntKind.wrap .u64 b) (IntKind.wrap .u64 d)) : Int)) :
   Int)))) %
   18446744073709551616) :
   Int)))],
   iv
   (finE
   (wN
   (↑(wN
   (↑(sV (!decide (a < (0 : Int)) == decide (w64 (Int.tdiv d (w64 (↑(Int.gcd (IntKind.wrap .u64 b) (IntKind.wrap .u64 d)) : Int))) < (0 : Int)))
   (wN (↑(Int.natAbs a * Int.natAbs (w64 (Int.tdiv d (w64 (↑(Int.gcd (IntKind.wrap .u64 b) (IntKind.wrap .u64 d)) : Int)))) / 18446744073709551616) : Int)
   (↑(Int.natAbs a * Int.natAbs (w64 (Int.tdiv d (w64 (↑(Int.gcd (IntKind.wrap .u64 b) (IntKind.wrap .u64 d)) : Int)))) % 18446744073709551616) : Int))
   (!decide (c < (0 : Int)) == decide (w64 (Int.tdiv b (w64 (↑(Int.gcd (IntKind.wrap .u64 b) (IntKind.wrap .u64 d)) : Int))) < (0 : Int)))
   (wN (↑(Int.natAbs c * Int.natAbs (w64 (Int.tdiv b (w64 (↑(Int.gcd (IntKind.wrap .u64 b) (IntKind.wrap .u64 d)) : Int)))) / 18446744073709551616) : Int)
   (↑(Int.natAbs c * Int.natAbs (w64 (Int.tdiv b (w64 (↑(Int.gcd (IntKind.wrap .u64 b) (IntKind.wrap .u64 d)) : Int)))) % 18446744073709551616) : Int)) /
   18446744073709551616) :
   Int)
   (↑(sV (!decide (a < (0 : Int)) == decide (w64 (Int.tdiv d (w64 (↑(Int.gcd (IntKind.wrap .u64 b) (IntKind.wrap .u64 d)) : Int))) < (0 : Int)))
   (wN (↑(Int.natAbs a * Int.natAbs (w64 (Int.tdiv d (w64 (↑(Int.gcd (IntKind.wrap .u64 b) (IntKind.wrap .u64 d)) : Int)))) / 18446744073709551616) : Int)
   (↑(Int.natAbs a * Int.natAbs (w64 (Int.tdiv d (w64 (↑(Int.gcd (IntKind.wrap .u64 b) (IntKind.wrap .u64 d)) : Int)))) % 18446744073709551616) : Int))
   (!decide (c < (0 : Int)) == decide (w64 (Int.tdiv b (w64 (↑(Int.gcd (IntKind.wrap .u64 b) (IntKind.wrap .u64 d)) : Int))) < (0 : Int)))
   (wN (↑(Int.natAbs c * Int.natAbs (w64 (Int.tdiv b (w64 (↑(Int.gcd (IntKind.wrap .u64 b) (IntKind.wrap .u64 d)) : Int)))) / 18446744073709551616) : Int)
   (↑(Int.natAbs c * Int.natAbs (w64 (Int.tdiv b (w64 (↑(Int.gcd (IntKind.wrap .u64 b) (IntKind.wrap .u64 d)) : Int)))) % 18446744073709551616) : Int)) %
   18446744073709551616) :
   Int) /
   Int.toNat
   (↑(Int.gcd
   (↑(wN
   (↑(sV (!decide (a < (0 : Int)) == decide (w64 (Int.tdiv d (w64 (↑(Int.gcd (IntKind.wrap .u64 b) (IntKind.wrap .u64 d)) : Int))) < (0 : Int)))
   (wN
   (↑(Int.natAbs a * Int.natAbs (w64 (Int.tdiv d (w64 (↑(Int.gcd (IntKind.wrap .u64 b) (IntKind.wrap .u64 d)) : Int)))) /
   18446744073709551616) :
   Int)
   (↑(Int.natAbs a * Int.natAbs (w64 (Int.tdiv d (w64 (↑(Int.gcd (IntKind.wrap .u64 b) (IntKind.wrap .u64 d)) : Int)))) %
   18446744073709551616) :
   Int))
   (!decide (c < (0 : Int)) == decide (w64 (Int.tdiv b (w64 (↑(Int.gcd (IntKind.wrap .u64 b) (IntKind.wrap .u64 d)) : Int))) < (0 : Int)))
   (wN
   (↑(Int.natAbs c * Int.natAbs (w64 (Int.tdiv b (w64 (↑(Int.gcd (IntKind.wrap .u64 b) (IntKind.wrap .u64 d)) : Int)))) /
   18446744073709551616) :
   Int)
   (↑(Int.natAbs c * Int.natAbs (w64 (Int.tdiv b (w64 (↑(Int.gcd (IntKind.wrap .u64 b) (IntKind.wrap .u64 d)) : Int)))) %
   18446744073709551616) :
   Int)) /
   18446744073709551616) :
   Int)
   (↑(sV (!decide (a < (0 : Int)) == decide (w64 (Int.tdiv d (w64 (↑(Int.gcd (IntKind.wrap .u64 b) (IntKind.wrap .u64 d)) : Int))) < (0 : Int)))
   (wN
   (↑(Int.natAbs a * Int.natAbs (w64 (Int.tdiv d (w64 (↑(Int.gcd (IntKind.wrap .u64 b) (IntKind.wrap .u64 d)) : Int)))) /
   18446744073709551616) :
   Int)
   (↑(Int.natAbs a * Int.natAbs (w64 (Int.tdiv d (w64 (↑(Int.gcd (IntKind.wrap .u64 b) (IntKind.wrap .u64 d)) : Int)))) %
   18446744073709551616) :
   Int))
   (!decide (c < (0 : Int)) == decide (w64 (Int.tdiv b (w64 (↑(Int.gcd (IntKind.wrap .u64 b) (IntKind.wrap .u64 d)) : Int))) < (0 : Int)))
   (wN
   (↑(Int.natAbs c * Int.natAbs (w64 (Int.tdiv b (w64 (↑(Int.gcd (IntKind.wrap .u64 b) (IntKind.wrap .u64 d)) : Int)))) /
   18446744073709551616) :
   Int)
   (↑(Int.natAbs c * Int.natAbs (w64 (Int.tdiv b (w64 (↑(Int.gcd (IntKind.wrap .u64 b) (IntKind.wrap .u64 d)) : Int)))) %
   18446744073709551616) :
   Int)) %
   18446744073709551616) :
   Int) %
   Int.toNat (↑(Int.gcd (IntKind.wrap .u64 b) (IntKind.wrap .u64 d)) : Int)) :
   Int)
   (↑(Int.gcd (IntKind.wrap .u64 b) (IntKind.wrap .u64 d)) : Int)) :
   Int) /
   18446744073709551616) :
   Int)
   (↑(wN
   (↑(sV (!decide (a < (0 : Int)) == decide (w64 (Int.tdiv d (w64 (↑(Int.gcd (IntKind.wrap .u64 b) (IntKind.wrap .u64 d)) : Int))) < (0 : Int)))
   (wN (↑(Int.natAbs a * Int.natAbs (w64 (Int.tdiv d (w64 (↑(Int.gcd (IntKind.wrap .u64 b) (IntKind.wrap .u64 d)) : Int)))) / 18446744073709551616) : Int)
   (↑(Int.natAbs a * Int.natAbs (w64 (Int.tdiv d (w64 (↑(Int.gcd (IntKind.wrap .u64 b) (IntKind.wrap .u64 d)) : Int)))) % 18446744073709551616) : Int))
   (!decide (c < (0 : Int)) == decide (w64 (Int.tdiv b (w64 (↑(Int.gcd (IntKind.wrap .u64 b) (IntKind.wrap .u64 d)) : Int))) < (0 : Int)))
   (wN (↑(Int.natAbs c * Int.natAbs (w64 (Int.tdiv b (w64 (↑(Int.gcd (IntKind.wrap .u64 b) (IntKind.wrap .u64 d)) : Int)))) / 18446744073709551616) : Int)
   (↑(Int.natAbs c * Int.natAbs (w64 (Int.tdiv b (w64 (↑(Int.gcd (IntKind.wrap .u64 b) (IntKind.wrap .u64 d)) : Int)))) % 18446744073709551616) : Int)) /
   18446744073709551616) :
   Int)
   (↑(sV (!decide (a < (0 : Int)) == decide (w64 (Int.tdiv d (w64 (↑(Int.gcd (IntKind.wrap .u64 b) (IntKind.wrap .u64 d)) : Int))) < (0 : Int)))
   (wN (↑(Int.natAbs a * Int.natAbs (w64 (Int.tdiv d (w64 (↑(Int.gcd (IntKind.wrap .u64 b) (IntKind.wrap .u64 d)) : Int)))) / 18446744073709551616) : Int)
   (↑(Int.natAbs a * Int.natAbs (w64 (Int.tdiv d (w64 (↑(Int.gcd (IntKind.wrap .u64 b) (IntKind.wrap .u64 d)) : Int)))) % 18446744073709551616) : Int))
   (!decide (c < (0 : Int)) == decide (w64 (Int.tdiv b (w64 (↑(Int.gcd (IntKind.wrap .u64 b) (IntKind.wrap .u64 d)) : Int))) < (0 : Int)))
   (wN (↑(Int.natAbs c * Int.natAbs (w64 (Int.tdiv b (w64 (↑(Int.gcd (IntKind.wrap .u64 b) (IntKind.wrap .u64 d)) : Int)))) / 18446744073709551616) : Int)
   (↑(Int.natAbs c * Int.natAbs (w64 (Int.tdiv b (w64 (↑(Int.gcd (IntKind.wrap .u64 b) (IntKind.wrap .u64 d)) : Int)))) % 18446744073709551616) : Int)) %
   18446744073709551616) :
   Int) /
   Int.toNat
   (↑(Int.gcd
   (↑(wN
   (↑(sV (!decide (a < (0 : Int)) == decide (w64 (Int.tdiv d (w64 (↑(Int.gcd (IntKind.wrap .u64 b) (IntKind.wrap .u64 d)) : Int))) < (0 : Int)))
   (wN
   (↑(Int.natAbs a * Int.natAbs (w64 (Int.tdiv d (w64 (↑(Int.gcd (IntKind.wrap .u64 b) (IntKind.wrap .u64 d)) : Int)))) /
   18446744073709551616) :
   Int)
   (↑(Int.natAbs a * Int.natAbs (w64 (Int.tdiv d (w64 (↑(Int.gcd (IntKind.wrap .u64 b) (IntKind.wrap .u64 d)) : Int)))) %
   18446744073709551616) :
   Int))
   (!decide (c < (0 : Int)) == decide (w64 (Int.tdiv b (w64 (↑(Int.gcd (IntKind.wrap .u64 b) (IntKind.wrap .u64 d)) : Int))) < (0 : Int)))
   (wN
   (↑(Int.natAbs c * Int.natAbs (w64 (Int.tdiv b (w64 (↑(Int.gcd (IntKind.wrap .u64 b) (IntKind.wrap .u64 d)) : Int)))) /
   18446744073709551616) :
   Int)
   (↑(Int.natAbs c * Int.natAbs (w64 (Int.tdiv b (w64 (↑(Int.gcd (IntKind.wrap .u64 b) (IntKind.wrap .u64 d)) : Int)))) %
   18446744073709551616) :
   Int)) /
   18446744073709551616) :
   Int)
   (↑(sV (!decide (a < (0 : Int)) == decide (w64 (Int.tdiv d (w64 (↑(Int.gcd (IntKind.wrap .u64 b) (IntKind.wrap .u64 d)) : Int))) < (0 : Int)))
   (wN
   (↑(Int.natAbs a * Int.natAbs (w64 (Int.tdiv d (w64 (↑(Int.gcd (IntKind.wrap .u64 b) (IntKind.wrap .u64 d)) : Int)))) /
   18446744073709551616) :
   Int)
   (↑(Int.natAbs a * Int.natAbs (w64 (Int.tdiv d (w64 (↑(Int.gcd (IntKind.wrap .u64 b) (IntKind.wrap .u64 d)) : Int)))) %
   18446744073709551616) :
   Int))
   (!decide (c < (0 : Int)) == decide (w64 (Int.tdiv b (w64 (↑(Int.gcd (IntKind.wrap .u64 b) (IntKind.wrap .u64 d)) : Int))) < (0 : Int)))
   (wN
   (↑(Int.natAbs c * Int.natAbs (w64 (Int.tdiv b (w64 (↑(Int.gcd (IntKind.wrap .u64 b) (IntKind.wrap .u64 d)) : Int)))) /
   18446744073709551616) :
   Int)
   (↑(Int.natAbs c * Int.natAbs (w64 (Int.tdiv b (w64 (↑(Int.gcd (IntKind.wrap .u64 b) (IntKind.wrap .u64 d)) : Int)))) %
   18446744073709551616) :
   Int)) %
   18446744073709551616) :
   Int) %
   Int.toNat (↑(Int.gcd (IntKind.wrap .u64 b) (IntKind.wrap .u64 d)) : Int)) :
   Int)
   (↑(Int.gcd (IntKind.wrap .u64 b) (IntKind.wrap .u64 d)) : Int)) :
   Int) %
   18446744073709551616) :
   Int))
   (wN
   (↑(Int.natAbs (w64 (Int.tdiv b (w64 (↑(Int.gcd (IntKind.wrap .u64 b) (IntKind.wrap .u64 d)) : Int)))) *
   Int.natAbs
   (w64
   (Int.tdiv d
   (w64
   (↑(Int.gcd
   (↑(wN
   (↑(sV (!decide (a < (0 : Int)) == decide (w64 (Int.tdiv d (w64 (↑(Int.gcd (IntKind.wrap .u64 b) (IntKind.wrap .u64 d)) : Int))) < (0 : Int)))
   (wN
   (↑(Int.natAbs a * Int.natAbs (w64 (Int.tdiv d (w64 (↑(Int.gcd (IntKind.wrap .u64 b) (IntKind.wrap .u64 d)) : Int)))) /
   18446744073709551616) :
   Int)
   (↑(Int.natAbs a * Int.natAbs (w64 (Int.tdiv d (w64 (↑(Int.gcd (IntKind.wrap .u64 b) (IntKind.wrap .u64 d)) : Int)))) %
   18446744073709551616) :
   Int))
   (!decide (c < (0 : Int)) == decide (w64 (Int.tdiv b (w64 (↑(Int.gcd (IntKind.wrap .u64 b) (IntKind.wrap .u64 d)) : Int))) < (0 : Int)))
   (wN
   (↑(Int.natAbs c * Int.natAbs (w64 (Int.tdiv b (w64 (↑(Int.gcd (IntKind.wrap .u64 b) (IntKind.wrap .u64 d)) : Int)))) /
   18446744073709551616) :
   Int)
   (↑(Int.natAbs c * Int.natAbs (w64 (Int.tdiv b (w64 (↑(Int.gcd (IntKind.wrap .u64 b) (IntKind.wrap .u64 d)) : Int)))) %
   18446744073709551616) :
   Int)) /
   18446744073709551616) :
   Int)
   (↑(sV (!decide (a < (0 : Int)) == decide (w64 (Int.tdiv d (w64 (↑(Int.gcd (IntKind.wrap .u64 b) (IntKind.wrap .u64 d)) : Int))) < (0 : Int)))
   (wN
   (↑(Int.natAbs a * Int.natAbs (w64 (Int.tdiv d (w64 (↑(Int.gcd (IntKind.wrap .u64 b) (IntKind.wrap .u64 d)) : Int)))) /
   18446744073709551616) :
   Int)
   (↑(Int.natAbs a * Int.natAbs (w64 (Int.tdiv d (w64 (↑(Int.gcd (IntKind.wrap .u64 b) (IntKind.wrap .u64 d)) : Int)))) %
   18446744073709551616) :
   Int))
   (!decide (c < (0 : Int)) == decide (w64 (Int.tdiv b (w64 (↑(Int.gcd (IntKind.wrap .u64 b) (IntKind.wrap .u64 d)) : Int))) < (0 : Int)))
   (wN
   (↑(Int.natAbs c * Int.natAbs (w64 (Int.tdiv b (w64 (↑(Int.gcd (IntKind.wrap .u64 b) (IntKind.wrap .u64 d)) : Int)))) /
   18446744073709551616) :
   Int)
   (↑(Int.natAbs c * Int.natAbs (w64 (Int.tdiv b (w64 (↑(Int.gcd (IntKind.wrap .u64 b) (IntKind.wrap .u64 d)) : Int)))) %
   18446744073709551616) :
   Int)) %
   18446744073709551616) :
   Int) %
   Int.toNat (↑(Int.gcd (IntKind.wrap .u64 b) (IntKind.wrap .u64 d)) : Int)) :
   Int)
   (↑(Int.gcd (IntKind.wrap .u64 b) (IntKind.wrap .u64 d)) : Int)) :
   Int)))) /
   18446744073709551616) :
   Int)
   (↑(Int.natAbs (w64 (Int.tdiv b (w64 (↑(Int.gcd (IntKind.wrap .u64 b) (IntKind.wrap .u64 d)) : Int)))) *
   Int.natAbs
   (w64
   (Int.tdiv d
   (w64
   (↑(Int.gcd
   (↑(wN
   (↑(sV (!decide (a < (0 : Int)) == decide (w64 (Int.tdiv d (w64 (↑(Int.gcd (IntKind.wrap .u64 b) (IntKind.wrap .u64 d)) : Int))) < (0 : Int)))
   (wN
   (↑(Int.natAbs a * Int.natAbs (w64 (Int.tdiv d (w64 (↑(Int.gcd (IntKind.wrap .u64 b) (IntKind.wrap .u64 d)) : Int)))) /
   18446744073709551616) :
   Int)
   (↑(Int.natAbs a * Int.natAbs (w64 (Int.tdiv d (w64 (↑(Int.gcd (IntKind.wrap .u64 b) (IntKind.wrap .u64 d)) : Int)))) %
   18446744073709551616) :
   Int))
   (!decide (c < (0 : Int)) == decide (w64 (Int.tdiv b (w64 (↑(Int.gcd (IntKind.wrap .u64 b) (IntKind.wrap .u64 d)) : Int))) < (0 : Int)))
   (wN
   (↑(Int.natAbs c * Int.natAbs (w64 (Int.tdiv b (w64 (↑(Int.gcd (IntKind.wrap .u64 b) (IntKind.wrap .u64 d)) : Int)))) /
   18446744073709551616) :
   Int)
   (↑(Int.natAbs c * Int.natAbs (w64 (Int.tdiv b (w64 (↑(Int.gcd (IntKind.wrap .u64 b) (IntKind.wrap .u64 d)) : Int)))) %
   18446744073709551616) :
   Int)) /
   18446744073709551616) :
   Int)
   (↑(sV (!decide (a < (0 : Int)) == decide (w64 (Int.tdiv d (w64 (↑(Int.gcd (IntKind.wrap .u64 b) (IntKind.wrap .u64 d)) : Int))) < (0 : Int)))
   (wN
   (↑(Int.natAbs a * Int.natAbs (w64 (Int.tdiv d (w64 (↑(Int.gcd (IntKind.wrap .u64 b) (IntKind.wrap .u64 d)) : Int)))) /
   18446744073709551616) :
   Int)
   (↑(Int.natAbs a * Int.natAbs (w64 (Int.tdiv d (w64 (↑(Int.gcd (IntKind.wrap .u64 b) (IntKind.wrap .u64 d)) : Int)))) %
   18446744073709551616) :
   Int))
   (!decide (c < (0 : Int)) == decide (w64 (Int.tdiv b (w64 (↑(Int.gcd (IntKind.wrap .u64 b) (IntKind.wrap .u64 d)) : Int))) < (0 : Int)))
   (wN
   (↑(Int.natAbs c * Int.natAbs (w64 (Int.tdiv b (w64 (↑(Int.gcd (IntKind.wrap .u64 b) (IntKind.wrap .u64 d)) : Int)))) /
   18446744073709551616) :
   Int)
   (↑(Int.natAbs c * Int.natAbs (w64 (Int.tdiv b (w64 (↑(Int.gcd (IntKind.wrap .u64 b) (IntKind.wrap .u64 d)) : Int)))) %
   18446744073709551616) :
   Int)) %
   18446744073709551616) :
   Int) %
   Int.toNat (↑(Int.gcd (IntKind.wrap .u64 b) (IntKind.wrap .u64 d)) : Int)) :
   Int)
   (↑(Int.gcd (IntKind.wrap .u64 b) (IntKind.wrap .u64 d)) : Int)) :
   Int)))) %
   18446744073709551616) :
   Int)))])))))))))))))))))

theorem LAd_eq (a b c d : Int) : T8 97 [.agg [iv a, iv b], .agg [iv c, iv d]] = LAd a b c d := by kernel_rfl


end Go.Proofs.Ytcbjclmjkilphaa.Fr

