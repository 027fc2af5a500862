/- Part of a proof of the given statements of this seat (SxFrLc, SxFrLd, SxFrLe, SxFrLg, SxFrLi, SxFrLk, SyLaw, SxFrGl, SxFrG7): no conditions beyond those typed here. -/
import Derived.Test.YtmdbfhkineaheaaDoorSz06
import Derived.Test.YtmdbfhkineaheaaDoorSz07
import Derived.HandedShaped
import Derived.Handed
import Derived.LaidMore
import Derived.LaidLaws
import Derived.Test.YtmdbfhkineaheaaDoorSz03
import Derived.Test.YtmdbfhkineaheaaDoorSz04
import Derived.Lib.LaidTab
import Derived.Stop.LaidErr
import Derived.Shelf.Vars
import Derived.MakeChecks
import Derived.Test.YtmdbfhkineaheaaDoorRows
import Derived.Test.YtmdbfhkineaheaaDoorChecked
import Derived.Test.YtmdbfhkineaheaaDoorCards
import Derived.Test.YtmdbfhkineaheaaDoorTie
import Derived.SevenTiedAt
set_option linter.unusedVariables false
set_option linter.unusedSimpArgs false
set_option linter.unusedSectionVars false

namespace Go.Proofs.YtmdbfhkineaheaaDoor
open Go.Sx
set_option maxRecDepth 100000

/-! ### FractionField -/

theorem VF.z : VF 0 1 := ⟨⟨by decide, by decide⟩, by decide, by decide⟩
theorem VF.o : VF 1 1 := ⟨⟨by decide, by decide⟩, by decide, by decide⟩
theorem dvN_of {p q : Rat} (h : q ≠ 0) : dvN p q = rN (p / q) := if_neg h
theorem dvD_of {p q : Rat} (h : q ≠ 0) : dvD p q = rD (p / q) := if_neg h
theorem dvE_of {p q : Rat} (h : q ≠ 0) : dvE p q = rE (p / q) := if_neg h

theorem okPair {n : Nat} {ds : List DV} (h : okT Tryd.prog (n + 3) 22 ds) : ∃ a b : Int, I64 a ∧ I64 b ∧ ds = [.x (.int .i64 a), .x (.int .i64 b)] := by
  obtain ⟨ks, e1, rfl, e3⟩ := okT_ints (c := 2) (by simp only [cntI, Tryd.underlying22, Tryd.underlying3]; rfl) h
  match ks, e1 with
  | [a, b], _ => exact ⟨a, b, e3 a (by simp), e3 b (by simp), rfl⟩

end Go.Proofs.YtmdbfhkineaheaaDoor

namespace Go.Proofs.YtmdbfhkineaheaaDoor
open Go.Sx
set_option maxRecDepth 100000

/-! ### FractionOrder -/

theorem vf_r {s : Rat} (h : fitsR s) : VF (rN s) (rD s) := by rw [rN_of h, rD_of h]; exact VF.of h
end Go.Proofs.YtmdbfhkineaheaaDoor

namespace Go.Proofs.YtmdbfhkineaheaaDoor
open Go.Sx
set_option maxRecDepth 100000

/-! ### FractionRounds -/

theorem VF.i {n : Int} (h : n.natAbs ≤ 4611686018427387904) : VF n 1 := ⟨⟨by omega, by simp⟩, h, by omega⟩
end Go.Proofs.YtmdbfhkineaheaaDoor

namespace Go.Proofs.YtmdbfhkineaheaaDoor
open Go.Sx
set_option maxRecDepth 100000

end Go.Proofs.YtmdbfhkineaheaaDoor

namespace Go.Proofs.YtmdbfhkineaheaaDoor
open Go.Sx
set_option maxRecDepth 100000

noncomputable def LCan_q1 (x0 : Int) (x1 : Int) : Rat :=
  ratOf (mN x0 x1) (mD x0 x1)
noncomputable def LCan_q2 (y0 : Int) (y1 : Int) : Rat :=
  ratOf (mN y0 y1) (mD y0 y1)
noncomputable def LCan_q3 (x0 : Int) (x1 : Int) (y0 : Int) (y1 : Int) : Rat :=
  LCan_q1 x0 x1 + LCan_q2 y0 y1
noncomputable def LCan_q4 (x0 : Int) (x1 : Int) (y0 : Int) (y1 : Int) : Bool :=
  !vB (rN (LCan_q3 x0 x1 y0 y1)) (rD (LCan_q3 x0 x1 y0 y1)) == (rE (LCan_q3 x0 x1 y0 y1) == (0 : Int))
noncomputable def LCan_q5 (x0 : Int) (x1 : Int) (y0 : Int) (y1 : Int) : Bool :=
  rE (LCan_q3 x0 x1 y0 y1) != (0 : Int)
noncomputable def LCan_q6 (x0 : Int) (x1 : Int) (y0 : Int) (y1 : Int) : Rat :=
  LCan_q1 x0 x1 - LCan_q2 y0 y1
noncomputable def LCan_q7 (x0 : Int) (x1 : Int) (y0 : Int) (y1 : Int) : Bool :=
  !vB (rN (LCan_q6 x0 x1 y0 y1)) (rD (LCan_q6 x0 x1 y0 y1)) == (rE (LCan_q6 x0 x1 y0 y1) == (0 : Int))
noncomputable def LCan_q8 (x0 : Int) (x1 : Int) (y0 : Int) (y1 : Int) : Bool :=
  rE (LCan_q6 x0 x1 y0 y1) != (0 : Int)
noncomputable def LCan_q9 (x0 : Int) (x1 : Int) (y0 : Int) (y1 : Int) : Rat :=
  LCan_q1 x0 x1 * LCan_q2 y0 y1
noncomputable def LCan_q10 (x0 : Int) (x1 : Int) (y0 : Int) (y1 : Int) : Bool :=
  !vB (rN (LCan_q9 x0 x1 y0 y1)) (rD (LCan_q9 x0 x1 y0 y1)) == (rE (LCan_q9 x0 x1 y0 y1) == (0 : Int))
noncomputable def LCan_q11 (x0 : Int) (x1 : Int) (y0 : Int) (y1 : Int) : Bool :=
  rE (LCan_q9 x0 x1 y0 y1) != (0 : Int)
noncomputable def LCan_q12 (x0 : Int) (x1 : Int) (y0 : Int) (y1 : Int) : Bool :=
  !vB (dvN (LCan_q1 x0 x1) (LCan_q2 y0 y1)) (dvD (LCan_q1 x0 x1) (LCan_q2 y0 y1)) == (dvE (LCan_q1 x0 x1) (LCan_q2 y0 y1) == (0 : Int))
noncomputable def LCan_q13 (x0 : Int) (x1 : Int) (y0 : Int) (y1 : Int) : Bool :=
  dvE (LCan_q1 x0 x1) (LCan_q2 y0 y1) != (0 : Int)
noncomputable def LCan_q14 (x0 : Int) (y0 : Int) : Bool :=
  !vB (mkN x0 y0) (mkD x0 y0) == (mkE x0 y0 == (0 : Int))
noncomputable def LCan_q15 (x0 : Int) (y0 : Int) : Bool :=
  mkE x0 y0 != (0 : Int)
noncomputable def LCan (x0 x1 y0 y1 k : Int) : Tree SV :=
  .ite false (.ret (bv false))
  (.need ((0 : Int) ≤ (0 : Int) ∧ (0 : Int) < (2 : Int))
   (.need (0 < 2)
   (.need ((0 : Int) ≤ (1 : Int) ∧ (1 : Int) < (2 : Int))
   (.need (1 < 2)
   (.need (I64 x0 ∧ I64 x1)
   (.need ((0 : Int) ≤ (0 : Int) ∧ (0 : Int) < (2 : Int))
   (.need (0 < 2)
   (.need ((0 : Int) ≤ (1 : Int) ∧ (1 : Int) < (2 : Int))
   (.need (1 < 2)
   (.need (I64 y0 ∧ I64 y1)
   (.need (VF (mN x0 x1) (mD x0 x1) ∧ VF (mN y0 y1) (mD y0 y1))
   (.need (VF (mN x0 x1) (mD x0 x1) ∧ VF (mN y0 y1) (mD y0 y1))
   (.need (VF (mN x0 x1) (mD x0 x1) ∧ VF (mN y0 y1) (mD y0 y1))
   (.need (VF (mN x0 x1) (mD x0 x1) ∧ VF (mN y0 y1) (mD y0 y1))
   (.need ((0 : Int) ≤ (0 : Int) ∧ (0 : Int) < (2 : Int))
   (.need (0 < 2)
   (.need ((0 : Int) ≤ (0 : Int) ∧ (0 : Int) < (2 : Int))
   (.need (0 < 2)
   (.need (I64 x0 ∧ I64 y0)
   (.need (true = true)
   (.need ((0 : Int) ≤ (0 : Int) ∧ (0 : Int) < (5 : Int))
   (.need (0 < 5)
   (.need ((0 : Int) ≤ (0 : Int) ∧ (0 : Int) < (5 : Int))
   (.need (0 < 5)
   (.need (LCan_q4 x0 x1 y0 y1 = false → (0 : Int) ≤ (0 : Int) ∧ (0 : Int) < (5 : Int))
   (.need (LCan_q4 x0 x1 y0 y1 = false → 0 < 5)
   (.need (LCan_q4 x0 x1 y0 y1 = false ∧ LCan_q5 x0 x1 y0 y1 = true → (0 : Int) ≤ (0 : Int) ∧ (0 : Int) < (5 : Int))
   (.need (LCan_q4 x0 x1 y0 y1 = false ∧ LCan_q5 x0 x1 y0 y1 = true → 0 < 5)
   (.ite
   (LCan_q4 x0 x1 y0 y1 ||
   LCan_q5 x0 x1 y0 y1 && !(rN (LCan_q3 x0 x1 y0 y1) == (0 : Int) && (rD (LCan_q3 x0 x1 y0 y1) == (0 : Int) && true)))
   (.ret (bv false))
   (.need (true = true)
   (.need ((0 : Int) ≤ (1 : Int) ∧ (1 : Int) < (5 : Int))
   (.need (1 < 5)
   (.need ((0 : Int) ≤ (1 : Int) ∧ (1 : Int) < (5 : Int))
   (.need (1 < 5)
   (.need (LCan_q7 x0 x1 y0 y1 = false → (0 : Int) ≤ (1 : Int) ∧ (1 : Int) < (5 : Int))
   (.need (LCan_q7 x0 x1 y0 y1 = false → 1 < 5)
   (.need (LCan_q7 x0 x1 y0 y1 = false ∧ LCan_q8 x0 x1 y0 y1 = true → (0 : Int) ≤ (1 : Int) ∧ (1 : Int) < (5 : Int))
   (.need (LCan_q7 x0 x1 y0 y1 = false ∧ LCan_q8 x0 x1 y0 y1 = true → 1 < 5)
   (.ite
   (LCan_q7 x0 x1 y0 y1 ||
   LCan_q8 x0 x1 y0 y1 && !(rN (LCan_q6 x0 x1 y0 y1) == (0 : Int) && (rD (LCan_q6 x0 x1 y0 y1) == (0 : Int) && true)))
   (.ret (bv false))
   (.need (true = true)
   (.need ((0 : Int) ≤ (2 : Int) ∧ (2 : Int) < (5 : Int))
   (.need (2 < 5)
   (.need ((0 : Int) ≤ (2 : Int) ∧ (2 : Int) < (5 : Int))
   (.need (2 < 5)
   (.need (LCan_q10 x0 x1 y0 y1 = false → (0 : Int) ≤ (2 : Int) ∧ (2 : Int) < (5 : Int))
   (.need (LCan_q10 x0 x1 y0 y1 = false → 2 < 5)
   (.need (LCan_q10 x0 x1 y0 y1 = false ∧ LCan_q11 x0 x1 y0 y1 = true → (0 : Int) ≤ (2 : Int) ∧ (2 : Int) < (5 : Int))
   (.need (LCan_q10 x0 x1 y0 y1 = false ∧ LCan_q11 x0 x1 y0 y1 = true → 2 < 5)
   (.ite
   (LCan_q10 x0 x1 y0 y1 ||
   LCan_q11 x0 x1 y0 y1 &&
   !(rN (LCan_q9 x0 x1 y0 y1) == (0 : Int) && (rD (LCan_q9 x0 x1 y0 y1) == (0 : Int) && true)))
   (.ret (bv false))
   (.need (true = true)
   (.need ((0 : Int) ≤ (3 : Int) ∧ (3 : Int) < (5 : Int))
   (.need (3 < 5)
   (.need ((0 : Int) ≤ (3 : Int) ∧ (3 : Int) < (5 : Int))
   (.need (3 < 5)
   (.need (LCan_q12 x0 x1 y0 y1 = false → (0 : Int) ≤ (3 : Int) ∧ (3 : Int) < (5 : Int))
   (.need (LCan_q12 x0 x1 y0 y1 = false → 3 < 5)
   (.need
   (LCan_q12 x0 x1 y0 y1 = false ∧ LCan_q13 x0 x1 y0 y1 = true →
   (0 : Int) ≤ (3 : Int) ∧ (3 : Int) < (5 : Int))
   (.need (LCan_q12 x0 x1 y0 y1 = false ∧ LCan_q13 x0 x1 y0 y1 = true → 3 < 5)
   (.ite
   (LCan_q12 x0 x1 y0 y1 ||
   LCan_q13 x0 x1 y0 y1 &&
   !(dvN (LCan_q1 x0 x1) (LCan_q2 y0 y1) == (0 : Int) &&
   (dvD (LCan_q1 x0 x1) (LCan_q2 y0 y1) == (0 : Int) && true)))
   (.ret (bv false))
   (.need (true = true)
   (.need ((0 : Int) ≤ (4 : Int) ∧ (4 : Int) < (5 : Int))
   (.need (4 < 5)
   (.need ((0 : Int) ≤ (4 : Int) ∧ (4 : Int) < (5 : Int))
   (.need (4 < 5)
   (.need (LCan_q14 x0 y0 = false → (0 : Int) ≤ (4 : Int) ∧ (4 : Int) < (5 : Int))
   (.need (LCan_q14 x0 y0 = false → 4 < 5)
   (.need
   (LCan_q14 x0 y0 = false ∧ LCan_q15 x0 y0 = true →
   (0 : Int) ≤ (4 : Int) ∧ (4 : Int) < (5 : Int))
   (.need
   (LCan_q14 x0 y0 = false ∧ LCan_q15 x0 y0 = true → 4 < 5)
   (.ite
   (LCan_q14 x0 y0 ||
   LCan_q15 x0 y0 && !(mkN x0 y0 == (0 : Int) && (mkD x0 y0 == (0 : Int) && true)))
   (.ret (bv false))
   (.need (false = false)
   (.need ((0 : Int) ≤ (0 : Int) ∧ (0 : Int) < (2 : Int))
   (.need (0 < 2)
   (.need ((1073741824 : Int) ≠ (0 : Int))
   (.need ((0 : Int) ≤ (1 : Int) ∧ (1 : Int) < (2 : Int))
   (.need (1 < 2)
   (.need ((1073741824 : Int) ≠ (0 : Int))
   (.ite (Int.tmod x1 (1073741824 : Int) == (0 : Int) || k == (0 : Int))
   (.ret (bv true))
   (.need
   (I64 (Int.tmod x0 (1073741824 : Int)) ∧ I64 (Int.tmod x1 (1073741824 : Int)))
   (.need
   (I64 (w64 (Int.tmod x0 (1073741824 : Int) * w64 k)) ∧
   I64 (w64 (Int.tmod x1 (1073741824 : Int) * w64 k)))
   (.ret
   (bv
   (true &&
   mkE (Int.tmod x0 (1073741824 : Int))
   (Int.tmod x1 (1073741824 : Int)) ==
   (0 : Int) &&
   (mkN (Int.tmod x0 (1073741824 : Int))
   (Int.tmod x1 (1073741824 : Int)) ==
   mkN (w64 (Int.tmod x0 (1073741824 : Int) * w64 k))
   (w64 (Int.tmod x1 (1073741824 : Int) * w64 k)) &&
   (mkD (Int.tmod x0 (1073741824 : Int))
   (Int.tmod x1 (1073741824 : Int)) ==
   mkD (w64 (Int.tmod x0 (1073741824 : Int) * w64 k))
   (w64 (Int.tmod x1 (1073741824 : Int) * w64 k)) &&
   true) &&
   (mkE (Int.tmod x0 (1073741824 : Int))
   (Int.tmod x1 (1073741824 : Int)) ==
   mkE (w64 (Int.tmod x0 (1073741824 : Int) * w64 k))
   (w64 (Int.tmod x1 (1073741824 : Int) * w64 k)) &&
   true)) &&
   w64
   (mkN (Int.tmod x0 (1073741824 : Int))
   (Int.tmod x1 (1073741824 : Int)) *
   Int.tmod x1 (1073741824 : Int)) ==
   w64
   (mkD (Int.tmod x0 (1073741824 : Int))
   (Int.tmod x1 (1073741824 : Int)) *
   Int.tmod x0
   (1073741824 :
   Int))))))))))))))))))))))))))))))))))))))))))))))))))))))))))))))))))))))))))))))))))))

theorem LCan_eq (x0 x1 y0 y1 k : Int) : TM (uN 5 .nil) 7 [.agg [iv x0, iv x1], .agg [iv y0, iv y1], .d (.x (.int .i32 k))] = LCan x0 x1 y0 y1 k := by kernel_rfl


end Go.Proofs.YtmdbfhkineaheaaDoor

namespace Go.Proofs.YtmdbfhkineaheaaDoor
open Go.Sx
set_option maxRecDepth 100000

/-! ### FractionCanonical -/

theorem can_v (s : Rat) : (!vB (rN s) (rD s) == (rE s == 0)) = false := by
  by_cases h : fitsR s
  · have := vB_iff.2 (vf_r h)
    rw [this, rE_of h]; rfl
  · rw [rN_no h, rD_no h, rE_no h]; rfl
theorem can_z (s : Rat) : (rE s != 0 && !(rN s == 0 && (rD s == 0 && true))) = false := by
  by_cases h : fitsR s
  · rw [rE_of h]; rfl
  · rw [rN_no h, rD_no h, rE_no h]; rfl
theorem dv_v (p q : Rat) : (!vB (dvN p q) (dvD p q) == (dvE p q == 0)) = false := by
  by_cases h : q = 0
  · unfold dvN dvD dvE; rw [if_pos h, if_pos h, if_pos h]; rfl
  · rw [dvN_of h, dvD_of h, dvE_of h]; exact can_v _
theorem dv_z (p q : Rat) : (dvE p q != 0 && !(dvN p q == 0 && (dvD p q == 0 && true))) = false := by
  by_cases h : q = 0
  · unfold dvN dvD dvE; rw [if_pos h, if_pos h, if_pos h]; rfl
  · rw [dvN_of h, dvD_of h, dvE_of h]; exact can_z _
theorem mk_v (p q : Int) : (!vB (mkN p q) (mkD p q) == (mkE p q == 0)) = false := by
  unfold mkN mkD mkE
  by_cases h : q = 0
  · rw [if_pos h, if_pos h, if_pos h]; rfl
  · rw [if_neg h, if_neg h, if_neg h]; exact can_v _
theorem mk_z (p q : Int) : (mkE p q != 0 && !(mkN p q == 0 && (mkD p q == 0 && true))) = false := by
  unfold mkN mkD mkE
  by_cases h : q = 0
  · rw [if_pos h, if_pos h, if_pos h]; rfl
  · rw [if_neg h, if_neg h, if_neg h]; exact can_z _
theorem ratOf_div {n d : Int} (h : 0 < d) : ratOf n d = (n : Rat) / (d : Rat) := by
  unfold ratOf
  obtain ⟨k, rfl⟩ : ∃ k : Nat, d = k := ⟨d.toNat, by omega⟩
  rw [Rat.mkRat_eq_div, Int.toNat_natCast]; rfl
theorem qR_div {n d : Int} (h : d ≠ 0) : qR n d = (n : Rat) / (d : Rat) := by
  unfold qR
  by_cases h1 : d < 0
  · rw [if_pos h1, ratOf_div (by omega)]
    have h2 : ((-d : Int) : Rat) ≠ 0 := fun e => by
      have : -d = 0 := by exact_mod_cast e
      omega
    have h3 : (d : Rat) ≠ 0 := fun e => h (by exact_mod_cast e)
    have h4 := Rat.div_mul_cancel (a := ((-n : Int) : Rat)) h2
    generalize ((-n : Int) : Rat) / ((-d : Int) : Rat) = x at *
    rw [Rat.intCast_neg, Rat.intCast_neg] at h4
    have h5 : x * d = n := by grind
    rw [← h5, Rat.div_def, Rat.mul_assoc, Rat.mul_inv_cancel _ h3, Rat.mul_one]
  · rw [if_neg h1, ratOf_div (by omega)]
theorem cast_ne {d : Int} (h : d ≠ 0) : (d : Rat) ≠ 0 := fun e => h (by exact_mod_cast e)
theorem qR_scale {n d k : Int} (h : d ≠ 0) (hk : k ≠ 0) : qR (n * k) (d * k) = qR n d := by
  have h1 := cast_ne h
  have h2 := cast_ne hk
  have h3 : d * k ≠ 0 := Int.mul_ne_zero h hk
  rw [qR_div h3, qR_div h, Rat.intCast_mul, Rat.intCast_mul, Rat.div_def, Rat.div_def, Rat.inv_mul_rev]
  have : (k : Rat) * (k : Rat)⁻¹ = 1 := Rat.mul_inv_cancel _ h2
  calc (n : Rat) * k * ((k : Rat)⁻¹ * (d : Rat)⁻¹) = n * (k * (k : Rat)⁻¹) * (d : Rat)⁻¹ := by grind
    _ = n * (d : Rat)⁻¹ := by rw [this, Rat.mul_one]
theorem qR_fits {n d : Int} (h : d ≠ 0) (h1 : n.natAbs ≤ 4611686018427387904) (h2 : d.natAbs ≤ 4611686018427387904) : fitsR (qR n d) := by
  obtain ⟨e1, e2, _⟩ := qR_parts (a := n) h
  exact ⟨by rw [e1]; exact Nat.le_trans (Nat.div_le_self _ _) h1, by rw [e2]; exact Nat.le_trans (Nat.div_le_self _ _) h2⟩
theorem qR_cross {n d : Int} (h : d ≠ 0) : (qR n d).num * d = ((qR n d).den : Int) * n := by
  have h1 := cast_ne h
  have e := qR_div (n := n) h
  generalize qR n d = s at *
  have h2 : s = (s.num : Rat) / (s.den : Rat) := by rw [← Rat.mkRat_eq_div, Rat.mkRat_self]
  have h3 : (s.den : Rat) ≠ 0 := fun h => s.den_nz (by exact_mod_cast h)
  have h4 : s * d = n := by rw [e]; exact Rat.div_mul_cancel h1
  have h5 : s * (s.den : Rat) = s.num := by
    conv => lhs; lhs; rw [h2]
    exact Rat.div_mul_cancel h3
  have h6 : ((s.num * d : Int) : Rat) = (((s.den : Int) * n : Int) : Rat) := by
    rw [Rat.intCast_mul, Rat.intCast_mul, ← h4, ← h5]
    have : ((s.den : Int) : Rat) = (s.den : Rat) := Rat.intCast_natCast _
    rw [this]; grind
  exact_mod_cast h6

theorem mod30 (x : Int) : (Int.tmod x 1073741824).natAbs < 1073741824 := by
  rw [Int.natAbs_tmod]; exact Nat.mod_lt _ (by decide)
theorem mul61 {n k : Int} (h : n.natAbs < 1073741824) (hk : -2147483648 ≤ k ∧ k ≤ 2147483647) : (n * k).natAbs ≤ 2305843009213693952 := by
  rw [Int.natAbs_mul]
  exact Nat.le_trans (Nat.mul_le_mul (Nat.le_of_lt h) (show k.natAbs ≤ 2147483648 by omega)) (by decide)
theorem can_fin {n d k : Int} (hn : n.natAbs < 1073741824) (hd : d.natAbs < 1073741824) (hk : -2147483648 ≤ k ∧ k ≤ 2147483647) (h0 : d ≠ 0) (h1 : k ≠ 0) :
    mkE n d = 0 ∧ mkN n d = mkN (w64 (n * k)) (w64 (d * k)) ∧ mkD n d = mkD (w64 (n * k)) (w64 (d * k)) ∧ mkE n d = mkE (w64 (n * k)) (w64 (d * k)) ∧ w64 (mkN n d * d) = w64 (mkD n d * n) := by
  have a1 := mul61 hn hk
  have a2 := mul61 hd hk
  rw [w64_of (n := n * k) (by omega) (by omega), w64_of (n := d * k) (by omega) (by omega)]
  have h3 : d * k ≠ 0 := Int.mul_ne_zero h0 h1
  unfold mkN mkD mkE
  rw [if_neg h0, if_neg h0, if_neg h0, if_neg h3, if_neg h3, if_neg h3, qR_scale h0 h1]
  have hf := qR_fits (n := n) h0 (by omega) (by omega)
  rw [rE_of hf, rN_of hf, rD_of hf, qR_cross h0]
  exact ⟨rfl, rfl, rfl, rfl, rfl⟩

theorem can_sat {x0 x1 y0 y1 k : Int} (hx0 : I64 x0) (hx1 : I64 x1) (hy0 : I64 y0) (hy1 : I64 y1) (hk : -2147483648 ≤ k ∧ k ≤ 2147483647) :
    Sat Tryd.prog (TM (uN 5 .nil) 7 [.agg [iv x0, iv x1], .agg [iv y0, iv y1], .d (.x (.int .i32 k))]) (· = bv true) := by
  constructor
  rw [LCan_eq]; unfold LCan
  have hwk : w64 k = k := w64_of (by omega) (by omega)
  simp only [LCan_q1, LCan_q2, LCan_q3, LCan_q4, LCan_q5, LCan_q6, LCan_q7, LCan_q8, LCan_q9, LCan_q10, LCan_q11, LCan_q12, LCan_q13, LCan_q14, LCan_q15, mN, mD, ratOf_rat, hwk]
  have hp := mdQ_fits x0 x1
  have hq := mdQ_fits y0 y1
  obtain ⟨p, ep⟩ : ∃ p, mdQ x0 x1 = p := ⟨_, rfl⟩
  obtain ⟨q, eq⟩ : ∃ p, mdQ y0 y1 = p := ⟨_, rfl⟩
  rw [ep] at hp
  rw [eq] at hq
  simp only [ep, eq, can_v, can_z, dv_v, dv_z, mk_v, mk_z]
  have i0 : (I64 x0 ∧ I64 x1) = True := eq_true ⟨hx0, hx1⟩
  have i1 : (I64 y0 ∧ I64 y1) = True := eq_true ⟨hy0, hy1⟩
  have i2 : (I64 x0 ∧ I64 y0) = True := eq_true ⟨hx0, hy0⟩
  have vp := VF.of hp
  have vq := VF.of hq
  have hn := mod30 x0
  have hd := mod30 x1
  obtain ⟨n, en⟩ : ∃ n, Int.tmod x0 1073741824 = n := ⟨_, rfl⟩
  obtain ⟨d, ed⟩ : ∃ n, Int.tmod x1 1073741824 = n := ⟨_, rfl⟩
  rw [en] at hn
  rw [ed] at hd
  simp only [en, ed]
  have i3 : (I64 n ∧ I64 d) = True := eq_true ⟨⟨by omega, by omega⟩, ⟨by omega, by omega⟩⟩
  have a1 := mul61 hn hk
  have a2 := mul61 hd hk
  have i4 : (I64 (w64 (n * k)) ∧ I64 (w64 (d * k))) = True := by
    rw [w64_of (n := n * k) (by omega) (by omega), w64_of (n := d * k) (by omega) (by omega)]
    exact eq_true ⟨⟨by omega, by omega⟩, ⟨by omega, by omega⟩⟩
  by_cases h0 : d = 0
  · have h0' : (d == 0) = true := by rw [h0]; rfl
    simp +decide only [h0', sat_need, sat_ite, sat_ret, bv_inj, vp, vq, i0, i1, i2, i3, i4, beq_self_eq_true, bne_self_eq_false, decide_true, Bool.and_true, Bool.true_and, Bool.not_true, Bool.or_false, Bool.false_or, Bool.or_true, Bool.true_or, Bool.and_false, Bool.false_and, true_and, and_true, false_imp_iff, true_imp_iff, reduceCtorEq, forall_const, and_self, Bool.not_false, false_and, and_false, not_true_eq_false, not_false_eq_true, imp_self, implies_true]
  · have h0' : (d == 0) = false := beq_eq_false_iff_ne.2 h0
    by_cases h1 : k = 0
    · have h1' : (k == 0) = true := by rw [h1]; rfl
      simp +decide only [h0', h1', sat_need, sat_ite, sat_ret, bv_inj, vp, vq, i0, i1, i2, i3, i4, beq_self_eq_true, bne_self_eq_false, decide_true, Bool.and_true, Bool.true_and, Bool.not_true, Bool.or_false, Bool.false_or, Bool.or_true, Bool.true_or, Bool.and_false, Bool.false_and, true_and, and_true, false_imp_iff, true_imp_iff, reduceCtorEq, forall_const, and_self, Bool.not_false, false_and, and_false, not_true_eq_false, not_false_eq_true, imp_self, implies_true]
    · have h1' : (k == 0) = false := beq_eq_false_iff_ne.2 h1
      obtain ⟨c1, c2, c3, c4, c5⟩ := can_fin hn hd hk h0 h1
      rw [← c2, ← c3, ← c4, c5, c1]
      simp +decide only [h0', h1', sat_need, sat_ite, sat_ret, bv_inj, vp, vq, i0, i1, i2, i3, i4, beq_self_eq_true, bne_self_eq_false, decide_true, Bool.and_true, Bool.true_and, Bool.not_true, Bool.or_false, Bool.false_or, Bool.or_true, Bool.true_or, Bool.and_false, Bool.false_and, true_and, and_true, false_imp_iff, true_imp_iff, reduceCtorEq, forall_const, and_self, Bool.not_false, false_and, and_false, not_true_eq_false, not_false_eq_true, imp_self, implies_true]

theorem okI32 {n : Nat} {ds : List DV} (h : okT Tryd.prog (n + 1) 21 ds) : ∃ i, (-2147483648 ≤ i ∧ i ≤ 2147483647) ∧ ds = [.x (.int .i32 i)] := by
  obtain ⟨k, hk, rfl⟩ := okT_int (k := .i32) Tryd.underlying21 h
  exact ⟨k, ⟨by have := hk.1; rwa [show IntKind.i32.min = -2147483648 from rfl] at this, by have := hk.2; rwa [show IntKind.i32.max = 2147483647 from rfl] at this⟩, rfl⟩
theorem fractionCanonical_ok : ∃ c : Ctr, CtrOK Tryd.prog 7 c ∧ ∀ ss, okArgs Tryd.prog 6 [22, 22, 21] ss → (c ss).ev (bv true) := by
  refine law_ctr CM_ok DM_ok (by kernel_rfl) (by kernel_rfl) fun ss h => ?_
  obtain ⟨d1, _, rfl, h1, d2, _, rfl, h2, d3, _, rfl, h3, rfl⟩ := h
  obtain ⟨a1, b1, ha1, hb1, rfl⟩ := okPair h1
  obtain ⟨a2, b2, ha2, hb2, rfl⟩ := okPair h2
  obtain ⟨k, hk, rfl⟩ := okI32 h3
  have := can_sat ha1 hb1 ha2 hb2 hk
  simp only [svT, Tryd.underlying22, Tryd.underlying21]
  exact ⟨200, uN 5 .nil, this⟩

end Go.Proofs.YtmdbfhkineaheaaDoor

/- A law's frame where variables are listed: what is listed, and the shape of the world, both are handed to the walk. -/
namespace Go
variable {H : Type} {enc : TypeId × Value → H}

theorem returnsInHanded_of_change_ands {a : Assume} {C : Checked} {os : Os} {f : FuncId} {fn : Func} {s : ChangeSpec} {conds : List PathCond} {apart fresh handsOn again : Bool} {X : World → Array Value → Prop}
    (hX : ∀ (w w' : World) (args : Array Value), w.heap = w'.heap → X w args → X w' args)
    (own : ownKnob C.prog.godebug = none) (started : os.Started) (noInit : C.prog.inits.idxOf? f = none) (hfn : C.prog.funcs[f]? = some fn)
    (witness : ∃ (w : World) (tape : Tape) (i : Input), w.os = os ∧ (w.forCall tape i).Shaped C.prog ∧ i.vars = [] ∧ Input.okWide C.prog (w.forCall tape i) .any w.heap.size f i ∧
      ((s.pre enc C.prog fn conds apart (w.forCall tape i).memory i.args ∧ X (w.forCall tape i).memory i.args) ∧ sizedMet enc C.prog fn (OpenSpec.ofChange s) apart (w.forCall tape i).memory i.args) ∧ a.holds C.prog (lone (Frame.enter C.prog f i.args .normal) [] (w.forCall tape i)))
    (contract : ∀ (W : World) (base : Nat) (args : Array Value) (ds gs : List (DataW H)) (before : List MemPlace),
      (∀ (j : Nat) t v, fn.params[j]? = some t → args[j]? = some v → Value.okWide C.prog W .any base t v) →
      DataW.Whole enc C.prog fn.params.toList s.vars apart W args.toList ds gs before →
      conds.all (PathCond.test C.prog ⟨fn.params.toList, ds, s.plain.varTypes C.prog, gs⟩) = true →
      (DataW.weightsEach C.prog (fn.params.toList ++ s.plain.varTypes C.prog) (ds ++ gs)).all (· ≤ reachBytes) = true → X W args → W.ShapedOpen C.prog →
      a.holds C.prog (lone (Frame.enter C.prog f args .normal) [] W) →
      Calls C.prog f args W fun e W' => ∃ v, e = .returned v ∧ s.post enc C.prog fn apart fresh handsOn again W args v W') :
    ReturnsInHanded a C os f .any (fun w args => (s.pre enc C.prog fn conds apart w args ∧ X w args) ∧ sizedMet enc C.prog fn (OpenSpec.ofChange s) apart w args) (s.post enc C.prog fn apart fresh handsOn again) := by
  refine returnsInHanded_of_calls own started noInit witness ?_
  intro w tape i _ hsh _ hok hpre hholds
  obtain ⟨_, _, _, fn', hfn', _, _, _, _, hval⟩ := hok
  have e : fn' = fn := Option.some.inj (hfn'.symm.trans hfn)
  subst e
  obtain ⟨⟨⟨ds, gs, before, hw, hc⟩, hx⟩, hz⟩ := hpre
  have hw' := DataW.Whole.of_heap (w' := w.forCall tape i) (by rfl) hw
  refine (contract (w.forCall tape i) w.heap.size i.args ds gs before hval hw' hc (hz.weights hw) (hX _ _ _ (by rfl) hx) hsh hholds).mono fun e W' ⟨v, he, hp⟩ => ?_
  subst he
  exact ChangeSpec.post_blind hp

end Go

namespace Go.Proofs.YtmdbfhkineaheaaDoor
open Go.Sx
set_option maxRecDepth 100000

/-! ### What the row's list of variables gives -/

def laid5 : List (String × DataW Unit) := [("math/bits.deBruijn32tab", Rows.laid_math_bits_deBruijn32tab), ("math/bits.deBruijn64tab", Rows.laid_math_bits_deBruijn64tab), ("internal/strconv.uint64pow10", Rows.laid_internal_strconv_uint64pow10), ("strconv.ErrRange", Rows.laid_strconv_ErrRange), ("strconv.ErrSyntax", Rows.laid_strconv_ErrSyntax)]
theorem gPow : Tryd.prog.globalNamed "internal/strconv.uint64pow10" = some 2 := by kernel_rfl
theorem gSyn : Tryd.prog.globalNamed "strconv.ErrSyntax" = some 4 := by kernel_rfl
theorem gRng : Tryd.prog.globalNamed "strconv.ErrRange" = some 5 := by kernel_rfl
theorem plain5 : (laid5.all fun x => x.2.handleName?.isNone) = true := by kernel_rfl
theorem var_obj {w : World} {name : String} {g : Nat} {cs : Array Value} (hg : Tryd.prog.globalNamed name = some g) (h : w.var? Tryd.prog name = some cs) : ∃ e fr, w.heap[g]? = some (.cells cs e fr) := by
  unfold World.var? at h
  rw [hg] at h
  simp only [Option.bind_some] at h
  split at h
  · rename_i c e fr heq
    simp only [Option.some.injEq] at h; subst h
    exact ⟨e, fr, heq⟩
  · cases h
theorem typePow : (Tryd.prog.globals[2]?).map (·.type) = some 99 := by kernel_rfl
theorem typeSyn : (Tryd.prog.globals[4]?).map (·.type) = some 78 := by kernel_rfl
theorem typeRng : (Tryd.prog.globals[5]?).map (·.type) = some 78 := by kernel_rfl
theorem star : "*" ++ "errors.errorString" = "*errors.errorString" := by decide
theorem rowErr (u : TypeId) (h : Tryd.prog.typeName? 3 u = some "*errors.errorString") : u = 117 :=
  typeName_ptr_named (nm := "errors.errorString") (by rw [star]; kernel_rfl) (by kernel_rfl) (by decide) u (by rw [star]; exact h)

theorem glob_of {W : World} (h : laidMetH Tryd.prog laid5 W) (hs : W.ShapedOpen Tryd.prog) : GlobOK W (fun b => b < W.heap.size) := by
  rw [MakeChecks.laidMetH_plain _ _ _ plain5] at h
  have h2 : laidMet Tryd.prog [("internal/strconv.uint64pow10", Lib.tabData .u64 Lib.pow10Tab), ("strconv.ErrRange", Rows.laid_strconv_ErrRange), ("strconv.ErrSyntax", Rows.laid_strconv_ErrSyntax)] W := h.tail.tail
  have ht := Lib.tabIs_of_head gPow typePow Tryd.underlying99 Tryd.underlying49 (by kernel_rfl) (by kernel_rfl) h2
  obtain ⟨a0, s0, hv0, -, -, -⟩ := laid_sentinel h2.tail gRng typeRng Tryd.underlying78 rowErr Tryd.underlying117 Tryd.underlying119 rfl rfl Tryd.underlying9 (by kernel_rfl) (by kernel_rfl)
  obtain ⟨a1, s1, hv1, -, -, -⟩ := laid_sentinel h2.tail.tail gSyn typeSyn Tryd.underlying78 rowErr Tryd.underlying117 Tryd.underlying119 rfl rfl Tryd.underlying9 (by kernel_rfl) (by kernel_rfl)
  obtain ⟨m, hm⟩ := cell_of_shapedOpen_int (g := 3) (t := 3) (zero := #[.int .i64 0]) (k := .i64) hs (of_decide_eq_true (by kernel_rfl)) (by kernel_rfl) rfl (by kernel_rfl) (by kernel_rfl) Tryd.underlying3
  have k1 : okTab Lib.pow10Tab W.heap[2]? := by
    obtain ⟨e, fr, hh⟩ := var_obj gPow ht
    exact ⟨e, fr, hh⟩
  have k2 : okErr W.heap[4]? := by
    obtain ⟨e, fr, hh⟩ := var_obj gSyn hv1
    exact ⟨_, e, fr, _, _, hh, rfl⟩
  have k3 : okErr W.heap[5]? := by
    obtain ⟨e, fr, hh⟩ := var_obj gRng hv0
    exact ⟨_, e, fr, _, _, hh, rfl⟩
  have k4 : okInt W.heap[3]? := cell_okInt hm
  have lt : ∀ {g : Nat} {o : Obj}, W.heap[g]? = some o → g < W.heap.size := fun hh => (Array.getElem?_eq_some_iff.1 hh).1
  refine ⟨fun g n cell hg => (by cases hg), fun g Q hg => ?_⟩
  match g, hg with
  | 2, hg => cases hg; exact ⟨by obtain ⟨e, fr, hh⟩ := k1; exact lt hh, k1⟩
  | 3, hg => cases hg; exact ⟨by obtain ⟨c, e, fr, m, hh, _⟩ := k4; exact lt hh, k4⟩
  | 4, hg => cases hg; exact ⟨by obtain ⟨c, e, fr, t, p, hh, _⟩ := k2; exact lt hh, k2⟩
  | 5, hg => cases hg; exact ⟨by obtain ⟨c, e, fr, t, p, hh, _⟩ := k3; exact lt hh, k3⟩

end Go.Proofs.YtmdbfhkineaheaaDoor

namespace Go.Proofs.YtmdbfhkineaheaaDoor
open Go.ChangeShapes Go.WideShapes Go.ChangeAt Go.RowKit Go.Sx

theorem own : ownKnob Tryd.prog.godebug = none := by kernel_rfl
theorem laidOut : laidOutB Tryd.prog = true := by kernel_rfl
theorem door_met (os : Os) (args : Array Value) : laidMetH Tryd.prog laid5 ((World.doorLaid Tryd.prog 62 os).forCall (fun _ _ => 0) ⟨#[], args, []⟩).memory :=
  laidMetH_of_parts3 (fuel := 8) (laidMet_of_run' 8 (by kernel_rfl) (by kernel_rfl)) (by kernel_rfl) (by kernel_rfl)

set_option maxRecDepth 100000 in
theorem lifted (os : Os) (started : os.Started) (H : Type) (enc : TypeId × Value → H) :
    ReturnsInHanded {} Tryd.checked os 7 .any (fun w args => (Rows.fractionCanonicalSpec.pre enc Tryd.prog Tryd.f7 Rows.fractionCanonicalRow.domain false w args ∧ laidMetH Tryd.prog laid5 w) ∧ sizedMet enc Tryd.prog Tryd.f7 (OpenSpec.ofChange Rows.fractionCanonicalSpec) false w args)
      (Rows.fractionCanonicalSpec.post enc Tryd.prog Tryd.f7 false true false false) := by
  refine returnsInHanded_of_change_ands (C := Tryd.checked) (X := fun w _ => laidMetH Tryd.prog laid5 w) (fun _ _ _ hh h => h.of_heap hh) own started (by kernel_rfl) Tryd.func7
    (ChangeSpec.witness_shaped (enc := enc) (C := Tryd.checked) (os := os) (X := fun w _ => laidMetH Tryd.prog laid5 w) false (World.doorLaid Tryd.prog 62 os) #[.agg #[.int .i64 0, .int .i64 0], .agg #[.int .i64 0, .int .i64 0], .int .i32 0] 8 rfl (World.shaped_of_RefB (by kernel_rfl) (by kernel_rfl)) (by kernel_rfl) (by kernel_rfl) (by kernel_rfl) (door_met os _)) ?_
  intro W base args ds gs before hval0 hW hcnd _ hL hsh _
  have hval : ∀ (j : Nat) t v, Tryd.f7.params[j]? = some t → args[j]? = some v → Value.okWide Tryd.prog W .any base t v := hval0
  have hW' := hW
  obtain ⟨p, q, hA0, hV, rfl, hfz, hnd⟩ := hW
  have hA : DataW.TrodAll enc Tryd.prog W 0 (fun _ => true) true Tryd.f7.params.toList args.toList ds p := hA0
  rw [Tryd.params7] at hA hval
  obtain ⟨rfl, rfl⟩ := trodVars_none hV
  obtain ⟨v0, vs0, d0, ds0, p0, q0, hargs, rfl, e0, h0, r0⟩ := trodAll_cons hA
  obtain ⟨v1, vs1, d1, ds1, p1, q1, e1_1, rfl, e2_1, h1, r1⟩ := trodAll_cons r0
  obtain ⟨v2, vs2, d2, ds2, p2, q2, e1_2, rfl, e2_2, h2, r2⟩ := trodAll_cons r1
  obtain ⟨e3, rfl, e4⟩ := trodAll_nil r2
  obtain ⟨c, hc, hev⟩ := fractionCanonical_ok
  have hlt := trodAll_lt hA
  obtain ⟨ss, o1, o2, o3⟩ := open_args (F := fun b => b < W.heap.size) (n := 6) (r := .any) (base := base) (by kernel_rfl) hA (fun j t v a b => hval j t v (by simpa using a) (by simpa using b)) (fun q hq => hlt q hq)
  refine (law_of hc (F := fun b => b < W.heap.size) (fun b hb => hb) (glob_of hL hsh) (ss := ss) ⟨by simpa using o2, fun i hi => by simpa [List.getD, Array.getD_eq_getD_getElem?] using o3 i hi⟩ (hev ss o1)).mono fun e W' ⟨he, bel⟩ => ?_
  subst he
  have hback := trodAll_below laidOut bel (by kernel_rfl) hA
  exact ⟨_, rfl, _, _, _, [], _, [], hW', trodAll_mk1 (shut_bool Tryd.underlying4 _), hback, rfl, bel.frame _, fun h => by cases h⟩

theorem over : Rows.fractionCanonicalRow.holds Tryd.pinned (OpenSpec.ofChange Rows.fractionCanonicalSpec) :=
  OpenClaim.holds_of_wide 7 Tryd.f7 rfl rfl rfl rfl rfl rfl rfl ⟨rfl, rfl, rfl, rfl, rfl⟩ rfl rfl rfl rfl rfl (by kernel_rfl) Tryd.func7 (by kernel_rfl)
    (of_decide_eq_true (by kernel_rfl)) (by unfold Func.isWrapper; first | (rw [if_pos (by decide +kernel)]; kernel_rfl) | (rw [if_neg (by decide +kernel)]; exact ⟨rfl, rfl⟩))
    (fun os started H enc _ => lifted os started H enc)

theorem fractionCanonical_holds : Rows.FractionCanonicalCardSaid :=
  Claim7.holds_tied_plain_at .later [] [.data, .data, .data, .sentinel, .sentinel] true (true, "6d02be5a01351df019767fbefeb9d3f06b73233ad493a98c11bdba6b4cb22437") true
    over (fun _ h => by cases h) (by kernel_rfl) (fun _ h => by cases h) fractionCanonical_row_tie rfl ⟨rfl, rfl⟩ (by kernel_rfl) rfl
    (fun f fn hf hfn => by
      obtain rfl : f = 7 := Option.some.inj ((show Tryd.prog.funcNamed "wireloom/wireloomlaw02.FractionCanonical" = some 7 by kernel_rfl).symm.trans hf) |>.symm
      obtain rfl : fn = Tryd.f7 := (Option.some.inj (Tryd.func7.symm.trans hfn)).symm
      exact ⟨by kernel_rfl, fun j t ht => by
        rw [Tryd.params7] at ht
        have hm : t ∈ [22, 22, 21] := by simpa using Array.mem_of_getElem? ht
        have hall : ([22, 22, 21].all fun u => !Tryd.prog.wantsStandIn u) = true := by kernel_rfl
        exact (show Tryd.prog.wantsStandIn t = false by simpa using List.all_eq_true.1 hall t hm)⟩)
    (by kernel_rfl)
#print axioms fractionCanonical_holds
end Go.Proofs.YtmdbfhkineaheaaDoor

