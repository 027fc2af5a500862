/- Part of a proof of the given statements of this seat (SxFrLc, SxFrLd, SxFrLe, SxFrLg, SxFrLh, SxFrLj, SyLaw, SxFrGl, SxFrG8): no conditions beyond those typed here. -/
import Derived.Test.YtmdbfhkineaheaaDoorSz06
import Derived.Test.YtmdbfhkineaheaaDoorSz07
import Derived.HandedShaped
import Derived.Handed
import Derived.LaidMore
import Derived.LaidLaws
import Derived.Test.YtmdbfhkineaheaaDoorSz03
import Derived.Test.YtmdbfhkineaheaaDoorSz04
import Derived.Lib.LaidTab
import Derived.Stop.LaidErr
import Derived.Shelf.Vars
import Derived.MakeChecks
import Derived.Test.YtmdbfhkineaheaaDoorRows
import Derived.Test.YtmdbfhkineaheaaDoorChecked
import Derived.Test.YtmdbfhkineaheaaDoorCards
import Derived.Test.YtmdbfhkineaheaaDoorTie
import Derived.SevenTiedAt
set_option linter.unusedVariables false
set_option linter.unusedSimpArgs false
set_option linter.unusedSectionVars false

namespace Go.Proofs.YtmdbfhkineaheaaDoor
open Go.Sx
set_option maxRecDepth 100000

/-! ### FractionField -/

theorem VF.z : VF 0 1 := ⟨⟨by decide, by decide⟩, by decide, by decide⟩
theorem VF.o : VF 1 1 := ⟨⟨by decide, by decide⟩, by decide, by decide⟩
theorem dvN_of {p q : Rat} (h : q ≠ 0) : dvN p q = rN (p / q) := if_neg h
theorem dvD_of {p q : Rat} (h : q ≠ 0) : dvD p q = rD (p / q) := if_neg h
theorem dvE_of {p q : Rat} (h : q ≠ 0) : dvE p q = rE (p / q) := if_neg h

end Go.Proofs.YtmdbfhkineaheaaDoor

namespace Go.Proofs.YtmdbfhkineaheaaDoor
open Go.Sx
set_option maxRecDepth 100000

/-! ### FractionOrder -/

end Go.Proofs.YtmdbfhkineaheaaDoor

namespace Go.Proofs.YtmdbfhkineaheaaDoor
open Go.Sx
set_option maxRecDepth 100000

/-! ### FractionRounds -/

theorem VF.i {n : Int} (h : n.natAbs ≤ 4611686018427387904) : VF n 1 := ⟨⟨by omega, by simp⟩, h, by omega⟩
end Go.Proofs.YtmdbfhkineaheaaDoor

namespace Go.Proofs.YtmdbfhkineaheaaDoor
open Go.Sx
set_option maxRecDepth 100000

noncomputable def pwN (n : Int) : Int := if n < 0 then 1 else 2 ^ n.toNat
noncomputable def pwD (n : Int) : Int := if n < 0 then 2 ^ (-n).toNat else 1
noncomputable def cPow : Ctr := fun ss => match ss with
  | [.d (.x (.int .i64 n))] => .need (-62 ≤ n ∧ n ≤ 62) (.ret (.agg [iv (pwN n), iv (pwD n)]))
  | _ => .fail
noncomputable def LPow (n : Int) : Tree SV :=
  .ite (decide (n < (0 : Int)))
  (.need ((0 : Int) ≤ IntKind.wrap .u64 (w64 ((0 : Int) - n))) (.ret (SV.agg [iv (1 : Int), iv (w64 ((1 : Int) * (2 : Int) ^ min (Int.toNat (IntKind.wrap .u64 (w64 ((0 : Int) - n)))) 64))])))
  (.need ((0 : Int) ≤ IntKind.wrap .u64 n) (.ret (SV.agg [iv (w64 ((1 : Int) * (2 : Int) ^ min (Int.toNat (IntKind.wrap .u64 n)) 64)), iv (1 : Int)])))

theorem LPow_eq (n : Int) : TM .nil 27 [iv n] = LPow n := by kernel_rfl


theorem u64_of {n : Int} (h1 : 0 ≤ n) (h2 : n < 18446744073709551616) : IntKind.wrap .u64 n = n := by
  have : IntKind.wrap .u64 n = n % 18446744073709551616 := by
    unfold IntKind.wrap; rfl
  rw [this]; omega
theorem pow_w {k : Nat} (h : k ≤ 62) : w64 ((1 : Int) * (2 : Int) ^ min k 64) = 2 ^ k := by
  rw [Nat.min_eq_left (by omega), Int.one_mul]
  have h1 : (2 : Int) ^ k ≤ 2 ^ 62 := by
    have : (2 : Nat) ^ k ≤ 2 ^ 62 := Nat.pow_le_pow_right (by omega) h
    exact_mod_cast this
  have h2 : (0 : Int) < 2 ^ k := Int.pow_pos (by omega)
  exact w64_of (by omega) (by omega)
theorem pow_sat {n : Int} (h : -62 ≤ n ∧ n ≤ 62) : Sat Tryd.prog (TM .nil 27 [iv n]) (· = .agg [iv (pwN n), iv (pwD n)]) := by
  constructor
  rw [LPow_eq]; unfold LPow
  rw [w64_of (by omega) (by omega)]
  simp only [sat_need, sat_ite, sat_ret, decide_eq_true_eq, decide_eq_false_iff_not, pwN, pwD]
  refine ⟨fun hn => ?_, fun hn => ?_⟩
  · have e : IntKind.wrap .u64 (0 - n) = -n := by rw [u64_of (by omega) (by omega)]; omega
    rw [e, pow_w (by omega), if_pos hn, if_pos hn]; exact ⟨by omega, rfl⟩
  · have e : IntKind.wrap .u64 n = n := u64_of (by omega) (by omega)
    rw [e, pow_w (by omega), if_neg hn, if_neg hn]; exact ⟨by omega, rfl⟩
theorem cPow_ok : CtrOK Tryd.prog 27 cPow := by
  refine ctrOK_of CM_ok DM_ok (fn := fnOf Tryd.prog 27) (body := bodyOf Tryd.prog 27) (by kernel_rfl) (by kernel_rfl) fun ss r hr => ?_
  unfold cPow at hr
  split at hr
  · obtain ⟨h, rfl⟩ := hr
    exact ⟨200, .nil, (pow_sat h).ok⟩
  · exact hr.elim

noncomputable def manW : FuncId → Option Ctr := fun k => match k with
  | 27 => some cPow
  | k => manM k
theorem manW_ok (k : Nat) (c : Ctr) (h : manW k = some c) : CtrOK Tryd.prog k c ∧ goodF Tryd.prog k = true := by
  unfold manW at h
  split at h
  · cases h; exact ⟨cPow_ok, by kernel_rfl⟩
  · exact manM_ok _ _ h
noncomputable def CW : Ctx := ctxN Tryd.prog manW (fun _ => false) 200 .nil 6
theorem CW_ok : CtxOK Tryd.prog CW := ctxN_ok mixed manW_ok 6
noncomputable def DW : Dr := fun _ => drawn Tryd.prog CW
theorem DW_ok : DrOK Tryd.prog CW DW := drawn_ok CW_ok mixed
noncomputable def TW (h : Hint) (k : Nat) (args : List SV) : Tree SV := fnT Tryd.prog CW DW 200 (fnOf Tryd.prog k) (bodyOf Tryd.prog k) args h

end Go.Proofs.YtmdbfhkineaheaaDoor

namespace Go.Proofs.YtmdbfhkineaheaaDoor
open Go.Sx
set_option maxRecDepth 100000

noncomputable def LLi_q1 (p : Int) : Rat :=
  ratOf (pwN (w64 (Int.tmod (w64 p) (125 : Int) - (62 : Int)))) (pwD (w64 (Int.tmod (w64 p) (125 : Int) - (62 : Int))))
noncomputable def LLi_q2 (q : Int) : Rat :=
  ratOf (pwN (w64 (Int.tmod (w64 q) (125 : Int) - (62 : Int)))) (pwD (w64 (Int.tmod (w64 q) (125 : Int) - (62 : Int))))
noncomputable def LLi_q3 (p : Int) (q : Int) : Rat :=
  LLi_q1 p * LLi_q2 q
noncomputable def LLi_q4 (p : Int) (q : Int) : Bool :=
  rE (LLi_q3 p q) == (0 : Int)
noncomputable def LLi_q5 (p : Int) (q : Int) : Bool :=
  !LLi_q4 p q ==
   (decide (w64 (w64 (Int.tmod (w64 p) (125 : Int) - (62 : Int)) + w64 (Int.tmod (w64 q) (125 : Int) - (62 : Int))) ≥ (-62 : Int)) &&
   decide (w64 (w64 (Int.tmod (w64 p) (125 : Int) - (62 : Int)) + w64 (Int.tmod (w64 q) (125 : Int) - (62 : Int))) ≤ (62 : Int)))
noncomputable def LLi_q6 (p : Int) (q : Int) : Bool :=
  dvE (LLi_q1 p) (LLi_q2 q) == (0 : Int)
noncomputable def LLi_q7 (p : Int) (q : Int) : Bool :=
  LLi_q5 p q ||
   LLi_q4 p q &&
   !(rN (LLi_q3 p q) == pwN (w64 (w64 (Int.tmod (w64 p) (125 : Int) - (62 : Int)) + w64 (Int.tmod (w64 q) (125 : Int) - (62 : Int)))) &&
   (rD (LLi_q3 p q) == pwD (w64 (w64 (Int.tmod (w64 p) (125 : Int) - (62 : Int)) + w64 (Int.tmod (w64 q) (125 : Int) - (62 : Int)))) && true)) ||
  !LLi_q6 p q ==
   (decide (w64 (w64 (Int.tmod (w64 p) (125 : Int) - (62 : Int)) - w64 (Int.tmod (w64 q) (125 : Int) - (62 : Int))) ≥ (-62 : Int)) &&
   decide (w64 (w64 (Int.tmod (w64 p) (125 : Int) - (62 : Int)) - w64 (Int.tmod (w64 q) (125 : Int) - (62 : Int))) ≤ (62 : Int)))
noncomputable def LLi_q8 (p : Int) (q : Int) : Rat :=
  LLi_q1 p + LLi_q2 q
noncomputable def LLi_q9 (p : Int) (q : Int) : Bool :=
  rE (LLi_q8 p q) == (0 : Int)
noncomputable def LLi_q10 (p : Int) (q : Int) : Bool :=
  decide ((if w64 (Int.tmod (w64 q) (125 : Int) - (62 : Int)) > w64 (Int.tmod (w64 p) (125 : Int) - (62 : Int)) then w64 (Int.tmod (w64 q) (125 : Int) - (62 : Int)) else w64 (Int.tmod (w64 p) (125 : Int) - (62 : Int))) ≤ (61 : Int))
noncomputable def LLi_q11 (p : Int) (q : Int) : Bool :=
  rE (LLi_q8 p q) != (0 : Int) && rE (LLi_q8 p q) != (2 : Int)
noncomputable def LLi (p q : Int) (neg : Bool) : Tree SV :=
  .ite false (.ret (bv false))
  (.need ((125 : Int) ≠ (0 : Int))
   (.need ((125 : Int) ≠ (0 : Int))
   (.need ((-62 : Int) ≤ w64 (Int.tmod (w64 p) (125 : Int) - (62 : Int)) ∧ w64 (Int.tmod (w64 p) (125 : Int) - (62 : Int)) ≤ (62 : Int))
   (.need ((-62 : Int) ≤ w64 (Int.tmod (w64 q) (125 : Int) - (62 : Int)) ∧ w64 (Int.tmod (w64 q) (125 : Int) - (62 : Int)) ≤ (62 : Int))
   (.need
   (VF (pwN (w64 (Int.tmod (w64 p) (125 : Int) - (62 : Int)))) (pwD (w64 (Int.tmod (w64 p) (125 : Int) - (62 : Int)))) ∧
   VF (pwN (w64 (Int.tmod (w64 q) (125 : Int) - (62 : Int)))) (pwD (w64 (Int.tmod (w64 q) (125 : Int) - (62 : Int)))))
   (.need
   (VF (pwN (w64 (Int.tmod (w64 p) (125 : Int) - (62 : Int)))) (pwD (w64 (Int.tmod (w64 p) (125 : Int) - (62 : Int)))) ∧
   VF (pwN (w64 (Int.tmod (w64 q) (125 : Int) - (62 : Int)))) (pwD (w64 (Int.tmod (w64 q) (125 : Int) - (62 : Int)))))
   (.need
   (LLi_q5 p q = false ∧ LLi_q4 p q = true →
   (-62 : Int) ≤ w64 (w64 (Int.tmod (w64 p) (125 : Int) - (62 : Int)) + w64 (Int.tmod (w64 q) (125 : Int) - (62 : Int))) ∧
   w64 (w64 (Int.tmod (w64 p) (125 : Int) - (62 : Int)) + w64 (Int.tmod (w64 q) (125 : Int) - (62 : Int))) ≤ (62 : Int))
   (.need
   (LLi_q7 p q = false ∧ LLi_q6 p q = true →
   (-62 : Int) ≤ w64 (w64 (Int.tmod (w64 p) (125 : Int) - (62 : Int)) - w64 (Int.tmod (w64 q) (125 : Int) - (62 : Int))) ∧
   w64 (w64 (Int.tmod (w64 p) (125 : Int) - (62 : Int)) - w64 (Int.tmod (w64 q) (125 : Int) - (62 : Int))) ≤ (62 : Int))
   (.ite
   (LLi_q7 p q ||
   LLi_q6 p q &&
   !(dvN (LLi_q1 p) (LLi_q2 q) == pwN (w64 (w64 (Int.tmod (w64 p) (125 : Int) - (62 : Int)) - w64 (Int.tmod (w64 q) (125 : Int) - (62 : Int)))) &&
   (dvD (LLi_q1 p) (LLi_q2 q) == pwD (w64 (w64 (Int.tmod (w64 p) (125 : Int) - (62 : Int)) - w64 (Int.tmod (w64 q) (125 : Int) - (62 : Int)))) && true)))
   (.ret (bv false))
   (.need
   (VF (pwN (w64 (Int.tmod (w64 p) (125 : Int) - (62 : Int)))) (pwD (w64 (Int.tmod (w64 p) (125 : Int) - (62 : Int)))) ∧
   VF (pwN (w64 (Int.tmod (w64 q) (125 : Int) - (62 : Int)))) (pwD (w64 (Int.tmod (w64 q) (125 : Int) - (62 : Int)))))
   (.ite
   ((if w64 (Int.tmod (w64 q) (125 : Int) - (62 : Int)) > w64 (Int.tmod (w64 p) (125 : Int) - (62 : Int)) then w64 (Int.tmod (w64 q) (125 : Int) - (62 : Int)) else w64 (Int.tmod (w64 p) (125 : Int) - (62 : Int))) ==
   if w64 (Int.tmod (w64 q) (125 : Int) - (62 : Int)) < w64 (Int.tmod (w64 p) (125 : Int) - (62 : Int)) then w64 (Int.tmod (w64 q) (125 : Int) - (62 : Int)) else w64 (Int.tmod (w64 p) (125 : Int) - (62 : Int)))
   (.ite (!LLi_q9 p q == LLi_q10 p q || LLi_q11 p q) (.ret (bv false))
   (.ite neg
   (.need (VF (-4611686018427387904 : Int) (1 : Int) ∧ VF (-1 : Int) (1 : Int))
   (.need (true = true → VF (-4611686018427387904 : Int) (1 : Int) ∧ VF (-1 : Int) (1 : Int))
   (.need (true = true → VF (-4611686018427387903 : Int) (1 : Int) ∧ VF (-1 : Int) (1 : Int))
   (.need (true = true → VF (-4611686018427387904 : Int) (1 : Int) ∧ VF (1 : Int) (2 : Int)) (.ret (bv true))))))
   (.need (VF (4611686018427387904 : Int) (1 : Int) ∧ VF (1 : Int) (1 : Int))
   (.need (true = true → VF (4611686018427387904 : Int) (1 : Int) ∧ VF (1 : Int) (1 : Int))
   (.need (true = true → VF (4611686018427387903 : Int) (1 : Int) ∧ VF (1 : Int) (1 : Int))
   (.need (true = true → VF (4611686018427387904 : Int) (1 : Int) ∧ VF (1 : Int) (2 : Int)) (.ret (bv true))))))))
   (.ite
   (!LLi_q9 p q ==
   (LLi_q10 p q &&
   decide
   (w64
   ((if w64 (Int.tmod (w64 q) (125 : Int) - (62 : Int)) > w64 (Int.tmod (w64 p) (125 : Int) - (62 : Int)) then w64 (Int.tmod (w64 q) (125 : Int) - (62 : Int))
   else w64 (Int.tmod (w64 p) (125 : Int) - (62 : Int))) -
   if
   (0 : Int) <
   if w64 (Int.tmod (w64 q) (125 : Int) - (62 : Int)) < w64 (Int.tmod (w64 p) (125 : Int) - (62 : Int)) then w64 (Int.tmod (w64 q) (125 : Int) - (62 : Int))
   else w64 (Int.tmod (w64 p) (125 : Int) - (62 : Int)) then
   (0 : Int)
   else
   if w64 (Int.tmod (w64 q) (125 : Int) - (62 : Int)) < w64 (Int.tmod (w64 p) (125 : Int) - (62 : Int)) then w64 (Int.tmod (w64 q) (125 : Int) - (62 : Int))
   else w64 (Int.tmod (w64 p) (125 : Int) - (62 : Int))) ≤
   (61 : Int))) ||
   LLi_q11 p q)
   (.ret (bv false))
   (.ite neg
   (.need (VF (-4611686018427387904 : Int) (1 : Int) ∧ VF (-1 : Int) (1 : Int))
   (.need (true = true → VF (-4611686018427387904 : Int) (1 : Int) ∧ VF (-1 : Int) (1 : Int))
   (.need (true = true → VF (-4611686018427387903 : Int) (1 : Int) ∧ VF (-1 : Int) (1 : Int))
   (.need (true = true → VF (-4611686018427387904 : Int) (1 : Int) ∧ VF (1 : Int) (2 : Int)) (.ret (bv true))))))
   (.need (VF (4611686018427387904 : Int) (1 : Int) ∧ VF (1 : Int) (1 : Int))
   (.need (true = true → VF (4611686018427387904 : Int) (1 : Int) ∧ VF (1 : Int) (1 : Int))
   (.need (true = true → VF (4611686018427387903 : Int) (1 : Int) ∧ VF (1 : Int) (1 : Int))
   (.need (true = true → VF (4611686018427387904 : Int) (1 : Int) ∧ VF (1 : Int) (2 : Int)) (.ret (bv true)))))))))))))))))))

theorem LLi_eq (p q : Int) (neg : Bool) : TW .nil 8 [.d (.x (.int .u8 p)), .d (.x (.int .u8 q)), bv neg] = LLi p q neg := by kernel_rfl


end Go.Proofs.YtmdbfhkineaheaaDoor

namespace Go.Proofs.YtmdbfhkineaheaaDoor
open Go.Sx
set_option maxRecDepth 100000

/-! ### FractionLimits -/

noncomputable def P2 (c : Int) : Rat := ratOf (pwN c) (pwD c)
theorem pw_low (c : Int) : Low (pwN c) (pwD c) := by
  unfold pwN pwD
  by_cases h : c < 0
  · rw [if_pos h, if_pos h]; exact ⟨by have : (0 : Int) < 2 ^ (-c).toNat := Int.pow_pos (by omega)
                                       omega, by simp⟩
  · rw [if_neg h, if_neg h]; exact ⟨by omega, by simp⟩
theorem P2_num (c : Int) : (P2 c).num = pwN c := (pw_low c).num
theorem P2_den (c : Int) : ((P2 c).den : Int) = pwD c := (pw_low c).den
theorem pow_le62 {k : Nat} : (2 : Nat) ^ k ≤ 4611686018427387904 ↔ k ≤ 62 := by
  rw [show (4611686018427387904 : Nat) = 2 ^ 62 from rfl, Nat.pow_le_pow_iff_right (by omega)]
theorem natAbs_pow2 (k : Nat) : ((2 : Int) ^ k).natAbs = 2 ^ k := by rw [Int.natAbs_pow]; rfl
theorem P2_fits (c : Int) : fitsR (P2 c) ↔ -62 ≤ c ∧ c ≤ 62 := by
  unfold fitsR
  have hd : (P2 c).den = (pwD c).natAbs := by have := P2_den c; omega
  rw [P2_num, hd]
  unfold pwN pwD
  by_cases h : c < 0
  · rw [if_pos h, if_pos h, natAbs_pow2, pow_le62]; simp; omega
  · rw [if_neg h, if_neg h, natAbs_pow2, pow_le62]; simp; omega
theorem P2_z (c : Int) : P2 c = (2 : Rat) ^ c := by
  unfold P2 pwN pwD ratOf
  by_cases h : c < 0
  · rw [if_pos h, if_pos h]
    obtain ⟨k, rfl⟩ : ∃ k : Nat, c = -(k : Int) := ⟨(-c).toNat, by omega⟩
    rw [Rat.zpow_neg, Rat.zpow_natCast, Rat.mkRat_eq_div]
    have e1 : (-(-(k : Int))).toNat = k := by omega
    have e2 : ((2 : Int) ^ k).toNat = 2 ^ k := by
      have : (2 : Int) ^ k = ((2 ^ k : Nat) : Int) := by push_cast; rfl
      rw [this, Int.toNat_natCast]
    rw [e1, e2, Rat.div_def]
    push_cast
    rw [Rat.one_mul]
  · rw [if_neg h, if_neg h]
    obtain ⟨k, rfl⟩ : ∃ k : Nat, c = (k : Int) := ⟨c.toNat, by omega⟩
    rw [Rat.zpow_natCast, Rat.mkRat_eq_div, Int.toNat_natCast, Rat.intCast_pow]
    show _ / ((1 : Nat) : Rat) = _
    rw [show ((1 : Nat) : Rat) = 1 from rfl, Rat.div_def, show (1 : Rat)⁻¹ = 1 by decide +kernel, Rat.mul_one]
    rfl
theorem two_ne : (2 : Rat) ≠ 0 := by decide +kernel
theorem P2_mul (a b : Int) : P2 a * P2 b = P2 (a + b) := by rw [P2_z, P2_z, P2_z, Rat.zpow_add two_ne]
theorem P2_ne (c : Int) : P2 c ≠ 0 := by
  rw [P2_z]
  have := Rat.zpow_pos (a := 2) (n := c) (by decide +kernel)
  grind
theorem P2_div (a b : Int) : P2 a / P2 b = P2 (a - b) := by
  have h : P2 (a - b) * P2 b = P2 a := by rw [P2_mul]; congr 1; omega
  rw [← h, Rat.div_def, Rat.mul_assoc, Rat.mul_inv_cancel _ (P2_ne b), Rat.mul_one]
noncomputable def limB (a b : Int) : Bool := decide (fitsR (P2 a + P2 b)) == (bif (if b > a then b else a) == (if b < a then b else a) then decide ((if b > a then b else a) ≤ 61) else decide ((if b > a then b else a) ≤ 61) && decide (w64 ((if b > a then b else a) - (if 0 < (if b < a then b else a) then 0 else (if b < a then b else a))) ≤ 61))
theorem lim_all : ((List.range 125).all fun i => (List.range 125).all fun j => limB ((i : Int) - 62) ((j : Int) - 62)) = true := by kernel_rfl
theorem limB_of {a b : Int} (ha : -62 ≤ a ∧ a ≤ 62) (hb : -62 ≤ b ∧ b ≤ 62) : limB a b = true := by
  have h := lim_all
  rw [List.all_eq_true] at h
  have h1 := h (a + 62).toNat (by rw [List.mem_range]; omega)
  rw [List.all_eq_true] at h1
  have h2 := h1 (b + 62).toNat (by rw [List.mem_range]; omega)
  have e1 : (((a + 62).toNat : Nat) : Int) - 62 = a := by omega
  have e2 : (((b + 62).toNat : Nat) : Int) - 62 = b := by omega
  rwa [e1, e2] at h2
theorem rE_0 {q : Rat} : (rE q == 0) = decide (fitsR q) := by
  by_cases h : fitsR q
  · rw [rE_of h, decide_eq_true h]; rfl
  · rw [rE_no h, decide_eq_false h]; rfl
theorem P2_ok (c : Int) : (!(rE (P2 c) == 0) == (decide (c ≥ -62) && decide (c ≤ 62))) = false := by
  have : decide (fitsR (P2 c)) = (decide (c ≥ -62) && decide (c ≤ 62)) := by
    rw [Bool.eq_iff_iff]; simp only [decide_eq_true_eq, Bool.and_eq_true, P2_fits, ge_iff_le]
  rw [rE_0, this]; simp
theorem P2_is (c : Int) : (rE (P2 c) == 0 && !(rN (P2 c) == pwN c && (rD (P2 c) == pwD c && true))) = false := by
  rw [rE_0]
  by_cases h : fitsR (P2 c)
  · rw [rN_of h, rD_of h, P2_num, P2_den]; simp
  · rw [decide_eq_false h]; rfl
theorem P2_need (c : Int) (p : Prop) : (p ∧ (rE (P2 c) == 0) = true → -62 ≤ c ∧ c ≤ 62) = True := eq_true fun h => by
  have := h.2
  rw [rE_0, decide_eq_true_eq, P2_fits] at this; exact this
theorem rE_or (q : Rat) : (rE q != 0 && rE q != 2) = false := by
  by_cases h : fitsR q
  · rw [rE_of h]; rfl
  · rw [rE_no h]; rfl
theorem P2_vf {c : Int} (h : -62 ≤ c ∧ c ≤ 62) : VF (pwN c) (pwD c) := by
  have := VF.of ((P2_fits c).2 h)
  rwa [P2_num, P2_den] at this

theorem exp_rng {p : Int} (h : 0 ≤ p ∧ p ≤ 255) : ∃ a, w64 (Int.tmod (w64 p) 125 - 62) = a ∧ -62 ≤ a ∧ a ≤ 62 := by
  refine ⟨_, rfl, ?_⟩
  rw [w64_of (n := p) (by omega) (by omega), Int.tmod_eq_emod_of_nonneg h.1, w64_of (by omega) (by omega)]
  omega
theorem lim_sat {p q : Int} {neg : Bool} (hp : 0 ≤ p ∧ p ≤ 255) (hq : 0 ≤ q ∧ q ≤ 255) :
    Sat Tryd.prog (TW .nil 8 [.d (.x (.int .u8 p)), .d (.x (.int .u8 q)), bv neg]) (· = bv true) := by
  constructor
  rw [LLi_eq]; unfold LLi
  obtain ⟨a, ea, ha⟩ := exp_rng hp
  obtain ⟨b, eb, hb⟩ := exp_rng hq
  have e1 : w64 (a + b) = a + b := w64_of (by omega) (by omega)
  have e2 : w64 (a - b) = a - b := w64_of (by omega) (by omega)
  have p2 : ∀ c, ratOf (pwN c) (pwD c) = P2 c := fun c => rfl
  simp only [LLi_q1, LLi_q2, LLi_q3, LLi_q4, LLi_q5, LLi_q6, LLi_q7, LLi_q8, LLi_q9, LLi_q10, LLi_q11, ea, eb, e1, e2, p2, P2_mul, dvN_of (P2_ne b), dvD_of (P2_ne b), dvE_of (P2_ne b), P2_div, P2_ok, P2_is, rE_or, Bool.false_or, Bool.or_false, P2_need]
  have va := P2_vf ha
  have vb := P2_vf hb
  have hl := limB_of ha hb
  unfold limB at hl
  rw [beq_iff_eq] at hl
  rw [rE_0, hl]
  have k1 : VF (-4611686018427387904) 1 := VF.i (by omega)
  have k2 : VF (-1) 1 := VF.i (by omega)
  have k3 : VF (-4611686018427387903) 1 := VF.i (by omega)
  have k4 : VF 4611686018427387904 1 := VF.i (by omega)
  have k5 : VF 1 1 := VF.i (by omega)
  have k6 : VF 4611686018427387903 1 := VF.i (by omega)
  have k7 : VF 1 2 := ⟨⟨by omega, by decide⟩, by omega, by omega⟩
  have ha' : (-62 ≤ a ∧ a ≤ 62) = True := eq_true ha
  have hb' : (-62 ≤ b ∧ b ≤ 62) = True := eq_true hb
  cases hm : ((if b > a then b else a) == (if b < a then b else a)) <;> cases neg <;>
  simp +decide only [sat_need, sat_ite, sat_ret, bv_inj, va, vb, ha', hb', k1, k2, k3, k4, k5, k6, k7, cond_true, cond_false, beq_self_eq_true, bne_self_eq_false, decide_true, Bool.and_true, Bool.true_and, Bool.not_true, Bool.or_false, Bool.false_or, Bool.or_true, Bool.true_or, Bool.and_false, Bool.false_and, true_and, and_true, false_imp_iff, true_imp_iff, reduceCtorEq, forall_const, and_self, Bool.not_false, false_and, and_false, not_true_eq_false, not_false_eq_true, imp_self, implies_true]

theorem okU8 {n : Nat} {ds : List DV} (h : okT Tryd.prog (n + 1) 5 ds) : ∃ i, (0 ≤ i ∧ i ≤ 255) ∧ ds = [.x (.int .u8 i)] := by
  obtain ⟨k, hk, rfl⟩ := okT_int (k := .u8) Tryd.underlying5 h
  exact ⟨k, ⟨by have := hk.1; rwa [show IntKind.u8.min = 0 from rfl] at this, by have := hk.2; rwa [show IntKind.u8.max = 255 from rfl] at this⟩, rfl⟩
theorem fractionLimits_ok : ∃ c : Ctr, CtrOK Tryd.prog 8 c ∧ ∀ ss, okArgs Tryd.prog 6 [5, 5, 4] ss → (c ss).ev (bv true) := by
  refine law_ctr CW_ok DW_ok (by kernel_rfl) (by kernel_rfl) fun ss h => ?_
  obtain ⟨d1, _, rfl, h1, d2, _, rfl, h2, d3, _, rfl, h3, rfl⟩ := h
  obtain ⟨p, hp, rfl⟩ := okU8 h1
  obtain ⟨q, hq, rfl⟩ := okU8 h2
  obtain ⟨b, rfl⟩ := okT_bool Tryd.underlying4 h3
  have := lim_sat (neg := b) hp hq
  simp only [svT, Tryd.underlying5, Tryd.underlying4]
  exact ⟨200, .nil, this⟩

end Go.Proofs.YtmdbfhkineaheaaDoor

/- A law's frame where variables are listed: what is listed, and the shape of the world, both are handed to the walk. -/
namespace Go
variable {H : Type} {enc : TypeId × Value → H}

theorem returnsInHanded_of_change_ands {a : Assume} {C : Checked} {os : Os} {f : FuncId} {fn : Func} {s : ChangeSpec} {conds : List PathCond} {apart fresh handsOn again : Bool} {X : World → Array Value → Prop}
    (hX : ∀ (w w' : World) (args : Array Value), w.heap = w'.heap → X w args → X w' args)
    (own : ownKnob C.prog.godebug = none) (started : os.Started) (noInit : C.prog.inits.idxOf? f = none) (hfn : C.prog.funcs[f]? = some fn)
    (witness : ∃ (w : World) (tape : Tape) (i : Input), w.os = os ∧ (w.forCall tape i).Shaped C.prog ∧ i.vars = [] ∧ Input.okWide C.prog (w.forCall tape i) .any w.heap.size f i ∧
      ((s.pre enc C.prog fn conds apart (w.forCall tape i).memory i.args ∧ X (w.forCall tape i).memory i.args) ∧ sizedMet enc C.prog fn (OpenSpec.ofChange s) apart (w.forCall tape i).memory i.args) ∧ a.holds C.prog (lone (Frame.enter C.prog f i.args .normal) [] (w.forCall tape i)))
    (contract : ∀ (W : World) (base : Nat) (args : Array Value) (ds gs : List (DataW H)) (before : List MemPlace),
      (∀ (j : Nat) t v, fn.params[j]? = some t → args[j]? = some v → Value.okWide C.prog W .any base t v) →
      DataW.Whole enc C.prog fn.params.toList s.vars apart W args.toList ds gs before →
      conds.all (PathCond.test C.prog ⟨fn.params.toList, ds, s.plain.varTypes C.prog, gs⟩) = true →
      (DataW.weightsEach C.prog (fn.params.toList ++ s.plain.varTypes C.prog) (ds ++ gs)).all (· ≤ reachBytes) = true → X W args → W.ShapedOpen C.prog →
      a.holds C.prog (lone (Frame.enter C.prog f args .normal) [] W) →
      Calls C.prog f args W fun e W' => ∃ v, e = .returned v ∧ s.post enc C.prog fn apart fresh handsOn again W args v W') :
    ReturnsInHanded a C os f .any (fun w args => (s.pre enc C.prog fn conds apart w args ∧ X w args) ∧ sizedMet enc C.prog fn (OpenSpec.ofChange s) apart w args) (s.post enc C.prog fn apart fresh handsOn again) := by
  refine returnsInHanded_of_calls own started noInit witness ?_
  intro w tape i _ hsh _ hok hpre hholds
  obtain ⟨_, _, _, fn', hfn', _, _, _, _, hval⟩ := hok
  have e : fn' = fn := Option.some.inj (hfn'.symm.trans hfn)
  subst e
  obtain ⟨⟨⟨ds, gs, before, hw, hc⟩, hx⟩, hz⟩ := hpre
  have hw' := DataW.Whole.of_heap (w' := w.forCall tape i) (by rfl) hw
  refine (contract (w.forCall tape i) w.heap.size i.args ds gs before hval hw' hc (hz.weights hw) (hX _ _ _ (by rfl) hx) hsh hholds).mono fun e W' ⟨v, he, hp⟩ => ?_
  subst he
  exact ChangeSpec.post_blind hp

end Go

namespace Go.Proofs.YtmdbfhkineaheaaDoor
open Go.Sx
set_option maxRecDepth 100000

/-! ### What the row's list of variables gives -/

def laid5 : List (String × DataW Unit) := [("math/bits.deBruijn32tab", Rows.laid_math_bits_deBruijn32tab), ("math/bits.deBruijn64tab", Rows.laid_math_bits_deBruijn64tab), ("internal/strconv.uint64pow10", Rows.laid_internal_strconv_uint64pow10), ("strconv.ErrRange", Rows.laid_strconv_ErrRange), ("strconv.ErrSyntax", Rows.laid_strconv_ErrSyntax)]
theorem gPow : Tryd.prog.globalNamed "internal/strconv.uint64pow10" = some 2 := by kernel_rfl
theorem gSyn : Tryd.prog.globalNamed "strconv.ErrSyntax" = some 4 := by kernel_rfl
theorem gRng : Tryd.prog.globalNamed "strconv.ErrRange" = some 5 := by kernel_rfl
theorem plain5 : (laid5.all fun x => x.2.handleName?.isNone) = true := by kernel_rfl
theorem var_obj {w : World} {name : String} {g : Nat} {cs : Array Value} (hg : Tryd.prog.globalNamed name = some g) (h : w.var? Tryd.prog name = some cs) : ∃ e fr, w.heap[g]? = some (.cells cs e fr) := by
  unfold World.var? at h
  rw [hg] at h
  simp only [Option.bind_some] at h
  split at h
  · rename_i c e fr heq
    simp only [Option.some.injEq] at h; subst h
    exact ⟨e, fr, heq⟩
  · cases h
theorem typePow : (Tryd.prog.globals[2]?).map (·.type) = some 99 := by kernel_rfl
theorem typeSyn : (Tryd.prog.globals[4]?).map (·.type) = some 78 := by kernel_rfl
theorem typeRng : (Tryd.prog.globals[5]?).map (·.type) = some 78 := by kernel_rfl
theorem star : "*" ++ "errors.errorString" = "*errors.errorString" := by decide
theorem rowErr (u : TypeId) (h : Tryd.prog.typeName? 3 u = some "*errors.errorString") : u = 117 :=
  typeName_ptr_named (nm := "errors.errorString") (by rw [star]; kernel_rfl) (by kernel_rfl) (by decide) u (by rw [star]; exact h)

theorem glob_of {W : World} (h : laidMetH Tryd.prog laid5 W) (hs : W.ShapedOpen Tryd.prog) : GlobOK W (fun b => b < W.heap.size) := by
  rw [MakeChecks.laidMetH_plain _ _ _ plain5] at h
  have h2 : laidMet Tryd.prog [("internal/strconv.uint64pow10", Lib.tabData .u64 Lib.pow10Tab), ("strconv.ErrRange", Rows.laid_strconv_ErrRange), ("strconv.ErrSyntax", Rows.laid_strconv_ErrSyntax)] W := h.tail.tail
  have ht := Lib.tabIs_of_head gPow typePow Tryd.underlying99 Tryd.underlying49 (by kernel_rfl) (by kernel_rfl) h2
  obtain ⟨a0, s0, hv0, -, -, -⟩ := laid_sentinel h2.tail gRng typeRng Tryd.underlying78 rowErr Tryd.underlying117 Tryd.underlying119 rfl rfl Tryd.underlying9 (by kernel_rfl) (by kernel_rfl)
  obtain ⟨a1, s1, hv1, -, -, -⟩ := laid_sentinel h2.tail.tail gSyn typeSyn Tryd.underlying78 rowErr Tryd.underlying117 Tryd.underlying119 rfl rfl Tryd.underlying9 (by kernel_rfl) (by kernel_rfl)
  obtain ⟨m, hm⟩ := cell_of_shapedOpen_int (g := 3) (t := 3) (zero := #[.int .i64 0]) (k := .i64) hs (of_decide_eq_true (by kernel_rfl)) (by kernel_rfl) rfl (by kernel_rfl) (by kernel_rfl) Tryd.underlying3
  have k1 : okTab Lib.pow10Tab W.heap[2]? := by
    obtain ⟨e, fr, hh⟩ := var_obj gPow ht
    exact ⟨e, fr, hh⟩
  have k2 : okErr W.heap[4]? := by
    obtain ⟨e, fr, hh⟩ := var_obj gSyn hv1
    exact ⟨_, e, fr, _, _, hh, rfl⟩
  have k3 : okErr W.heap[5]? := by
    obtain ⟨e, fr, hh⟩ := var_obj gRng hv0
    exact ⟨_, e, fr, _, _, hh, rfl⟩
  have k4 : okInt W.heap[3]? := cell_okInt hm
  have lt : ∀ {g : Nat} {o : Obj}, W.heap[g]? = some o → g < W.heap.size := fun hh => (Array.getElem?_eq_some_iff.1 hh).1
  refine ⟨fun g n cell hg => (by cases hg), fun g Q hg => ?_⟩
  match g, hg with
  | 2, hg => cases hg; exact ⟨by obtain ⟨e, fr, hh⟩ := k1; exact lt hh, k1⟩
  | 3, hg => cases hg; exact ⟨by obtain ⟨c, e, fr, m, hh, _⟩ := k4; exact lt hh, k4⟩
  | 4, hg => cases hg; exact ⟨by obtain ⟨c, e, fr, t, p, hh, _⟩ := k2; exact lt hh, k2⟩
  | 5, hg => cases hg; exact ⟨by obtain ⟨c, e, fr, t, p, hh, _⟩ := k3; exact lt hh, k3⟩

end Go.Proofs.YtmdbfhkineaheaaDoor

namespace Go.Proofs.YtmdbfhkineaheaaDoor
open Go.ChangeShapes Go.WideShapes Go.ChangeAt Go.RowKit Go.Sx

theorem own : ownKnob Tryd.prog.godebug = none := by kernel_rfl
theorem laidOut : laidOutB Tryd.prog = true := by kernel_rfl
theorem door_met (os : Os) (args : Array Value) : laidMetH Tryd.prog laid5 ((World.doorLaid Tryd.prog 62 os).forCall (fun _ _ => 0) ⟨#[], args, []⟩).memory :=
  laidMetH_of_parts3 (fuel := 8) (laidMet_of_run' 8 (by kernel_rfl) (by kernel_rfl)) (by kernel_rfl) (by kernel_rfl)

set_option maxRecDepth 100000 in
theorem lifted (os : Os) (started : os.Started) (H : Type) (enc : TypeId × Value → H) :
    ReturnsInHanded {} Tryd.checked os 8 .any (fun w args => (Rows.fractionLimitsSpec.pre enc Tryd.prog Tryd.f8 Rows.fractionLimitsRow.domain false w args ∧ laidMetH Tryd.prog laid5 w) ∧ sizedMet enc Tryd.prog Tryd.f8 (OpenSpec.ofChange Rows.fractionLimitsSpec) false w args)
      (Rows.fractionLimitsSpec.post enc Tryd.prog Tryd.f8 false true false false) := by
  refine returnsInHanded_of_change_ands (C := Tryd.checked) (X := fun w _ => laidMetH Tryd.prog laid5 w) (fun _ _ _ hh h => h.of_heap hh) own started (by kernel_rfl) Tryd.func8
    (ChangeSpec.witness_shaped (enc := enc) (C := Tryd.checked) (os := os) (X := fun w _ => laidMetH Tryd.prog laid5 w) false (World.doorLaid Tryd.prog 62 os) #[.int .u8 0, .int .u8 0, .bool false] 8 rfl (World.shaped_of_RefB (by kernel_rfl) (by kernel_rfl)) (by kernel_rfl) (by kernel_rfl) (by kernel_rfl) (door_met os _)) ?_
  intro W base args ds gs before hval0 hW hcnd _ hL hsh _
  have hval : ∀ (j : Nat) t v, Tryd.f8.params[j]? = some t → args[j]? = some v → Value.okWide Tryd.prog W .any base t v := hval0
  have hW' := hW
  obtain ⟨p, q, hA0, hV, rfl, hfz, hnd⟩ := hW
  have hA : DataW.TrodAll enc Tryd.prog W 0 (fun _ => true) true Tryd.f8.params.toList args.toList ds p := hA0
  rw [Tryd.params8] at hA hval
  obtain ⟨rfl, rfl⟩ := trodVars_none hV
  obtain ⟨v0, vs0, d0, ds0, p0, q0, hargs, rfl, e0, h0, r0⟩ := trodAll_cons hA
  obtain ⟨v1, vs1, d1, ds1, p1, q1, e1_1, rfl, e2_1, h1, r1⟩ := trodAll_cons r0
  obtain ⟨v2, vs2, d2, ds2, p2, q2, e1_2, rfl, e2_2, h2, r2⟩ := trodAll_cons r1
  obtain ⟨e3, rfl, e4⟩ := trodAll_nil r2
  obtain ⟨c, hc, hev⟩ := fractionLimits_ok
  have hlt := trodAll_lt hA
  obtain ⟨ss, o1, o2, o3⟩ := open_args (F := fun b => b < W.heap.size) (n := 6) (r := .any) (base := base) (by kernel_rfl) hA (fun j t v a b => hval j t v (by simpa using a) (by simpa using b)) (fun q hq => hlt q hq)
  refine (law_of hc (F := fun b => b < W.heap.size) (fun b hb => hb) (glob_of hL hsh) (ss := ss) ⟨by simpa using o2, fun i hi => by simpa [List.getD, Array.getD_eq_getD_getElem?] using o3 i hi⟩ (hev ss o1)).mono fun e W' ⟨he, bel⟩ => ?_
  subst he
  have hback := trodAll_below laidOut bel (by kernel_rfl) hA
  exact ⟨_, rfl, _, _, _, [], _, [], hW', trodAll_mk1 (shut_bool Tryd.underlying4 _), hback, rfl, bel.frame _, fun h => by cases h⟩

theorem over : Rows.fractionLimitsRow.holds Tryd.pinned (OpenSpec.ofChange Rows.fractionLimitsSpec) :=
  OpenClaim.holds_of_wide 8 Tryd.f8 rfl rfl rfl rfl rfl rfl rfl ⟨rfl, rfl, rfl, rfl, rfl⟩ rfl rfl rfl rfl rfl (by kernel_rfl) Tryd.func8 (by kernel_rfl)
    (of_decide_eq_true (by kernel_rfl)) (by unfold Func.isWrapper; first | (rw [if_pos (by decide +kernel)]; kernel_rfl) | (rw [if_neg (by decide +kernel)]; exact ⟨rfl, rfl⟩))
    (fun os started H enc _ => lifted os started H enc)

theorem fractionLimits_holds : Rows.FractionLimitsCardSaid :=
  Claim7.holds_tied_plain_at .later [] [.data, .data, .data, .sentinel, .sentinel] true (true, "6d02be5a01351df019767fbefeb9d3f06b73233ad493a98c11bdba6b4cb22437") true
    over (fun _ h => by cases h) (by kernel_rfl) (fun _ h => by cases h) fractionLimits_row_tie rfl ⟨rfl, rfl⟩ (by kernel_rfl) rfl
    (fun f fn hf hfn => by
      obtain rfl : f = 8 := Option.some.inj ((show Tryd.prog.funcNamed "wireloom/wireloomlaw02.FractionLimits" = some 8 by kernel_rfl).symm.trans hf) |>.symm
      obtain rfl : fn = Tryd.f8 := (Option.some.inj (Tryd.func8.symm.trans hfn)).symm
      exact ⟨by kernel_rfl, fun j t ht => by
        rw [Tryd.params8] at ht
        have hm : t ∈ [5, 5, 4] := by simpa using Array.mem_of_getElem? ht
        have hall : ([5, 5, 4].all fun u => !Tryd.prog.wantsStandIn u) = true := by kernel_rfl
        exact (show Tryd.prog.wantsStandIn t = false by simpa using List.all_eq_true.1 hall t hm)⟩)
    (by kernel_rfl)
#print axioms fractionLimits_holds
end Go.Proofs.YtmdbfhkineaheaaDoor

