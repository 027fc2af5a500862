/- Part of a proof of the given statements of this seat (SxFzTa, SxFzTb, SxFzTc, SxFzTd, SyLaw, SxFzGl, SxFzG3): no conditions beyond those typed here. -/
import Derived.Test.YtmdbfhkineaheaaGreatDoorSz08
import Derived.Test.YtmdbfhkineaheaaGreatDoorSz09
import Derived.HandedShaped
import Derived.Handed
import Derived.LaidMore
import Derived.LaidLaws
import Derived.Test.YtmdbfhkineaheaaGreatDoorSz03
import Derived.Test.YtmdbfhkineaheaaGreatDoorSz04
import Derived.Lib.LaidTab
import Derived.Stop.LaidErr
import Derived.Shelf.Vars
import Derived.MakeChecks
import Derived.Test.YtmdbfhkineaheaaGreatDoorRows
import Derived.Test.YtmdbfhkineaheaaGreatDoorChecked
import Derived.Test.YtmdbfhkineaheaaGreatDoorCards
import Derived.Test.YtmdbfhkineaheaaGreatDoorTie
import Derived.SevenTiedAt
set_option linter.unusedVariables false
set_option linter.unusedSimpArgs false
set_option linter.unusedSectionVars false

namespace Go.Proofs.YtmdbfhkineaheaaGreatDoor
open Go.Sx
set_option maxRecDepth 100000

/-! ### The reference's digits -/

noncomputable def cDig (m : Nat) : Ctr := fun ss => match ss with
  | [.d (.x (.int .i64 n))] => .need (0 < m ∧ 0 ≤ n ∧ n < 10 ^ m ∧ n ≤ 9223372036854775807) (.ret (strV (decF m n.toNat)))
  | _ => .fail
noncomputable def manG1 (m : Nat) : FuncId → Option Ctr := fun k => match k with
  | 52 => some (cDig m)
  | _ => none
noncomputable def CG1 (m : Nat) : Ctx := ctxN Tryz.prog (manG1 m) (fun _ => false) 200 .nil 6
noncomputable def DG1 (m : Nat) : Dr := fun _ => drawn Tryz.prog (CG1 m)
noncomputable def TG1 (m : Nat) (h : Hint) (k : Nat) (args : List SV) : Tree SV := fnT Tryz.prog (CG1 m) (DG1 m) 200 (fnOf Tryz.prog k) (bodyOf Tryz.prog k) args h
noncomputable def LDig (m : Nat) (n : Int) : Tree SV :=
  .ite (decide (n < (10 : Int)))
  (.need (((0 : Int) ≤ w64 (n + (1 : Int)) ∧ Int.toNat (w64 (n + (1 : Int))) ≤ 10) ∧ (0 : Int) ≤ n ∧ Int.toNat n ≤ Int.toNat (w64 (n + (1 : Int))))
   (.ret
   (SV.d
   (DV.x
   (.string
   (ByteArray.extract (strB [(48 : UInt8), (49 : UInt8), (50 : UInt8), (51 : UInt8), (52 : UInt8), (53 : UInt8), (54 : UInt8), (55 : UInt8), (56 : UInt8), (57 : UInt8)]) (Int.toNat n) (Int.toNat (w64 (n + (1 : Int))))))))))
  (.need ((10 : Int) ≠ (0 : Int))
   (.need (0 < m ∧ (0 : Int) ≤ w64 (Int.tdiv n (10 : Int)) ∧ w64 (Int.tdiv n (10 : Int)) < (10 : Int) ^ m ∧ w64 (Int.tdiv n (10 : Int)) ≤ (9223372036854775807 : Int))
   (.need ((10 : Int) ≠ (0 : Int))
   (.need (0 < m ∧ (0 : Int) ≤ Int.tmod n (10 : Int) ∧ Int.tmod n (10 : Int) < (10 : Int) ^ m ∧ Int.tmod n (10 : Int) ≤ (9223372036854775807 : Int))
   (.need (ByteArray.size (strB (decF m (Int.toNat (w64 (Int.tdiv n (10 : Int)))))) + ByteArray.size (strB (decF m (Int.toNat (Int.tmod n (10 : Int))))) ≤ 9223372036854775807)
   (.ret (SV.d (DV.x (.string (strB (decF m (Int.toNat (w64 (Int.tdiv n (10 : Int))))) ++ strB (decF m (Int.toNat (Int.tmod n (10 : Int))))))))))))))

theorem LDig_eq (m : Nat) (n : Int) : TG1 m .nil 52 [iv n] = LDig m n := by kernel_rfl


theorem decF_pos : ∀ (m u : Nat), u < 10 → 0 < m → decF m u = [UInt8.ofNat (48 + u)]
  | m + 1, u, h, _ => by unfold decF; rw [if_pos h]
theorem decF_len : ∀ (m u : Nat), (decF m u).length ≤ m + 1
  | 0, u => by unfold decF; simp
  | m + 1, u => by
    unfold decF; split
    · simp
    · rw [List.length_append, List.length_singleton]; have := decF_len m (u / 10); omega
theorem ten_all : ((List.range 10).all fun k => decide (ByteArray.extract (strB [48, 49, 50, 51, 52, 53, 54, 55, 56, 57]) k (k + 1) = strB [UInt8.ofNat (48 + k)])) = true := by decide +kernel
theorem manG1_ok {m : Nat} (h : CtrOK Tryz.prog 52 (cDig m)) (k : Nat) (c : Ctr) (hk : manG1 m k = some c) : CtrOK Tryz.prog k c ∧ goodF Tryz.prog k = true := by
  unfold manG1 at hk
  split at hk <;> first | (cases hk; done) | (cases hk)
  exact ⟨h, by kernel_rfl⟩
theorem dig_sat {m : Nat} {n : Int} (h0 : 0 ≤ n) (h1 : n < 10 ^ (m + 1)) (h2 : n ≤ 9223372036854775807) (hm : m ≤ 1000) : Sat Tryz.prog (TG1 m .nil 52 [iv n]) (· = strV (decF (m + 1) n.toNat)) := by
  constructor
  rw [LDig_eq]; unfold LDig
  simp only [sat_need, sat_ite, sat_ret, decide_eq_true_eq, decide_eq_false_iff_not]
  have e0 : Int.tdiv n 10 = n / 10 := Int.tdiv_eq_ediv_of_nonneg h0
  have e1 : Int.tmod n 10 = n % 10 := Int.tmod_eq_emod_of_nonneg h0
  rw [e0, e1, w64_of (n := n / 10) (by omega) (by omega)]
  refine ⟨fun h => ?_, fun h => ?_⟩
  · rw [w64_of (n := n + 1) (by omega) (by omega)]
    refine ⟨by omega, ?_⟩
    have h3 : (n + 1).toNat = n.toNat + 1 := by omega
    have h4 := List.all_eq_true.1 ten_all n.toNat (by rw [List.mem_range]; omega)
    rw [decide_eq_true_eq] at h4
    rw [h3, h4, decF_pos _ _ (by omega) (by omega)]; rfl
  · have hm0 : 0 < m := by
      rcases Nat.eq_zero_or_pos m with h3 | h3
      · subst h3; simp at h1; omega
      · exact h3
    have hp : (10 : Int) ≤ 10 ^ m := by
      obtain ⟨j, rfl⟩ : ∃ j, m = j + 1 := ⟨m - 1, by omega⟩
      have : (0 : Int) < 10 ^ j := Int.pow_pos (by omega)
      rw [Int.pow_succ]; omega
    have hq : n / 10 < 10 ^ m := by rw [Int.pow_succ] at h1; omega
    refine ⟨by omega, ⟨hm0, by omega, hq, by omega⟩, by omega, ⟨hm0, by omega, by omega, by omega⟩, ?_, ?_⟩
    · rw [strB_size, strB_size]
      have := decF_len m (n / 10).toNat
      have := decF_len m (n % 10).toNat
      omega
    · have h5 : decF (m + 1) n.toNat = decF m (n.toNat / 10) ++ [UInt8.ofNat (48 + n.toNat % 10)] := by
        conv => lhs; unfold decF
        rw [if_neg (by omega)]
      have h6 : (n / 10).toNat = n.toNat / 10 := by omega
      have h7 : (n % 10).toNat = n.toNat % 10 := by omega
      rw [h5, h6, h7, decF_pos m (n.toNat % 10) (by omega) hm0, strB_append]; rfl
theorem cDig_ok : ∀ m : Nat, m ≤ 1000 → CtrOK Tryz.prog 52 (cDig m)
  | 0, _ => by
    refine ctrOK_of CM_ok DM_ok (fn := fnOf Tryz.prog 52) (body := bodyOf Tryz.prog 52) (by kernel_rfl) (by kernel_rfl) fun ss r hr => ?_
    unfold cDig at hr
    split at hr
    · exact absurd hr.1.1 (by omega)
    · exact hr.elim
  | m + 1, hm => by
    have hC := ctxN_ok (fuel := 200) (h := .nil) (inl := fun _ => false) mixed (manG1_ok (cDig_ok m (by omega))) 6
    refine ctrOK_of hC (drawn_ok hC mixed) (fn := fnOf Tryz.prog 52) (body := bodyOf Tryz.prog 52) (by kernel_rfl) (by kernel_rfl) fun ss r hr => ?_
    unfold cDig at hr
    split at hr
    · obtain ⟨⟨_, h0, h1, h2⟩, rfl⟩ := hr
      exact ⟨200, .nil, (dig_sat h0 h1 h2 (by omega)).ok⟩
    · exact hr.elim
noncomputable def cDigs : Ctr := fun ss => match ss with
  | [.d (.x (.int .i64 n))] => .need (0 ≤ n ∧ n ≤ 9223372036854775807) (.ret (strV (decF 19 n.toNat)))
  | _ => .fail
theorem cDigs_ok : CtrOK Tryz.prog 52 cDigs := (cDig_ok 19 (by omega)).mono fun ss r h => by
  unfold cDigs at h
  split at h
  · obtain ⟨⟨h0, h1⟩, rfl⟩ := h
    exact ⟨⟨by omega, h0, by have : (10 : Int) ^ 19 = 10000000000000000000 := by decide
                             omega, h1⟩, rfl⟩
  · exact h.elim

noncomputable def manG2 : FuncId → Option Ctr := fun k => match k with
  | 52 => some cDigs
  | 35 => some cSize
  | _ => none
theorem manG2_ok (k : Nat) (c : Ctr) (h : manG2 k = some c) : CtrOK Tryz.prog k c ∧ goodF Tryz.prog k = true := by
  unfold manG2 at h
  split at h <;> first | (cases h; done) | (cases h)
  · exact ⟨cDigs_ok, by kernel_rfl⟩
  · exact ⟨cSize_ok, by kernel_rfl⟩
noncomputable def CG2 : Ctx := ctxN Tryz.prog manG2 (fun _ => false) 200 .nil 6
theorem CG2_ok : CtxOK Tryz.prog CG2 := ctxN_ok mixed manG2_ok 6
noncomputable def DG2 : Dr := fun _ => drawn Tryz.prog CG2
theorem DG2_ok : DrOK Tryz.prog CG2 DG2 := drawn_ok CG2_ok mixed
noncomputable def TG2 (h : Hint) (k : Nat) (args : List SV) : Tree SV := fnT Tryz.prog CG2 DG2 200 (fnOf Tryz.prog k) (bodyOf Tryz.prog k) args h
noncomputable def LTxR (a b : Int) : Tree SV :=
  .need ((-9223372036854775807 : Int) ≤ a ∧ a ≤ (9223372036854775807 : Int))
  (.need ((0 : Int) ≤ (↑(Int.natAbs a) : Int) ∧ (↑(Int.natAbs a) : Int) ≤ (9223372036854775807 : Int))
   (.ite (decide (a < (0 : Int)))
   (.need (1 + ByteArray.size (strB (decF 19 (Int.toNat (↑(Int.natAbs a) : Int)))) ≤ 9223372036854775807)
   (.ite (b == (1 : Int)) (.ret (SV.d (DV.x (.string (strB [(45 : UInt8)] ++ strB (decF 19 (Int.toNat (↑(Int.natAbs a) : Int))))))))
   (.need (ByteArray.size (strB [(45 : UInt8)] ++ strB (decF 19 (Int.toNat (↑(Int.natAbs a) : Int)))) + 1 ≤ 9223372036854775807)
   (.need ((0 : Int) ≤ b ∧ b ≤ (9223372036854775807 : Int))
   (.need (ByteArray.size (strB [(45 : UInt8)] ++ strB (decF 19 (Int.toNat (↑(Int.natAbs a) : Int))) ++ strB [(47 : UInt8)]) + ByteArray.size (strB (decF 19 (Int.toNat b))) ≤ 9223372036854775807)
   (.ret (SV.d (DV.x (.string (strB [(45 : UInt8)] ++ strB (decF 19 (Int.toNat (↑(Int.natAbs a) : Int))) ++ strB [(47 : UInt8)] ++ strB (decF 19 (Int.toNat b))))))))))))
   (.ite (b == (1 : Int)) (.ret (SV.d (DV.x (.string (strB (decF 19 (Int.toNat (↑(Int.natAbs a) : Int))))))))
   (.need (ByteArray.size (strB (decF 19 (Int.toNat (↑(Int.natAbs a) : Int)))) + 1 ≤ 9223372036854775807)
   (.need ((0 : Int) ≤ b ∧ b ≤ (9223372036854775807 : Int))
   (.need (ByteArray.size (strB (decF 19 (Int.toNat (↑(Int.natAbs a) : Int))) ++ strB [(47 : UInt8)]) + ByteArray.size (strB (decF 19 (Int.toNat b))) ≤ 9223372036854775807)
   (.ret (SV.d (DV.x (.string (strB (decF 19 (Int.toNat (↑(Int.natAbs a) : Int))) ++ strB [(47 : UInt8)] ++ strB (decF 19 (Int.toNat b)))))))))))))

theorem LTxR_eq (a b : Int) : TG2 .nil 25 [.agg [iv a, iv b]] = LTxR a b := by kernel_rfl


noncomputable def cTextR : Ctr := fun ss => match ss with
  | [.agg [.d (.x (.int .i64 a)), .d (.x (.int .i64 b))]] => .need (VF a b) (.ret (strV (txtL a b)))
  | _ => .fail
theorem textR_sat {a b : Int} (h : VF a b) : Sat Tryz.prog (TG2 .nil 25 [.agg [iv a, iv b]]) (· = strV (txtL a b)) := by
  constructor
  rw [LTxR_eq]; unfold LTxR
  have hn := h.n
  have hd := h.d
  have hp := h.low.pos
  have l1 := decF_len 19 a.natAbs
  have l2 := decF_len 19 b.toNat
  simp only [sat_need, sat_ite, sat_ret, decide_eq_true_eq, decide_eq_false_iff_not, beq_iff_eq, beq_eq_false_iff_ne, ne_eq, Int.toNat_natCast, strB_append, strB_size, List.length_append, List.length_singleton, List.cons_append, List.nil_append, List.length_cons, List.length_nil]
  have eb : itoaC b = decF 19 b.toNat := by unfold itoaC; rw [if_neg (by omega)]
  refine ⟨⟨by omega, by omega⟩, ⟨by omega, by omega⟩, fun ha => ⟨by omega, fun hb => ?_, fun hb => ⟨by omega, ⟨by omega, by omega⟩, by omega, ?_⟩⟩, fun ha => ⟨fun hb => ?_, fun hb => ⟨by omega, ⟨by omega, by omega⟩, by omega, ?_⟩⟩⟩
  all_goals unfold txtL
  all_goals rw [eb]
  · have ea : itoaC a = 45 :: decF 19 a.natAbs := by unfold itoaC; rw [if_pos ha]
    rw [if_pos hb, ea]; rfl
  · have ea : itoaC a = 45 :: decF 19 a.natAbs := by unfold itoaC; rw [if_pos ha]
    rw [if_neg hb, ea]; simp [strV]
  · have ea : itoaC a = decF 19 a.natAbs := by unfold itoaC; rw [if_neg ha]; congr 1; omega
    rw [if_pos hb, ea]; rfl
  · have ea : itoaC a = decF 19 a.natAbs := by unfold itoaC; rw [if_neg ha]; congr 1; omega
    rw [if_neg hb, ea]; simp [strV]
theorem cTextR_ok : CtrOK Tryz.prog 25 cTextR := by
  refine ctrOK_of CG2_ok DG2_ok (fn := fnOf Tryz.prog 25) (body := bodyOf Tryz.prog 25) (by kernel_rfl) (by kernel_rfl) fun ss r hr => ?_
  unfold cTextR at hr
  split at hr
  · obtain ⟨h, rfl⟩ := hr
    exact ⟨200, .nil, (textR_sat h).ok⟩
  · exact hr.elim

end Go.Proofs.YtmdbfhkineaheaaGreatDoor

namespace Go.Proofs.YtmdbfhkineaheaaGreatDoor
open Go.Sx
set_option maxRecDepth 100000

/-! ### The reference's operations -/
noncomputable def manR0 : FuncId → Option Ctr := fun k => match k with
  | 15 => some cMulR
  | 7 => some cValU
  | _ => none
theorem manR0_ok (k : Nat) (c : Ctr) (h : manR0 k = some c) : CtrOK Tryz.prog k c ∧ goodF Tryz.prog k = true := by
  unfold manR0 at h
  split at h <;> first | (cases h; done) | (cases h)
  · exact ⟨cMulR_ok, by kernel_rfl⟩
  · exact ⟨cValU_ok, by kernel_rfl⟩
noncomputable def CR0 : Ctx := ctxN Tryz.prog manR0 (fun _ => false) 200 .nil 6
theorem CR0_ok : CtxOK Tryz.prog CR0 := ctxN_ok mixed manR0_ok 6
noncomputable def DR0 : Dr := fun _ => drawn Tryz.prog CR0
theorem DR0_ok : DrOK Tryz.prog CR0 DR0 := drawn_ok CR0_ok mixed
noncomputable def TR0 (h : Hint) (k : Nat) (args : List SV) : Tree SV := fnT Tryz.prog CR0 DR0 200 (fnOf Tryz.prog k) (bodyOf Tryz.prog k) args h
noncomputable def LDivR_q1 (a : Int) (b : Int) : Rat :=
  ratOf a b
noncomputable def LDivR_q2 (c : Int) (d : Int) : Rat :=
  ratOf (w64 ((0 : Int) - d)) (w64 ((0 : Int) - c))
noncomputable def LDivR_q3 (a : Int) (b : Int) (c : Int) (d : Int) : Rat :=
  LDivR_q1 a b * LDivR_q2 c d
noncomputable def LDivR_q4 (c : Int) (d : Int) : Rat :=
  ratOf d c
noncomputable def LDivR_q5 (a : Int) (b : Int) (c : Int) (d : Int) : Rat :=
  LDivR_q1 a b * LDivR_q4 c d
noncomputable def LDivR (a b c d : Int) : Tree SV :=
  .ite (c == (0 : Int)) (.ret (SV.agg [iv (0 : Int), iv (0 : Int), iv (3 : Int)]))
  (.ite (decide (c < (0 : Int)))
   (.need (VF a b ∧ VF (w64 ((0 : Int) - d)) (w64 ((0 : Int) - c))) (.ret (SV.agg [iv (rN (LDivR_q3 a b c d)), iv (rD (LDivR_q3 a b c d)), iv (rE (LDivR_q3 a b c d))])))
   (.need (VF a b ∧ VF d c) (.ret (SV.agg [iv (rN (LDivR_q5 a b c d)), iv (rD (LDivR_q5 a b c d)), iv (rE (LDivR_q5 a b c d))]))))

theorem LDivR_eq (a b c d : Int) : TR0 .nil 17 [.agg [iv a, iv b], .agg [iv c, iv d]] = LDivR a b c d := by kernel_rfl

noncomputable def LFlR (a b : Int) : Tree SV :=
  .need (b ≠ (0 : Int)) (.need (b ≠ (0 : Int)) (.ite (decide (Int.tmod a b < (0 : Int))) (.ret (iv (w64 (w64 (Int.tdiv a b) - (1 : Int))))) (.ret (iv (w64 (Int.tdiv a b))))))

theorem LFlR_eq (a b : Int) : TR0 .nil 21 [.agg [iv a, iv b]] = LFlR a b := by kernel_rfl

noncomputable def LCeR (a b : Int) : Tree SV :=
  .need (b ≠ (0 : Int))
  (.need (b ≠ (0 : Int))
   (.ite (decide (Int.tmod (w64 ((0 : Int) - a)) b < (0 : Int))) (.ret (iv (w64 ((0 : Int) - w64 (w64 (Int.tdiv (w64 ((0 : Int) - a)) b) - (1 : Int)))))) (.ret (iv (w64 ((0 : Int) - w64 (Int.tdiv (w64 ((0 : Int) - a)) b)))))))

theorem LCeR_eq (a b : Int) : TR0 .nil 23 [.agg [iv a, iv b]] = LCeR a b := by kernel_rfl


end Go.Proofs.YtmdbfhkineaheaaGreatDoor

namespace Go.Proofs.YtmdbfhkineaheaaGreatDoor
open Go.Sx
set_option maxRecDepth 100000

noncomputable def cDivR : Ctr := fun ss => match ss with
  | [.agg [.d (.x (.int .i64 a)), .d (.x (.int .i64 b))], .agg [.d (.x (.int .i64 c)), .d (.x (.int .i64 d))]] => .need (VF a b ∧ VF c d) (.ret (.agg [iv (dvN (ratOf a b) (ratOf c d)), iv (dvD (ratOf a b) (ratOf c d)), iv (dvE (ratOf a b) (ratOf c d))]))
  | _ => .fail
theorem cDivR_ok : CtrOK Tryz.prog 17 cDivR := by
  refine ctrOK_leS CR0_ok DR0_ok (by kernel_rfl) (by kernel_rfl) fun ss r h => ?_
  unfold cDivR at h
  split at h
  · rename_i a b c d
    obtain ⟨⟨h1, h2⟩, rfl⟩ := h
    refine ⟨[.agg [iv a, iv b], .agg [iv c, iv d]], 200, .nil, by simp [leSVs, leSV, iv, leD], Sat.of_eq (LDivR_eq a b c d) ⟨?_⟩⟩
    unfold LDivR
    have hc := h2.n
    have hd := h2.d
    have hp := h2.low.pos
    simp only [LDivR_q1, LDivR_q2, LDivR_q3, LDivR_q4, LDivR_q5]
    rw [w64_of (n := 0 - c) (by omega) (by omega), w64_of (n := 0 - d) (by omega) (by omega)]
    refine ⟨fun h => ?_, fun h => ⟨fun hn => ?_, fun hn => ?_⟩⟩
    · have h : c = 0 := by simpa using h
      subst h
      simp only [dvN, dvD, dvE, ratOf_zero, if_true]; exact rfl
    · have hn : c < 0 := by simpa using hn
      have h0 : ratOf c d ≠ 0 := ratOf_ne hp (by omega)
      have hv : VF (0 - d) (0 - c) := by
        have h3 := (h2.neg.flip (by omega)).neg
        exact h3
      refine ⟨⟨h1, hv⟩, ?_⟩
      have e : ratOf (0 - d) (0 - c) = (ratOf c d)⁻¹ := by
        rw [ratOf_neg, ratOf_flip hp (by omega), ratOf_neg]
        have e1 : -(ratOf c d) ≠ 0 := fun h => h0 (by rw [← Rat.neg_neg (ratOf c d), h]; rfl)
        have e2 : -(-(ratOf c d))⁻¹ * ratOf c d = 1 := by
          rw [Rat.neg_mul, ← Rat.mul_neg, Rat.inv_mul_cancel _ e1]
        have : -(-(ratOf c d))⁻¹ * ratOf c d * (ratOf c d)⁻¹ = 1 * (ratOf c d)⁻¹ := by rw [e2]
        rwa [Rat.mul_assoc, Rat.mul_inv_cancel _ h0, Rat.mul_one, Rat.one_mul] at this
      rw [e, ← Rat.div_def]
      simp only [dvN, dvD, dvE, if_neg h0]; exact rfl
    · have h : c ≠ 0 := by simpa using h
      have hn : ¬ c < 0 := by simpa using hn
      have h0 : ratOf c d ≠ 0 := ratOf_ne hp h
      refine ⟨⟨h1, h2.flip (by omega)⟩, ?_⟩
      rw [ratOf_flip hp (by omega), ← Rat.div_def]
      simp only [dvN, dvD, dvE, if_neg h0]; exact rfl
  · exact h.elim
theorem fl_key {a b : Int} (hb : 1 ≤ b) : (Int.tmod a b < 0 → Int.tdiv a b - 1 = a / b) ∧ (¬ Int.tmod a b < 0 → Int.tdiv a b = a / b) := by
  have h := Int.mul_tdiv_add_tmod a b
  rcases tdiv_cases (a := a) hb with ⟨⟨e1, e2, e3⟩, e4⟩ | ⟨e0, e1, e2, e3⟩
  · rw [e1] at h ⊢
    rw [Int.mul_comm] at h
    exact ⟨fun k => by omega, fun _ => rfl⟩
  · rw [e1] at h ⊢
    rw [Int.mul_comm, Int.add_mul, Int.one_mul] at h
    exact ⟨fun _ => by omega, fun k => by omega⟩
theorem cFlR_ok : CtrOK Tryz.prog 21 cFlU := by
  refine ctrOK_leS CR0_ok DR0_ok (by kernel_rfl) (by kernel_rfl) fun ss r h => ?_
  unfold cFlU at h
  split at h
  · rename_i a b
    obtain ⟨h1, rfl⟩ := h
    refine ⟨[.agg [iv a, iv b]], 200, .nil, by simp [leSVs, leSV, iv, leD], Sat.of_eq (LFlR_eq a b) ⟨?_⟩⟩
    unfold LFlR
    have hp := h1.low.pos
    have hn := h1.n
    obtain ⟨b1, b2⟩ := ediv_bound hp hn
    obtain ⟨k1, k2⟩ := fl_key (a := a) hp
    refine ⟨by omega, by omega, fun h => ?_, fun h => ?_⟩
    · have h := k1 (of_decide_eq_true h)
      rw [w64_of (n := Int.tdiv a b) (by omega) (by omega), w64_of (n := Int.tdiv a b - 1) (by omega) (by omega), h]; exact rfl
    · have h := k2 (of_decide_eq_false h)
      rw [w64_of (n := Int.tdiv a b) (by omega) (by omega), h]; exact rfl
  · exact h.elim
theorem cCeR_ok : CtrOK Tryz.prog 23 cCeU := by
  refine ctrOK_leS CR0_ok DR0_ok (by kernel_rfl) (by kernel_rfl) fun ss r h => ?_
  unfold cCeU at h
  split at h
  · rename_i a b
    obtain ⟨h1, rfl⟩ := h
    refine ⟨[.agg [iv a, iv b]], 200, .nil, by simp [leSVs, leSV, iv, leD], Sat.of_eq (LCeR_eq a b) ⟨?_⟩⟩
    unfold LCeR
    have hp := h1.low.pos
    have hn := h1.n
    rw [w64_of (n := 0 - a) (by omega) (by omega), Int.zero_sub]
    obtain ⟨b1, b2⟩ := ediv_bound (a := -a) hp (by omega)
    obtain ⟨k1, k2⟩ := fl_key (a := -a) hp
    refine ⟨by omega, by omega, fun h => ?_, fun h => ?_⟩
    · have h := k1 (of_decide_eq_true h)
      rw [w64_of (n := Int.tdiv (-a) b) (by omega) (by omega), w64_of (n := Int.tdiv (-a) b - 1) (by omega) (by omega), h, Int.zero_sub, w64_of (by omega) (by omega)]; exact rfl
    · have h := k2 (of_decide_eq_false h)
      rw [w64_of (n := Int.tdiv (-a) b) (by omega) (by omega), h, Int.zero_sub, w64_of (by omega) (by omega)]; exact rfl
  · exact h.elim

noncomputable def manV : FuncId → Option Ctr := fun k => match k with
  | 11 => some cAddR
  | 13 => some cSubR
  | 15 => some cMulR
  | 17 => some cDivR
  | 19 => some cCmpR
  | 21 => some cFlU
  | 23 => some cCeU
  | 27 => some cMin
  | 29 => some cMax
  | 25 => some cTextR
  | k => manM k
theorem manV_ok (k : Nat) (c : Ctr) (h : manV k = some c) : CtrOK Tryz.prog k c ∧ goodF Tryz.prog k = true := by
  unfold manV at h
  split at h
  · cases h; exact ⟨cAddR_ok, by kernel_rfl⟩
  · cases h; exact ⟨cSubR_ok, by kernel_rfl⟩
  · cases h; exact ⟨cMulR_ok, by kernel_rfl⟩
  · cases h; exact ⟨cDivR_ok, by kernel_rfl⟩
  · cases h; exact ⟨cCmpR_ok, by kernel_rfl⟩
  · cases h; exact ⟨cFlR_ok, by kernel_rfl⟩
  · cases h; exact ⟨cCeR_ok, by kernel_rfl⟩
  · cases h; exact ⟨cMinR_ok, by kernel_rfl⟩
  · cases h; exact ⟨cMaxR_ok, by kernel_rfl⟩
  · cases h; exact ⟨cTextR_ok, by kernel_rfl⟩
  · exact manM_ok _ _ h
noncomputable def CV : Ctx := ctxN Tryz.prog manV (fun _ => false) 200 .nil 6
theorem CV_ok : CtxOK Tryz.prog CV := ctxN_ok mixed manV_ok 6
noncomputable def DV' : Dr := fun _ => drawn Tryz.prog CV
theorem DV_ok : DrOK Tryz.prog CV DV' := drawn_ok CV_ok mixed
noncomputable def TV' (h : Hint) (k : Nat) (args : List SV) : Tree SV := fnT Tryz.prog CV DV' 200 (fnOf Tryz.prog k) (bodyOf Tryz.prog k) args h
noncomputable def LMr_q1 (x0 : Int) (x1 : Int) : Rat :=
  qR x0 x1
noncomputable def LMr_q2 (x0 : Int) (x1 : Int) : Bool :=
  !((mkN x0 x1 == if x1 = (0 : Int) then (0 : Int) else rN (LMr_q1 x0 x1)) && ((mkD x0 x1 == if x1 = (0 : Int) then (0 : Int) else rD (LMr_q1 x0 x1)) && true) &&
   ((mkE x0 x1 == if x1 = (0 : Int) then (3 : Int) else rE (LMr_q1 x0 x1)) && true))
noncomputable def LMr_q3 (x0 : Int) (y0 : Int) : Rat :=
  qR x0 y0
noncomputable def LMr_q4 (x0 : Int) (x1 : Int) (y0 : Int) (y1 : Int) : Bool :=
  LMr_q2 x0 x1 ||
  !((mkN x0 y0 == if y0 = (0 : Int) then (0 : Int) else rN (LMr_q3 x0 y0)) && ((mkD x0 y0 == if y0 = (0 : Int) then (0 : Int) else rD (LMr_q3 x0 y0)) && true) &&
   ((mkE x0 y0 == if y0 = (0 : Int) then (3 : Int) else rE (LMr_q3 x0 y0)) && true))
noncomputable def LMr_q5 (x0 : Int) (x1 : Int) : Rat :=
  ratOf (mN x0 x1) (mD x0 x1)
noncomputable def LMr_q6 (y0 : Int) (y1 : Int) : Rat :=
  ratOf (mN y0 y1) (mD y0 y1)
noncomputable def LMr_q7 (x0 : Int) (x1 : Int) (y0 : Int) (y1 : Int) : Rat :=
  LMr_q5 x0 x1 + LMr_q6 y0 y1
noncomputable def LMr_q8 (x0 : Int) (x1 : Int) (y0 : Int) (y1 : Int) : Bool :=
  !(rN (LMr_q7 x0 x1 y0 y1) == rN (LMr_q7 x0 x1 y0 y1) && (rD (LMr_q7 x0 x1 y0 y1) == rD (LMr_q7 x0 x1 y0 y1) && true) &&
   (rE (LMr_q7 x0 x1 y0 y1) == rE (LMr_q7 x0 x1 y0 y1) && true))
noncomputable def LMr_q9 (x0 : Int) (x1 : Int) (y0 : Int) (y1 : Int) : Rat :=
  LMr_q5 x0 x1 - LMr_q6 y0 y1
noncomputable def LMr_q10 (x0 : Int) (x1 : Int) (y0 : Int) (y1 : Int) : Bool :=
  LMr_q8 x0 x1 y0 y1 ||
  !(rN (LMr_q9 x0 x1 y0 y1) == rN (LMr_q9 x0 x1 y0 y1) && (rD (LMr_q9 x0 x1 y0 y1) == rD (LMr_q9 x0 x1 y0 y1) && true) &&
   (rE (LMr_q9 x0 x1 y0 y1) == rE (LMr_q9 x0 x1 y0 y1) && true))
noncomputable def LMr_q11 (x0 : Int) (x1 : Int) (y0 : Int) (y1 : Int) : Rat :=
  LMr_q5 x0 x1 * LMr_q6 y0 y1
noncomputable def LMr_q12 (x0 : Int) (x1 : Int) (y0 : Int) (y1 : Int) : Bool :=
  LMr_q10 x0 x1 y0 y1 ||
  !(rN (LMr_q11 x0 x1 y0 y1) == rN (LMr_q11 x0 x1 y0 y1) && (rD (LMr_q11 x0 x1 y0 y1) == rD (LMr_q11 x0 x1 y0 y1) && true) &&
   (rE (LMr_q11 x0 x1 y0 y1) == rE (LMr_q11 x0 x1 y0 y1) && true))
noncomputable def LMr_q13 (x0 : Int) (x1 : Int) (y0 : Int) (y1 : Int) : Bool :=
  LMr_q12 x0 x1 y0 y1 ||
  !(dvN (LMr_q5 x0 x1) (LMr_q6 y0 y1) == dvN (LMr_q5 x0 x1) (LMr_q6 y0 y1) &&
   (dvD (LMr_q5 x0 x1) (LMr_q6 y0 y1) == dvD (LMr_q5 x0 x1) (LMr_q6 y0 y1) && true) &&
   (dvE (LMr_q5 x0 x1) (LMr_q6 y0 y1) == dvE (LMr_q5 x0 x1) (LMr_q6 y0 y1) && true))
noncomputable def LMr_q14 (x0 : Int) (x1 : Int) (y0 : Int) (y1 : Int) : Bool :=
  LMr_q13 x0 x1 y0 y1 || cmpR (LMr_q5 x0 x1) (LMr_q6 y0 y1) != cmpR (LMr_q5 x0 x1) (LMr_q6 y0 y1)
noncomputable def LMr_q15 (x0 : Int) (x1 : Int) (y0 : Int) (y1 : Int) : Bool :=
  LMr_q14 x0 x1 y0 y1 || mN x0 x1 / mD x0 x1 != mN x0 x1 / mD x0 x1
noncomputable def LMr_q16 (x0 : Int) (x1 : Int) : Bool :=
  true && vB (mN x0 x1) (mD x0 x1) && strEq (strB (txtL (mN x0 x1) (mD x0 x1))) (strB (txtL (mN x0 x1) (mD x0 x1)))
noncomputable def LMr_q17 (x0 : Int) (x1 : Int) (y0 : Int) (y1 : Int) : Rat :=
  mn (LMr_q5 x0 x1) (LMr_q6 y0 y1)
noncomputable def LMr_q18 (x0 : Int) (x1 : Int) (y0 : Int) (y1 : Int) : Bool :=
  LMr_q16 x0 x1 && (Rat.num (LMr_q17 x0 x1 y0 y1) == Rat.num (LMr_q17 x0 x1 y0 y1) && ((↑(Rat.den (LMr_q17 x0 x1 y0 y1)) : Int) == (↑(Rat.den (LMr_q17 x0 x1 y0 y1)) : Int) && true))
noncomputable def LMr_q19 (x0 : Int) (x1 : Int) (y0 : Int) (y1 : Int) : Rat :=
  mx (LMr_q5 x0 x1) (LMr_q6 y0 y1)
noncomputable def LMr (x0 x1 y0 y1 : Int) : Tree SV :=
  .ite false (.ret (bv false))
  (.need ((0 : Int) ≤ (0 : Int) ∧ (0 : Int) < (2 : Int))
   (.need (0 < 2)
   (.need ((0 : Int) ≤ (1 : Int) ∧ (1 : Int) < (2 : Int))
   (.need (1 < 2)
   (.need (I64 x0 ∧ I64 x1)
   (.need ((0 : Int) ≤ (0 : Int) ∧ (0 : Int) < (2 : Int))
   (.need (0 < 2)
   (.need ((0 : Int) ≤ (1 : Int) ∧ (1 : Int) < (2 : Int))
   (.need (1 < 2)
   (.need (I64 x0 ∧ I64 x1)
   (.need (LMr_q2 x0 x1 = false → (0 : Int) ≤ (0 : Int) ∧ (0 : Int) < (2 : Int))
   (.need (LMr_q2 x0 x1 = false → 0 < 2)
   (.need (LMr_q2 x0 x1 = false → (0 : Int) ≤ (0 : Int) ∧ (0 : Int) < (2 : Int))
   (.need (LMr_q2 x0 x1 = false → 0 < 2)
   (.need (LMr_q2 x0 x1 = false → I64 x0 ∧ I64 y0)
   (.need (LMr_q2 x0 x1 = false → (0 : Int) ≤ (0 : Int) ∧ (0 : Int) < (2 : Int))
   (.need (LMr_q2 x0 x1 = false → 0 < 2)
   (.need (LMr_q2 x0 x1 = false → (0 : Int) ≤ (0 : Int) ∧ (0 : Int) < (2 : Int))
   (.need (LMr_q2 x0 x1 = false → 0 < 2)
   (.need (LMr_q2 x0 x1 = false → I64 x0 ∧ I64 y0)
   (.need (LMr_q4 x0 x1 y0 y1 = false → (0 : Int) ≤ (0 : Int) ∧ (0 : Int) < (2 : Int))
   (.need (LMr_q4 x0 x1 y0 y1 = false → 0 < 2)
   (.need (LMr_q4 x0 x1 y0 y1 = false → (0 : Int) ≤ (1 : Int) ∧ (1 : Int) < (2 : Int))
   (.need (LMr_q4 x0 x1 y0 y1 = false → 1 < 2)
   (.need (LMr_q4 x0 x1 y0 y1 = false → (0 : Int) ≤ (0 : Int) ∧ (0 : Int) < (2 : Int))
   (.need (LMr_q4 x0 x1 y0 y1 = false → 0 < 2)
   (.need (LMr_q4 x0 x1 y0 y1 = false → (0 : Int) ≤ (1 : Int) ∧ (1 : Int) < (2 : Int))
   (.need (LMr_q4 x0 x1 y0 y1 = false → 1 < 2)
   (.ite (LMr_q4 x0 x1 y0 y1 || !vB x0 x1 == vB x0 x1) (.ret (bv false))
   (.need ((0 : Int) ≤ (0 : Int) ∧ (0 : Int) < (2 : Int))
   (.need (0 < 2)
   (.need ((0 : Int) ≤ (1 : Int) ∧ (1 : Int) < (2 : Int))
   (.need (1 < 2)
   (.need (I64 x0 ∧ I64 x1)
   (.need ((0 : Int) ≤ (0 : Int) ∧ (0 : Int) < (2 : Int))
   (.need (0 < 2)
   (.need ((0 : Int) ≤ (1 : Int) ∧ (1 : Int) < (2 : Int))
   (.need (1 < 2)
   (.need (I64 y0 ∧ I64 y1)
   (.need (VF (mN x0 x1) (mD x0 x1) ∧ VF (mN y0 y1) (mD y0 y1))
   (.need (VF (mN x0 x1) (mD x0 x1) ∧ VF (mN y0 y1) (mD y0 y1))
   (.need (LMr_q8 x0 x1 y0 y1 = false → VF (mN x0 x1) (mD x0 x1) ∧ VF (mN y0 y1) (mD y0 y1))
   (.need (LMr_q8 x0 x1 y0 y1 = false → VF (mN x0 x1) (mD x0 x1) ∧ VF (mN y0 y1) (mD y0 y1))
   (.need (LMr_q10 x0 x1 y0 y1 = false → VF (mN x0 x1) (mD x0 x1) ∧ VF (mN y0 y1) (mD y0 y1))
   (.need (LMr_q10 x0 x1 y0 y1 = false → VF (mN x0 x1) (mD x0 x1) ∧ VF (mN y0 y1) (mD y0 y1))
   (.need (LMr_q12 x0 x1 y0 y1 = false → VF (mN x0 x1) (mD x0 x1) ∧ VF (mN y0 y1) (mD y0 y1))
   (.need (LMr_q12 x0 x1 y0 y1 = false → VF (mN x0 x1) (mD x0 x1) ∧ VF (mN y0 y1) (mD y0 y1))
   (.need (LMr_q13 x0 x1 y0 y1 = false → VF (mN x0 x1) (mD x0 x1) ∧ VF (mN y0 y1) (mD y0 y1))
   (.need (LMr_q13 x0 x1 y0 y1 = false → VF (mN x0 x1) (mD x0 x1) ∧ VF (mN y0 y1) (mD y0 y1))
   (.need (LMr_q14 x0 x1 y0 y1 = false → VF (mN x0 x1) (mD x0 x1))
   (.need (LMr_q14 x0 x1 y0 y1 = false → VF (mN x0 x1) (mD x0 x1))
   (.need (LMr_q15 x0 x1 y0 y1 = false → VF (mN y0 y1) (mD y0 y1))
   (.need (LMr_q15 x0 x1 y0 y1 = false → VF (mN y0 y1) (mD y0 y1))
   (.ite (LMr_q15 x0 x1 y0 y1 || -(-mN y0 y1 / mD y0 y1) != -(-mN y0 y1 / mD y0 y1)) (.ret (bv false))
   (.need ((true && vB (mN x0 x1) (mD x0 x1)) = true → VF (mN x0 x1) (mD x0 x1))
   (.need ((true && vB (mN x0 x1) (mD x0 x1)) = true → VF (mN x0 x1) (mD x0 x1))
   (.need (LMr_q16 x0 x1 = true → VF (mN x0 x1) (mD x0 x1) ∧ VF (mN y0 y1) (mD y0 y1))
   (.need (LMr_q16 x0 x1 = true → VF (mN x0 x1) (mD x0 x1) ∧ VF (mN y0 y1) (mD y0 y1))
   (.need (LMr_q18 x0 x1 y0 y1 = true → VF (mN x0 x1) (mD x0 x1) ∧ VF (mN y0 y1) (mD y0 y1))
   (.need (LMr_q18 x0 x1 y0 y1 = true → VF (mN x0 x1) (mD x0 x1) ∧ VF (mN y0 y1) (mD y0 y1))
   (.ret
   (bv
   (LMr_q18 x0 x1 y0 y1 &&
   (Rat.num (LMr_q19 x0 x1 y0 y1) == Rat.num (LMr_q19 x0 x1 y0 y1) &&
   ((↑(Rat.den (LMr_q19 x0 x1 y0 y1)) : Int) == (↑(Rat.den (LMr_q19 x0 x1 y0 y1)) : Int) &&
   true)))))))))))))))))))))))))))))))))))))))))))))))))))))))))))))))))

theorem LMr_eq (x0 x1 y0 y1 : Int) : TV' .nil 3 [.agg [iv x0, iv x1], .agg [iv y0, iv y1]] = LMr x0 x1 y0 y1 := by kernel_rfl


end Go.Proofs.YtmdbfhkineaheaaGreatDoor

namespace Go.Proofs.YtmdbfhkineaheaaGreatDoor
open Go.Sx
set_option maxRecDepth 100000

/-! ### FractionMatchesReference -/
theorem mk_N (n d : Int) : (mkN n d == if d = 0 then 0 else rN (qR n d)) = true := beq_self_eq_true _
theorem mk_D (n d : Int) : (mkD n d == if d = 0 then 0 else rD (qR n d)) = true := beq_self_eq_true _
theorem mk_E (n d : Int) : (mkE n d == if d = 0 then 3 else rE (qR n d)) = true := beq_self_eq_true _
theorem match_sat {x0 x1 y0 y1 : Int} (hx0 : I64 x0) (hx1 : I64 x1) (hy0 : I64 y0) (hy1 : I64 y1) :
    Sat Tryz.prog (TV' .nil 3 [.agg [iv x0, iv x1], .agg [iv y0, iv y1]]) (· = bv true) := by
  constructor
  rw [LMr_eq]; unfold LMr
  simp only [LMr_q1, LMr_q2, LMr_q3, LMr_q4, LMr_q5, LMr_q6, LMr_q7, LMr_q8, LMr_q9, LMr_q10, LMr_q11, LMr_q12, LMr_q13, LMr_q14, LMr_q15, LMr_q16, LMr_q17, LMr_q18, LMr_q19, mk_N, mk_D, mk_E, strEq_list, mN, mD]
  have hp := mdQ_fits x0 x1
  have hq := mdQ_fits y0 y1
  obtain ⟨p, ep⟩ : ∃ p, mdQ x0 x1 = p := ⟨_, rfl⟩
  obtain ⟨q, eq⟩ : ∃ p, mdQ y0 y1 = p := ⟨_, rfl⟩
  rw [ep] at hp
  rw [eq] at hq
  simp only [ep, eq]
  have vp := VF.of hp
  have vq := VF.of hq
  have bp : vB p.num p.den = true := vB_iff.2 vp
  have i0 : (I64 x0 ∧ I64 x1) = True := eq_true ⟨hx0, hx1⟩
  have i1 : (I64 y0 ∧ I64 y1) = True := eq_true ⟨hy0, hy1⟩
  have i2 : (I64 x0 ∧ I64 y0) = True := eq_true ⟨hx0, hy0⟩
  simp +decide only [sat_need, sat_ite, sat_ret, bv_inj, vp, vq, bp, i0, i1, i2, beq_self_eq_true, bne_self_eq_false, decide_true, Bool.and_true, Bool.true_and, Bool.not_true, Bool.or_false, Bool.false_or, Bool.or_true, Bool.true_or, Bool.and_false, Bool.false_and, true_and, and_true, false_imp_iff, true_imp_iff, reduceCtorEq, forall_const, and_self, Bool.not_false, false_and, and_false, not_true_eq_false, not_false_eq_true, imp_self, implies_true]

theorem okPair {n : Nat} {ds : List DV} (h : okT Tryz.prog (n + 3) 22 ds) : ∃ a b : Int, I64 a ∧ I64 b ∧ ds = [.x (.int .i64 a), .x (.int .i64 b)] := by
  obtain ⟨ks, e1, rfl, e3⟩ := okT_ints (c := 2) (by simp only [cntI, Tryz.underlying22, Tryz.underlying3]; rfl) h
  match ks, e1 with
  | [a, b], _ => exact ⟨a, b, e3 a (by simp), e3 b (by simp), rfl⟩
theorem fractionMatchesReference_ok : ∃ c : Ctr, CtrOK Tryz.prog 3 c ∧ ∀ ss, okArgs Tryz.prog 6 [22, 22] ss → (c ss).ev (bv true) := by
  refine law_ctr CV_ok DV_ok (by kernel_rfl) (by kernel_rfl) fun ss h => ?_
  obtain ⟨d1, _, rfl, h1, d2, _, rfl, h2, rfl⟩ := h
  obtain ⟨a1, b1, ha1, hb1, rfl⟩ := okPair h1
  obtain ⟨a2, b2, ha2, hb2, rfl⟩ := okPair h2
  have := match_sat ha1 hb1 ha2 hb2
  simp only [svT, Tryz.underlying22]
  exact ⟨200, .nil, this⟩

end Go.Proofs.YtmdbfhkineaheaaGreatDoor

/- A law's frame where variables are listed: what is listed, and the shape of the world, both are handed to the walk. -/
namespace Go
variable {H : Type} {enc : TypeId × Value → H}

theorem returnsInHanded_of_change_ands {a : Assume} {C : Checked} {os : Os} {f : FuncId} {fn : Func} {s : ChangeSpec} {conds : List PathCond} {apart fresh handsOn again : Bool} {X : World → Array Value → Prop}
    (hX : ∀ (w w' : World) (args : Array Value), w.heap = w'.heap → X w args → X w' args)
    (own : ownKnob C.prog.godebug = none) (started : os.Started) (noInit : C.prog.inits.idxOf? f = none) (hfn : C.prog.funcs[f]? = some fn)
    (witness : ∃ (w : World) (tape : Tape) (i : Input), w.os = os ∧ (w.forCall tape i).Shaped C.prog ∧ i.vars = [] ∧ Input.okWide C.prog (w.forCall tape i) .any w.heap.size f i ∧
      ((s.pre enc C.prog fn conds apart (w.forCall tape i).memory i.args ∧ X (w.forCall tape i).memory i.args) ∧ sizedMet enc C.prog fn (OpenSpec.ofChange s) apart (w.forCall tape i).memory i.args) ∧ a.holds C.prog (lone (Frame.enter C.prog f i.args .normal) [] (w.forCall tape i)))
    (contract : ∀ (W : World) (base : Nat) (args : Array Value) (ds gs : List (DataW H)) (before : List MemPlace),
      (∀ (j : Nat) t v, fn.params[j]? = some t → args[j]? = some v → Value.okWide C.prog W .any base t v) →
      DataW.Whole enc C.prog fn.params.toList s.vars apart W args.toList ds gs before →
      conds.all (PathCond.test C.prog ⟨fn.params.toList, ds, s.plain.varTypes C.prog, gs⟩) = true →
      (DataW.weightsEach C.prog (fn.params.toList ++ s.plain.varTypes C.prog) (ds ++ gs)).all (· ≤ reachBytes) = true → X W args → W.ShapedOpen C.prog →
      a.holds C.prog (lone (Frame.enter C.prog f args .normal) [] W) →
      Calls C.prog f args W fun e W' => ∃ v, e = .returned v ∧ s.post enc C.prog fn apart fresh handsOn again W args v W') :
    ReturnsInHanded a C os f .any (fun w args => (s.pre enc C.prog fn conds apart w args ∧ X w args) ∧ sizedMet enc C.prog fn (OpenSpec.ofChange s) apart w args) (s.post enc C.prog fn apart fresh handsOn again) := by
  refine returnsInHanded_of_calls own started noInit witness ?_
  intro w tape i _ hsh _ hok hpre hholds
  obtain ⟨_, _, _, fn', hfn', _, _, _, _, hval⟩ := hok
  have e : fn' = fn := Option.some.inj (hfn'.symm.trans hfn)
  subst e
  obtain ⟨⟨⟨ds, gs, before, hw, hc⟩, hx⟩, hz⟩ := hpre
  have hw' := DataW.Whole.of_heap (w' := w.forCall tape i) (by rfl) hw
  refine (contract (w.forCall tape i) w.heap.size i.args ds gs before hval hw' hc (hz.weights hw) (hX _ _ _ (by rfl) hx) hsh hholds).mono fun e W' ⟨v, he, hp⟩ => ?_
  subst he
  exact ChangeSpec.post_blind hp

end Go

namespace Go.Proofs.YtmdbfhkineaheaaGreatDoor
open Go.Sx
set_option maxRecDepth 100000

/-! ### What the row's list of variables gives -/

def laid5 : List (String × DataW Unit) := [("math/bits.deBruijn32tab", Rows.laid_math_bits_deBruijn32tab), ("math/bits.deBruijn64tab", Rows.laid_math_bits_deBruijn64tab), ("internal/strconv.uint64pow10", Rows.laid_internal_strconv_uint64pow10), ("strconv.ErrRange", Rows.laid_strconv_ErrRange), ("strconv.ErrSyntax", Rows.laid_strconv_ErrSyntax)]
theorem gPow : Tryz.prog.globalNamed "internal/strconv.uint64pow10" = some 2 := by kernel_rfl
theorem gSyn : Tryz.prog.globalNamed "strconv.ErrSyntax" = some 4 := by kernel_rfl
theorem gRng : Tryz.prog.globalNamed "strconv.ErrRange" = some 5 := by kernel_rfl
theorem plain5 : (laid5.all fun x => x.2.handleName?.isNone) = true := by kernel_rfl
theorem var_obj {w : World} {name : String} {g : Nat} {cs : Array Value} (hg : Tryz.prog.globalNamed name = some g) (h : w.var? Tryz.prog name = some cs) : ∃ e fr, w.heap[g]? = some (.cells cs e fr) := by
  unfold World.var? at h
  rw [hg] at h
  simp only [Option.bind_some] at h
  split at h
  · rename_i c e fr heq
    simp only [Option.some.injEq] at h; subst h
    exact ⟨e, fr, heq⟩
  · cases h
theorem typePow : (Tryz.prog.globals[2]?).map (·.type) = some 103 := by kernel_rfl
theorem typeSyn : (Tryz.prog.globals[4]?).map (·.type) = some 81 := by kernel_rfl
theorem typeRng : (Tryz.prog.globals[5]?).map (·.type) = some 81 := by kernel_rfl
theorem star : "*" ++ "errors.errorString" = "*errors.errorString" := by decide
theorem rowErr (u : TypeId) (h : Tryz.prog.typeName? 3 u = some "*errors.errorString") : u = 121 :=
  typeName_ptr_named (nm := "errors.errorString") (by rw [star]; kernel_rfl) (by kernel_rfl) (by decide) u (by rw [star]; exact h)

theorem glob_of {W : World} (h : laidMetH Tryz.prog laid5 W) (hs : W.ShapedOpen Tryz.prog) : GlobOK W (fun b => b < W.heap.size) := by
  rw [MakeChecks.laidMetH_plain _ _ _ plain5] at h
  have h2 : laidMet Tryz.prog [("internal/strconv.uint64pow10", Lib.tabData .u64 Lib.pow10Tab), ("strconv.ErrRange", Rows.laid_strconv_ErrRange), ("strconv.ErrSyntax", Rows.laid_strconv_ErrSyntax)] W := h.tail.tail
  have ht := Lib.tabIs_of_head gPow typePow Tryz.underlying103 Tryz.underlying44 (by kernel_rfl) (by kernel_rfl) h2
  obtain ⟨a0, s0, hv0, -, -, -⟩ := laid_sentinel h2.tail gRng typeRng Tryz.underlying81 rowErr Tryz.underlying121 Tryz.underlying123 rfl rfl Tryz.underlying9 (by kernel_rfl) (by kernel_rfl)
  obtain ⟨a1, s1, hv1, -, -, -⟩ := laid_sentinel h2.tail.tail gSyn typeSyn Tryz.underlying81 rowErr Tryz.underlying121 Tryz.underlying123 rfl rfl Tryz.underlying9 (by kernel_rfl) (by kernel_rfl)
  obtain ⟨m, hm⟩ := cell_of_shapedOpen_int (g := 3) (t := 3) (zero := #[.int .i64 0]) (k := .i64) hs (of_decide_eq_true (by kernel_rfl)) (by kernel_rfl) rfl (by kernel_rfl) (by kernel_rfl) Tryz.underlying3
  have k1 : okTab Lib.pow10Tab W.heap[2]? := by
    obtain ⟨e, fr, hh⟩ := var_obj gPow ht
    exact ⟨e, fr, hh⟩
  have k2 : okErr W.heap[4]? := by
    obtain ⟨e, fr, hh⟩ := var_obj gSyn hv1
    exact ⟨_, e, fr, _, _, hh, rfl⟩
  have k3 : okErr W.heap[5]? := by
    obtain ⟨e, fr, hh⟩ := var_obj gRng hv0
    exact ⟨_, e, fr, _, _, hh, rfl⟩
  have k4 : okInt W.heap[3]? := cell_okInt hm
  have lt : ∀ {g : Nat} {o : Obj}, W.heap[g]? = some o → g < W.heap.size := fun hh => (Array.getElem?_eq_some_iff.1 hh).1
  refine ⟨fun g n cell hg => (by cases hg), fun g Q hg => ?_⟩
  match g, hg with
  | 2, hg => cases hg; exact ⟨by obtain ⟨e, fr, hh⟩ := k1; exact lt hh, k1⟩
  | 3, hg => cases hg; exact ⟨by obtain ⟨c, e, fr, m, hh, _⟩ := k4; exact lt hh, k4⟩
  | 4, hg => cases hg; exact ⟨by obtain ⟨c, e, fr, t, p, hh, _⟩ := k2; exact lt hh, k2⟩
  | 5, hg => cases hg; exact ⟨by obtain ⟨c, e, fr, t, p, hh, _⟩ := k3; exact lt hh, k3⟩

end Go.Proofs.YtmdbfhkineaheaaGreatDoor

namespace Go.Proofs.YtmdbfhkineaheaaGreatDoor
open Go.ChangeShapes Go.WideShapes Go.ChangeAt Go.RowKit Go.Sx

theorem own : ownKnob Tryz.prog.godebug = none := by kernel_rfl
theorem laidOut : laidOutB Tryz.prog = true := by kernel_rfl
theorem door_met (os : Os) (args : Array Value) : laidMetH Tryz.prog laid5 ((World.doorLaid Tryz.prog 62 os).forCall (fun _ _ => 0) ⟨#[], args, []⟩).memory :=
  laidMetH_of_parts3 (fuel := 8) (laidMet_of_run' 8 (by kernel_rfl) (by kernel_rfl)) (by kernel_rfl) (by kernel_rfl)

set_option maxRecDepth 100000 in
theorem lifted (os : Os) (started : os.Started) (H : Type) (enc : TypeId × Value → H) :
    ReturnsInHanded {} Tryz.checked os 3 .any (fun w args => (Rows.fractionMatchesReferenceSpec.pre enc Tryz.prog Tryz.f3 Rows.fractionMatchesReferenceRow.domain false w args ∧ laidMetH Tryz.prog laid5 w) ∧ sizedMet enc Tryz.prog Tryz.f3 (OpenSpec.ofChange Rows.fractionMatchesReferenceSpec) false w args)
      (Rows.fractionMatchesReferenceSpec.post enc Tryz.prog Tryz.f3 false true false false) := by
  refine returnsInHanded_of_change_ands (C := Tryz.checked) (X := fun w _ => laidMetH Tryz.prog laid5 w) (fun _ _ _ hh h => h.of_heap hh) own started (by kernel_rfl) Tryz.func3
    (ChangeSpec.witness_shaped (enc := enc) (C := Tryz.checked) (os := os) (X := fun w _ => laidMetH Tryz.prog laid5 w) false (World.doorLaid Tryz.prog 62 os) #[.agg #[.int .i64 0, .int .i64 0], .agg #[.int .i64 0, .int .i64 0]] 8 rfl (World.shaped_of_RefB (by kernel_rfl) (by kernel_rfl)) (by kernel_rfl) (by kernel_rfl) (by kernel_rfl) (door_met os _)) ?_
  intro W base args ds gs before hval0 hW hcnd _ hL hsh _
  have hval : ∀ (j : Nat) t v, Tryz.f3.params[j]? = some t → args[j]? = some v → Value.okWide Tryz.prog W .any base t v := hval0
  have hW' := hW
  obtain ⟨p, q, hA0, hV, rfl, hfz, hnd⟩ := hW
  have hA : DataW.TrodAll enc Tryz.prog W 0 (fun _ => true) true Tryz.f3.params.toList args.toList ds p := hA0
  rw [Tryz.params3] at hA hval
  obtain ⟨rfl, rfl⟩ := trodVars_none hV
  obtain ⟨v0, vs0, d0, ds0, p0, q0, hargs, rfl, e0, h0, r0⟩ := trodAll_cons hA
  obtain ⟨v1, vs1, d1, ds1, p1, q1, e1_1, rfl, e2_1, h1, r1⟩ := trodAll_cons r0
  obtain ⟨e3, rfl, e4⟩ := trodAll_nil r1
  obtain ⟨c, hc, hev⟩ := fractionMatchesReference_ok
  have hlt := trodAll_lt hA
  obtain ⟨ss, o1, o2, o3⟩ := open_args (F := fun b => b < W.heap.size) (n := 6) (r := .any) (base := base) (by kernel_rfl) hA (fun j t v a b => hval j t v (by simpa using a) (by simpa using b)) (fun q hq => hlt q hq)
  refine (law_of hc (F := fun b => b < W.heap.size) (fun b hb => hb) (glob_of hL hsh) (ss := ss) ⟨by simpa using o2, fun i hi => by simpa [List.getD, Array.getD_eq_getD_getElem?] using o3 i hi⟩ (hev ss o1)).mono fun e W' ⟨he, bel⟩ => ?_
  subst he
  have hback := trodAll_below laidOut bel (by kernel_rfl) hA
  exact ⟨_, rfl, _, _, _, [], _, [], hW', trodAll_mk1 (shut_bool Tryz.underlying4 _), hback, rfl, bel.frame _, fun h => by cases h⟩

theorem over : Rows.fractionMatchesReferenceRow.holds Tryz.pinned (OpenSpec.ofChange Rows.fractionMatchesReferenceSpec) :=
  OpenClaim.holds_of_wide 3 Tryz.f3 rfl rfl rfl rfl rfl rfl rfl ⟨rfl, rfl, rfl, rfl, rfl⟩ rfl rfl rfl rfl rfl (by kernel_rfl) Tryz.func3 (by kernel_rfl)
    (of_decide_eq_true (by kernel_rfl)) (by unfold Func.isWrapper; first | (rw [if_pos (by decide +kernel)]; kernel_rfl) | (rw [if_neg (by decide +kernel)]; exact ⟨rfl, rfl⟩))
    (fun os started H enc _ => lifted os started H enc)

theorem fractionMatchesReference_holds : Rows.FractionMatchesReferenceCardSaid :=
  Claim7.holds_tied_plain_at .later [] [.data, .data, .data, .sentinel, .sentinel] true (true, "fc9cf3fd567768f394e0eded9139de916c2c94375b3b5d7f2896f77d0df72ad5") true
    over (fun _ h => by cases h) (by kernel_rfl) (fun _ h => by cases h) fractionMatchesReference_row_tie rfl ⟨rfl, rfl⟩ (by kernel_rfl) rfl
    (fun f fn hf hfn => by
      obtain rfl : f = 3 := Option.some.inj ((show Tryz.prog.funcNamed "wireloom/wireloomlaw02.FractionMatchesReference" = some 3 by kernel_rfl).symm.trans hf) |>.symm
      obtain rfl : fn = Tryz.f3 := (Option.some.inj (Tryz.func3.symm.trans hfn)).symm
      exact ⟨by kernel_rfl, fun j t ht => by
        rw [Tryz.params3] at ht
        have hm : t ∈ [22, 22] := by simpa using Array.mem_of_getElem? ht
        have hall : ([22, 22].all fun u => !Tryz.prog.wantsStandIn u) = true := by kernel_rfl
        exact (show Tryz.prog.wantsStandIn t = false by simpa using List.all_eq_true.1 hall t hm)⟩)
    (by kernel_rfl)
#print axioms fractionMatchesReference_holds
end Go.Proofs.YtmdbfhkineaheaaGreatDoor

