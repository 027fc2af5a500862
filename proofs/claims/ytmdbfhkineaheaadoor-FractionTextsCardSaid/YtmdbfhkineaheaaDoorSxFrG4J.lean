/- Part of a proof of the given statements of this seat (SxFrLc, SxFrLd, SxFrLe, SxFrLg, SxFrLi, SxFrLk, SxFrTa, SxFrTb, SxFrTc, SxFrTd, SxFrTe, SxFrTf, SxFrLh, SxFrLj, SxFrTg, SyLaw, SxFrGl, SxFrG4): no conditions beyond those typed here. -/
import Derived.Test.YtmdbfhkineaheaaDoorSz06
import Derived.Test.YtmdbfhkineaheaaDoorSz07
import Derived.HandedShaped
import Derived.Handed
import Derived.LaidMore
import Derived.LaidLaws
import Derived.Test.YtmdbfhkineaheaaDoorSz03
import Derived.Test.YtmdbfhkineaheaaDoorSz04
import Derived.Lib.LaidTab
import Derived.Stop.LaidErr
import Derived.Shelf.Vars
import Derived.MakeChecks
import Derived.Test.YtmdbfhkineaheaaDoorRows
import Derived.Test.YtmdbfhkineaheaaDoorChecked
import Derived.Test.YtmdbfhkineaheaaDoorCards
import Derived.Test.YtmdbfhkineaheaaDoorTie
import Derived.SevenTiedAt
set_option linter.unusedVariables false
set_option linter.unusedSimpArgs false
set_option linter.unusedSectionVars false

namespace Go.Proofs.YtmdbfhkineaheaaDoor
open Go.Sx
set_option maxRecDepth 100000

/-! ### FractionField -/

theorem VF.z : VF 0 1 := ⟨⟨by decide, by decide⟩, by decide, by decide⟩
theorem VF.o : VF 1 1 := ⟨⟨by decide, by decide⟩, by decide, by decide⟩
theorem okPair {n : Nat} {ds : List DV} (h : okT Tryd.prog (n + 3) 22 ds) : ∃ a b : Int, I64 a ∧ I64 b ∧ ds = [.x (.int .i64 a), .x (.int .i64 b)] := by
  obtain ⟨ks, e1, rfl, e3⟩ := okT_ints (c := 2) (by simp only [cntI, Tryd.underlying22, Tryd.underlying3]; rfl) h
  match ks, e1 with
  | [a, b], _ => exact ⟨a, b, e3 a (by simp), e3 b (by simp), rfl⟩

end Go.Proofs.YtmdbfhkineaheaaDoor

namespace Go.Proofs.YtmdbfhkineaheaaDoor
open Go.Sx
set_option maxRecDepth 100000

/-! ### FractionOrder -/

end Go.Proofs.YtmdbfhkineaheaaDoor

namespace Go.Proofs.YtmdbfhkineaheaaDoor
open Go.Sx
set_option maxRecDepth 100000

/-! ### FractionRounds -/

theorem VF.i {n : Int} (h : n.natAbs ≤ 4611686018427387904) : VF n 1 := ⟨⟨by omega, by simp⟩, h, by omega⟩
end Go.Proofs.YtmdbfhkineaheaaDoor

namespace Go.Proofs.YtmdbfhkineaheaaDoor
open Go.Sx
set_option maxRecDepth 100000

end Go.Proofs.YtmdbfhkineaheaaDoor

namespace Go.Proofs.YtmdbfhkineaheaaDoor
open Go.Sx
set_option maxRecDepth 100000

end Go.Proofs.YtmdbfhkineaheaaDoor

namespace Go.Proofs.YtmdbfhkineaheaaDoor
open Go.Sx
set_option maxRecDepth 100000

/-! ### FractionCanonical -/

end Go.Proofs.YtmdbfhkineaheaaDoor

namespace Go.Proofs.YtmdbfhkineaheaaDoor
open Go.Sx
set_option maxRecDepth 100000

/-! ### The reference's digits -/

noncomputable def cDig (m : Nat) : Ctr := fun ss => match ss with
  | [.d (.x (.int .i64 n))] => .need (0 < m ∧ 0 ≤ n ∧ n < 10 ^ m ∧ n ≤ 9223372036854775807) (.ret (strV (decF m n.toNat)))
  | _ => .fail
noncomputable def manG1 (m : Nat) : FuncId → Option Ctr := fun k => match k with
  | 59 => some (cDig m)
  | _ => none
noncomputable def CG1 (m : Nat) : Ctx := ctxN Tryd.prog (manG1 m) (fun _ => false) 200 .nil 6
noncomputable def DG1 (m : Nat) : Dr := fun _ => drawn Tryd.prog (CG1 m)
noncomputable def TG1 (m : Nat) (h : Hint) (k : Nat) (args : List SV) : Tree SV := fnT Tryd.prog (CG1 m) (DG1 m) 200 (fnOf Tryd.prog k) (bodyOf Tryd.prog k) args h
noncomputable def LDig (m : Nat) (n : Int) : Tree SV :=
  .ite (decide (n < (10 : Int)))
  (.need (((0 : Int) ≤ w64 (n + (1 : Int)) ∧ Int.toNat (w64 (n + (1 : Int))) ≤ 10) ∧ (0 : Int) ≤ n ∧ Int.toNat n ≤ Int.toNat (w64 (n + (1 : Int))))
   (.ret
   (SV.d
   (DV.x
   (.string
   (ByteArray.extract (strB [(48 : UInt8), (49 : UInt8), (50 : UInt8), (51 : UInt8), (52 : UInt8), (53 : UInt8), (54 : UInt8), (55 : UInt8), (56 : UInt8), (57 : UInt8)]) (Int.toNat n) (Int.toNat (w64 (n + (1 : Int))))))))))
  (.need ((10 : Int) ≠ (0 : Int))
   (.need (0 < m ∧ (0 : Int) ≤ w64 (Int.tdiv n (10 : Int)) ∧ w64 (Int.tdiv n (10 : Int)) < (10 : Int) ^ m ∧ w64 (Int.tdiv n (10 : Int)) ≤ (9223372036854775807 : Int))
   (.need ((10 : Int) ≠ (0 : Int))
   (.need (0 < m ∧ (0 : Int) ≤ Int.tmod n (10 : Int) ∧ Int.tmod n (10 : Int) < (10 : Int) ^ m ∧ Int.tmod n (10 : Int) ≤ (9223372036854775807 : Int))
   (.need (ByteArray.size (strB (decF m (Int.toNat (w64 (Int.tdiv n (10 : Int)))))) + ByteArray.size (strB (decF m (Int.toNat (Int.tmod n (10 : Int))))) ≤ 9223372036854775807)
   (.ret (SV.d (DV.x (.string (strB (decF m (Int.toNat (w64 (Int.tdiv n (10 : Int))))) ++ strB (decF m (Int.toNat (Int.tmod n (10 : Int))))))))))))))

theorem LDig_eq (m : Nat) (n : Int) : TG1 m .nil 59 [iv n] = LDig m n := by kernel_rfl


theorem decF_pos : ∀ (m u : Nat), u < 10 → 0 < m → decF m u = [UInt8.ofNat (48 + u)]
  | m + 1, u, h, _ => by unfold decF; rw [if_pos h]
theorem decF_len : ∀ (m u : Nat), (decF m u).length ≤ m + 1
  | 0, u => by unfold decF; simp
  | m + 1, u => by
    unfold decF; split
    · simp
    · rw [List.length_append, List.length_singleton]; have := decF_len m (u / 10); omega
theorem ten_all : ((List.range 10).all fun k => decide (ByteArray.extract (strB [48, 49, 50, 51, 52, 53, 54, 55, 56, 57]) k (k + 1) = strB [UInt8.ofNat (48 + k)])) = true := by decide +kernel
theorem manG1_ok {m : Nat} (h : CtrOK Tryd.prog 59 (cDig m)) (k : Nat) (c : Ctr) (hk : manG1 m k = some c) : CtrOK Tryd.prog k c ∧ goodF Tryd.prog k = true := by
  unfold manG1 at hk
  split at hk <;> first | (cases hk; done) | (cases hk)
  exact ⟨h, by kernel_rfl⟩
theorem dig_sat {m : Nat} {n : Int} (h0 : 0 ≤ n) (h1 : n < 10 ^ (m + 1)) (h2 : n ≤ 9223372036854775807) (hm : m ≤ 1000) : Sat Tryd.prog (TG1 m .nil 59 [iv n]) (· = strV (decF (m + 1) n.toNat)) := by
  constructor
  rw [LDig_eq]; unfold LDig
  simp only [sat_need, sat_ite, sat_ret, decide_eq_true_eq, decide_eq_false_iff_not]
  have e0 : Int.tdiv n 10 = n / 10 := Int.tdiv_eq_ediv_of_nonneg h0
  have e1 : Int.tmod n 10 = n % 10 := Int.tmod_eq_emod_of_nonneg h0
  rw [e0, e1, w64_of (n := n / 10) (by omega) (by omega)]
  refine ⟨fun h => ?_, fun h => ?_⟩
  · rw [w64_of (n := n + 1) (by omega) (by omega)]
    refine ⟨by omega, ?_⟩
    have h3 : (n + 1).toNat = n.toNat + 1 := by omega
    have h4 := List.all_eq_true.1 ten_all n.toNat (by rw [List.mem_range]; omega)
    rw [decide_eq_true_eq] at h4
    rw [h3, h4, decF_pos _ _ (by omega) (by omega)]; rfl
  · have hm0 : 0 < m := by
      rcases Nat.eq_zero_or_pos m with h3 | h3
      · subst h3; simp at h1; omega
      · exact h3
    have hp : (10 : Int) ≤ 10 ^ m := by
      obtain ⟨j, rfl⟩ : ∃ j, m = j + 1 := ⟨m - 1, by omega⟩
      have : (0 : Int) < 10 ^ j := Int.pow_pos (by omega)
      rw [Int.pow_succ]; omega
    have hq : n / 10 < 10 ^ m := by rw [Int.pow_succ] at h1; omega
    refine ⟨by omega, ⟨hm0, by omega, hq, by omega⟩, by omega, ⟨hm0, by omega, by omega, by omega⟩, ?_, ?_⟩
    · rw [strB_size, strB_size]
      have := decF_len m (n / 10).toNat
      have := decF_len m (n % 10).toNat
      omega
    · have h5 : decF (m + 1) n.toNat = decF m (n.toNat / 10) ++ [UInt8.ofNat (48 + n.toNat % 10)] := by
        conv => lhs; unfold decF
        rw [if_neg (by omega)]
      have h6 : (n / 10).toNat = n.toNat / 10 := by omega
      have h7 : (n % 10).toNat = n.toNat % 10 := by omega
      rw [h5, h6, h7, decF_pos m (n.toNat % 10) (by omega) hm0, strB_append]; rfl
theorem cDig_ok : ∀ m : Nat, m ≤ 1000 → CtrOK Tryd.prog 59 (cDig m)
  | 0, _ => by
    refine ctrOK_of CM_ok DM_ok (fn := fnOf Tryd.prog 59) (body := bodyOf Tryd.prog 59) (by kernel_rfl) (by kernel_rfl) fun ss r hr => ?_
    unfold cDig at hr
    split at hr
    · exact absurd hr.1.1 (by omega)
    · exact hr.elim
  | m + 1, hm => by
    have hC := ctxN_ok (fuel := 200) (h := .nil) (inl := fun _ => false) mixed (manG1_ok (cDig_ok m (by omega))) 6
    refine ctrOK_of hC (drawn_ok hC mixed) (fn := fnOf Tryd.prog 59) (body := bodyOf Tryd.prog 59) (by kernel_rfl) (by kernel_rfl) fun ss r hr => ?_
    unfold cDig at hr
    split at hr
    · obtain ⟨⟨_, h0, h1, h2⟩, rfl⟩ := hr
      exact ⟨200, .nil, (dig_sat h0 h1 h2 (by omega)).ok⟩
    · exact hr.elim
noncomputable def cDigs : Ctr := fun ss => match ss with
  | [.d (.x (.int .i64 n))] => .need (0 ≤ n ∧ n ≤ 9223372036854775807) (.ret (strV (decF 19 n.toNat)))
  | _ => .fail
theorem cDigs_ok : CtrOK Tryd.prog 59 cDigs := (cDig_ok 19 (by omega)).mono fun ss r h => by
  unfold cDigs at h
  split at h
  · obtain ⟨⟨h0, h1⟩, rfl⟩ := h
    exact ⟨⟨by omega, h0, by have : (10 : Int) ^ 19 = 10000000000000000000 := by decide
                             omega, h1⟩, rfl⟩
  · exact h.elim

noncomputable def manG2 : FuncId → Option Ctr := fun k => match k with
  | 59 => some cDigs
  | 45 => some cSize
  | _ => none
theorem manG2_ok (k : Nat) (c : Ctr) (h : manG2 k = some c) : CtrOK Tryd.prog k c ∧ goodF Tryd.prog k = true := by
  unfold manG2 at h
  split at h <;> first | (cases h; done) | (cases h)
  · exact ⟨cDigs_ok, by kernel_rfl⟩
  · exact ⟨cSize_ok, by kernel_rfl⟩
noncomputable def CG2 : Ctx := ctxN Tryd.prog manG2 (fun _ => false) 200 .nil 6
theorem CG2_ok : CtxOK Tryd.prog CG2 := ctxN_ok mixed manG2_ok 6
noncomputable def DG2 : Dr := fun _ => drawn Tryd.prog CG2
theorem DG2_ok : DrOK Tryd.prog CG2 DG2 := drawn_ok CG2_ok mixed
noncomputable def TG2 (h : Hint) (k : Nat) (args : List SV) : Tree SV := fnT Tryd.prog CG2 DG2 200 (fnOf Tryd.prog k) (bodyOf Tryd.prog k) args h
noncomputable def LTxR (a b : Int) : Tree SV :=
  .need ((-9223372036854775807 : Int) ≤ a ∧ a ≤ (9223372036854775807 : Int))
  (.need ((0 : Int) ≤ (↑(Int.natAbs a) : Int) ∧ (↑(Int.natAbs a) : Int) ≤ (9223372036854775807 : Int))
   (.ite (decide (a < (0 : Int)))
   (.need (1 + ByteArray.size (strB (decF 19 (Int.toNat (↑(Int.natAbs a) : Int)))) ≤ 9223372036854775807)
   (.ite (b == (1 : Int)) (.ret (SV.d (DV.x (.string (strB [(45 : UInt8)] ++ strB (decF 19 (Int.toNat (↑(Int.natAbs a) : Int))))))))
   (.need (ByteArray.size (strB [(45 : UInt8)] ++ strB (decF 19 (Int.toNat (↑(Int.natAbs a) : Int)))) + 1 ≤ 9223372036854775807)
   (.need ((0 : Int) ≤ b ∧ b ≤ (9223372036854775807 : Int))
   (.need (ByteArray.size (strB [(45 : UInt8)] ++ strB (decF 19 (Int.toNat (↑(Int.natAbs a) : Int))) ++ strB [(47 : UInt8)]) + ByteArray.size (strB (decF 19 (Int.toNat b))) ≤ 9223372036854775807)
   (.ret (SV.d (DV.x (.string (strB [(45 : UInt8)] ++ strB (decF 19 (Int.toNat (↑(Int.natAbs a) : Int))) ++ strB [(47 : UInt8)] ++ strB (decF 19 (Int.toNat b))))))))))))
   (.ite (b == (1 : Int)) (.ret (SV.d (DV.x (.string (strB (decF 19 (Int.toNat (↑(Int.natAbs a) : Int))))))))
   (.need (ByteArray.size (strB (decF 19 (Int.toNat (↑(Int.natAbs a) : Int)))) + 1 ≤ 9223372036854775807)
   (.need ((0 : Int) ≤ b ∧ b ≤ (9223372036854775807 : Int))
   (.need (ByteArray.size (strB (decF 19 (Int.toNat (↑(Int.natAbs a) : Int))) ++ strB [(47 : UInt8)]) + ByteArray.size (strB (decF 19 (Int.toNat b))) ≤ 9223372036854775807)
   (.ret (SV.d (DV.x (.string (strB (decF 19 (Int.toNat (↑(Int.natAbs a) : Int))) ++ strB [(47 : UInt8)] ++ strB (decF 19 (Int.toNat b)))))))))))))

theorem LTxR_eq (a b : Int) : TG2 .nil 38 [.agg [iv a, iv b]] = LTxR a b := by kernel_rfl


noncomputable def cTextR : Ctr := fun ss => match ss with
  | [.agg [.d (.x (.int .i64 a)), .d (.x (.int .i64 b))]] => .need (VF a b) (.ret (strV (txtL a b)))
  | _ => .fail
theorem textR_sat {a b : Int} (h : VF a b) : Sat Tryd.prog (TG2 .nil 38 [.agg [iv a, iv b]]) (· = strV (txtL a b)) := by
  constructor
  rw [LTxR_eq]; unfold LTxR
  have hn := h.n
  have hd := h.d
  have hp := h.low.pos
  have l1 := decF_len 19 a.natAbs
  have l2 := decF_len 19 b.toNat
  simp only [sat_need, sat_ite, sat_ret, decide_eq_true_eq, decide_eq_false_iff_not, beq_iff_eq, beq_eq_false_iff_ne, ne_eq, Int.toNat_natCast, strB_append, strB_size, List.length_append, List.length_singleton, List.cons_append, List.nil_append, List.length_cons, List.length_nil]
  have eb : itoaC b = decF 19 b.toNat := by unfold itoaC; rw [if_neg (by omega)]
  refine ⟨⟨by omega, by omega⟩, ⟨by omega, by omega⟩, fun ha => ⟨by omega, fun hb => ?_, fun hb => ⟨by omega, ⟨by omega, by omega⟩, by omega, ?_⟩⟩, fun ha => ⟨fun hb => ?_, fun hb => ⟨by omega, ⟨by omega, by omega⟩, by omega, ?_⟩⟩⟩
  all_goals unfold txtL
  all_goals rw [eb]
  · have ea : itoaC a = 45 :: decF 19 a.natAbs := by unfold itoaC; rw [if_pos ha]
    rw [if_pos hb, ea]; rfl
  · have ea : itoaC a = 45 :: decF 19 a.natAbs := by unfold itoaC; rw [if_pos ha]
    rw [if_neg hb, ea]; simp [strV]
  · have ea : itoaC a = decF 19 a.natAbs := by unfold itoaC; rw [if_neg ha]; congr 1; omega
    rw [if_pos hb, ea]; rfl
  · have ea : itoaC a = decF 19 a.natAbs := by unfold itoaC; rw [if_neg ha]; congr 1; omega
    rw [if_neg hb, ea]; simp [strV]
theorem cTextR_ok : CtrOK Tryd.prog 38 cTextR := by
  refine ctrOK_of CG2_ok DG2_ok (fn := fnOf Tryd.prog 38) (body := bodyOf Tryd.prog 38) (by kernel_rfl) (by kernel_rfl) fun ss r hr => ?_
  unfold cTextR at hr
  split at hr
  · obtain ⟨h, rfl⟩ := hr
    exact ⟨200, .nil, (textR_sat h).ok⟩
  · exact hr.elim

end Go.Proofs.YtmdbfhkineaheaaDoor

namespace Go.Proofs.YtmdbfhkineaheaaDoor
open Go.Sx
set_option maxRecDepth 100000

/-! ### The reference's Parse -/
noncomputable def manG3 : FuncId → Option Ctr := fun k => match k with
  | 28 => some cMst
  | 37 => some cValR
  | 38 => some cTextR
  | _ => none
theorem manG3_ok (k : Nat) (c : Ctr) (h : manG3 k = some c) : CtrOK Tryd.prog k c ∧ goodF Tryd.prog k = true := by
  unfold manG3 at h
  split at h <;> first | (cases h; done) | (cases h)
  · exact ⟨cMst_ok, by kernel_rfl⟩
  · exact ⟨cValR_ok, by kernel_rfl⟩
  · exact ⟨cTextR_ok, by kernel_rfl⟩
noncomputable def CG3 : Ctx := ctxN Tryd.prog manG3 (fun _ => false) 200 .nil 6
theorem CG3_ok : CtxOK Tryd.prog CG3 := ctxN_ok mixed manG3_ok 6
noncomputable def DG3 : Dr := fun _ => drawn Tryd.prog CG3
theorem DG3_ok : DrOK Tryd.prog CG3 DG3 := drawn_ok CG3_ok mixed
noncomputable def TG3 (h : Hint) (k : Nat) (args : List SV) : Tree SV := fnT Tryd.prog CG3 DG3 200 (fnOf Tryd.prog k) (bodyOf Tryd.prog k) args h
noncomputable def tRd (s : List UInt8) (i : Int) : Tree SV := TG3 .nil 36 [strV s, iv i]
noncomputable def LRd (s : List UInt8) (i : Int) : Tree SV :=
  .code (codeC (sub [] (tRd s i))) (codeS (sub [] (tRd s i))) (codeK (sub [] (tRd s i)))

theorem LRd_eq (s : List UInt8) (i : Int) : tRd s i = LRd s i := by kernel_rfl

noncomputable def invRd (s : List UInt8) (i n : Int) (k : Int) (a b : Int) : AS := ⟨[.ok (strV s), .ok (iv i), .unk, .unk, .ok (iv a), .ok (iv b), .ok (iv n), .ok (iv k)] ++ List.replicate 40 .unk, [], 0, .nil⟩
noncomputable def bodyRd : Code := loopN (bodyOf Tryd.prog 36) 0
noncomputable def BRd (s : List UInt8) (i n k : Int) : Tree (Ex × AS) :=
  .need ((decide (k < (19 : Int)) && decide (i < (↑(ByteArray.size (strB s)) : Int))) = true → (0 : Int) ≤ i ∧ i < (↑(ByteArray.size (strB s)) : Int)) (.need ((decide (k < (19 : Int)) && decide (i < (↑(ByteArray.size (strB s)) : Int)) && decide ((↑(UInt8.toNat (Array.getD (ByteArray.data (strB s)) (Int.toNat i) (0 : UInt8))) : Int) ≥ (48 : Int))) = true → (0 : Int) ≤ i ∧ i < (↑(ByteArray.size (strB s)) : Int)) (.ite (decide (k < (19 : Int)) && decide (i < (↑(ByteArray.size (strB s)) : Int)) && decide ((↑(UInt8.toNat (Array.getD (ByteArray.data (strB s)) (Int.toNat i) (0 : UInt8))) : Int) ≥ (48 : Int)) && decide ((↑(UInt8.toNat (Array.getD (ByteArray.data (strB s)) (Int.toNat i) (0 : UInt8))) : Int) ≤ (57 : Int))) (.need ((10 : Int) ≠ (0 : Int)) (.ite (decide (n > (461168601842738790 : Int))) (.ret (.ret, { tm := [.ok (SV.d (DV.x (.string (strB s)))), .ok (iv i), .unk, .unk, .ok (iv (0 : Int)), .ok (iv (↑(ByteArray.size (strB s)) : Int)), .ok (iv n), .ok (iv k), .unk, .unk, .unk, .unk, .unk, .unk, .unk, .unk, .unk, .unk, .unk, .unk, .unk, .unk, .unk, .unk, .unk, .unk, .unk, .unk, .unk, .unk, .unk, .unk, .unk, .unk, .unk, .unk, .unk, .unk, .unk, .unk, .unk, .unk, .unk, .unk, .unk, .unk, .unk, .unk], hp := [], next := 0, hint := .nil })) (.need ((0 : Int) ≤ i ∧ i < (↑(ByteArray.size (strB s)) : Int)) (.ret (.normal, { tm := [.ok (SV.d (DV.x (.string (strB s)))), .ok (iv (w64 (i + (1 : Int)))), .unk, .unk, .ok (iv (0 : Int)), .ok (iv (0 : Int)), .ok (iv (w64 (w64 ((10 : Int) * n) + w64 (IntKind.wrap .u8 ((↑(UInt8.toNat (Array.getD (ByteArray.data (strB s)) (Int.toNat i) (0 : UInt8))) : Int) - (48 : Int)))))), .ok (iv (w64 (k + (1 : Int)))), .unk, .unk, .unk, .unk, .unk, .unk, .unk, .unk, .unk, .unk, .unk, .unk, .unk, .unk, .unk, .unk, .unk, .unk, .unk, .unk, .unk, .unk, .unk, .unk, .unk, .unk, .unk, .unk, .unk, .unk, .unk, .unk, .unk, .unk, .unk, .unk, .unk, .unk, .unk, .unk], hp := [], next := 0, hint := .nil }))))) (.ret (.exit 0, { tm := [.ok (SV.d (DV.x (.string (strB s)))), .ok (iv i), .unk, .unk, .ok (iv (0 : Int)), .ok (iv (0 : Int)), .ok (iv n), .ok (iv k), .unk, .unk, .unk, .unk, .unk, .unk, .unk, .unk, .unk, .unk, .unk, .unk, .unk, .unk, .unk, .unk, .unk, .unk, .unk, .unk, .unk, .unk, .unk, .unk, .unk, .unk, .unk, .unk, .unk, .unk, .unk, .unk, .unk, .unk, .unk, .unk, .unk, .unk, .unk, .unk], hp := [], next := 0, hint := .nil }))))

theorem BRd_eq (s : List UInt8) (i n k : Int) : cutT 0 [] [0, 1, 4, 5, 6, 7] [] 0 .nil (exec Tryd.prog CG3 DG3 200 bodyRd (invRd s i n k 0 0)) = BRd s i n k := by kernel_rfl

noncomputable def KRd (s : List UInt8) (i j n k : Int) : Tree SV :=
  .ret (SV.tup [iv n, iv i])

theorem KRd_eq (s : List UInt8) (i j n k : Int) : codeK (sub [] (tRd s j)) (.exit 0) (invRd s i n k 0 0) = KRd s i j n k := by kernel_rfl

noncomputable def KRr (s : List UInt8) (i j n k a b : Int) : Tree SV :=
  .ret (SV.tup [iv a, iv b])

theorem KRr_eq (s : List UInt8) (i j n k a b : Int) : codeK (sub [] (tRd s j)) .ret (invRd s i n k a b) = KRr s i j n k a b := by kernel_rfl


/-- What the reference reads: a number, and where it ends. -/
def rdF (s : List UInt8) : Nat → Int → Nat → Int × Nat
  | 0, n, i => (n, i)
  | f + 1, n, i => if h : i < s.length then (if 48 ≤ s[i].toNat ∧ s[i].toNat ≤ 57 then (if n > 461168601842738790 then (0, s.length) else rdF s f (10 * n + (s[i].toNat - 48 : Nat)) (i + 1)) else (n, i)) else (n, i)
theorem strB_getD (s : List UInt8) (i : Nat) (h : i < s.length) : Array.getD (ByteArray.data (strB s)) i 0 = s[i] := by
  unfold strB
  simp [Array.getD, h]
theorem rd_sat {s : List UInt8} {i : Nat} (hs : s.length < 4294967281) (hi : i ≤ s.length) : Sat Tryd.prog (tRd s i) (· = .tup [iv (rdF s 19 0 i).1, iv (rdF s 19 0 i).2]) := by
  constructor
  rw [LRd_eq]; unfold LRd
  refine code_satS CG3_ok DG3_ok (n := 200) (n0 := 0) (nx := 0) (roots := []) (keep := [0, 1, 4, 5, 6, 7]) (drop := []) (h := .nil) (c := codeC (sub [] (tRd s i))) (st := codeS (sub [] (tRd s i))) (k := codeK (sub [] (tRd s i))) (body := bodyRd) (by kernel_rfl) (by kernel_rfl)
    (fun q t => ∃ (k j : Nat) (n : Int), q = 19 - k ∧ k ≤ 19 ∧ j ≤ s.length ∧ 0 ≤ n ∧ n ≤ 4611686018427387909 ∧ rdF s 19 0 i = rdF s (19 - k) n j ∧ t = invRd s j n k 0 0)
    (fun e t => (e = .exit 0 ∧ ∃ (k j : Nat) (n : Int), rdF s 19 0 i = (n, j) ∧ t = invRd s j n k 0 0) ∨ (e = .ret ∧ ∃ (k j : Nat) (n : Int), rdF s 19 0 i = (0, s.length) ∧ t = invRd s j n k 0 s.length))
    ⟨_, _, ⟨0, i, 0, rfl, by omega, hi, by omega, by omega, rfl, rfl⟩, ?_⟩ ?_ ?_
  · exact entA_sound (roots := []) (keep := [0, 1, 4, 5, 6, 7]) (drop := []) (nx := 0) (h := .nil) (by kernel_rfl)
  · rintro q t ⟨k, j, n, rfl, hk, hj, hn, hn2, e, rfl⟩
    refine Sat.of_eq (BRd_eq s j n k) ?_
    constructor
    unfold BRd
    rw [strB_size]
    have lt1 : ∀ {a b c : Bool}, (a && b && c) = true → (a && b) = true := by intro a b c h; simp_all
    refine ⟨fun h => ?_, fun h => ?_, fun h => ⟨by decide, fun h2 => ?_, fun h2 => ⟨?_, ?_⟩⟩, fun h => ?_⟩
    · simp only [Bool.and_eq_true, decide_eq_true_eq] at h; omega
    · simp only [Bool.and_eq_true, decide_eq_true_eq] at h; omega
    · simp only [Bool.and_eq_true, decide_eq_true_eq] at h
      simp only [decide_eq_true_eq] at h2
      obtain ⟨⟨⟨h3, h4⟩, h5⟩, h6⟩ := h
      have hl : j < s.length := by omega
      rw [Int.toNat_natCast, strB_getD s j hl] at h5 h6
      refine ⟨_, .inr ⟨rfl, k, j, n, ?_, rfl⟩, Gc.refl _ _⟩
      rw [e]
      obtain ⟨f, hf⟩ : ∃ f, 19 - k = f + 1 := ⟨18 - k, by omega⟩
      rw [hf]
      unfold rdF
      rw [dif_pos hl, if_pos ⟨by omega, by omega⟩, if_pos h2]
    · simp only [Bool.and_eq_true, decide_eq_true_eq] at h; omega
    · simp only [Bool.and_eq_true, decide_eq_true_eq] at h
      simp only [decide_eq_false_iff_not] at h2
      obtain ⟨⟨⟨h3, h4⟩, h5⟩, h6⟩ := h
      have hl : j < s.length := by omega
      rw [Int.toNat_natCast, strB_getD s j hl] at h5 h6 ⊢
      have hw : IntKind.wrap .u8 ((s[j].toNat : Int) - 48) = ((s[j].toNat - 48 : Nat) : Int) := by
        have : IntKind.wrap .u8 ((s[j].toNat : Int) - 48) = ((s[j].toNat : Int) - 48) % 256 := by unfold IntKind.wrap; rfl
        rw [this]; omega
      rw [hw, w64_of (n := 10 * n) (by omega) (by omega), w64_of (n := ((s[j].toNat - 48 : Nat) : Int)) (by omega) (by omega), w64_of (n := 10 * n + _) (by omega) (by omega), w64_of (n := (j : Int) + 1) (by omega) (by omega), w64_of (n := (k : Int) + 1) (by omega) (by omega)]
      refine ⟨19 - (k + 1), _, by omega, ⟨k + 1, j + 1, 10 * n + (s[j].toNat - 48 : Nat), rfl, by omega, by omega, by omega, by omega, ?_, rfl⟩, Gc.refl _ _⟩
      rw [e]
      obtain ⟨f, hf⟩ : ∃ f, 19 - k = f + 1 := ⟨18 - k, by omega⟩
      rw [hf]
      conv => lhs; unfold rdF
      rw [dif_pos hl, if_pos ⟨by omega, by omega⟩, if_neg h2]
      congr 1; omega
    · refine ⟨_, .inl ⟨rfl, k, j, n, ?_, rfl⟩, Gc.refl _ _⟩
      rw [e]
      rcases Nat.lt_or_ge k 19 with h3 | h3
      · obtain ⟨f, hf⟩ : ∃ f, 19 - k = f + 1 := ⟨18 - k, by omega⟩
        rw [hf]
        unfold rdF
        by_cases hl : j < s.length
        · rw [dif_pos hl]
          rw [if_neg]
          rintro ⟨h4, h5⟩
          rw [Int.toNat_natCast, strB_getD s j hl] at h
          have : (decide ((k : Int) < 19) && decide ((j : Int) < (s.length : Int)) && decide ((s[j].toNat : Int) ≥ 48) && decide ((s[j].toNat : Int) ≤ 57)) = true := by
            simp only [Bool.and_eq_true, decide_eq_true_eq]; omega
          rw [this] at h; cases h
        · rw [dif_neg hl]
      · have : 19 - k = 0 := by omega
        rw [this]; rfl
  · rintro e t (⟨rfl, k, j, n, e2, rfl⟩ | ⟨rfl, k, j, n, e2, rfl⟩)
    · refine Sat.of_eq (KRd_eq s j i n k) ⟨?_⟩
      rw [e2]; exact rfl
    · refine Sat.of_eq (KRr_eq s j i n k 0 s.length) ⟨?_⟩
      rw [e2]; exact rfl

end Go.Proofs.YtmdbfhkineaheaaDoor

namespace Go.Proofs.YtmdbfhkineaheaaDoor
open Go.Sx
set_option maxRecDepth 100000

noncomputable def cRd : Ctr := fun ss => match ss with
  | [.d (.x (.string s)), .d (.x (.int .i64 i))] => .need (s.size < 4294967281 ∧ 0 ≤ i ∧ i ≤ s.size) (.ret (.tup [iv (rdF s.data.toList 19 0 i.toNat).1, iv (rdF s.data.toList 19 0 i.toNat).2]))
  | _ => .fail
theorem cRd_ok : CtrOK Tryd.prog 36 cRd := by
  refine ctrOK_leS CG3_ok DG3_ok (by kernel_rfl) (by kernel_rfl) fun ss r h => ?_
  unfold cRd at h
  split at h
  · rename_i s i
    obtain ⟨⟨h1, h2, h3⟩, rfl⟩ := h
    have e : s.size = s.data.toList.length := (Array.length_toList).symm
    obtain ⟨j, rfl⟩ : ∃ j : Nat, i = j := ⟨i.toNat, by omega⟩
    refine ⟨[strV s.data.toList, iv j], 200, .nil, ?_, ?_⟩
    · unfold strV
      rw [strB_of]
      simp [leSVs, leSV, leD, iv]
    · rw [Int.toNat_natCast]; exact rd_sat (s := s.data.toList) (by omega) (by omega)
  · exact h.elim

noncomputable def manG4 : FuncId → Option Ctr := fun k => match k with
  | 36 => some cRd
  | k => manG3 k
theorem manG4_ok (k : Nat) (c : Ctr) (h : manG4 k = some c) : CtrOK Tryd.prog k c ∧ goodF Tryd.prog k = true := by
  unfold manG4 at h
  split at h
  · cases h; exact ⟨cRd_ok, by kernel_rfl⟩
  · exact manG3_ok _ _ h
noncomputable def CG4 : Ctx := ctxN Tryd.prog manG4 (fun _ => false) 200 .nil 6
theorem CG4_ok : CtxOK Tryd.prog CG4 := ctxN_ok mixed manG4_ok 6
noncomputable def DG4 : Dr := fun _ => drawn Tryd.prog CG4
theorem DG4_ok : DrOK Tryd.prog CG4 DG4 := drawn_ok CG4_ok mixed
noncomputable def TG4 (h : Hint) (k : Nat) (args : List SV) : Tree SV := fnT Tryd.prog CG4 DG4 200 (fnOf Tryd.prog k) (bodyOf Tryd.prog k) args h
noncomputable def LPi_q1 (s : List UInt8) : Bool :=
  decide ((↑(ByteArray.size (strB s)) : Int) > (0 : Int))
noncomputable def LPi_q2 (s : List UInt8) : Bool :=
  !vB (w64 ((0 : Int) - Prod.fst (rdF (Array.toList (ByteArray.data (strB s))) 19 (0 : Int) 1)))
   (Prod.fst (rdF (Array.toList (ByteArray.data (strB s))) 19 (0 : Int) (Int.toNat (w64 ((↑(Prod.snd (rdF (Array.toList (ByteArray.data (strB s))) 19 (0 : Int) 1)) : Int) + (1 : Int))))))
noncomputable def LPi_q3 (s : List UInt8) : Bool :=
  !vB (Prod.fst (rdF (Array.toList (ByteArray.data (strB s))) 19 (0 : Int) 1))
   (Prod.fst (rdF (Array.toList (ByteArray.data (strB s))) 19 (0 : Int) (Int.toNat (w64 ((↑(Prod.snd (rdF (Array.toList (ByteArray.data (strB s))) 19 (0 : Int) 1)) : Int) + (1 : Int))))))
noncomputable def LPi_q4 (s : List UInt8) : Bool :=
  !vB (w64 ((0 : Int) - Prod.fst (rdF (Array.toList (ByteArray.data (strB s))) 19 (0 : Int) 1))) (1 : Int)
noncomputable def LPi_q5 (s : List UInt8) : Bool :=
  !vB (Prod.fst (rdF (Array.toList (ByteArray.data (strB s))) 19 (0 : Int) 1)) (1 : Int)
noncomputable def LPi_q6 (s : List UInt8) : Bool :=
  !vB (w64 ((0 : Int) - Prod.fst (rdF (Array.toList (ByteArray.data (strB s))) 19 (0 : Int) 0)))
   (Prod.fst (rdF (Array.toList (ByteArray.data (strB s))) 19 (0 : Int) (Int.toNat (w64 ((↑(Prod.snd (rdF (Array.toList (ByteArray.data (strB s))) 19 (0 : Int) 0)) : Int) + (1 : Int))))))
noncomputable def LPi_q7 (s : List UInt8) : Bool :=
  !vB (Prod.fst (rdF (Array.toList (ByteArray.data (strB s))) 19 (0 : Int) 0))
   (Prod.fst (rdF (Array.toList (ByteArray.data (strB s))) 19 (0 : Int) (Int.toNat (w64 ((↑(Prod.snd (rdF (Array.toList (ByteArray.data (strB s))) 19 (0 : Int) 0)) : Int) + (1 : Int))))))
noncomputable def LPi_q8 (s : List UInt8) : Bool :=
  !vB (w64 ((0 : Int) - Prod.fst (rdF (Array.toList (ByteArray.data (strB s))) 19 (0 : Int) 0))) (1 : Int)
noncomputable def LPi_q9 (s : List UInt8) : Bool :=
  !vB (Prod.fst (rdF (Array.toList (ByteArray.data (strB s))) 19 (0 : Int) 0)) (1 : Int)
noncomputable def LPi (s : List UInt8) : Tree SV :=
  .need (LPi_q1 s = true → (0 : Int) ≤ (0 : Int) ∧ (0 : Int) < (↑(ByteArray.size (strB s)) : Int)) (.ite (LPi_q1 s && (↑(UInt8.toNat (Array.getD (ByteArray.data (strB s)) 0 (0 : UInt8))) : Int) == (45 : Int)) (.need (ByteArray.size (strB s) < 4294967281 ∧ (0 : Int) ≤ (1 : Int) ∧ (1 : Int) ≤ (↑(ByteArray.size (strB s)) : Int)) (.ite (decide ((↑(Prod.snd (rdF (Array.toList (ByteArray.data (strB s))) 19 (0 : Int) 1)) : Int) < (↑(ByteArray.size (strB s)) : Int))) (.need (ByteArray.size (strB s) < 4294967281 ∧ (0 : Int) ≤ w64 ((↑(Prod.snd (rdF (Array.toList (ByteArray.data (strB s))) 19 (0 : Int) 1)) : Int) + (1 : Int)) ∧ w64 ((↑(Prod.snd (rdF (Array.toList (ByteArray.data (strB s))) 19 (0 : Int) 1)) : Int) + (1 : Int)) ≤ (↑(ByteArray.size (strB s)) : Int)) (.ite true (.need (LPi_q2 s = false → VF (w64 ((0 : Int) - Prod.fst (rdF (Array.toList (ByteArray.data (strB s))) 19 (0 : Int) 1))) (Prod.fst (rdF (Array.toList (ByteArray.data (strB s))) 19 (0 : Int) (Int.toNat (w64 ((↑(Prod.snd (rdF (Array.toList (ByteArray.data (strB s))) 19 (0 : Int) 1)) : Int) + (1 : Int))))))) (.ite (LPi_q2 s || !strEq (strB (txtL (w64 ((0 : Int) - Prod.fst (rdF (Array.toList (ByteArray.data (strB s))) 19 (0 : Int) 1))) (Prod.fst (rdF (Array.toList (ByteArray.data (strB s))) 19 (0 : Int) (Int.toNat (w64 ((↑(Prod.snd (rdF (Array.toList (ByteArray.data (strB s))) 19 (0 : Int) 1)) : Int) + (1 : Int)))))))) (strB s)) (.ret (SV.agg [iv (0 : Int), iv (0 : Int), iv (5 : Int)])) (.ret (SV.agg [iv (w64 ((0 : Int) - Prod.fst (rdF (Array.toList (ByteArray.data (strB s))) 19 (0 : Int) 1))), iv (Prod.fst (rdF (Array.toList (ByteArray.data (strB s))) 19 (0 : Int) (Int.toNat (w64 ((↑(Prod.snd (rdF (Array.toList (ByteArray.data (strB s))) 19 (0 : Int) 1)) : Int) + (1 : Int)))))), iv (0 : Int)])))) (.need (LPi_q3 s = false → VF (Prod.fst (rdF (Array.toList (ByteArray.data (strB s))) 19 (0 : Int) 1)) (Prod.fst (rdF (Array.toList (ByteArray.data (strB s))) 19 (0 : Int) (Int.toNat (w64 ((↑(Prod.snd (rdF (Array.toList (ByteArray.data (strB s))) 19 (0 : Int) 1)) : Int) + (1 : Int))))))) (.ite (LPi_q3 s || !strEq (strB (txtL (Prod.fst (rdF (Array.toList (ByteArray.data (strB s))) 19 (0 : Int) 1)) (Prod.fst (rdF (Array.toList (ByteArray.data (strB s))) 19 (0 : Int) (Int.toNat (w64 ((↑(Prod.snd (rdF (Array.toList (ByteArray.data (strB s))) 19 (0 : Int) 1)) : Int) + (1 : Int)))))))) (strB s)) (.ret (SV.agg [iv (0 : Int), iv (0 : Int), iv (5 : Int)])) (.ret (SV.agg [iv (Prod.fst (rdF (Array.toList (ByteArray.data (strB s))) 19 (0 : Int) 1)), iv (Prod.fst (rdF (Array.toList (ByteArray.data (strB s))) 19 (0 : Int) (Int.toNat (w64 ((↑(Prod.snd (rdF (Array.toList (ByteArray.data (strB s))) 19 (0 : Int) 1)) : Int) + (1 : Int)))))), iv (0 : Int)])))))) (.ite true (.need (LPi_q4 s = false → VF (w64 ((0 : Int) - Prod.fst (rdF (Array.toList (ByteArray.data (strB s))) 19 (0 : Int) 1))) (1 : Int)) (.ite (LPi_q4 s || !strEq (strB (txtL (w64 ((0 : Int) - Prod.fst (rdF (Array.toList (ByteArray.data (strB s))) 19 (0 : Int) 1))) (1 : Int))) (strB s)) (.ret (SV.agg [iv (0 : Int), iv (0 : Int), iv (5 : Int)])) (.ret (SV.agg [iv (w64 ((0 : Int) - Prod.fst (rdF (Array.toList (ByteArray.data (strB s))) 19 (0 : Int) 1))), iv (1 : Int), iv (0 : Int)])))) (.need (LPi_q5 s = false → VF (Prod.fst (rdF (Array.toList (ByteArray.data (strB s))) 19 (0 : Int) 1)) (1 : Int)) (.ite (LPi_q5 s || !strEq (strB (txtL (Prod.fst (rdF (Array.toList (ByteArray.data (strB s))) 19 (0 : Int) 1)) (1 : Int))) (strB s)) (.ret (SV.agg [iv (0 : Int), iv (0 : Int), iv (5 : Int)])) (.ret (SV.agg [iv (Prod.fst (rdF (Array.toList (ByteArray.data (strB s))) 19 (0 : Int) 1)), iv (1 : Int), iv (0 : Int)]))))))) (.need (ByteArray.size (strB s) < 4294967281 ∧ (0 : Int) ≤ (0 : Int) ∧ (0 : Int) ≤ (↑(ByteArray.size (strB s)) : Int)) (.ite (decide ((↑(Prod.snd (rdF (Array.toList (ByteArray.data (strB s))) 19 (0 : Int) 0)) : Int) < (↑(ByteArray.size (strB s)) : Int))) (.need (ByteArray.size (strB s) < 4294967281 ∧ (0 : Int) ≤ w64 ((↑(Prod.snd (rdF (Array.toList (ByteArray.data (strB s))) 19 (0 : Int) 0)) : Int) + (1 : Int)) ∧ w64 ((↑(Prod.snd (rdF (Array.toList (ByteArray.data (strB s))) 19 (0 : Int) 0)) : Int) + (1 : Int)) ≤ (↑(ByteArray.size (strB s)) : Int)) (.ite false (.need (LPi_q6 s = false → VF (w64 ((0 : Int) - Prod.fst (rdF (Array.toList (ByteArray.data (strB s))) 19 (0 : Int) 0))) (Prod.fst (rdF (Array.toList (ByteArray.data (strB s))) 19 (0 : Int) (Int.toNat (w64 ((↑(Prod.snd (rdF (Array.toList (ByteArray.data (strB s))) 19 (0 : Int) 0)) : Int) + (1 : Int))))))) (.ite (LPi_q6 s || !strEq (strB (txtL (w64 ((0 : Int) - Prod.fst (rdF (Array.toList (ByteArray.data (strB s))) 19 (0 : Int) 0))) (Prod.fst (rdF (Array.toList (ByteArray.data (strB s))) 19 (0 : Int) (Int.toNat (w64 ((↑(Prod.snd (rdF (Array.toList (ByteArray.data (strB s))) 19 (0 : Int) 0)) : Int) + (1 : Int)))))))) (strB s)) (.ret (SV.agg [iv (0 : Int), iv (0 : Int), iv (5 : Int)])) (.ret (SV.agg [iv (w64 ((0 : Int) - Prod.fst (rdF (Array.toList (ByteArray.data (strB s))) 19 (0 : Int) 0))), iv (Prod.fst (rdF (Array.toList (ByteArray.data (strB s))) 19 (0 : Int) (Int.toNat (w64 ((↑(Prod.snd (rdF (Array.toList (ByteArray.data (strB s))) 19 (0 : Int) 0)) : Int) + (1 : Int)))))), iv (0 : Int)])))) (.need (LPi_q7 s = false → VF (Prod.fst (rdF (Array.toList (ByteArray.data (strB s))) 19 (0 : Int) 0)) (Prod.fst (rdF (Array.toList (ByteArray.data (strB s))) 19 (0 : Int) (Int.toNat (w64 ((↑(Prod.snd (rdF (Array.toList (ByteArray.data (strB s))) 19 (0 : Int) 0)) : Int) + (1 : Int))))))) (.ite (LPi_q7 s || !strEq (strB (txtL (Prod.fst (rdF (Array.toList (ByteArray.data (strB s))) 19 (0 : Int) 0)) (Prod.fst (rdF (Array.toList (ByteArray.data (strB s))) 19 (0 : Int) (Int.toNat (w64 ((↑(Prod.snd (rdF (Array.toList (ByteArray.data (strB s))) 19 (0 : Int) 0)) : Int) + (1 : Int)))))))) (strB s)) (.ret (SV.agg [iv (0 : Int), iv (0 : Int), iv (5 : Int)])) (.ret (SV.agg [iv (Prod.fst (rdF (Array.toList (ByteArray.data (strB s))) 19 (0 : Int) 0)), iv (Prod.fst (rdF (Array.toList (ByteArray.data (strB s))) 19 (0 : Int) (Int.toNat (w64 ((↑(Prod.snd (rdF (Array.toList (ByteArray.data (strB s))) 19 (0 : Int) 0)) : Int) + (1 : Int)))))), iv (0 : Int)])))))) (.ite false (.need (LPi_q8 s = false → VF (w64 ((0 : Int) - Prod.fst (rdF (Array.toList (ByteArray.data (strB s))) 19 (0 : Int) 0))) (1 : Int)) (.ite (LPi_q8 s || !strEq (strB (txtL (w64 ((0 : Int) - Prod.fst (rdF (Array.toList (ByteArray.data (strB s))) 19 (0 : Int) 0))) (1 : Int))) (strB s)) (.ret (SV.agg [iv (0 : Int), iv (0 : Int), iv (5 : Int)])) (.ret (SV.agg [iv (w64 ((0 : Int) - Prod.fst (rdF (Array.toList (ByteArray.data (strB s))) 19 (0 : Int) 0))), iv (1 : Int), iv (0 : Int)])))) (.need (LPi_q9 s = false → VF (Prod.fst (rdF (Array.toList (ByteArray.data (strB s))) 19 (0 : Int) 0)) (1 : Int)) (.ite (LPi_q9 s || !strEq (strB (txtL (Prod.fst (rdF (Array.toList (ByteArray.data (strB s))) 19 (0 : Int) 0)) (1 : Int))) (strB s)) (.ret (SV.agg [iv (0 : Int), iv (0 : Int), iv (5 : Int)])) (.ret (SV.agg [iv (Prod.fst (rdF (Array.toList (ByteArray.data (strB s))) 19 (0 : Int) 0)), iv (1 : Int), iv (0 : Int)]))))))))

theorem LPi_eq (s : List UInt8) : TG4 .nil 20 [strV s] = LPi s := by kernel_rfl

noncomputable def LEd_q1 (a : Int) (b : Int) (c : Int) (i : Nat) (j : Nat) : DV :=
  dsAt ((fun x => DV.x (.int .u8 (List.getD ((fun x => a :: x) ((fun x => b :: x) ((fun x => c :: x) []))) (Int.toNat (2 : Int)) (0 : Int))) :: x) []) ((0 : Nat) + ((0 : Nat) + i) * (1 : Nat) + j)
noncomputable def LEd_q2 (c : Int) (i : Nat) (j : Nat) : DV :=
  dsAt [DV.x (.int .u8 c)] (0 + (0 + i) * 1 + j)
noncomputable def LEd (s : List UInt8) (a b c : Int) : Tree SV :=
  .need ((0 : Int) ≤ (1 : Int) ∧ (1 : Int) < (3 : Int))
  (.need (1 < 3)
   (.need (w64 ((↑(ByteArray.size (strB s)) : Int) + (1 : Int)) ≠ (0 : Int))
   (.need ((0 : Int) ≤ (2 : Int) ∧ (2 : Int) < (3 : Int))
   (.need (2 < 3)
   (.need (1 ≤ List.length [SV.d (DV.x (.int .u8 c))])
   (.need (∀ (i : Nat), i < (1 : Nat) → isU8 (LEd_q1 a b c i (0 : Nat)) = true)
   (.need ((0 : Int) ≤ (0 : Int) ∧ (0 : Int) < (3 : Int))
   (.need (0 < 3)
   (.need ((3 : Int) ≠ (0 : Int))
   (.ite (Int.tmod a (3 : Int) == (0 : Int) || Int.tmod (w64 b) (w64 ((↑(ByteArray.size (strB s)) : Int) + (1 : Int))) == (↑(ByteArray.size (strB s)) : Int))
   (.need (((0 : Int) ≤ Int.tmod (w64 b) (w64 ((↑(ByteArray.size (strB s)) : Int) + (1 : Int))) ∧ Int.toNat (Int.tmod (w64 b) (w64 ((↑(ByteArray.size (strB s)) : Int) + (1 : Int)))) ≤ ByteArray.size (strB s)) ∧ True)
   (.need
   (ByteArray.size (ByteArray.extract (strB s) 0 (Int.toNat (Int.tmod (w64 b) (w64 ((↑(ByteArray.size (strB s)) : Int) + (1 : Int)))))) + ByteArray.size (strOf 1 (LEd_q2 c)) ≤
   9223372036854775807)
   (.need
   (True ∧ (0 : Int) ≤ Int.tmod (w64 b) (w64 ((↑(ByteArray.size (strB s)) : Int) + (1 : Int))) ∧ Int.toNat (Int.tmod (w64 b) (w64 ((↑(ByteArray.size (strB s)) : Int) + (1 : Int)))) ≤ ByteArray.size (strB s))
   (.need
   (ByteArray.size (ByteArray.extract (strB s) 0 (Int.toNat (Int.tmod (w64 b) (w64 ((↑(ByteArray.size (strB s)) : Int) + (1 : Int))))) ++ strOf 1 (LEd_q2 c)) +
   ByteArray.size (ByteArray.extract (strB s) (Int.toNat (Int.tmod (w64 b) (w64 ((↑(ByteArray.size (strB s)) : Int) + (1 : Int))))) (ByteArray.size (strB s))) ≤
   9223372036854775807)
   (.ret
   (SV.d
   (DV.x
   (.string
   (ByteArray.extract (strB s) 0 (Int.toNat (Int.tmod (w64 b) (w64 ((↑(ByteArray.size (strB s)) : Int) + (1 : Int))))) ++ strOf 1 (LEd_q2 c) ++
   ByteArray.extract (strB s) (Int.toNat (Int.tmod (w64 b) (w64 ((↑(ByteArray.size (strB s)) : Int) + (1 : Int))))) (ByteArray.size (strB s)))))))))))
   (.need ((0 : Int) ≤ (0 : Int) ∧ (0 : Int) < (3 : Int))
   (.need (0 < 3)
   (.need ((3 : Int) ≠ (0 : Int))
   (.ite (Int.tmod a (3 : Int) == (1 : Int))
   (.need
   (((0 : Int) ≤ Int.tmod (w64 b) (w64 ((↑(ByteArray.size (strB s)) : Int) + (1 : Int))) ∧ Int.toNat (Int.tmod (w64 b) (w64 ((↑(ByteArray.size (strB s)) : Int) + (1 : Int)))) ≤ ByteArray.size (strB s)) ∧ True)
   (.need
   (ByteArray.size (ByteArray.extract (strB s) 0 (Int.toNat (Int.tmod (w64 b) (w64 ((↑(ByteArray.size (strB s)) : Int) + (1 : Int)))))) + ByteArray.size (strOf 1 (LEd_q2 c)) ≤
   9223372036854775807)
   (.need
   (True ∧
   (0 : Int) ≤ w64 (Int.tmod (w64 b) (w64 ((↑(ByteArray.size (strB s)) : Int) + (1 : Int))) + (1 : Int)) ∧
   Int.toNat (w64 (Int.tmod (w64 b) (w64 ((↑(ByteArray.size (strB s)) : Int) + (1 : Int))) + (1 : Int))) ≤ ByteArray.size (strB s))
   (.need
   (ByteArray.size (ByteArray.extract (strB s) 0 (Int.toNat (Int.tmod (w64 b) (w64 ((↑(ByteArray.size (strB s)) : Int) + (1 : Int))))) ++ strOf 1 (LEd_q2 c)) +
   ByteArray.size (ByteArray.extract (strB s) (Int.toNat (w64 (Int.tmod (w64 b) (w64 ((↑(ByteArray.size (strB s)) : Int) + (1 : Int))) + (1 : Int)))) (ByteArray.size (strB s))) ≤
   9223372036854775807)
   (.ret
   (SV.d
   (DV.x
   (.string
   (ByteArray.extract (strB s) 0 (Int.toNat (Int.tmod (w64 b) (w64 ((↑(ByteArray.size (strB s)) : Int) + (1 : Int))))) ++ strOf 1 (LEd_q2 c) ++
   ByteArray.extract (strB s) (Int.toNat (w64 (Int.tmod (w64 b) (w64 ((↑(ByteArray.size (strB s)) : Int) + (1 : Int))) + (1 : Int)))) (ByteArray.size (strB s)))))))))))
   (.need
   (((0 : Int) ≤ Int.tmod (w64 b) (w64 ((↑(ByteArray.size (strB s)) : Int) + (1 : Int))) ∧ Int.toNat (Int.tmod (w64 b) (w64 ((↑(ByteArray.size (strB s)) : Int) + (1 : Int)))) ≤ ByteArray.size (strB s)) ∧ True)
   (.need
   (True ∧
   (0 : Int) ≤ w64 (Int.tmod (w64 b) (w64 ((↑(ByteArray.size (strB s)) : Int) + (1 : Int))) + (1 : Int)) ∧
   Int.toNat (w64 (Int.tmod (w64 b) (w64 ((↑(ByteArray.size (strB s)) : Int) + (1 : Int))) + (1 : Int))) ≤ ByteArray.size (strB s))
   (.need
   (ByteArray.size (ByteArray.extract (strB s) 0 (Int.toNat (Int.tmod (w64 b) (w64 ((↑(ByteArray.size (strB s)) : Int) + (1 : Int)))))) +
   ByteArray.size (ByteArray.extract (strB s) (Int.toNat (w64 (Int.tmod (w64 b) (w64 ((↑(ByteArray.size (strB s)) : Int) + (1 : Int))) + (1 : Int)))) (ByteArray.size (strB s))) ≤
   9223372036854775807)
   (.ret
   (SV.d
   (DV.x
   (.string
   (ByteArray.extract (strB s) 0 (Int.toNat (Int.tmod (w64 b) (w64 ((↑(ByteArray.size (strB s)) : Int) + (1 : Int))))) ++
   ByteArray.extract (strB s) (Int.toNat (w64 (Int.tmod (w64 b) (w64 ((↑(ByteArray.size (strB s)) : Int) + (1 : Int))) + (1 : Int)))) (ByteArray.size (strB s))))))))))))))))))))))))

theorem LEd_eq (s : List UInt8) (a b c : Int) : TG4 .nil 19 [strV s, .agg [.d (.x (.int .u8 a)), .d (.x (.int .u8 b)), .d (.x (.int .u8 c))]] = LEd s a b c := by kernel_rfl


end Go.Proofs.YtmdbfhkineaheaaDoor

namespace Go.Proofs.YtmdbfhkineaheaaDoor
open Go.Sx
set_option maxRecDepth 100000

theorem rdF_bd (s : List UInt8) : ∀ (f : Nat) (n : Int) (i : Nat), 0 ≤ n → n ≤ 4611686018427387909 → i ≤ s.length → 0 ≤ (rdF s f n i).1 ∧ (rdF s f n i).1 ≤ 4611686018427387909 ∧ (rdF s f n i).2 ≤ s.length
  | 0, n, i, h1, h2, h3 => ⟨h1, h2, h3⟩
  | f + 1, n, i, h1, h2, h3 => by
    unfold rdF
    split
    · rename_i hl
      split
      · rename_i hd
        split
        · exact ⟨Int.le_refl _, (by decide : (0 : Int) ≤ 4611686018427387909), Nat.le_refl _⟩
        · exact rdF_bd s f _ _ (by omega) (by omega) (by omega)
      · exact ⟨h1, h2, h3⟩
    · exact ⟨h1, h2, h3⟩
def piB : List UInt8 → Bool
  | [] => false
  | x :: _ => x == 45
def piA (s : List UInt8) : Int × Nat := rdF s 19 0 (if piB s = true then 1 else 0)
def piN (s : List UInt8) : Int := if piB s = true then -(piA s).1 else (piA s).1
def piD (s : List UInt8) : Int := if (piA s).2 < s.length then (rdF s 19 0 ((piA s).2 + 1)).1 else 1
noncomputable def piOK (s : List UInt8) : Bool := txOK (piN s) (piD s) s
theorem pi_leaf (x y : Int) (s : List UInt8) : Tree.sat Tryd.prog (.need ((!vB x y) = false → VF x y) (.ite (!vB x y || !strEq (strB (txtL x y)) (strB s)) (.ret (SV.agg [iv (0 : Int), iv (0 : Int), iv (5 : Int)])) (.ret (SV.agg [iv x, iv y, iv (0 : Int)]))))
    (· = .agg [iv (if txOK x y s = true then x else 0), iv (if txOK x y s = true then y else 0), iv (if txOK x y s = true then 0 else 5)]) := by
  rw [strEq_list]
  refine ⟨fun h => vf_of (by simpa using h), fun h => ?_, fun h => ?_⟩
  · have : txOK x y s = false := by
      unfold txOK
      cases h1 : vB x y <;> simp_all
    rw [this]; exact rfl
  · have : txOK x y s = true := by
      unfold txOK
      cases h1 : vB x y <;> simp_all
    rw [this]; exact rfl
theorem piB_eq (s : List UInt8) : (decide ((s.length : Int) > 0) && ((UInt8.toNat (Array.getD (ByteArray.data (strB s)) 0 0) : Nat) : Int) == 45) = piB s := by
  match s with
  | [] => rfl
  | x :: t =>
    rw [strB_getD _ 0 (by simp)]
    have e1 : decide (((x :: t).length : Int) > 0) = true := by simp
    rw [e1, Bool.true_and]
    show _ = (x == 45)
    rw [Bool.eq_iff_iff, beq_iff_eq, beq_iff_eq]
    constructor
    · intro h
      have : x.toNat = 45 := by
        have h : ((x.toNat : Nat) : Int) = 45 := h
        omega
      exact UInt8.toNat_inj.1 this
    · rintro rfl; rfl
theorem piB_len {s : List UInt8} (h : piB s = true) : 1 ≤ s.length := by
  match s with
  | [] => cases h
  | x :: t => simp
theorem pi_sat {s : List UInt8} (hs : s.length < 4294967281) : Sat Tryd.prog (TG4 .nil 20 [strV s]) (· = .agg [iv (if piOK s = true then piN s else 0), iv (if piOK s = true then piD s else 0), iv (if piOK s = true then 0 else 5)]) := by
  constructor
  rw [LPi_eq]; unfold LPi
  simp only [LPi_q1, LPi_q2, LPi_q3, LPi_q4, LPi_q5, LPi_q6, LPi_q7, LPi_q8, LPi_q9, strB_list, strB_size, piB_eq]
  unfold piOK
  refine ⟨fun h => by simp only [decide_eq_true_eq] at h; omega, fun h => ?_, fun h => ?_⟩
  · have hA : piA s = rdF s 19 0 1 := by unfold piA; rw [if_pos h]
    have hN : piN s = - (rdF s 19 0 1).1 := by unfold piN; rw [if_pos h, hA]
    have hl := piB_len h
    obtain ⟨b1, b2, b3⟩ := rdF_bd s 19 0 1 (by omega) (by omega) hl
    have hD : piD s = if (rdF s 19 0 1).2 < s.length then (rdF s 19 0 ((rdF s 19 0 1).2 + 1)).1 else 1 := by unfold piD; rw [hA]
    rw [w64_of (n := 0 - (rdF s 19 0 1).1) (by omega) (by omega), Int.zero_sub, ← hN, w64_of (n := ((rdF s 19 0 1).2 : Int) + 1) (by omega) (by omega)]
    refine ⟨⟨hs, by omega, by omega⟩, fun h2 => ⟨⟨hs, ?_, ?_⟩, fun _ => ?_, fun h3 => (by cases h3)⟩, fun h2 => ⟨fun _ => ?_, fun h3 => (by cases h3)⟩⟩
    · omega
    · simp only [decide_eq_true_eq] at h2; omega
    · simp only [decide_eq_true_eq] at h2
      rw [if_pos (by omega)] at hD
      have e : (((rdF s 19 0 1).2 : Int) + 1).toNat = (rdF s 19 0 1).2 + 1 := by omega
      rw [e, ← hD]; exact pi_leaf _ _ s
    · simp only [decide_eq_false_iff_not] at h2
      rw [if_neg (by omega)] at hD
      rw [hD]; exact pi_leaf _ _ s
  · have h' : ¬ piB s = true := by rw [h]; simp
    have hA : piA s = rdF s 19 0 0 := by unfold piA; rw [if_neg h']
    have hN : piN s = (rdF s 19 0 0).1 := by unfold piN; rw [if_neg h', hA]
    obtain ⟨b1, b2, b3⟩ := rdF_bd s 19 0 0 (by omega) (by omega) (by omega)
    have hD : piD s = if (rdF s 19 0 0).2 < s.length then (rdF s 19 0 ((rdF s 19 0 0).2 + 1)).1 else 1 := by unfold piD; rw [hA]
    rw [← hN, w64_of (n := ((rdF s 19 0 0).2 : Int) + 1) (by omega) (by omega)]
    refine ⟨⟨hs, by omega, by omega⟩, fun h2 => ⟨⟨hs, ?_, ?_⟩, fun h3 => (by cases h3), fun _ => ?_⟩, fun h2 => ⟨fun h3 => (by cases h3), fun _ => ?_⟩⟩
    · omega
    · simp only [decide_eq_true_eq] at h2; omega
    · simp only [decide_eq_true_eq] at h2
      rw [if_pos (by omega)] at hD
      have e : (((rdF s 19 0 0).2 : Int) + 1).toNat = (rdF s 19 0 0).2 + 1 := by omega
      rw [e, ← hD]; exact pi_leaf _ _ s
    · simp only [decide_eq_false_iff_not] at h2
      rw [if_neg (by omega)] at hD
      rw [hD]; exact pi_leaf _ _ s
noncomputable def cPi : Ctr := fun ss => match ss with
  | [.d (.x (.string s))] => .need (s.size < 4294967281) (.ret (.agg [iv (if piOK s.data.toList = true then piN s.data.toList else 0), iv (if piOK s.data.toList = true then piD s.data.toList else 0), iv (if piOK s.data.toList = true then 0 else 5)]))
  | _ => .fail
theorem cPi_ok : CtrOK Tryd.prog 20 cPi := by
  refine ctrOK_leS CG4_ok DG4_ok (by kernel_rfl) (by kernel_rfl) fun ss r h => ?_
  unfold cPi at h
  split at h
  · rename_i s
    obtain ⟨h1, rfl⟩ := h
    refine ⟨[strV s.data.toList], 200, .nil, ?_, pi_sat (s := s.data.toList) ?_⟩
    · unfold strV
      rw [strB_of]
      simp [leSVs, leSV, leD]
    · have e : s.size = s.data.toList.length := (Array.length_toList).symm
      omega
  · exact h.elim

/-! ### edited -/
noncomputable def oneB (c : Int) : ByteArray := strOf 1 fun i j => dsAt [DV.x (.int .u8 c)] (0 + (0 + i) * 1 + j)
noncomputable def edI (s : ByteArray) (b : Int) : Nat := b.toNat % (s.size + 1)
noncomputable def edB (s : ByteArray) (a b c : Int) : ByteArray :=
  if Int.tmod a 3 = 0 ∨ edI s b = s.size then s.extract 0 (edI s b) ++ oneB c ++ s.extract (edI s b) s.size
  else if Int.tmod a 3 = 1 then s.extract 0 (edI s b) ++ oneB c ++ s.extract (edI s b + 1) s.size
  else s.extract 0 (edI s b) ++ s.extract (edI s b + 1) s.size
theorem oneB_size (c : Int) : (oneB c).size = 1 := by unfold oneB strOf; simp [ByteArray.size]
theorem edB_size (s : ByteArray) (a b c : Int) : (edB s a b c).size ≤ s.size + 1 := by
  have h : edI s b ≤ s.size := by unfold edI; have := Nat.mod_lt b.toNat (show 0 < s.size + 1 by omega); omega
  unfold edB
  split
  · simp only [ByteArray.size_append, ByteArray.size_extract, oneB_size]; omega
  · split
    · simp only [ByteArray.size_append, ByteArray.size_extract, oneB_size]; omega
    · simp only [ByteArray.size_append, ByteArray.size_extract, oneB_size]; omega
theorem ed_sat {s : List UInt8} {a b c : Int} (hs : s.length < 4294967281) (ha : 0 ≤ a ∧ a ≤ 255) (hb : 0 ≤ b ∧ b ≤ 255) (hc : 0 ≤ c ∧ c ≤ 255) :
    Sat Tryd.prog (TG4 .nil 19 [strV s, .agg [.d (.x (.int .u8 a)), .d (.x (.int .u8 b)), .d (.x (.int .u8 c))]]) (· = .d (.x (.string (edB (strB s) a b c)))) := by
  constructor
  rw [LEd_eq]; unfold LEd
  have hz : (strB s).size < 4294967281 := by rw [strB_size]; exact hs
  generalize strB s = S at *
  have e1 : Int.tmod (w64 b) (w64 ((S.size : Int) + 1)) = (edI S b : Nat) := by
    rw [w64_of (n := b) (by omega) (by omega), w64_of (n := (S.size : Int) + 1) (by omega) (by omega), Int.tmod_eq_emod_of_nonneg hb.1]
    unfold edI
    obtain ⟨k, rfl⟩ : ∃ k : Nat, b = k := ⟨b.toNat, by omega⟩
    rw [Int.toNat_natCast]; push_cast; rfl
  have hi : edI S b ≤ S.size := by unfold edI; have := Nat.mod_lt b.toNat (show 0 < S.size + 1 by omega); omega
  rw [e1, w64_of (n := (S.size : Int) + 1) (by omega) (by omega), w64_of (n := (edI S b : Int) + 1) (by omega) (by omega)]
  have eo : strOf 1 (LEd_q2 c) = oneB c := rfl
  have e3 : (((edI S b : Nat) : Int) + 1).toNat = edI S b + 1 := by omega
  rw [eo, e3, Int.toNat_natCast]
  have hu : ∀ i, i < 1 → isU8 (LEd_q1 a b c i 0) = true := by
    intro i hi
    obtain rfl : i = 0 := by omega
    show decide (0 ≤ c ∧ c < 256) = true
    rw [decide_eq_true_eq]; omega
  simp only [ByteArray.size_append, ByteArray.size_extract, oneB_size]
  refine ⟨⟨by omega, by omega⟩, by omega, by omega, ⟨by omega, by omega⟩, by omega, by simp, hu, ⟨by omega, by omega⟩, by omega, by omega, fun h => ?_, fun h => ?_⟩
  · have h : Int.tmod a 3 = 0 ∨ edI S b = S.size := by
      simp only [Bool.or_eq_true, beq_iff_eq] at h; omega
    refine ⟨⟨⟨by omega, by omega⟩, trivial⟩, by omega, ⟨trivial, by omega, by omega⟩, by omega, ?_⟩
    unfold edB; rw [if_pos h]; exact rfl
  · have h : ¬ (Int.tmod a 3 = 0 ∨ edI S b = S.size) := by
      simp only [Bool.or_eq_false_iff, beq_eq_false_iff_ne] at h; omega
    refine ⟨⟨by omega, by omega⟩, by omega, by omega, fun h2 => ?_, fun h2 => ?_⟩
    · have h2 : Int.tmod a 3 = 1 := by simpa using h2
      refine ⟨⟨⟨by omega, by omega⟩, trivial⟩, by omega, ⟨trivial, by omega, by omega⟩, by omega, ?_⟩
      unfold edB; rw [if_neg h, if_pos h2]; exact rfl
    · have h2 : ¬ Int.tmod a 3 = 1 := by simpa using h2
      refine ⟨⟨⟨by omega, by omega⟩, trivial⟩, ⟨trivial, by omega, by omega⟩, by omega, ?_⟩
      unfold edB; rw [if_neg h, if_neg h2]; exact rfl
noncomputable def cEd : Ctr := fun ss => match ss with
  | [.d (.x (.string s)), .agg [.d (.x (.int .u8 a)), .d (.x (.int .u8 b)), .d (.x (.int .u8 c))]] => .need (s.size < 4294967281 ∧ (0 ≤ a ∧ a ≤ 255) ∧ (0 ≤ b ∧ b ≤ 255) ∧ 0 ≤ c ∧ c ≤ 255) (.ret (.d (.x (.string (edB s a b c)))))
  | _ => .fail
theorem cEd_ok : CtrOK Tryd.prog 19 cEd := by
  refine ctrOK_leS CG4_ok DG4_ok (by kernel_rfl) (by kernel_rfl) fun ss r h => ?_
  unfold cEd at h
  split at h
  · rename_i s a b c
    obtain ⟨⟨h1, h2, h3, h4⟩, rfl⟩ := h
    have e : s.size = s.data.toList.length := (Array.length_toList).symm
    refine ⟨[strV s.data.toList, .agg [.d (.x (.int .u8 a)), .d (.x (.int .u8 b)), .d (.x (.int .u8 c))]], 200, .nil, ?_, ?_⟩
    · unfold strV
      rw [strB_of]
      simp [leSVs, leSV, leD]
    · have := ed_sat (s := s.data.toList) (by omega) h2 h3 h4
      rwa [strB_of] at this
  · exact h.elim

end Go.Proofs.YtmdbfhkineaheaaDoor

namespace Go.Proofs.YtmdbfhkineaheaaDoor
open Go.Sx
set_option maxRecDepth 100000

noncomputable def manTx : FuncId → Option Ctr := fun k => match k with
  | 20 => some cPi
  | 19 => some cEd
  | k => manM k
theorem manTx_ok (k : Nat) (c : Ctr) (h : manTx k = some c) : CtrOK Tryd.prog k c ∧ goodF Tryd.prog k = true := by
  unfold manTx at h
  split at h
  · cases h; exact ⟨cPi_ok, by kernel_rfl⟩
  · cases h; exact ⟨cEd_ok, by kernel_rfl⟩
  · exact manM_ok _ _ h
noncomputable def CTx : Ctx := ctxN Tryd.prog manTx (fun _ => false) 200 .nil 6
theorem CTx_ok : CtxOK Tryd.prog CTx := ctxN_ok mixed manTx_ok 6
noncomputable def DTx : Dr := fun _ => drawn Tryd.prog CTx
theorem DTx_ok : DrOK Tryd.prog CTx DTx := drawn_ok CTx_ok mixed
noncomputable def TTx (h : Hint) (k : Nat) (args : List SV) : Tree SV := fnT Tryd.prog CTx DTx 200 (fnOf Tryd.prog k) (bodyOf Tryd.prog k) args h
noncomputable def LTe_q1 (x0 : Int) (x1 : Int) (a : Int) (b : Int) (c : Int) (s : ByteArray) : Bool :=
  !(((if pcOK (Array.toList (ByteArray.data (bif true then edB (strB (txtL (mN x0 x1) (mD x0 x1))) a b c else s))) = true then pcN (Array.toList (ByteArray.data (bif true then edB (strB (txtL (mN x0 x1) (mD x0 x1))) a b c else s)))
   else (0 : Int)) ==
   if piOK (Array.toList (ByteArray.data (bif true then edB (strB (txtL (mN x0 x1) (mD x0 x1))) a b c else s))) = true then piN (Array.toList (ByteArray.data (bif true then edB (strB (txtL (mN x0 x1) (mD x0 x1))) a b c else s)))
   else (0 : Int)) &&
   (((if pcOK (Array.toList (ByteArray.data (bif true then edB (strB (txtL (mN x0 x1) (mD x0 x1))) a b c else s))) = true then pcD (Array.toList (ByteArray.data (bif true then edB (strB (txtL (mN x0 x1) (mD x0 x1))) a b c else s)))
   else (0 : Int)) ==
   if piOK (Array.toList (ByteArray.data (bif true then edB (strB (txtL (mN x0 x1) (mD x0 x1))) a b c else s))) = true then piD (Array.toList (ByteArray.data (bif true then edB (strB (txtL (mN x0 x1) (mD x0 x1))) a b c else s)))
   else (0 : Int)) &&
   true) &&
   (((if pcOK (Array.toList (ByteArray.data (bif true then edB (strB (txtL (mN x0 x1) (mD x0 x1))) a b c else s))) = true then (0 : Int) else (5 : Int)) ==
   if piOK (Array.toList (ByteArray.data (bif true then edB (strB (txtL (mN x0 x1) (mD x0 x1))) a b c else s))) = true then (0 : Int) else (5 : Int)) &&
   true))
noncomputable def LTe_q2 (x0 : Int) (x1 : Int) (a : Int) (b : Int) (c : Int) (s : ByteArray) : Bool :=
  (if pcOK (Array.toList (ByteArray.data (bif true then edB (strB (txtL (mN x0 x1) (mD x0 x1))) a b c else s))) = true then (0 : Int) else (5 : Int)) == (0 : Int)
noncomputable def LTe_q3 (x0 : Int) (x1 : Int) (a : Int) (b : Int) (c : Int) (s : ByteArray) : Bool :=
  !(((if pcOK (Array.toList (ByteArray.data (bif true then edB (edB (strB (txtL (mN x0 x1) (mD x0 x1))) a b c) b c a else s))) = true then
   pcN (Array.toList (ByteArray.data (bif true then edB (edB (strB (txtL (mN x0 x1) (mD x0 x1))) a b c) b c a else s)))
   else (0 : Int)) ==
   if piOK (Array.toList (ByteArray.data (bif true then edB (edB (strB (txtL (mN x0 x1) (mD x0 x1))) a b c) b c a else s))) = true then
   piN (Array.toList (ByteArray.data (bif true then edB (edB (strB (txtL (mN x0 x1) (mD x0 x1))) a b c) b c a else s)))
   else (0 : Int)) &&
   (((if pcOK (Array.toList (ByteArray.data (bif true then edB (edB (strB (txtL (mN x0 x1) (mD x0 x1))) a b c) b c a else s))) = true then
   pcD (Array.toList (ByteArray.data (bif true then edB (edB (strB (txtL (mN x0 x1) (mD x0 x1))) a b c) b c a else s)))
   else (0 : Int)) ==
   if piOK (Array.toList (ByteArray.data (bif true then edB (edB (strB (txtL (mN x0 x1) (mD x0 x1))) a b c) b c a else s))) = true then
   piD (Array.toList (ByteArray.data (bif true then edB (edB (strB (txtL (mN x0 x1) (mD x0 x1))) a b c) b c a else s)))
   else (0 : Int)) &&
   true) &&
   (((if pcOK (Array.toList (ByteArray.data (bif true then edB (edB (strB (txtL (mN x0 x1) (mD x0 x1))) a b c) b c a else s))) = true then (0 : Int) else (5 : Int)) ==
   if piOK (Array.toList (ByteArray.data (bif true then edB (edB (strB (txtL (mN x0 x1) (mD x0 x1))) a b c) b c a else s))) = true then (0 : Int) else (5 : Int)) &&
   true))
noncomputable def LTe_q4 (x0 : Int) (x1 : Int) (a : Int) (b : Int) (c : Int) (s : ByteArray) : Bool :=
  (if pcOK (Array.toList (ByteArray.data (bif true then edB (edB (strB (txtL (mN x0 x1) (mD x0 x1))) a b c) b c a else s))) = true then (0 : Int) else (5 : Int)) == (0 : Int)
noncomputable def LTe_q5 (s : ByteArray) : Bool :=
  !(((if pcOK (Array.toList (ByteArray.data s)) = true then pcN (Array.toList (ByteArray.data s)) else (0 : Int)) == if piOK (Array.toList (ByteArray.data s)) = true then piN (Array.toList (ByteArray.data s)) else (0 : Int)) &&
   (((if pcOK (Array.toList (ByteArray.data s)) = true then pcD (Array.toList (ByteArray.data s)) else (0 : Int)) == if piOK (Array.toList (ByteArray.data s)) = true then piD (Array.toList (ByteArray.data s)) else (0 : Int)) && true) &&
   (((if pcOK (Array.toList (ByteArray.data s)) = true then (0 : Int) else (5 : Int)) == if piOK (Array.toList (ByteArray.data s)) = true then (0 : Int) else (5 : Int)) && true))
noncomputable def LTe_q6 (s : ByteArray) : Bool :=
  (if pcOK (Array.toList (ByteArray.data s)) = true then (0 : Int) else (5 : Int)) == (0 : Int)
noncomputable def LTe_q7 (x0 : Int) (x1 : Int) (a : Int) (b : Int) (c : Int) : Bool :=
  !(((if pcOK (Array.toList (ByteArray.data (List.getD [edB (strB (txtL (mN x0 x1) (mD x0 x1))) a b c, edB (edB (strB (txtL (mN x0 x1) (mD x0 x1))) a b c) b c a] 0 (strB [])))) = true then
   pcN (Array.toList (ByteArray.data (List.getD [edB (strB (txtL (mN x0 x1) (mD x0 x1))) a b c, edB (edB (strB (txtL (mN x0 x1) (mD x0 x1))) a b c) b c a] 0 (strB []))))
   else (0 : Int)) ==
   if piOK (Array.toList (ByteArray.data (List.getD [edB (strB (txtL (mN x0 x1) (mD x0 x1))) a b c, edB (edB (strB (txtL (mN x0 x1) (mD x0 x1))) a b c) b c a] 0 (strB [])))) = true then
   piN (Array.toList (ByteArray.data (List.getD [edB (strB (txtL (mN x0 x1) (mD x0 x1))) a b c, edB (edB (strB (txtL (mN x0 x1) (mD x0 x1))) a b c) b c a] 0 (strB []))))
   else (0 : Int)) &&
   (((if pcOK (Array.toList (ByteArray.data (List.getD [edB (strB (txtL (mN x0 x1) (mD x0 x1))) a b c, edB (edB (strB (txtL (mN x0 x1) (mD x0 x1))) a b c) b c a] 0 (strB [])))) = true then
   pcD (Array.toList (ByteArray.data (List.getD [edB (strB (txtL (mN x0 x1) (mD x0 x1))) a b c, edB (edB (strB (txtL (mN x0 x1) (mD x0 x1))) a b c) b c a] 0 (strB []))))
   else (0 : Int)) ==
   if piOK (Array.toList (ByteArray.data (List.getD [edB (strB (txtL (mN x0 x1) (mD x0 x1))) a b c, edB (edB (strB (txtL (mN x0 x1) (mD x0 x1))) a b c) b c a] 0 (strB [])))) = true then
   piD (Array.toList (ByteArray.data (List.getD [edB (strB (txtL (mN x0 x1) (mD x0 x1))) a b c, edB (edB (strB (txtL (mN x0 x1) (mD x0 x1))) a b c) b c a] 0 (strB []))))
   else (0 : Int)) &&
   true) &&
   (((if pcOK (Array.toList (ByteArray.data (List.getD [edB (strB (txtL (mN x0 x1) (mD x0 x1))) a b c, edB (edB (strB (txtL (mN x0 x1) (mD x0 x1))) a b c) b c a] 0 (strB [])))) = true then (0 : Int) else (5 : Int)) ==
   if piOK (Array.toList (ByteArray.data (List.getD [edB (strB (txtL (mN x0 x1) (mD x0 x1))) a b c, edB (edB (strB (txtL (mN x0 x1) (mD x0 x1))) a b c) b c a] 0 (strB [])))) = true then (0 : Int) else (5 : Int)) &&
   true))
noncomputable def LTe_q8 (x0 : Int) (x1 : Int) (a : Int) (b : Int) (c : Int) : Bool :=
  (if pcOK (Array.toList (ByteArray.data (List.getD [edB (strB (txtL (mN x0 x1) (mD x0 x1))) a b c, edB (edB (strB (txtL (mN x0 x1) (mD x0 x1))) a b c) b c a] 0 (strB [])))) = true then (0 : Int) else (5 : Int)) == (0 : Int)
noncomputable def LTe_q9 (x0 : Int) (x1 : Int) (a : Int) (b : Int) (c : Int) : Bool :=
  !(((if pcOK (Array.toList (ByteArray.data (List.getD [edB (strB (txtL (mN x0 x1) (mD x0 x1))) a b c, edB (edB (strB (txtL (mN x0 x1) (mD x0 x1))) a b c) b c a] 1 (strB [])))) = true then
   pcN (Array.toList (ByteArray.data (List.getD [edB (strB (txtL (mN x0 x1) (mD x0 x1))) a b c, edB (edB (strB (txtL (mN x0 x1) (mD x0 x1))) a b c) b c a] 1 (strB []))))
   else (0 : Int)) ==
   if piOK (Array.toList (ByteArray.data (List.getD [edB (strB (txtL (mN x0 x1) (mD x0 x1))) a b c, edB (edB (strB (txtL (mN x0 x1) (mD x0 x1))) a b c) b c a] 1 (strB [])))) = true then
   piN (Array.toList (ByteArray.data (List.getD [edB (strB (txtL (mN x0 x1) (mD x0 x1))) a b c, edB (edB (strB (txtL (mN x0 x1) (mD x0 x1))) a b c) b c a] 1 (strB []))))
   else (0 : Int)) &&
   (((if pcOK (Array.toList (ByteArray.data (List.getD [edB (strB (txtL (mN x0 x1) (mD x0 x1))) a b c, edB (edB (strB (txtL (mN x0 x1) (mD x0 x1))) a b c) b c a] 1 (strB [])))) = true then
   pcD (Array.toList (ByteArray.data (List.getD [edB (strB (txtL (mN x0 x1) (mD x0 x1))) a b c, edB (edB (strB (txtL (mN x0 x1) (mD x0 x1))) a b c) b c a] 1 (strB []))))
   else (0 : Int)) ==
   if piOK (Array.toList (ByteArray.data (List.getD [edB (strB (txtL (mN x0 x1) (mD x0 x1))) a b c, edB (edB (strB (txtL (mN x0 x1) (mD x0 x1))) a b c) b c a] 1 (strB [])))) = true then
   piD (Array.toList (ByteArray.data (List.getD [edB (strB (txtL (mN x0 x1) (mD x0 x1))) a b c, edB (edB (strB (txtL (mN x0 x1) (mD x0 x1))) a b c) b c a] 1 (strB []))))
   else (0 : Int)) &&
   true) &&
   (((if pcOK (Array.toList (ByteArray.data (List.getD [edB (strB (txtL (mN x0 x1) (mD x0 x1))) a b c, edB (edB (strB (txtL (mN x0 x1) (mD x0 x1))) a b c) b c a] 1 (strB [])))) = true then (0 : Int) else (5 : Int)) ==
   if piOK (Array.toList (ByteArray.data (List.getD [edB (strB (txtL (mN x0 x1) (mD x0 x1))) a b c, edB (edB (strB (txtL (mN x0 x1) (mD x0 x1))) a b c) b c a] 1 (strB [])))) = true then (0 : Int) else (5 : Int)) &&
   true))
noncomputable def LTe_q10 (x0 : Int) (x1 : Int) (a : Int) (b : Int) (c : Int) : Bool :=
  (if pcOK (Array.toList (ByteArray.data (List.getD [edB (strB (txtL (mN x0 x1) (mD x0 x1))) a b c, edB (edB (strB (txtL (mN x0 x1) (mD x0 x1))) a b c) b c a] 1 (strB [])))) = true then (0 : Int) else (5 : Int)) == (0 : Int)
noncomputable def LTe (x0 x1 a b c : Int) (s : ByteArray) : Tree SV :=
  .ite false (.ret (bv false))
  (.need ((0 : Int) ≤ (0 : Int) ∧ (0 : Int) < (2 : Int))
   (.need (0 < 2)
   (.need ((0 : Int) ≤ (1 : Int) ∧ (1 : Int) < (2 : Int))
   (.need (1 < 2)
   (.need (I64 x0 ∧ I64 x1)
   (.need (VF (mN x0 x1) (mD x0 x1))
   (.need (ByteArray.size (strB (txtL (mN x0 x1) (mD x0 x1))) < 4294967281)
   (.ite
   (!((if pcOK (Array.toList (ByteArray.data (strB (txtL (mN x0 x1) (mD x0 x1))))) = true then pcN (Array.toList (ByteArray.data (strB (txtL (mN x0 x1) (mD x0 x1))))) else (0 : Int)) == mN x0 x1 &&
   ((if pcOK (Array.toList (ByteArray.data (strB (txtL (mN x0 x1) (mD x0 x1))))) = true then pcD (Array.toList (ByteArray.data (strB (txtL (mN x0 x1) (mD x0 x1))))) else (0 : Int)) == mD x0 x1 && true) &&
   ((if pcOK (Array.toList (ByteArray.data (strB (txtL (mN x0 x1) (mD x0 x1))))) = true then (0 : Int) else (5 : Int)) == (0 : Int) && true)))
   (.ret (bv false))
   (.need (ByteArray.size (strB (txtL (mN x0 x1) (mD x0 x1))) < 4294967281 ∧ ((0 : Int) ≤ a ∧ a ≤ (255 : Int)) ∧ ((0 : Int) ≤ b ∧ b ≤ (255 : Int)) ∧ (0 : Int) ≤ c ∧ c ≤ (255 : Int))
   (.need ((0 : Int) ≤ (1 : Int) ∧ (1 : Int) < (3 : Int))
   (.need (1 < 3)
   (.need ((0 : Int) ≤ (2 : Int) ∧ (2 : Int) < (3 : Int))
   (.need (2 < 3)
   (.need ((0 : Int) ≤ (0 : Int) ∧ (0 : Int) < (3 : Int))
   (.need (0 < 3)
   (.need (ByteArray.size (edB (strB (txtL (mN x0 x1) (mD x0 x1))) a b c) < 4294967281 ∧ ((0 : Int) ≤ b ∧ b ≤ (255 : Int)) ∧ ((0 : Int) ≤ c ∧ c ≤ (255 : Int)) ∧ (0 : Int) ≤ a ∧ a ≤ (255 : Int))
   (.ite (decide ((↑(ByteArray.size s) : Int) ≤ (100 : Int)))
   (.need
   (2 ≤ List.length [SV.d (DV.x (.string (edB (strB (txtL (mN x0 x1) (mD x0 x1))) a b c))), SV.d (DV.x (.string (edB (edB (strB (txtL (mN x0 x1) (mD x0 x1))) a b c) b c a)))] ∧
   1 ≤ List.length [SV.d (DV.x (.string s))] ∧ 48 ≤ 140737488355328)
   (.need (true = true)
   (.need ((0 : Int) ≤ (0 : Int) ∧ (0 : Int) < (3 : Int))
   (.need (0 < 3)
   (.need (ByteArray.size (bif true then edB (strB (txtL (mN x0 x1) (mD x0 x1))) a b c else s) < 4294967281)
   (.need ((0 : Int) ≤ (0 : Int) ∧ (0 : Int) < (3 : Int))
   (.need (0 < 3)
   (.need (ByteArray.size (bif true then edB (strB (txtL (mN x0 x1) (mD x0 x1))) a b c else s) < 4294967281)
   (.need
   (LTe_q1 x0 x1 a b c s = false ∧ LTe_q2 x0 x1 a b c s = true →
   VF
   (if pcOK (Array.toList (ByteArray.data (bif true then edB (strB (txtL (mN x0 x1) (mD x0 x1))) a b c else s))) = true then
   pcN (Array.toList (ByteArray.data (bif true then edB (strB (txtL (mN x0 x1) (mD x0 x1))) a b c else s)))
   else (0 : Int))
   (if pcOK (Array.toList (ByteArray.data (bif true then edB (strB (txtL (mN x0 x1) (mD x0 x1))) a b c else s))) = true then
   pcD (Array.toList (ByteArray.data (bif true then edB (strB (txtL (mN x0 x1) (mD x0 x1))) a b c else s)))
   else (0 : Int)))
   (.need (LTe_q1 x0 x1 a b c s = false ∧ LTe_q2 x0 x1 a b c s = true → (0 : Int) ≤ (0 : Int) ∧ (0 : Int) < (3 : Int))
   (.need (LTe_q1 x0 x1 a b c s = false ∧ LTe_q2 x0 x1 a b c s = true → 0 < 3)
   (.ite
   (LTe_q1 x0 x1 a b c s ||
   LTe_q2 x0 x1 a b c s &&
   !strEq
   (strB
   (txtL
   (if pcOK (Array.toList (ByteArray.data (bif true then edB (strB (txtL (mN x0 x1) (mD x0 x1))) a b c else s))) = true then
   pcN (Array.toList (ByteArray.data (bif true then edB (strB (txtL (mN x0 x1) (mD x0 x1))) a b c else s)))
   else (0 : Int))
   (if pcOK (Array.toList (ByteArray.data (bif true then edB (strB (txtL (mN x0 x1) (mD x0 x1))) a b c else s))) = true then
   pcD (Array.toList (ByteArray.data (bif true then edB (strB (txtL (mN x0 x1) (mD x0 x1))) a b c else s)))
   else (0 : Int))))
   (bif true then edB (strB (txtL (mN x0 x1) (mD x0 x1))) a b c else s))
   (.ret (bv false))
   (.need (true = true)
   (.need ((0 : Int) ≤ (1 : Int) ∧ (1 : Int) < (3 : Int))
   (.need (1 < 3)
   (.need (ByteArray.size (bif true then edB (edB (strB (txtL (mN x0 x1) (mD x0 x1))) a b c) b c a else s) < 4294967281)
   (.need ((0 : Int) ≤ (1 : Int) ∧ (1 : Int) < (3 : Int))
   (.need (1 < 3)
   (.need (ByteArray.size (bif true then edB (edB (strB (txtL (mN x0 x1) (mD x0 x1))) a b c) b c a else s) < 4294967281)
   (.need
   (LTe_q3 x0 x1 a b c s = false ∧ LTe_q4 x0 x1 a b c s = true →
   VF
   (if pcOK (Array.toList (ByteArray.data (bif true then edB (edB (strB (txtL (mN x0 x1) (mD x0 x1))) a b c) b c a else s))) = true then
   pcN (Array.toList (ByteArray.data (bif true then edB (edB (strB (txtL (mN x0 x1) (mD x0 x1))) a b c) b c a else s)))
   else (0 : Int))
   (if pcOK (Array.toList (ByteArray.data (bif true then edB (edB (strB (txtL (mN x0 x1) (mD x0 x1))) a b c) b c a else s))) = true then
   pcD (Array.toList (ByteArray.data (bif true then edB (edB (strB (txtL (mN x0 x1) (mD x0 x1))) a b c) b c a else s)))
   else (0 : Int)))
   (.need (LTe_q3 x0 x1 a b c s = false ∧ LTe_q4 x0 x1 a b c s = true → (0 : Int) ≤ (1 : Int) ∧ (1 : Int) < (3 : Int))
   (.need (LTe_q3 x0 x1 a b c s = false ∧ LTe_q4 x0 x1 a b c s = true → 1 < 3)
   (.ite
   (LTe_q3 x0 x1 a b c s ||
   LTe_q4 x0 x1 a b c s &&
   !strEq
   (strB
   (txtL
   (if pcOK (Array.toList (ByteArray.data (bif true then edB (edB (strB (txtL (mN x0 x1) (mD x0 x1))) a b c) b c a else s))) = true then
   pcN (Array.toList (ByteArray.data (bif true then edB (edB (strB (txtL (mN x0 x1) (mD x0 x1))) a b c) b c a else s)))
   else (0 : Int))
   (if pcOK (Array.toList (ByteArray.data (bif true then edB (edB (strB (txtL (mN x0 x1) (mD x0 x1))) a b c) b c a else s))) = true then
   pcD (Array.toList (ByteArray.data (bif true then edB (edB (strB (txtL (mN x0 x1) (mD x0 x1))) a b c) b c a else s)))
   else (0 : Int))))
   (bif true then edB (edB (strB (txtL (mN x0 x1) (mD x0 x1))) a b c) b c a else s))
   (.ret (bv false))
   (.need (true = true)
   (.need ((0 : Int) ≤ (2 : Int) ∧ (2 : Int) < (3 : Int))
   (.need (2 < 3)
   (.need (ByteArray.size s < 4294967281)
   (.need ((0 : Int) ≤ (2 : Int) ∧ (2 : Int) < (3 : Int))
   (.need (2 < 3)
   (.need (ByteArray.size s < 4294967281)
   (.need
   (LTe_q5 s = false ∧ LTe_q6 s = true →
   VF (if pcOK (Array.toList (ByteArray.data s)) = true then pcN (Array.toList (ByteArray.data s)) else (0 : Int))
   (if pcOK (Array.toList (ByteArray.data s)) = true then pcD (Array.toList (ByteArray.data s)) else (0 : Int)))
   (.need (LTe_q5 s = false ∧ LTe_q6 s = true → (0 : Int) ≤ (2 : Int) ∧ (2 : Int) < (3 : Int))
   (.need (LTe_q5 s = false ∧ LTe_q6 s = true → 2 < 3)
   (.ite
   (LTe_q5 s ||
   LTe_q6 s &&
   !strEq
   (strB
   (txtL (if pcOK (Array.toList (ByteArray.data s)) = true then pcN (Array.toList (ByteArray.data s)) else (0 : Int))
   (if pcOK (Array.toList (ByteArray.data s)) = true then pcD (Array.toList (ByteArray.data s)) else (0 : Int))))
   s)
   (.ret (bv false)) (.need (false = false) (.ret (bv true)))))))))))))))))))))))))))))))))))))
   (.need (true = true)
   (.need ((0 : Int) ≤ (0 : Int) ∧ (0 : Int) < (2 : Int))
   (.need (0 < 2)
   (.need (ByteArray.size (List.getD [edB (strB (txtL (mN x0 x1) (mD x0 x1))) a b c, edB (edB (strB (txtL (mN x0 x1) (mD x0 x1))) a b c) b c a] 0 (strB [])) < 4294967281)
   (.need ((0 : Int) ≤ (0 : Int) ∧ (0 : Int) < (2 : Int))
   (.need (0 < 2)
   (.need (ByteArray.size (List.getD [edB (strB (txtL (mN x0 x1) (mD x0 x1))) a b c, edB (edB (strB (txtL (mN x0 x1) (mD x0 x1))) a b c) b c a] 0 (strB [])) < 4294967281)
   (.need
   (LTe_q7 x0 x1 a b c = false ∧ LTe_q8 x0 x1 a b c = true →
   VF
   (if
   pcOK (Array.toList (ByteArray.data (List.getD [edB (strB (txtL (mN x0 x1) (mD x0 x1))) a b c, edB (edB (strB (txtL (mN x0 x1) (mD x0 x1))) a b c) b c a] 0 (strB [])))) =
   true then
   pcN (Array.toList (ByteArray.data (List.getD [edB (strB (txtL (mN x0 x1) (mD x0 x1))) a b c, edB (edB (strB (txtL (mN x0 x1) (mD x0 x1))) a b c) b c a] 0 (strB []))))
   else (0 : Int))
   (if
   pcOK (Array.toList (ByteArray.data (List.getD [edB (strB (txtL (mN x0 x1) (mD x0 x1))) a b c, edB (edB (strB (txtL (mN x0 x1) (mD x0 x1))) a b c) b c a] 0 (strB [])))) =
   true then
   pcD (Array.toList (ByteArray.data (List.getD [edB (strB (txtL (mN x0 x1) (mD x0 x1))) a b c, edB (edB (strB (txtL (mN x0 x1) (mD x0 x1))) a b c) b c a] 0 (strB []))))
   else (0 : Int)))
   (.need (LTe_q7 x0 x1 a b c = false ∧ LTe_q8 x0 x1 a b c = true → (0 : Int) ≤ (0 : Int) ∧ (0 : Int) < (2 : Int))
   (.need (LTe_q7 x0 x1 a b c = false ∧ LTe_q8 x0 x1 a b c = true → 0 < 2)
   (.ite
   (LTe_q7 x0 x1 a b c ||
   LTe_q8 x0 x1 a b c &&
   !strEq
   (strB
   (txtL
   (if
   pcOK
   (Array.toList
   (ByteArray.data (List.getD [edB (strB (txtL (mN x0 x1) (mD x0 x1))) a b c, edB (edB (strB (txtL (mN x0 x1) (mD x0 x1))) a b c) b c a] 0 (strB [])))) =
   true then
   pcN
   (Array.toList
   (ByteArray.data (List.getD [edB (strB (txtL (mN x0 x1) (mD x0 x1))) a b c, edB (edB (strB (txtL (mN x0 x1) (mD x0 x1))) a b c) b c a] 0 (strB []))))
   else (0 : Int))
   (if
   pcOK
   (Array.toList
   (ByteArray.data (List.getD [edB (strB (txtL (mN x0 x1) (mD x0 x1))) a b c, edB (edB (strB (txtL (mN x0 x1) (mD x0 x1))) a b c) b c a] 0 (strB [])))) =
   true then
   pcD
   (Array.toList
   (ByteArray.data (List.getD [edB (strB (txtL (mN x0 x1) (mD x0 x1))) a b c, edB (edB (strB (txtL (mN x0 x1) (mD x0 x1))) a b c) b c a] 0 (strB []))))
   else (0 : Int))))
   (List.getD [edB (strB (txtL (mN x0 x1) (mD x0 x1))) a b c, edB (edB (strB (txtL (mN x0 x1) (mD x0 x1))) a b c) b c a] 0 (strB [])))
   (.ret (bv false))
   (.need (true = true)
   (.need ((0 : Int) ≤ (1 : Int) ∧ (1 : Int) < (2 : Int))
   (.need (1 < 2)
   (.need
   (ByteArray.size (List.getD [edB (strB (txtL (mN x0 x1) (mD x0 x1))) a b c, edB (edB (strB (txtL (mN x0 x1) (mD x0 x1))) a b c) b c a] 1 (strB [])) <
   4294967281)
   (.need ((0 : Int) ≤ (1 : Int) ∧ (1 : Int) < (2 : Int))
   (.need (1 < 2)
   (.need
   (ByteArray.size (List.getD [edB (strB (txtL (mN x0 x1) (mD x0 x1))) a b c, edB (edB (strB (txtL (mN x0 x1) (mD x0 x1))) a b c) b c a] 1 (strB [])) <
   4294967281)
   (.need
   (LTe_q9 x0 x1 a b c = false ∧ LTe_q10 x0 x1 a b c = true →
   VF
   (if
   pcOK
   (Array.toList
   (ByteArray.data
   (List.getD [edB (strB (txtL (mN x0 x1) (mD x0 x1))) a b c, edB (edB (strB (txtL (mN x0 x1) (mD x0 x1))) a b c) b c a] 1 (strB [])))) =
   true then
   pcN
   (Array.toList
   (ByteArray.data
   (List.getD [edB (strB (txtL (mN x0 x1) (mD x0 x1))) a b c, edB (edB (strB (txtL (mN x0 x1) (mD x0 x1))) a b c) b c a] 1 (strB []))))
   else (0 : Int))
   (if
   pcOK
   (Array.toList
   (ByteArray.data
   (List.getD [edB (strB (txtL (mN x0 x1) (mD x0 x1))) a b c, edB (edB (strB (txtL (mN x0 x1) (mD x0 x1))) a b c) b c a] 1 (strB [])))) =
   true then
   pcD
   (Array.toList
   (ByteArray.data
   (List.getD [edB (strB (txtL (mN x0 x1) (mD x0 x1))) a b c, edB (edB (strB (txtL (mN x0 x1) (mD x0 x1))) a b c) b c a] 1 (strB []))))
   else (0 : Int)))
   (.need (LTe_q9 x0 x1 a b c = false ∧ LTe_q10 x0 x1 a b c = true → (0 : Int) ≤ (1 : Int) ∧ (1 : Int) < (2 : Int))
   (.need (LTe_q9 x0 x1 a b c = false ∧ LTe_q10 x0 x1 a b c = true → 1 < 2)
   (.ite
   (LTe_q9 x0 x1 a b c ||
   LTe_q10 x0 x1 a b c &&
   !strEq
   (strB
   (txtL
   (if
   pcOK
   (Array.toList
   (ByteArray.data
   (List.getD [edB (strB (txtL (mN x0 x1) (mD x0 x1))) a b c, edB (edB (strB (txtL (mN x0 x1) (mD x0 x1))) a b c) b c a] 1
   (strB [])))) =
   true then
   pcN
   (Array.toList
   (ByteArray.data
   (List.getD [edB (strB (txtL (mN x0 x1) (mD x0 x1))) a b c, edB (edB (strB (txtL (mN x0 x1) (mD x0 x1))) a b c) b c a] 1
   (strB []))))
   else (0 : Int))
   (if
   pcOK
   (Array.toList
   (ByteArray.data
   (List.getD [edB (strB (txtL (mN x0 x1) (mD x0 x1))) a b c, edB (edB (strB (txtL (mN x0 x1) (mD x0 x1))) a b c) b c a] 1
   (strB [])))) =
   true then
   pcD
   (Array.toList
   (ByteArray.data
   (List.getD [edB (strB (txtL (mN x0 x1) (mD x0 x1))) a b c, edB (edB (strB (txtL (mN x0 x1) (mD x0 x1))) a b c) b c a] 1
   (strB []))))
   else (0 : Int))))
   (List.getD [edB (strB (txtL (mN x0 x1) (mD x0 x1))) a b c, edB (edB (strB (txtL (mN x0 x1) (mD x0 x1))) a b c) b c a] 1 (strB [])))
   (.ret (bv false)) (.need (false = false) (.ret (bv true))))))))))))))))))))))))))))))))))))))))))

theorem LTe_eq (x0 x1 a b c : Int) (s : ByteArray) : TTx (.br .nil (.br .nil (.br (uN 3 .nil) (uN 2 .nil)))) 4 [.agg [iv x0, iv x1], .agg [.d (.x (.int .u8 a)), .d (.x (.int .u8 b)), .d (.x (.int .u8 c))], .d (.x (.string s))] = LTe x0 x1 a b c s := by kernel_rfl


end Go.Proofs.YtmdbfhkineaheaaDoor

namespace Go.Proofs.YtmdbfhkineaheaaDoor
open Go.Sx
set_option maxRecDepth 100000

/-! ### What is written is read again -/

theorem chr_nat {k : Nat} (h : k < 10) : (UInt8.ofNat (48 + k)).toNat = 48 + k := by
  rw [UInt8.toNat_ofNat']; omega
theorem decF_dig : ∀ (m u : Nat) (x : UInt8), x ∈ decF m u → 48 ≤ x.toNat ∧ x.toNat ≤ 57
  | 0, u, x, h => by
    unfold decF at h
    rw [List.mem_singleton] at h; subst h; decide
  | m + 1, u, x, h => by
    unfold decF at h
    split at h
    · rw [List.mem_singleton] at h; subst h; rw [chr_nat (by omega)]; omega
    · rw [List.mem_append, List.mem_singleton] at h
      rcases h with h | h
      · exact decF_dig m _ x h
      · subst h; rw [chr_nat (by omega)]; omega
theorem decF_ne : ∀ (m u : Nat), decF m u ≠ []
  | 0, u => by unfold decF; simp
  | m + 1, u => by
    unfold decF; split
    · simp
    · simp
theorem decF_le : ∀ (m u : Nat), u < 10 ^ (m + 1) → (decF (m + 1) u).length ≤ m + 1
  | 0, u, h => by
    unfold decF
    rw [if_pos (by simpa using h)]; simp
  | m + 1, u, h => by
    unfold decF
    split
    · simp
    · have := decF_le m (u / 10) (by rw [Nat.pow_succ] at h; omega)
      rw [List.length_append, List.length_singleton]; omega
theorem decF_step {m u : Nat} (h : ¬ u < 10) : decF (m + 1) u = decF m (u / 10) ++ [UInt8.ofNat (48 + u % 10)] := by
  conv => lhs; unfold decF
  rw [if_neg h]
theorem parse_dec : ∀ (m u : Nat) (r : List UInt8), u < 10 ^ m → u ≤ 4611686018427387904 → Lib.parseUint10 0 (decF m u ++ r) = Lib.parseUint10 u r
  | 0, u, r, h, h2 => by
    have : u = 0 := by simpa using h
    subst this; unfold decF; simp [Lib.parseUint10]
  | m + 1, u, r, h, h2 => by
    by_cases h1 : u < 10
    · rw [decF_pos (m + 1) u h1 (by omega)]
      simp only [List.cons_append, List.nil_append, Lib.parseUint10]
      rw [chr_nat h1, if_pos (by omega), if_neg (by omega), if_neg (by omega)]
      congr 1; omega
    · rw [decF_step h1, List.append_assoc, parse_dec m (u / 10) _ (by rw [Nat.pow_succ] at h; omega) (by omega)]
      simp only [List.cons_append, List.nil_append, Lib.parseUint10]
      rw [chr_nat (by omega), if_pos (by omega), if_neg (by omega), if_neg (by omega)]
      congr 1; omega
theorem ten19 : (10 : Nat) ^ 19 = 10000000000000000000 := by decide
theorem mag_dec {u : Nat} (h : u ≤ 4611686018427387904) : Lib.parseMag (decF 19 u) = .ok u := by
  unfold Lib.parseMag
  rw [if_neg (decF_ne 19 u)]
  have := parse_dec 19 u [] (by rw [ten19]; omega) h
  rw [List.append_nil] at this
  rw [this]; rfl
theorem atoi_itoaC {n : Int} (h : n.natAbs ≤ 4611686018427387904) : atoiV (itoaC n) = n := by
  have key : Lib.atoiAll (itoaC n) = .ok n := by
    unfold itoaC
    by_cases h0 : n < 0
    · rw [if_pos h0]
      unfold Lib.atoiAll
      simp only [show (45 : UInt8).toNat = 45 from rfl]
      rw [if_pos (by simp), mag_dec h]
      simp only [not_true_eq_false, false_and, if_false, true_and, if_true]
      rw [if_neg (by omega)]
      congr 1; omega
    · rw [if_neg h0]
      have hm := mag_dec (u := n.toNat) (by omega)
      rcases hd : decF 19 n.toNat with _ | ⟨c, r⟩
      · exact absurd hd (decF_ne _ _)
      · have hc := decF_dig 19 n.toNat c (by rw [hd]; simp)
        unfold Lib.atoiAll
        simp only []
        rw [if_neg (by omega), ← hd, hm]
        have h45 : ¬ (c.toNat = 45) := by omega
        simp only [h45, not_false_eq_true, true_and, if_false, false_and]
        rw [if_neg (by omega)]
        congr 1; omega
  unfold atoiV
  rw [key]
theorem itoaC_no {n : Int} : (47 : UInt8) ∉ itoaC n := by
  intro h
  unfold itoaC at h
  split at h
  · rw [List.mem_cons] at h
    rcases h with h | h
    · cases h
    · have := decF_dig _ _ _ h
      exact absurd this.1 (by decide)
  · have := decF_dig _ _ _ h
    exact absurd this.1 (by decide)
theorem index_no : ∀ (A : List UInt8), (47 : UInt8) ∉ A → Lib.index A [47] = -1
  | [], _ => rfl
  | b :: l, h => by
    rw [List.mem_cons, not_or] at h
    unfold Lib.index
    have : List.isPrefixOf [47] (b :: l) = false := by
      simp only [List.isPrefixOf, Bool.and_true]
      exact beq_eq_false_iff_ne.2 h.1
    rw [this, if_neg (by simp), index_no l h.2]; rfl
theorem index_at : ∀ (A t : List UInt8), (47 : UInt8) ∉ A → Lib.index (A ++ 47 :: t) [47] = A.length
  | [], t, _ => by
    show Lib.index (47 :: t) [47] = 0
    unfold Lib.index
    rw [if_pos (by simp [List.isPrefixOf])]
  | b :: l, t, h => by
    rw [List.mem_cons, not_or] at h
    show Lib.index (b :: (l ++ 47 :: t)) [47] = _
    unfold Lib.index
    have : List.isPrefixOf [47] (b :: (l ++ 47 :: t)) = false := by
      simp only [List.isPrefixOf, Bool.and_true]
      exact beq_eq_false_iff_ne.2 h.1
    rw [this, if_neg (by simp), index_at l t h.2, if_neg (by
      rw [beq_iff_eq]; omega)]
    simp
theorem cut_at {A t : List UInt8} (h : (47 : UInt8) ∉ A) : Lib.cut (A ++ 47 :: t) [47] = (A, t, true) := by
  unfold Lib.cut
  rw [index_at A t h, if_pos (by omega), Int.toNat_natCast]
  have e1 : (A ++ 47 :: t).take A.length = A := by simp
  have e2 : (A ++ 47 :: t).drop (A.length + [47].length) = t := by
    rw [List.length_singleton, ← List.drop_drop, List.drop_left]; rfl
  rw [e1]
  exact Prod.ext rfl (Prod.ext e2 rfl)
theorem cut_no {A : List UInt8} (h : (47 : UInt8) ∉ A) : Lib.cut A [47] = (A, [], false) := by
  unfold Lib.cut
  rw [index_no A h, if_neg (by decide)]
theorem pc_txt {n d : Int} (h : VF n d) : pcN (txtL n d) = n ∧ pcD (txtL n d) = d := by
  have hn := h.n
  have hd := h.d
  have hp := h.low.pos
  unfold txtL pcN pcD
  by_cases h1 : d = 1
  · rw [if_pos h1, cut_no itoaC_no]
    exact ⟨atoi_itoaC hn, by rw [if_neg (by simp)]; exact h1.symm⟩
  · rw [if_neg h1, cut_at itoaC_no]
    exact ⟨atoi_itoaC hn, by rw [if_pos rfl]; exact atoi_itoaC (by omega)⟩

/-! the reference's reading -/
theorem app_at (p : List UInt8) (x : UInt8) (r : List UInt8) (h : p.length < (p ++ x :: r).length) : (p ++ x :: r)[p.length] = x := by simp
theorem rd_dig {S p r : List UInt8} {f : Nat} {n : Int} {k : Nat} (hk : k < 10) (hS : S = p ++ UInt8.ofNat (48 + k) :: r) (hn : n ≤ 461168601842738790) : rdF S (f + 1) n p.length = rdF S f (10 * n + k) (p.length + 1) := by
  subst hS
  conv => lhs; unfold rdF
  have hl : p.length < (p ++ UInt8.ofNat (48 + k) :: r).length := by simp
  rw [dif_pos hl, app_at, chr_nat hk, if_pos (by omega), if_neg (by omega)]
  congr 3; omega
theorem rd_dec : ∀ (m u : Nat) (S p r : List UInt8) (f : Nat), S = p ++ (decF m u ++ r) → u < 10 ^ m → u ≤ 4611686018427387904 → rdF S (f + (decF m u).length) 0 p.length = rdF S f u (p.length + (decF m u).length)
  | 0, u, S, p, r, f, hS, h, h2 => by
    have : u = 0 := by simpa using h
    subst this
    exact rd_dig (k := 0) (n := 0) (by omega) hS (by omega)
  | m + 1, u, S, p, r, f, hS, h, h2 => by
    by_cases h1 : u < 10
    · rw [decF_pos (m + 1) u h1 (by omega)] at hS ⊢
      have := rd_dig (S := S) (p := p) (r := r) (f := f) (n := 0) h1 hS (by omega)
      rw [List.length_singleton, this]; congr 1; omega
    · rw [decF_step h1] at hS ⊢
      rw [List.append_assoc] at hS
      have ih := rd_dec m (u / 10) S p _ (f + 1) hS (by rw [Nat.pow_succ] at h; omega) (by omega)
      rw [List.length_append, List.length_singleton]
      have e1 : f + ((decF m (u / 10)).length + 1) = f + 1 + (decF m (u / 10)).length := by omega
      rw [e1, ih]
      have hS2 : S = (p ++ decF m (u / 10)) ++ UInt8.ofNat (48 + u % 10) :: r := by rw [hS]; simp
      have := rd_dig (f := f) (n := ((u / 10 : Nat) : Int)) (show u % 10 < 10 by omega) hS2 (by omega)
      rw [List.length_append] at this
      rw [this]
      have e2 : 10 * ((u / 10 : Nat) : Int) + ((u % 10 : Nat) : Int) = (u : Int) := by omega
      rw [e2, Nat.add_assoc]
theorem rd_stop {S : List UInt8} {f : Nat} {n : Int} {j : Nat} (h : ∀ hj : j < S.length, ¬ (48 ≤ S[j].toNat ∧ S[j].toNat ≤ 57)) : rdF S f n j = (n, j) := by
  cases f with
  | zero => rfl
  | succ f =>
    unfold rdF
    by_cases hj : j < S.length
    · rw [dif_pos hj, if_neg (h hj)]
    · rw [dif_neg hj]
theorem rd_all {u : Nat} {S p r : List UInt8} (hu : u ≤ 4611686018427387904) (hS : S = p ++ (decF 19 u ++ r)) (hr : ∀ x t, r = x :: t → ¬ (48 ≤ x.toNat ∧ x.toNat ≤ 57)) : rdF S 19 0 p.length = ((u : Int), p.length + (decF 19 u).length) := by
  have hl : (decF 19 u).length ≤ 19 := decF_le 18 u (by rw [ten19]; omega)
  have := rd_dec 19 u S p r (19 - (decF 19 u).length) hS (by rw [ten19]; omega) hu
  rw [show 19 - (decF 19 u).length + (decF 19 u).length = 19 by omega] at this
  rw [this]
  refine rd_stop fun hj => ?_
  rcases r with _ | ⟨x, t⟩
  · subst hS; simp at hj
  · have e : S = (p ++ decF 19 u) ++ x :: t := by rw [hS]; simp
    have hx := hr x t rfl
    have h2 : S[p.length + (decF 19 u).length] = x := by
      subst e
      have := app_at (p ++ decF 19 u) x t (by simp)
      simp
    rw [h2]; exact hx
theorem pi_txt {n d : Int} (h : VF n d) : piN (txtL n d) = n ∧ piD (txtL n d) = d := by
  have hn := h.n
  have hd := h.d
  have hp := h.low.pos
  have e0 : ∃ r, txtL n d = itoaC n ++ r ∧ (∀ x t, r = x :: t → ¬ (48 ≤ x.toNat ∧ x.toNat ≤ 57)) ∧ r = if d = 1 then [] else 47 :: decF 19 d.toNat := by
    unfold txtL
    by_cases h1 : d = 1
    · rw [if_pos h1]; exact ⟨[], by simp, fun x t h => (by cases h), by rw [if_pos h1]⟩
    · rw [if_neg h1]; exact ⟨47 :: itoaC d, rfl, fun x t h => (by cases h; decide), by rw [if_neg h1]; unfold itoaC; rw [if_neg (by omega)]⟩
  obtain ⟨r, e1, hr, er⟩ := e0
  generalize hT : txtL n d = T at *
  have step : piN T = n ∧ (piA T).2 = (itoaC n).length := by
    by_cases h0 : n < 0
    · have ei : itoaC n = [45] ++ decF 19 n.natAbs := by unfold itoaC; rw [if_pos h0]; rfl
      have hb : piB T = true := by rw [e1, ei]; rfl
      have hA := rd_all (S := T) (p := [45]) (r := r) (u := n.natAbs) hn (by rw [e1, ei]; simp) hr
      unfold piN piA
      rw [if_pos hb, if_pos hb]
      rw [List.length_singleton] at hA
      rw [hA, ei, List.length_append, List.length_singleton]
      exact ⟨by simp only []; omega, rfl⟩
    · have ei : itoaC n = decF 19 n.toNat := by unfold itoaC; rw [if_neg h0]
      have hb : ¬ piB T = true := by
        rcases hd : decF 19 n.toNat with _ | ⟨c, t⟩
        · exact absurd hd (decF_ne _ _)
        · have hc := decF_dig 19 n.toNat c (by rw [hd]; simp)
          rw [e1, ei, hd]
          show ¬ (c == 45) = true
          rw [beq_iff_eq]
          rintro rfl; exact absurd hc.1 (by decide)
      have hA := rd_all (S := T) (p := []) (r := r) (u := n.toNat) (by omega) (by rw [e1, ei]; simp) hr
      unfold piN piA
      rw [if_neg hb, if_neg hb]
      rw [List.length_nil] at hA
      rw [hA, ei]
      exact ⟨by simp only []; omega, by simp⟩
  refine ⟨step.1, ?_⟩
  unfold piD
  rw [step.2]
  have hl : T.length = (itoaC n).length + r.length := by rw [e1, List.length_append]
  by_cases h1 : d = 1
  · rw [if_pos h1] at er; subst er
    rw [if_neg (by rw [hl]; simp)]; exact h1.symm
  · rw [if_neg h1] at er
    rw [if_pos (by rw [hl, er]; simp)]
    have hA := rd_all (S := T) (p := itoaC n ++ [47]) (r := []) (u := d.toNat) (by omega) (by rw [e1, er]; simp) (fun x t h => by cases h)
    rw [List.length_append, List.length_singleton] at hA
    rw [hA]
    show ((d.toNat : Nat) : Int) = d
    omega
theorem txOK_vf {n d : Int} {s : List UInt8} (h : txOK n d s = true) : VF n d ∧ txtL n d = s := by
  unfold txOK at h
  rw [Bool.and_eq_true, beq_iff_eq] at h
  exact ⟨vf_of h.1, h.2⟩
theorem two_read (s : List UInt8) : pcOK s = piOK s ∧ (pcOK s = true → pcN s = piN s ∧ pcD s = piD s) := by
  by_cases h : pcOK s = true
  · obtain ⟨h1, h2⟩ := txOK_vf h
    obtain ⟨e1, e2⟩ := pi_txt h1
    rw [h2] at e1 e2
    refine ⟨?_, fun _ => ⟨e1.symm, e2.symm⟩⟩
    unfold piOK pcOK
    rw [e1, e2]
  · by_cases k : piOK s = true
    · obtain ⟨h1, h2⟩ := txOK_vf k
      obtain ⟨e1, e2⟩ := pc_txt h1
      rw [h2] at e1 e2
      exact absurd (by unfold pcOK; rw [e1, e2]; exact k) h
    · have e1 : pcOK s = false := by simpa using h
      have e2 : piOK s = false := by simpa using k
      rw [e1, e2]; exact ⟨rfl, fun h => by cases h⟩
theorem pcOK_txt {n d : Int} (h : VF n d) : pcOK (txtL n d) = true := by
  unfold pcOK txOK
  obtain ⟨e1, e2⟩ := pc_txt h
  rw [e1, e2, vB_iff.2 h]; simp

end Go.Proofs.YtmdbfhkineaheaaDoor

namespace Go.Proofs.YtmdbfhkineaheaaDoor
open Go.Sx
set_option maxRecDepth 100000

end Go.Proofs.YtmdbfhkineaheaaDoor

namespace Go.Proofs.YtmdbfhkineaheaaDoor
open Go.Sx
set_option maxRecDepth 100000

/-! ### FractionLimits -/

end Go.Proofs.YtmdbfhkineaheaaDoor

namespace Go.Proofs.YtmdbfhkineaheaaDoor
open Go.Sx
set_option maxRecDepth 100000

/-! ### FractionTexts -/

theorem tx_same (T : ByteArray) : (!(((if pcOK T.data.toList = true then pcN T.data.toList else 0) == if piOK T.data.toList = true then piN T.data.toList else 0) &&
   (((if pcOK T.data.toList = true then pcD T.data.toList else 0) == if piOK T.data.toList = true then piD T.data.toList else 0) && true) &&
   (((if pcOK T.data.toList = true then (0 : Int) else 5) == if piOK T.data.toList = true then 0 else 5) && true))) = false := by
  obtain ⟨h1, h2⟩ := two_read T.data.toList
  rw [← h1]
  by_cases h : pcOK T.data.toList = true
  · obtain ⟨e1, e2⟩ := h2 h
    simp only [h, if_true, e1, e2, beq_self_eq_true]; rfl
  · simp only [h, if_false, beq_self_eq_true]; rfl
theorem tx_back (T : ByteArray) : (((if pcOK T.data.toList = true then (0 : Int) else 5) == 0) && !strEq (strB (txtL (if pcOK T.data.toList = true then pcN T.data.toList else 0) (if pcOK T.data.toList = true then pcD T.data.toList else 0))) T) = false := by
  by_cases h : pcOK T.data.toList = true
  · have h2 := (txOK_vf h).2
    simp only [h, if_true]
    have : strEq (strB (txtL (pcN T.data.toList) (pcD T.data.toList))) T = true := by
      conv => lhs; rhs; rw [← strB_of T]
      rw [strEq_list, h2]; simp
    rw [this]; rfl
  · simp only [h, if_false]; rfl
theorem tx_need (T : ByteArray) : ((if pcOK T.data.toList = true then (0 : Int) else 5) == 0) = true → VF (if pcOK T.data.toList = true then pcN T.data.toList else 0) (if pcOK T.data.toList = true then pcD T.data.toList else 0) := fun h => by
  by_cases k : pcOK T.data.toList = true
  · simp only [k, if_true]; exact (txOK_vf k).1
  · simp only [k, if_false] at h; exact absurd h (by decide)
theorem tx_inv {n d : Int} (h : VF n d) : (!((if pcOK (strB (txtL n d)).data.toList = true then pcN (strB (txtL n d)).data.toList else 0) == n && ((if pcOK (strB (txtL n d)).data.toList = true then pcD (strB (txtL n d)).data.toList else 0) == d && true) && ((if pcOK (strB (txtL n d)).data.toList = true then (0 : Int) else 5) == 0 && true))) = false := by
  obtain ⟨e1, e2⟩ := pc_txt h
  simp only [strB_list, pcOK_txt h, if_true, e1, e2, beq_self_eq_true]; rfl

theorem texts_sat {x0 x1 a b c : Int} {s : ByteArray} (hx0 : I64 x0) (hx1 : I64 x1) (ha : 0 ≤ a ∧ a ≤ 255) (hb : 0 ≤ b ∧ b ≤ 255) (hc : 0 ≤ c ∧ c ≤ 255) :
    Sat Tryd.prog (TTx (.br .nil (.br .nil (.br (uN 3 .nil) (uN 2 .nil)))) 4 [.agg [iv x0, iv x1], .agg [.d (.x (.int .u8 a)), .d (.x (.int .u8 b)), .d (.x (.int .u8 c))], .d (.x (.string s))]) (· = bv true) := by
  constructor
  rw [LTe_eq]; unfold LTe
  have g0 : ∀ A B d : ByteArray, List.getD [A, B] 0 d = A := fun _ _ _ => rfl
  have g1 : ∀ A B d : ByteArray, List.getD [A, B] 1 d = B := fun _ _ _ => rfl
  simp only [LTe_q1, LTe_q2, LTe_q3, LTe_q4, LTe_q5, LTe_q6, LTe_q7, LTe_q8, LTe_q9, LTe_q10, cond_true, g0, g1, mN, mD]
  have hp := mdQ_fits x0 x1
  obtain ⟨p, ep⟩ : ∃ p, mdQ x0 x1 = p := ⟨_, rfl⟩
  rw [ep] at hp
  simp only [ep]
  have vp := VF.of hp
  have i0 : (I64 x0 ∧ I64 x1) = True := eq_true ⟨hx0, hx1⟩
  have hl : (strB (txtL p.num p.den)).size ≤ 60 := by
    rw [strB_size]
    have hn := vp.n
    have hd := vp.d
    have hq := vp.low.pos
    have l1 := itoaC_len (n := p.num) (by omega) (by omega)
    have l2 := itoaC_len (n := (p.den : Int)) (by omega) (by omega)
    unfold txtL
    split
    · omega
    · rw [List.length_append, List.length_cons]; omega
  have ti := tx_inv vp
  obtain ⟨t, et⟩ : ∃ t, strB (txtL p.num p.den) = t := ⟨_, rfl⟩
  rw [et] at ti hl
  simp only [et]
  have l1 := edB_size t a b c
  have l2 := edB_size (edB t a b c) b c a
  obtain ⟨o1, eo1⟩ : ∃ o, edB t a b c = o := ⟨_, rfl⟩
  rw [eo1] at l1 l2
  simp only [eo1]
  obtain ⟨o2, eo2⟩ : ∃ o, edB o1 b c a = o := ⟨_, rfl⟩
  rw [eo2] at l2
  simp only [eo2]
  have z1 : (t.size < 4294967281) = True := eq_true (by omega)
  have z2 : (o1.size < 4294967281) = True := eq_true (by omega)
  have z3 : (o2.size < 4294967281) = True := eq_true (by omega)
  have ha' : (0 ≤ a ∧ a ≤ 255) = True := eq_true ha
  have hb' : (0 ≤ b ∧ b ≤ 255) = True := eq_true hb
  have hc' : (0 ≤ c ∧ c ≤ 255) = True := eq_true hc
  simp only [tx_same, tx_back, ti, Bool.false_or]
  by_cases hs : (s.size : Int) ≤ 100
  · have z4 : (s.size < 4294967281) = True := eq_true (by omega)
    have hs' : decide ((s.size : Int) ≤ 100) = true := decide_eq_true hs
    simp +decide only [sat_need, sat_ite, sat_ret, bv_inj, hs', z1, z2, z3, z4, ha', hb', hc', vp, i0, List.length_cons, List.length_nil, beq_self_eq_true, bne_self_eq_false, decide_true, Bool.and_true, Bool.true_and, Bool.not_true, Bool.or_false, Bool.false_or, Bool.or_true, Bool.true_or, Bool.and_false, Bool.false_and, true_and, and_true, false_imp_iff, true_imp_iff, reduceCtorEq, forall_const, and_self, Bool.not_false, false_and, and_false, not_true_eq_false, not_false_eq_true, imp_self, implies_true]
    exact ⟨tx_need o1, tx_need o2, tx_need s⟩
  · have hs' : decide ((s.size : Int) ≤ 100) = false := decide_eq_false hs
    simp +decide only [sat_need, sat_ite, sat_ret, bv_inj, hs', z1, z2, z3, ha', hb', hc', vp, i0, List.length_cons, List.length_nil, beq_self_eq_true, bne_self_eq_false, decide_true, Bool.and_true, Bool.true_and, Bool.not_true, Bool.or_false, Bool.false_or, Bool.or_true, Bool.true_or, Bool.and_false, Bool.false_and, true_and, and_true, false_imp_iff, true_imp_iff, reduceCtorEq, forall_const, and_self, Bool.not_false, false_and, and_false, not_true_eq_false, not_false_eq_true, imp_self, implies_true]
    exact ⟨tx_need o1, tx_need o2⟩

theorem fractionTexts_ok : ∃ c : Ctr, CtrOK Tryd.prog 4 c ∧ ∀ ss, okArgs Tryd.prog 6 [22, 35, 9] ss → (c ss).ev (bv true) := by
  refine law_ctr CTx_ok DTx_ok (by kernel_rfl) (by kernel_rfl) fun ss h => ?_
  obtain ⟨d1, _, rfl, h1, d2, _, rfl, h2, d3, _, rfl, h3, rfl⟩ := h
  obtain ⟨a1, b1, ha1, hb1, rfl⟩ := okPair h1
  obtain ⟨ks, hl, rfl, hk⟩ := okT_u8s (m := 3) Tryd.underlying35 Tryd.underlying5 h2
  obtain ⟨s, _, rfl⟩ := okT_string Tryd.underlying9 h3
  obtain ⟨a, b, c, rfl⟩ : ∃ a b c, ks = [a, b, c] := by
    match ks, hl with
    | [a, b, c], _ => exact ⟨a, b, c, rfl⟩
  have r1 := hk a (by simp)
  have r2 := hk b (by simp)
  have r3 := hk c (by simp)
  have := texts_sat (s := s) ha1 hb1 (a := a) (b := b) (c := c) (by omega) (by omega) (by omega)
  simp only [svT, Tryd.underlying22, Tryd.underlying35, Tryd.underlying9]
  exact ⟨200, _, this⟩

end Go.Proofs.YtmdbfhkineaheaaDoor

/- A law's frame where variables are listed: what is listed, and the shape of the world, both are handed to the walk. -/
namespace Go
variable {H : Type} {enc : TypeId × Value → H}

theorem returnsInHanded_of_change_ands {a : Assume} {C : Checked} {os : Os} {f : FuncId} {fn : Func} {s : ChangeSpec} {conds : List PathCond} {apart fresh handsOn again : Bool} {X : World → Array Value → Prop}
    (hX : ∀ (w w' : World) (args : Array Value), w.heap = w'.heap → X w args → X w' args)
    (own : ownKnob C.prog.godebug = none) (started : os.Started) (noInit : C.prog.inits.idxOf? f = none) (hfn : C.prog.funcs[f]? = some fn)
    (witness : ∃ (w : World) (tape : Tape) (i : Input), w.os = os ∧ (w.forCall tape i).Shaped C.prog ∧ i.vars = [] ∧ Input.okWide C.prog (w.forCall tape i) .any w.heap.size f i ∧
      ((s.pre enc C.prog fn conds apart (w.forCall tape i).memory i.args ∧ X (w.forCall tape i).memory i.args) ∧ sizedMet enc C.prog fn (OpenSpec.ofChange s) apart (w.forCall tape i).memory i.args) ∧ a.holds C.prog (lone (Frame.enter C.prog f i.args .normal) [] (w.forCall tape i)))
    (contract : ∀ (W : World) (base : Nat) (args : Array Value) (ds gs : List (DataW H)) (before : List MemPlace),
      (∀ (j : Nat) t v, fn.params[j]? = some t → args[j]? = some v → Value.okWide C.prog W .any base t v) →
      DataW.Whole enc C.prog fn.params.toList s.vars apart W args.toList ds gs before →
      conds.all (PathCond.test C.prog ⟨fn.params.toList, ds, s.plain.varTypes C.prog, gs⟩) = true →
      (DataW.weightsEach C.prog (fn.params.toList ++ s.plain.varTypes C.prog) (ds ++ gs)).all (· ≤ reachBytes) = true → X W args → W.ShapedOpen C.prog →
      a.holds C.prog (lone (Frame.enter C.prog f args .normal) [] W) →
      Calls C.prog f args W fun e W' => ∃ v, e = .returned v ∧ s.post enc C.prog fn apart fresh handsOn again W args v W') :
    ReturnsInHanded a C os f .any (fun w args => (s.pre enc C.prog fn conds apart w args ∧ X w args) ∧ sizedMet enc C.prog fn (OpenSpec.ofChange s) apart w args) (s.post enc C.prog fn apart fresh handsOn again) := by
  refine returnsInHanded_of_calls own started noInit witness ?_
  intro w tape i _ hsh _ hok hpre hholds
  obtain ⟨_, _, _, fn', hfn', _, _, _, _, hval⟩ := hok
  have e : fn' = fn := Option.some.inj (hfn'.symm.trans hfn)
  subst e
  obtain ⟨⟨⟨ds, gs, before, hw, hc⟩, hx⟩, hz⟩ := hpre
  have hw' := DataW.Whole.of_heap (w' := w.forCall tape i) (by rfl) hw
  refine (contract (w.forCall tape i) w.heap.size i.args ds gs before hval hw' hc (hz.weights hw) (hX _ _ _ (by rfl) hx) hsh hholds).mono fun e W' ⟨v, he, hp⟩ => ?_
  subst he
  exact ChangeSpec.post_blind hp

end Go

namespace Go.Proofs.YtmdbfhkineaheaaDoor
open Go.Sx
set_option maxRecDepth 100000

/-! ### What the row's list of variables gives -/

def laid5 : List (String × DataW Unit) := [("math/bits.deBruijn32tab", Rows.laid_math_bits_deBruijn32tab), ("math/bits.deBruijn64tab", Rows.laid_math_bits_deBruijn64tab), ("internal/strconv.uint64pow10", Rows.laid_internal_strconv_uint64pow10), ("strconv.ErrRange", Rows.laid_strconv_ErrRange), ("strconv.ErrSyntax", Rows.laid_strconv_ErrSyntax)]
theorem gPow : Tryd.prog.globalNamed "internal/strconv.uint64pow10" = some 2 := by kernel_rfl
theorem gSyn : Tryd.prog.globalNamed "strconv.ErrSyntax" = some 4 := by kernel_rfl
theorem gRng : Tryd.prog.globalNamed "strconv.ErrRange" = some 5 := by kernel_rfl
theorem plain5 : (laid5.all fun x => x.2.handleName?.isNone) = true := by kernel_rfl
theorem var_obj {w : World} {name : String} {g : Nat} {cs : Array Value} (hg : Tryd.prog.globalNamed name = some g) (h : w.var? Tryd.prog name = some cs) : ∃ e fr, w.heap[g]? = some (.cells cs e fr) := by
  unfold World.var? at h
  rw [hg] at h
  simp only [Option.bind_some] at h
  split at h
  · rename_i c e fr heq
    simp only [Option.some.injEq] at h; subst h
    exact ⟨e, fr, heq⟩
  · cases h
theorem typePow : (Tryd.prog.globals[2]?).map (·.type) = some 99 := by kernel_rfl
theorem typeSyn : (Tryd.prog.globals[4]?).map (·.type) = some 78 := by kernel_rfl
theorem typeRng : (Tryd.prog.globals[5]?).map (·.type) = some 78 := by kernel_rfl
theorem star : "*" ++ "errors.errorString" = "*errors.errorString" := by decide
theorem rowErr (u : TypeId) (h : Tryd.prog.typeName? 3 u = some "*errors.errorString") : u = 117 :=
  typeName_ptr_named (nm := "errors.errorString") (by rw [star]; kernel_rfl) (by kernel_rfl) (by decide) u (by rw [star]; exact h)

theorem glob_of {W : World} (h : laidMetH Tryd.prog laid5 W) (hs : W.ShapedOpen Tryd.prog) : GlobOK W (fun b => b < W.heap.size) := by
  rw [MakeChecks.laidMetH_plain _ _ _ plain5] at h
  have h2 : laidMet Tryd.prog [("internal/strconv.uint64pow10", Lib.tabData .u64 Lib.pow10Tab), ("strconv.ErrRange", Rows.laid_strconv_ErrRange), ("strconv.ErrSyntax", Rows.laid_strconv_ErrSyntax)] W := h.tail.tail
  have ht := Lib.tabIs_of_head gPow typePow Tryd.underlying99 Tryd.underlying49 (by kernel_rfl) (by kernel_rfl) h2
  obtain ⟨a0, s0, hv0, -, -, -⟩ := laid_sentinel h2.tail gRng typeRng Tryd.underlying78 rowErr Tryd.underlying117 Tryd.underlying119 rfl rfl Tryd.underlying9 (by kernel_rfl) (by kernel_rfl)
  obtain ⟨a1, s1, hv1, -, -, -⟩ := laid_sentinel h2.tail.tail gSyn typeSyn Tryd.underlying78 rowErr Tryd.underlying117 Tryd.underlying119 rfl rfl Tryd.underlying9 (by kernel_rfl) (by kernel_rfl)
  obtain ⟨m, hm⟩ := cell_of_shapedOpen_int (g := 3) (t := 3) (zero := #[.int .i64 0]) (k := .i64) hs (of_decide_eq_true (by kernel_rfl)) (by kernel_rfl) rfl (by kernel_rfl) (by kernel_rfl) Tryd.underlying3
  have k1 : okTab Lib.pow10Tab W.heap[2]? := by
    obtain ⟨e, fr, hh⟩ := var_obj gPow ht
    exact ⟨e, fr, hh⟩
  have k2 : okErr W.heap[4]? := by
    obtain ⟨e, fr, hh⟩ := var_obj gSyn hv1
    exact ⟨_, e, fr, _, _, hh, rfl⟩
  have k3 : okErr W.heap[5]? := by
    obtain ⟨e, fr, hh⟩ := var_obj gRng hv0
    exact ⟨_, e, fr, _, _, hh, rfl⟩
  have k4 : okInt W.heap[3]? := cell_okInt hm
  have lt : ∀ {g : Nat} {o : Obj}, W.heap[g]? = some o → g < W.heap.size := fun hh => (Array.getElem?_eq_some_iff.1 hh).1
  refine ⟨fun g n cell hg => (by cases hg), fun g Q hg => ?_⟩
  match g, hg with
  | 2, hg => cases hg; exact ⟨by obtain ⟨e, fr, hh⟩ := k1; exact lt hh, k1⟩
  | 3, hg => cases hg; exact ⟨by obtain ⟨c, e, fr, m, hh, _⟩ := k4; exact lt hh, k4⟩
  | 4, hg => cases hg; exact ⟨by obtain ⟨c, e, fr, t, p, hh, _⟩ := k2; exact lt hh, k2⟩
  | 5, hg => cases hg; exact ⟨by obtain ⟨c, e, fr, t, p, hh, _⟩ := k3; exact lt hh, k3⟩

end Go.Proofs.YtmdbfhkineaheaaDoor

namespace Go.Proofs.YtmdbfhkineaheaaDoor
open Go.ChangeShapes Go.WideShapes Go.ChangeAt Go.RowKit Go.Sx

theorem own : ownKnob Tryd.prog.godebug = none := by kernel_rfl
theorem laidOut : laidOutB Tryd.prog = true := by kernel_rfl
theorem door_met (os : Os) (args : Array Value) : laidMetH Tryd.prog laid5 ((World.doorLaid Tryd.prog 62 os).forCall (fun _ _ => 0) ⟨#[], args, []⟩).memory :=
  laidMetH_of_parts3 (fuel := 8) (laidMet_of_run' 8 (by kernel_rfl) (by kernel_rfl)) (by kernel_rfl) (by kernel_rfl)

set_option maxRecDepth 100000 in
theorem lifted (os : Os) (started : os.Started) (H : Type) (enc : TypeId × Value → H) :
    ReturnsInHanded {} Tryd.checked os 4 .any (fun w args => (Rows.fractionTextsSpec.pre enc Tryd.prog Tryd.f4 Rows.fractionTextsRow.domain false w args ∧ laidMetH Tryd.prog laid5 w) ∧ sizedMet enc Tryd.prog Tryd.f4 (OpenSpec.ofChange Rows.fractionTextsSpec) false w args)
      (Rows.fractionTextsSpec.post enc Tryd.prog Tryd.f4 false true false false) := by
  refine returnsInHanded_of_change_ands (C := Tryd.checked) (X := fun w _ => laidMetH Tryd.prog laid5 w) (fun _ _ _ hh h => h.of_heap hh) own started (by kernel_rfl) Tryd.func4
    (ChangeSpec.witness_shaped (enc := enc) (C := Tryd.checked) (os := os) (X := fun w _ => laidMetH Tryd.prog laid5 w) false (World.doorLaid Tryd.prog 62 os) #[.agg #[.int .i64 0, .int .i64 0], .agg #[.int .u8 0, .int .u8 0, .int .u8 0], .string ⟨#[]⟩] 8 rfl (World.shaped_of_RefB (by kernel_rfl) (by kernel_rfl)) (by kernel_rfl) (by kernel_rfl) (by kernel_rfl) (door_met os _)) ?_
  intro W base args ds gs before hval0 hW hcnd _ hL hsh _
  have hval : ∀ (j : Nat) t v, Tryd.f4.params[j]? = some t → args[j]? = some v → Value.okWide Tryd.prog W .any base t v := hval0
  have hW' := hW
  obtain ⟨p, q, hA0, hV, rfl, hfz, hnd⟩ := hW
  have hA : DataW.TrodAll enc Tryd.prog W 0 (fun _ => true) true Tryd.f4.params.toList args.toList ds p := hA0
  rw [Tryd.params4] at hA hval
  obtain ⟨rfl, rfl⟩ := trodVars_none hV
  obtain ⟨v0, vs0, d0, ds0, p0, q0, hargs, rfl, e0, h0, r0⟩ := trodAll_cons hA
  obtain ⟨v1, vs1, d1, ds1, p1, q1, e1_1, rfl, e2_1, h1, r1⟩ := trodAll_cons r0
  obtain ⟨v2, vs2, d2, ds2, p2, q2, e1_2, rfl, e2_2, h2, r2⟩ := trodAll_cons r1
  obtain ⟨e3, rfl, e4⟩ := trodAll_nil r2
  obtain ⟨c, hc, hev⟩ := fractionTexts_ok
  have hlt := trodAll_lt hA
  obtain ⟨ss, o1, o2, o3⟩ := open_args (F := fun b => b < W.heap.size) (n := 6) (r := .any) (base := base) (by kernel_rfl) hA (fun j t v a b => hval j t v (by simpa using a) (by simpa using b)) (fun q hq => hlt q hq)
  refine (law_of hc (F := fun b => b < W.heap.size) (fun b hb => hb) (glob_of hL hsh) (ss := ss) ⟨by simpa using o2, fun i hi => by simpa [List.getD, Array.getD_eq_getD_getElem?] using o3 i hi⟩ (hev ss o1)).mono fun e W' ⟨he, bel⟩ => ?_
  subst he
  have hback := trodAll_below laidOut bel (by kernel_rfl) hA
  exact ⟨_, rfl, _, _, _, [], _, [], hW', trodAll_mk1 (shut_bool Tryd.underlying4 _), hback, rfl, bel.frame _, fun h => by cases h⟩

theorem over : Rows.fractionTextsRow.holds Tryd.pinned (OpenSpec.ofChange Rows.fractionTextsSpec) :=
  OpenClaim.holds_of_wide 4 Tryd.f4 rfl rfl rfl rfl rfl rfl rfl ⟨rfl, rfl, rfl, rfl, rfl⟩ rfl rfl rfl rfl rfl (by kernel_rfl) Tryd.func4 (by kernel_rfl)
    (of_decide_eq_true (by kernel_rfl)) (by unfold Func.isWrapper; first | (rw [if_pos (by decide +kernel)]; kernel_rfl) | (rw [if_neg (by decide +kernel)]; exact ⟨rfl, rfl⟩))
    (fun os started H enc _ => lifted os started H enc)

theorem fractionTexts_holds : Rows.FractionTextsCardSaid :=
  Claim7.holds_tied_plain_at .later [] [.data, .data, .data, .sentinel, .sentinel] true (true, "6d02be5a01351df019767fbefeb9d3f06b73233ad493a98c11bdba6b4cb22437") true
    over (fun _ h => by cases h) (by kernel_rfl) (fun _ h => by cases h) fractionTexts_row_tie rfl ⟨rfl, rfl⟩ (by kernel_rfl) rfl
    (fun f fn hf hfn => by
      obtain rfl : f = 4 := Option.some.inj ((show Tryd.prog.funcNamed "wireloom/wireloomlaw02.FractionTexts" = some 4 by kernel_rfl).symm.trans hf) |>.symm
      obtain rfl : fn = Tryd.f4 := (Option.some.inj (Tryd.func4.symm.trans hfn)).symm
      exact ⟨by kernel_rfl, fun j t ht => by
        rw [Tryd.params4] at ht
        have hm : t ∈ [22, 35, 9] := by simpa using Array.mem_of_getElem? ht
        have hall : ([22, 35, 9].all fun u => !Tryd.prog.wantsStandIn u) = true := by kernel_rfl
        exact (show Tryd.prog.wantsStandIn t = false by simpa using List.all_eq_true.1 hall t hm)⟩)
    (by kernel_rfl)
#print axioms fractionTexts_holds
end Go.Proofs.YtmdbfhkineaheaaDoor

