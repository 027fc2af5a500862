/- Part of a proof of the given statements of this seat (SxMdV): no conditions beyond those typed here. -/
import Derived.Test.YtcbjclmjkilphaaSxMdU
set_option linter.unusedVariables false
set_option linter.unusedSimpArgs false
namespace Go.Proofs.Ytcbjclmjkilphaa
open Go.Sx
set_option maxRecDepth 100000
variable {lo hi st er : Int} {L p : Nat → Int} {n m k : Nat}

/-! ### drift.Bounds -/

noncomputable def bdR (lo hi st er : Int) (n : Nat) (L : Nat → Int) : SV := .tup [iv (zif (dB lo hi st er L n) (dL lo st er L n)), iv (zif (dB lo hi st er L n) (dH hi st er L n)), iv (dE lo hi st er L n)]

theorem bd_sat (hv : dV lo hi st er) (hn : n ≤ 1000) : Sat Try.prog (tB lo hi st er n L) (· = bdR lo hi st er n L) := by
  constructor
  rw [LB_eq]; unfold LB
  rw [show (fun i => intOf1 (DV.x (Value.int IntKind.i64 (L i)))) = L from rfl]
  refine ⟨⟨hv, hn, fun i hi => ⟨_, rfl⟩⟩, fun hc => ?_, fun hc => ?_⟩
  · have hb : dB lo hi st er L n = false := by
      cases h : dB lo hi st er L n with
      | false => rfl
      | true => simp [dE, h] at hc
    simp only [Tree.sat, bdR, hb, zif, cond_false]
  · have hb : dB lo hi st er L n = true := by
      cases h : dB lo hi st er L n with
      | true => rfl
      | false => simp [dE, h] at hc
    rw [dCnt_all hb]
    have e : w64 (((n + 1 : Nat) : Int) - 1) = n := by rw [w64_of (by omega) (by omega)]; omega
    rw [e]
    refine ⟨by omega, by decide, by decide, by decide, by decide, ?_⟩
    simp only [Tree.sat, bdR, hb, zif, cond_true, dE, Int.toNat_natCast]

noncomputable def cBounds : Ctr := fun ss => match ss with
  | [.d (.x (.int .i64 lo)), .d (.x (.int .i64 hi)), .d (.x (.int .i64 st)), .d (.x (.int .i64 er)), .d (.ro n 1 cell)] =>
    .need (dV lo hi st er ∧ n ≤ 1000 ∧ ∀ i, i < n → ∃ b, cell i 0 = .x (.int .i64 b)) (.ret (bdR lo hi st er n (intCell cell)))
  | _ => .fail

theorem le_ro64 {n : Nat} {cell : Nat → Nat → DV} (hb : ∀ i, i < n → ∃ b, cell i 0 = .x (.int .i64 b)) : ∀ i j, i < n → j < 1 → cell i j = .x (.int .i64 (intCell cell i)) := by
  intro i j hi hj
  obtain rfl : j = 0 := by omega
  obtain ⟨b, e⟩ := hb i hi
  simp [intCell, e, intOf1]

theorem cBounds_ok : CtrOK Try.prog 30 cBounds := by
  refine ctrOK_leS C4x_ok D4x_ok (by kernel_rfl) (by kernel_rfl) fun ss r h => ?_
  unfold cBounds at h
  split at h
  · rename_i lo hi st er n cell
    obtain ⟨⟨hv, hn, hb⟩, rfl⟩ := h
    refine ⟨[iv lo, iv hi, iv st, iv er, ro64 n (intCell cell)], 200, .nil, ?_, bd_sat hv hn⟩
    simp only [leSVs, leSV, iv, ro64, leD, and_true, true_and]
    exact le_ro64 hb
  · exact h.elim

/-! ### drift.Possible -/

/-- The k-th step of a path. -/
def stepB (st er : Int) (L p : Nat → Int) (k : Nat) : Bool := decide (1 ≤ p (k + 1)) && (decide (p k - st ≤ p (k + 1)) && decide (p (k + 1) ≤ p k + st)) && (decide (p (k + 1) - er ≤ L k) && decide (L k ≤ p (k + 1) + er))
def pthB (lo hi st er : Int) (L p : Nat → Int) : Nat → Bool
  | 0 => decide (lo ≤ p 0) && decide (p 0 ≤ hi)
  | k + 1 => pthB lo hi st er L p k && stepB st er L p k
def posB (lo hi st er : Int) (n : Nat) (L : Nat → Int) (m : Nat) (p : Nat → Int) : Bool := decide (m = n + 1) && pthB lo hi st er L p n

theorem pthB_mono {j k : Nat} (h : j ≤ k) (hb : pthB lo hi st er L p k = true) : pthB lo hi st er L p j = true := by
  induction k with
  | zero => obtain rfl : j = 0 := by omega
            exact hb
  | succ k ih =>
    rcases Nat.lt_or_ge j (k + 1) with h1 | h1
    · simp only [pthB, Bool.and_eq_true] at hb; exact ih (by omega) hb.1
    · obtain rfl : j = k + 1 := by omega
      exact hb

/-- What has been looked at before index i. -/
def preB (lo hi st er : Int) (L p : Nat → Int) : Nat → Bool
  | 0 => true
  | k + 1 => pthB lo hi st er L p k

theorem stepB_not : (decide (p (k + 1) < 1) || !(decide (p (k + 1) ≥ p k - st) && decide (p (k + 1) ≤ p k + st)) || !(decide (L k ≥ p (k + 1) - er) && decide (L k ≤ p (k + 1) + er))) = !stepB st er L p k := by
  unfold stepB
  rw [show decide (p (k + 1) < 1) = !decide (1 ≤ p (k + 1)) by rw [← decide_not]; congr 1; simp]
  simp only [Bool.not_and, ge_iff_le]

theorem pos_sat (hv : dV lo hi st er) (hn : n ≤ 1000) (hm : m ≤ maxLen) (hp : ∀ i, i < m → -4000000000000000000 ≤ p i ∧ p i ≤ 4000000000000000000) : Sat Try.prog (tP lo hi st er n L m p) (· = bv (posB lo hi st er n L m p)) := by
  constructor
  rw [LP_eq]; unfold LP
  have h1 := hv.l; have h2 := hv.h; have h3 := hv.s; have h4 := hv.e
  rw [w64_of (n := (n : Int) + 1) (by omega) (by omega)]
  refine ⟨fun hc => ?_, fun _ => ⟨fun hc => ?_, fun hc => ?_⟩⟩
  · simp only [Bool.or_eq_true, decide_eq_true_eq, lt_if, gt_if] at hc; omega
  · have : m ≠ n + 1 := by simp at hc; omega
    simp [Tree.sat, posB, this]
  have hmn : m = n + 1 := by simp at hc; omega
  subst hmn
  refine code_satS C4x_ok D4x_ok (n := 200) (n0 := 2) (nx := 2) (roots := []) (keep := [4, 5, 12, 13, 15, 37, 38, 39]) (drop := []) (h := .nil) (CP lo hi st er n L (n + 1) p) (NP lo hi st er n L (n + 1) p)
    (fun q s => ∃ k, q = n + 1 - k ∧ k ≤ n + 1 ∧ preB lo hi st er L p k = true ∧ s = invP lo hi st er n L (n + 1) p k)
    (fun e s => (e = .exit 0 ∧ pthB lo hi st er L p n = true ∧ s = invP lo hi st er n L (n + 1) p ((n + 1 : Nat) : Int)) ∨ ∃ k : Nat, e = .ret ∧ pthB lo hi st er L p n = false ∧ s = invP lo hi st er n L (n + 1) p k) ⟨n + 1, _, ⟨0, rfl, Nat.zero_le _, rfl, rfl⟩, ?_⟩ ?_ ?_
  · have hI := IP_eq lo hi st er n L (n + 1) p
    unfold IP inP at hI
    exact entA_sound hI
  · rintro q s ⟨k, rfl, hk, hb, rfl⟩
    have hbody : cutT 2 [] [4, 5, 12, 13, 15, 37, 38, 39] [] 2 .nil (exec Try.prog C4x D4x 200 bodyP (invP lo hi st er n L (n + 1) p k)) = _ := BP_eq lo hi st er n L (n + 1) p k
    constructor
    rw [hbody]; unfold BP
    simp only [show Int.toNat (k : Int) = k from rfl]
    refine ⟨fun hlt => ?_, fun hlt => ?_⟩
    · have hlt : k < n + 1 := by simp at hlt; omega
      have hpk := hp k hlt
      have e1 : w64 ((k : Int) + 1) = ((k + 1 : Nat) : Int) := by rw [w64_of (by omega) (by omega)]; omega
      rw [e1]
      cases k with
      | zero =>
        simp only [show ((0 : Nat) : Int) = 0 from rfl, show ((0 : Int) == 0) = true from rfl, show decide ((0 : Int) > 0) = false from rfl, Tree.sat, Bool.true_and, Bool.false_and, Bool.false_eq_true, false_and, false_implies, forall_const, true_and, Bool.not_eq_true', Int.toNat_zero, and_true, Bool.not_eq_false', Nat.lt_irrefl, show (0 : Nat) < 2 from by decide, show (1 : Nat) < 2 from by decide, show (0 : Int) ≤ 0 from by decide, show (0 : Int) < 2 from by decide, show (0 : Int) ≤ 1 from by decide, show (1 : Int) < 2 from by decide, implies_true]
        refine ⟨by omega, fun hc => ⟨_, .inr ⟨0, ?_, rfl⟩, Gc.refl _ _⟩, fun hc => ⟨n, _, by omega, ⟨1, by omega, by omega, hc, rfl⟩, Gc.refl _ _⟩⟩
        cases h : pthB lo hi st er L p n with
        | false => rfl
        | true => have h0 := pthB_mono (Nat.zero_le n) h; simp only [pthB] at h0; exact absurd (h0.symm.trans hc) (by decide)
      | succ j =>
        have hpj := hp j (by omega)
        rw [w64_of (n := ((j + 1 : Nat) : Int) - 1) (by omega) (by omega), show Int.toNat (((j + 1 : Nat) : Int) - 1) = j by omega]
        rw [w64_of (n := p j - st) (by omega) (by omega), w64_of (n := p j + st) (by omega) (by omega), w64_of (n := p (j + 1) - er) (by omega) (by omega), w64_of (n := p (j + 1) + er) (by omega) (by omega)]
        simp only [show (((j + 1 : Nat) : Int) == 0) = false by simp; omega, show decide (((j + 1 : Nat) : Int) > 0) = true from decide_eq_true (by omega), Tree.sat, Bool.true_and, Bool.false_and, Bool.false_eq_true, false_and, false_implies, forall_const, true_and, and_true, show (0 : Nat) < 2 from by decide, show (1 : Nat) < 2 from by decide, show (0 : Int) ≤ 0 from by decide, show (0 : Int) < 2 from by decide, show (0 : Int) ≤ 1 from by decide, show (1 : Int) < 2 from by decide, implies_true, and_self, imp_self, stepB_not]
        have hb' : pthB lo hi st er L p j = true := hb
        refine ⟨by omega, fun _ => by omega, fun _ => by omega, fun _ => by omega, fun hc => ⟨_, .inr ⟨j + 1, ?_, rfl⟩, Gc.refl _ _⟩, fun hc => ⟨n - (j + 1), _, by omega, ⟨j + 2, by omega, by omega, ?_, rfl⟩, Gc.refl _ _⟩⟩
        · cases h : pthB lo hi st er L p n with
          | false => rfl
          | true =>
            have h0 := pthB_mono (show j + 1 ≤ n by omega) h
            simp only [pthB, hb', Bool.true_and] at h0
            rw [h0] at hc; cases hc
        · have hc : stepB st er L p j = true := by simpa using hc
          simp only [preB, pthB, hb', hc, Bool.and_self]
    · have hlt : ¬ k < n + 1 := by simp at hlt; omega
      obtain rfl : k = n + 1 := by omega
      exact ⟨_, .inl ⟨rfl, hb, rfl⟩, Gc.refl _ _⟩
  · intro e s hq
    rcases hq with ⟨h1, hb, h2⟩ | ⟨k, h1, hb, h2⟩
    · have := KP_eq lo hi st er n L (n + 1) p ((n + 1 : Nat) : Int)
      rw [h1, h2, this]; unfold KP; constructor
      simp only [Tree.sat, posB, hb, decide_true, Bool.and_self]
    · have := KQ_eq lo hi st er n L (n + 1) p k
      rw [h1, h2, this]; unfold KQ; constructor
      simp only [Tree.sat, posB, hb, Bool.and_false]

noncomputable def cPoss : Ctr := fun ss => match ss with
  | [.d (.x (.int .i64 lo)), .d (.x (.int .i64 hi)), .d (.x (.int .i64 st)), .d (.x (.int .i64 er)), .d (.ro n 1 cell), .d (.ro m 1 cel2)] =>
    .need (dV lo hi st er ∧ n ≤ 1000 ∧ m ≤ maxLen ∧ (∀ i, i < n → ∃ b, cell i 0 = .x (.int .i64 b)) ∧ ∀ i, i < m → ∃ b, cel2 i 0 = .x (.int .i64 b) ∧ -4000000000000000000 ≤ b ∧ b ≤ 4000000000000000000) (.ret (bv (posB lo hi st er n (intCell cell) m (intCell cel2))))
  | _ => .fail

theorem cPoss_ok : CtrOK Try.prog 29 cPoss := by
  refine ctrOK_leS C4x_ok D4x_ok (by kernel_rfl) (by kernel_rfl) fun ss r h => ?_
  unfold cPoss at h
  split at h
  · rename_i lo hi st er n cell m cel2
    obtain ⟨⟨hv, hn, hm, hb, hb2⟩, rfl⟩ := h
    refine ⟨[iv lo, iv hi, iv st, iv er, ro64 n (intCell cell), ro64 m (intCell cel2)], 200, .nil, ?_, pos_sat hv hn hm fun i hi => ?_⟩
    · simp only [leSVs, leSV, iv, ro64, leD, and_true, true_and]
      exact ⟨le_ro64 hb, le_ro64 fun i hi => by obtain ⟨b, e, _⟩ := hb2 i hi; exact ⟨b, e⟩⟩
    · obtain ⟨b, e, h⟩ := hb2 i hi
      simpa [intCell, e, intOf1] using h
  · exact h.elim

end Go.Proofs.Ytcbjclmjkilphaa
