/- Part of a proof of the given statements of this seat (SxFzL, SxFzM, SxFzN, SxFzO, SxFzP, SxFzQ, SxFzR, SxFzS, SxFzT, SxDiv, SxFzU, SxFzV, SxFzW, SxFzWa, SxFzWb): no conditions beyond those typed here. -/
import Derived.Test.YtmdbfhkineaheaaGreatDoorSz05
set_option linter.unusedVariables false
set_option linter.unusedSimpArgs false
set_option linter.unusedSectionVars false

namespace Go.Proofs.YtmdbfhkineaheaaGreatDoor
open Go.Sx
set_option maxRecDepth 100000

theorem valN_cell (v : Nat) : valN (intCell fun i x => .x (.int .i64 (bitN v i : Int))) (blen v) = v := valN_bits v
theorem w64_div {x g : Nat} (h : x ≤ 4611686018427387904) : w64 (Int.tdiv (x : Int) (g : Int)) = ((x / g : Nat) : Int) := by
  have := Nat.div_le_self x g
  rw [Int.tdiv_eq_ediv_of_nonneg (by omega), ← Int.natCast_ediv]
  generalize x / g = y at *
  rw [w64_of (by omega) (by omega)]
theorem nat_neg (x : Nat) : decide ((x : Int) < 0) = false := by simp
theorem natAbs_cast (x : Nat) : Int.natAbs (x : Int) = x := rfl
theorem blen_two {x y : Nat} (hx : x ≤ 4611686018427387904) (hy : y ≤ 4611686018427387904) : blen (x * y) ≤ 500000 := by
  have h1 : x * y ≤ 4611686018427387904 * 4611686018427387904 := Nat.mul_le_mul hx hy
  have : blen (x * y) ≤ 130 := blen_le.2 (by omega)
  omega
theorem blen0 {v : Nat} : (((blen v : Nat) : Int) == 0) = decide (v = 0) := by
  by_cases h : v = 0
  · subst h; simp [blen_zero]
  · have : blen v ≠ 0 := by rw [blen_pos h]; omega
    rw [decide_eq_false h]; simp; omega
def fitsR (r : Rat) : Prop := r.num.natAbs ≤ 4611686018427387904 ∧ r.den ≤ 4611686018427387904
instance (r : Rat) : Decidable (fitsR r) := by unfold fitsR; infer_instance
def rN (r : Rat) : Int := if fitsR r then r.num else 0
def rD (r : Rat) : Int := if fitsR r then r.den else 0
def rE (r : Rat) : Int := if fitsR r then 0 else 2

/-! ### Cmp -/

def cmpR (p q : Rat) : Int := if p < q then -1 else if p = q then 0 else 1

theorem sg_prod (a : Int) (m : Nat) : sg (!(decide (a < 0) == false)) (a.natAbs * m) = a * m := by
  unfold sg
  by_cases h : a < 0
  · have : a = -(a.natAbs : Int) := by omega
    simp only [h, decide_true]
    rw [if_pos (by rfl), Int.natCast_mul]
    conv => rhs; rw [this]
    rw [Int.neg_mul]
  · have : a = (a.natAbs : Int) := by omega
    simp only [h, decide_false]
    rw [if_neg (by decide), Int.natCast_mul, ← this]

theorem sg_neg (s : Bool) (x : Nat) : sg (!s) x = - sg s x := by cases s <;> simp [sg]

theorem sg_prod2 (a : Int) (m : Nat) : sg (!!(decide (a < 0) == false)) (a.natAbs * m) = -(a * m) := by rw [sg_neg, sg_prod]

theorem cmpR_sat (p q : Rat) (hp : fitsR p) (hq : fitsR q) : Sat Tryz.prog (T4 19 [.agg [iv p.num, iv p.den], .agg [iv q.num, iv q.den]]) (· = iv (cmpR p q)) := by
  obtain ⟨p1, p2⟩ := hp
  obtain ⟨q1, q2⟩ := hq
  constructor
  rw [LCmpR_eq]; unfold LCmpR
  simp only [valN_bits, valN_cell, nat_neg, natAbs_cast, blen0]
  obtain ⟨s1, s2, s3⟩ := sum_sg (!(decide (p.num < 0) == false)) (p.num.natAbs * q.den) (!!(decide (q.num < 0) == false)) (q.num.natAbs * p.den)
  rw [sg_prod2, sg_prod] at s1 s2
  obtain ⟨hlt, heq⟩ := rat_cmp p q
  refine ⟨by omega, by omega, ⟨blen_two p1 q2, blen_two q1 p2, bitC_bits _ _, bitC_bits _ _⟩, fun hc => ?_, fun hc => ⟨fun hs => ?_, fun hs => ?_⟩⟩
  · have hc := of_decide_eq_true hc
    rw [hc] at s1
    have : p = q := heq.2 (by omega)
    rw [cmpR, if_neg (by rw [this]; exact Rat.lt_irrefl), if_pos this]; exact rfl
  · have hc := of_decide_eq_false hc
    rw [s2 hc] at hs
    have hs := of_decide_eq_true hs
    rw [cmpR, if_pos (hlt.2 (by omega))]; exact rfl
  · have hc := of_decide_eq_false hc
    rw [s2 hc] at hs
    have hs := of_decide_eq_false hs
    rw [s1] at hc
    rw [cmpR, if_neg (fun h => hs (by have := hlt.1 h; omega)), if_neg (fun h => hc (by have := heq.1 h; omega))]; exact rfl

end Go.Proofs.YtmdbfhkineaheaaGreatDoor

namespace Go.Proofs.YtmdbfhkineaheaaGreatDoor
open Go.Sx
set_option maxRecDepth 100000

theorem sg_abs (S : Bool) (V : Nat) : (sg S V).natAbs = V := by cases S <;> simp [sg]
theorem fin_eq {r : Rat} {S : Bool} {V D : Nat} (h1 : sg S V = r.num) (h2 : D = r.den) : finN S V D = rN r ∧ finD V D = rD r ∧ finE V D = rE r := by
  subst h2
  have hV : V = r.num.natAbs := by rw [← h1, sg_abs]
  unfold finN finD finE rN rD rE
  by_cases h : fitsR r
  · have h' : V ≤ 4611686018427387904 ∧ r.den ≤ 4611686018427387904 := by rw [hV]; exact h
    rw [if_pos h, if_pos h, if_pos h, if_pos h', if_pos h', if_pos h']; exact ⟨h1, rfl, rfl⟩
  · have h' : ¬ (V ≤ 4611686018427387904 ∧ r.den ≤ 4611686018427387904) := by rw [hV]; exact h
    rw [if_neg h, if_neg h, if_neg h, if_neg h', if_neg h', if_neg h']; exact ⟨rfl, rfl, rfl⟩
theorem r_zero : rN 0 = 0 ∧ rD 0 = 1 ∧ rE 0 = 0 := by
  have : fitsR 0 := by unfold fitsR; decide
  unfold rN rD rE
  rw [if_pos this, if_pos this, if_pos this]; exact ⟨rfl, rfl, rfl⟩

theorem sg_div {T : Int} {S : Bool} {h : Nat} (hT : T ≠ 0) (hS : S = decide (T < 0)) (hd : h ∣ T.natAbs) : sg S (T.natAbs / h) = T / (h : Int) := by
  subst hS
  by_cases hn : T < 0
  · have e : T = -(T.natAbs : Int) := by omega
    simp only [hn, decide_true, sg, if_true]
    conv => rhs; rw [e]
    rw [Int.neg_ediv_of_dvd (Int.ofNat_dvd.2 hd), Int.natCast_ediv]
  · have e : T = (T.natAbs : Int) := by omega
    simp only [hn, decide_false, sg]
    conv => rhs; rw [e]
    rw [if_neg (by decide), Int.natCast_ediv]

theorem addR_sat (p q : Rat) (hp : fitsR p) (hq : fitsR q) : Sat Tryz.prog (T4 11 [.agg [iv p.num, iv p.den], .agg [iv q.num, iv q.den]]) (· = .agg [iv (rN (p + q)), iv (rD (p + q)), iv (rE (p + q))]) := by
  obtain ⟨p1, p2⟩ := hp
  obtain ⟨q1, q2⟩ := hq
  constructor
  rw [LAddR_eq]; unfold LAddR
  simp only [Int.gcd_natCast_natCast, w64_div p2, w64_div q2, valN_bits, valN_cell, nat_neg, natAbs_cast, blen0, Int.toNat_natCast]
  have hra := rat_add p q rfl rfl rfl
  have hg0 : 0 < p.den.gcd q.den := Nat.gcd_pos_of_pos_left _ p.den_pos
  have hga : p.den.gcd q.den ≤ p.den := Nat.le_of_dvd p.den_pos (Nat.gcd_dvd_left _ _)
  have hA := Nat.div_le_self p.den (p.den.gcd q.den)
  have hB := Nat.div_le_self q.den (p.den.gcd q.den)
  have c1 := sg_prod p.num (q.den / p.den.gcd q.den)
  have c2 := sg_prod q.num (p.den / p.den.gcd q.den)
  generalize hg : p.den.gcd q.den = g at *
  generalize hAe : p.den / g = A at *
  generalize hBe : q.den / g = B at *
  obtain ⟨s1, s2, s3⟩ := sum_sg (!(decide (p.num < 0) == false)) (p.num.natAbs * B) (!(decide (q.num < 0) == false)) (q.num.natAbs * A)
  rw [c1, c2] at s1 s2
  have m1 : p.num.natAbs * B ≤ 4611686018427387904 * 4611686018427387904 := Nat.mul_le_mul p1 (by omega)
  have m2 : q.num.natAbs * A ≤ 4611686018427387904 * 4611686018427387904 := Nat.mul_le_mul q1 (by omega)
  have hVb : sV (!(decide (p.num < 0) == false)) (p.num.natAbs * B) (!(decide (q.num < 0) == false)) (q.num.natAbs * A) ≤ 2 * (4611686018427387904 * 4611686018427387904) := by
    unfold sV; split
    · omega
    · split <;> omega
  have hV1 : blen (p.num.natAbs * B) ≤ 500000 := blen_two p1 (by omega)
  have hV2 : blen (q.num.natAbs * A) ≤ 500000 := blen_two q1 (by omega)
  generalize hV : sV (!(decide (p.num < 0) == false)) (p.num.natAbs * B) (!(decide (q.num < 0) == false)) (q.num.natAbs * A) = V at *
  generalize hS : sN (!(decide (p.num < 0) == false)) (p.num.natAbs * B) (!(decide (q.num < 0) == false)) (q.num.natAbs * A) = S at *
  generalize hT : p.num * (B : Int) + q.num * (A : Int) = T at *
  have hVl : blen V ≤ 1000 := by
    have : blen V ≤ 130 := blen_le.2 (by omega)
    omega
  have hh : (V % g).gcd g = T.natAbs.gcd g := by rw [s1, Nat.gcd_comm T.natAbs g, Nat.gcd_rec g]
  rw [hh]
  obtain ⟨r1, r2⟩ := hra
  have hh0 : 0 < T.natAbs.gcd g := Nat.gcd_pos_of_pos_right _ hg0
  have hhg : T.natAbs.gcd g ≤ g := Nat.le_of_dvd hg0 (Nat.gcd_dvd_right _ _)
  have hhd : T.natAbs.gcd g ∣ T.natAbs := Nat.gcd_dvd_left _ _
  have hD := Nat.div_le_self q.den (T.natAbs.gcd g)
  generalize T.natAbs.gcd g = h at *
  generalize hDe : q.den / h = D at *
  refine ⟨by omega, by omega, by omega, by omega, by omega, ⟨hV1, hV2, bitC_bits _ _, bitC_bits _ _⟩, fun hc => ?_, fun hc => ?_⟩
  · have hc := of_decide_eq_true hc
    have hT0 : T = 0 := by omega
    have : p + q = 0 := Rat.num_eq_zero.1 (by rw [r1, hT0]; simp)
    rw [this, r_zero.1, r_zero.2.1, r_zero.2.2]; exact rfl
  · have hc := of_decide_eq_false hc
    have hfin := fin_eq (r := p + q) (S := S) (V := V / h) (D := A * D) (by rw [r1, s1]; exact sg_div (by omega) (s2 hc) hhd) r2.symm
    have hVh := Nat.div_le_self V h
    have hVhl : blen (V / h) ≤ 1000 := by
      have : blen (V / h) ≤ 130 := blen_le.2 (by omega)
      omega
    have hAD := blen_two (x := A) (y := D) (by omega) (by omega)
    have hAl := blen63 (v := A) (by omega)
    have hDl := blen63 (v := D) (by omega)
    rw [← hfin.1, ← hfin.2.1, ← hfin.2.2]
    refine ⟨⟨by omega, bitC_bits _ _, by omega, by omega⟩, ⟨by omega, by omega⟩, ⟨by omega, bitC_bits _ _, by omega, by omega⟩, by omega, by omega, by omega, by omega, ⟨by omega, by omega, bitC_bits _ _, bitC_bits _ _⟩, ⟨by omega, by omega, bitC_bits _ _, bitC_bits _ _⟩, ?_⟩
    exact rfl

/-! ### Mul -/

theorem w64_tdiv {n : Int} {g : Nat} (h : n.natAbs ≤ 4611686018427387904) : w64 (Int.tdiv n (g : Int)) = Int.tdiv n (g : Int) := by
  have : (Int.tdiv n (g : Int)).natAbs ≤ n.natAbs := by
    rw [Int.natAbs_tdiv]; exact Nat.div_le_self _ _
  rw [w64_of (by omega) (by omega)]
theorem sg_mul (a c : Int) : sg (!(decide (a < 0) == decide (c < 0))) (a.natAbs * c.natAbs) = a * c := by
  unfold sg
  rw [Int.natCast_mul]
  by_cases h : a < 0 <;> by_cases k : c < 0
  · have e1 : a = -(a.natAbs : Int) := by omega
    have e2 : c = -(c.natAbs : Int) := by omega
    simp only [h, k, decide_true]
    rw [if_neg (by decide)]
    conv => rhs; rw [e1, e2, Int.neg_mul_neg]
  · have e1 : a = -(a.natAbs : Int) := by omega
    have e2 : c = (c.natAbs : Int) := by omega
    simp only [h, k, decide_true, decide_false]
    rw [if_pos (by decide)]
    conv => rhs; rw [e1, e2, Int.neg_mul]
  · have e1 : a = (a.natAbs : Int) := by omega
    have e2 : c = -(c.natAbs : Int) := by omega
    simp only [h, k, decide_true, decide_false]
    rw [if_pos (by decide)]
    conv => rhs; rw [e1, e2, Int.mul_neg]
  · have e1 : a = (a.natAbs : Int) := by omega
    have e2 : c = (c.natAbs : Int) := by omega
    simp only [h, k, decide_false]
    rw [if_neg (by decide)]
    conv => rhs; rw [e1, e2]

theorem mulR_sat (p q : Rat) (hp : fitsR p) (hq : fitsR q) : Sat Tryz.prog (T4 15 [.agg [iv p.num, iv p.den], .agg [iv q.num, iv q.den]]) (· = .agg [iv (rN (p * q)), iv (rD (p * q)), iv (rE (p * q))]) := by
  obtain ⟨p1, p2⟩ := hp
  obtain ⟨q1, q2⟩ := hq
  constructor
  rw [LMulR_eq]; unfold LMulR
  simp only [Int.gcd_natCast_natCast, w64_div p2, w64_div q2, w64_tdiv p1, w64_tdiv q1, valN_bits, valN_cell, natAbs_cast, blen0, Int.toNat_natCast]
  obtain ⟨r1, r2⟩ := rat_mul p q rfl rfl
  have hg0 : 0 < p.num.natAbs.gcd q.den := Nat.gcd_pos_of_pos_right _ q.den_pos
  have hh0 : 0 < q.num.natAbs.gcd p.den := Nat.gcd_pos_of_pos_right _ p.den_pos
  have a1 : (Int.tdiv p.num (p.num.natAbs.gcd q.den : Nat)).natAbs ≤ p.num.natAbs := by rw [Int.natAbs_tdiv]; exact Nat.div_le_self _ _
  have a2 : (Int.tdiv q.num (q.num.natAbs.gcd p.den : Nat)).natAbs ≤ q.num.natAbs := by rw [Int.natAbs_tdiv]; exact Nat.div_le_self _ _
  have b1 := Nat.div_le_self p.den (q.num.natAbs.gcd p.den)
  have b2 := Nat.div_le_self q.den (p.num.natAbs.gcd q.den)
  generalize p.num.natAbs.gcd q.den = g at *
  generalize q.num.natAbs.gcd p.den = h at *
  generalize Int.tdiv p.num (g : Int) = a at *
  generalize Int.tdiv q.num (h : Int) = c at *
  generalize p.den / h = b at *
  generalize q.den / g = d at *
  have hfin := fin_eq (r := p * q) (S := !(decide (a < 0) == decide (c < 0))) (V := a.natAbs * c.natAbs) (D := b * d) (by rw [r1]; exact sg_mul a c) r2.symm
  have hbd := blen_two (x := b) (y := d) (by omega) (by omega)
  have hac := blen_two (x := a.natAbs) (y := c.natAbs) (by omega) (by omega)
  have hbl := blen63 (v := b) (by omega)
  have hdl := blen63 (v := d) (by omega)
  refine ⟨by omega, by omega, by omega, by omega, fun hc => ?_, fun hc => ?_⟩
  · have hz : p * q = 0 := by
      simp only [Bool.or_eq_true, beq_iff_eq] at hc
      rcases hc with h | h
      · rw [Rat.num_eq_zero.1 h, Rat.zero_mul]
      · rw [Rat.num_eq_zero.1 h, Rat.mul_zero]
    rw [hz, r_zero.1, r_zero.2.1, r_zero.2.2]; exact rfl
  · rw [← hfin.1, ← hfin.2.1, ← hfin.2.2]
    refine ⟨by omega, by omega, by omega, by omega, by omega, by omega, by omega, ⟨by omega, by omega, bitC_bits _ _, bitC_bits _ _⟩, ⟨by omega, by omega, bitC_bits _ _, bitC_bits _ _⟩, ?_⟩
    exact rfl

/-! ### Contracts on fractions -/

structure VF (n d : Int) : Prop where
  low : Low n d
  n : n.natAbs ≤ 4611686018427387904
  d : d ≤ 4611686018427387904
theorem VF.fits {n d : Int} (h : VF n d) : fitsR (ratOf n d) := by
  have h1 := h.low.num
  have h2 := h.low.den
  have := h.n
  have := h.d
  exact ⟨by rw [h1]; exact h.n, by omega⟩
theorem VF.of {q : Rat} (h : fitsR q) : VF q.num q.den := ⟨low_rat q, h.1, by have := h.2; omega⟩

noncomputable def cAddR : Ctr := fun ss => match ss with
  | [.agg [.d (.x (.int .i64 a)), .d (.x (.int .i64 b))], .agg [.d (.x (.int .i64 c)), .d (.x (.int .i64 d))]] => .need (VF a b ∧ VF c d) (.ret (.agg [iv (rN (ratOf a b + ratOf c d)), iv (rD (ratOf a b + ratOf c d)), iv (rE (ratOf a b + ratOf c d))]))
  | _ => .fail
theorem cAddR_ok : CtrOK Tryz.prog 11 cAddR := by
  refine ctrOK_leS C4_ok D4_ok (by kernel_rfl) (by kernel_rfl) fun ss r h => ?_
  unfold cAddR at h
  split at h
  · rename_i a b c d
    obtain ⟨⟨h1, h2⟩, rfl⟩ := h
    have := addR_sat _ _ h1.fits h2.fits
    rw [h1.low.num, h1.low.den, h2.low.num, h2.low.den] at this
    exact ⟨[.agg [iv a, iv b], .agg [iv c, iv d]], 200, .nil, by simp [leSVs, leSV, iv, leD], this⟩
  · exact h.elim
noncomputable def cMulR : Ctr := fun ss => match ss with
  | [.agg [.d (.x (.int .i64 a)), .d (.x (.int .i64 b))], .agg [.d (.x (.int .i64 c)), .d (.x (.int .i64 d))]] => .need (VF a b ∧ VF c d) (.ret (.agg [iv (rN (ratOf a b * ratOf c d)), iv (rD (ratOf a b * ratOf c d)), iv (rE (ratOf a b * ratOf c d))]))
  | _ => .fail
theorem cMulR_ok : CtrOK Tryz.prog 15 cMulR := by
  refine ctrOK_leS C4_ok D4_ok (by kernel_rfl) (by kernel_rfl) fun ss r h => ?_
  unfold cMulR at h
  split at h
  · rename_i a b c d
    obtain ⟨⟨h1, h2⟩, rfl⟩ := h
    have := mulR_sat _ _ h1.fits h2.fits
    rw [h1.low.num, h1.low.den, h2.low.num, h2.low.den] at this
    exact ⟨[.agg [iv a, iv b], .agg [iv c, iv d]], 200, .nil, by simp [leSVs, leSV, iv, leD], this⟩
  · exact h.elim
noncomputable def cCmpR : Ctr := fun ss => match ss with
  | [.agg [.d (.x (.int .i64 a)), .d (.x (.int .i64 b))], .agg [.d (.x (.int .i64 c)), .d (.x (.int .i64 d))]] => .need (VF a b ∧ VF c d) (.ret (iv (cmpR (ratOf a b) (ratOf c d))))
  | _ => .fail
theorem cCmpR_ok : CtrOK Tryz.prog 19 cCmpR := by
  refine ctrOK_leS C4_ok D4_ok (by kernel_rfl) (by kernel_rfl) fun ss r h => ?_
  unfold cCmpR at h
  split at h
  · rename_i a b c d
    obtain ⟨⟨h1, h2⟩, rfl⟩ := h
    have := cmpR_sat _ _ h1.fits h2.fits
    rw [h1.low.num, h1.low.den, h2.low.num, h2.low.den] at this
    exact ⟨[.agg [iv a, iv b], .agg [iv c, iv d]], 200, .nil, by simp [leSVs, leSV, iv, leD], this⟩
  · exact h.elim

/-- Which pairs are valid fractions. -/
def vB (a b : Int) : Bool := decide (1 ≤ b) && decide (b ≤ 4611686018427387904) && decide (a.natAbs ≤ 4611686018427387904) && decide (a.natAbs.gcd b.toNat = 1)
theorem vB_iff {a b : Int} : vB a b = true ↔ VF a b := by
  unfold vB
  simp only [Bool.and_eq_true, decide_eq_true_eq]
  constructor
  · rintro ⟨⟨⟨h1, h2⟩, h3⟩, h4⟩; exact ⟨⟨h1, h4⟩, h3, h2⟩
  · rintro ⟨⟨h1, h4⟩, h3, h2⟩; exact ⟨⟨⟨h1, h2⟩, h3⟩, h4⟩

noncomputable def cValR : Ctr := fun ss => match ss with
  | [.agg [.d (.x (.int .i64 a)), .d (.x (.int .i64 b))]] => .ret (bv (vB a b))
  | _ => .fail
theorem cValR_ok : CtrOK Tryz.prog 8 cValR := by
  refine ctrOK_leS C4_ok D4_ok (by kernel_rfl) (by kernel_rfl) fun ss r h => ?_
  unfold cValR at h
  split at h
  · rename_i a b
    obtain rfl := h
    refine ⟨[.agg [iv a, iv b]], 200, .nil, by simp [leSVs, leSV, iv, leD], Sat.of_eq (LValR_eq a b) ⟨?_⟩⟩
    unfold LValR
    refine ⟨fun h => ?_, fun h => ?_, ?_⟩
    · simp only [Bool.and_eq_true, decide_eq_true_eq] at h; omega
    · simp only [Bool.and_eq_true, decide_eq_true_eq] at h; omega
    · show bv _ = bv _
      refine congrArg bv ?_
      rw [Bool.eq_iff_iff]
      unfold vB
      simp only [Bool.and_eq_true, decide_eq_true_eq, beq_iff_eq]
      constructor
      · rintro ⟨⟨⟨⟨h1, h2⟩, h3⟩, h4⟩, h5⟩
        refine ⟨⟨⟨h1, h2⟩, by omega⟩, ?_⟩
        have : Int.gcd (a.natAbs : Int) b = a.natAbs.gcd b.toNat := by rw [Int.gcd]; congr 1; omega
        omega
      · rintro ⟨⟨⟨h1, h2⟩, h3⟩, h5⟩
        refine ⟨⟨⟨⟨h1, h2⟩, by omega⟩, by omega⟩, ?_⟩
        have : Int.gcd (a.natAbs : Int) b = a.natAbs.gcd b.toNat := by rw [Int.gcd]; congr 1; omega
        omega
  · exact h.elim

end Go.Proofs.YtmdbfhkineaheaaGreatDoor

namespace Go.Proofs.YtmdbfhkineaheaaGreatDoor
open Go.Sx
set_option maxRecDepth 100000

def u6 (n : Int) : SV := .d (.x (.int .u64 n))
noncomputable def rou (n : Nat) (c : Nat → Int) : SV := .d (.ro n 1 fun i _ => .x (.int .u64 (c i)))
noncomputable def tG (c : Nat → Int) : Tree SV := T0 37 [rou 2 c]
noncomputable def LG (c : Nat → Int) : Tree SV :=
  .need ((0 : Int) ≤ (0 : Int) ∧ (0 : Int) < (2 : Int))
  (.need (True ∧ (0 : Int) ≤ (1 : Int) ∧ 1 ≤ 2) (.code (codeC (sub [(0 : Nat), (0 : Nat)] (tG c))) (codeS (sub [(0 : Nat), (0 : Nat)] (tG c))) (codeK (sub [(0 : Nat), (0 : Nat)] (tG c)))))

theorem LG_eq (c : Nat → Int) : tG c = LG c := by kernel_rfl

noncomputable def LAbs (n : Int) : Tree SV :=
  .ite (decide (n < (0 : Int))) (.ret (SV.d (DV.x (.int .u64 (IntKind.wrap .u64 ((0 : Int) - IntKind.wrap .u64 n)))))) (.ret (SV.d (DV.x (.int .u64 (IntKind.wrap .u64 n)))))

theorem LAbs_eq (n : Int) : T0 38 [iv n] = LAbs n := by kernel_rfl

noncomputable def invG1 (x : Int) (c : Nat → Int) (k : Int) : AS := ⟨[.unk, .unk, .unk, .ok (u6 x), .unk, .unk, .unk, .unk, .unk, .unk, .ok (rou 1 c), .ok (iv 1), .ok (iv k)] ++ List.replicate 11 .unk, [], 0, .nil⟩
noncomputable def invG2 (x y : Int) (c : Nat → Int) (k : Int) : AS := ⟨[.unk, .unk, .unk, .ok (u6 x), .unk, .ok (u6 y), .unk, .unk, .unk, .unk, .ok (rou 1 c), .ok (iv 1), .ok (iv k)] ++ List.replicate 11 .unk, [], 0, .nil⟩
noncomputable def bodyG1 : Code := loopN (bodyOf Tryz.prog 37) 0
noncomputable def bodyG2 : Code := loopN (bodyOf Tryz.prog 37) 1
noncomputable def bG1 (x : Int) (c : Nat → Int) (k : Int) : Tree (Ex × AS) := cutT 0 [] [3, 10, 11, 12] [] 0 .nil (exec Tryz.prog C0 D0 200 bodyG1 (invG1 x c k))
noncomputable def BG1 (x : Int) (c : Nat → Int) (k : Int) : Tree (Ex × AS) :=
  .ite (decide (k < (1 : Int))) (.need ((0 : Int) ≤ k ∧ k < (1 : Int)) (.code (codeC (sub [(0 : Nat), (0 : Nat)] (bG1 x c k))) (codeS (sub [(0 : Nat), (0 : Nat)] (bG1 x c k))) (codeK (sub [(0 : Nat), (0 : Nat)] (bG1 x c k)))))
  (.ret
    (.exit 0,
      {
        tm :=
          [.unk, .unk, .unk, .ok (SV.d (DV.x (.int .u64 x))), .unk, .unk, .unk, .unk, .unk, .unk, .ok (SV.d (DV.ro 1 1 fun i x => DV.x (.int .u64 (c i)))),
            .ok (iv (1 : Int)), .ok (iv k), .unk, .unk, .unk, .unk, .unk, .unk, .unk, .unk, .unk, .unk, .unk],
        hp := [], next := 0, hint := .nil }))

theorem BG1_eq (x : Int) (c : Nat → Int) (k : Int) : bG1 x c k = BG1 x c k := by kernel_rfl

noncomputable def BG2 (x y : Int) (c : Nat → Int) (k : Int) : Tree (Ex × AS) :=
  .ite (decide (y > (0 : Int)))
  (.need (y ≠ (0 : Int))
    (.ret
      (.normal,
        {
          tm :=
            [.unk, .unk, .unk, .ok (SV.d (DV.x (.int .u64 y))), .unk, .ok (SV.d (DV.x (.int .u64 (Int.tmod x y)))), .unk, .unk, .unk, .unk,
              .ok (SV.d (DV.ro 1 1 fun i x => DV.x (.int .u64 (c i)))), .ok (iv (1 : Int)), .ok (iv k), .unk, .unk, .unk, .unk, .unk, .unk, .unk, .unk, .unk, .unk, .unk],
          hp := [], next := 0, hint := .nil })))
  (.ret
    (.exit 2,
      {
        tm :=
          [.unk, .unk, .unk, .ok (SV.d (DV.x (.int .u64 x))), .unk, .ok (SV.d (DV.x (.int .u64 y))), .unk, .unk, .unk, .unk,
            .ok (SV.d (DV.ro 1 1 fun i x => DV.x (.int .u64 (c i)))), .ok (iv (1 : Int)), .ok (iv k), .unk, .unk, .unk, .unk, .unk, .unk, .unk, .unk, .unk, .unk, .unk],
        hp := [], next := 0, hint := .nil }))

theorem BG2_eq (x y : Int) (c : Nat → Int) (k : Int) : cutT 0 [] [3, 5, 10, 11, 12] [] 0 .nil (exec Tryz.prog C0 D0 200 bodyG2 (invG2 x y c k)) = BG2 x y c k := by kernel_rfl

noncomputable def KG (d : Nat → Int) (x : Int) (c : Nat → Int) (k : Int) : Tree SV :=
  .ret (SV.d (DV.x (.int .u64 x)))

theorem KG_eq (d : Nat → Int) (x : Int) (c : Nat → Int) (k : Int) : codeK (sub [0, 0] (tG d)) (.exit 0) (invG1 x c k) = KG d x c k := by kernel_rfl

noncomputable def KG2 (x : Int) (c : Nat → Int) (k : Int) (x2 y2 : Int) : Tree (Ex × AS) :=
  .ret
  (.normal,
    {
      tm :=
        [.unk, .unk, .unk, .ok (SV.d (DV.x (.int .u64 x2))), .unk, .unk, .unk, .unk, .unk, .unk, .ok (SV.d (DV.ro 1 1 fun i x => DV.x (.int .u64 (c i)))),
          .ok (iv (1 : Int)), .ok (iv (w64 (k + (1 : Int)))), .unk, .unk, .unk, .unk, .unk, .unk, .unk, .unk, .unk, .unk, .unk],
      hp := [], next := 0, hint := .nil })

theorem KG2_eq (x : Int) (c : Nat → Int) (k : Int) (x2 y2 : Int) : codeK (sub [0, 0] (bG1 x c k)) (.exit 2) (invG2 x2 y2 c k) = KG2 x c k x2 y2 := by kernel_rfl


end Go.Proofs.YtmdbfhkineaheaaGreatDoor

namespace Go.Proofs.YtmdbfhkineaheaaGreatDoor
open Go.Sx
set_option maxRecDepth 100000

theorem wu (n : Int) : IntKind.wrap .u64 n = n % 18446744073709551616 := by
  unfold IntKind.wrap
  simp [IntKind.signed, IntKind.bits]
theorem wu_of {n : Int} (h1 : 0 ≤ n) (h2 : n < 18446744073709551616) : IntKind.wrap .u64 n = n := by rw [wu]; omega

noncomputable def cAbsU : Ctr := fun ss => match ss with
  | [.d (.x (.int .i64 n))] => .need (-9223372036854775808 ≤ n ∧ n ≤ 9223372036854775807) (.ret (u6 n.natAbs))
  | _ => .fail
theorem cAbsU_ok : CtrOK Tryz.prog 38 cAbsU := by
  refine ctrOK_leS C0_ok D0_ok (by kernel_rfl) (by kernel_rfl) fun ss r h => ?_
  unfold cAbsU at h
  split at h
  · rename_i n
    obtain ⟨⟨h1, h2⟩, rfl⟩ := h
    refine ⟨[iv n], 200, .nil, by simp [leSVs, leSV, iv, leD], Sat.of_eq (LAbs_eq n) ⟨?_⟩⟩
    unfold LAbs
    refine ⟨fun hc => ?_, fun hc => ?_⟩
    · have hc : n < 0 := by simpa using hc
      rw [wu, wu, show (0 - n % 18446744073709551616) % 18446744073709551616 = (n.natAbs : Int) by omega]; exact rfl
    · have hc : ¬ n < 0 := by simpa using hc
      rw [wu, show n % 18446744073709551616 = (n.natAbs : Int) by omega]; exact rfl
  · exact h.elim

theorem gcdU_sat {c : Nat → Int} (h0 : 0 ≤ c 0) (h1 : 0 ≤ c 1) : Sat Tryz.prog (tG c) (· = u6 (Int.gcd (c 0) (c 1))) := by
  constructor
  rw [LG_eq]; unfold LG
  refine ⟨by omega, ⟨trivial, by omega, by omega⟩, ?_⟩
  refine code_satS C0_ok D0_ok (n := 200) (n0 := 0) (nx := 0) (roots := []) (keep := [3, 10, 11, 12]) (drop := []) (h := .nil) (c := codeC (sub [0, 0] (tG c))) (st := codeS (sub [0, 0] (tG c))) (k := codeK (sub [0, 0] (tG c))) (body := bodyG1) (by kernel_rfl) (by kernel_rfl)
    (fun q s => (q = 1 ∧ s = invG1 (c 0) (fun i => c (1 + i)) 0) ∨ (q = 0 ∧ s = invG1 (Int.gcd (c 0) (c 1)) (fun i => c (1 + i)) 1))
    (fun e s => e = .exit 0 ∧ s = invG1 (Int.gcd (c 0) (c 1)) (fun i => c (1 + i)) 1)
    ⟨1, _, .inl ⟨rfl, rfl⟩, ?_⟩ ?_ ?_
  · exact entA_sound (roots := []) (keep := [3, 10, 11, 12]) (drop := []) (nx := 0) (h := .nil) (by kernel_rfl)
  · rintro q s (⟨rfl, rfl⟩ | ⟨rfl, rfl⟩)
    · refine Sat.of_eq (BG1_eq (c 0) _ 0) ?_
      constructor
      unfold BG1
      refine ⟨fun hc => ?_, fun hc => by simp at hc⟩
      refine ⟨by omega, ?_⟩
      refine code_satS C0_ok D0_ok (n := 200) (n0 := 0) (nx := 0) (roots := []) (keep := [3, 5, 10, 11, 12]) (drop := []) (h := .nil) (c := codeC (sub [0, 0] (bG1 (c 0) (fun i => c (1 + i)) 0))) (st := codeS (sub [0, 0] (bG1 (c 0) (fun i => c (1 + i)) 0))) (k := codeK (sub [0, 0] (bG1 (c 0) (fun i => c (1 + i)) 0))) (body := bodyG2) (by kernel_rfl) (by kernel_rfl)
        (fun q s => ∃ x y : Int, q = y.toNat ∧ 0 ≤ x ∧ 0 ≤ y ∧ Int.gcd x y = Int.gcd (c 0) (c 1) ∧ s = invG2 x y (fun i => c (1 + i)) 0)
        (fun e s => e = .exit 2 ∧ s = invG2 (Int.gcd (c 0) (c 1)) 0 (fun i => c (1 + i)) 0)
        ⟨(c 1).toNat, invG2 (c 0) (c 1) (fun i => c (1 + i)) 0, ⟨c 0, c 1, rfl, h0, h1, rfl, rfl⟩, ?_⟩ ?_ ?_
      · exact entA_sound (roots := []) (keep := [3, 5, 10, 11, 12]) (drop := []) (nx := 0) (h := .nil) (by kernel_rfl)
      · rintro q s ⟨x, y, hq, hx, hy, hg, rfl⟩
        refine Sat.of_eq (BG2_eq x y _ 0) ?_
        constructor
        unfold BG2
        refine ⟨fun hc => ?_, fun hc => ?_⟩
        · have hc : 0 < y := by simpa using hc
          have e1 : Int.tmod x y = x % y := tmod_lit hx y
          have e2 := Int.emod_nonneg x (show y ≠ 0 by omega)
          have e3 := Int.emod_lt_of_pos x hc
          refine ⟨by omega, (Int.tmod x y).toNat, _, by omega, ⟨y, Int.tmod x y, rfl, hy, by omega, ?_, rfl⟩, Gc.refl _ _⟩
          rw [e1, ← hg]; exact (gcd_emod hx hy).symm
        · have hc : y = 0 := by simp at hc; omega
          subst hc
          have : x = (Int.gcd (c 0) (c 1) : Int) := by rw [← hg, Int.gcd_zero_right]; omega
          exact ⟨_, ⟨rfl, rfl⟩, by rw [this]; exact Gc.refl _ _⟩
      · rintro e s ⟨rfl, rfl⟩
        refine Sat.of_eq (KG2_eq (c 0) (fun i => c (1 + i)) 0 _ 0) ⟨?_⟩
        exact ⟨0, _, by omega, .inr ⟨rfl, rfl⟩, by rw [show w64 ((0 : Int) + 1) = 1 by rw [w64_of (by omega) (by omega)]; rfl]; exact Gc.refl _ _⟩
    · refine Sat.of_eq (BG1_eq _ _ 1) ?_
      constructor
      unfold BG1
      refine ⟨fun hc => by simp at hc, fun hc => ?_⟩
      exact ⟨_, ⟨rfl, rfl⟩, Gc.refl _ _⟩
  · rintro e s ⟨rfl, rfl⟩
    exact Sat.of_eq (KG_eq c _ _ _) ⟨rfl⟩

noncomputable def cGcdU : Ctr := fun ss => match ss with
  | [.d (.ro 2 1 cell)] => .need (∃ a b : Int, cell 0 0 = .x (.int .u64 a) ∧ cell 1 0 = .x (.int .u64 b) ∧ 0 ≤ a ∧ 0 ≤ b) (.ret (u6 (Int.gcd (intCell cell 0) (intCell cell 1))))
  | _ => .fail
theorem cGcdU_ok : CtrOK Tryz.prog 37 cGcdU := by
  refine ctrOK_leS C0_ok D0_ok (by kernel_rfl) (by kernel_rfl) fun ss r h => ?_
  unfold cGcdU at h
  split at h
  · rename_i cell
    obtain ⟨⟨a, b, h1, h2, h3, h4⟩, rfl⟩ := h
    have e1 : intCell cell 0 = a := by simp [intCell, h1, intOf1]
    have e2 : intCell cell 1 = b := by simp [intCell, h2, intOf1]
    refine ⟨[rou 2 (intCell cell)], 200, .nil, ?_, gcdU_sat (by omega) (by omega)⟩
    simp only [leSVs, leSV, rou, leD, and_true, true_and]
    intro i j hi hj
    obtain rfl : j = 0 := by omega
    have : i = 0 ∨ i = 1 := by omega
    rcases this with rfl | rfl
    · rw [h1, e1]
    · rw [h2, e2]
  · exact h.elim

end Go.Proofs.YtmdbfhkineaheaaGreatDoor

namespace Go.Proofs.YtmdbfhkineaheaaGreatDoor
open Go.Sx
set_option maxRecDepth 100000

noncomputable def LM64 (x y : Int) : Tree SV :=
  .need ((0 : Int) ≤ (32 : Int))
  (.need ((0 : Int) ≤ (32 : Int))
   (.need ((0 : Int) ≤ (32 : Int))
   (.need ((0 : Int) ≤ (32 : Int))
   (.need ((0 : Int) ≤ (32 : Int))
   (.ret
   (SV.tup
   [SV.d
   (DV.x
   (.int .u64
   (IntKind.wrap .u64
   (IntKind.wrap .u64
   (IntKind.wrap .u64 (Int.fdiv x (4294967296 : Int) * Int.fdiv y (4294967296 : Int)) +
   Int.fdiv
   (IntKind.wrap .u64
   (IntKind.wrap .u64 (Int.fdiv x (4294967296 : Int) * IntKind.wrap .u64 (↑(BitVec.toNat (BitVec.ofInt 64 y &&& BitVec.ofInt 64 (4294967295 : Int))) : Int)) +
   Int.fdiv
   (IntKind.wrap .u64
   (IntKind.wrap .u64 (↑(BitVec.toNat (BitVec.ofInt 64 x &&& BitVec.ofInt 64 (4294967295 : Int))) : Int) *
   IntKind.wrap .u64 (↑(BitVec.toNat (BitVec.ofInt 64 y &&& BitVec.ofInt 64 (4294967295 : Int))) : Int)))
   (4294967296 : Int)))
   (4294967296 : Int)) +
   Int.fdiv
   (IntKind.wrap .u64
   (IntKind.wrap .u64
   (↑(BitVec.toNat
   (BitVec.ofInt 64
   (IntKind.wrap .u64
   (IntKind.wrap .u64 (Int.fdiv x (4294967296 : Int) * IntKind.wrap .u64 (↑(BitVec.toNat (BitVec.ofInt 64 y &&& BitVec.ofInt 64 (4294967295 : Int))) : Int)) +
   Int.fdiv
   (IntKind.wrap .u64
   (IntKind.wrap .u64 (↑(BitVec.toNat (BitVec.ofInt 64 x &&& BitVec.ofInt 64 (4294967295 : Int))) : Int) *
   IntKind.wrap .u64 (↑(BitVec.toNat (BitVec.ofInt 64 y &&& BitVec.ofInt 64 (4294967295 : Int))) : Int)))
   (4294967296 : Int))) &&&
   BitVec.ofInt 64 (4294967295 : Int))) :
   Int) +
   IntKind.wrap .u64 (IntKind.wrap .u64 (↑(BitVec.toNat (BitVec.ofInt 64 x &&& BitVec.ofInt 64 (4294967295 : Int))) : Int) * Int.fdiv y (4294967296 : Int))))
   (4294967296 : Int))))),
   SV.d (DV.x (.int .u64 (IntKind.wrap .u64 (x * y))))]))))))

theorem LM64_eq (x y : Int) : T0 64 [u6 x, u6 y] = LM64 x y := by kernel_rfl

/-- A contract that promises nothing: a way that is not gone. -/
noncomputable def cNone : Ctr := fun _ => .fail
theorem cNone_ok (k : Nat) : CtrOK Tryz.prog k cNone := fun ss vs w F r hF hgl hr he => he.elim
noncomputable def man5 : FuncId → Option Ctr := fun k => match k with
  | 78 => some cNone
  | _ => none
theorem man5_ok (k : Nat) (c : Ctr) (h : man5 k = some c) : CtrOK Tryz.prog k c ∧ goodF Tryz.prog k = true := by
  unfold man5 at h
  split at h <;> first | (cases h; done) | (cases h)
  · exact ⟨cNone_ok _, by kernel_rfl⟩
noncomputable def C5 : Ctx := ctxN Tryz.prog man5 (fun _ => false) 200 .nil 6
theorem C5_ok : CtxOK Tryz.prog C5 := ctxN_ok mixed man5_ok 6
noncomputable def D5 : Dr := fun _ => drawn Tryz.prog C5
theorem D5_ok : DrOK Tryz.prog C5 D5 := drawn_ok C5_ok mixed
noncomputable def T5 (k : Nat) (args : List SV) : Tree SV := fnT Tryz.prog C5 D5 200 (fnOf Tryz.prog k) (bodyOf Tryz.prog k) args .nil
noncomputable def LD64 (y x d : Int) : Tree SV :=
  .ite (d == (0 : Int)) .fail
  (.ite (decide (d ≤ y)) .fail
    (.ite (y == (0 : Int)) (.need (d ≠ (0 : Int)) (.need (d ≠ (0 : Int)) (.ret (SV.tup [SV.d (DV.x (.int .u64 (IntKind.wrap .u64 (Int.tdiv x d)))), SV.d (DV.x (.int .u64 (Int.tmod x d)))]))))
      .fail))

theorem LD64_eq (y x d : Int) : T5 72 [u6 y, u6 x, u6 d] = LD64 y x d := by kernel_rfl

noncomputable def LR64 (y x d : Int) : Tree SV :=
  .need (d ≠ (0 : Int))
  (.ite (d == (0 : Int)) .fail
    (.ite (decide (d ≤ Int.tmod y d)) .fail (.ite (Int.tmod y d == (0 : Int)) (.need (d ≠ (0 : Int)) (.need (d ≠ (0 : Int)) (.ret (SV.d (DV.x (.int .u64 (Int.tmod x d))))))) .fail)))

theorem LR64_eq (y x d : Int) : T5 57 [u6 y, u6 x, u6 d] = LR64 y x d := by kernel_rfl


end Go.Proofs.YtmdbfhkineaheaaGreatDoor

namespace Go.Proofs.YtmdbfhkineaheaaGreatDoor
open Go.Sx
set_option maxRecDepth 100000

theorem mask32 {x : Int} (h1 : 0 ≤ x) (h2 : x < 18446744073709551616) : ((BitVec.toNat (BitVec.ofInt 64 x &&& BitVec.ofInt 64 4294967295) : Nat) : Int) = x % 4294967296 := by
  rw [BitVec.toNat_and, BitVec.toNat_ofInt, BitVec.toNat_ofInt]
  have e1 : (x % ((2 ^ 64 : Nat) : Int)).toNat = x.toNat := by
    rw [show ((2 ^ 64 : Nat) : Int) = 18446744073709551616 by decide]; omega
  have e2 : ((4294967295 : Int) % ((2 ^ 64 : Nat) : Int)).toNat = 2 ^ 32 - 1 := by decide
  rw [e1, e2, Nat.and_two_pow_sub_one_eq_mod]
  omega

theorem mul_split {x y x0 x1 y0 y1 p00 p10 p01 p11 : Int} (hx : x = x1 * 4294967296 + x0) (hy : y = y1 * 4294967296 + y0) (h00 : p00 = x0 * y0) (h10 : p10 = x1 * y0) (h01 : p01 = x0 * y1) (h11 : p11 = x1 * y1) :
    x * y = p11 * 18446744073709551616 + (p10 + p01) * 4294967296 + p00 := by
  subst hx; subst hy; subst h00; subst h10; subst h01; subst h11
  simp only [Int.add_mul, Int.mul_add]
  have e1 : x1 * 4294967296 * (y1 * 4294967296) = x1 * y1 * 18446744073709551616 := by
    rw [Int.mul_assoc, Int.mul_left_comm 4294967296, ← Int.mul_assoc]; rfl
  have e2 : x1 * 4294967296 * y0 = x1 * y0 * 4294967296 := by rw [Int.mul_assoc, Int.mul_comm 4294967296, ← Int.mul_assoc]
  have e3 : x0 * (y1 * 4294967296) = x0 * y1 * 4294967296 := by rw [← Int.mul_assoc]
  rw [e1, e2, e3]; omega

theorem mul_bd {a b : Int} (ha : 0 ≤ a ∧ a ≤ 4294967295) (hb : 0 ≤ b ∧ b ≤ 4294967295) : 0 ≤ a * b ∧ a * b ≤ 18446744065119617025 := by
  refine ⟨Int.mul_nonneg ha.1 hb.1, ?_⟩
  have := Int.mul_le_mul ha.2 hb.2 hb.1 (by omega)
  omega

noncomputable def cMul64 : Ctr := fun ss => match ss with
  | [.d (.x (.int .u64 x)), .d (.x (.int .u64 y))] => .need ((0 ≤ x ∧ x < 18446744073709551616) ∧ (0 ≤ y ∧ y < 18446744073709551616)) (.ret (.tup [u6 (x * y / 18446744073709551616), u6 (x * y % 18446744073709551616)]))
  | _ => .fail
theorem cMul64_ok : CtrOK Tryz.prog 64 cMul64 := by
  refine ctrOK_leS C0_ok D0_ok (by kernel_rfl) (by kernel_rfl) fun ss r h => ?_
  unfold cMul64 at h
  split at h
  · rename_i x y
    obtain ⟨⟨⟨hx0, hx1⟩, ⟨hy0, hy1⟩⟩, rfl⟩ := h
    refine ⟨[u6 x, u6 y], 200, .nil, by simp [leSVs, leSV, u6, leD], Sat.of_eq (LM64_eq x y) ⟨?_⟩⟩
    unfold LM64
    rw [mask32 hx0 hx1, mask32 hy0 hy1, Int.fdiv_eq_ediv_of_nonneg (x) (by decide), Int.fdiv_eq_ediv_of_nonneg (y) (by decide)]
    have hm := mul_split (x := x) (y := y) (x0 := x % 4294967296) (x1 := x / 4294967296) (y0 := y % 4294967296) (y1 := y / 4294967296) (by omega) (by omega) rfl rfl rfl rfl
    have b00 := mul_bd (a := x % 4294967296) (b := y % 4294967296) (by omega) (by omega)
    have b10 := mul_bd (a := x / 4294967296) (b := y % 4294967296) (by omega) (by omega)
    have b01 := mul_bd (a := x % 4294967296) (b := y / 4294967296) (by omega) (by omega)
    have b11 := mul_bd (a := x / 4294967296) (b := y / 4294967296) (by omega) (by omega)
    rw [wu_of (n := x % 4294967296) (by omega) (by omega), wu_of (n := y % 4294967296) (by omega) (by omega)]
    generalize x % 4294967296 * (y % 4294967296) = p00 at *
    generalize x / 4294967296 * (y % 4294967296) = p10 at *
    generalize x % 4294967296 * (y / 4294967296) = p01 at *
    generalize x / 4294967296 * (y / 4294967296) = p11 at *
    rw [wu_of (n := p00) (by omega) (by omega), wu_of (n := p10) (by omega) (by omega), wu_of (n := p01) (by omega) (by omega), wu_of (n := p11) (by omega) (by omega)]
    rw [Int.fdiv_eq_ediv_of_nonneg (p00) (by decide)]
    rw [wu_of (n := p10 + p00 / 4294967296) (by omega) (by omega), mask32 (x := p10 + p00 / 4294967296) (by omega) (by omega)]
    rw [Int.fdiv_eq_ediv_of_nonneg (p10 + p00 / 4294967296) (by decide)]
    rw [wu_of (n := (p10 + p00 / 4294967296) % 4294967296 ) (by omega) (by omega)]
    rw [wu_of (n := (p10 + p00 / 4294967296) % 4294967296 + p01) (by omega) (by omega), Int.fdiv_eq_ediv_of_nonneg ((p10 + p00 / 4294967296) % 4294967296 + p01) (by decide)]
    rw [wu_of (n := p11 + (p10 + p00 / 4294967296) / 4294967296) (by omega) (by omega), wu_of (n := p11 + (p10 + p00 / 4294967296) / 4294967296 + ((p10 + p00 / 4294967296) % 4294967296 + p01) / 4294967296) (by omega) (by omega)]
    rw [wu, show p11 + (p10 + p00 / 4294967296) / 4294967296 + ((p10 + p00 / 4294967296) % 4294967296 + p01) / 4294967296 = x * y / 18446744073709551616 by omega]
    exact ⟨by decide, by decide, by decide, by decide, by decide, rfl⟩
  · exact h.elim

noncomputable def cDiv64s : Ctr := fun ss => match ss with
  | [.d (.x (.int .u64 y)), .d (.x (.int .u64 x)), .d (.x (.int .u64 d))] => .need (y = 0 ∧ (0 ≤ x ∧ x < 18446744073709551616) ∧ 1 ≤ d) (.ret (.tup [u6 (x / d), u6 (x % d)]))
  | _ => .fail
theorem cDiv64s_ok : CtrOK Tryz.prog 72 cDiv64s := by
  refine ctrOK_leS C5_ok D5_ok (by kernel_rfl) (by kernel_rfl) fun ss r h => ?_
  unfold cDiv64s at h
  split at h
  · rename_i y x d
    obtain ⟨⟨rfl, ⟨h1, h2⟩, h3⟩, rfl⟩ := h
    refine ⟨[u6 0, u6 x, u6 d], 200, .nil, by simp [leSVs, leSV, u6, leD], Sat.of_eq (LD64_eq 0 x d) ⟨?_⟩⟩
    unfold LD64
    have e1 : Int.tdiv x d = x / d := Int.tdiv_eq_ediv_of_nonneg h1
    have e2 : Int.tmod x d = x % d := tmod_lit h1 d
    have b1 : 0 ≤ x / d := Int.ediv_nonneg h1 (by omega)
    have b2 : x / d ≤ x := Int.ediv_le_self _ h1
    rw [e1, e2, wu_of b1 (by omega)]
    refine ⟨fun hc => by simp only [beq_iff_eq] at hc; omega, fun _ => ⟨fun hc => by simp only [decide_eq_true_eq] at hc; omega, fun _ => ⟨fun _ => ⟨by omega, by omega, rfl⟩, fun hc => by simp at hc⟩⟩⟩
  · exact h.elim

noncomputable def cRem64s : Ctr := fun ss => match ss with
  | [.d (.x (.int .u64 y)), .d (.x (.int .u64 x)), .d (.x (.int .u64 d))] => .need (y = 0 ∧ (0 ≤ x ∧ x < 18446744073709551616) ∧ 1 ≤ d) (.ret (u6 (x % d)))
  | _ => .fail
theorem cRem64s_ok : CtrOK Tryz.prog 57 cRem64s := by
  refine ctrOK_leS C5_ok D5_ok (by kernel_rfl) (by kernel_rfl) fun ss r h => ?_
  unfold cRem64s at h
  split at h
  · rename_i y x d
    obtain ⟨⟨rfl, ⟨h1, h2⟩, h3⟩, rfl⟩ := h
    refine ⟨[u6 0, u6 x, u6 d], 200, .nil, by simp [leSVs, leSV, u6, leD], Sat.of_eq (LR64_eq 0 x d) ⟨?_⟩⟩
    unfold LR64
    have e2 : Int.tmod x d = x % d := tmod_lit h1 d
    have e3 : Int.tmod 0 d = 0 := Int.zero_tmod d
    rw [e2, e3]
    refine ⟨by omega, fun hc => by simp only [beq_iff_eq] at hc; omega, fun _ => ⟨fun hc => by simp only [decide_eq_true_eq] at hc; omega, fun _ => ⟨fun _ => ⟨by omega, by omega, rfl⟩, fun hc => by simp at hc⟩⟩⟩
  · exact h.elim

end Go.Proofs.YtmdbfhkineaheaaGreatDoor

namespace Go.Proofs.YtmdbfhkineaheaaGreatDoor
open Go.Sx
set_option maxRecDepth 100000

noncomputable def man6 : FuncId → Option Ctr := fun k => match k with
  | 38 => some cAbsU
  | 37 => some cGcdU
  | 64 => some cMul64
  | 72 => some cDiv64s
  | 57 => some cRem64s
  | _ => none
theorem man6_ok (k : Nat) (c : Ctr) (h : man6 k = some c) : CtrOK Tryz.prog k c ∧ goodF Tryz.prog k = true := by
  unfold man6 at h
  split at h <;> first | (cases h; done) | (cases h)
  · exact ⟨cAbsU_ok, by kernel_rfl⟩
  · exact ⟨cGcdU_ok, by kernel_rfl⟩
  · exact ⟨cMul64_ok, by kernel_rfl⟩
  · exact ⟨cDiv64s_ok, by kernel_rfl⟩
  · exact ⟨cRem64s_ok, by kernel_rfl⟩
noncomputable def C6 : Ctx := ctxN Tryz.prog man6 (fun _ => false) 200 .nil 6
theorem C6_ok : CtxOK Tryz.prog C6 := ctxN_ok mixed man6_ok 6
noncomputable def D6 : Dr := fun _ => drawn Tryz.prog C6
theorem D6_ok : DrOK Tryz.prog C6 D6 := drawn_ok C6_ok mixed
noncomputable def T6 (k : Nat) (args : List SV) : Tree SV := fnT Tryz.prog C6 D6 200 (fnOf Tryz.prog k) (bodyOf Tryz.prog k) args .nil

noncomputable def LTm (a b : Int) : Tree SV :=
  .need ((-9223372036854775808 : Int) ≤ a ∧ a ≤ (9223372036854775807 : Int))
  (.need ((-9223372036854775808 : Int) ≤ b ∧ b ≤ (9223372036854775807 : Int))
    (.need (((0 : Int) ≤ (↑(Int.natAbs a) : Int) ∧ (↑(Int.natAbs a) : Int) < (18446744073709551616 : Int)) ∧ (0 : Int) ≤ (↑(Int.natAbs b) : Int) ∧ (↑(Int.natAbs b) : Int) < (18446744073709551616 : Int))
      (.ret
        (SV.agg
          [bv !decide (a < (0 : Int)) == decide (b < (0 : Int)), SV.d (DV.x (.int .u64 ((↑(Int.natAbs a) : Int) * (↑(Int.natAbs b) : Int) / (18446744073709551616 : Int)))),
            SV.d (DV.x (.int .u64 ((↑(Int.natAbs a) : Int) * (↑(Int.natAbs b) : Int) % (18446744073709551616 : Int))))]))))

theorem LTm_eq (a b : Int) : T6 49 [iv a, iv b] = LTm a b := by kernel_rfl

noncomputable def LPl (s : Bool) (h1 l1 : Int) (t : Bool) (h2 l2 : Int) : Tree SV :=
  .ite (s == t)
  (.need ((0 : Int) ≤ l1 ∧ (0 : Int) ≤ l2 ∧ (0 : Int) ≤ (0 : Int) ∧ (0 : Int) ≤ (1 : Int))
   (.need ((0 : Int) ≤ h1 ∧ (0 : Int) ≤ h2 ∧ (0 : Int) ≤ (l1 + l2 + (0 : Int)) / (18446744073709551616 : Int) ∧ (l1 + l2 + (0 : Int)) / (18446744073709551616 : Int) ≤ (1 : Int))
   (.ret
   (SV.agg
   [bv s, SV.d (DV.x (.int .u64 ((h1 + h2 + (l1 + l2 + (0 : Int)) / (18446744073709551616 : Int)) % (18446744073709551616 : Int)))),
   SV.d (DV.x (.int .u64 ((l1 + l2 + (0 : Int)) % (18446744073709551616 : Int))))]))))
  (.ite (!(decide (h1 > h2) || h1 == h2 && decide (l1 ≥ l2)))
   (.need ((0 : Int) ≤ l2 ∧ (0 : Int) ≤ l1 ∧ l1 < (18446744073709551616 : Int) ∧ (0 : Int) ≤ (0 : Int) ∧ (0 : Int) ≤ (1 : Int))
   (.need ((0 : Int) ≤ h2 ∧ (0 : Int) ≤ h1 ∧ h1 < (18446744073709551616 : Int) ∧ ((0 : Int) ≤ if l2 < l1 + (0 : Int) then (1 : Int) else (0 : Int)) ∧ (if l2 < l1 + (0 : Int) then (1 : Int) else (0 : Int)) ≤ (1 : Int))
   (.ret
   (SV.agg
   [bv t, SV.d (DV.x (.int .u64 ((h2 + (18446744073709551616 : Int) - h1 - if l2 < l1 + (0 : Int) then (1 : Int) else (0 : Int)) % (18446744073709551616 : Int)))),
   SV.d (DV.x (.int .u64 ((l2 + (18446744073709551616 : Int) - l1 - (0 : Int)) % (18446744073709551616 : Int))))]))))
   (.need ((0 : Int) ≤ l1 ∧ (0 : Int) ≤ l2 ∧ l2 < (18446744073709551616 : Int) ∧ (0 : Int) ≤ (0 : Int) ∧ (0 : Int) ≤ (1 : Int))
   (.need ((0 : Int) ≤ h1 ∧ (0 : Int) ≤ h2 ∧ h2 < (18446744073709551616 : Int) ∧ ((0 : Int) ≤ if l1 < l2 + (0 : Int) then (1 : Int) else (0 : Int)) ∧ (if l1 < l2 + (0 : Int) then (1 : Int) else (0 : Int)) ≤ (1 : Int))
   (.ret
   (SV.agg
   [bv s, SV.d (DV.x (.int .u64 ((h1 + (18446744073709551616 : Int) - h2 - if l1 < l2 + (0 : Int) then (1 : Int) else (0 : Int)) % (18446744073709551616 : Int)))),
   SV.d (DV.x (.int .u64 ((l1 + (18446744073709551616 : Int) - l2 - (0 : Int)) % (18446744073709551616 : Int))))])))))

theorem LPl_eq (s : Bool) (h1 l1 : Int) (t : Bool) (h2 l2 : Int) : T6 50 [.agg [bv s, u6 h1, u6 l1], .agg [bv t, u6 h2, u6 l2]] = LPl s h1 l1 t h2 l2 := by kernel_rfl

noncomputable def LMd (s : Bool) (h l : Int) (t : Bool) (h2 l2 : Int) : Tree SV :=
  .ite (decide (h > (0 : Int)) || decide (l > (4611686018427387904 : Int)))
  (.ite (decide (h2 > (0 : Int)) || decide (l2 > (4611686018427387904 : Int)))
   (.ite true (.ret (SV.tup [SV.agg [iv (0 : Int), iv (0 : Int)], iv (2 : Int)])) (.ret (SV.tup [SV.agg [iv (0 : Int), iv (0 : Int)], iv (0 : Int)])))
   (.ite t (.ite true (.ret (SV.tup [SV.agg [iv (0 : Int), iv (0 : Int)], iv (2 : Int)])) (.ret (SV.tup [SV.agg [iv (0 : Int), iv (w64 ((0 : Int) - w64 l2))], iv (0 : Int)])))
   (.ite true (.ret (SV.tup [SV.agg [iv (0 : Int), iv (0 : Int)], iv (2 : Int)])) (.ret (SV.tup [SV.agg [iv (0 : Int), iv (w64 l2)], iv (0 : Int)])))))
  (.ite s
   (.ite (decide (h2 > (0 : Int)) || decide (l2 > (4611686018427387904 : Int)))
   (.ite true (.ret (SV.tup [SV.agg [iv (0 : Int), iv (0 : Int)], iv (2 : Int)])) (.ret (SV.tup [SV.agg [iv (w64 ((0 : Int) - w64 l)), iv (0 : Int)], iv (0 : Int)])))
   (.ite t (.ite false (.ret (SV.tup [SV.agg [iv (0 : Int), iv (0 : Int)], iv (2 : Int)])) (.ret (SV.tup [SV.agg [iv (w64 ((0 : Int) - w64 l)), iv (w64 ((0 : Int) - w64 l2))], iv (0 : Int)])))
   (.ite false (.ret (SV.tup [SV.agg [iv (0 : Int), iv (0 : Int)], iv (2 : Int)])) (.ret (SV.tup [SV.agg [iv (w64 ((0 : Int) - w64 l)), iv (w64 l2)], iv (0 : Int)])))))
   (.ite (decide (h2 > (0 : Int)) || decide (l2 > (4611686018427387904 : Int)))
   (.ite true (.ret (SV.tup [SV.agg [iv (0 : Int), iv (0 : Int)], iv (2 : Int)])) (.ret (SV.tup [SV.agg [iv (w64 l), iv (0 : Int)], iv (0 : Int)])))
   (.ite t (.ite false (.ret (SV.tup [SV.agg [iv (0 : Int), iv (0 : Int)], iv (2 : Int)])) (.ret (SV.tup [SV.agg [iv (w64 l), iv (w64 ((0 : Int) - w64 l2))], iv (0 : Int)])))
   (.ite false (.ret (SV.tup [SV.agg [iv (0 : Int), iv (0 : Int)], iv (2 : Int)])) (.ret (SV.tup [SV.agg [iv (w64 l), iv (w64 l2)], iv (0 : Int)]))))))

theorem LMd_eq (s : Bool) (h l : Int) (t : Bool) (h2 l2 : Int) : T6 55 [.agg [bv s, u6 h, u6 l], .agg [bv t, u6 h2, u6 l2]] = LMd s h l t h2 l2 := by kernel_rfl

end Go.Proofs.YtmdbfhkineaheaaGreatDoor

namespace Go.Proofs.YtmdbfhkineaheaaGreatDoor
open Go.Sx
set_option maxRecDepth 100000

/-! ### Wide numbers -/

noncomputable def wSV (s : Bool) (T : Nat) : SV := .agg [bv s, u6 (T / 18446744073709551616 : Nat), u6 (T % 18446744073709551616 : Nat)]
def wN (h l : Int) : Nat := h.toNat * 18446744073709551616 + l.toNat

noncomputable def cTm : Ctr := fun ss => match ss with
  | [.d (.x (.int .i64 a)), .d (.x (.int .i64 b))] => .need ((-9223372036854775808 ≤ a ∧ a ≤ 9223372036854775807) ∧ (-9223372036854775808 ≤ b ∧ b ≤ 9223372036854775807)) (.ret (wSV (!(decide (a < 0) == decide (b < 0))) (a.natAbs * b.natAbs)))
  | _ => .fail
theorem cTm_ok : CtrOK Tryz.prog 49 cTm := by
  refine ctrOK_leS C6_ok D6_ok (by kernel_rfl) (by kernel_rfl) fun ss r h => ?_
  unfold cTm at h
  split at h
  · rename_i a b
    obtain ⟨⟨h1, h2⟩, rfl⟩ := h
    refine ⟨[iv a, iv b], 200, .nil, by simp [leSVs, leSV, iv, leD], Sat.of_eq (LTm_eq a b) ⟨?_⟩⟩
    unfold LTm
    refine ⟨h1, h2, ⟨by omega, by omega⟩, ?_⟩
    rw [← Int.natCast_mul]
    exact rfl
  · exact h.elim

noncomputable def cPl : Ctr := fun ss => match ss with
  | [.agg [.d (.x (.bool s)), .d (.x (.int .u64 h1)), .d (.x (.int .u64 l1))], .agg [.d (.x (.bool t)), .d (.x (.int .u64 h2)), .d (.x (.int .u64 l2))]] =>
    .need ((0 ≤ h1 ∧ h1 < 9223372036854775808) ∧ (0 ≤ l1 ∧ l1 < 18446744073709551616) ∧ (0 ≤ h2 ∧ h2 < 9223372036854775808) ∧ (0 ≤ l2 ∧ l2 < 18446744073709551616)) (.ret (wSV (sN s (wN h1 l1) t (wN h2 l2)) (sV s (wN h1 l1) t (wN h2 l2))))
  | _ => .fail
theorem cPl_ok : CtrOK Tryz.prog 50 cPl := by
  refine ctrOK_leS C6_ok D6_ok (by kernel_rfl) (by kernel_rfl) fun ss r h => ?_
  unfold cPl at h
  split at h
  · rename_i s h1 l1 t h2 l2
    obtain ⟨⟨a1, a2, a3, a4⟩, rfl⟩ := h
    refine ⟨[.agg [bv s, u6 h1, u6 l1], .agg [bv t, u6 h2, u6 l2]], 200, .nil, by simp [leSVs, leSV, u6, bv, leD], Sat.of_eq (LPl_eq s h1 l1 t h2 l2) ⟨?_⟩⟩
    unfold LPl
    have key : ∀ (S : Bool) (T : Nat) (x y : Int), x = (T / 18446744073709551616 : Nat) → y = (T % 18446744073709551616 : Nat) → SV.agg [bv S, .d (.x (.int .u64 x)), .d (.x (.int .u64 y))] = wSV S T := fun S T x y hx hy => by rw [hx, hy]; rfl
    refine ⟨fun hc => ⟨by omega, by omega, ?_⟩, fun hc => ⟨fun hs => ?_, fun hs => ?_⟩⟩
    · have hc : s = t := by simpa using hc
      simp only [Tree.sat, sN, sV, if_pos hc]
      refine key _ _ _ _ ?_ ?_
      · unfold wN; omega
      · unfold wN; omega
    · have hc : s ≠ t := by simpa using hc
      have hs : ¬ wN h2 l2 ≤ wN h1 l1 := by
        simp only [Bool.not_eq_true', Bool.or_eq_false_iff, Bool.and_eq_false_iff, decide_eq_false_iff_not, beq_eq_false_iff_ne] at hs
        unfold wN; omega
      refine ⟨by omega, ⟨by omega, by omega, by omega, by split <;> omega, by split <;> omega⟩, ?_⟩
      simp only [Tree.sat, sN, sV, if_neg hc, if_neg hs]
      refine key _ _ _ _ ?_ ?_
      · unfold wN at *; split <;> omega
      · unfold wN at *; omega
    · have hc : s ≠ t := by simpa using hc
      have hs : wN h2 l2 ≤ wN h1 l1 := by
        simp only [Bool.not_eq_false', Bool.or_eq_true, Bool.and_eq_true, decide_eq_true_eq, beq_iff_eq] at hs
        unfold wN; omega
      refine ⟨by omega, ⟨by omega, by omega, by omega, by split <;> omega, by split <;> omega⟩, ?_⟩
      simp only [Tree.sat, sN, sV, if_neg hc, if_pos hs]
      refine key _ _ _ _ ?_ ?_
      · unfold wN at *; split <;> omega
      · unfold wN at *; omega
  · exact h.elim

end Go.Proofs.YtmdbfhkineaheaaGreatDoor

namespace Go.Proofs.YtmdbfhkineaheaaGreatDoor
open Go.Sx
set_option maxRecDepth 100000

noncomputable def cMd : Ctr := fun ss => match ss with
  | [.agg [.d (.x (.bool s)), .d (.x (.int .u64 h1)), .d (.x (.int .u64 l1))], .agg [.d (.x (.bool t)), .d (.x (.int .u64 h2)), .d (.x (.int .u64 l2))]] =>
    .need ((0 ≤ h1 ∧ 0 ≤ l1 ∧ l1 < 18446744073709551616) ∧ (0 ≤ h2 ∧ 0 ≤ l2 ∧ l2 < 18446744073709551616) ∧ t = false) (.ret (.tup [.agg [iv (finN s (wN h1 l1) (wN h2 l2)), iv (finD (wN h1 l1) (wN h2 l2))], iv (finE (wN h1 l1) (wN h2 l2))]))
  | _ => .fail
theorem cMd_ok : CtrOK Tryz.prog 55 cMd := by
  refine ctrOK_leS C6_ok D6_ok (by kernel_rfl) (by kernel_rfl) fun ss r h => ?_
  unfold cMd at h
  split at h
  · rename_i s h1 l1 t h2 l2
    obtain ⟨⟨a1, a2, rfl⟩, rfl⟩ := h
    refine ⟨[.agg [bv s, u6 h1, u6 l1], .agg [bv false, u6 h2, u6 l2]], 200, .nil, by simp [leSVs, leSV, u6, bv, leD], Sat.of_eq (LMd_eq s h1 l1 false h2 l2) ⟨?_⟩⟩
    unfold LMd
    have k1 : (decide (h1 > 0) || decide (l1 > 4611686018427387904)) = decide (¬ wN h1 l1 ≤ 4611686018427387904) := by
      rw [← Bool.decide_or, decide_eq_decide]; unfold wN; omega
    have k2 : (decide (h2 > 0) || decide (l2 > 4611686018427387904)) = decide (¬ wN h2 l2 ≤ 4611686018427387904) := by
      rw [← Bool.decide_or, decide_eq_decide]; unfold wN; omega
    rw [k1, k2]
    refine ⟨fun hc => ?_, fun hc => ?_⟩
    · have hc := of_decide_eq_true hc
      have hf : ¬ (wN h1 l1 ≤ 4611686018427387904 ∧ wN h2 l2 ≤ 4611686018427387904) := fun h => hc h.1
      simp only [finN, finD, finE, if_neg hf]
      exact ⟨fun _ => ⟨fun _ => rfl, fun h => by cases h⟩, fun _ => ⟨fun h => (by cases h), fun _ => ⟨fun _ => rfl, fun h => by cases h⟩⟩⟩
    · have hc := Decidable.not_not.1 (of_decide_eq_false hc)
      refine ⟨fun hs => ⟨fun hd => ?_, fun hd => ?_⟩, fun hs => ⟨fun hd => ?_, fun hd => ?_⟩⟩
      · have hd := of_decide_eq_true hd
        have hf : ¬ (wN h1 l1 ≤ 4611686018427387904 ∧ wN h2 l2 ≤ 4611686018427387904) := fun h => hd h.2
        simp only [finN, finD, finE, if_neg hf]
        exact ⟨fun _ => rfl, fun h => by cases h⟩
      · have hd := Decidable.not_not.1 (of_decide_eq_false hd)
        simp only [finN, finD, finE, if_pos (And.intro hc hd)]
        refine ⟨fun h => (by cases h), fun _ => ⟨fun h => (by cases h), fun _ => ?_⟩⟩
        have e1 : (wN h1 l1 : Int) = l1 := by clear k1 k2 hs; unfold wN at hc ⊢; omega
        have e2 : (wN h2 l2 : Int) = l2 := by clear k1 k2 hs; unfold wN at hd ⊢; omega
        rw [w64_of (n := l1) (by omega) (by omega), w64_of (n := l2) (by omega) (by omega), w64_of (n := 0 - l1) (by omega) (by omega), e2, show sg s (wN h1 l1) = 0 - l1 by rw [sg, if_pos hs, e1, Int.zero_sub]]
        exact rfl
      · have hd := of_decide_eq_true hd
        have hf : ¬ (wN h1 l1 ≤ 4611686018427387904 ∧ wN h2 l2 ≤ 4611686018427387904) := fun h => hd h.2
        simp only [finN, finD, finE, if_neg hf]
        exact ⟨fun _ => rfl, fun h => by cases h⟩
      · have hd := Decidable.not_not.1 (of_decide_eq_false hd)
        simp only [finN, finD, finE, if_pos (And.intro hc hd)]
        refine ⟨fun h => (by cases h), fun _ => ⟨fun h => (by cases h), fun _ => ?_⟩⟩
        have e1 : (wN h1 l1 : Int) = l1 := by clear k1 k2 hs; unfold wN at hc ⊢; omega
        have e2 : (wN h2 l2 : Int) = l2 := by clear k1 k2 hs; unfold wN at hd ⊢; omega
        rw [w64_of (n := l1) (by omega) (by omega), w64_of (n := l2) (by omega) (by omega), e2, show sg s (wN h1 l1) = l1 by rw [sg, hs, e1]; rfl]
        exact rfl
  · exact h.elim

end Go.Proofs.YtmdbfhkineaheaaGreatDoor

/- Division of two words by one word, digit by digit: plain laws, no program in sight. -/
namespace Go.Sx

structure DivIn (u v a b : Int) : Prop where
  u0 : 0 ≤ u
  v0 : 0 ≤ v
  v1 : v < 4294967296
  a0 : 2147483648 ≤ a
  a1 : a < 4294967296
  b0 : 0 ≤ b
  b1 : b < 4294967296
  uy : u < a * 4294967296 + b

def digQ (u v a b : Int) : Int := (u * 4294967296 + v) / (a * 4294967296 + b)

structure DigI (u v a b q r : Int) : Prop where
  inp : DivIn u v a b
  le : digQ u v a b ≤ q
  q1 : q ≤ 4294967297
  eq : q * a + r = u
  r0 : 0 ≤ r

theorem dig_nonneg {u v a b : Int} (h : DivIn u v a b) : 0 ≤ digQ u v a b := by
  have := h.u0; have := h.v0; have := h.a0; have := h.b0
  exact Int.ediv_nonneg (by omega) (by omega)
theorem dig_mul (q a b : Int) : q * (a * 4294967296 + b) = q * a * 4294967296 + q * b := by
  rw [Int.mul_add, ← Int.mul_assoc]

theorem dig_start {u v a b : Int} (h : DivIn u v a b) : DigI u v a b (u / a) (u - u / a * a) ∧ u - u / a * a < 4294967296 := by
  have hn := dig_nonneg h
  obtain ⟨u0, v0, v1, a0, a1, b0, b1, uy⟩ := h
  have e1 := Int.emod_add_mul_ediv u a
  have e2 := Int.emod_nonneg u (show a ≠ 0 by omega)
  have e3 := Int.emod_lt_of_pos u (show 0 < a by omega)
  have e4 : a * (u / a) = u / a * a := Int.mul_comm _ _
  refine ⟨⟨⟨u0, v0, v1, a0, a1, b0, b1, uy⟩, ?_, ?_, by omega, by omega⟩, by omega⟩
  · have h1 : digQ u v a b * (a * 4294967296 + b) ≤ u * 4294967296 + v := Int.ediv_mul_le _ (by omega)
    rw [dig_mul] at h1
    have h2 : 0 ≤ digQ u v a b * b := Int.mul_nonneg hn b0
    exact Int.le_ediv_of_mul_le (by omega) (by omega)
  · have : u / a < 4294967298 := Int.ediv_lt_of_lt_mul (by omega) (by omega)
    omega

theorem dig_hit {u v a b q r : Int} (h : DigI u v a b q r) (hq : q * b ≤ 4294967296 * r + v) : q = digQ u v a b := by
  obtain ⟨⟨u0, v0, v1, a0, a1, b0, b1, uy⟩, le, q1, eq, r0⟩ := h
  have : q ≤ digQ u v a b := by
    refine Int.le_ediv_of_mul_le (by omega) ?_
    rw [dig_mul]; omega
  omega

theorem dig_miss {u v a b q r : Int} (h : DigI u v a b q r) (hq : 4294967296 ≤ q ∨ 4294967296 * r + v < q * b) : digQ u v a b ≤ q - 1 := by
  obtain ⟨⟨u0, v0, v1, a0, a1, b0, b1, uy⟩, le, q1, eq, r0⟩ := h
  rcases hq with hq | hq
  · have : digQ u v a b < 4294967296 := Int.ediv_lt_of_lt_mul (by omega) (by omega)
    omega
  · have : digQ u v a b < q := Int.ediv_lt_of_lt_mul (by omega) (by rw [dig_mul]; omega)
    omega

theorem dig_step {u v a b q r : Int} (h : DigI u v a b q r) (hq : 4294967296 ≤ q ∨ 4294967296 * r + v < q * b) : DigI u v a b (q - 1) (r + a) := by
  refine ⟨h.inp, dig_miss h hq, by have := h.q1; omega, ?_, by have := h.r0; have := h.inp.a0; omega⟩
  rw [Int.sub_mul, Int.one_mul, ← h.eq]; omega

theorem dig_qb {u v a b q r : Int} (h : DigI u v a b q r) : 0 ≤ q ∧ 0 ≤ q * b ∧ q * b ≤ 18446744073709551615 := by
  have hq := dig_nonneg h.inp
  have h1 := h.le; have h2 := h.inp.b0; have h3 := h.inp.b1; have h4 := h.q1
  refine ⟨by omega, Int.mul_nonneg (by omega) h2, ?_⟩
  have := Int.mul_le_mul h4 (show b ≤ 4294967295 by omega) h2 (by omega)
  omega

theorem dig_brk {u v a b q r : Int} (h : DigI u v a b q r) (hr : 4294967296 ≤ r) (hq : q ≤ 4294967296) : q = digQ u v a b := by
  refine dig_hit h ?_
  have h2 := h.inp.b0; have h3 := h.inp.b1; have h5 := h.inp.v0
  have := Int.mul_le_mul_of_nonneg_right hq h2
  omega

theorem ediv_rem (X Y : Int) (hY : 0 < Y) : 0 ≤ X - X / Y * Y ∧ X - X / Y * Y < Y := by
  have e1 := Int.emod_add_mul_ediv X Y
  have e2 := Int.emod_nonneg X (show Y ≠ 0 by omega)
  have e3 := Int.emod_lt_of_pos X hY
  rw [Int.mul_comm] at e1
  omega
theorem dig_rem {u v a b : Int} (h : DivIn u v a b) : 0 ≤ u * 4294967296 + v - digQ u v a b * (a * 4294967296 + b) ∧ u * 4294967296 + v - digQ u v a b * (a * 4294967296 + b) < a * 4294967296 + b := by
  obtain ⟨u0, v0, v1, a0, a1, b0, b1, uy⟩ := h
  exact ediv_rem _ _ (by omega)
theorem dig_lt {u v a b : Int} (h : DivIn u v a b) : digQ u v a b < 4294967296 := by
  obtain ⟨u0, v0, v1, a0, a1, b0, b1, uy⟩ := h
  exact Int.ediv_lt_of_lt_mul (by omega) (by omega)

/-- The two digits together. -/
theorem dig_two {u v w a b s X Y q1 q0 : Int} (h : DivIn u v a b) (hw : 0 ≤ w ∧ w < 4294967296) (hs : 0 < s) (hX : (u * 4294967296 + v) * 4294967296 + w = X * s) (hY : a * 4294967296 + b = Y * s)
    (h1 : q1 = digQ u v a b) (h0 : q0 = digQ (u * 4294967296 + v - q1 * (a * 4294967296 + b)) w a b) :
    q1 * 4294967296 + q0 = X / Y ∧ (u * 4294967296 + v - q1 * (a * 4294967296 + b)) * 4294967296 + w - q0 * (a * 4294967296 + b) = X % Y * s := by
  have r1 := dig_rem h
  rw [← h1] at r1
  have hy : 0 < a * 4294967296 + b := by have := h.a0; have := h.b0; omega
  have h' : DivIn (u * 4294967296 + v - q1 * (a * 4294967296 + b)) w a b := ⟨r1.1, hw.1, hw.2, h.a0, h.a1, h.b0, h.b1, r1.2⟩
  have r0 := dig_rem h'
  rw [← h0] at r0
  have key : X * s = (q1 * 4294967296 + q0) * (Y * s) + ((u * 4294967296 + v - q1 * (a * 4294967296 + b)) * 4294967296 + w - q0 * (a * 4294967296 + b)) := by
    rw [← hX, hY]
    have e1 : (q1 * 4294967296 + q0) * (Y * s) = q1 * (Y * s) * 4294967296 + q0 * (Y * s) := by rw [Int.add_mul, Int.mul_right_comm]
    rw [e1]; omega
  generalize (u * 4294967296 + v - q1 * (a * 4294967296 + b)) * 4294967296 + w - q0 * (a * 4294967296 + b) = R at *
  rw [hY] at r0 hy
  have hd : q1 * 4294967296 + q0 = X * s / (Y * s) := by
    have : X * s / (Y * s) = R / (Y * s) + (q1 * 4294967296 + q0) := by
      rw [key, Int.add_comm, Int.mul_comm (q1 * 4294967296 + q0), Int.add_mul_ediv_left _ _ (by omega)]
    rw [this, Int.ediv_eq_zero_of_lt r0.1 r0.2]; omega
  rw [Int.mul_ediv_mul_of_pos_left _ _ hs] at hd
  refine ⟨hd, ?_⟩
  have e2 := Int.emod_add_mul_ediv X Y
  rw [← hd] at e2
  have e3 : X % Y = X - (q1 * 4294967296 + q0) * Y := by rw [Int.mul_comm] at e2; omega
  rw [e3, Int.sub_mul, Int.mul_assoc, key]; omega

end Go.Sx

namespace Go.Proofs.YtmdbfhkineaheaaGreatDoor
open Go.Sx
set_option maxRecDepth 100000

def lenL : List UInt8 := [0, 1, 2, 2, 3, 3, 3, 3, 4, 4, 4, 4, 4, 4, 4, 4, 5, 5, 5, 5, 5, 5, 5, 5, 5, 5, 5, 5, 5, 5, 5, 5, 6, 6, 6, 6, 6, 6, 6, 6, 6, 6, 6, 6, 6, 6, 6, 6, 6, 6, 6, 6, 6, 6, 6, 6, 6, 6, 6, 6, 6, 6, 6, 6, 7, 7, 7, 7, 7, 7, 7, 7, 7, 7, 7, 7, 7, 7, 7, 7, 7, 7, 7, 7, 7, 7, 7, 7, 7, 7, 7, 7, 7, 7, 7, 7, 7, 7, 7, 7, 7, 7, 7, 7, 7, 7, 7, 7, 7, 7, 7, 7, 7, 7, 7, 7, 7, 7, 7, 7, 7, 7, 7, 7, 7, 7, 7, 7, 8, 8, 8, 8, 8, 8, 8, 8, 8, 8, 8, 8, 8, 8, 8, 8, 8, 8, 8, 8, 8, 8, 8, 8, 8, 8, 8, 8, 8, 8, 8, 8, 8, 8, 8, 8, 8, 8, 8, 8, 8, 8, 8, 8, 8, 8, 8, 8, 8, 8, 8, 8, 8, 8, 8, 8, 8, 8, 8, 8, 8, 8, 8, 8, 8, 8, 8, 8, 8, 8, 8, 8, 8, 8, 8, 8, 8, 8, 8, 8, 8, 8, 8, 8, 8, 8, 8, 8, 8, 8, 8, 8, 8, 8, 8, 8, 8, 8, 8, 8, 8, 8, 8, 8, 8, 8, 8, 8, 8, 8, 8, 8, 8, 8, 8, 8, 8, 8, 8, 8, 8, 8, 8, 8, 8, 8, 8, 8]
def lenT (i : Nat) : Nat := UInt8.toNat (Array.getD ⟨lenL⟩ i 0)
theorem lenT_chk : ∀ i : Fin 256, i.val < 2 ^ lenT i.val ∧ (lenT i.val = 0 ∨ 2 ^ (lenT i.val - 1) ≤ i.val) := by decide +kernel
theorem lenT_eq {i : Nat} (h : i < 256) : lenT i = blen i := by
  obtain ⟨h1, h2⟩ := lenT_chk ⟨i, h⟩
  simp only at h1 h2
  have a := blen_le.2 h1
  rcases h2 with h2 | h2
  · rw [h2] at a ⊢; omega
  · have : ¬ blen i ≤ lenT i - 1 := fun h => by have := blen_le.1 h; omega
    omega
theorem blen_shift {n : Nat} : ∀ {k : Nat}, n / 2 ^ k ≠ 0 → blen n = blen (n / 2 ^ k) + k
  | 0, _ => by simp
  | k + 1, h => by
    have e : n / 2 ^ (k + 1) = n / 2 ^ k / 2 := by rw [Nat.pow_succ, ← Nat.div_div_eq_div_mul]
    rw [e] at h ⊢
    have h0 : n / 2 ^ k ≠ 0 := fun h' => h (by rw [h'])
    rw [blen_shift h0, blen_pos h0]; omega
theorem blen8 {n : Nat} (h : 256 ≤ n) : blen n = blen (n / 256) + 8 := blen_shift (k := 8) (by omega)
theorem blen16 {n : Nat} (h : 65536 ≤ n) : blen n = blen (n / 65536) + 16 := blen_shift (k := 16) (by omega)
theorem blen32 {n : Nat} (h : 4294967296 ≤ n) : blen n = blen (n / 4294967296) + 32 := blen_shift (k := 32) (by omega)

noncomputable def LLen (x : Int) : Tree SV :=
  .ite (decide (x ≥ (4294967296 : Int))) (.need ((0 : Int) ≤ (32 : Int)) (.ite (decide (Int.fdiv x (4294967296 : Int) ≥ (65536 : Int))) (.need ((0 : Int) ≤ (16 : Int)) (.ite (decide (Int.fdiv (Int.fdiv x (4294967296 : Int)) (65536 : Int) ≥ (256 : Int))) (.need ((0 : Int) ≤ (8 : Int)) (.need ((0 : Int) ≤ IntKind.wrap .u8 (Int.fdiv (Int.fdiv (Int.fdiv x (4294967296 : Int)) (65536 : Int)) (256 : Int)) ∧ IntKind.wrap .u8 (Int.fdiv (Int.fdiv (Int.fdiv x (4294967296 : Int)) (65536 : Int)) (256 : Int)) < (256 : Int)) (.ret (iv (w64 ((56 : Int) + w64 (↑(lenT (Int.toNat (IntKind.wrap .u8 (Int.fdiv (Int.fdiv (Int.fdiv x (4294967296 : Int)) (65536 : Int)) (256 : Int))))) : Int))))))) (.need ((0 : Int) ≤ IntKind.wrap .u8 (Int.fdiv (Int.fdiv x (4294967296 : Int)) (65536 : Int)) ∧ IntKind.wrap .u8 (Int.fdiv (Int.fdiv x (4294967296 : Int)) (65536 : Int)) < (256 : Int)) (.ret (iv (w64 ((48 : Int) + w64 (↑(lenT (Int.toNat (IntKind.wrap .u8 (Int.fdiv (Int.fdiv x (4294967296 : Int)) (65536 : Int))))) : Int)))))))) (.ite (decide (Int.fdiv x (4294967296 : Int) ≥ (256 : Int))) (.need ((0 : Int) ≤ (8 : Int)) (.need ((0 : Int) ≤ IntKind.wrap .u8 (Int.fdiv (Int.fdiv x (4294967296 : Int)) (256 : Int)) ∧ IntKind.wrap .u8 (Int.fdiv (Int.fdiv x (4294967296 : Int)) (256 : Int)) < (256 : Int)) (.ret (iv (w64 ((40 : Int) + w64 (↑(lenT (Int.toNat (IntKind.wrap .u8 (Int.fdiv (Int.fdiv x (4294967296 : Int)) (256 : Int))))) : Int))))))) (.need ((0 : Int) ≤ IntKind.wrap .u8 (Int.fdiv x (4294967296 : Int)) ∧ IntKind.wrap .u8 (Int.fdiv x (4294967296 : Int)) < (256 : Int)) (.ret (iv (w64 ((32 : Int) + w64 (↑(lenT (Int.toNat (IntKind.wrap .u8 (Int.fdiv x (4294967296 : Int))))) : Int))))))))) (.ite (decide (x ≥ (65536 : Int))) (.need ((0 : Int) ≤ (16 : Int)) (.ite (decide (Int.fdiv x (65536 : Int) ≥ (256 : Int))) (.need ((0 : Int) ≤ (8 : Int)) (.need ((0 : Int) ≤ IntKind.wrap .u8 (Int.fdiv (Int.fdiv x (65536 : Int)) (256 : Int)) ∧ IntKind.wrap .u8 (Int.fdiv (Int.fdiv x (65536 : Int)) (256 : Int)) < (256 : Int)) (.ret (iv (w64 ((24 : Int) + w64 (↑(lenT (Int.toNat (IntKind.wrap .u8 (Int.fdiv (Int.fdiv x (65536 : Int)) (256 : Int))))) : Int))))))) (.need ((0 : Int) ≤ IntKind.wrap .u8 (Int.fdiv x (65536 : Int)) ∧ IntKind.wrap .u8 (Int.fdiv x (65536 : Int)) < (256 : Int)) (.ret (iv (w64 ((16 : Int) + w64 (↑(lenT (Int.toNat (IntKind.wrap .u8 (Int.fdiv x (65536 : Int))))) : Int)))))))) (.ite (decide (x ≥ (256 : Int))) (.need ((0 : Int) ≤ (8 : Int)) (.need ((0 : Int) ≤ IntKind.wrap .u8 (Int.fdiv x (256 : Int)) ∧ IntKind.wrap .u8 (Int.fdiv x (256 : Int)) < (256 : Int)) (.ret (iv (w64 ((8 : Int) + w64 (↑(lenT (Int.toNat (IntKind.wrap .u8 (Int.fdiv x (256 : Int))))) : Int))))))) (.need ((0 : Int) ≤ IntKind.wrap .u8 x ∧ IntKind.wrap .u8 x < (256 : Int)) (.ret (iv (w64 ((0 : Int) + w64 (↑(lenT (Int.toNat (IntKind.wrap .u8 x))) : Int))))))))

theorem LLen_eq (x : Int) : T0 89 [u6 x] = LLen x := by kernel_rfl


end Go.Proofs.YtmdbfhkineaheaaGreatDoor

namespace Go.Proofs.YtmdbfhkineaheaaGreatDoor
open Go.Sx
set_option maxRecDepth 100000

theorem fd32 (n : Nat) : Int.fdiv (n : Int) 4294967296 = ((n / 4294967296 : Nat) : Int) := by rw [Int.fdiv_eq_ediv_of_nonneg _ (by decide)]; omega
theorem fd16 (n : Nat) : Int.fdiv (n : Int) 65536 = ((n / 65536 : Nat) : Int) := by rw [Int.fdiv_eq_ediv_of_nonneg _ (by decide)]; omega
theorem fd8 (n : Nat) : Int.fdiv (n : Int) 256 = ((n / 256 : Nat) : Int) := by rw [Int.fdiv_eq_ediv_of_nonneg _ (by decide)]; omega
theorem wb8 (n : Int) : IntKind.wrap .u8 n = n % 256 := by
  unfold IntKind.wrap
  simp [IntKind.signed, IntKind.bits]
theorem len_leaf {m N off : Nat} {o : Int} (h : m < 256) (e : blen N = blen m + off) (ho : off ≤ 56) (hoo : o = off) :
    ((0 : Int) ≤ IntKind.wrap .u8 (m : Int) ∧ IntKind.wrap .u8 (m : Int) < 256) ∧ iv (w64 (o + w64 ((lenT (Int.toNat (IntKind.wrap .u8 (m : Int))) : Nat) : Int))) = iv (blen N) := by
  have e1 : IntKind.wrap .u8 (m : Int) = m := by rw [wb8]; omega
  have e2 : blen m ≤ 8 := blen_le.2 (by omega)
  rw [e1]
  refine ⟨by omega, ?_⟩
  rw [Int.toNat_natCast, lenT_eq h, w64_of (n := (blen m : Int)) (by omega) (by omega), w64_of (by omega) (by omega), e, hoo]
  congr 1; omega

noncomputable def cLen : Ctr := fun ss => match ss with
  | [.d (.x (.int .u64 x))] => .need (0 ≤ x ∧ x < 18446744073709551616) (.ret (iv (blen x.toNat)))
  | _ => .fail
theorem cLen_ok : CtrOK Tryz.prog 89 cLen := by
  refine ctrOK_leS C0_ok D0_ok (by kernel_rfl) (by kernel_rfl) fun ss r h => ?_
  unfold cLen at h
  split at h
  · rename_i x
    obtain ⟨⟨h1, h2⟩, rfl⟩ := h
    refine ⟨[u6 x], 200, .nil, by simp [leSVs, leSV, u6, leD], Sat.of_eq (LLen_eq x) ⟨?_⟩⟩
    obtain ⟨N, rfl⟩ := Int.eq_ofNat_of_zero_le h1
    rw [Int.toNat_natCast]
    unfold LLen
    simp only [fd32, fd16, fd8]
    refine ⟨fun a => ⟨by decide, fun b => ⟨by decide, fun c => ⟨by decide, ?_⟩, fun c => ?_⟩, fun b => ⟨fun c => ⟨by decide, ?_⟩, fun c => ?_⟩⟩, fun a => ⟨fun b => ⟨by decide, fun c => ⟨by decide, ?_⟩, fun c => ?_⟩, fun b => ⟨fun c => ⟨by decide, ?_⟩, fun c => ?_⟩⟩⟩ <;>
      simp only [decide_eq_true_eq, decide_eq_false_iff_not] at a b c
    · exact len_leaf (off := 56) (by omega) (by rw [blen32 (n := N) (by omega), blen16 (n := N / 4294967296) (by omega), blen8 (n := N / 4294967296 / 65536) (by omega)]) (by omega) rfl
    · exact len_leaf (off := 48) (by omega) (by rw [blen32 (n := N) (by omega), blen16 (n := N / 4294967296) (by omega)]) (by omega) rfl
    · exact len_leaf (off := 40) (by omega) (by rw [blen32 (n := N) (by omega), blen8 (n := N / 4294967296) (by omega)]) (by omega) rfl
    · exact len_leaf (off := 32) (by omega) (by rw [blen32 (n := N) (by omega)]) (by omega) rfl
    · exact len_leaf (off := 24) (by omega) (by rw [blen16 (n := N) (by omega), blen8 (n := N / 65536) (by omega)]) (by omega) rfl
    · exact len_leaf (off := 16) (by omega) (by rw [blen16 (n := N) (by omega)]) (by omega) rfl
    · exact len_leaf (off := 8) (by omega) (by rw [blen8 (n := N) (by omega)]) (by omega) rfl
    · exact len_leaf (off := 0) (by omega) rfl (by omega) rfl
  · exact h.elim

noncomputable def manD : FuncId → Option Ctr := fun k => match k with
  | 89 => some cLen
  | _ => none
theorem manD_ok (k : Nat) (c : Ctr) (h : manD k = some c) : CtrOK Tryz.prog k c ∧ goodF Tryz.prog k = true := by
  unfold manD at h
  split at h <;> first | (cases h; done) | (cases h)
  · exact ⟨cLen_ok, by kernel_rfl⟩
noncomputable def CD : Ctx := ctxN Tryz.prog manD (fun _ => false) 200 .nil 6
theorem CD_ok : CtxOK Tryz.prog CD := ctxN_ok mixed manD_ok 6
noncomputable def DD : Dr := fun _ => drawn Tryz.prog CD
theorem DD_ok : DrOK Tryz.prog CD DD := drawn_ok CD_ok mixed
noncomputable def TD (k : Nat) (args : List SV) : Tree SV := fnT Tryz.prog CD DD 200 (fnOf Tryz.prog k) (bodyOf Tryz.prog k) args .nil

end Go.Proofs.YtmdbfhkineaheaaGreatDoor

namespace Go.Proofs.YtmdbfhkineaheaaGreatDoor
open Go.Sx
set_option maxRecDepth 100000

noncomputable def tDv (y x d : Int) : Tree SV := TD 72 [u6 y, u6 x, u6 d]
def pD : List Nat := [1, 1, 1, 0, 0, 0, 0, 0, 0, 0, 0]
noncomputable def LDv (y x d : Int) : Tree SV :=
  .ite (d == (0 : Int)) .fail
  (.ite (decide (d ≤ y)) .fail
   (.ite (y == (0 : Int)) (.need (d ≠ (0 : Int)) (.need (d ≠ (0 : Int)) (.ret (SV.tup [SV.d (DV.x (.int .u64 (IntKind.wrap .u64 (Int.tdiv x d)))), SV.d (DV.x (.int .u64 (Int.tmod x d)))]))))
   (.need ((0 : Int) ≤ d ∧ d < (18446744073709551616 : Int))
   (.need ((0 : Int) ≤ IntKind.wrap .u64 (w64 ((64 : Int) - (↑(blen (Int.toNat d)) : Int))))
   (.need ((0 : Int) ≤ (32 : Int))
   (.need ((0 : Int) ≤ IntKind.wrap .u64 (w64 ((64 : Int) - (↑(blen (Int.toNat d)) : Int))))
   (.need ((0 : Int) ≤ IntKind.wrap .u64 ((64 : Int) - IntKind.wrap .u64 (w64 ((64 : Int) - (↑(blen (Int.toNat d)) : Int)))))
   (.need ((0 : Int) ≤ IntKind.wrap .u64 (w64 ((64 : Int) - (↑(blen (Int.toNat d)) : Int))))
   (.need ((0 : Int) ≤ (32 : Int))
   (.need (Int.fdiv (IntKind.wrap .u64 (d * (2 : Int) ^ min (Int.toNat (IntKind.wrap .u64 (w64 ((64 : Int) - (↑(blen (Int.toNat d)) : Int))))) 64)) (4294967296 : Int) ≠ (0 : Int))
   (.code (codeC (sub [(1 : Nat), (1 : Nat), (1 : Nat), (0 : Nat), (0 : Nat), (0 : Nat), (0 : Nat), (0 : Nat), (0 : Nat), (0 : Nat), (0 : Nat)] (tDv y x d)))
   (codeS (sub [(1 : Nat), (1 : Nat), (1 : Nat), (0 : Nat), (0 : Nat), (0 : Nat), (0 : Nat), (0 : Nat), (0 : Nat), (0 : Nat), (0 : Nat)] (tDv y x d)))
   (codeK (sub [(1 : Nat), (1 : Nat), (1 : Nat), (0 : Nat), (0 : Nat), (0 : Nat), (0 : Nat), (0 : Nat), (0 : Nat), (0 : Nat), (0 : Nat)] (tDv y x d))))))))))))))

theorem LDv_eq (y x d : Int) : tDv y x d = LDv y x d := by kernel_rfl

noncomputable def invD1 (Y s a b u v w q r : Int) : AS := ⟨[.unk, .unk, .ok (u6 Y), .unk, .unk, .unk, .unk, .unk, .ok (u6 s), .ok (u6 a), .ok (u6 b), .ok (u6 u), .unk, .ok (u6 v), .ok (u6 w), .ok (u6 q), .ok (u6 r)] ++ List.replicate 118 .unk, [], 0, .nil⟩
noncomputable def invD2 (Y s a b w q u q0 r : Int) : AS := ⟨[.unk, .unk, .ok (u6 Y), .unk, .unk, .unk, .unk, .unk, .ok (u6 s), .ok (u6 a), .ok (u6 b), .unk, .unk, .unk, .ok (u6 w), .ok (u6 q), .ok (u6 r), .ok (u6 u), .ok (u6 q0)] ++ List.replicate 116 .unk, [], 0, .nil⟩
noncomputable def bodyD1 : Code := loopN (bodyOf Tryz.prog 72) 0
noncomputable def bodyD2 : Code := loopN (bodyOf Tryz.prog 72) 1
noncomputable def BD1 (Y s a b u v w q r : Int) : Tree (Ex × AS) :=
  .ite (decide (q ≥ (4294967296 : Int)) || decide (IntKind.wrap .u64 (q * b) > IntKind.wrap .u64 (IntKind.wrap .u64 ((4294967296 : Int) * r) + v)))
  (.ite (decide (IntKind.wrap .u64 (r + a) ≥ (4294967296 : Int)))
   (.ret
   (.exit 0,
   {
   tm :=
   [.unk, .unk, .ok (SV.d (DV.x (.int .u64 Y))), .unk, .unk, .unk, .unk, .unk, .ok (SV.d (DV.x (.int .u64 s))), .ok (SV.d (DV.x (.int .u64 a))),
   .ok (SV.d (DV.x (.int .u64 b))), .ok (SV.d (DV.x (.int .u64 u))), .unk, .ok (SV.d (DV.x (.int .u64 v))), .ok (SV.d (DV.x (.int .u64 w))),
   .ok (SV.d (DV.x (.int .u64 (IntKind.wrap .u64 (q - (1 : Int)))))), .ok (SV.d (DV.x (.int .u64 (IntKind.wrap .u64 (r + a))))), .unk, .unk, .unk, .unk, .unk, .unk, .unk,
   .unk, .unk, .unk, .unk, .unk, .unk, .unk, .unk, .unk, .unk, .unk, .unk, .unk, .unk, .unk, .unk, .unk, .unk, .unk, .unk, .unk, .unk, .unk, .unk, .unk, .unk, .unk, .unk,
   .unk, .unk, .unk, .unk, .unk, .unk, .unk, .unk, .unk, .unk, .unk, .unk, .unk, .unk, .unk, .unk, .unk, .unk, .unk, .unk, .unk, .unk, .unk, .unk, .unk, .unk, .unk, .unk,
   .unk, .unk, .unk, .unk, .unk, .unk, .unk, .unk, .unk, .unk, .unk, .unk, .unk, .unk, .unk, .unk, .unk, .unk, .unk, .unk, .unk, .unk, .unk, .unk, .unk, .unk, .unk, .unk,
   .unk, .unk, .unk, .unk, .unk, .unk, .unk, .unk, .unk, .unk, .unk, .unk, .unk, .unk, .unk, .unk, .unk, .unk, .unk, .unk, .unk, .unk, .unk, .unk, .unk, .unk, .unk],
   hp := [], next := 0, hint := .nil }))
   (.ret
   (.normal,
   {
   tm :=
   [.unk, .unk, .ok (SV.d (DV.x (.int .u64 Y))), .unk, .unk, .unk, .unk, .unk, .ok (SV.d (DV.x (.int .u64 s))), .ok (SV.d (DV.x (.int .u64 a))),
   .ok (SV.d (DV.x (.int .u64 b))), .ok (SV.d (DV.x (.int .u64 u))), .unk, .ok (SV.d (DV.x (.int .u64 v))), .ok (SV.d (DV.x (.int .u64 w))),
   .ok (SV.d (DV.x (.int .u64 (IntKind.wrap .u64 (q - (1 : Int)))))), .ok (SV.d (DV.x (.int .u64 (IntKind.wrap .u64 (r + a))))), .unk, .unk, .unk, .unk, .unk, .unk, .unk,
   .unk, .unk, .unk, .unk, .unk, .unk, .unk, .unk, .unk, .unk, .unk, .unk, .unk, .unk, .unk, .unk, .unk, .unk, .unk, .unk, .unk, .unk, .unk, .unk, .unk, .unk, .unk, .unk,
   .unk, .unk, .unk, .unk, .unk, .unk, .unk, .unk, .unk, .unk, .unk, .unk, .unk, .unk, .unk, .unk, .unk, .unk, .unk, .unk, .unk, .unk, .unk, .unk, .unk, .unk, .unk, .unk,
   .unk, .unk, .unk, .unk, .unk, .unk, .unk, .unk, .unk, .unk, .unk, .unk, .unk, .unk, .unk, .unk, .unk, .unk, .unk, .unk, .unk, .unk, .unk, .unk, .unk, .unk, .unk, .unk,
   .unk, .unk, .unk, .unk, .unk, .unk, .unk, .unk, .unk, .unk, .unk, .unk, .unk, .unk, .unk, .unk, .unk, .unk, .unk, .unk, .unk, .unk, .unk, .unk, .unk, .unk, .unk],
   hp := [], next := 0, hint := .nil })))
  (.ret
   (.exit 0,
   {
   tm :=
   [.unk, .unk, .ok (SV.d (DV.x (.int .u64 Y))), .unk, .unk, .unk, .unk, .unk, .ok (SV.d (DV.x (.int .u64 s))), .ok (SV.d (DV.x (.int .u64 a))),
   .ok (SV.d (DV.x (.int .u64 b))), .ok (SV.d (DV.x (.int .u64 u))), .unk, .ok (SV.d (DV.x (.int .u64 v))), .ok (SV.d (DV.x (.int .u64 w))),
   .ok (SV.d (DV.x (.int .u64 q))), .ok (SV.d (DV.x (.int .u64 r))), .unk, .unk, .unk, .unk, .unk, .unk, .unk, .unk, .unk, .unk, .unk, .unk, .unk, .unk, .unk, .unk,
   .unk, .unk, .unk, .unk, .unk, .unk, .unk, .unk, .unk, .unk, .unk, .unk, .unk, .unk, .unk, .unk, .unk, .unk, .unk, .unk, .unk, .unk, .unk, .unk, .unk, .unk, .unk, .unk,
   .unk, .unk, .unk, .unk, .unk, .unk, .unk, .unk, .unk, .unk, .unk, .unk, .unk, .unk, .unk, .unk, .unk, .unk, .unk, .unk, .unk, .unk, .unk, .unk, .unk, .unk, .unk, .unk,
   .unk, .unk, .unk, .unk, .unk, .unk, .unk, .unk, .unk, .unk, .unk, .unk, .unk, .unk, .unk, .unk, .unk, .unk, .unk, .unk, .unk, .unk, .unk, .unk, .unk, .unk, .unk, .unk,
   .unk, .unk, .unk, .unk, .unk, .unk, .unk, .unk, .unk, .unk, .unk, .unk, .unk, .unk, .unk, .unk, .unk, .unk],
   hp := [], next := 0, hint := .nil }))

theorem BD1_eq (Y s a b u v w q r : Int) : cutT 0 [] [2, 8, 9, 10, 11, 13, 14, 15, 16] [] 0 .nil (exec Tryz.prog CD DD 200 bodyD1 (invD1 Y s a b u v w q r)) = BD1 Y s a b u v w q r := by kernel_rfl

noncomputable def BD2 (Y s a b w q u q0 r : Int) : Tree (Ex × AS) :=
  .ite (decide (q0 ≥ (4294967296 : Int)) || decide (IntKind.wrap .u64 (q0 * b) > IntKind.wrap .u64 (IntKind.wrap .u64 ((4294967296 : Int) * r) + w)))
  (.ite (decide (IntKind.wrap .u64 (r + a) ≥ (4294967296 : Int)))
   (.ret
   (.exit 2,
   {
   tm :=
   [.unk, .unk, .ok (SV.d (DV.x (.int .u64 Y))), .unk, .unk, .unk, .unk, .unk, .ok (SV.d (DV.x (.int .u64 s))), .ok (SV.d (DV.x (.int .u64 a))),
   .ok (SV.d (DV.x (.int .u64 b))), .unk, .unk, .unk, .ok (SV.d (DV.x (.int .u64 w))), .ok (SV.d (DV.x (.int .u64 q))),
   .ok (SV.d (DV.x (.int .u64 (IntKind.wrap .u64 (r + a))))), .ok (SV.d (DV.x (.int .u64 u))), .ok (SV.d (DV.x (.int .u64 (IntKind.wrap .u64 (q0 - (1 : Int)))))), .unk,
   .unk, .unk, .unk, .unk, .unk, .unk, .unk, .unk, .unk, .unk, .unk, .unk, .unk, .unk, .unk, .unk, .unk, .unk, .unk, .unk, .unk, .unk, .unk, .unk, .unk, .unk, .unk, .unk,
   .unk, .unk, .unk, .unk, .unk, .unk, .unk, .unk, .unk, .unk, .unk, .unk, .unk, .unk, .unk, .unk, .unk, .unk, .unk, .unk, .unk, .unk, .unk, .unk, .unk, .unk, .unk, .unk,
   .unk, .unk, .unk, .unk, .unk, .unk, .unk, .unk, .unk, .unk, .unk, .unk, .unk, .unk, .unk, .unk, .unk, .unk, .unk, .unk, .unk, .unk, .unk, .unk, .unk, .unk, .unk, .unk,
   .unk, .unk, .unk, .unk, .unk, .unk, .unk, .unk, .unk, .unk, .unk, .unk, .unk, .unk, .unk, .unk, .unk, .unk, .unk, .unk, .unk, .unk, .unk, .unk, .unk, .unk, .unk, .unk,
   .unk, .unk, .unk],
   hp := [], next := 0, hint := .nil }))
   (.ret
   (.normal,
   {
   tm :=
   [.unk, .unk, .ok (SV.d (DV.x (.int .u64 Y))), .unk, .unk, .unk, .unk, .unk, .ok (SV.d (DV.x (.int .u64 s))), .ok (SV.d (DV.x (.int .u64 a))),
   .ok (SV.d (DV.x (.int .u64 b))), .unk, .unk, .unk, .ok (SV.d (DV.x (.int .u64 w))), .ok (SV.d (DV.x (.int .u64 q))),
   .ok (SV.d (DV.x (.int .u64 (IntKind.wrap .u64 (r + a))))), .ok (SV.d (DV.x (.int .u64 u))), .ok (SV.d (DV.x (.int .u64 (IntKind.wrap .u64 (q0 - (1 : Int)))))), .unk,
   .unk, .unk, .unk, .unk, .unk, .unk, .unk, .unk, .unk, .unk, .unk, .unk, .unk, .unk, .unk, .unk, .unk, .unk, .unk, .unk, .unk, .unk, .unk, .unk, .unk, .unk, .unk, .unk,
   .unk, .unk, .unk, .unk, .unk, .unk, .unk, .unk, .unk, .unk, .unk, .unk, .unk, .unk, .unk, .unk, .unk, .unk, .unk, .unk, .unk, .unk, .unk, .unk, .unk, .unk, .unk, .unk,
   .unk, .unk, .unk, .unk, .unk, .unk, .unk, .unk, .unk, .unk, .unk, .unk, .unk, .unk, .unk, .unk, .unk, .unk, .unk, .unk, .unk, .unk, .unk, .unk, .unk, .unk, .unk, .unk,
   .unk, .unk, .unk, .unk, .unk, .unk, .unk, .unk, .unk, .unk, .unk, .unk, .unk, .unk, .unk, .unk, .unk, .unk, .unk, .unk, .unk, .unk, .unk, .unk, .unk, .unk, .unk, .unk,
   .unk, .unk, .unk],
   hp := [], next := 0, hint := .nil })))
  (.ret
   (.exit 2,
   {
   tm :=
   [.unk, .unk, .ok (SV.d (DV.x (.int .u64 Y))), .unk, .unk, .unk, .unk, .unk, .ok (SV.d (DV.x (.int .u64 s))), .ok (SV.d (DV.x (.int .u64 a))),
   .ok (SV.d (DV.x (.int .u64 b))), .unk, .unk, .unk, .ok (SV.d (DV.x (.int .u64 w))), .ok (SV.d (DV.x (.int .u64 q))), .ok (SV.d (DV.x (.int .u64 r))),
   .ok (SV.d (DV.x (.int .u64 u))), .ok (SV.d (DV.x (.int .u64 q0))), .unk, .unk, .unk, .unk, .unk, .unk, .unk, .unk, .unk, .unk, .unk, .unk, .unk, .unk, .unk, .unk,
   .unk, .unk, .unk, .unk, .unk, .unk, .unk, .unk, .unk, .unk, .unk, .unk, .unk, .unk, .unk, .unk, .unk, .unk, .unk, .unk, .unk, .unk, .unk, .unk, .unk, .unk, .unk, .unk,
   .unk, .unk, .unk, .unk, .unk, .unk, .unk, .unk, .unk, .unk, .unk, .unk, .unk, .unk, .unk, .unk, .unk, .unk, .unk, .unk, .unk, .unk, .unk, .unk, .unk, .unk, .unk, .unk,
   .unk, .unk, .unk, .unk, .unk, .unk, .unk, .unk, .unk, .unk, .unk, .unk, .unk, .unk, .unk, .unk, .unk, .unk, .unk, .unk, .unk, .unk, .unk, .unk, .unk, .unk, .unk, .unk,
   .unk, .unk, .unk, .unk, .unk, .unk, .unk, .unk, .unk, .unk, .unk, .unk, .unk, .unk, .unk, .unk],
   hp := [], next := 0, hint := .nil }))

theorem BD2_eq (Y s a b w q u q0 r : Int) : cutT 0 [] [2, 8, 9, 10, 14, 15, 16, 17, 18] [] 0 .nil (exec Tryz.prog CD DD 200 bodyD2 (invD2 Y s a b w q u q0 r)) = BD2 Y s a b w q u q0 r := by kernel_rfl

noncomputable def kD1 (y x d : Int) (Y s a b u v w q r : Int) : Tree SV := codeK (sub pD (tDv y x d)) (.exit 0) (invD1 Y s a b u v w q r)
noncomputable def KD1 (y x d : Int) (Y s a b u v w q r : Int) : Tree SV :=
  .need (a ≠ (0 : Int)) (.code (codeC (sub [(0 : Nat)] (kD1 y x d Y s a b u v w q r))) (codeS (sub [(0 : Nat)] (kD1 y x d Y s a b u v w q r))) (codeK (sub [(0 : Nat)] (kD1 y x d Y s a b u v w q r))))

theorem KD1_eq (y x d : Int) (Y s a b u v w q r : Int) : kD1 y x d Y s a b u v w q r = KD1 y x d Y s a b u v w q r := by kernel_rfl

noncomputable def KD2 (y x d : Int) (Y s a b u v w q r : Int) (Y' s' a' b' w' q1 u2 q0 r' : Int) : Tree SV :=
  .need ((0 : Int) ≤ s')
  (.ret
    (SV.tup
      [SV.d (DV.x (.int .u64 (IntKind.wrap .u64 (IntKind.wrap .u64 (q1 * (4294967296 : Int)) + q0)))),
        SV.d
          (DV.x
            (.int .u64
              (Int.fdiv (IntKind.wrap .u64 (IntKind.wrap .u64 (IntKind.wrap .u64 (u2 * (4294967296 : Int)) + w') - IntKind.wrap .u64 (q0 * Y'))) ((2 : Int) ^ min (Int.toNat s') 64))))]))

theorem KD2_eq (y x d : Int) (Y s a b u v w q r : Int) (Y' s' a' b' w' q1 u2 q0 r' : Int) : codeK (sub [0] (kD1 y x d Y s a b u v w q r)) (.exit 2) (invD2 Y' s' a' b' w' q1 u2 q0 r') = KD2 y x d Y s a b u v w q r Y' s' a' b' w' q1 u2 q0 r' := by kernel_rfl


end Go.Proofs.YtmdbfhkineaheaaGreatDoor

namespace Go.Proofs.YtmdbfhkineaheaaGreatDoor
open Go.Sx
set_option maxRecDepth 100000

theorem wu_nonneg (n : Int) : 0 ≤ IntKind.wrap .u64 n := by rw [wu]; omega
/-- Bits side by side. -/
theorem or_add {A B k : Int} {s : Nat} (hA : A = k * ((2 ^ s : Nat) : Int)) (hk : 0 ≤ k) (hB : 0 ≤ B) (hB2 : B < ((2 ^ s : Nat) : Int)) (h : A + B < 18446744073709551616) :
    ((BitVec.toNat (BitVec.ofInt 64 A ||| BitVec.ofInt 64 B) : Nat) : Int) = A + B := by
  have hA0 : 0 ≤ A := by rw [hA]; exact Int.mul_nonneg hk (by omega)
  obtain ⟨K, rfl⟩ := Int.eq_ofNat_of_zero_le hk
  obtain ⟨C, rfl⟩ := Int.eq_ofNat_of_zero_le hB
  have hA' : A = ((2 ^ s * K : Nat) : Int) := by rw [hA, ← Int.natCast_mul, Nat.mul_comm]
  rw [hA'] at h hA0 ⊢
  have e : ∀ n : Nat, (n : Int) < 18446744073709551616 → (((n : Int) % ((2 ^ 64 : Nat) : Int))).toNat = n := by
    intro n hn
    rw [show ((2 ^ 64 : Nat) : Int) = 18446744073709551616 by decide]; omega
  rw [BitVec.toNat_or, BitVec.toNat_ofInt, BitVec.toNat_ofInt, e _ (by omega), e _ (by omega), ← Nat.two_pow_add_eq_or_of_lt (by omega)]
  omega

theorem div_setup {y x d P Q : Int} (hP : 0 < P) (hQ : 0 < Q) (hPQ : P * Q = 18446744073709551616) (y0 : 0 ≤ y) (yd : y < d) (x0 : 0 ≤ x) (x1 : x < 18446744073709551616) :
    (y * P + x / Q) * 18446744073709551616 + x * P % 18446744073709551616 = (y * 18446744073709551616 + x) * P ∧ 0 ≤ x / Q ∧ x / Q < P ∧ y * P + x / Q < d * P := by
  have h1 : x / Q < P := Int.ediv_lt_of_lt_mul hQ (by omega)
  have h2 : 0 ≤ x / Q := Int.ediv_nonneg x0 (by omega)
  have h3 : x * P / 18446744073709551616 = x / Q := by rw [← hPQ, Int.mul_comm P Q, Int.mul_ediv_mul_of_pos_left _ _ hP]
  have h4 := Int.emod_add_mul_ediv (x * P) 18446744073709551616
  have h5 : (y + 1) * P ≤ d * P := Int.mul_le_mul_of_nonneg_right (by omega) (by omega)
  rw [Int.add_mul] at h5
  refine ⟨?_, h2, h1, by omega⟩
  rw [h3] at h4
  rw [Int.add_mul (y * 18446744073709551616) x P, Int.mul_right_comm y 18446744073709551616 P]
  omega

noncomputable def dS (d : Int) : Int := IntKind.wrap .u64 (w64 (64 - (blen (Int.toNat d) : Int)))
noncomputable def dY (d : Int) : Int := IntKind.wrap .u64 (d * 2 ^ min (Int.toNat (dS d)) 64)
noncomputable def dA (d : Int) : Int := Int.fdiv (dY d) 4294967296
noncomputable def dB (d : Int) : Int := IntKind.wrap .u64 (BitVec.toNat (BitVec.ofInt 64 (dY d) &&& BitVec.ofInt 64 4294967295) : Nat)
noncomputable def dU (y x d : Int) : Int := IntKind.wrap .u64 (BitVec.toNat (BitVec.ofInt 64 (IntKind.wrap .u64 (y * 2 ^ min (Int.toNat (dS d)) 64)) ||| BitVec.ofInt 64 (Int.fdiv x (2 ^ min (Int.toNat (IntKind.wrap .u64 (64 - dS d))) 64))) : Nat)
noncomputable def dX (x d : Int) : Int := IntKind.wrap .u64 (x * 2 ^ min (Int.toNat (dS d)) 64)
noncomputable def dV (x d : Int) : Int := Int.fdiv (dX x d) 4294967296
noncomputable def dW (x d : Int) : Int := IntKind.wrap .u64 (BitVec.toNat (BitVec.ofInt 64 (dX x d) &&& BitVec.ofInt 64 4294967295) : Nat)
noncomputable def dQ (u a : Int) : Int := IntKind.wrap .u64 (Int.tdiv u a)
noncomputable def dR (u q a : Int) : Int := IntKind.wrap .u64 (u - IntKind.wrap .u64 (q * a))
noncomputable def dN (u v q Y : Int) : Int := IntKind.wrap .u64 (IntKind.wrap .u64 (IntKind.wrap .u64 (u * 4294967296) + v) - IntKind.wrap .u64 (q * Y))

structure DvF (y x d : Int) (s : Nat) : Prop where
  s64 : s < 64
  S : dS d = s
  Y : dY d = d * (2 ^ s : Nat)
  A : dA d = d * (2 ^ s : Nat) / 4294967296
  B : dB d = d * (2 ^ s : Nat) % 4294967296
  V0 : 0 ≤ dV x d ∧ dV x d < 4294967296
  W0 : 0 ≤ dW x d ∧ dW x d < 4294967296
  X : (dU y x d * 4294967296 + dV x d) * 4294967296 + dW x d = (y * 18446744073709551616 + x) * (2 ^ s : Nat)
  inp : DivIn (dU y x d) (dV x d) (dA d) (dB d)
  Yb : 9223372036854775808 ≤ d * (2 ^ s : Nat) ∧ d * (2 ^ s : Nat) < 18446744073709551616

theorem two_pow_split {s : Nat} (h : s ≤ 64) : ((2 ^ s : Nat) : Int) * ((2 ^ (64 - s) : Nat) : Int) = 18446744073709551616 := by
  rw [← Int.natCast_mul, ← Nat.pow_add, show s + (64 - s) = 64 by omega]; decide

theorem dvF {y x d : Int} (y0 : 0 ≤ y) (yd : y < d) (d1 : d < 18446744073709551616) (x0 : 0 ≤ x) (x1 : x < 18446744073709551616) : ∃ s, DvF y x d s := by
  have hL : blen d.toNat ≤ 64 := blen_le.2 (by omega)
  have hL0 : blen d.toNat ≠ 0 := fun h => by have := blen_le.1 (show blen d.toNat ≤ 0 by omega); omega
  have hb1 := lt_pow_blen d.toNat
  have hb2 : ¬ d.toNat < 2 ^ (blen d.toNat - 1) := fun h => by have := blen_le.2 h; omega
  refine ⟨64 - blen d.toNat, ?_⟩
  have hS : dS d = ((64 - blen d.toNat : Nat) : Int) := by
    unfold dS
    rw [w64_of (by omega) (by omega), wu_of (by omega) (by omega)]; omega
  have hs64 : 64 - blen d.toNat < 64 := by omega
  have hYb : 9223372036854775808 ≤ d * (2 ^ (64 - blen d.toNat) : Nat) ∧ d * (2 ^ (64 - blen d.toNat) : Nat) < 18446744073709551616 := by
    have e1 : 2 ^ blen d.toNat * 2 ^ (64 - blen d.toNat) = 18446744073709551616 := by rw [← Nat.pow_add, show blen d.toNat + (64 - blen d.toNat) = 64 by omega]
    have e2 : 2 ^ (blen d.toNat - 1) * 2 ^ (64 - blen d.toNat) = 9223372036854775808 := by rw [← Nat.pow_add, show blen d.toNat - 1 + (64 - blen d.toNat) = 63 by omega]
    have h1 := Nat.mul_lt_mul_of_pos_right hb1 (Nat.two_pow_pos (64 - blen d.toNat))
    have h2 := Nat.mul_le_mul_right (2 ^ (64 - blen d.toNat)) (Nat.le_of_not_lt hb2)
    have h3 : d * (2 ^ (64 - blen d.toNat) : Nat) = ((d.toNat * 2 ^ (64 - blen d.toNat) : Nat) : Int) := by rw [Int.natCast_mul]; congr 1; omega
    rw [h3]; omega
  generalize 64 - blen d.toNat = s at *
  have hmin : min (Int.toNat (dS d)) 64 = s := by rw [hS]; omega
  have hmin2 : min (Int.toNat (IntKind.wrap .u64 (64 - dS d))) 64 = 64 - s := by rw [hS, wu_of (by omega) (by omega)]; omega
  have hp : ∀ n : Nat, (2 : Int) ^ n = ((2 ^ n : Nat) : Int) := fun n => by rw [Int.natCast_pow]; rfl
  have hP : (0 : Int) < ((2 ^ s : Nat) : Int) := by have := Nat.two_pow_pos s; omega
  have hQ : (0 : Int) < ((2 ^ (64 - s) : Nat) : Int) := by have := Nat.two_pow_pos (64 - s); omega
  obtain ⟨k1, k2, k3, k4⟩ := div_setup hP hQ (two_pow_split (by omega)) y0 yd x0 x1
  have hY : dY d = d * (2 ^ s : Nat) := by unfold dY; rw [hmin, hp, wu_of (by omega) (by omega)]
  have hA : dA d = d * (2 ^ s : Nat) / 4294967296 := by unfold dA; rw [hY, Int.fdiv_eq_ediv_of_nonneg _ (by decide)]
  have hB : dB d = d * (2 ^ s : Nat) % 4294967296 := by unfold dB; rw [hY, mask32 (by omega) (by omega), wu_of (by omega) (by omega)]
  have hX : dX x d = x * (2 ^ s : Nat) % 18446744073709551616 := by unfold dX; rw [hmin, hp, wu]
  have hV : dV x d = dX x d / 4294967296 := by unfold dV; rw [Int.fdiv_eq_ediv_of_nonneg _ (by decide)]
  have hW : dW x d = dX x d % 4294967296 := by unfold dW; rw [mask32 (by rw [hX]; omega) (by rw [hX]; omega), wu_of (by omega) (by omega)]
  have hyP : 0 ≤ y * ((2 ^ s : Nat) : Int) := Int.mul_nonneg y0 (by omega)
  have hU : dU y x d = y * (2 ^ s : Nat) + x / (2 ^ (64 - s) : Nat) := by
    unfold dU
    rw [hmin, hmin2, hp, hp, wu_of (n := y * _) hyP (by omega), Int.fdiv_eq_ediv_of_nonneg _ (by omega), or_add rfl y0 k2 k3 (by omega), wu_of (by omega) (by omega)]
  refine ⟨hs64, hS, hY, hA, hB, ⟨by rw [hV, hX]; omega, by rw [hV, hX]; omega⟩, ⟨by rw [hW]; omega, by rw [hW]; omega⟩, ?_, ⟨by rw [hU]; omega, by rw [hV, hX]; omega, by rw [hV, hX]; omega, by rw [hA]; omega, by rw [hA]; omega, by rw [hB]; omega, by rw [hB]; omega, by rw [hU, hA, hB]; omega⟩, hYb⟩
  rw [hV, hW, ← k1, ← hU, ← hX]
  omega

theorem tdiv_nn {a b : Int} (h : 0 ≤ a) : Int.tdiv a b = a / b := Int.tdiv_eq_ediv_of_nonneg h
theorem dQR {u v a b : Int} (h : DivIn u v a b) : dQ u a = u / a ∧ dR u (dQ u a) a = u - u / a * a := by
  have hs := dig_start h
  have h1 := h.u0; have h2 := h.a0; have h4 := h.a1; have h5 := h.b1; have h6 := h.uy
  have e2 := Int.emod_add_mul_ediv u a
  have e3 := Int.emod_nonneg u (show a ≠ 0 by omega)
  have e4 : a * (u / a) = u / a * a := Int.mul_comm _ _
  have e5 := Int.ediv_nonneg h1 (show 0 ≤ a by omega)
  have e6 : 0 ≤ u / a * a := Int.mul_nonneg e5 (by omega)
  have e1 : dQ u a = u / a := by
    unfold dQ
    rw [tdiv_nn h1, wu_of e5 (by have := hs.1.q1; omega)]
  refine ⟨e1, ?_⟩
  unfold dR
  rw [e1, wu_of (n := u / a * a) e6 (by omega), wu_of (by omega) (by omega)]

theorem dN_eq {u v q a b Y : Int} (h : DivIn u v a b) (hq : q = digQ u v a b) (hY : Y = a * 4294967296 + b) : dN u v q Y = u * 4294967296 + v - q * (a * 4294967296 + b) := by
  have h1 := dig_rem h
  rw [← hq] at h1
  have hy : a * 4294967296 + b < 18446744073709551616 := by have := h.a1; have := h.b1; omega
  unfold dN
  rw [hY]
  generalize q * (a * 4294967296 + b) = Z at *
  simp only [wu]
  omega

theorem digc {r v : Int} (r0 : 0 ≤ r) (r1 : r < 4294967296) (v0 : 0 ≤ v) (v1 : v < 4294967296) : IntKind.wrap .u64 (IntKind.wrap .u64 (4294967296 * r) + v) = 4294967296 * r + v := by
  rw [wu_of (n := 4294967296 * r) (by omega) (by omega), wu_of (by omega) (by omega)]

theorem div64_sat {y x d : Int} (y0 : 0 < y) (yd : y < d) (d1 : d < 18446744073709551616) (x0 : 0 ≤ x) (x1 : x < 18446744073709551616) :
    Sat Tryz.prog (tDv y x d) (· = .tup [u6 ((y * 18446744073709551616 + x) / d), u6 ((y * 18446744073709551616 + x) % d)]) := by
  obtain ⟨s, hs⟩ := dvF (by omega) yd d1 x0 x1
  constructor
  rw [LDv_eq]; unfold LDv
  refine ⟨fun h => ?_, fun _ => ⟨fun h => ?_, fun _ => ⟨fun h => ?_, fun _ => ⟨by omega, wu_nonneg _, by decide, wu_nonneg _, wu_nonneg _, wu_nonneg _, by decide, ?_, ?_⟩⟩⟩⟩
  · simp only [beq_iff_eq] at h; omega
  · simp only [decide_eq_true_eq] at h; omega
  · simp only [beq_iff_eq] at h; omega
  · show dA d ≠ 0
    have := hs.inp.a0; omega
  have hin := hs.inp
  obtain ⟨hst, hst1⟩ := dig_start hin
  obtain ⟨q1, q2⟩ := dQR hin
  refine code_satS CD_ok DD_ok (n := 200) (n0 := 0) (nx := 0) (roots := []) (keep := [2, 8, 9, 10, 11, 13, 14, 15, 16]) (drop := []) (h := .nil) (c := codeC (sub pD (tDv y x d))) (st := codeS (sub pD (tDv y x d))) (k := codeK (sub pD (tDv y x d))) (body := bodyD1) (by kernel_rfl) (by kernel_rfl)
    (fun m st => ∃ q r, m = (4294967296 - r).toNat ∧ DigI (dU y x d) (dV x d) (dA d) (dB d) q r ∧ r < 4294967296 ∧ st = invD1 (dY d) (dS d) (dA d) (dB d) (dU y x d) (dV x d) (dW x d) q r)
    (fun e st => e = .exit 0 ∧ ∃ r, st = invD1 (dY d) (dS d) (dA d) (dB d) (dU y x d) (dV x d) (dW x d) (digQ (dU y x d) (dV x d) (dA d) (dB d)) r)
    ⟨_, invD1 (dY d) (dS d) (dA d) (dB d) (dU y x d) (dV x d) (dW x d) (dQ (dU y x d) (dA d)) (dR (dU y x d) (dQ (dU y x d) (dA d)) (dA d)), ⟨_, _, rfl, by rw [q2, q1]; exact hst, by rw [q2]; exact hst1, rfl⟩, ?_⟩ ?_ ?_
  · exact entA_sound (roots := []) (keep := [2, 8, 9, 10, 11, 13, 14, 15, 16]) (drop := []) (nx := 0) (h := .nil) (by kernel_rfl)
  · rintro m st ⟨q, r, rfl, hq, hr, rfl⟩
    refine Sat.of_eq (BD1_eq _ _ _ _ _ _ _ q r) ?_
    constructor
    unfold BD1
    have b1 := dig_qb hq
    have b2 := hq.r0; have b3 := hq.q1
    have a0 := hin.a0; have a1 := hin.a1
    have e0 := digc b2 hr hin.v0 hin.v1
    have e1 : IntKind.wrap .u64 (q * dB d) = q * dB d := wu_of b1.2.1 (by omega)
    have e3 : IntKind.wrap .u64 (r + dA d) = r + dA d := wu_of (by omega) (by omega)
    rw [e0, e1, e3]
    refine ⟨fun hc => ?_, fun hc => ?_⟩
    · have hc : 4294967296 ≤ q ∨ 4294967296 * r + dV x d < q * dB d := by
        simp only [Bool.or_eq_true, decide_eq_true_eq] at hc; exact hc
      have hst := dig_step hq hc
      have e2 : IntKind.wrap .u64 (q - 1) = q - 1 := wu_of (by have := dig_nonneg hin; have := hst.le; omega) (by omega)
      rw [e2]
      refine ⟨fun hb => ?_, fun hb => ?_⟩
      · have hb : 4294967296 ≤ r + dA d := of_decide_eq_true hb
        refine ⟨_, ⟨rfl, r + dA d, rfl⟩, ?_⟩
        rw [← dig_brk hst hb (by omega)]; exact Gc.refl _ _
      · have hb : ¬ 4294967296 ≤ r + dA d := of_decide_eq_false hb
        exact ⟨_, _, by omega, ⟨_, _, rfl, hst, by omega, rfl⟩, Gc.refl _ _⟩
    · have hc : q * dB d ≤ 4294967296 * r + dV x d := by
        simp only [Bool.or_eq_false_iff, decide_eq_false_iff_not] at hc; omega
      refine ⟨_, ⟨rfl, r, rfl⟩, ?_⟩
      rw [← dig_hit hq hc]; exact Gc.refl _ _
  · rintro e st ⟨rfl, r, rfl⟩
    refine Sat.of_eq (t := kD1 y x d (dY d) (dS d) (dA d) (dB d) (dU y x d) (dV x d) (dW x d) (digQ (dU y x d) (dV x d) (dA d) (dB d)) r) (KD1_eq y x d (dY d) (dS d) (dA d) (dB d) (dU y x d) (dV x d) (dW x d) (digQ (dU y x d) (dV x d) (dA d) (dB d)) r) ⟨?_⟩
    unfold KD1
    refine ⟨by have := hin.a0; omega, ?_⟩
    have hD : dY d = dA d * 4294967296 + dB d := by rw [hs.Y, hs.A, hs.B]; omega
    have hN := dN_eq hin rfl hD
    have hrem := dig_rem hin
    obtain ⟨hX1, hX2⟩ := dig_two hin hs.W0 (show (0 : Int) < ((2 ^ s : Nat) : Int) by have := Nat.two_pow_pos s; omega) hs.X (by rw [← hD, hs.Y]) rfl rfl
    rw [← hN] at hrem hX1 hX2
    have hql := dig_lt hin
    have hq0 := dig_nonneg hin
    generalize digQ (dU y x d) (dV x d) (dA d) (dB d) = Q1 at *
    have hin2 : DivIn (dN (dU y x d) (dV x d) Q1 (dY d)) (dW x d) (dA d) (dB d) := ⟨hrem.1, hs.W0.1, hs.W0.2, hin.a0, hin.a1, hin.b0, hin.b1, hrem.2⟩
    obtain ⟨hst, hst1⟩ := dig_start hin2
    obtain ⟨q1, q2⟩ := dQR hin2
    refine code_satS CD_ok DD_ok (n := 200) (n0 := 0) (nx := 0) (roots := []) (keep := [2, 8, 9, 10, 14, 15, 16, 17, 18]) (drop := []) (h := .nil) (c := codeC (sub [0] (kD1 y x d (dY d) (dS d) (dA d) (dB d) (dU y x d) (dV x d) (dW x d) Q1 r))) (st := codeS (sub [0] (kD1 y x d (dY d) (dS d) (dA d) (dB d) (dU y x d) (dV x d) (dW x d) Q1 r))) (k := codeK (sub [0] (kD1 y x d (dY d) (dS d) (dA d) (dB d) (dU y x d) (dV x d) (dW x d) Q1 r))) (body := bodyD2) (by kernel_rfl) (by kernel_rfl)
      (fun m st => ∃ q r, m = (4294967296 - r).toNat ∧ DigI (dN (dU y x d) (dV x d) Q1 (dY d)) (dW x d) (dA d) (dB d) q r ∧ r < 4294967296 ∧ st = invD2 (dY d) (dS d) (dA d) (dB d) (dW x d) Q1 (dN (dU y x d) (dV x d) Q1 (dY d)) q r)
      (fun e st => e = .exit 2 ∧ ∃ r, st = invD2 (dY d) (dS d) (dA d) (dB d) (dW x d) Q1 (dN (dU y x d) (dV x d) Q1 (dY d)) (digQ (dN (dU y x d) (dV x d) Q1 (dY d)) (dW x d) (dA d) (dB d)) r)
      ⟨_, invD2 (dY d) (dS d) (dA d) (dB d) (dW x d) Q1 (dN (dU y x d) (dV x d) Q1 (dY d)) (dQ (dN (dU y x d) (dV x d) Q1 (dY d)) (dA d)) (dR (dN (dU y x d) (dV x d) Q1 (dY d)) (dQ (dN (dU y x d) (dV x d) Q1 (dY d)) (dA d)) (dA d)), ⟨_, _, rfl, by rw [q2, q1]; exact hst, by rw [q2]; exact hst1, rfl⟩, ?_⟩ ?_ ?_
    · exact entA_sound (roots := []) (keep := [2, 8, 9, 10, 14, 15, 16, 17, 18]) (drop := []) (nx := 0) (h := .nil) (by kernel_rfl)
    · rintro m st ⟨q, r, rfl, hq, hr, rfl⟩
      refine Sat.of_eq (BD2_eq _ _ _ _ _ _ _ q r) ?_
      constructor
      unfold BD2
      have b1 := dig_qb hq
      have b2 := hq.r0; have b3 := hq.q1
      have a0 := hin.a0; have a1 := hin.a1
      have e0 := digc b2 hr hin2.v0 hin2.v1
      have e1 : IntKind.wrap .u64 (q * dB d) = q * dB d := wu_of b1.2.1 (by omega)
      have e3 : IntKind.wrap .u64 (r + dA d) = r + dA d := wu_of (by omega) (by omega)
      rw [e0, e1, e3]
      refine ⟨fun hc => ?_, fun hc => ?_⟩
      · have hc : 4294967296 ≤ q ∨ 4294967296 * r + dW x d < q * dB d := by
          simp only [Bool.or_eq_true, decide_eq_true_eq] at hc; exact hc
        have hst := dig_step hq hc
        have e2 : IntKind.wrap .u64 (q - 1) = q - 1 := wu_of (by have := dig_nonneg hin2; have := hst.le; omega) (by omega)
        rw [e2]
        refine ⟨fun hb => ?_, fun hb => ?_⟩
        · have hb : 4294967296 ≤ r + dA d := of_decide_eq_true hb
          refine ⟨_, ⟨rfl, r + dA d, rfl⟩, ?_⟩
          rw [← dig_brk hst hb (by omega)]; exact Gc.refl _ _
        · have hb : ¬ 4294967296 ≤ r + dA d := of_decide_eq_false hb
          exact ⟨_, _, by omega, ⟨_, _, rfl, hst, by omega, rfl⟩, Gc.refl _ _⟩
      · have hc : q * dB d ≤ 4294967296 * r + dW x d := by
          simp only [Bool.or_eq_false_iff, decide_eq_false_iff_not] at hc; omega
        refine ⟨_, ⟨rfl, r, rfl⟩, ?_⟩
        rw [← dig_hit hq hc]; exact Gc.refl _ _
    · rintro e st ⟨rfl, r', rfl⟩
      refine Sat.of_eq (KD2_eq y x d (dY d) (dS d) (dA d) (dB d) (dU y x d) (dV x d) (dW x d) Q1 r (dY d) (dS d) (dA d) (dB d) (dW x d) Q1 (dN (dU y x d) (dV x d) Q1 (dY d)) (digQ (dN (dU y x d) (dV x d) Q1 (dY d)) (dW x d) (dA d) (dB d)) r') ⟨?_⟩
      unfold KD2
      refine ⟨wu_nonneg _, ?_⟩
      have hl2 := dig_lt hin2
      have hn2 := dig_nonneg hin2
      have hN2 := dN_eq hin2 rfl hD
      generalize digQ (dN (dU y x d) (dV x d) Q1 (dY d)) (dW x d) (dA d) (dB d) = Q0 at *
      rw [hX2] at hN2
      generalize dN (dU y x d) (dV x d) Q1 (dY d) = N1 at *
      have hN3 : IntKind.wrap .u64 (IntKind.wrap .u64 (IntKind.wrap .u64 (N1 * 4294967296) + dW x d) - IntKind.wrap .u64 (Q0 * dY d)) = (y * 18446744073709551616 + x) % d * ((2 ^ s : Nat) : Int) := hN2
      rw [wu_of (n := Q1 * 4294967296) (by omega) (by omega), wu_of (by omega) (by omega), hX1]
      have hmin : min (Int.toNat (dS d)) 64 = s := by rw [hs.S]; have := hs.s64; omega
      have hp : (2 : Int) ^ s = ((2 ^ s : Nat) : Int) := by rw [Int.natCast_pow]; rfl
      rw [hN3, hmin, hp, Int.fdiv_eq_ediv_of_nonneg _ (Int.natCast_nonneg _), Int.mul_ediv_cancel _ (by have := Nat.two_pow_pos s; omega)]
      exact rfl

end Go.Proofs.YtmdbfhkineaheaaGreatDoor

namespace Go.Proofs.YtmdbfhkineaheaaGreatDoor
open Go.Sx
set_option maxRecDepth 100000

noncomputable def cDiv64 : Ctr := fun ss => match ss with
  | [.d (.x (.int .u64 y)), .d (.x (.int .u64 x)), .d (.x (.int .u64 d))] => .need ((0 ≤ y ∧ y < d) ∧ (0 ≤ x ∧ x < 18446744073709551616) ∧ d < 18446744073709551616) (.ret (.tup [u6 ((y * 18446744073709551616 + x) / d), u6 ((y * 18446744073709551616 + x) % d)]))
  | _ => .fail
theorem cDiv64_ok : CtrOK Tryz.prog 72 cDiv64 := by
  refine ctrOK_leS CD_ok DD_ok (by kernel_rfl) (by kernel_rfl) fun ss r h => ?_
  unfold cDiv64 at h
  split at h
  · rename_i y x d
    obtain ⟨⟨⟨y0, yd⟩, ⟨x0, x1⟩, d1⟩, rfl⟩ := h
    by_cases hy : y = 0
    · subst hy
      refine ⟨[u6 0, u6 x, u6 d], 200, .nil, by simp [leSVs, leSV, u6, leD], Sat.of_eq (LDv_eq 0 x d) ⟨?_⟩⟩
      unfold LDv
      have e1 : Int.tdiv x d = x / d := Int.tdiv_eq_ediv_of_nonneg x0
      have e2 : Int.tmod x d = x % d := tmod_lit x0 d
      have b1 : 0 ≤ x / d := Int.ediv_nonneg x0 (by omega)
      have b2 : x / d ≤ x := Int.ediv_le_self _ x0
      rw [e1, e2, wu_of b1 (by omega), Int.zero_mul, Int.zero_add]
      refine ⟨fun hc => by simp only [beq_iff_eq] at hc; omega, fun _ => ⟨fun hc => by simp only [decide_eq_true_eq] at hc; omega, fun _ => ⟨fun _ => ⟨by omega, by omega, rfl⟩, fun hc => by simp at hc⟩⟩⟩
    · exact ⟨[u6 y, u6 x, u6 d], 200, .nil, by simp [leSVs, leSV, u6, leD], div64_sat (by omega) yd d1 x0 x1⟩
  · exact h.elim

noncomputable def gcd2 : DV → DV → Tr SV := fun p q => match p, q with
  | .x (.int .u64 a), .x (.int .u64 b) => .need (0 ≤ a ∧ 0 ≤ b) (.ret (u6 (Int.gcd a b)))
  | _, _ => .fail
/-- The same contract, its numbers taken out of the row. -/
noncomputable def cGcdV : Ctr := fun ss => match ss with
  | [.d (.ro 2 1 cell)] => gcd2 (cell 0 0) (cell 1 0)
  | _ => .fail
theorem cGcdV_ok : CtrOK Tryz.prog 37 cGcdV := cGcdU_ok.mono fun ss r h => by
  unfold cGcdV at h
  split at h
  · rename_i cell
    unfold gcd2 at h
    split at h
    · rename_i a b e1 e2
      obtain ⟨⟨h1, h2⟩, rfl⟩ := h
      have f1 : intCell cell 0 = a := by simp [intCell, e1, intOf1]
      have f2 : intCell cell 1 = b := by simp [intCell, e2, intOf1]
      refine ⟨⟨a, b, e1, e2, h1, h2⟩, ?_⟩
      rw [f1, f2]; exact rfl
    · exact h.elim
  · exact h.elim

noncomputable def man7 : FuncId → Option Ctr := fun k => match k with
  | 38 => some cAbsU
  | 37 => some cGcdV
  | 64 => some cMul64
  | 72 => some cDiv64
  | 49 => some cTm
  | 50 => some cPl
  | 55 => some cMd
  | _ => none
theorem man7_ok (k : Nat) (c : Ctr) (h : man7 k = some c) : CtrOK Tryz.prog k c ∧ goodF Tryz.prog k = true := by
  unfold man7 at h
  split at h <;> first | (cases h; done) | (cases h)
  · exact ⟨cAbsU_ok, by kernel_rfl⟩
  · exact ⟨cGcdV_ok, by kernel_rfl⟩
  · exact ⟨cMul64_ok, by kernel_rfl⟩
  · exact ⟨cDiv64_ok, by kernel_rfl⟩
  · exact ⟨cTm_ok, by kernel_rfl⟩
  · exact ⟨cPl_ok, by kernel_rfl⟩
  · exact ⟨cMd_ok, by kernel_rfl⟩
noncomputable def C7 : Ctx := ctxN Tryz.prog man7 (fun _ => false) 200 .nil 6
theorem C7_ok : CtxOK Tryz.prog C7 := ctxN_ok mixed man7_ok 6
noncomputable def D7 : Dr := fun _ => drawn Tryz.prog C7
theorem D7_ok : DrOK Tryz.prog C7 D7 := drawn_ok C7_ok mixed
noncomputable def T7 (k : Nat) (args : List SV) : Tree SV := fnT Tryz.prog C7 D7 200 (fnOf Tryz.prog k) (bodyOf Tryz.prog k) args .nil

noncomputable def LRm (y x d : Int) : Tree SV :=
  .need (d ≠ (0 : Int))
  (.need (((0 : Int) ≤ Int.tmod y d ∧ Int.tmod y d < d) ∧ ((0 : Int) ≤ x ∧ x < (18446744073709551616 : Int)) ∧ d < (18446744073709551616 : Int))
    (.ret (SV.d (DV.x (.int .u64 ((Int.tmod y d * (18446744073709551616 : Int) + x) % d))))))

theorem LRm_eq (y x d : Int) : T7 57 [u6 y, u6 x, u6 d] = LRm y x d := by kernel_rfl

noncomputable def LOv7 (s : Bool) (h l m : Int) : Tree SV :=
  .need (m ≠ (0 : Int))
  (.need (((0 : Int) ≤ Int.tmod h m ∧ Int.tmod h m < m) ∧ ((0 : Int) ≤ l ∧ l < (18446744073709551616 : Int)) ∧ m < (18446744073709551616 : Int))
    (.need (m ≠ (0 : Int)) (.ret (SV.agg [bv s, SV.d (DV.x (.int .u64 (IntKind.wrap .u64 (Int.tdiv h m)))), SV.d (DV.x (.int .u64 ((Int.tmod h m * (18446744073709551616 : Int) + l) / m)))]))))

theorem LOv7_eq (s : Bool) (h l m : Int) : T7 58 [.agg [bv s, u6 h, u6 l], u6 m] = LOv7 s h l m := by kernel_rfl

noncomputable def LCp (a b c d : Int) : Tree SV :=
  .ite (a == c && (b == d && true)) (.ret (iv (0 : Int)))
  (.need (((-9223372036854775808 : Int) ≤ c ∧ c ≤ (9223372036854775807 : Int)) ∧ (-9223372036854775808 : Int) ≤ b ∧ b ≤ (9223372036854775807 : Int))
   (.need (((-9223372036854775808 : Int) ≤ a ∧ a ≤ (9223372036854775807 : Int)) ∧ (-9223372036854775808 : Int) ≤ d ∧ d ≤ (9223372036854775807 : Int))
   (.need
   (((0 : Int) ≤ (↑(Int.natAbs a * Int.natAbs d / 18446744073709551616) : Int) ∧ (↑(Int.natAbs a * Int.natAbs d / 18446744073709551616) : Int) < (9223372036854775808 : Int)) ∧
   ((0 : Int) ≤ (↑(Int.natAbs a * Int.natAbs d % 18446744073709551616) : Int) ∧ (↑(Int.natAbs a * Int.natAbs d % 18446744073709551616) : Int) < (18446744073709551616 : Int)) ∧
   ((0 : Int) ≤ (↑(Int.natAbs c * Int.natAbs b / 18446744073709551616) : Int) ∧ (↑(Int.natAbs c * Int.natAbs b / 18446744073709551616) : Int) < (9223372036854775808 : Int)) ∧
   (0 : Int) ≤ (↑(Int.natAbs c * Int.natAbs b % 18446744073709551616) : Int) ∧ (↑(Int.natAbs c * Int.natAbs b % 18446744073709551616) : Int) < (18446744073709551616 : Int))
   (.ite
   (sN (!decide (a < (0 : Int)) == decide (d < (0 : Int))) (wN (↑(Int.natAbs a * Int.natAbs d / 18446744073709551616) : Int) (↑(Int.natAbs a * Int.natAbs d % 18446744073709551616) : Int))
   (!!decide (c < (0 : Int)) == decide (b < (0 : Int))) (wN (↑(Int.natAbs c * Int.natAbs b / 18446744073709551616) : Int) (↑(Int.natAbs c * Int.natAbs b % 18446744073709551616) : Int)))
   (.ret (iv (-1 : Int))) (.ret (iv (1 : Int)))))))

theorem LCp_eq (a b c d : Int) : T7 18 [.agg [iv a, iv b], .agg [iv c, iv d]] = LCp a b c d := by kernel_rfl

noncomputable def LMu (a b c d : Int) : Tree SV :=
  .ite (a == (0 : Int) || c == (0 : Int)) (.ret (SV.tup [SV.agg [iv (0 : Int), iv (1 : Int)], iv (0 : Int)]))
  (.need ((-9223372036854775808 : Int) ≤ a ∧ a ≤ (9223372036854775807 : Int))
   (.need (2 ≤ List.length [SV.d (DV.x (.int .u64 (↑(Int.natAbs a) : Int))), SV.d (DV.x (.int .u64 (IntKind.wrap .u64 d)))])
   (.need ((0 : Int) ≤ (↑(Int.natAbs a) : Int) ∧ (0 : Int) ≤ IntKind.wrap .u64 d)
   (.need ((-9223372036854775808 : Int) ≤ c ∧ c ≤ (9223372036854775807 : Int))
   (.need (2 ≤ List.length [SV.d (DV.x (.int .u64 (↑(Int.natAbs c) : Int))), SV.d (DV.x (.int .u64 (IntKind.wrap .u64 b)))])
   (.need ((0 : Int) ≤ (↑(Int.natAbs c) : Int) ∧ (0 : Int) ≤ IntKind.wrap .u64 b)
   (.need (w64 (↑(Int.gcd (↑(Int.natAbs a) : Int) (IntKind.wrap .u64 d)) : Int) ≠ (0 : Int))
   (.need (w64 (↑(Int.gcd (↑(Int.natAbs c) : Int) (IntKind.wrap .u64 b)) : Int) ≠ (0 : Int))
   (.need
   (((-9223372036854775808 : Int) ≤ w64 (Int.tdiv a (w64 (↑(Int.gcd (↑(Int.natAbs a) : Int) (IntKind.wrap .u64 d)) : Int))) ∧
   w64 (Int.tdiv a (w64 (↑(Int.gcd (↑(Int.natAbs a) : Int) (IntKind.wrap .u64 d)) : Int))) ≤ (9223372036854775807 : Int)) ∧
   (-9223372036854775808 : Int) ≤ w64 (Int.tdiv c (w64 (↑(Int.gcd (↑(Int.natAbs c) : Int) (IntKind.wrap .u64 b)) : Int))) ∧
   w64 (Int.tdiv c (w64 (↑(Int.gcd (↑(Int.natAbs c) : Int) (IntKind.wrap .u64 b)) : Int))) ≤ (9223372036854775807 : Int))
   (.need (w64 (↑(Int.gcd (↑(Int.natAbs c) : Int) (IntKind.wrap .u64 b)) : Int) ≠ (0 : Int))
   (.need (w64 (↑(Int.gcd (↑(Int.natAbs a) : Int) (IntKind.wrap .u64 d)) : Int) ≠ (0 : Int))
   (.need
   (((-9223372036854775808 : Int) ≤ w64 (Int.tdiv b (w64 (↑(Int.gcd (↑(Int.natAbs c) : Int) (IntKind.wrap .u64 b)) : Int))) ∧
   w64 (Int.tdiv b (w64 (↑(Int.gcd (↑(Int.natAbs c) : Int) (IntKind.wrap .u64 b)) : Int))) ≤ (9223372036854775807 : Int)) ∧
   (-9223372036854775808 : Int) ≤ w64 (Int.tdiv d (w64 (↑(Int.gcd (↑(Int.natAbs a) : Int) (IntKind.wrap .u64 d)) : Int))) ∧
   w64 (Int.tdiv d (w64 (↑(Int.gcd (↑(Int.natAbs a) : Int) (IntKind.wrap .u64 d)) : Int))) ≤ (9223372036854775807 : Int))
   (.need
   (((0 : Int) ≤
   (↑(Int.natAbs (w64 (Int.tdiv a (w64 (↑(Int.gcd (↑(Int.natAbs a) : Int) (IntKind.wrap .u64 d)) : Int)))) *
   Int.natAbs (w64 (Int.tdiv c (w64 (↑(Int.gcd (↑(Int.natAbs c) : Int) (IntKind.wrap .u64 b)) : Int)))) /
   18446744073709551616) :
   Int) ∧
   (0 : Int) ≤
   (↑(Int.natAbs (w64 (Int.tdiv a (w64 (↑(Int.gcd (↑(Int.natAbs a) : Int) (IntKind.wrap .u64 d)) : Int)))) *
   Int.natAbs (w64 (Int.tdiv c (w64 (↑(Int.gcd (↑(Int.natAbs c) : Int) (IntKind.wrap .u64 b)) : Int)))) %
   18446744073709551616) :
   Int) ∧
   (↑(Int.natAbs (w64 (Int.tdiv a (w64 (↑(Int.gcd (↑(Int.natAbs a) : Int) (IntKind.wrap .u64 d)) : Int)))) *
   Int.natAbs (w64 (Int.tdiv c (w64 (↑(Int.gcd (↑(Int.natAbs c) : Int) (IntKind.wrap .u64 b)) : Int)))) %
   18446744073709551616) :
   Int) <
   (18446744073709551616 : Int)) ∧
   ((0 : Int) ≤
   (↑(Int.natAbs (w64 (Int.tdiv b (w64 (↑(Int.gcd (↑(Int.natAbs c) : Int) (IntKind.wrap .u64 b)) : Int)))) *
   Int.natAbs (w64 (Int.tdiv d (w64 (↑(Int.gcd (↑(Int.natAbs a) : Int) (IntKind.wrap .u64 d)) : Int)))) /
   18446744073709551616) :
   Int) ∧
   (0 : Int) ≤
   (↑(Int.natAbs (w64 (Int.tdiv b (w64 (↑(Int.gcd (↑(Int.natAbs c) : Int) (IntKind.wrap .u64 b)) : Int)))) *
   Int.natAbs (w64 (Int.tdiv d (w64 (↑(Int.gcd (↑(Int.natAbs a) : Int) (IntKind.wrap .u64 d)) : Int)))) %
   18446744073709551616) :
   Int) ∧
   (↑(Int.natAbs (w64 (Int.tdiv b (w64 (↑(Int.gcd (↑(Int.natAbs c) : Int) (IntKind.wrap .u64 b)) : Int)))) *
   Int.natAbs (w64 (Int.tdiv d (w64 (↑(Int.gcd (↑(Int.natAbs a) : Int) (IntKind.wrap .u64 d)) : Int)))) %
   18446744073709551616) :
   Int) <
   (18446744073709551616 : Int)) ∧
   (!decide (w64 (Int.tdiv b (w64 (↑(Int.gcd (↑(Int.natAbs c) : Int) (IntKind.wrap .u64 b)) : Int))) < (0 : Int)) ==
   decide (w64 (Int.tdiv d (w64 (↑(Int.gcd (↑(Int.natAbs a) : Int) (IntKind.wrap .u64 d)) : Int))) < (0 : Int))) =
   false)
   (.ret
   (SV.tup
   [SV.agg
   [iv
   (finN
   (!decide (w64 (Int.tdiv a (w64 (↑(Int.gcd (↑(Int.natAbs a) : Int) (IntKind.wrap .u64 d)) : Int))) < (0 : Int)) ==
   decide (w64 (Int.tdiv c (w64 (↑(Int.gcd (↑(Int.natAbs c) : Int) (IntKind.wrap .u64 b)) : Int))) < (0 : Int)))
   (wN
   (↑(Int.natAbs (w64 (Int.tdiv a (w64 (↑(Int.gcd (↑(Int.natAbs a) : Int) (IntKind.wrap .u64 d)) : Int)))) *
   Int.natAbs (w64 (Int.tdiv c (w64 (↑(Int.gcd (↑(Int.natAbs c) : Int) (IntKind.wrap .u64 b)) : Int)))) /
   18446744073709551616) :
   Int)
   (↑(Int.natAbs (w64 (Int.tdiv a (w64 (↑(Int.gcd (↑(Int.natAbs a) : Int) (IntKind.wrap .u64 d)) : Int)))) *
   Int.natAbs (w64 (Int.tdiv c (w64 (↑(Int.gcd (↑(Int.natAbs c) : Int) (IntKind.wrap .u64 b)) : Int)))) %
   18446744073709551616) :
   Int))
   (wN
   (↑(Int.natAbs (w64 (Int.tdiv b (w64 (↑(Int.gcd (↑(Int.natAbs c) : Int) (IntKind.wrap .u64 b)) : Int)))) *
   Int.natAbs (w64 (Int.tdiv d (w64 (↑(Int.gcd (↑(Int.natAbs a) : Int) (IntKind.wrap .u64 d)) : Int)))) /
   18446744073709551616) :
   Int)
   (↑(Int.natAbs (w64 (Int.tdiv b (w64 (↑(Int.gcd (↑(Int.natAbs c) : Int) (IntKind.wrap .u64 b)) : Int)))) *
   Int.natAbs (w64 (Int.tdiv d (w64 (↑(Int.gcd (↑(Int.natAbs a) : Int) (IntKind.wrap .u64 d)) : Int)))) %
   18446744073709551616) :
   Int))),
   iv
   (finD
   (wN
   (↑(Int.natAbs (w64 (Int.tdiv a (w64 (↑(Int.gcd (↑(Int.natAbs a) : Int) (IntKind.wrap .u64 d)) : Int)))) *
   Int.natAbs (w64 (Int.tdiv c (w64 (↑(Int.gcd (↑(Int.natAbs c) : Int) (IntKind.wrap .u64 b)) : Int)))) /
   18446744073709551616) :
   Int)
   (↑(Int.natAbs (w64 (Int.tdiv a (w64 (↑(Int.gcd (↑(Int.natAbs a) : Int) (IntKind.wrap .u64 d)) : Int)))) *
   Int.natAbs (w64 (Int.tdiv c (w64 (↑(Int.gcd (↑(Int.natAbs c) : Int) (IntKind.wrap .u64 b)) : Int)))) %
   18446744073709551616) :
   Int))
   (wN
   (↑(Int.natAbs (w64 (Int.tdiv b (w64 (↑(Int.gcd (↑(Int.natAbs c) : Int) (IntKind.wrap .u64 b)) : Int)))) *
   Int.natAbs (w64 (Int.tdiv d (w64 (↑(Int.gcd (↑(Int.natAbs a) : Int) (IntKind.wrap .u64 d)) : Int)))) /
   18446744073709551616) :
   Int)
   (↑(Int.natAbs (w64 (Int.tdiv b (w64 (↑(Int.gcd (↑(Int.natAbs c) : Int) (IntKind.wrap .u64 b)) : Int)))) *
   Int.natAbs (w64 (Int.tdiv d (w64 (↑(Int.gcd (↑(Int.natAbs a) : Int) (IntKind.wrap .u64 d)) : Int)))) %
   18446744073709551616) :
   Int)))],
   iv
   (finE
   (wN
   (↑(Int.natAbs (w64 (Int.tdiv a (w64 (↑(Int.gcd (↑(Int.natAbs a) : Int) (IntKind.wrap .u64 d)) : Int)))) *
   Int.natAbs (w64 (Int.tdiv c (w64 (↑(Int.gcd (↑(Int.natAbs c) : Int) (IntKind.wrap .u64 b)) : Int)))) /
   18446744073709551616) :
   Int)
   (↑(Int.natAbs (w64 (Int.tdiv a (w64 (↑(Int.gcd (↑(Int.natAbs a) : Int) (IntKind.wrap .u64 d)) : Int)))) *
   Int.natAbs (w64 (Int.tdiv c (w64 (↑(Int.gcd (↑(Int.natAbs c) : Int) (IntKind.wrap .u64 b)) : Int)))) %
   18446744073709551616) :
   Int))
   (wN
   (↑(Int.natAbs (w64 (Int.tdiv b (w64 (↑(Int.gcd (↑(Int.natAbs c) : Int) (IntKind.wrap .u64 b)) : Int)))) *
   Int.natAbs (w64 (Int.tdiv d (w64 (↑(Int.gcd (↑(Int.natAbs a) : Int) (IntKind.wrap .u64 d)) : Int)))) /
   18446744073709551616) :
   Int)
   (↑(Int.natAbs (w64 (Int.tdiv b (w64 (↑(Int.gcd (↑(Int.natAbs c) : Int) (IntKind.wrap .u64 b)) : Int)))) *
   Int.natAbs (w64 (Int.tdiv d (w64 (↑(Int.gcd (↑(Int.natAbs a) : Int) (IntKind.wrap .u64 d)) : Int)))) %
   18446744073709551616) :
   Int)))])))))))))))))))

theorem LMu_eq (a b c d : Int) : T7 47 [.agg [iv a, iv b], .agg [iv c, iv d]] = LMu a b c d := by kernel_rfl

noncomputable def LVd (a b : Int) : Tree SV :=
  .ite (decide (b ≥ (1 : Int)) && decide (b ≤ (4611686018427387904 : Int)) && decide (a ≥ (-4611686018427387904 : Int)) && decide (a ≤ (4611686018427387904 : Int)))
  (.need ((-9223372036854775808 : Int) ≤ a ∧ a ≤ (9223372036854775807 : Int))
    (.need (2 ≤ List.length [SV.d (DV.x (.int .u64 (↑(Int.natAbs a) : Int))), SV.d (DV.x (.int .u64 (IntKind.wrap .u64 b)))])
      (.need ((0 : Int) ≤ (↑(Int.natAbs a) : Int) ∧ (0 : Int) ≤ IntKind.wrap .u64 b) (.ret (bv ((↑(Int.gcd (↑(Int.natAbs a) : Int) (IntKind.wrap .u64 b)) : Int) == (1 : Int)))))))
  (.ret (bv false))

theorem LVd_eq (a b : Int) : T7 7 [.agg [iv a, iv b]] = LVd a b := by kernel_rfl


end Go.Proofs.YtmdbfhkineaheaaGreatDoor

