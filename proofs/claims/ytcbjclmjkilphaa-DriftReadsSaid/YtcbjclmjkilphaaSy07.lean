/- Part of a proof of the given statements of this seat (SxMrWd, SxMrWe, SxMrWi, SxMrYa, SxMrYb, SxMrX, SxMrXa, SxMdA, SxMdB, SxMdC, SxMdD, SxMdE, SxMdG, SxMdH, SxMdI, SxMdJ, SxMdS): no conditions beyond those typed here. -/
import Derived.Test.YtcbjclmjkilphaaSy06
import Derived.Test.YtcbjclmjkilphaaProg
import Derived.Test.YtcbjclmjkilphaaSy03
set_option linter.unusedVariables false
set_option linter.unusedSimpArgs false

namespace Go.Proofs.Ytcbjclmjkilphaa.Fr
open Go.Sx
set_option maxRecDepth 100000

/-! ### The operations of package fraction -/

theorem wN_parts (T : Nat) : wN ((T / 18446744073709551616 : Nat) : Int) ((T % 18446744073709551616 : Nat) : Int) = T := by unfold wN; omega
theorem wuN {n : Nat} (h : n ≤ 4611686018427387904) : IntKind.wrap .u64 (n : Int) = n := wu_of (by omega) (by omega)
theorem w64N {n : Nat} (h : n ≤ 4611686018427387904) : w64 (n : Int) = n := w64_of (by omega) (by omega)
theorem w64_gcdR {x y : Nat} (h : y ≤ 4611686018427387904) (h0 : y ≠ 0) : w64 (((Nat.gcd x y : Nat)) : Int) = (Nat.gcd x y : Nat) := w64N (Nat.le_trans (Nat.gcd_le_right _ (Nat.pos_of_ne_zero h0)) h)
theorem len2 (a b : SV) : 2 ≤ [a, b].length := by simp
theorem parts_b {T : Nat} (h : T ≤ 42535295865117307932921825928971026432) : (0 ≤ ((T / 18446744073709551616 : Nat) : Int) ∧ ((T / 18446744073709551616 : Nat) : Int) < 9223372036854775808) ∧ 0 ≤ ((T % 18446744073709551616 : Nat) : Int) ∧ ((T % 18446744073709551616 : Nat) : Int) < 18446744073709551616 := by omega
theorem parts_n (T : Nat) : 0 ≤ ((T / 18446744073709551616 : Nat) : Int) ∧ 0 ≤ ((T % 18446744073709551616 : Nat) : Int) ∧ ((T % 18446744073709551616 : Nat) : Int) < 18446744073709551616 := by omega
theorem mul_b {x y : Nat} (hx : x ≤ 4611686018427387904) (hy : y ≤ 4611686018427387904) : x * y ≤ 21267647932558653966460912964485513216 := by
  have := Nat.mul_le_mul hx hy; omega

theorem mulU_sat (p q : Rat) (hp : fitsR p) (hq : fitsR q) : Sat Try.prog (T7 88 [.agg [iv p.num, iv p.den], .agg [iv q.num, iv q.den]]) (· = .tup [.agg [iv (rN (p * q)), iv (rD (p * q))], iv (rE (p * q))]) := by
  obtain ⟨p1, p2⟩ := hp
  obtain ⟨q1, q2⟩ := hq
  constructor
  rw [LMu_eq]; unfold LMu
  simp only [wuN p2, wuN q2, Int.gcd_natCast_natCast, w64_gcdR p2 (Nat.ne_of_gt p.den_pos), w64_gcdR q2 (Nat.ne_of_gt q.den_pos), w64_div p2, w64_div q2, w64_tdiv p1, w64_tdiv q1, wN_parts, natAbs_cast, nat_neg]
  obtain ⟨r1, r2⟩ := rat_mul p q rfl rfl
  have hg0 : 0 < p.num.natAbs.gcd q.den := Nat.gcd_pos_of_pos_right _ q.den_pos
  have hh0 : 0 < q.num.natAbs.gcd p.den := Nat.gcd_pos_of_pos_right _ p.den_pos
  have a1 : (Int.tdiv p.num (p.num.natAbs.gcd q.den : Nat)).natAbs ≤ p.num.natAbs := by rw [Int.natAbs_tdiv]; exact Nat.div_le_self _ _
  have a2 : (Int.tdiv q.num (q.num.natAbs.gcd p.den : Nat)).natAbs ≤ q.num.natAbs := by rw [Int.natAbs_tdiv]; exact Nat.div_le_self _ _
  have b1 := Nat.div_le_self p.den (q.num.natAbs.gcd p.den)
  have b2 := Nat.div_le_self q.den (p.num.natAbs.gcd q.den)
  generalize p.num.natAbs.gcd q.den = g at *
  generalize q.num.natAbs.gcd p.den = h at *
  generalize Int.tdiv p.num (g : Int) = a at *
  generalize Int.tdiv q.num (h : Int) = c at *
  generalize p.den / h = b at *
  generalize q.den / g = d at *
  have hfin := fin_eq (r := p * q) (S := !(decide (a < 0) == decide (c < 0))) (V := a.natAbs * c.natAbs) (D := b * d) (by rw [r1]; exact sg_mul a c) r2.symm
  refine ⟨fun hc => ?_, fun hc => ?_⟩
  · have hz : p * q = 0 := by
      simp only [Bool.or_eq_true, beq_iff_eq] at hc
      rcases hc with h | h
      · rw [Rat.num_eq_zero.1 h, Rat.zero_mul]
      · rw [Rat.num_eq_zero.1 h, Rat.mul_zero]
    rw [hz, r_zero.1, r_zero.2.1, r_zero.2.2]; exact rfl
  · rw [← hfin.1, ← hfin.2.1, ← hfin.2.2]
    refine ⟨by omega, len2 _ _, by omega, by omega, len2 _ _, by omega, by omega, by omega, by omega, by omega, by omega, by omega, ⟨by omega, by omega, by decide⟩, ?_⟩
    exact rfl

theorem addU_sat (p q : Rat) (hp : fitsR p) (hq : fitsR q) : Sat Try.prog (T8 97 [.agg [iv p.num, iv p.den], .agg [iv q.num, iv q.den]]) (· = .tup [.agg [iv (rN (p + q)), iv (rD (p + q))], iv (rE (p + q))]) := by
  obtain ⟨p1, p2⟩ := hp
  obtain ⟨q1, q2⟩ := hq
  constructor
  rw [LAd_eq]; unfold LAd
  simp only [wuN p2, wuN q2, Int.gcd_natCast_natCast, w64_gcdR q2 (Nat.ne_of_gt q.den_pos), w64_div p2, w64_div q2, wN_parts, nat_neg, natAbs_cast, Int.toNat_natCast]
  have hra := rat_add p q rfl rfl rfl
  have hg0 : 0 < p.den.gcd q.den := Nat.gcd_pos_of_pos_left _ p.den_pos
  have hga : p.den.gcd q.den ≤ p.den := Nat.le_of_dvd p.den_pos (Nat.gcd_dvd_left _ _)
  have hA := Nat.div_le_self p.den (p.den.gcd q.den)
  have hB := Nat.div_le_self q.den (p.den.gcd q.den)
  have c1 := sg_prod p.num (q.den / p.den.gcd q.den)
  have c2 := sg_prod q.num (p.den / p.den.gcd q.den)
  generalize hg : p.den.gcd q.den = g at *
  generalize hAe : p.den / g = A at *
  generalize hBe : q.den / g = B at *
  obtain ⟨s1, s2, s3⟩ := sum_sg (!(decide (p.num < 0) == false)) (p.num.natAbs * B) (!(decide (q.num < 0) == false)) (q.num.natAbs * A)
  rw [c1, c2] at s1 s2
  have m1 : p.num.natAbs * B ≤ 21267647932558653966460912964485513216 := mul_b p1 (by omega)
  have m2 : q.num.natAbs * A ≤ 21267647932558653966460912964485513216 := mul_b q1 (by omega)
  have hVb : sV (!(decide (p.num < 0) == false)) (p.num.natAbs * B) (!(decide (q.num < 0) == false)) (q.num.natAbs * A) ≤ 42535295865117307932921825928971026432 := by
    unfold sV; split
    · omega
    · split <;> omega
  have k1 := parts_b (Nat.le_trans m1 (by decide))
  have k2 := parts_b (Nat.le_trans m2 (by decide))
  generalize hV : sV (!(decide (p.num < 0) == false)) (p.num.natAbs * B) (!(decide (q.num < 0) == false)) (q.num.natAbs * A) = V at *
  generalize hS : sN (!(decide (p.num < 0) == false)) (p.num.natAbs * B) (!(decide (q.num < 0) == false)) (q.num.natAbs * A) = S at *
  generalize hT : p.num * (B : Int) + q.num * (A : Int) = T at *
  have k3 := parts_b hVb
  have hh : (V % g).gcd g = T.natAbs.gcd g := by rw [s1, Nat.gcd_comm T.natAbs g, Nat.gcd_rec g]
  rw [hh]
  obtain ⟨r1, r2⟩ := hra
  have hh0 : 0 < T.natAbs.gcd g := Nat.gcd_pos_of_pos_right _ hg0
  have hhg : T.natAbs.gcd g ≤ g := Nat.le_of_dvd hg0 (Nat.gcd_dvd_right _ _)
  have hhd : T.natAbs.gcd g ∣ T.natAbs := Nat.gcd_dvd_left _ _
  have hD := Nat.div_le_self q.den (T.natAbs.gcd g)
  generalize T.natAbs.gcd g = h at *
  simp only [w64N (show h ≤ 4611686018427387904 by omega), w64_div q2, natAbs_cast, nat_neg]
  generalize hDe : q.den / h = D at *
  refine ⟨len2 _ _, by omega, by omega, by omega, by omega, by omega, ⟨k1.1, k1.2, k2.1, k2.2⟩, fun hc => ?_, fun hc => ?_⟩
  · have hc : V = 0 := by simp only [Bool.and_eq_true, beq_iff_eq] at hc; omega
    have hT0 : T = 0 := by omega
    have : p + q = 0 := Rat.num_eq_zero.1 (by rw [r1, hT0]; simp)
    rw [this, r_zero.1, r_zero.2.1, r_zero.2.2]; exact rfl
  · have hc : V ≠ 0 := by
      rintro rfl
      simp at hc
    have hfin := fin_eq (r := p + q) (S := S) (V := V / h) (D := A * D) (by rw [r1, s1]; exact sg_div (by omega) (s2 hc) hhd) r2.symm
    have hVh := Nat.div_le_self V h
    rw [← hfin.1, ← hfin.2.1, ← hfin.2.2]
    refine ⟨⟨by omega, by omega, by omega, by omega⟩, len2 _ _, by omega, ⟨by omega, by omega, by omega, by omega⟩, by omega, by omega, ⟨by omega, by omega, by omega⟩, ⟨parts_n _, parts_n _, by decide⟩, ?_⟩
    exact rfl

noncomputable def cAddU : Ctr := fun ss => match ss with
  | [.agg [.d (.x (.int .i64 a)), .d (.x (.int .i64 b))], .agg [.d (.x (.int .i64 c)), .d (.x (.int .i64 d))]] => .need (VF a b ∧ VF c d) (.ret (.tup [.agg [iv (rN (ratOf a b + ratOf c d)), iv (rD (ratOf a b + ratOf c d))], iv (rE (ratOf a b + ratOf c d))]))
  | _ => .fail
theorem cAddU_ok : CtrOK Try.prog 97 cAddU := by
  refine ctrOK_leS C8_ok D8_ok (by kernel_rfl) (by kernel_rfl) fun ss r h => ?_
  unfold cAddU at h
  split at h
  · rename_i a b c d
    obtain ⟨⟨h1, h2⟩, rfl⟩ := h
    have := addU_sat _ _ h1.fits h2.fits
    rw [h1.low.num, h1.low.den, h2.low.num, h2.low.den] at this
    exact ⟨[.agg [iv a, iv b], .agg [iv c, iv d]], 200, .nil, by simp [leSVs, leSV, iv, leD], this⟩
  · exact h.elim
noncomputable def cMulU : Ctr := fun ss => match ss with
  | [.agg [.d (.x (.int .i64 a)), .d (.x (.int .i64 b))], .agg [.d (.x (.int .i64 c)), .d (.x (.int .i64 d))]] => .need (VF a b ∧ VF c d) (.ret (.tup [.agg [iv (rN (ratOf a b * ratOf c d)), iv (rD (ratOf a b * ratOf c d))], iv (rE (ratOf a b * ratOf c d))]))
  | _ => .fail
theorem cMulU_ok : CtrOK Try.prog 88 cMulU := by
  refine ctrOK_leS C7_ok D7_ok (by kernel_rfl) (by kernel_rfl) fun ss r h => ?_
  unfold cMulU at h
  split at h
  · rename_i a b c d
    obtain ⟨⟨h1, h2⟩, rfl⟩ := h
    have := mulU_sat _ _ h1.fits h2.fits
    rw [h1.low.num, h1.low.den, h2.low.num, h2.low.den] at this
    exact ⟨[.agg [iv a, iv b], .agg [iv c, iv d]], 200, .nil, by simp [leSVs, leSV, iv, leD], this⟩
  · exact h.elim
noncomputable def cValU : Ctr := fun ss => match ss with
  | [.agg [.d (.x (.int .i64 a)), .d (.x (.int .i64 b))]] => .ret (bv (vB a b))
  | _ => .fail
theorem cValU_ok : CtrOK Try.prog 84 cValU := by
  refine ctrOK_leS C7_ok D7_ok (by kernel_rfl) (by kernel_rfl) fun ss r h => ?_
  unfold cValU at h
  split at h
  · rename_i a b
    obtain rfl := h
    refine ⟨[.agg [iv a, iv b]], 200, .nil, by simp [leSVs, leSV, iv, leD], Sat.of_eq (LVd_eq a b) ⟨?_⟩⟩
    unfold LVd
    refine ⟨fun h => ⟨?_, len2 _ _, ?_, ?_⟩, fun h => ?_⟩
    · simp only [Bool.and_eq_true, decide_eq_true_eq] at h; omega
    · have := wu_nonneg b; omega
    · show bv _ = bv _
      refine congrArg bv ?_
      rw [Bool.eq_iff_iff]
      unfold vB
      simp only [Bool.and_eq_true, decide_eq_true_eq, beq_iff_eq] at h ⊢
      rw [wu_of (n := b) (by omega) (by omega)]
      have : Int.gcd (a.natAbs : Int) b = a.natAbs.gcd b.toNat := by rw [Int.gcd]; congr 1; omega
      constructor
      · intro h5; exact ⟨⟨⟨by omega, by omega⟩, by omega⟩, by omega⟩
      · rintro ⟨_, h5⟩; omega
    · show bv _ = bv _
      refine congrArg bv ?_
      symm
      rw [Bool.eq_false_iff]
      unfold vB
      intro h2
      simp only [Bool.and_eq_true, decide_eq_true_eq] at h2
      rw [Bool.eq_false_iff] at h
      refine h ?_
      simp only [Bool.and_eq_true, decide_eq_true_eq]
      omega
  · exact h.elim

end Go.Proofs.Ytcbjclmjkilphaa.Fr

namespace Go.Proofs.Ytcbjclmjkilphaa.Fr
open Go.Sx
set_option maxRecDepth 100000

noncomputable def man9 : FuncId → Option Ctr := fun k => match k with
  | 97 => some cAddU
  | 88 => some cMulU
  | 84 => some cValU
  | 42 => some cMade
  | 64 => some cMake
  | _ => none
theorem man9_ok (k : Nat) (c : Ctr) (h : man9 k = some c) : CtrOK Try.prog k c ∧ goodF Try.prog k = true := by
  unfold man9 at h
  split at h <;> first | (cases h; done) | (cases h)
  · exact ⟨cAddU_ok, by kernel_rfl⟩
  · exact ⟨cMulU_ok, by kernel_rfl⟩
  · exact ⟨cValU_ok, by kernel_rfl⟩
  · exact ⟨cMade_ok, by kernel_rfl⟩
  · exact ⟨cMake_ok, by kernel_rfl⟩
noncomputable def C9 : Ctx := ctxN Try.prog man9 (fun _ => false) 200 .nil 6
theorem C9_ok : CtxOK Try.prog C9 := ctxN_ok mixed man9_ok 6
noncomputable def D9 : Dr := fun _ => drawn Try.prog C9
theorem D9_ok : DrOK Try.prog C9 D9 := drawn_ok C9_ok mixed
noncomputable def T9 (h : Hint) (k : Nat) (args : List SV) : Tree SV := fnT Try.prog C9 D9 200 (fnOf Try.prog k) (bodyOf Try.prog k) args h

end Go.Proofs.Ytcbjclmjkilphaa.Fr

namespace Go.Proofs.Ytcbjclmjkilphaa.Fr
open Go.Sx
set_option maxRecDepth 100000

/-! ### Results that may not fit -/

theorem rN_of {r : Rat} (h : fitsR r) : rN r = r.num := if_pos h
theorem rD_of {r : Rat} (h : fitsR r) : rD r = r.den := if_pos h
theorem rE_of {r : Rat} (h : fitsR r) : rE r = 0 := if_pos h
theorem rE_no {r : Rat} (h : ¬ fitsR r) : rE r = 2 := if_neg h
theorem rN_no {r : Rat} (h : ¬ fitsR r) : rN r = 0 := if_neg h
theorem rD_no {r : Rat} (h : ¬ fitsR r) : rD r = 0 := if_neg h
/-! ### Min, Max, Sub -/

noncomputable def mx (p q : Rat) : Rat := if p < q then q else p
theorem VF.out {a b : Int} (h : VF a b) : iv (ratOf a b).num = iv a ∧ iv ((ratOf a b).den : Int) = iv b := by rw [h.low.num, h.low.den]; exact ⟨rfl, rfl⟩
theorem VF.neg {c d : Int} (h : VF c d) : VF (0 - c) d := ⟨⟨h.low.pos, by have := h.low.cop; rwa [Int.zero_sub, Int.natAbs_neg]⟩, by have := h.n; omega, h.d⟩
theorem ratOf_neg {c d : Int} : ratOf (0 - c) d = - ratOf c d := by
  unfold ratOf; rw [Int.zero_sub, Rat.neg_mkRat]

end Go.Proofs.Ytcbjclmjkilphaa.Fr

namespace Go.Proofs.Ytcbjclmjkilphaa.Fr
open Go.Sx
set_option maxRecDepth 100000

/-! ### MakeIn of any two numbers -/
/-- The quotient of two numbers. -/
def qR (n d : Int) : Rat := if d < 0 then ratOf (-n) (-d) else ratOf n d
theorem qR_half {a b : Int} (hb : b ≠ 0) (h1 : a % 2 = 0) (h2 : b % 2 = 0) : qR (a / 2) (b / 2) = qR a b := by
  unfold qR
  by_cases h : b < 0
  · rw [if_pos h, if_pos (by omega), ← ratOf_half (a := -a) (b := -b) (by omega) (by omega) (by omega)]
    congr 1 <;> omega
  · rw [if_neg h, if_neg (by omega)]
    exact ratOf_half (by omega) h1 h2
theorem qR_zero {b : Int} : qR 0 b = 0 := by
  unfold qR; split <;> (unfold ratOf; exact Rat.zero_mkRat _)
/-- Numerator and denominator of a quotient. -/
theorem qR_parts {a b : Int} (hb : b ≠ 0) : (qR a b).num.natAbs = a.natAbs / a.natAbs.gcd b.natAbs ∧ (qR a b).den = b.natAbs / a.natAbs.gcd b.natAbs ∧ ((decide (a < 0) != decide (b < 0)) = true → (qR a b).num ≤ 0) ∧ ((decide (a < 0) != decide (b < 0)) = false → 0 ≤ (qR a b).num) := by
  have key : ∀ {n d : Int}, 0 < d → (ratOf n d).num.natAbs = n.natAbs / n.natAbs.gcd d.natAbs ∧ (ratOf n d).den = d.natAbs / n.natAbs.gcd d.natAbs ∧ (n ≤ 0 → (ratOf n d).num ≤ 0) ∧ (0 ≤ n → 0 ≤ (ratOf n d).num) := by
    intro n d hd
    obtain ⟨r1, r2⟩ := ratOf_red (n := n) hd rfl
    have e : d.toNat = d.natAbs := by omega
    rw [e] at r1 r2
    refine ⟨by rw [r1, Int.natAbs_tdiv]; rfl, ?_, fun h => ?_, fun h => ?_⟩
    · have hd0 : 0 ≤ d := by omega
      rw [Int.tdiv_eq_ediv_of_nonneg hd0] at r2
      obtain ⟨D, rfl⟩ := Int.eq_ofNat_of_zero_le hd0
      rw [Int.natAbs_natCast] at *
      rw [← Int.natCast_ediv] at r2
      omega
    · rw [r1]
      have := Int.tdiv_nonneg (a := -n) (b := ((n.natAbs.gcd d.natAbs : Nat) : Int)) (by omega) (by omega)
      rw [Int.neg_tdiv] at this; omega
    · rw [r1]; exact Int.tdiv_nonneg h (Int.natCast_nonneg _)
  unfold qR
  by_cases h : b < 0
  · rw [if_pos h]
    obtain ⟨k1, k2, k3, k4⟩ := key (n := -a) (d := -b) (by omega)
    rw [Int.natAbs_neg, Int.natAbs_neg] at k1 k2
    refine ⟨k1, k2, fun hx => k3 ?_, fun hx => k4 ?_⟩
    · simp only [h, decide_true, bne_iff_ne, ne_eq, decide_eq_true_eq] at hx
      simp at hx; omega
    · simp only [h, decide_true] at hx
      simp at hx; omega
  · rw [if_neg h]
    obtain ⟨k1, k2, k3, k4⟩ := key (n := a) (d := b) (by omega)
    refine ⟨k1, k2, fun hx => k3 ?_, fun hx => k4 ?_⟩
    · simp only [h, decide_false] at hx
      simp at hx; omega
    · simp only [h, decide_false] at hx
      simp at hx; omega

theorem odd_gcd {n : Nat} (h : n % 2 = 1) : (9223372036854775808 : Nat).gcd n = 1 := by
  rw [show (9223372036854775808 : Nat) = 2 ^ 63 by decide]
  have : Nat.Coprime 2 n := by
    unfold Nat.Coprime
    rw [Nat.gcd_rec, h]; decide
  exact Nat.Coprime.pow_left 63 this

abbrev I64 (n : Int) : Prop := -9223372036854775808 ≤ n ∧ n ≤ 9223372036854775807
theorem makeG_sat {n d : Int} (hn : I64 n) (hd : I64 d) (h0 : d ≠ 0) : Sat Try.prog (tMake n d) (· = .agg [iv (rN (qR n d)), iv (rD (qR n d)), iv (rE (qR n d))]) := by
  constructor
  rw [LMake_eq]; unfold LMake
  refine ⟨fun hc => by simp only [beq_iff_eq] at hc; omega, fun hc => ?_⟩
  refine code_satS C1_ok D1_ok (n := 200) (n0 := 1) (nx := 1) (roots := []) (keep := [4, 5, 6]) (drop := []) (h := .nil) (c := codeC (sub [1] (tMake n d))) (st := codeS (sub [1] (tMake n d))) (k := codeK (sub [1] (tMake n d))) (body := bodyMake) (by kernel_rfl) (by kernel_rfl)
    (fun q s => ∃ a b : Int, q = b.natAbs ∧ I64 a ∧ I64 b ∧ b ≠ 0 ∧ qR a b = qR n d ∧ s = invMake a b)
    (fun e s => ∃ a b : Int, e = .exit 0 ∧ I64 a ∧ I64 b ∧ b ≠ 0 ∧ (a ≠ 0 → ¬ (a % 2 = 0 ∧ b % 2 = 0)) ∧ qR a b = qR n d ∧ s = invMake a b)
    ⟨_, _, ⟨n, d, rfl, hn, hd, h0, rfl, rfl⟩, ?_⟩ ?_ ?_
  · exact entA_sound (roots := []) (keep := [4, 5, 6]) (drop := []) (nx := 1) (h := .nil) (by kernel_rfl)
  · rintro q s ⟨a, b, hq, ha, hb, hb0, he, rfl⟩
    refine Sat.of_eq (BMake_eq a b) ?_
    constructor
    unfold BMake
    refine ⟨by decide, fun _ => by decide, fun hc => ?_, fun hc => ?_⟩
    · simp only [Bool.and_eq_true, beq_iff_eq, bne_iff_ne, ne_eq, tmod2] at hc
      obtain ⟨⟨h1, h2⟩, h3⟩ := hc
      rw [tdiv2 h1, tdiv2 h2, w64_of (n := a / 2) (by omega) (by omega), w64_of (n := b / 2) (by omega) (by omega)]
      exact ⟨by decide, by decide, (b / 2).natAbs, _, by omega, ⟨a / 2, b / 2, rfl, by omega, by omega, by omega, by rw [qR_half hb0 h1 h2, he], rfl⟩, Gc.refl _ _⟩
    · refine ⟨_, ⟨a, b, rfl, ha, hb, hb0, fun hx ⟨h1, h2⟩ => ?_, he, rfl⟩, Gc.refl _ _⟩
      have : (Int.tmod a 2 == 0 && Int.tmod b 2 == 0 && a != 0) = true := by
        simp only [Bool.and_eq_true, beq_iff_eq, bne_iff_ne, ne_eq, tmod2]; exact ⟨⟨h1, h2⟩, hx⟩
      rw [this] at hc; cases hc
  · rintro e s ⟨a, b, rfl, ha, hb, hb0, hev, he, rfl⟩
    refine Sat.of_eq (KMake_eq n d a b) ⟨?_⟩
    unfold KMake
    rw [← he]
    have hg : ((Int.gcd (a.natAbs : Int) (b.natAbs : Int) : Nat) : Int) = ((a.natAbs.gcd b.natAbs : Nat) : Int) := by rw [Int.gcd_natCast_natCast]
    have hgp : 0 < a.natAbs.gcd b.natAbs := Nat.gcd_pos_of_pos_right _ (by omega)
    obtain ⟨r1, r2, r3, r4⟩ := qR_parts (a := a) hb0
    have ga := Nat.div_le_self a.natAbs (a.natAbs.gcd b.natAbs)
    have gb := Nat.div_le_self b.natAbs (a.natAbs.gcd b.natAbs)
    refine ⟨fun hz => ?_, fun hz => ?_⟩
    · have hz : a = 0 := by simpa using hz
      subst hz
      rw [qR_zero, r_zero.1, r_zero.2.1, r_zero.2.2]; exact rfl
    have hz : a ≠ 0 := by simpa using hz
    have hev := hev hz
    refine ⟨fun hl => ?_, fun hl => ?_⟩
    · have hnf : ¬ fitsR (qR a b) := by
        rintro ⟨f1, f2⟩
        rw [r1] at f1; rw [r2] at f2
        simp only [Bool.or_eq_true, beq_iff_eq] at hl
        rcases hl with rfl | rfl
        · have hb2 : b.natAbs % 2 = 1 := by omega
          rw [show (-9223372036854775808 : Int).natAbs = 9223372036854775808 by decide, odd_gcd hb2] at f1
          omega
        · have ha2 : a.natAbs % 2 = 1 := by omega
          rw [show (-9223372036854775808 : Int).natAbs = 9223372036854775808 by decide, Nat.gcd_comm, odd_gcd ha2] at f2
          omega
      rw [rN_no hnf, rD_no hnf, rE_no hnf]; exact rfl
    · simp only [Bool.or_eq_false_iff, beq_eq_false_iff_ne, ne_eq] at hl
      rw [hg, Int.toNat_natCast]
      refine ⟨by omega, by omega, by omega, ⟨by omega, by omega, by omega⟩, ⟨by omega, by omega, by omega⟩, fun hm => ?_, fun hm => ?_⟩
      · have hnf : ¬ fitsR (qR a b) := by
          rintro ⟨f1, f2⟩
          simp only [Bool.or_eq_true, decide_eq_true_eq] at hm
          omega
        rw [rN_no hnf, rD_no hnf, rE_no hnf]; exact rfl
      · have hf : fitsR (qR a b) := by
          simp only [Bool.or_eq_false_iff, decide_eq_false_iff_not] at hm
          exact ⟨by omega, by omega⟩
        rw [rN_of hf, rD_of hf, rE_of hf]
        have hxor : (!decide (a < 0) == decide (b < 0)) = (decide (a < 0) != decide (b < 0)) := by cases decide (a < 0) <;> cases decide (b < 0) <;> rfl
        refine ⟨fun hs => ?_, fun hs => ?_⟩
        · rw [hxor] at hs
          have := r3 hs
          rw [w64_of (by omega) (by omega)]
          simp only [Tree.sat]
          rw [← r1, ← r2, show (0 : Int) - ((qR a b).num.natAbs : Int) = (qR a b).num by omega]
        · rw [hxor] at hs
          have := r4 hs
          simp only [Tree.sat]
          rw [← r1, ← r2, show ((qR a b).num.natAbs : Int) = (qR a b).num by omega]

noncomputable def cMakeG : Ctr := fun ss => match ss with
  | [.d (.x (.int .i64 n)), .d (.x (.int .i64 d))] => .need (I64 n ∧ I64 d)
      (.ret (.agg [iv (if d = 0 then 0 else rN (qR n d)), iv (if d = 0 then 0 else rD (qR n d)), iv (if d = 0 then 3 else rE (qR n d))]))
  | _ => .fail
theorem cMakeG_ok : CtrOK Try.prog 64 cMakeG := by
  refine ctrOK_leS C1_ok D1_ok (by kernel_rfl) (by kernel_rfl) fun ss r h => ?_
  unfold cMakeG at h
  split at h
  · rename_i n d
    obtain ⟨⟨h1, h2⟩, rfl⟩ := h
    by_cases h0 : d = 0
    · subst h0
      refine ⟨[iv n, iv 0], 200, .nil, by simp [leSVs, leSV, iv, leD], Sat.of_eq (LMake_eq n 0) ⟨?_⟩⟩
      unfold LMake
      exact ⟨fun _ => rfl, fun h => (by cases h)⟩
    · rw [if_neg h0, if_neg h0, if_neg h0]
      exact ⟨[iv n, iv d], 200, .nil, by simp [leSVs, leSV, iv, leD], makeG_sat h1 h2 h0⟩
  · exact h.elim

end Go.Proofs.Ytcbjclmjkilphaa.Fr

namespace Go.Proofs.Ytcbjclmjkilphaa.Fr
open Go.Sx
set_option maxRecDepth 100000

noncomputable def manJ : FuncId → Option Ctr := fun k => match k with
  | 64 => some cMakeG
  | _ => none
theorem manJ_ok (k : Nat) (c : Ctr) (h : manJ k = some c) : CtrOK Try.prog k c ∧ goodF Try.prog k = true := by
  unfold manJ at h
  split at h
  · cases h; exact ⟨cMakeG_ok, by kernel_rfl⟩
  · cases h
noncomputable def CJ : Ctx := ctxN Try.prog manJ (fun _ => false) 200 .nil 6
theorem CJ_ok : CtxOK Try.prog CJ := ctxN_ok mixed manJ_ok 6
noncomputable def DJ : Dr := fun _ => drawn Try.prog CJ
theorem DJ_ok : DrOK Try.prog CJ DJ := drawn_ok CJ_ok mixed
noncomputable def TJ (h : Hint) (k : Nat) (args : List SV) : Tree SV := fnT Try.prog CJ DJ 200 (fnOf Try.prog k) (bodyOf Try.prog k) args h

noncomputable def LMdA (n d : Int) : Tree SV :=
  .need (I64 n ∧ I64 d) (.code (codeC (sub [(0 : Nat)] (TJ .nil (42 : Nat) [iv n, iv d]))) (codeS (sub [(0 : Nat)] (TJ .nil (42 : Nat) [iv n, iv d]))) (codeK (sub [(0 : Nat)] (TJ .nil (42 : Nat) [iv n, iv d]))))

theorem LMdA_eq (n d : Int) : TJ .nil 42 [iv n, iv d] = LMdA n d := by kernel_rfl

noncomputable def tMd (n d : Int) : Tree SV := TJ .nil 42 [iv n, iv d]
noncomputable def invMd (n d x y z : Int) : AS := ⟨[.ok (iv n), .ok (iv d), .unk, .unk, .ok (.ptr 0 0), .ok (.ptr 1 0)] ++ List.replicate 17 .unk, [some (.cells [iv 0, iv 0]), some (.cells [iv x, iv y, iv z]), none], 3, .nil⟩
noncomputable def bodyMd : Code := loopN (bodyOf Try.prog 42) 0
noncomputable def BMdA (n d x y z : Int) : Tree (Ex × AS) :=
  .ite (z != (0 : Int))
  (.need ((2 : Int) ≠ (0 : Int))
   (.need ((2 : Int) ≠ (0 : Int))
   (.ite (w64 (Int.tdiv d (2 : Int)) == (0 : Int))
   (.need (I64 (w64 (Int.tdiv n (2 : Int))) ∧ I64 (1 : Int))
   (.ret
   (.normal,
   {
   tm :=
   [.ok (iv (w64 (Int.tdiv n (2 : Int)))), .ok (iv (1 : Int)), .unk, .unk, .ok (SV.ptr 0 0), .ok (SV.ptr 1 0), .unk, .unk, .unk, .unk, .unk, .unk, .unk,
   .unk, .unk, .unk, .unk, .unk, .unk, .unk, .unk, .unk, .unk],
   hp :=
   [some (.cells [iv (0 : Int), iv (0 : Int)]),
   some (.cells [iv (rN (qR (w64 (Int.tdiv n (2 : Int))) (1 : Int))), iv (rD (qR (w64 (Int.tdiv n (2 : Int))) (1 : Int))), iv (rE (qR (w64 (Int.tdiv n (2 : Int))) (1 : Int)))]), none],
   next := 3, hint := .nil })))
   (.need (I64 (w64 (Int.tdiv n (2 : Int))) ∧ I64 (w64 (Int.tdiv d (2 : Int))))
   (.ret
   (.normal,
   {
   tm :=
   [.ok (iv (w64 (Int.tdiv n (2 : Int)))), .ok (iv (w64 (Int.tdiv d (2 : Int)))), .unk, .unk, .ok (SV.ptr 0 0), .ok (SV.ptr 1 0), .unk, .unk, .unk, .unk, .unk,
   .unk, .unk, .unk, .unk, .unk, .unk, .unk, .unk, .unk, .unk, .unk, .unk],
   hp :=
   [some (.cells [iv (0 : Int), iv (0 : Int)]),
   some
   (.cells
   [iv (if w64 (Int.tdiv d (2 : Int)) = (0 : Int) then (0 : Int) else rN (qR (w64 (Int.tdiv n (2 : Int))) (w64 (Int.tdiv d (2 : Int))))),
   iv (if w64 (Int.tdiv d (2 : Int)) = (0 : Int) then (0 : Int) else rD (qR (w64 (Int.tdiv n (2 : Int))) (w64 (Int.tdiv d (2 : Int))))),
   iv (if w64 (Int.tdiv d (2 : Int)) = (0 : Int) then (3 : Int) else rE (qR (w64 (Int.tdiv n (2 : Int))) (w64 (Int.tdiv d (2 : Int)))))]),
   none],
   next := 3, hint := .nil }))))))
  (.ret
   (.exit 0,
   {
   tm :=
   [.ok (iv n), .ok (iv d), .unk, .unk, .ok (SV.ptr 0 0), .ok (SV.ptr 1 0), .unk, .unk, .unk, .unk, .unk, .unk, .unk, .unk, .unk, .unk, .unk, .unk, .unk,
   .unk, .unk, .unk, .unk],
   hp := [some (.cells [iv (0 : Int), iv (0 : Int)]), some (.cells [iv x, iv y, iv z]), none], next := 3, hint := .nil }))

theorem BMdA_eq (n d x y z : Int) : cutT 3 [] [0, 1, 4, 5] [2] 3 .nil (exec Try.prog CJ DJ 200 bodyMd (invMd n d x y z)) = BMdA n d x y z := by kernel_rfl

noncomputable def KMdA (n d a b x y z : Int) : Tree SV :=
  .ret (SV.agg [iv x, iv y])

theorem KMdA_eq (n d a b x y z : Int) : codeK (sub [0] (tMd n d)) (.exit 0) (invMd a b x y z) = KMdA n d a b x y z := by kernel_rfl


/-- What the reference makes of two numbers: halved until they fit. -/
def nxD (d : Int) : Int := if Int.tdiv d 2 = 0 then 1 else Int.tdiv d 2
noncomputable def mdF : Nat → Int → Int → Rat
  | 0, _, _ => 0
  | k + 1, n, d => if d ≠ 0 ∧ fitsR (qR n d) then qR n d else mdF k (Int.tdiv n 2) (nxD d)
def mdM (n d : Int) : Nat := n.natAbs + d.natAbs + if d = 0 then 2 else 0
noncomputable def mdQ (n d : Int) : Rat := mdF (mdM n d + 1) n d
theorem mdF_fits : ∀ (k : Nat) (n d : Int), fitsR (mdF k n d)
  | 0, n, d => by unfold mdF; decide +kernel
  | k + 1, n, d => by
    unfold mdF; split
    · rename_i h; exact h.2
    · exact mdF_fits k _ _
theorem mdQ_fits (n d : Int) : fitsR (mdQ n d) := mdF_fits _ _ _
theorem mdQ_of {n d : Int} (h0 : d ≠ 0) (h : fitsR (qR n d)) : mdQ n d = qR n d := by unfold mdQ mdF; rw [if_pos ⟨h0, h⟩]
theorem fits_zero : fitsR 0 := by decide +kernel
theorem md_step {n d : Int} (h : ¬ (d ≠ 0 ∧ fitsR (qR n d))) : mdM (Int.tdiv n 2) (nxD d) < mdM n d := by
  have hn : (Int.tdiv n 2).natAbs = n.natAbs / 2 := by rw [Int.natAbs_tdiv]; rfl
  have hd : (Int.tdiv d 2).natAbs = d.natAbs / 2 := by rw [Int.natAbs_tdiv]; rfl
  unfold mdM nxD
  by_cases h0 : d = 0
  · subst h0
    rw [if_pos (by decide), if_neg (by decide), if_pos rfl]; omega
  · have hn0 : n ≠ 0 := by
      rintro rfl
      exact h ⟨h0, by rw [qR_zero]; exact fits_zero⟩
    have e1 : (1 : Int).natAbs = 1 := rfl
    (repeat' split) <;> omega

def mdC (n d : Int) (x y z : Int) : Prop := x = (if d = 0 then 0 else rN (qR n d)) ∧ y = (if d = 0 then 0 else rD (qR n d)) ∧ z = (if d = 0 then 3 else rE (qR n d))
theorem tdiv2_b {n : Int} (h : I64 n) : I64 (Int.tdiv n 2) ∧ w64 (Int.tdiv n 2) = Int.tdiv n 2 := by
  have hn : (Int.tdiv n 2).natAbs = n.natAbs / 2 := by rw [Int.natAbs_tdiv]; rfl
  have : I64 (Int.tdiv n 2) := ⟨by omega, by omega⟩
  exact ⟨this, w64_of this.1 this.2⟩
theorem madeG_sat {n d : Int} (hn : I64 n) (hd : I64 d) : Sat Try.prog (tMd n d) (· = .agg [iv (mdQ n d).num, iv (mdQ n d).den]) := by
  constructor
  rw [show tMd n d = LMdA n d from LMdA_eq n d]; unfold LMdA
  refine ⟨⟨hn, hd⟩, ?_⟩
  refine code_satS CJ_ok DJ_ok (n := 200) (n0 := 3) (nx := 3) (roots := []) (keep := [0, 1, 4, 5]) (drop := [2]) (h := .nil) (c := codeC (sub [0] (tMd n d))) (st := codeS (sub [0] (tMd n d))) (k := codeK (sub [0] (tMd n d))) (body := bodyMd) (by kernel_rfl) (by kernel_rfl)
    (fun q s => ∃ a b x y z : Int, I64 a ∧ I64 b ∧ mdM a b < q ∧ mdF q a b = mdQ n d ∧ mdC a b x y z ∧ s = invMd a b x y z)
    (fun e s => ∃ a b y z : Int, ∃ r : Rat, e = .exit 0 ∧ mdQ n d = r ∧ s = invMd a b r.num r.den z)
    ⟨_, _, ⟨n, d, _, _, _, hn, hd, Nat.lt_succ_self _, rfl, ⟨rfl, rfl, rfl⟩, rfl⟩, ?_⟩ ?_ ?_
  · exact entA_sound (roots := []) (keep := [0, 1, 4, 5]) (drop := [2]) (nx := 3) (h := .nil) (by kernel_rfl)
  · rintro q s ⟨a, b, x, y, z, ha, hb, hq, he, ⟨rfl, rfl, rfl⟩, rfl⟩
    refine Sat.of_eq (BMdA_eq _ _ _ _ _) ?_
    constructor
    unfold BMdA
    obtain ⟨a1, a2⟩ := tdiv2_b ha
    obtain ⟨b1, b2⟩ := tdiv2_b hb
    have hI1 : I64 1 := ⟨by decide, by decide⟩
    obtain ⟨q, rfl⟩ : ∃ p, q = p + 1 := ⟨q - 1, by omega⟩
    by_cases hok : b ≠ 0 ∧ fitsR (qR a b)
    · have e1 : mdF (q + 1) a b = qR a b := by unfold mdF; rw [if_pos hok]
      rw [e1] at he
      rw [if_neg hok.1, if_neg hok.1, if_neg hok.1, rE_of hok.2, rN_of hok.2, rD_of hok.2]
      exact ⟨fun h => (by cases h), fun _ => ⟨_, ⟨a, b, 0, 0, qR a b, rfl, he.symm, rfl⟩, Gc.refl _ _⟩⟩
    · have e1 : mdF (q + 1) a b = mdF q (Int.tdiv a 2) (nxD b) := by
        show (if b ≠ 0 ∧ fitsR (qR a b) then qR a b else mdF q (Int.tdiv a 2) (nxD b)) = _
        rw [if_neg hok]
      rw [e1] at he
      have hst := md_step hok
      rw [a2, b2]
      refine ⟨fun _ => ⟨by decide, by decide, fun h1 => ?_, fun h1 => ?_⟩, fun h => ?_⟩
      · have h1 : Int.tdiv b 2 = 0 := by simpa using h1
        have h2 : nxD b = 1 := by unfold nxD; rw [if_pos h1]
        rw [h2] at he hst
        exact ⟨⟨a1, hI1⟩, q, _, Nat.lt_succ_self _, ⟨Int.tdiv a 2, 1, _, _, _, a1, hI1, by omega, he, ⟨by rw [if_neg (by decide)], by rw [if_neg (by decide)], by rw [if_neg (by decide)]⟩, rfl⟩, Gc.refl _ _⟩
      · have h1 : Int.tdiv b 2 ≠ 0 := by simpa using h1
        have h2 : nxD b = Int.tdiv b 2 := by unfold nxD; rw [if_neg h1]
        rw [h2] at he hst
        exact ⟨⟨a1, b1⟩, q, _, Nat.lt_succ_self _, ⟨Int.tdiv a 2, Int.tdiv b 2, _, _, _, a1, b1, by omega, he, ⟨rfl, rfl, rfl⟩, rfl⟩, Gc.refl _ _⟩
      · exfalso
        by_cases hb0 : b = 0
        · rw [if_pos hb0] at h; cases h
        · rw [if_neg hb0, rE_no (fun hf => hok ⟨hb0, hf⟩)] at h; cases h
  · rintro e s ⟨a, b, y, z, r, rfl, he, rfl⟩
    refine Sat.of_eq (KMdA_eq n d a b _ _ _) ⟨?_⟩
    unfold KMdA
    rw [he]; exact rfl

noncomputable def cMadeG : Ctr := fun ss => match ss with
  | [.d (.x (.int .i64 n)), .d (.x (.int .i64 d))] => .need (I64 n ∧ I64 d) (.ret (.agg [iv (mdQ n d).num, iv (mdQ n d).den]))
  | _ => .fail
theorem cMadeG_ok : CtrOK Try.prog 42 cMadeG := by
  refine ctrOK_leS CJ_ok DJ_ok (by kernel_rfl) (by kernel_rfl) fun ss r h => ?_
  unfold cMadeG at h
  split at h
  · rename_i n d
    obtain ⟨⟨h1, h2⟩, rfl⟩ := h
    exact ⟨[iv n, iv d], 200, .nil, by simp [leSVs, leSV, iv, leD], madeG_sat h1 h2⟩
  · exact h.elim

end Go.Proofs.Ytcbjclmjkilphaa.Fr

namespace Go.Proofs.Ytcbjclmjkilphaa.Fr
open Go.Sx
set_option maxRecDepth 100000

/-! ### Make, Sub, Div, Floor, Ceil -/

noncomputable def LDivU (a b c d : Int) : Tree SV :=
  .ite (c == (0 : Int)) (.ret (SV.tup [SV.agg [iv (0 : Int), iv (0 : Int)], iv (3 : Int)]))
  (.ite (decide (c < (0 : Int)))
   (.need (VF a b ∧ VF (w64 ((0 : Int) - d)) (w64 ((0 : Int) - c)))
   (.ret
   (SV.tup
   [SV.agg [iv (rN (ratOf a b * ratOf (w64 ((0 : Int) - d)) (w64 ((0 : Int) - c)))), iv (rD (ratOf a b * ratOf (w64 ((0 : Int) - d)) (w64 ((0 : Int) - c))))],
   iv (rE (ratOf a b * ratOf (w64 ((0 : Int) - d)) (w64 ((0 : Int) - c))))])))
   (.need (VF a b ∧ VF d c) (.ret (SV.tup [SV.agg [iv (rN (ratOf a b * ratOf d c)), iv (rD (ratOf a b * ratOf d c))], iv (rE (ratOf a b * ratOf d c))]))))

theorem LDivU_eq (a b c d : Int) : T9 .nil 87 [.agg [iv a, iv b], .agg [iv c, iv d]] = LDivU a b c d := by kernel_rfl

noncomputable def LFlU (a b : Int) : Tree SV :=
  .need (b ≠ (0 : Int)) (.ite (decide (w64 (w64 (Int.tdiv a b) * b) > a)) (.ret (iv (w64 (w64 (Int.tdiv a b) - (1 : Int))))) (.ret (iv (w64 (Int.tdiv a b)))))

theorem LFlU_eq (a b : Int) : T0 89 [.agg [iv a, iv b]] = LFlU a b := by kernel_rfl

end Go.Proofs.Ytcbjclmjkilphaa.Fr

namespace Go.Proofs.Ytcbjclmjkilphaa.Fr
open Go.Sx
set_option maxRecDepth 100000

/-! ### Make -/

/-! ### Sub, Div -/

theorem VF.flip {c d : Int} (h : VF c d) (hc : 0 < c) : VF d c :=
  ⟨⟨by omega, by have := h.low.cop; have := h.low.pos; rw [Nat.gcd_comm]; rwa [show c.toNat = c.natAbs by omega, show d.natAbs = d.toNat by omega]⟩, by have := h.d; have := h.low.pos; omega, by have := h.n; omega⟩
theorem ratOf_ne {c d : Int} (hd : 1 ≤ d) (hc : c ≠ 0) : ratOf c d ≠ 0 := by
  unfold ratOf; rw [Ne, Rat.mkRat_eq_zero (by omega)]; exact hc
theorem ratOf_flip {c d : Int} (hd : 1 ≤ d) (hc : 0 < c) : ratOf d c = (ratOf c d)⁻¹ := by
  have h0 := ratOf_ne hd (show c ≠ 0 by omega)
  have h1 : ratOf d c * ratOf c d = 1 := by
    unfold ratOf
    rw [Rat.mkRat_mul_mkRat]
    have e : d * c = ((c.toNat * d.toNat : Nat) : Int) := by rw [Int.natCast_mul, Int.toNat_of_nonneg (by omega), Int.toNat_of_nonneg (by omega), Int.mul_comm]
    rw [e]
    have hp : c.toNat * d.toNat ≠ 0 := Nat.mul_ne_zero (by omega) (by omega)
    rw [show ((c.toNat * d.toNat : Nat) : Int) = 1 * ((c.toNat * d.toNat : Nat) : Int) by omega]
    rw [Rat.mkRat_eq_iff hp (by decide) |>.2 (show (1 : Int) * ((c.toNat * d.toNat : Nat) : Int) * ((1 : Nat) : Int) = 1 * ((c.toNat * d.toNat : Nat) : Int) by omega)]
    rfl
  have : ratOf d c * ratOf c d * (ratOf c d)⁻¹ = 1 * (ratOf c d)⁻¹ := by rw [h1]
  rwa [Rat.mul_assoc, Rat.mul_inv_cancel _ h0, Rat.mul_one, Rat.one_mul] at this

noncomputable def dvN (p q : Rat) : Int := if q = 0 then 0 else rN (p / q)
noncomputable def dvD (p q : Rat) : Int := if q = 0 then 0 else rD (p / q)
noncomputable def dvE (p q : Rat) : Int := if q = 0 then 3 else rE (p / q)
theorem ratOf_zero {d : Int} : ratOf 0 d = 0 := by unfold ratOf; exact Rat.zero_mkRat _

noncomputable def cDivU : Ctr := fun ss => match ss with
  | [.agg [.d (.x (.int .i64 a)), .d (.x (.int .i64 b))], .agg [.d (.x (.int .i64 c)), .d (.x (.int .i64 d))]] => .need (VF a b ∧ VF c d) (.ret (.tup [.agg [iv (dvN (ratOf a b) (ratOf c d)), iv (dvD (ratOf a b) (ratOf c d))], iv (dvE (ratOf a b) (ratOf c d))]))
  | _ => .fail
theorem cDivU_ok : CtrOK Try.prog 87 cDivU := by
  refine ctrOK_leS C9_ok D9_ok (by kernel_rfl) (by kernel_rfl) fun ss r h => ?_
  unfold cDivU at h
  split at h
  · rename_i a b c d
    obtain ⟨⟨h1, h2⟩, rfl⟩ := h
    refine ⟨[.agg [iv a, iv b], .agg [iv c, iv d]], 200, .nil, by simp [leSVs, leSV, iv, leD], Sat.of_eq (LDivU_eq a b c d) ⟨?_⟩⟩
    unfold LDivU
    have hc := h2.n
    have hd := h2.d
    have hp := h2.low.pos
    rw [w64_of (n := 0 - c) (by omega) (by omega), w64_of (n := 0 - d) (by omega) (by omega)]
    refine ⟨fun h => ?_, fun h => ⟨fun hn => ?_, fun hn => ?_⟩⟩
    · have h : c = 0 := by simpa using h
      subst h
      simp only [dvN, dvD, dvE, ratOf_zero, if_true]; exact rfl
    · have hn : c < 0 := by simpa using hn
      have h0 : ratOf c d ≠ 0 := ratOf_ne hp (by omega)
      have hv : VF (0 - d) (0 - c) := by
        have h3 := (h2.neg.flip (by omega)).neg
        exact h3
      refine ⟨⟨h1, hv⟩, ?_⟩
      have e : ratOf (0 - d) (0 - c) = (ratOf c d)⁻¹ := by
        rw [ratOf_neg, ratOf_flip hp (by omega), ratOf_neg]
        have e1 : -(ratOf c d) ≠ 0 := fun h => h0 (by rw [← Rat.neg_neg (ratOf c d), h]; rfl)
        have e2 : -(-(ratOf c d))⁻¹ * ratOf c d = 1 := by
          rw [Rat.neg_mul, ← Rat.mul_neg, Rat.inv_mul_cancel _ e1]
        have : -(-(ratOf c d))⁻¹ * ratOf c d * (ratOf c d)⁻¹ = 1 * (ratOf c d)⁻¹ := by rw [e2]
        rwa [Rat.mul_assoc, Rat.mul_inv_cancel _ h0, Rat.mul_one, Rat.one_mul] at this
      rw [e, ← Rat.div_def]
      simp only [dvN, dvD, dvE, if_neg h0]; exact rfl
    · have h : c ≠ 0 := by simpa using h
      have hn : ¬ c < 0 := by simpa using hn
      have h0 : ratOf c d ≠ 0 := ratOf_ne hp h
      refine ⟨⟨h1, h2.flip (by omega)⟩, ?_⟩
      rw [ratOf_flip hp (by omega), ← Rat.div_def]
      simp only [dvN, dvD, dvE, if_neg h0]; exact rfl
  · exact h.elim

/-! ### Floor, Ceil -/

theorem tdiv_cases {a b : Int} (hb : 1 ≤ b) : (Int.tdiv a b = a / b ∧ a / b * b ≤ a ∧ a < a / b * b + b) ∧ (0 ≤ a ∨ a / b * b = a) ∨ (a < 0 ∧ Int.tdiv a b = a / b + 1 ∧ a / b * b < a ∧ a < a / b * b + b) := by
  have h1 := Int.emod_add_mul_ediv a b
  have h2 := Int.emod_nonneg a (show b ≠ 0 by omega)
  have h3 := Int.emod_lt_of_pos a (show 0 < b by omega)
  have h4 : a / b * b = a - a % b := by rw [Int.mul_comm]; omega
  by_cases ha : 0 ≤ a
  · left; exact ⟨⟨Int.tdiv_eq_ediv_of_nonneg ha, by omega, by omega⟩, .inl ha⟩
  · by_cases hd : a % b = 0
    · left
      exact ⟨⟨Int.tdiv_eq_ediv_of_dvd (Int.dvd_of_emod_eq_zero hd), by omega, by omega⟩, .inr (by omega)⟩
    · right
      refine ⟨by omega, ?_, by omega, by omega⟩
      rw [Int.tdiv_eq_ediv, if_neg, Int.sign_eq_one_of_pos (by omega)]
      rintro (h | h)
      · exact ha h
      · exact hd (Int.emod_eq_zero_of_dvd h)

noncomputable def cFlU : Ctr := fun ss => match ss with
  | [.agg [.d (.x (.int .i64 a)), .d (.x (.int .i64 b))]] => .need (VF a b) (.ret (iv (a / b)))
  | _ => .fail
theorem ediv_bound {a b : Int} (hb : 1 ≤ b) (ha : a.natAbs ≤ 4611686018427387904) : -4611686018427387904 ≤ a / b ∧ a / b ≤ 4611686018427387904 := by
  constructor
  · have : (-4611686018427387904 : Int) ≤ a / b := by
      rw [Int.le_ediv_iff_mul_le (by omega)]
      have : (4611686018427387904 : Int) ≤ 4611686018427387904 * b := by omega
      omega
    exact this
  · have : a / b < 4611686018427387905 := Int.ediv_lt_of_lt_mul (by omega) (by omega)
    omega
theorem cFlU_ok : CtrOK Try.prog 89 cFlU := by
  refine ctrOK_leS C0_ok D0_ok (by kernel_rfl) (by kernel_rfl) fun ss r h => ?_
  unfold cFlU at h
  split at h
  · rename_i a b
    obtain ⟨h1, rfl⟩ := h
    refine ⟨[.agg [iv a, iv b]], 200, .nil, by simp [leSVs, leSV, iv, leD], Sat.of_eq (LFlU_eq a b) ⟨?_⟩⟩
    unfold LFlU
    have hp := h1.low.pos
    have hn := h1.n
    have hd := h1.d
    obtain ⟨b1, b2⟩ := ediv_bound hp hn
    refine ⟨by omega, ?_⟩
    rcases tdiv_cases (a := a) hp with ⟨⟨e1, e2, e3⟩, e4⟩ | ⟨e0, e1, e2, e3⟩
    · rw [e1, w64_of (n := a / b) (by omega) (by omega), w64_of (n := a / b * b) (by omega) (by omega), w64_of (n := a / b - 1) (by omega) (by omega)]
      refine ⟨fun h => ?_, fun h => rfl⟩
      have h := of_decide_eq_true h
      omega
    · have e5 : (a / b + 1) * b = a / b * b + b := by rw [Int.add_mul, Int.one_mul]
      rw [e1, w64_of (n := a / b + 1) (by omega) (by omega), w64_of (n := (a / b + 1) * b) (by omega) (by omega), w64_of (n := a / b + 1 - 1) (by omega) (by omega)]
      refine ⟨fun h => ?_, fun h => ?_⟩
      · rw [show a / b + 1 - 1 = a / b by omega]; exact rfl
      · have h := of_decide_eq_false h
        omega
  · exact h.elim
end Go.Proofs.Ytcbjclmjkilphaa.Fr

namespace Go.Proofs.Ytcbjclmjkilphaa
open Go.Sx
set_option maxRecDepth 100000

theorem mixed : Try.prog.follows .mixedOrders = true := by kernel_rfl

/-! ### R44.Made -/

noncomputable def C0 : Ctx := ctxN Try.prog (fun _ => none) (fun _ => false) 200 .nil 6
theorem C0_ok : CtxOK Try.prog C0 := ctxN_ok mixed (fun k c h => by cases h) 6
noncomputable def D0 : Dr := fun _ => drawn Try.prog C0
theorem D0_ok : DrOK Try.prog C0 D0 := drawn_ok C0_ok mixed

noncomputable def mRoots : List (Root × Nat) := [(.cell (.base 2) 4, 6), (.cell (.base 2) 5, 7)]

noncomputable def mInv (lo wi st er : Int) (n : Nat) (B : Nat → Int) (dlo dhi dst der f i : Int) (np nl : Nat) (p l : Nat → Int) : AS :=
  ⟨[.unk, .ok (.ptr 0 0), .ok (.ptr 1 0), .unk, .ok (.ptr 2 0), .ok (iv f), .ok (iv i)] ++ List.replicate 98 .unk,
   [some (.cells [u8 lo, u8 wi, u8 st, u8 er, ro8 n B]), some (.cells [iv 0, iv 0, iv 0, iv 0, .d (.x (.slice none 0 0)), .d (.x (.slice none 0 0))]), some (.cells [iv dlo, iv dhi, iv dst, iv der, .row 6 0 0 np 1, .row 7 0 0 nl 1]),
    none, none, none, some (row64 np p), some (row64 nl l)], 8, .nil⟩

noncomputable def mGc (st : AS) : Option AS := gcA 6 mRoots [1, 2, 4, 5, 6] [] 8 .nil st
noncomputable def mB : Code := loopN (bodyOf Try.prog 28) 0
noncomputable def mArgs (lo wi st er : Int) (n : Nat) (B : Nat → Int) : List SV := [.agg [u8 lo, u8 wi, u8 st, u8 er, ro8 n B]]
noncomputable def mT (lo wi st er : Int) (n : Nat) (B : Nat → Int) : Tree SV := fnT Try.prog C0 D0 200 (fnOf Try.prog 28) (bodyOf Try.prog 28) (mArgs lo wi st er n B) .nil

noncomputable def fW (f b s : Int) : Int := w64 (w64 (f + Int.tmod (w64 b) (w64 (w64 (2 * s) + 1))) - s)
noncomputable def fN (f b s : Int) : Int := if fW f b s > 1 then fW f b s else 1
noncomputable def lN (f b s : Int) : Int := w64 (w64 (f + Int.tmod (w64 b) (w64 (w64 (2 * s) + 1))) - s)

theorem mBody (lo wi st er : Int) (n : Nat) (B : Nat → Int) (dlo dhi dst der f i : Int) (np nl : Nat) (p l : Nat → Int) :
    cutT 6 mRoots [1, 2, 4, 5, 6] [] 8 .nil (exec Try.prog C0 D0 200 mB (mInv lo wi st er n B dlo dhi dst der f i np nl p l)) =
    .ite (decide (w64 (i + 1) < n) && decide (i < 24))
      (.need (0 ≤ i ∧ i < n) (.need (w64 (w64 (2 * dst) + 1) ≠ 0) (.need (0 + np ≤ np ∧ 0 + (0 + 1) * 1 ≤ 1 ∧ (np + 1) * 8 ≤ 140737488355328)
        (.need (0 ≤ w64 (i + 1) ∧ w64 (i + 1) < n) (.need (w64 (w64 (2 * der) + 1) ≠ 0) (.need (0 + nl ≤ nl ∧ 0 + (0 + 1) * 1 ≤ 1 ∧ (nl + 1) * 8 ≤ 140737488355328)
          (.ret (.normal, mInv lo wi st er n B dlo dhi dst der (fN f (B i.toNat) dst) (w64 (i + 2)) (np + 1) (nl + 1) (fun a => bif decide (a < np) then p (0 + a) else fN f (B i.toNat) dst)
            (fun a => bif decide (a < nl) then l (0 + a) else lN (fN f (B i.toNat) dst) (B (w64 (i + 1)).toNat) der)))))))))
      (.ret (.exit 0, mInv lo wi st er n B dlo dhi dst der f i np nl p l)) := by kernel_rfl

theorem mCut (lo wi st er : Int) (n : Nat) (B : Nat → Int) : mT lo wi st er n B =
    .need (40 ≠ (0 : Int)) (.need (8 ≠ (0 : Int)) (.need (6 ≠ (0 : Int)) (.need (6 ≠ (0 : Int)) (.need (8 ≠ (0 : Int)) (.need (w64 (1 + w64 (wi.tmod 8)) ≠ 0) (.code (.loop mB) (codeS (mT lo wi st er n B)) (codeK (mT lo wi st er n B)))))))) := by kernel_rfl

theorem mIn (lo wi st er : Int) (n : Nat) (B : Nat → Int) : mGc (codeS (mT lo wi st er n B)) = some
    ⟨[.unk, .ok (.ptr 0 0), .ok (.ptr 1 0), .unk, .ok (.ptr 2 0), .ok (iv (w64 (w64 (1 + w64 (lo.tmod 40)) + (w64 lo).tmod (w64 (1 + w64 (wi.tmod 8)))))), .ok (iv 0)] ++ List.replicate 98 .unk,
     [some (.cells [u8 lo, u8 wi, u8 st, u8 er, ro8 n B]), some (.cells [iv 0, iv 0, iv 0, iv 0, .d (.x (.slice none 0 0)), .d (.x (.slice none 0 0))]),
      some (.cells [iv (w64 (1 + w64 (lo.tmod 40))), iv (w64 (w64 (1 + w64 (lo.tmod 40)) + w64 (wi.tmod 8))), iv (w64 (st.tmod 6)), iv (w64 (er.tmod 6)), .row 6 0 0 1 1, .d (.x (.slice none 0 0))]),
      none, none, none, some (.cells [iv (w64 (w64 (1 + w64 (lo.tmod 40)) + (w64 lo).tmod (w64 (1 + w64 (wi.tmod 8)))))]), none], 8, .nil⟩ := by kernel_rfl

theorem mNext (lo wi st er : Int) (n : Nat) (B : Nat → Int) : (codeS (mT lo wi st er n B)).next = 6 := by kernel_rfl

theorem mOut (lo wi st er : Int) (n : Nat) (B : Nat → Int) (dlo dhi dst der f i : Int) (np nl : Nat) (p l : Nat → Int) : codeK (mT lo wi st er n B) (.exit 0) (mInv lo wi st er n B dlo dhi dst der f i np nl p l) =
    .need (0 + np ≤ np) (.need (0 + nl ≤ nl) (.ret (.agg [iv dlo, iv dhi, iv dst, iv der, ro64 np fun a => p (0 + a), ro64 nl fun a => l (0 + a)]))) := by kernel_rfl

end Go.Proofs.Ytcbjclmjkilphaa

namespace Go.Proofs.Ytcbjclmjkilphaa
open Go.Sx
set_option maxRecDepth 100000

theorem w64_of {n : Int} (h1 : -9223372036854775808 ≤ n) (h2 : n ≤ 9223372036854775807) : w64 n = n := by
  unfold w64 IntKind.wrap
  simp [IntKind.signed, IntKind.bits]
  omega

def sLo (lo : Int) : Int := 1 + lo % 40
def sHi (lo wi : Int) : Int := sLo lo + wi % 8
def f0 (lo wi : Int) : Int := sLo lo + lo % (1 + wi % 8)
def fNx (f b s : Int) : Int := max 1 (f + b % (2 * s + 1) - s)
def lNx (f b s : Int) : Int := f + b % (2 * s + 1) - s
def fS (lo wi s : Int) (B : Nat → Int) : Nat → Int
  | 0 => f0 lo wi
  | k + 1 => fNx (fS lo wi s B k) (B (2 * k)) s
def lS (lo wi s e : Int) (B : Nat → Int) (k : Nat) : Int := lNx (fS lo wi s B (k + 1)) (B (2 * k + 1)) e
def kS (n : Nat) : Nat := min 12 (n / 2)

theorem f0_b {lo wi : Int} (h1 : 0 ≤ lo) (h2 : 0 ≤ wi) : 1 ≤ f0 lo wi ∧ f0 lo wi ≤ 47 := by
  unfold f0 sLo
  have := Int.emod_nonneg lo (show 1 + wi % 8 ≠ 0 by omega)
  have := Int.emod_lt_of_pos lo (show 0 < 1 + wi % 8 by omega)
  omega

theorem fNx_b {f b s : Int} (hs : 0 ≤ s ∧ s ≤ 5) : f - s ≤ fNx f b s ∧ 1 ≤ fNx f b s ∧ fNx f b s ≤ max 1 (f + s) := by
  unfold fNx
  have := Int.emod_nonneg b (show 2 * s + 1 ≠ 0 by omega)
  have := Int.emod_lt_of_pos b (show 0 < 2 * s + 1 by omega)
  omega

theorem fS_b {lo wi s : Int} {B : Nat → Int} (h1 : 0 ≤ lo) (h2 : 0 ≤ wi) (hs : 0 ≤ s ∧ s ≤ 5) : ∀ k, 1 ≤ fS lo wi s B k ∧ fS lo wi s B k ≤ 47 + 5 * k
  | 0 => by have := f0_b h1 h2; simp only [fS]; omega
  | k + 1 => by
    have ih := fS_b (B := B) h1 h2 hs k
    have := fNx_b (f := fS lo wi s B k) (b := B (2 * k)) hs
    simp only [fS]; omega

theorem tmod_lit {a : Int} (h : 0 ≤ a) (b : Int) : Int.tmod a b = a % b := Int.tmod_eq_emod_of_nonneg h

theorem fW_eq {f b s : Int} (hs : 0 ≤ s ∧ s ≤ 5) (hb : 0 ≤ b ∧ b < 256) (hf : 0 ≤ f ∧ f ≤ 1000) : fW f b s = f + b % (2 * s + 1) - s := by
  unfold fW
  have h1 := Int.emod_nonneg b (show 2 * s + 1 ≠ 0 by omega)
  have h2 := Int.emod_lt_of_pos b (show 0 < 2 * s + 1 by omega)
  rw [w64_of (n := b) (by omega) (by omega), w64_of (n := 2 * s) (by omega) (by omega), w64_of (n := 2 * s + 1) (by omega) (by omega), tmod_lit hb.1, w64_of (n := f + b % (2 * s + 1)) (by omega) (by omega), w64_of (by omega) (by omega)]

theorem fN_eq {f b s : Int} (hs : 0 ≤ s ∧ s ≤ 5) (hb : 0 ≤ b ∧ b < 256) (hf : 0 ≤ f ∧ f ≤ 1000) : fN f b s = fNx f b s := by
  unfold fN fNx
  rw [fW_eq hs hb hf]
  split <;> omega

theorem lN_eq {f b s : Int} (hs : 0 ≤ s ∧ s ≤ 5) (hb : 0 ≤ b ∧ b < 256) (hf : 0 ≤ f ∧ f ≤ 1000) : lN f b s = lNx f b s := fW_eq hs hb hf

theorem mInv_gc {lo wi st er : Int} {n : Nat} {B : Nat → Int} {dlo dhi dst der f i : Int} {np nl : Nat} {p l p' l' : Nat → Int} (hp : ∀ a, a < np → p a = p' a) (hl : ∀ a, a < nl → l a = l' a) :
    Gc 6 (mInv lo wi st er n B dlo dhi dst der f i np nl p l) (mInv lo wi st er n B dlo dhi dst der f i np nl p' l') := by
  refine gc_sound [(6, 6), (7, 7)] [] rfl ?_ ?_
  · simp [mInv, leTm, leTV, leSV, rn, iv, leD, List.replicate]
  · simp [mInv, leHp, leBlk, leSVs, leSV, rn, iv, u8, ro8, leD, srcOf, row64, hget]
    exact ⟨hp, hl⟩

noncomputable def madeR (lo wi st er : Int) (n : Nat) (B : Nat → Int) : SV :=
  .agg [iv (sLo lo), iv (sHi lo wi), iv (st % 6), iv (er % 6), ro64 (kS n + 1) (fS lo wi (st % 6) B), ro64 (kS n) (lS lo wi (st % 6) (er % 6) B)]

noncomputable def mAt (lo wi st er : Int) (n : Nat) (B : Nat → Int) (k : Nat) : AS :=
  mInv lo wi st er n B (sLo lo) (sHi lo wi) (st % 6) (er % 6) (fS lo wi (st % 6) B k) (2 * (k : Int)) (k + 1) k (fS lo wi (st % 6) B) (lS lo wi (st % 6) (er % 6) B)

theorem made_entry {lo wi st er : Int} {n : Nat} {B : Nat → Int} (h1 : 0 ≤ lo ∧ lo < 256) (h2 : 0 ≤ wi ∧ wi < 256) (h3 : 0 ≤ st ∧ st < 256) (h4 : 0 ≤ er ∧ er < 256) : Gc 6 (codeS (mT lo wi st er n B)) (mAt lo wi st er n B 0) := by
  refine (gcA_sound (mIn lo wi st er n B)).trans ?_
  have a1 := Int.emod_nonneg lo (show (40 : Int) ≠ 0 by omega)
  have e1 : w64 (1 + w64 (lo.tmod 40)) = sLo lo := by
    rw [tmod_lit h1.1, w64_of (n := lo % 40) (by omega) (by omega), w64_of (by omega) (by omega)]; rfl
  have e2 : w64 (wi.tmod 8) = wi % 8 := by rw [tmod_lit h2.1, w64_of (by omega) (by omega)]
  have e3 : w64 (st.tmod 6) = st % 6 := by rw [tmod_lit h3.1, w64_of (by omega) (by omega)]
  have e4 : w64 (er.tmod 6) = er % 6 := by rw [tmod_lit h4.1, w64_of (by omega) (by omega)]
  have hs : sLo lo = 1 + lo % 40 := rfl
  have e5 : w64 (sLo lo + wi % 8) = sHi lo wi := by rw [w64_of (by omega) (by omega)]; rfl
  have e6 : w64 (1 + wi % 8) = 1 + wi % 8 := w64_of (by omega) (by omega)
  have e7 : w64 (sLo lo + (w64 lo).tmod (1 + wi % 8)) = f0 lo wi := by
    have b1 := Int.emod_nonneg lo (show 1 + wi % 8 ≠ 0 by omega)
    have b2 := Int.emod_lt_of_pos lo (show 0 < 1 + wi % 8 by omega)
    rw [w64_of (n := lo) (by omega) (by omega), tmod_lit h1.1, w64_of (by omega) (by omega)]; rfl
  rw [e1, e2, e3, e4, e5, e6, e7]
  refine gc_sound [(6, 6)] [7] rfl ?_ ?_
  · simp [mAt, mInv, leTm, leTV, leSV, rn, iv, leD, List.replicate, fS]
  · simp [mAt, mInv, leHp, leBlk, leSVs, leSV, rn, iv, u8, ro8, leD, srcOf, row64, hget, fS]

theorem made_sat {lo wi st er : Int} {n : Nat} {B : Nat → Int} (h1 : 0 ≤ lo ∧ lo < 256) (h2 : 0 ≤ wi ∧ wi < 256) (h3 : 0 ≤ st ∧ st < 256) (h4 : 0 ≤ er ∧ er < 256) (hB : ∀ i, i < n → 0 ≤ B i ∧ B i < 256) (hn : n ≤ maxLen) :
    (mT lo wi st er n B).sat Try.prog (· = madeR lo wi st er n B) := by
  rw [mCut]
  have e2 : w64 (1 + w64 (wi.tmod 8)) = 1 + wi % 8 := by rw [tmod_lit h2.1, w64_of (n := wi % 8) (by omega) (by omega), w64_of (by omega) (by omega)]
  refine ⟨by decide, by decide, by decide, by decide, by decide, by rw [e2]; omega, fun e s => e = .exit 0 ∧ s = mAt lo wi st er n B (kS n), ?_, ?_⟩
  · refine loop_sat C0_ok D0_ok (n := 200) (n0 := 6) (nx := 8) (roots := mRoots) (keep := [1, 2, 4, 5, 6]) (drop := []) (h := .nil) (mNext lo wi st er n B) (fun m s => ∃ k, m = 12 - k ∧ k ≤ kS n ∧ s = mAt lo wi st er n B k) ⟨12, _, ⟨0, rfl, Nat.zero_le _, rfl⟩, made_entry h1 h2 h3 h4⟩ ?_
    rintro m s ⟨k, rfl, hk, rfl⟩
    have hbody : cutT 6 mRoots [1, 2, 4, 5, 6] [] 8 .nil (exec Try.prog C0 D0 200 mB (mAt lo wi st er n B k)) = _ := mBody lo wi st er n B (sLo lo) (sHi lo wi) (st % 6) (er % 6) (fS lo wi (st % 6) B k) (2 * (k : Int)) (k + 1) k (fS lo wi (st % 6) B) (lS lo wi (st % 6) (er % 6) B)
    have hkn : kS n ≤ 12 ∧ 2 * kS n ≤ n := by unfold kS; omega
    rw [hbody]
    have hml : (n : Int) ≤ 9223372036854775807 := by have : maxLen = 9223372036854775807 := rfl; omega
    have w1 : w64 (2 * (k : Int) + 1) = 2 * (k : Int) + 1 := w64_of (by omega) (by omega)
    have w2 : w64 (2 * (k : Int) + 2) = 2 * ((k + 1 : Nat) : Int) := by rw [w64_of (by omega) (by omega)]; omega
    have t1 : (2 * (k : Int)).toNat = 2 * k := by omega
    have t2 : (2 * (k : Int) + 1).toNat = 2 * k + 1 := by omega
    rw [w1, w2, t1, t2]
    have hs : 0 ≤ st % 6 ∧ st % 6 ≤ 5 := by omega
    have he : 0 ≤ er % 6 ∧ er % 6 ≤ 5 := by omega
    refine ⟨fun hc => ?_, fun hc => ?_⟩
    · simp only [Bool.and_eq_true, decide_eq_true_eq] at hc
      have hk1 : k + 1 ≤ kS n := by unfold kS; omega
      have b1 := hB (2 * k) (by omega)
      have b2 := hB (2 * k + 1) (by omega)
      have f1 := fS_b (B := B) h1.1 h2.1 hs k
      have f2 := fS_b (B := B) h1.1 h2.1 hs (k + 1)
      have g1 : fN (fS lo wi (st % 6) B k) (B (2 * k)) (st % 6) = fS lo wi (st % 6) B (k + 1) := fN_eq hs b1 (by omega)
      have g2 : lN (fS lo wi (st % 6) B (k + 1)) (B (2 * k + 1)) (er % 6) = lS lo wi (st % 6) (er % 6) B k := lN_eq he b2 (by omega)
      rw [g1, g2]
      refine ⟨by omega, ?_, ⟨by omega, by omega, by omega⟩, by omega, ?_, ⟨by omega, by omega, by omega⟩, _, mAt lo wi st er n B (k + 1), (?_ : 12 - (k + 1) < 12 - k), ⟨k + 1, rfl, hk1, rfl⟩, mInv_gc (fun a ha => ?_) (fun a ha => ?_)⟩
      · rw [w64_of (n := 2 * (st % 6)) (by omega) (by omega), w64_of (by omega) (by omega)]; omega
      · rw [w64_of (n := 2 * (er % 6)) (by omega) (by omega), w64_of (by omega) (by omega)]; omega
      · omega
      · simp only [Nat.zero_add]
        by_cases h : a < k + 1
        · simp [h]
        · have : a = k + 1 := by omega
          subst this; simp
      · simp only [Nat.zero_add]
        by_cases h : a < k
        · simp [h]
        · have : a = k := by omega
          subst this; simp
    · simp only [Bool.and_eq_false_iff, decide_eq_false_iff_not] at hc
      have : k = kS n := by unfold kS at hk ⊢; omega
      have hg : Gc 6 (mAt lo wi st er n B k) (mAt lo wi st er n B (kS n)) := by rw [this]; exact Gc.refl _ _
      exact ⟨mAt lo wi st er n B (kS n), ⟨rfl, rfl⟩, hg⟩
  · intro e s hp
    have hout := mOut lo wi st er n B (sLo lo) (sHi lo wi) (st % 6) (er % 6) (fS lo wi (st % 6) B (kS n)) (2 * ((kS n : Nat) : Int)) (kS n + 1) (kS n) (fS lo wi (st % 6) B) (lS lo wi (st % 6) (er % 6) B)
    have hk : codeK (mT lo wi st er n B) e s = codeK (mT lo wi st er n B) (.exit 0) (mAt lo wi st er n B (kS n)) := by rw [hp.1, hp.2]
    rw [hk]
    unfold mAt
    rw [hout]
    exact ⟨by omega, by omega, by simp only [Nat.zero_add, Tree.sat]; rfl⟩

end Go.Proofs.Ytcbjclmjkilphaa

namespace Go.Proofs.Ytcbjclmjkilphaa
open Go.Sx
set_option maxRecDepth 100000

/-- The number in a cell. -/
def numOf : DV → Int | .x (.int _ n) => n | _ => 0

noncomputable def byteCell (cell : Nat → Nat → DV) : Nat → Int := fun i => numOf (cell i 0)

/-- R44.Made. -/
noncomputable def cMade : Ctr := fun ss => match ss with
  | [.agg [.d (.x (.int .u8 lo)), .d (.x (.int .u8 wi)), .d (.x (.int .u8 st)), .d (.x (.int .u8 er)), .d (.ro n 1 cell)]] =>
    .need ((0 ≤ lo ∧ lo < 256) ∧ (0 ≤ wi ∧ wi < 256) ∧ (0 ≤ st ∧ st < 256) ∧ (0 ≤ er ∧ er < 256) ∧ n ≤ maxLen ∧ ∀ i, i < n → ∃ b, cell i 0 = .x (.int .u8 b) ∧ 0 ≤ b ∧ b < 256) (.ret (madeR lo wi st er n (byteCell cell)))
  | _ => .fail

theorem cMade_ok : CtrOK Try.prog 28 cMade := by
  refine ctrOK_le C0_ok D0_ok (by kernel_rfl) (by kernel_rfl) fun ss r h => ?_
  unfold cMade at h
  split at h
  · rename_i lo wi st er n cell
    obtain ⟨⟨h1, h2, h3, h4, hn, hb⟩, rfl⟩ := h
    refine ⟨mArgs lo wi st er n (byteCell cell), 200, .nil, ?_, made_sat h1 h2 h3 h4 (fun i hi => ?_) hn⟩
    · have : ∀ i j, i < n → j < 1 → cell i j = .x (.int .u8 (byteCell cell i)) := by
        intro i j hi hj
        obtain rfl : j = 0 := by omega
        obtain ⟨b, e, _⟩ := hb i hi
        simp [byteCell, e, numOf]
      simp only [mArgs, leSVs, leSV, u8, ro8, leD, and_true, true_and]
      exact this
    · obtain ⟨b, e, h⟩ := hb i hi
      simpa [byteCell, e, numOf] using h
  · exact h.elim

end Go.Proofs.Ytcbjclmjkilphaa

namespace Go.Proofs.Ytcbjclmjkilphaa
open Go.Sx
set_option maxRecDepth 100000

noncomputable def mon (lo hi st er le mo : Int) (sp : Bool) : SV := .agg [iv lo, iv hi, iv st, iv er, iv le, iv mo, bv sp]

/-! ### examples -/

noncomputable def cEx : Ctr := fun ss => match ss with
  | [] => .ret (bv true)
  | _ => .fail

noncomputable def CX : Ctx := ctxN Try.prog (fun _ => none) (fun _ => false) 200 .run 6
theorem CX_ok : CtxOK Try.prog CX := ctxN_ok mixed (fun k c h => by cases h) 6

theorem ex_run : autoC Try.prog CX 200 14 .run [] = .ret (bv true) := by kernel_rfl

theorem cEx_ok : CtrOK Try.prog 14 cEx := by
  refine (autoC_ok CX_ok mixed 200 14 .run).mono fun ss r h => ?_
  unfold cEx at h
  split at h
  · rw [ex_run]; exact h
  · exact h.elim

/-! ### R45.Made -/

noncomputable def man1 : FuncId → Option Ctr := fun k => if k = 28 then some cMade else none
noncomputable def C1 : Ctx := ctxN Try.prog man1 (fun _ => false) 200 .nil 6
theorem C1_ok : CtxOK Try.prog C1 := ctxN_ok mixed (fun k c h => by
  unfold man1 at h
  split at h
  · rename_i e; cases h; subst e; exact ⟨cMade_ok, by kernel_rfl⟩
  · cases h) 6
noncomputable def D1 : Dr := fun _ => drawn Try.prog C1
theorem D1_ok : DrOK Try.prog C1 D1 := drawn_ok C1_ok mixed

def oLo (lo st : Int) : Int := max 1 (lo - st)
def inR (lo hi st le mo : Int) : Bool := decide (le ≤ oLo lo st) && decide (hi + st ≤ mo)
noncomputable def mLe (lo be : Int) : Int := max 1 (sLo lo - be % 30)
noncomputable def mMo (lo wi ov : Int) : Int := sHi lo wi + ov % 30
noncomputable def monR (lo wi st er be ov : Int) : SV := mon (sLo lo) (sHi lo wi) (st % 6) (er % 6) (mLe lo be) (mMo lo wi ov) (!inR (sLo lo) (sHi lo wi) (st % 6) (mLe lo be) (mMo lo wi ov))

noncomputable def m5T (lo wi st er be ov : Int) (n : Nat) (cell : Nat → Nat → DV) : Tree SV := fnT Try.prog C1 D1 200 (fnOf Try.prog 15) (bodyOf Try.prog 15) [.agg [u8 lo, u8 wi, u8 st, u8 er, .d (.ro n 1 cell), u8 be, u8 ov]] .nil

noncomputable def m5X (lo wi st er be ov : Int) (n : Nat) (cell : Nat → Nat → DV) : Tree SV :=
  .need ((0 ≤ lo ∧ lo < 256) ∧ (0 ≤ wi ∧ wi < 256) ∧ (0 ≤ st ∧ st < 256) ∧ (0 ≤ er ∧ er < 256) ∧ n ≤ 9223372036854775807 ∧ ∀ (i : Nat), i < n → ∃ b, cell i 0 = .x (Value.int IntKind.u8 b) ∧ 0 ≤ b ∧ b < 256)
  (.need (30 ≠ (0 : Int))
   (.need (30 ≠ (0 : Int))
   (.ite
   (decide ((if w64 (sLo lo - w64 (Int.tmod be 30)) > 1 then w64 (sLo lo - w64 (Int.tmod be 30)) else 1) < 1) ||
   decide (w64 (sHi lo wi + w64 (Int.tmod ov 30)) < if w64 (sLo lo - w64 (Int.tmod be 30)) > 1 then w64 (sLo lo - w64 (Int.tmod be 30)) else 1) ||
   decide (w64 (sHi lo wi + w64 (Int.tmod ov 30)) > 1000000) ||
   decide (sLo lo < 1) ||
   decide (sHi lo wi < sLo lo) ||
   decide (sHi lo wi > 1000000))
   (.ite true (.ret (.agg [iv 0, iv 0, iv 0, iv 0, iv 0, iv 0, bv false]))
   (.ret
   (.agg
   [iv (sLo lo), iv (sHi lo wi), iv (st % 6), iv (er % 6), iv (if w64 (sLo lo - w64 (Int.tmod be 30)) > 1 then w64 (sLo lo - w64 (Int.tmod be 30)) else 1), iv (w64 (sHi lo wi + w64 (Int.tmod ov 30))),
   bv
   !(decide ((if w64 (sLo lo - st % 6) > 1 then w64 (sLo lo - st % 6) else 1) ≥ if w64 (sLo lo - w64 (Int.tmod be 30)) > 1 then w64 (sLo lo - w64 (Int.tmod be 30)) else 1) &&
   decide (w64 (sHi lo wi + st % 6) ≤ w64 (sHi lo wi + w64 (Int.tmod ov 30))))])))
   (.ite (decide (st % 6 < 0) || decide (st % 6 > 1000000) || decide (er % 6 < 0) || decide (er % 6 > 1000000))
   (.ite true (.ret (.agg [iv 0, iv 0, iv 0, iv 0, iv 0, iv 0, bv false]))
   (.ret
   (.agg
   [iv (sLo lo), iv (sHi lo wi), iv (st % 6), iv (er % 6), iv (if w64 (sLo lo - w64 (Int.tmod be 30)) > 1 then w64 (sLo lo - w64 (Int.tmod be 30)) else 1), iv (w64 (sHi lo wi + w64 (Int.tmod ov 30))),
   bv
   !(decide ((if w64 (sLo lo - st % 6) > 1 then w64 (sLo lo - st % 6) else 1) ≥ if w64 (sLo lo - w64 (Int.tmod be 30)) > 1 then w64 (sLo lo - w64 (Int.tmod be 30)) else 1) &&
   decide (w64 (sHi lo wi + st % 6) ≤ w64 (sHi lo wi + w64 (Int.tmod ov 30))))])))
   (.ite
   (!(true ||
   decide ((if w64 (sLo lo - st % 6) > 1 then w64 (sLo lo - st % 6) else 1) ≥ if w64 (sLo lo - w64 (Int.tmod be 30)) > 1 then w64 (sLo lo - w64 (Int.tmod be 30)) else 1) &&
   decide (w64 (sHi lo wi + st % 6) ≤ w64 (sHi lo wi + w64 (Int.tmod ov 30)))))
   (.ret (.agg [iv 0, iv 0, iv 0, iv 0, iv 0, iv 0, bv false]))
   (.ret
   (.agg
   [iv (sLo lo), iv (sHi lo wi), iv (st % 6), iv (er % 6), iv (if w64 (sLo lo - w64 (Int.tmod be 30)) > 1 then w64 (sLo lo - w64 (Int.tmod be 30)) else 1), iv (w64 (sHi lo wi + w64 (Int.tmod ov 30))),
   bv
   !(decide ((if w64 (sLo lo - st % 6) > 1 then w64 (sLo lo - st % 6) else 1) ≥ if w64 (sLo lo - w64 (Int.tmod be 30)) > 1 then w64 (sLo lo - w64 (Int.tmod be 30)) else 1) &&
   decide (w64 (sHi lo wi + st % 6) ≤ w64 (sHi lo wi + w64 (Int.tmod ov 30))))])))))))

theorem m5X_eq (lo wi st er be ov : Int) (n : Nat) (cell : Nat → Nat → DV) : m5T lo wi st er be ov n cell = m5X lo wi st er be ov n cell := by kernel_rfl

theorem mx {a : Int} : (if a > 1 then a else 1) = max 1 a := by omega

theorem m5_sat {lo wi st er be ov : Int} {n : Nat} {cell : Nat → Nat → DV} (h1 : 0 ≤ lo ∧ lo < 256) (h2 : 0 ≤ wi ∧ wi < 256) (h3 : 0 ≤ st ∧ st < 256) (h4 : 0 ≤ er ∧ er < 256) (hn : n ≤ maxLen) (hB : ∀ i, i < n → ∃ b, cell i 0 = .x (.int .u8 b) ∧ 0 ≤ b ∧ b < 256)
    (h5 : 0 ≤ be ∧ be < 256) (h6 : 0 ≤ ov ∧ ov < 256) :
    (m5T lo wi st er be ov n cell).sat Try.prog (· = monR lo wi st er be ov) := by
  have a1 : 1 ≤ sLo lo ∧ sLo lo ≤ 40 := by unfold sLo; omega
  have a2 : sLo lo ≤ sHi lo wi ∧ sHi lo wi ≤ 47 := by unfold sHi; omega
  have e1 : w64 (Int.tmod be 30) = be % 30 := by rw [tmod_lit h5.1, w64_of (by omega) (by omega)]
  have e2 : w64 (Int.tmod ov 30) = ov % 30 := by rw [tmod_lit h6.1, w64_of (by omega) (by omega)]
  have e3 : w64 (sLo lo - be % 30) = sLo lo - be % 30 := w64_of (by omega) (by omega)
  have e4 : w64 (sHi lo wi + ov % 30) = sHi lo wi + ov % 30 := w64_of (by omega) (by omega)
  have e5 : w64 (sLo lo - st % 6) = sLo lo - st % 6 := w64_of (by omega) (by omega)
  have e6 : w64 (sHi lo wi + st % 6) = sHi lo wi + st % 6 := w64_of (by omega) (by omega)
  rw [m5X_eq]
  unfold m5X
  simp only [e1, e2, e3, e4, e5, e6, mx]
  refine ⟨⟨h1, h2, h3, h4, hn, hB⟩, by decide, by decide, ?_⟩
  rw [show (decide (max 1 (sLo lo - be % 30) < 1) || decide (sHi lo wi + ov % 30 < max 1 (sLo lo - be % 30)) || decide (sHi lo wi + ov % 30 > 1000000) || decide (sLo lo < 1) || decide (sHi lo wi < sLo lo) || decide (sHi lo wi > 1000000)) = false by simp; omega,
    show (decide (st % 6 < 0) || decide (st % 6 > 1000000) || decide (er % 6 < 0) || decide (er % 6 > 1000000)) = false by simp; omega]
  simp [Tree.sat, monR, mon, mLe, mMo, inR, oLo]
  rfl

/-- R45.Made. -/
noncomputable def cM45 : Ctr := fun ss => match ss with
  | [.agg [.d (.x (.int .u8 lo)), .d (.x (.int .u8 wi)), .d (.x (.int .u8 st)), .d (.x (.int .u8 er)), .d (.ro n 1 cell), .d (.x (.int .u8 be)), .d (.x (.int .u8 ov))]] =>
    .need ((0 ≤ lo ∧ lo < 256) ∧ (0 ≤ wi ∧ wi < 256) ∧ (0 ≤ st ∧ st < 256) ∧ (0 ≤ er ∧ er < 256) ∧ n ≤ maxLen ∧ (∀ i, i < n → ∃ b, cell i 0 = .x (.int .u8 b) ∧ 0 ≤ b ∧ b < 256) ∧ (0 ≤ be ∧ be < 256) ∧ (0 ≤ ov ∧ ov < 256)) (.ret (monR lo wi st er be ov))
  | _ => .fail

theorem cM45_ok : CtrOK Try.prog 15 cM45 := by
  refine ctrOK_of C1_ok D1_ok (fn := fnOf Try.prog 15) (body := bodyOf Try.prog 15) (by kernel_rfl) (by kernel_rfl) fun ss r h => ?_
  unfold cM45 at h
  split at h
  · rename_i lo wi st er n cell be ov
    obtain ⟨⟨h1, h2, h3, h4, hn, hb, h5, h6⟩, rfl⟩ := h
    exact ⟨200, .nil, m5_sat h1 h2 h3 h4 hn hb h5 h6⟩
  · exact h.elim

end Go.Proofs.Ytcbjclmjkilphaa

namespace Go.Proofs.Ytcbjclmjkilphaa
open Go.Sx
set_option maxRecDepth 100000

noncomputable def T1 (k : Nat) (args : List SV) : Tree SV := fnT Try.prog C1 D1 200 (fnOf Try.prog k) (bodyOf Try.prog k) args .nil

structure okM (lo hi st er le mo : Int) : Prop where
  le : 1 ≤ le ∧ le ≤ mo ∧ mo ≤ 1000000
  lo : 1 ≤ lo ∧ lo ≤ hi ∧ hi ≤ 1000000
  st : 0 ≤ st ∧ st ≤ 1000000
  er : 0 ≤ er ∧ er ≤ 1000000

def okB (lo hi st er le mo : Int) : Bool := decide ((1 ≤ le ∧ le ≤ mo ∧ mo ≤ 1000000) ∧ (1 ≤ lo ∧ lo ≤ hi ∧ hi ≤ 1000000) ∧ (0 ≤ st ∧ st ≤ 1000000) ∧ 0 ≤ er ∧ er ≤ 1000000)
theorem okB_iff {lo hi st er le mo : Int} : okB lo hi st er le mo = true ↔ okM lo hi st er le mo := by
  unfold okB; rw [decide_eq_true_eq]
  exact ⟨fun ⟨a, b, c, d⟩ => ⟨a, b, c, d⟩, fun ⟨a, b, c, d⟩ => ⟨a, b, c, d⟩⟩

def vB (lo hi st er le mo : Int) (sp : Bool) : Bool := okB lo hi st er le mo && (sp || inR lo hi st le mo)

def okV (lo hi st er le mo : Int) (sp : Bool) : Prop := vB lo hi st er le mo sp = true
theorem okV.m {lo hi st er le mo : Int} {sp : Bool} (h : okV lo hi st er le mo sp) : okM lo hi st er le mo := by
  unfold okV vB at h; rw [Bool.and_eq_true] at h; exact okB_iff.1 h.1
theorem inR_iff {lo hi st le mo : Int} : inR lo hi st le mo = true ↔ le ≤ oLo lo st ∧ hi + st ≤ mo := by simp [inR]
theorem okV.r {lo hi st er le mo : Int} (h : okV lo hi st er le mo false) : le ≤ oLo lo st ∧ hi + st ≤ mo := by
  unfold okV vB at h; rw [Bool.and_eq_true] at h; exact inR_iff.1 (by simpa using h.2)

/-- Whether a reading agrees, and what a reading and a missing one make. -/
def gB (lo hi st er r : Int) : Bool := decide (-4000000 ≤ r ∧ r ≤ 4000000 ∧ max (oLo lo st) (r - er) ≤ min (hi + st) (r + er))
def vLo (lo hi st er : Int) (sp : Bool) (r : Int) : Int := if sp = false ∧ gB lo hi st er r = true then max (oLo lo st) (r - er) else lo
def vHi (lo hi st er : Int) (sp : Bool) (r : Int) : Int := if sp = false ∧ gB lo hi st er r = true then min (hi + st) (r + er) else hi
def vSp (lo hi st er le mo : Int) (sp : Bool) (r : Int) : Bool := sp || !gB lo hi st er r || !inR (max (oLo lo st) (r - er)) (min (hi + st) (r + er)) st le mo
def uLo (lo st : Int) (sp : Bool) : Int := if sp = false then oLo lo st else lo
def uHi (hi st : Int) (sp : Bool) : Int := if sp = false then hi + st else hi
def uSp (lo hi st le mo : Int) (sp : Bool) : Bool := sp || !inR (oLo lo st) (hi + st) st le mo

theorem mon_ext {a b c d e f a' b' : Int} {g g' : Bool} (h1 : a = a') (h2 : b = b') (h3 : g = g') : mon a b c d e f g = mon a' b' c d e f g' := by rw [h1, h2, h3]

noncomputable def X11 (lo hi st er le mo : Int) (sp : Bool) : Tree SV :=
  .ret
  (bv
    (decide (1 ≤ le) && decide (le ≤ mo) && decide (mo ≤ 1000000) && decide (1 ≤ lo) && decide (lo ≤ hi) && decide (hi ≤ 1000000) && (decide (0 ≤ st) && decide (st ≤ 1000000) && decide (0 ≤ er) && decide (er ≤ 1000000)) &&
      (sp || decide ((if w64 (lo - st) > 1 then w64 (lo - st) else 1) ≥ le) && decide (w64 (hi + st) ≤ mo))))

theorem X11_eq (lo hi st er le mo : Int) (sp : Bool) : T1 16 [mon lo hi st er le mo sp] = X11 lo hi st er le mo sp := by kernel_rfl

noncomputable def X12 (lo hi st er le mo : Int) (sp : Bool) : Tree SV :=
  .ite (decide (le < 1) || decide (mo < le) || decide (mo > 1000000) || decide (lo < 1) || decide (hi < lo) || decide (hi > 1000000)) (.ret (bv false))
  (.ite (decide (st < 0) || decide (st > 1000000) || decide (er < 0) || decide (er > 1000000)) (.ret (bv false)) (.ret (bv (sp || decide ((if w64 (lo - st) > 1 then w64 (lo - st) else 1) ≥ le) && decide (w64 (hi + st) ≤ mo)))))

theorem X12_eq (lo hi st er le mo : Int) (sp : Bool) : T1 17 [mon lo hi st er le mo sp] = X12 lo hi st er le mo sp := by kernel_rfl

noncomputable def X13 (lo hi st er le mo : Int) (sp : Bool) : Tree SV :=
  .ite
  (!(decide (1 ≤ le) && decide (le ≤ mo) && decide (mo ≤ 1000000) && decide (1 ≤ lo) && decide (lo ≤ hi) && decide (hi ≤ 1000000) && (decide (0 ≤ st) && decide (st ≤ 1000000) && decide (0 ≤ er) && decide (er ≤ 1000000)) &&
      (true || decide ((if w64 (lo - st) > 1 then w64 (lo - st) else 1) ≥ le) && decide (w64 (hi + st) ≤ mo))))
  (.ret (.agg [iv 0, iv 0, iv 0, iv 0, iv 0, iv 0, bv false, iv 1]))
  (.ret (.agg [iv lo, iv hi, iv st, iv er, iv le, iv mo, bv !(decide ((if w64 (lo - st) > 1 then w64 (lo - st) else 1) ≥ le) && decide (w64 (hi + st) ≤ mo)), iv 0]))

theorem X13_eq (lo hi st er le mo : Int) (sp : Bool) : T1 18 [mon lo hi st er le mo sp] = X13 lo hi st er le mo sp := by kernel_rfl

noncomputable def X14 (lo hi st er le mo : Int) (sp : Bool) : Tree SV :=
  .ite (decide (le < 1) || decide (mo < le) || decide (mo > 1000000) || decide (lo < 1) || decide (hi < lo) || decide (hi > 1000000))
  (.ite true (.ret (.agg [iv 0, iv 0, iv 0, iv 0, iv 0, iv 0, bv false, iv 1]))
    (.ret (.agg [iv lo, iv hi, iv st, iv er, iv le, iv mo, bv !(decide ((if w64 (lo - st) > 1 then w64 (lo - st) else 1) ≥ le) && decide (w64 (hi + st) ≤ mo)), iv 0])))
  (.ite (decide (st < 0) || decide (st > 1000000) || decide (er < 0) || decide (er > 1000000))
    (.ite true (.ret (.agg [iv 0, iv 0, iv 0, iv 0, iv 0, iv 0, bv false, iv 1]))
      (.ret (.agg [iv lo, iv hi, iv st, iv er, iv le, iv mo, bv !(decide ((if w64 (lo - st) > 1 then w64 (lo - st) else 1) ≥ le) && decide (w64 (hi + st) ≤ mo)), iv 0])))
    (.ite (!(true || decide ((if w64 (lo - st) > 1 then w64 (lo - st) else 1) ≥ le) && decide (w64 (hi + st) ≤ mo))) (.ret (.agg [iv 0, iv 0, iv 0, iv 0, iv 0, iv 0, bv false, iv 1]))
      (.ret (.agg [iv lo, iv hi, iv st, iv er, iv le, iv mo, bv !(decide ((if w64 (lo - st) > 1 then w64 (lo - st) else 1) ≥ le) && decide (w64 (hi + st) ≤ mo)), iv 0]))))

theorem X14_eq (lo hi st er le mo : Int) (sp : Bool) : T1 19 [mon lo hi st er le mo sp] = X14 lo hi st er le mo sp := by kernel_rfl

noncomputable def X16 (lo hi st er le mo : Int) (sp : Bool) : Tree SV :=
  .ite sp (.ret (.agg [iv lo, iv hi, iv st, iv er, iv le, iv mo, bv sp]))
  (.ret
    (.agg
      [iv (if w64 (lo - st) > 1 then w64 (lo - st) else 1), iv (w64 (hi + st)), iv st, iv er, iv le, iv mo,
        bv !(decide ((if w64 ((if w64 (lo - st) > 1 then w64 (lo - st) else 1) - st) > 1 then w64 ((if w64 (lo - st) > 1 then w64 (lo - st) else 1) - st) else 1) ≥ le) && decide (w64 (w64 (hi + st) + st) ≤ mo))]))

theorem X16_eq (lo hi st er le mo : Int) (sp : Bool) : T1 21 [mon lo hi st er le mo sp] = X16 lo hi st er le mo sp := by kernel_rfl

noncomputable def X17 (lo hi st er le mo : Int) (sp : Bool) : Tree SV :=
  .ret (.agg [iv (if w64 (lo - st) > 1 then w64 (lo - st) else 1), iv (w64 (hi + st))])

theorem X17_eq (lo hi st er le mo : Int) (sp : Bool) : T1 22 [mon lo hi st er le mo sp] = X17 lo hi st er le mo sp := by kernel_rfl

noncomputable def X18 (lo hi st er le mo : Int) (sp : Bool) : Tree SV :=
  .ret (.agg [iv (if w64 (lo - st) > 1 then w64 (lo - st) else 1), iv (w64 (hi + st))])

theorem X18_eq (lo hi st er le mo : Int) (sp : Bool) : T1 23 [mon lo hi st er le mo sp] = X18 lo hi st er le mo sp := by kernel_rfl

noncomputable def X22 (lo hi st er le mo : Int) (sp : Bool) : Tree SV :=
  .ite sp (.ret (.agg [iv lo, iv hi, iv st, iv er, iv le, iv mo, bv sp]))
  (.ite (decide ((if w64 (lo - st) > 1 then w64 (lo - st) else 1) > w64 (hi + st))) (.ret (.agg [iv lo, iv hi, iv st, iv er, iv le, iv mo, bv true]))
    (.ret
      (.agg
        [iv (if w64 (lo - st) > 1 then w64 (lo - st) else 1), iv (w64 (hi + st)), iv st, iv er, iv le, iv mo,
          bv !(decide ((if w64 ((if w64 (lo - st) > 1 then w64 (lo - st) else 1) - st) > 1 then w64 ((if w64 (lo - st) > 1 then w64 (lo - st) else 1) - st) else 1) ≥ le) && decide (w64 (w64 (hi + st) + st) ≤ mo))])))

theorem X22_eq (lo hi st er le mo : Int) (sp : Bool) : T1 27 [mon lo hi st er le mo sp] = X22 lo hi st er le mo sp := by kernel_rfl

noncomputable def X15 (lo hi st er le mo : Int) (sp : Bool) (r : Int) : Tree SV :=
  .ite sp (.ret (.agg [iv lo, iv hi, iv st, iv er, iv le, iv mo, bv sp]))
  (.ite (decide (r < -4000000) || decide (r > 4000000))
   (.ite true (.ret (.agg [iv lo, iv hi, iv st, iv er, iv le, iv mo, bv true]))
   (.ret (.agg [iv 0, iv 0, iv st, iv er, iv le, iv mo, bv !(decide ((if w64 (0 - st) > 1 then w64 (0 - st) else 1) ≥ le) && decide (w64 (0 + st) ≤ mo))])))
   (.ite (!decide ((if w64 (r - er) > if w64 (lo - st) > 1 then w64 (lo - st) else 1 then w64 (r - er) else if w64 (lo - st) > 1 then w64 (lo - st) else 1) ≤ if w64 (r + er) < w64 (hi + st) then w64 (r + er) else w64 (hi + st)))
   (.ret (.agg [iv lo, iv hi, iv st, iv er, iv le, iv mo, bv true]))
   (.ret
   (.agg
   [iv (if w64 (r - er) > if w64 (lo - st) > 1 then w64 (lo - st) else 1 then w64 (r - er) else if w64 (lo - st) > 1 then w64 (lo - st) else 1), iv (if w64 (r + er) < w64 (hi + st) then w64 (r + er) else w64 (hi + st)), iv st, iv er,
   iv le, iv mo,
   bv
   !(decide
   ((if w64 ((if w64 (r - er) > if w64 (lo - st) > 1 then w64 (lo - st) else 1 then w64 (r - er) else if w64 (lo - st) > 1 then w64 (lo - st) else 1) - st) > 1 then
   w64 ((if w64 (r - er) > if w64 (lo - st) > 1 then w64 (lo - st) else 1 then w64 (r - er) else if w64 (lo - st) > 1 then w64 (lo - st) else 1) - st)
   else 1) ≥
   le) &&
   decide (w64 ((if w64 (r + er) < w64 (hi + st) then w64 (r + er) else w64 (hi + st)) + st) ≤ mo))]))))

theorem X15_eq (lo hi st er le mo : Int) (sp : Bool) (r : Int) : T1 20 [mon lo hi st er le mo sp, iv r] = X15 lo hi st er le mo sp r := by kernel_rfl

noncomputable def X19 (lo hi st er le mo : Int) (sp : Bool) (r : Int) : Tree SV :=
  .ite (decide (r < -4000000) || decide (r > 4000000)) (.ret (bv false))
  (.ret
    (bv
      (!((if w64 (r - er) > if w64 (lo - st) > 1 then w64 (lo - st) else 1 then w64 (r - er) else if w64 (lo - st) > 1 then w64 (lo - st) else 1) == 1 &&
            ((if w64 (r + er) < w64 (hi + st) then w64 (r + er) else w64 (hi + st)) == 0 && true)) &&
        decide ((if w64 (r - er) > if w64 (lo - st) > 1 then w64 (lo - st) else 1 then w64 (r - er) else if w64 (lo - st) > 1 then w64 (lo - st) else 1) ≤ if w64 (r + er) < w64 (hi + st) then w64 (r + er) else w64 (hi + st)))))

theorem X19_eq (lo hi st er le mo : Int) (sp : Bool) (r : Int) : T1 24 [mon lo hi st er le mo sp, iv r] = X19 lo hi st er le mo sp r := by kernel_rfl

noncomputable def X20 (lo hi st er le mo : Int) (sp : Bool) (r : Int) : Tree SV :=
  .ite (decide (r < -4000000) || decide (r > 4000000)) (.ret (bv false))
  (.ret (bv (decide ((if w64 (r - er) > if w64 (lo - st) > 1 then w64 (lo - st) else 1 then w64 (r - er) else if w64 (lo - st) > 1 then w64 (lo - st) else 1) ≤ if w64 (r + er) < w64 (hi + st) then w64 (r + er) else w64 (hi + st)))))

theorem X20_eq (lo hi st er le mo : Int) (sp : Bool) (r : Int) : T1 25 [mon lo hi st er le mo sp, iv r] = X20 lo hi st er le mo sp r := by kernel_rfl

noncomputable def X21 (lo hi st er le mo : Int) (sp : Bool) (r : Int) : Tree SV :=
  .ite sp (.ret (.agg [iv lo, iv hi, iv st, iv er, iv le, iv mo, bv sp]))
  (.ite (decide (r < -4000000) || decide (r > 4000000))
   (.ite true (.ret (.agg [iv lo, iv hi, iv st, iv er, iv le, iv mo, bv true]))
   (.ret (.agg [iv 1, iv 0, iv st, iv er, iv le, iv mo, bv !(decide ((if w64 (1 - st) > 1 then w64 (1 - st) else 1) ≥ le) && decide (w64 (0 + st) ≤ mo))])))
   (.ite (decide ((if w64 (r - er) > if w64 (lo - st) > 1 then w64 (lo - st) else 1 then w64 (r - er) else if w64 (lo - st) > 1 then w64 (lo - st) else 1) > if w64 (r + er) < w64 (hi + st) then w64 (r + er) else w64 (hi + st)))
   (.ret (.agg [iv lo, iv hi, iv st, iv er, iv le, iv mo, bv true]))
   (.ret
   (.agg
   [iv (if w64 (r - er) > if w64 (lo - st) > 1 then w64 (lo - st) else 1 then w64 (r - er) else if w64 (lo - st) > 1 then w64 (lo - st) else 1), iv (if w64 (r + er) < w64 (hi + st) then w64 (r + er) else w64 (hi + st)), iv st, iv er,
   iv le, iv mo,
   bv
   !(decide
   ((if w64 ((if w64 (r - er) > if w64 (lo - st) > 1 then w64 (lo - st) else 1 then w64 (r - er) else if w64 (lo - st) > 1 then w64 (lo - st) else 1) - st) > 1 then
   w64 ((if w64 (r - er) > if w64 (lo - st) > 1 then w64 (lo - st) else 1 then w64 (r - er) else if w64 (lo - st) > 1 then w64 (lo - st) else 1) - st)
   else 1) ≥
   le) &&
   decide (w64 ((if w64 (r + er) < w64 (hi + st) then w64 (r + er) else w64 (hi + st)) + st) ≤ mo))]))))

theorem X21_eq (lo hi st er le mo : Int) (sp : Bool) (r : Int) : T1 26 [mon lo hi st er le mo sp, iv r] = X21 lo hi st er le mo sp r := by kernel_rfl


end Go.Proofs.Ytcbjclmjkilphaa

namespace Go.Proofs.Ytcbjclmjkilphaa
open Go.Sx
set_option maxRecDepth 100000
variable {lo hi st er le mo r : Int} {sp : Bool}

/-- What a function returns: kept behind a word, for the elaborator looks through all others. -/
structure Says (k : Nat) (ss : List SV) (r : SV) : Prop where
  ok : (T1 k ss).sat Try.prog (· = r)

/-- From a told tree to a contract. -/
theorem ctr_of {k : Nat} {c : Ctr} (hf : (Try.prog.funcs[k]?).isSome = true) (hb : (fnOf Try.prog k).body.isSome = true) (h : ∀ ss r, (c ss).ev r → Says k ss r) : CtrOK Try.prog k c :=
  ctrOK_of C1_ok D1_ok (fn := fnOf Try.prog k) (body := bodyOf Try.prog k) (by
    unfold fnOf
    cases hk : Try.prog.funcs[k]? with
    | none => rw [hk] at hf; cases hf
    | some f => rfl) (by
    unfold bodyOf
    cases hk : (fnOf Try.prog k).body with
    | none => rw [hk] at hb; cases hb
    | some f => rfl) fun ss r hr => ⟨200, .nil, (h ss r hr).ok⟩

theorem inR_w (h : okM lo hi st er le mo) : (decide ((if w64 (lo - st) > 1 then w64 (lo - st) else 1) ≥ le) && decide (w64 (hi + st) ≤ mo)) = inR lo hi st le mo := by
  have h1 := h.lo; have h2 := h.st
  rw [w64_of (n := lo - st) (by omega) (by omega), w64_of (n := hi + st) (by omega) (by omega), mx]
  rfl

theorem s11 : Says 16 [mon lo hi st er le mo sp] (bv (vB lo hi st er le mo sp)) := by
  constructor
  rw [X11_eq]; unfold X11
  show bv _ = bv _
  congr 1
  by_cases h : okM lo hi st er le mo
  · rw [inR_w h]
    have := h.lo; have := h.st; have := h.er; have := h.le
    unfold vB
    rw [okB_iff.2 h, show (decide (1 ≤ le) && decide (le ≤ mo) && decide (mo ≤ 1000000) && decide (1 ≤ lo) && decide (lo ≤ hi) && decide (hi ≤ 1000000) && (decide (0 ≤ st) && decide (st ≤ 1000000) && decide (0 ≤ er) && decide (er ≤ 1000000))) = true by simp; omega]
  · have h' : okB lo hi st er le mo = false := by rw [← Bool.not_eq_true, okB_iff]; exact h
    unfold vB
    rw [h', Bool.false_and, Bool.and_eq_false_iff]
    refine .inl ?_
    rw [← Bool.not_eq_true]
    intro hc
    simp only [Bool.and_eq_true, decide_eq_true_eq] at hc
    exact h ⟨by omega, by omega, by omega, by omega⟩

theorem s12 : Says 17 [mon lo hi st er le mo sp] (bv (vB lo hi st er le mo sp)) := by
  constructor
  rw [X12_eq]; unfold X12
  by_cases h : okM lo hi st er le mo
  · rw [inR_w h]
    have := h.lo; have := h.st; have := h.er; have := h.le
    unfold vB
    rw [okB_iff.2 h]
    refine ⟨fun hc => ?_, fun hc => ⟨fun hd => ?_, fun hd => rfl⟩⟩
    · simp only [Bool.or_eq_true, decide_eq_true_eq] at hc; omega
    · simp only [Bool.or_eq_true, decide_eq_true_eq] at hd; omega
  · have h' : okB lo hi st er le mo = false := by rw [← Bool.not_eq_true, okB_iff]; exact h
    unfold vB
    rw [h', Bool.false_and]
    refine ⟨fun hc => rfl, fun hc => ⟨fun hd => rfl, fun hd => ?_⟩⟩
    simp only [Bool.or_eq_false_iff, decide_eq_false_iff_not] at hc hd
    exact (h ⟨by omega, by omega, by omega, by omega⟩).elim

def zif (c : Bool) (x : Int) : Int := bif c then x else 0
def zerr (c : Bool) : Int := bif c then 0 else 1
noncomputable def newR (lo hi st er le mo : Int) : SV := .agg [iv (zif (okB lo hi st er le mo) lo), iv (zif (okB lo hi st er le mo) hi), iv (zif (okB lo hi st er le mo) st), iv (zif (okB lo hi st er le mo) er), iv (zif (okB lo hi st er le mo) le), iv (zif (okB lo hi st er le mo) mo), bv (okB lo hi st er le mo && !inR lo hi st le mo), iv (zerr (okB lo hi st er le mo))]

theorem s13 : Says 18 [mon lo hi st er le mo sp] (newR lo hi st er le mo) := by
  constructor
  rw [X13_eq]; unfold X13
  by_cases h : okM lo hi st er le mo
  · rw [inR_w h]
    have := h.lo; have := h.st; have := h.er; have := h.le
    unfold newR
    rw [okB_iff.2 h]
    rw [show (decide (1 ≤ le) && decide (le ≤ mo) && decide (mo ≤ 1000000) && decide (1 ≤ lo) && decide (lo ≤ hi) && decide (hi ≤ 1000000) && (decide (0 ≤ st) && decide (st ≤ 1000000) && decide (0 ≤ er) && decide (er ≤ 1000000))) = true by simp; omega]
    exact ⟨fun hc => by simp at hc, fun _ => rfl⟩
  · have h' : okB lo hi st er le mo = false := by rw [← Bool.not_eq_true, okB_iff]; exact h
    unfold newR
    rw [h']
    refine ⟨fun hc => rfl, fun hc => ?_⟩
    simp at hc
    exact (h ⟨by omega, by omega, by omega, by omega⟩).elim

theorem s14 : Says 19 [mon lo hi st er le mo sp] (newR lo hi st er le mo) := by
  constructor
  rw [X14_eq]; unfold X14
  by_cases h : okM lo hi st er le mo
  · rw [inR_w h]
    have := h.lo; have := h.st; have := h.er; have := h.le
    unfold newR
    rw [okB_iff.2 h]
    refine ⟨fun hc => ?_, fun hc => ⟨fun hd => ?_, fun hd => ⟨fun he => by simp at he, fun he => rfl⟩⟩⟩
    · simp only [Bool.or_eq_true, decide_eq_true_eq] at hc; omega
    · simp only [Bool.or_eq_true, decide_eq_true_eq] at hd; omega
  · have h' : okB lo hi st er le mo = false := by rw [← Bool.not_eq_true, okB_iff]; exact h
    unfold newR
    rw [h']
    refine ⟨fun hc => ⟨fun _ => rfl, fun h => by cases h⟩, fun hc => ⟨fun hd => ⟨fun _ => rfl, fun h => by cases h⟩, fun hd => ?_⟩⟩
    simp only [Bool.or_eq_false_iff, decide_eq_false_iff_not] at hc hd
    exact (h ⟨by omega, by omega, by omega, by omega⟩).elim

noncomputable def outR (lo hi st : Int) : SV := .agg [iv (oLo lo st), iv (hi + st)]
theorem s17 (h : okM lo hi st er le mo) : Says 22 [mon lo hi st er le mo sp] (outR lo hi st) := by
  constructor
  have := h.lo; have := h.st
  rw [X17_eq]; unfold X17
  rw [w64_of (n := lo - st) (by omega) (by omega), w64_of (n := hi + st) (by omega) (by omega), mx]
  rfl
theorem s18 (h : okM lo hi st er le mo) : Says 23 [mon lo hi st er le mo sp] (outR lo hi st) := by
  constructor
  have := h.lo; have := h.st
  rw [X18_eq]; unfold X18
  rw [w64_of (n := lo - st) (by omega) (by omega), w64_of (n := hi + st) (by omega) (by omega), mx]
  rfl

noncomputable def missR (lo hi st er le mo : Int) (sp : Bool) : SV := mon (uLo lo st sp) (uHi hi st sp) st er le mo (uSp lo hi st le mo sp)

theorem s16 (h : okM lo hi st er le mo) : Says 21 [mon lo hi st er le mo sp] (missR lo hi st er le mo sp) := by
  constructor
  have := h.lo; have := h.st
  rw [X16_eq]; unfold X16
  refine ⟨fun hs => ?_, fun hs => ?_⟩
  · subst hs; simp [missR, uLo, uHi, uSp, mon, Tree.sat]
  · subst hs
    simp (disch := omega) only [w64_of, mx]
    simp [missR, uLo, uHi, uSp, mon, Tree.sat, oLo, inR]
    rfl
theorem s22 (h : okM lo hi st er le mo) : Says 27 [mon lo hi st er le mo sp] (missR lo hi st er le mo sp) := by
  constructor
  have := h.lo; have := h.st
  rw [X22_eq]; unfold X22
  refine ⟨fun hs => ?_, fun hs => ⟨fun hc => ?_, fun hc => ?_⟩⟩
  · subst hs; simp [missR, uLo, uHi, uSp, mon, Tree.sat]
  · simp (disch := omega) only [w64_of, mx] at hc
    simp at hc; omega
  · subst hs
    simp (disch := omega) only [w64_of, mx]
    simp [missR, uLo, uHi, uSp, mon, Tree.sat, oLo, inR]
    rfl
theorem mxx {a b : Int} : (if a > b then a else b) = max b a := by omega
theorem mnn {a b : Int} : (if a < b then a else b) = min b a := by omega
theorem gB_iff : gB lo hi st er r = true ↔ -4000000 ≤ r ∧ r ≤ 4000000 ∧ max (oLo lo st) (r - er) ≤ min (hi + st) (r + er) := by unfold gB; rw [decide_eq_true_eq]
theorem gB_not : gB lo hi st er r = false ↔ ¬ (-4000000 ≤ r ∧ r ≤ 4000000 ∧ max (oLo lo st) (r - er) ≤ min (hi + st) (r + er)) := by unfold gB; rw [decide_eq_false_iff_not]

theorem s20 (h : okM lo hi st er le mo) : Says 25 [mon lo hi st er le mo sp, iv r] (bv (gB lo hi st er r)) := by
  constructor
  have := h.lo; have := h.st; have := h.er
  rw [X20_eq]; unfold X20
  refine ⟨fun hc => ?_, fun hc => ?_⟩
  · rw [show gB lo hi st er r = false by rw [gB_not]; simp at hc; omega]; rfl
  · simp at hc
    simp (disch := omega) only [w64_of, mxx, mnn]
    show bv _ = bv _
    congr 1
    rw [Bool.eq_iff_iff, gB_iff, decide_eq_true_eq]
    unfold oLo; omega
theorem s19 (h : okM lo hi st er le mo) : Says 24 [mon lo hi st er le mo sp, iv r] (bv (gB lo hi st er r)) := by
  constructor
  have := h.lo; have := h.st; have := h.er
  rw [X19_eq]; unfold X19
  refine ⟨fun hc => ?_, fun hc => ?_⟩
  · rw [show gB lo hi st er r = false by rw [gB_not]; simp at hc; omega]; rfl
  · simp at hc
    simp (disch := omega) only [w64_of, mxx, mnn]
    show bv _ = bv _
    congr 1
    rw [Bool.eq_iff_iff, gB_iff]
    simp only [Bool.and_eq_true, Bool.not_eq_true', decide_eq_true_eq, Bool.and_true, Bool.and_eq_false_iff, beq_eq_false_iff_ne]
    unfold oLo; omega

noncomputable def seeR (lo hi st er le mo : Int) (sp : Bool) (r : Int) : SV := mon (vLo lo hi st er sp r) (vHi lo hi st er sp r) st er le mo (vSp lo hi st er le mo sp r)

theorem see_fin (h : okM lo hi st er le mo) (hr : -4000000 ≤ r ∧ r ≤ 4000000) (hg : gB lo hi st er r = true) : 
    seeR lo hi st er le mo false r = mon (max (oLo lo st) (r - er)) (min (hi + st) (r + er)) st er le mo (!inR (max (oLo lo st) (r - er)) (min (hi + st) (r + er)) st le mo) := by
  simp [seeR, vLo, vHi, vSp, hg]
theorem see_no (hg : gB lo hi st er r = false) : seeR lo hi st er le mo false r = mon lo hi st er le mo true := by
  simp [seeR, vLo, vHi, vSp, hg]
theorem see_sp : seeR lo hi st er le mo true r = mon lo hi st er le mo true := by
  simp [seeR, vLo, vHi, vSp]

theorem s15 (h : okM lo hi st er le mo) : Says 20 [mon lo hi st er le mo sp, iv r] (seeR lo hi st er le mo sp r) := by
  constructor
  have := h.lo; have := h.st; have := h.er
  rw [X15_eq]; unfold X15
  refine ⟨fun hs => ?_, fun hs => ⟨fun hc => ⟨fun _ => ?_, fun h => by cases h⟩, fun hc => ⟨fun hd => ?_, fun hd => ?_⟩⟩⟩
  · subst hs; rw [see_sp]; rfl
  · subst hs
    rw [see_no]; · rfl
    rw [gB_not]; simp at hc; omega
  · subst hs
    simp at hc
    simp (disch := omega) only [w64_of, mxx, mnn] at hd
    rw [see_no]; · rfl
    rw [gB_not]; simp at hd; unfold oLo; omega
  · subst hs
    simp at hc
    simp (disch := omega) only [w64_of, mxx, mnn] at hd ⊢
    have hg : gB lo hi st er r = true := by rw [gB_iff]; simp at hd; unfold oLo; omega
    rw [see_fin h (by omega) hg]
    exact mon_ext rfl rfl rfl

theorem s21 (h : okM lo hi st er le mo) : Says 26 [mon lo hi st er le mo sp, iv r] (seeR lo hi st er le mo sp r) := by
  constructor
  have := h.lo; have := h.st; have := h.er
  rw [X21_eq]; unfold X21
  refine ⟨fun hs => ?_, fun hs => ⟨fun hc => ⟨fun _ => ?_, fun h => by cases h⟩, fun hc => ⟨fun hd => ?_, fun hd => ?_⟩⟩⟩
  · subst hs; rw [see_sp]; rfl
  · subst hs
    rw [see_no]; · rfl
    rw [gB_not]; simp at hc; omega
  · subst hs
    simp at hc
    simp (disch := omega) only [w64_of, mxx, mnn] at hd
    rw [see_no]; · rfl
    rw [gB_not]; simp at hd; unfold oLo; omega
  · subst hs
    simp at hc
    simp (disch := omega) only [w64_of, mxx, mnn] at hd ⊢
    have hg : gB lo hi st er r = true := by rw [gB_iff]; simp at hd; unfold oLo; omega
    rw [see_fin h (by omega) hg]
    exact mon_ext rfl rfl rfl

/-! ### As contracts -/

noncomputable def cMon (f : Int → Int → Int → Int → Int → Int → Bool → Tr SV) : Ctr := fun ss => match ss with
  | [.agg [.d (.x (.int .i64 lo)), .d (.x (.int .i64 hi)), .d (.x (.int .i64 st)), .d (.x (.int .i64 er)), .d (.x (.int .i64 le)), .d (.x (.int .i64 mo)), .d (.x (.bool sp))]] => f lo hi st er le mo sp
  | _ => .fail
noncomputable def cMonR (f : Int → Int → Int → Int → Int → Int → Bool → Int → Tr SV) : Ctr := fun ss => match ss with
  | [.agg [.d (.x (.int .i64 lo)), .d (.x (.int .i64 hi)), .d (.x (.int .i64 st)), .d (.x (.int .i64 er)), .d (.x (.int .i64 le)), .d (.x (.int .i64 mo)), .d (.x (.bool sp))], .d (.x (.int .i64 r))] => f lo hi st er le mo sp r
  | _ => .fail

theorem cMon_ok {k : Nat} {f : Int → Int → Int → Int → Int → Int → Bool → Tr SV} (hf : (Try.prog.funcs[k]?).isSome = true) (hb : (fnOf Try.prog k).body.isSome = true)
    (h : ∀ lo hi st er le mo sp r, (f lo hi st er le mo sp).ev r → Says k [mon lo hi st er le mo sp] r) : CtrOK Try.prog k (cMon f) := by
  refine ctr_of hf hb fun ss r hr => ?_
  unfold cMon at hr
  split at hr
  · exact h _ _ _ _ _ _ _ _ hr
  · exact hr.elim
theorem cMonR_ok {k : Nat} {f : Int → Int → Int → Int → Int → Int → Bool → Int → Tr SV} (hf : (Try.prog.funcs[k]?).isSome = true) (hb : (fnOf Try.prog k).body.isSome = true)
    (h : ∀ lo hi st er le mo sp q r, (f lo hi st er le mo sp q).ev r → Says k [mon lo hi st er le mo sp, iv q] r) : CtrOK Try.prog k (cMonR f) := by
  refine ctr_of hf hb fun ss r hr => ?_
  unfold cMonR at hr
  split at hr
  · exact h _ _ _ _ _ _ _ _ _ hr
  · exact hr.elim

noncomputable def cValid : Ctr := cMon fun lo hi st er le mo sp => .ret (bv (vB lo hi st er le mo sp))
noncomputable def cNew : Ctr := cMon fun lo hi st er le mo sp => .ret (newR lo hi st er le mo)
noncomputable def cOut : Ctr := cMon fun lo hi st er le mo sp => .need (okM lo hi st er le mo) (.ret (outR lo hi st))
noncomputable def cMiss : Ctr := cMon fun lo hi st er le mo sp => .need (okM lo hi st er le mo) (.ret (missR lo hi st er le mo sp))
noncomputable def cSee : Ctr := cMonR fun lo hi st er le mo sp r => .need (okM lo hi st er le mo) (.ret (seeR lo hi st er le mo sp r))
noncomputable def cAgr : Ctr := cMonR fun lo hi st er le mo sp r => .need (okM lo hi st er le mo) (.ret (bv (gB lo hi st er r)))


end Go.Proofs.Ytcbjclmjkilphaa

namespace Go.Proofs.Ytcbjclmjkilphaa
open Go.Sx
set_option maxRecDepth 100000

theorem f11s : (Try.prog.funcs[16]?).isSome = true := by kernel_rfl
theorem f11b : (fnOf Try.prog 16).body.isSome = true := by kernel_rfl
theorem c11 : CtrOK Try.prog 16 cValid := by
  refine cMon_ok f11s f11b ?_
  intro lo hi st er le mo sp r h
  cases h; exact s11
theorem f12s : (Try.prog.funcs[17]?).isSome = true := by kernel_rfl
theorem f12b : (fnOf Try.prog 17).body.isSome = true := by kernel_rfl
theorem c12 : CtrOK Try.prog 17 cValid := by
  refine cMon_ok f12s f12b ?_
  intro lo hi st er le mo sp r h
  cases h; exact s12
theorem f13s : (Try.prog.funcs[18]?).isSome = true := by kernel_rfl
theorem f13b : (fnOf Try.prog 18).body.isSome = true := by kernel_rfl
theorem c13 : CtrOK Try.prog 18 cNew := by
  refine cMon_ok f13s f13b ?_
  intro lo hi st er le mo sp r h
  cases h; exact s13
theorem f14s : (Try.prog.funcs[19]?).isSome = true := by kernel_rfl
theorem f14b : (fnOf Try.prog 19).body.isSome = true := by kernel_rfl
theorem c14 : CtrOK Try.prog 19 cNew := by
  refine cMon_ok f14s f14b ?_
  intro lo hi st er le mo sp r h
  cases h; exact s14
theorem f17s : (Try.prog.funcs[22]?).isSome = true := by kernel_rfl
theorem f17b : (fnOf Try.prog 22).body.isSome = true := by kernel_rfl
theorem c17 : CtrOK Try.prog 22 cOut := by
  refine cMon_ok f17s f17b ?_
  intro lo hi st er le mo sp r h
  obtain ⟨h, rfl⟩ := h; exact s17 h
theorem f18s : (Try.prog.funcs[23]?).isSome = true := by kernel_rfl
theorem f18b : (fnOf Try.prog 23).body.isSome = true := by kernel_rfl
theorem c18 : CtrOK Try.prog 23 cOut := by
  refine cMon_ok f18s f18b ?_
  intro lo hi st er le mo sp r h
  obtain ⟨h, rfl⟩ := h; exact s18 h
theorem f16s : (Try.prog.funcs[21]?).isSome = true := by kernel_rfl
theorem f16b : (fnOf Try.prog 21).body.isSome = true := by kernel_rfl
theorem c16 : CtrOK Try.prog 21 cMiss := by
  refine cMon_ok f16s f16b ?_
  intro lo hi st er le mo sp r h
  obtain ⟨h, rfl⟩ := h; exact s16 h
theorem f22s : (Try.prog.funcs[27]?).isSome = true := by kernel_rfl
theorem f22b : (fnOf Try.prog 27).body.isSome = true := by kernel_rfl
theorem c22 : CtrOK Try.prog 27 cMiss := by
  refine cMon_ok f22s f22b ?_
  intro lo hi st er le mo sp r h
  obtain ⟨h, rfl⟩ := h; exact s22 h
theorem f19s : (Try.prog.funcs[24]?).isSome = true := by kernel_rfl
theorem f19b : (fnOf Try.prog 24).body.isSome = true := by kernel_rfl
theorem c19 : CtrOK Try.prog 24 cAgr := by
  refine cMonR_ok f19s f19b ?_
  intro lo hi st er le mo sp q r h
  obtain ⟨h, rfl⟩ := h; exact s19 h
theorem f20s : (Try.prog.funcs[25]?).isSome = true := by kernel_rfl
theorem f20b : (fnOf Try.prog 25).body.isSome = true := by kernel_rfl
theorem c20 : CtrOK Try.prog 25 cAgr := by
  refine cMonR_ok f20s f20b ?_
  intro lo hi st er le mo sp q r h
  obtain ⟨h, rfl⟩ := h; exact s20 h
theorem f15s : (Try.prog.funcs[20]?).isSome = true := by kernel_rfl
theorem f15b : (fnOf Try.prog 20).body.isSome = true := by kernel_rfl
theorem c15 : CtrOK Try.prog 20 cSee := by
  refine cMonR_ok f15s f15b ?_
  intro lo hi st er le mo sp q r h
  obtain ⟨h, rfl⟩ := h; exact s15 h
theorem f21s : (Try.prog.funcs[26]?).isSome = true := by kernel_rfl
theorem f21b : (fnOf Try.prog 26).body.isSome = true := by kernel_rfl
theorem c21 : CtrOK Try.prog 26 cSee := by
  refine cMonR_ok f21s f21b ?_
  intro lo hi st er le mo sp q r h
  obtain ⟨h, rfl⟩ := h; exact s21 h

end Go.Proofs.Ytcbjclmjkilphaa

namespace Go.Proofs.Ytcbjclmjkilphaa
open Go.Sx
set_option maxRecDepth 100000

noncomputable def man2 : FuncId → Option Ctr := fun k => match k with
  | 14 => some cEx
  | 15 => some cM45
  | 16 => some cValid
  | 17 => some cValid
  | 18 => some cNew
  | 19 => some cNew
  | 20 => some cSee
  | 21 => some cMiss
  | 22 => some cOut
  | 23 => some cOut
  | 24 => some cAgr
  | 25 => some cAgr
  | 26 => some cSee
  | 27 => some cMiss
  | 28 => some cMade
  | _ => none

theorem man2_ok (k : Nat) (c : Ctr) (h : man2 k = some c) : CtrOK Try.prog k c ∧ goodF Try.prog k = true := by
  unfold man2 at h
  split at h <;> first | (cases h; done) | (cases h)
  · exact ⟨cEx_ok, by kernel_rfl⟩
  · exact ⟨cM45_ok, by kernel_rfl⟩
  · exact ⟨c11, by kernel_rfl⟩
  · exact ⟨c12, by kernel_rfl⟩
  · exact ⟨c13, by kernel_rfl⟩
  · exact ⟨c14, by kernel_rfl⟩
  · exact ⟨c15, by kernel_rfl⟩
  · exact ⟨c16, by kernel_rfl⟩
  · exact ⟨c17, by kernel_rfl⟩
  · exact ⟨c18, by kernel_rfl⟩
  · exact ⟨c19, by kernel_rfl⟩
  · exact ⟨c20, by kernel_rfl⟩
  · exact ⟨c21, by kernel_rfl⟩
  · exact ⟨c22, by kernel_rfl⟩
  · exact ⟨cMade_ok, by kernel_rfl⟩

noncomputable def C2 : Ctx := ctxN Try.prog man2 (fun _ => false) 200 .nil 3
theorem C2_ok : CtxOK Try.prog C2 := ctxN_ok mixed man2_ok 3
noncomputable def D2 : Dr := fun _ => drawn Try.prog C2
theorem D2_ok : DrOK Try.prog C2 D2 := drawn_ok C2_ok mixed

noncomputable def T2 (k : Nat) (args : List SV) (h : Hint) : Tree SV := fnT Try.prog C2 D2 200 (fnOf Try.prog k) (bodyOf Try.prog k) args h
end Go.Proofs.Ytcbjclmjkilphaa

namespace Go.Proofs.Ytcbjclmjkilphaa
open Go.Sx
variable {lo hi st er le mo r : Int} {sp : Bool}

theorem vB_iff : vB lo hi st er le mo sp = true ↔ okM lo hi st er le mo ∧ (sp = true ∨ (le ≤ oLo lo st ∧ hi + st ≤ mo)) := by
  unfold vB
  rw [Bool.and_eq_true, okB_iff, Bool.or_eq_true, inR_iff]

end Go.Proofs.Ytcbjclmjkilphaa

namespace Go.Proofs.Ytcbjclmjkilphaa
open Go.Sx
set_option maxRecDepth 100000

/-! ### drift.spans -/

noncomputable def inl3 : FuncId → Bool := fun k => k == 74 || k == 75
noncomputable def C3 : Ctx := ctxN Try.prog (fun _ => none) inl3 200 .nil 4
theorem C3_ok : CtxOK Try.prog C3 := ctxN_ok mixed (fun k c h => by cases h) 4
noncomputable def D3 : Dr := fun _ => drawn Try.prog C3
theorem D3_ok : DrOK Try.prog C3 D3 := drawn_ok C3_ok mixed

noncomputable def tS (lo hi st er : Int) (n : Nat) (L : Nat → Int) : Tree SV := fnT Try.prog C3 D3 200 (fnOf Try.prog 57) (bodyOf Try.prog 57) [iv lo, iv hi, iv st, iv er, ro64 n L] (.f (.f .nil))
noncomputable def scell (sl sh : Nat → Int) : Nat → Nat → DV := fun a b => match b with
  | 0 => xi (sl a)
  | _ => xi (sh a)
noncomputable def inS (t : Tree SV) : Option AS := entA 11 [(.cell (.base 3) 0, 11)] [2, 3, 6, 7, 15, 16, 17] [2, 6, 7, 8, 9, 10] 12 .nil t
noncomputable def invS (lo hi st er : Int) (n : Nat) (L : Nat → Int) (e x1 x2 i : Int) (m : Nat) (sl sh : Nat → Int) : AS :=
  ⟨[.unk, .unk, .ok (.fn (Fn.func 75) [] [.ptr 3 0]), .ok (.ptr 4 0), .unk, .unk, .ok (iv e), .ok (.ptr 5 0), .unk, .unk, .unk, .unk, .unk, .unk, .unk, .ok (ro64 n L), .ok (iv n), .ok (iv i)] ++ List.replicate 32 .unk,
   [some (.cells [iv 0, iv 0, iv 0, iv 0]), some (.cells [iv lo, iv hi, iv st, iv er]), none, some (.cells [.row 11 0 0 m 2]), some (.cells [iv lo, iv hi, iv st, iv er]), some (.cells [iv x1, iv x2]), none, none, none, none, none, some (.row m 2 (scell sl sh))], 12, .nil⟩

noncomputable def LS (lo hi st er : Int) (n : Nat) (L : Nat → Int) : Tree SV :=
  .ite (decide (lo < (1 : Int)) || decide (hi < lo) || decide (hi > (1000000 : Int)) || decide ((if er < st then er else st) < (0 : Int)) || decide ((if er > st then er else st) > (1000000 : Int)) || decide ((↑n : Int) > (1000 : Int)))
  (.need (true = false)
    (.need (True ∧ 2 ≤ 2 ∧ 16 ≤ 140737488355328)
      (.code (codeC (sub [(0 : Nat), (0 : Nat), (0 : Nat)] (tS lo hi st er n L))) (codeS (sub [(0 : Nat), (0 : Nat), (0 : Nat)] (tS lo hi st er n L))) (codeK (sub [(0 : Nat), (0 : Nat), (0 : Nat)] (tS lo hi st er n L))))))
  (.need (false = false)
    (.need (True ∧ 2 ≤ List.length [iv lo, iv hi] ∧ 16 ≤ 140737488355328)
      (.code (codeC (sub [(1 : Nat), (0 : Nat), (0 : Nat)] (tS lo hi st er n L))) (codeS (sub [(1 : Nat), (0 : Nat), (0 : Nat)] (tS lo hi st er n L))) (codeK (sub [(1 : Nat), (0 : Nat), (0 : Nat)] (tS lo hi st er n L))))))

theorem LS_eq (lo hi st er : Int) (n : Nat) (L : Nat → Int) : tS lo hi st er n L = LS lo hi st er n L := by kernel_rfl

noncomputable def IS (lo hi st er : Int) (n : Nat) (L : Nat → Int) : Option AS :=
  some
  {
    tm :=
      [.unk, .unk, .ok (.fn (Fn.func 75) [] [.ptr 3 0]), .ok (.ptr 4 0), .unk, .unk, .ok (iv (0 : Int)), .ok (.ptr 5 0), .unk, .unk, .unk,
        .unk, .unk, .unk, .unk, .ok (.d (.ro n 1 fun i x => .x (.int .i64 (L i)))), .ok (iv (↑n : Int)), .ok (iv (0 : Int)), .unk, .unk, .unk, .unk, .unk, .unk, .unk, .unk, .unk,
        .unk, .unk, .unk, .unk, .unk, .unk, .unk, .unk, .unk, .unk, .unk, .unk, .unk, .unk, .unk, .unk, .unk, .unk, .unk, .unk, .unk, .unk, .unk],
    hp :=
      [some (.cells [iv (0 : Int), iv (0 : Int), iv (0 : Int), iv (0 : Int)]), some (.cells [iv lo, iv hi, iv st, iv er]), none, some (.cells [.row 11 0 0 1 2]),
        some (.cells [iv lo, iv hi, iv st, iv er]), some (.cells [iv lo, iv hi]), none, none, none, none, none,
        some
          (.row 1 2 fun a b =>
            bif decide (a < 0) then .x (.tuple { toList := [] }) else dsAt [.x (.int .i64 lo), .x (.int .i64 hi)] (0 + (0 + (a - 0)) * 2 + b))],
    next := 12, hint := .nil }

theorem IS_eq (lo hi st er : Int) (n : Nat) (L : Nat → Int) : inS (sub [1, 0, 0] (tS lo hi st er n L)) = IS lo hi st er n L := by kernel_rfl

noncomputable def BS (lo hi st er : Int) (n : Nat) (L : Nat → Int) (x1 x2 i : Int) (m : Nat) (sl sh : Nat → Int) : Tree (Ex × AS) :=
  .ite (decide (i < (↑n : Int)))
  (.need ((0 : Int) ≤ i ∧ i < (↑n : Int))
   (.need ((0 : Int) ≤ (0 : Int) ∧ (0 : Int) < (2 : Int))
   (.need (0 < 2)
   (.need ((0 : Int) ≤ (1 : Int) ∧ (1 : Int) < (2 : Int))
   (.need (1 < 2)
   (.need ((0 : Int) ≤ (0 : Int) ∧ (0 : Int) < (2 : Int))
   (.need (0 < 2)
   (.need ((0 : Int) ≤ (1 : Int) ∧ (1 : Int) < (2 : Int))
   (.need (1 < 2)
   (.need ((0 : Int) ≤ (0 : Int) ∧ (0 : Int) < (2 : Int))
   (.need (0 < 2)
   (.need ((0 : Int) ≤ (0 : Int) ∧ (0 : Int) < (2 : Int))
   (.need (0 < 2)
   (.need ((0 : Int) ≤ (1 : Int) ∧ (1 : Int) < (2 : Int))
   (.need (1 < 2)
   (.need ((0 : Int) ≤ (1 : Int) ∧ (1 : Int) < (2 : Int))
   (.need (1 < 2)
   (.need ((0 : Int) ≤ (0 : Int) ∧ (0 : Int) < (2 : Int))
   (.need (0 < 2)
   (.need ((0 : Int) ≤ (0 : Int) ∧ (0 : Int) < (2 : Int))
   (.need (0 < 2)
   (.need ((0 : Int) ≤ (1 : Int) ∧ (1 : Int) < (2 : Int))
   (.need (1 < 2)
   (.need ((0 : Int) ≤ (1 : Int) ∧ (1 : Int) < (2 : Int))
   (.need (1 < 2)
   (.need ((0 : Int) ≤ (0 : Int) ∧ (0 : Int) < (2 : Int))
   (.need (0 < 2)
   (.need ((0 : Int) ≤ (1 : Int) ∧ (1 : Int) < (2 : Int))
   (.need (1 < 2)
   (.ite
   (decide
   ((if
   (1 : Int) >
   if
   w64
   ((if (2000000000 : Int) < if (-2000000000 : Int) > L (Int.toNat i) then (-2000000000 : Int) else L (Int.toNat i) then (2000000000 : Int)
   else if (-2000000000 : Int) > L (Int.toNat i) then (-2000000000 : Int) else L (Int.toNat i)) -
   er) >
   w64 (x1 - st) then
   w64
   ((if (2000000000 : Int) < if (-2000000000 : Int) > L (Int.toNat i) then (-2000000000 : Int) else L (Int.toNat i) then (2000000000 : Int)
   else if (-2000000000 : Int) > L (Int.toNat i) then (-2000000000 : Int) else L (Int.toNat i)) -
   er)
   else w64 (x1 - st) then
   (1 : Int)
   else
   if
   w64
   ((if (2000000000 : Int) < if (-2000000000 : Int) > L (Int.toNat i) then (-2000000000 : Int) else L (Int.toNat i) then (2000000000 : Int)
   else if (-2000000000 : Int) > L (Int.toNat i) then (-2000000000 : Int) else L (Int.toNat i)) -
   er) >
   w64 (x1 - st) then
   w64
   ((if (2000000000 : Int) < if (-2000000000 : Int) > L (Int.toNat i) then (-2000000000 : Int) else L (Int.toNat i) then (2000000000 : Int)
   else if (-2000000000 : Int) > L (Int.toNat i) then (-2000000000 : Int) else L (Int.toNat i)) -
   er)
   else w64 (x1 - st)) >
   if
   w64 (w64 ((2000000000 : Int) - er) - (1 : Int)) <
   if
   w64
   ((if (2000000000 : Int) < if (-2000000000 : Int) > L (Int.toNat i) then (-2000000000 : Int) else L (Int.toNat i) then (2000000000 : Int)
   else if (-2000000000 : Int) > L (Int.toNat i) then (-2000000000 : Int) else L (Int.toNat i)) +
   er) <
   w64 (x2 + st) then
   w64
   ((if (2000000000 : Int) < if (-2000000000 : Int) > L (Int.toNat i) then (-2000000000 : Int) else L (Int.toNat i) then (2000000000 : Int)
   else if (-2000000000 : Int) > L (Int.toNat i) then (-2000000000 : Int) else L (Int.toNat i)) +
   er)
   else w64 (x2 + st) then
   w64 (w64 ((2000000000 : Int) - er) - (1 : Int))
   else
   if
   w64
   ((if (2000000000 : Int) < if (-2000000000 : Int) > L (Int.toNat i) then (-2000000000 : Int) else L (Int.toNat i) then (2000000000 : Int)
   else if (-2000000000 : Int) > L (Int.toNat i) then (-2000000000 : Int) else L (Int.toNat i)) +
   er) <
   w64 (x2 + st) then
   w64
   ((if (2000000000 : Int) < if (-2000000000 : Int) > L (Int.toNat i) then (-2000000000 : Int) else L (Int.toNat i) then (2000000000 : Int)
   else if (-2000000000 : Int) > L (Int.toNat i) then (-2000000000 : Int) else L (Int.toNat i)) +
   er)
   else w64 (x2 + st)))
   (.ret
   (.ret,
   {
   tm :=
   [.unk, .unk, .ok (.fn (Fn.func 75) [] [.ptr 3 0]), .ok (.ptr 4 0), .unk, .unk, .ok (iv (440 : Int)),
   .ok (.ptr 5 0), .unk, .unk, .unk, .unk, .unk, .unk, .unk,
   .ok (.d (.ro n 1 fun i x => .x (.int .i64 (L i)))), .ok (iv (↑n : Int)), .ok (iv i), .unk, .unk, .unk, .unk, .unk, .unk,
   .unk, .unk, .unk, .unk, .unk, .unk, .unk, .unk, .unk, .unk, .unk, .unk, .unk, .unk, .unk, .unk, .unk, .unk, .unk, .unk, .unk,
   .unk, .unk, .unk, .unk, .unk],
   hp :=
   [some (.cells [iv (0 : Int), iv (0 : Int), iv (0 : Int), iv (0 : Int)]), some (.cells [iv lo, iv hi, iv st, iv er]), none,
   some (.cells [.row 11 0 0 m 2]), some (.cells [iv lo, iv hi, iv st, iv er]),
   some
   (.cells
   [iv
   (if
   (1 : Int) >
   if
   w64
   ((if (2000000000 : Int) < if (-2000000000 : Int) > L (Int.toNat i) then (-2000000000 : Int) else L (Int.toNat i) then (2000000000 : Int)
   else if (-2000000000 : Int) > L (Int.toNat i) then (-2000000000 : Int) else L (Int.toNat i)) -
   er) >
   w64 (x1 - st) then
   w64
   ((if (2000000000 : Int) < if (-2000000000 : Int) > L (Int.toNat i) then (-2000000000 : Int) else L (Int.toNat i) then (2000000000 : Int)
   else if (-2000000000 : Int) > L (Int.toNat i) then (-2000000000 : Int) else L (Int.toNat i)) -
   er)
   else w64 (x1 - st) then
   (1 : Int)
   else
   if
   w64
   ((if (2000000000 : Int) < if (-2000000000 : Int) > L (Int.toNat i) then (-2000000000 : Int) else L (Int.toNat i) then (2000000000 : Int)
   else if (-2000000000 : Int) > L (Int.toNat i) then (-2000000000 : Int) else L (Int.toNat i)) -
   er) >
   w64 (x1 - st) then
   w64
   ((if (2000000000 : Int) < if (-2000000000 : Int) > L (Int.toNat i) then (-2000000000 : Int) else L (Int.toNat i) then (2000000000 : Int)
   else if (-2000000000 : Int) > L (Int.toNat i) then (-2000000000 : Int) else L (Int.toNat i)) -
   er)
   else w64 (x1 - st)),
   iv
   (if
   w64 (w64 ((2000000000 : Int) - er) - (1 : Int)) <
   if
   w64
   ((if (2000000000 : Int) < if (-2000000000 : Int) > L (Int.toNat i) then (-2000000000 : Int) else L (Int.toNat i) then (2000000000 : Int)
   else if (-2000000000 : Int) > L (Int.toNat i) then (-2000000000 : Int) else L (Int.toNat i)) +
   er) <
   w64 (x2 + st) then
   w64
   ((if (2000000000 : Int) < if (-2000000000 : Int) > L (Int.toNat i) then (-2000000000 : Int) else L (Int.toNat i) then (2000000000 : Int)
   else if (-2000000000 : Int) > L (Int.toNat i) then (-2000000000 : Int) else L (Int.toNat i)) +
   er)
   else w64 (x2 + st) then
   w64 (w64 ((2000000000 : Int) - er) - (1 : Int))
   else
   if
   w64
   ((if (2000000000 : Int) < if (-2000000000 : Int) > L (Int.toNat i) then (-2000000000 : Int) else L (Int.toNat i) then (2000000000 : Int)
   else if (-2000000000 : Int) > L (Int.toNat i) then (-2000000000 : Int) else L (Int.toNat i)) +
   er) <
   w64 (x2 + st) then
   w64
   ((if (2000000000 : Int) < if (-2000000000 : Int) > L (Int.toNat i) then (-2000000000 : Int) else L (Int.toNat i) then (2000000000 : Int)
   else if (-2000000000 : Int) > L (Int.toNat i) then (-2000000000 : Int) else L (Int.toNat i)) +
   er)
   else w64 (x2 + st))]),
   none, none, none, none, none,
   some
   (.row m 2 fun a b =>
   match b with
   | (0 : Nat) => .x (.int .i64 (sl a))
   | x => .x (.int .i64 (sh a)))],
   next := 12, hint := .nil }))
   (.need
   (0 + m ≤ m ∧
   2 ≤
   List.length
   [iv
   (if
   (1 : Int) >
   if
   w64
   ((if (2000000000 : Int) < if (-2000000000 : Int) > L (Int.toNat i) then (-2000000000 : Int) else L (Int.toNat i) then (2000000000 : Int)
   else if (-2000000000 : Int) > L (Int.toNat i) then (-2000000000 : Int) else L (Int.toNat i)) -
   er) >
   w64 (x1 - st) then
   w64
   ((if (2000000000 : Int) < if (-2000000000 : Int) > L (Int.toNat i) then (-2000000000 : Int) else L (Int.toNat i) then (2000000000 : Int)
   else if (-2000000000 : Int) > L (Int.toNat i) then (-2000000000 : Int) else L (Int.toNat i)) -
   er)
   else w64 (x1 - st) then
   (1 : Int)
   else
   if
   w64
   ((if (2000000000 : Int) < if (-2000000000 : Int) > L (Int.toNat i) then (-2000000000 : Int) else L (Int.toNat i) then (2000000000 : Int)
   else if (-2000000000 : Int) > L (Int.toNat i) then (-2000000000 : Int) else L (Int.toNat i)) -
   er) >
   w64 (x1 - st) then
   w64
   ((if (2000000000 : Int) < if (-2000000000 : Int) > L (Int.toNat i) then (-2000000000 : Int) else L (Int.toNat i) then (2000000000 : Int)
   else if (-2000000000 : Int) > L (Int.toNat i) then (-2000000000 : Int) else L (Int.toNat i)) -
   er)
   else w64 (x1 - st)),
   iv
   (if
   w64 (w64 ((2000000000 : Int) - er) - (1 : Int)) <
   if
   w64
   ((if (2000000000 : Int) < if (-2000000000 : Int) > L (Int.toNat i) then (-2000000000 : Int) else L (Int.toNat i) then (2000000000 : Int)
   else if (-2000000000 : Int) > L (Int.toNat i) then (-2000000000 : Int) else L (Int.toNat i)) +
   er) <
   w64 (x2 + st) then
   w64
   ((if (2000000000 : Int) < if (-2000000000 : Int) > L (Int.toNat i) then (-2000000000 : Int) else L (Int.toNat i) then (2000000000 : Int)
   else if (-2000000000 : Int) > L (Int.toNat i) then (-2000000000 : Int) else L (Int.toNat i)) +
   er)
   else w64 (x2 + st) then
   w64 (w64 ((2000000000 : Int) - er) - (1 : Int))
   else
   if
   w64
   ((if (2000000000 : Int) < if (-2000000000 : Int) > L (Int.toNat i) then (-2000000000 : Int) else L (Int.toNat i) then (2000000000 : Int)
   else if (-2000000000 : Int) > L (Int.toNat i) then (-2000000000 : Int) else L (Int.toNat i)) +
   er) <
   w64 (x2 + st) then
   w64
   ((if (2000000000 : Int) < if (-2000000000 : Int) > L (Int.toNat i) then (-2000000000 : Int) else L (Int.toNat i) then (2000000000 : Int)
   else if (-2000000000 : Int) > L (Int.toNat i) then (-2000000000 : Int) else L (Int.toNat i)) +
   er)
   else w64 (x2 + st))] ∧
   (m + 1) * 16 ≤ 140737488355328)
   (.ret
   (.normal,
   {
   tm :=
   [.unk, .unk, .ok (.fn (Fn.func 75) [] [.ptr 3 0]), .ok (.ptr 4 0), .unk, .unk, .ok (iv (0 : Int)),
   .ok (.ptr 5 0), .unk, .unk, .unk, .unk, .unk, .unk, .unk,
   .ok (.d (.ro n 1 fun i x => .x (.int .i64 (L i)))), .ok (iv (↑n : Int)), .ok (iv (w64 (i + (1 : Int)))), .unk, .unk, .unk,
   .unk, .unk, .unk, .unk, .unk, .unk, .unk, .unk, .unk, .unk, .unk, .unk, .unk, .unk, .unk, .unk, .unk, .unk, .unk, .unk,
   .unk, .unk, .unk, .unk, .unk, .unk, .unk, .unk, .unk],
   hp :=
   [some (.cells [iv (0 : Int), iv (0 : Int), iv (0 : Int), iv (0 : Int)]), some (.cells [iv lo, iv hi, iv st, iv er]), none,
   some (.cells [.row 11 0 0 (m + 1) 2]), some (.cells [iv lo, iv hi, iv st, iv er]),
   some
   (.cells
   [iv
   (if
   (1 : Int) >
   if
   w64
   ((if (2000000000 : Int) < if (-2000000000 : Int) > L (Int.toNat i) then (-2000000000 : Int) else L (Int.toNat i) then (2000000000 : Int)
   else if (-2000000000 : Int) > L (Int.toNat i) then (-2000000000 : Int) else L (Int.toNat i)) -
   er) >
   w64 (x1 - st) then
   w64
   ((if (2000000000 : Int) < if (-2000000000 : Int) > L (Int.toNat i) then (-2000000000 : Int) else L (Int.toNat i) then (2000000000 : Int)
   else if (-2000000000 : Int) > L (Int.toNat i) then (-2000000000 : Int) else L (Int.toNat i)) -
   er)
   else w64 (x1 - st) then
   (1 : Int)
   else
   if
   w64
   ((if (2000000000 : Int) < if (-2000000000 : Int) > L (Int.toNat i) then (-2000000000 : Int) else L (Int.toNat i) then (2000000000 : Int)
   else if (-2000000000 : Int) > L (Int.toNat i) then (-2000000000 : Int) else L (Int.toNat i)) -
   er) >
   w64 (x1 - st) then
   w64
   ((if (2000000000 : Int) < if (-2000000000 : Int) > L (Int.toNat i) then (-2000000000 : Int) else L (Int.toNat i) then (2000000000 : Int)
   else if (-2000000000 : Int) > L (Int.toNat i) then (-2000000000 : Int) else L (Int.toNat i)) -
   er)
   else w64 (x1 - st)),
   iv
   (if
   w64 (w64 ((2000000000 : Int) - er) - (1 : Int)) <
   if
   w64
   ((if (2000000000 : Int) < if (-2000000000 : Int) > L (Int.toNat i) then (-2000000000 : Int) else L (Int.toNat i) then (2000000000 : Int)
   else if (-2000000000 : Int) > L (Int.toNat i) then (-2000000000 : Int) else L (Int.toNat i)) +
   er) <
   w64 (x2 + st) then
   w64
   ((if (2000000000 : Int) < if (-2000000000 : Int) > L (Int.toNat i) then (-2000000000 : Int) else L (Int.toNat i) then (2000000000 : Int)
   else if (-2000000000 : Int) > L (Int.toNat i) then (-2000000000 : Int) else L (Int.toNat i)) +
   er)
   else w64 (x2 + st) then
   w64 (w64 ((2000000000 : Int) - er) - (1 : Int))
   else
   if
   w64
   ((if (2000000000 : Int) < if (-2000000000 : Int) > L (Int.toNat i) then (-2000000000 : Int) else L (Int.toNat i) then (2000000000 : Int)
   else if (-2000000000 : Int) > L (Int.toNat i) then (-2000000000 : Int) else L (Int.toNat i)) +
   er) <
   w64 (x2 + st) then
   w64
   ((if (2000000000 : Int) < if (-2000000000 : Int) > L (Int.toNat i) then (-2000000000 : Int) else L (Int.toNat i) then (2000000000 : Int)
   else if (-2000000000 : Int) > L (Int.toNat i) then (-2000000000 : Int) else L (Int.toNat i)) +
   er)
   else w64 (x2 + st))]),
   none, none, none, none, none,
   some
   (.row (m + 1) 2 fun a b =>
   selD (decide (a < m)) (scell sl sh (0 + a) b)
   (dsAt
   [.x
   (.int .i64
   (if
   (1 : Int) >
   if
   w64
   ((if (2000000000 : Int) < if (-2000000000 : Int) > L (Int.toNat i) then (-2000000000 : Int) else L (Int.toNat i) then (2000000000 : Int)
   else if (-2000000000 : Int) > L (Int.toNat i) then (-2000000000 : Int) else L (Int.toNat i)) -
   er) >
   w64 (x1 - st) then
   w64
   ((if (2000000000 : Int) < if (-2000000000 : Int) > L (Int.toNat i) then (-2000000000 : Int) else L (Int.toNat i) then (2000000000 : Int)
   else if (-2000000000 : Int) > L (Int.toNat i) then (-2000000000 : Int) else L (Int.toNat i)) -
   er)
   else w64 (x1 - st) then
   (1 : Int)
   else
   if
   w64
   ((if (2000000000 : Int) < if (-2000000000 : Int) > L (Int.toNat i) then (-2000000000 : Int) else L (Int.toNat i) then (2000000000 : Int)
   else if (-2000000000 : Int) > L (Int.toNat i) then (-2000000000 : Int) else L (Int.toNat i)) -
   er) >
   w64 (x1 - st) then
   w64
   ((if (2000000000 : Int) < if (-2000000000 : Int) > L (Int.toNat i) then (-2000000000 : Int) else L (Int.toNat i) then (2000000000 : Int)
   else if (-2000000000 : Int) > L (Int.toNat i) then (-2000000000 : Int) else L (Int.toNat i)) -
   er)
   else w64 (x1 - st))),
   .x
   (.int .i64
   (if
   w64 (w64 ((2000000000 : Int) - er) - (1 : Int)) <
   if
   w64
   ((if (2000000000 : Int) < if (-2000000000 : Int) > L (Int.toNat i) then (-2000000000 : Int) else L (Int.toNat i) then (2000000000 : Int)
   else if (-2000000000 : Int) > L (Int.toNat i) then (-2000000000 : Int) else L (Int.toNat i)) +
   er) <
   w64 (x2 + st) then
   w64
   ((if (2000000000 : Int) < if (-2000000000 : Int) > L (Int.toNat i) then (-2000000000 : Int) else L (Int.toNat i) then (2000000000 : Int)
   else if (-2000000000 : Int) > L (Int.toNat i) then (-2000000000 : Int) else L (Int.toNat i)) +
   er)
   else w64 (x2 + st) then
   w64 (w64 ((2000000000 : Int) - er) - (1 : Int))
   else
   if
   w64
   ((if (2000000000 : Int) < if (-2000000000 : Int) > L (Int.toNat i) then (-2000000000 : Int) else L (Int.toNat i) then (2000000000 : Int)
   else if (-2000000000 : Int) > L (Int.toNat i) then (-2000000000 : Int) else L (Int.toNat i)) +
   er) <
   w64 (x2 + st) then
   w64
   ((if (2000000000 : Int) < if (-2000000000 : Int) > L (Int.toNat i) then (-2000000000 : Int) else L (Int.toNat i) then (2000000000 : Int)
   else if (-2000000000 : Int) > L (Int.toNat i) then (-2000000000 : Int) else L (Int.toNat i)) +
   er)
   else w64 (x2 + st)))]
   (0 + (0 + (a - m)) * 2 + b)))],
   next := 12, hint := .nil })))))))))))))))))))))))))))))))))
  (.ret
   (.exit 0,
   {
   tm :=
   [.unk, .unk, .ok (.fn (Fn.func 75) [] [.ptr 3 0]), .ok (.ptr 4 0), .unk, .unk, .ok (iv (0 : Int)), .ok (.ptr 5 0), .unk, .unk,
   .unk, .unk, .unk, .unk, .unk, .ok (.d (.ro n 1 fun i x => .x (.int .i64 (L i)))), .ok (iv (↑n : Int)), .ok (iv i), .unk, .unk, .unk, .unk, .unk, .unk, .unk, .unk,
   .unk, .unk, .unk, .unk, .unk, .unk, .unk, .unk, .unk, .unk, .unk, .unk, .unk, .unk, .unk, .unk, .unk, .unk, .unk, .unk, .unk, .unk, .unk, .unk],
   hp :=
   [some (.cells [iv (0 : Int), iv (0 : Int), iv (0 : Int), iv (0 : Int)]), some (.cells [iv lo, iv hi, iv st, iv er]), none, some (.cells [.row 11 0 0 m 2]),
   some (.cells [iv lo, iv hi, iv st, iv er]), some (.cells [iv x1, iv x2]), none, none, none, none, none,
   some
   (.row m 2 fun a b =>
   match b with
   | (0 : Nat) => .x (.int .i64 (sl a))
   | x => .x (.int .i64 (sh a)))],
   next := 12, hint := .nil }))

theorem BS_eq (lo hi st er : Int) (n : Nat) (L : Nat → Int) (x1 x2 i : Int) (m : Nat) (sl sh : Nat → Int) : cutT 11 [(.cell (.base 3) 0, 11)] [2, 3, 6, 7, 15, 16, 17] [2, 6, 7, 8, 9, 10] 12 .nil (exec Try.prog C3 D3 200 (loopN (bodyOf Try.prog 74) 0) (invS lo hi st er n L 0 x1 x2 i m sl sh)) = BS lo hi st er n L x1 x2 i m sl sh := by kernel_rfl

noncomputable def KS (lo hi st er : Int) (n : Nat) (L : Nat → Int) (x1 x2 i : Int) (m : Nat) (sl sh : Nat → Int) : Tree SV :=
  .need (0 + m ≤ m) (.ret (.tup [.agg [iv lo, iv hi, iv st, iv er], .d (.ro m 2 fun i j => scell sl sh (0 + i) j), iv (0 : Int)]))

theorem KS_eq (lo hi st er : Int) (n : Nat) (L : Nat → Int) (x1 x2 i : Int) (m : Nat) (sl sh : Nat → Int) : codeK (sub [1, 0, 0] (tS lo hi st er n L)) (.exit 0) (invS lo hi st er n L 0 x1 x2 i m sl sh) = KS lo hi st er n L x1 x2 i m sl sh := by kernel_rfl

noncomputable def KR (lo hi st er : Int) (n : Nat) (L : Nat → Int) (e x1 x2 i : Int) (m : Nat) (sl sh : Nat → Int) : Tree SV :=
  .need (0 + m ≤ m) (.ret (.tup [.agg [iv lo, iv hi, iv st, iv er], .d (.ro m 2 fun i j => scell sl sh (0 + i) j), iv e]))

theorem KR_eq (lo hi st er : Int) (n : Nat) (L : Nat → Int) (e x1 x2 i : Int) (m : Nat) (sl sh : Nat → Int) : codeK (sub [1, 0, 0] (tS lo hi st er n L)) .ret (invS lo hi st er n L e x1 x2 i m sl sh) = KR lo hi st er n L e x1 x2 i m sl sh := by kernel_rfl


noncomputable def bodyS : Code := loopN (bodyOf Try.prog 74) 0
theorem CS (lo hi st er : Int) (n : Nat) (L : Nat → Int) : codeC (sub [1, 0, 0] (tS lo hi st er n L)) = .loop bodyS := by kernel_rfl
theorem NS (lo hi st er : Int) (n : Nat) (L : Nat → Int) : Nat.ble (codeS (sub [1, 0, 0] (tS lo hi st er n L))).next 11 = true := by kernel_rfl

end Go.Proofs.Ytcbjclmjkilphaa

