/- Part of a proof of the given statements of this seat (SxFlWd, SxFlWe, SxFlWf, SxFlWg, SxFlWh, SxFlWi, SxSmall, SxFlWj, SxFlWk): no conditions beyond those typed here. -/
import Derived.Test.YtpaejfeojdoikaaSy07
import Derived.Test.YtpaejfeojdoikaaSy04
set_option linter.unusedVariables false
set_option linter.unusedSimpArgs false

namespace Go.Proofs.Ytpaejfeojdoikaa
open Go.Sx
set_option maxRecDepth 100000

/-! ### The operations of package fraction -/

theorem wN_parts (T : Nat) : wN ((T / 18446744073709551616 : Nat) : Int) ((T % 18446744073709551616 : Nat) : Int) = T := by unfold wN; omega
theorem wuN {n : Nat} (h : n ≤ 4611686018427387904) : IntKind.wrap .u64 (n : Int) = n := wu_of (by omega) (by omega)
theorem w64N {n : Nat} (h : n ≤ 4611686018427387904) : w64 (n : Int) = n := w64_of (by omega) (by omega)
theorem w64_gcdR {x y : Nat} (h : y ≤ 4611686018427387904) (h0 : y ≠ 0) : w64 (((Nat.gcd x y : Nat)) : Int) = (Nat.gcd x y : Nat) := w64N (Nat.le_trans (Nat.gcd_le_right _ (Nat.pos_of_ne_zero h0)) h)
theorem len2 (a b : SV) : 2 ≤ [a, b].length := by simp
theorem parts_b {T : Nat} (h : T ≤ 42535295865117307932921825928971026432) : (0 ≤ ((T / 18446744073709551616 : Nat) : Int) ∧ ((T / 18446744073709551616 : Nat) : Int) < 9223372036854775808) ∧ 0 ≤ ((T % 18446744073709551616 : Nat) : Int) ∧ ((T % 18446744073709551616 : Nat) : Int) < 18446744073709551616 := by omega
theorem parts_n (T : Nat) : 0 ≤ ((T / 18446744073709551616 : Nat) : Int) ∧ 0 ≤ ((T % 18446744073709551616 : Nat) : Int) ∧ ((T % 18446744073709551616 : Nat) : Int) < 18446744073709551616 := by omega
theorem mul_b {x y : Nat} (hx : x ≤ 4611686018427387904) (hy : y ≤ 4611686018427387904) : x * y ≤ 21267647932558653966460912964485513216 := by
  have := Nat.mul_le_mul hx hy; omega

theorem cmpU_sat (p q : Rat) (hp : fitsR p) (hq : fitsR q) : Sat Try.prog (T7 82 [.agg [iv p.num, iv p.den], .agg [iv q.num, iv q.den]]) (· = iv (cmpR p q)) := by
  obtain ⟨p1, p2⟩ := hp
  obtain ⟨q1, q2⟩ := hq
  constructor
  rw [LCp_eq]; unfold LCp
  simp only [wN_parts, nat_neg, natAbs_cast]
  obtain ⟨s1, s2, s3⟩ := sum_sg (!(decide (p.num < 0) == false)) (p.num.natAbs * q.den) (!!(decide (q.num < 0) == false)) (q.num.natAbs * p.den)
  rw [sg_prod2, sg_prod] at s1 s2
  obtain ⟨hlt, heq⟩ := rat_cmp p q
  have b1 := parts_b (T := p.num.natAbs * q.den) (Nat.le_trans (mul_b p1 q2) (by decide))
  have b2 := parts_b (T := q.num.natAbs * p.den) (Nat.le_trans (mul_b q1 p2) (by decide))
  refine ⟨fun hc => ?_, fun hc => ⟨by omega, by omega, ⟨b1.1, b1.2, b2.1, b2.2⟩, ?_⟩⟩
  · have hc : p.num = q.num ∧ p.den = q.den := by
      simp only [Bool.and_true, Bool.and_eq_true, beq_iff_eq] at hc; exact ⟨hc.1, by omega⟩
    have : p = q := Rat.ext hc.1 hc.2
    rw [cmpR, if_neg (by rw [this]; exact Rat.lt_irrefl), if_pos this]; exact rfl
  · have hne : p.num * ↑q.den + -(q.num * ↑p.den) ≠ 0 := by
      intro h
      have : p = q := heq.2 (by omega)
      subst this
      simp at hc
    have hs0 : sV (!(decide (p.num < 0) == false)) (p.num.natAbs * q.den) (!!(decide (q.num < 0) == false)) (q.num.natAbs * p.den) ≠ 0 := by rw [s1]; omega
    rw [s2 hs0]
    refine ⟨fun hs => ?_, fun hs => ?_⟩
    · have hs := of_decide_eq_true hs
      rw [cmpR, if_pos (hlt.2 (by omega))]; exact rfl
    · have hs := of_decide_eq_false hs
      rw [cmpR, if_neg (fun h => hs (by have := hlt.1 h; omega)), if_neg (fun h => hne (by have := heq.1 h; omega))]; exact rfl

theorem mulU_sat (p q : Rat) (hp : fitsR p) (hq : fitsR q) : Sat Try.prog (T7 47 [.agg [iv p.num, iv p.den], .agg [iv q.num, iv q.den]]) (· = .tup [.agg [iv (rN (p * q)), iv (rD (p * q))], iv (rE (p * q))]) := by
  obtain ⟨p1, p2⟩ := hp
  obtain ⟨q1, q2⟩ := hq
  constructor
  rw [LMu_eq]; unfold LMu
  simp only [wuN p2, wuN q2, Int.gcd_natCast_natCast, w64_gcdR p2 (Nat.ne_of_gt p.den_pos), w64_gcdR q2 (Nat.ne_of_gt q.den_pos), w64_div p2, w64_div q2, w64_tdiv p1, w64_tdiv q1, wN_parts, natAbs_cast, nat_neg]
  obtain ⟨r1, r2⟩ := rat_mul p q rfl rfl
  have hg0 : 0 < p.num.natAbs.gcd q.den := Nat.gcd_pos_of_pos_right _ q.den_pos
  have hh0 : 0 < q.num.natAbs.gcd p.den := Nat.gcd_pos_of_pos_right _ p.den_pos
  have a1 : (Int.tdiv p.num (p.num.natAbs.gcd q.den : Nat)).natAbs ≤ p.num.natAbs := by rw [Int.natAbs_tdiv]; exact Nat.div_le_self _ _
  have a2 : (Int.tdiv q.num (q.num.natAbs.gcd p.den : Nat)).natAbs ≤ q.num.natAbs := by rw [Int.natAbs_tdiv]; exact Nat.div_le_self _ _
  have b1 := Nat.div_le_self p.den (q.num.natAbs.gcd p.den)
  have b2 := Nat.div_le_self q.den (p.num.natAbs.gcd q.den)
  generalize p.num.natAbs.gcd q.den = g at *
  generalize q.num.natAbs.gcd p.den = h at *
  generalize Int.tdiv p.num (g : Int) = a at *
  generalize Int.tdiv q.num (h : Int) = c at *
  generalize p.den / h = b at *
  generalize q.den / g = d at *
  have hfin := fin_eq (r := p * q) (S := !(decide (a < 0) == decide (c < 0))) (V := a.natAbs * c.natAbs) (D := b * d) (by rw [r1]; exact sg_mul a c) r2.symm
  refine ⟨fun hc => ?_, fun hc => ?_⟩
  · have hz : p * q = 0 := by
      simp only [Bool.or_eq_true, beq_iff_eq] at hc
      rcases hc with h | h
      · rw [Rat.num_eq_zero.1 h, Rat.zero_mul]
      · rw [Rat.num_eq_zero.1 h, Rat.mul_zero]
    rw [hz, r_zero.1, r_zero.2.1, r_zero.2.2]; exact rfl
  · rw [← hfin.1, ← hfin.2.1, ← hfin.2.2]
    refine ⟨by omega, len2 _ _, by omega, by omega, len2 _ _, by omega, by omega, by omega, by omega, by omega, by omega, by omega, ⟨by omega, by omega, by decide⟩, ?_⟩
    exact rfl

theorem addU_sat (p q : Rat) (hp : fitsR p) (hq : fitsR q) : Sat Try.prog (T8 28 [.agg [iv p.num, iv p.den], .agg [iv q.num, iv q.den]]) (· = .tup [.agg [iv (rN (p + q)), iv (rD (p + q))], iv (rE (p + q))]) := by
  obtain ⟨p1, p2⟩ := hp
  obtain ⟨q1, q2⟩ := hq
  constructor
  rw [LAd_eq]; unfold LAd
  simp only [wuN p2, wuN q2, Int.gcd_natCast_natCast, w64_gcdR q2 (Nat.ne_of_gt q.den_pos), w64_div p2, w64_div q2, wN_parts, nat_neg, natAbs_cast, Int.toNat_natCast]
  have hra := rat_add p q rfl rfl rfl
  have hg0 : 0 < p.den.gcd q.den := Nat.gcd_pos_of_pos_left _ p.den_pos
  have hga : p.den.gcd q.den ≤ p.den := Nat.le_of_dvd p.den_pos (Nat.gcd_dvd_left _ _)
  have hA := Nat.div_le_self p.den (p.den.gcd q.den)
  have hB := Nat.div_le_self q.den (p.den.gcd q.den)
  have c1 := sg_prod p.num (q.den / p.den.gcd q.den)
  have c2 := sg_prod q.num (p.den / p.den.gcd q.den)
  generalize hg : p.den.gcd q.den = g at *
  generalize hAe : p.den / g = A at *
  generalize hBe : q.den / g = B at *
  obtain ⟨s1, s2, s3⟩ := sum_sg (!(decide (p.num < 0) == false)) (p.num.natAbs * B) (!(decide (q.num < 0) == false)) (q.num.natAbs * A)
  rw [c1, c2] at s1 s2
  have m1 : p.num.natAbs * B ≤ 21267647932558653966460912964485513216 := mul_b p1 (by omega)
  have m2 : q.num.natAbs * A ≤ 21267647932558653966460912964485513216 := mul_b q1 (by omega)
  have hVb : sV (!(decide (p.num < 0) == false)) (p.num.natAbs * B) (!(decide (q.num < 0) == false)) (q.num.natAbs * A) ≤ 42535295865117307932921825928971026432 := by
    unfold sV; split
    · omega
    · split <;> omega
  have k1 := parts_b (Nat.le_trans m1 (by decide))
  have k2 := parts_b (Nat.le_trans m2 (by decide))
  generalize hV : sV (!(decide (p.num < 0) == false)) (p.num.natAbs * B) (!(decide (q.num < 0) == false)) (q.num.natAbs * A) = V at *
  generalize hS : sN (!(decide (p.num < 0) == false)) (p.num.natAbs * B) (!(decide (q.num < 0) == false)) (q.num.natAbs * A) = S at *
  generalize hT : p.num * (B : Int) + q.num * (A : Int) = T at *
  have k3 := parts_b hVb
  have hh : (V % g).gcd g = T.natAbs.gcd g := by rw [s1, Nat.gcd_comm T.natAbs g, Nat.gcd_rec g]
  rw [hh]
  obtain ⟨r1, r2⟩ := hra
  have hh0 : 0 < T.natAbs.gcd g := Nat.gcd_pos_of_pos_right _ hg0
  have hhg : T.natAbs.gcd g ≤ g := Nat.le_of_dvd hg0 (Nat.gcd_dvd_right _ _)
  have hhd : T.natAbs.gcd g ∣ T.natAbs := Nat.gcd_dvd_left _ _
  have hD := Nat.div_le_self q.den (T.natAbs.gcd g)
  generalize T.natAbs.gcd g = h at *
  simp only [w64N (show h ≤ 4611686018427387904 by omega), w64_div q2, natAbs_cast, nat_neg]
  generalize hDe : q.den / h = D at *
  refine ⟨len2 _ _, by omega, by omega, by omega, by omega, by omega, ⟨k1.1, k1.2, k2.1, k2.2⟩, fun hc => ?_, fun hc => ?_⟩
  · have hc : V = 0 := by simp only [Bool.and_eq_true, beq_iff_eq] at hc; omega
    have hT0 : T = 0 := by omega
    have : p + q = 0 := Rat.num_eq_zero.1 (by rw [r1, hT0]; simp)
    rw [this, r_zero.1, r_zero.2.1, r_zero.2.2]; exact rfl
  · have hc : V ≠ 0 := by
      rintro rfl
      simp at hc
    have hfin := fin_eq (r := p + q) (S := S) (V := V / h) (D := A * D) (by rw [r1, s1]; exact sg_div (by omega) (s2 hc) hhd) r2.symm
    have hVh := Nat.div_le_self V h
    rw [← hfin.1, ← hfin.2.1, ← hfin.2.2]
    refine ⟨⟨by omega, by omega, by omega, by omega⟩, len2 _ _, by omega, ⟨by omega, by omega, by omega, by omega⟩, by omega, by omega, ⟨by omega, by omega, by omega⟩, ⟨parts_n _, parts_n _, by decide⟩, ?_⟩
    exact rfl

noncomputable def cAddU : Ctr := fun ss => match ss with
  | [.agg [.d (.x (.int .i64 a)), .d (.x (.int .i64 b))], .agg [.d (.x (.int .i64 c)), .d (.x (.int .i64 d))]] => .need (VF a b ∧ VF c d) (.ret (.tup [.agg [iv (rN (ratOf a b + ratOf c d)), iv (rD (ratOf a b + ratOf c d))], iv (rE (ratOf a b + ratOf c d))]))
  | _ => .fail
theorem cAddU_ok : CtrOK Try.prog 28 cAddU := by
  refine ctrOK_leS C8_ok D8_ok (by kernel_rfl) (by kernel_rfl) fun ss r h => ?_
  unfold cAddU at h
  split at h
  · rename_i a b c d
    obtain ⟨⟨h1, h2⟩, rfl⟩ := h
    have := addU_sat _ _ h1.fits h2.fits
    rw [h1.low.num, h1.low.den, h2.low.num, h2.low.den] at this
    exact ⟨[.agg [iv a, iv b], .agg [iv c, iv d]], 200, .nil, by simp [leSVs, leSV, iv, leD], this⟩
  · exact h.elim
noncomputable def cMulU : Ctr := fun ss => match ss with
  | [.agg [.d (.x (.int .i64 a)), .d (.x (.int .i64 b))], .agg [.d (.x (.int .i64 c)), .d (.x (.int .i64 d))]] => .need (VF a b ∧ VF c d) (.ret (.tup [.agg [iv (rN (ratOf a b * ratOf c d)), iv (rD (ratOf a b * ratOf c d))], iv (rE (ratOf a b * ratOf c d))]))
  | _ => .fail
theorem cMulU_ok : CtrOK Try.prog 47 cMulU := by
  refine ctrOK_leS C7_ok D7_ok (by kernel_rfl) (by kernel_rfl) fun ss r h => ?_
  unfold cMulU at h
  split at h
  · rename_i a b c d
    obtain ⟨⟨h1, h2⟩, rfl⟩ := h
    have := mulU_sat _ _ h1.fits h2.fits
    rw [h1.low.num, h1.low.den, h2.low.num, h2.low.den] at this
    exact ⟨[.agg [iv a, iv b], .agg [iv c, iv d]], 200, .nil, by simp [leSVs, leSV, iv, leD], this⟩
  · exact h.elim
noncomputable def cCmpU : Ctr := fun ss => match ss with
  | [.agg [.d (.x (.int .i64 a)), .d (.x (.int .i64 b))], .agg [.d (.x (.int .i64 c)), .d (.x (.int .i64 d))]] => .need (VF a b ∧ VF c d) (.ret (iv (cmpR (ratOf a b) (ratOf c d))))
  | _ => .fail
theorem cCmpU_ok : CtrOK Try.prog 82 cCmpU := by
  refine ctrOK_leS C7_ok D7_ok (by kernel_rfl) (by kernel_rfl) fun ss r h => ?_
  unfold cCmpU at h
  split at h
  · rename_i a b c d
    obtain ⟨⟨h1, h2⟩, rfl⟩ := h
    have := cmpU_sat _ _ h1.fits h2.fits
    rw [h1.low.num, h1.low.den, h2.low.num, h2.low.den] at this
    exact ⟨[.agg [iv a, iv b], .agg [iv c, iv d]], 200, .nil, by simp [leSVs, leSV, iv, leD], this⟩
  · exact h.elim

noncomputable def cValU : Ctr := fun ss => match ss with
  | [.agg [.d (.x (.int .i64 a)), .d (.x (.int .i64 b))]] => .ret (bv (vB a b))
  | _ => .fail
theorem cValU_ok : CtrOK Try.prog 97 cValU := by
  refine ctrOK_leS C7_ok D7_ok (by kernel_rfl) (by kernel_rfl) fun ss r h => ?_
  unfold cValU at h
  split at h
  · rename_i a b
    obtain rfl := h
    refine ⟨[.agg [iv a, iv b]], 200, .nil, by simp [leSVs, leSV, iv, leD], Sat.of_eq (LVd_eq a b) ⟨?_⟩⟩
    unfold LVd
    refine ⟨fun h => ⟨?_, len2 _ _, ?_, ?_⟩, fun h => ?_⟩
    · simp only [Bool.and_eq_true, decide_eq_true_eq] at h; omega
    · have := wu_nonneg b; omega
    · show bv _ = bv _
      refine congrArg bv ?_
      rw [Bool.eq_iff_iff]
      unfold vB
      simp only [Bool.and_eq_true, decide_eq_true_eq, beq_iff_eq] at h ⊢
      rw [wu_of (n := b) (by omega) (by omega)]
      have : Int.gcd (a.natAbs : Int) b = a.natAbs.gcd b.toNat := by rw [Int.gcd]; congr 1; omega
      constructor
      · intro h5; exact ⟨⟨⟨by omega, by omega⟩, by omega⟩, by omega⟩
      · rintro ⟨_, h5⟩; omega
    · show bv _ = bv _
      refine congrArg bv ?_
      symm
      rw [Bool.eq_false_iff]
      unfold vB
      intro h2
      simp only [Bool.and_eq_true, decide_eq_true_eq] at h2
      rw [Bool.eq_false_iff] at h
      refine h ?_
      simp only [Bool.and_eq_true, decide_eq_true_eq]
      omega
  · exact h.elim

end Go.Proofs.Ytpaejfeojdoikaa

namespace Go.Proofs.Ytpaejfeojdoikaa
open Go.Sx
set_option maxRecDepth 100000

noncomputable def man9 : FuncId → Option Ctr := fun k => match k with
  | 28 => some cAddU
  | 47 => some cMulU
  | 82 => some cCmpU
  | 97 => some cValU
  | 40 => some cAddR
  | 137 => some cMulR
  | 78 => some cCmpR
  | 21 => some cValR
  | 41 => some cMade
  | 116 => some cMake
  | _ => none
theorem man9_ok (k : Nat) (c : Ctr) (h : man9 k = some c) : CtrOK Try.prog k c ∧ goodF Try.prog k = true := by
  unfold man9 at h
  split at h <;> first | (cases h; done) | (cases h)
  · exact ⟨cAddU_ok, by kernel_rfl⟩
  · exact ⟨cMulU_ok, by kernel_rfl⟩
  · exact ⟨cCmpU_ok, by kernel_rfl⟩
  · exact ⟨cValU_ok, by kernel_rfl⟩
  · exact ⟨cAddR_ok, by kernel_rfl⟩
  · exact ⟨cMulR_ok, by kernel_rfl⟩
  · exact ⟨cCmpR_ok, by kernel_rfl⟩
  · exact ⟨cValR_ok, by kernel_rfl⟩
  · exact ⟨cMade_ok, by kernel_rfl⟩
  · exact ⟨cMake_ok, by kernel_rfl⟩
noncomputable def C9 : Ctx := ctxN Try.prog man9 (fun _ => false) 200 .nil 6
theorem C9_ok : CtxOK Try.prog C9 := ctxN_ok mixed man9_ok 6
noncomputable def D9 : Dr := fun _ => drawn Try.prog C9
theorem D9_ok : DrOK Try.prog C9 D9 := drawn_ok C9_ok mixed
noncomputable def T9 (h : Hint) (k : Nat) (args : List SV) : Tree SV := fnT Try.prog C9 D9 200 (fnOf Try.prog k) (bodyOf Try.prog k) args h

/-- Rounds of a loop whose test is the only one. -/
def uN : Nat → Hint → Hint
  | 0, h => .u (.f h)
  | n + 1, h => .u (.t (uN n h))

noncomputable def LMinR (a b c d : Int) : Tree SV :=
  .need (VF c d ∧ VF a b) (.ite (decide (cmpR (ratOf c d) (ratOf a b) < (0 : Int))) (.ret (SV.agg [iv c, iv d])) (.ret (SV.agg [iv a, iv b])))

theorem LMinR_eq (a b c d : Int) : T9 .nil 83 [.agg [iv a, iv b], .agg [iv c, iv d]] = LMinR a b c d := by kernel_rfl

noncomputable def LMaxR (a b c d : Int) : Tree SV :=
  .need (VF c d ∧ VF a b) (.ite (decide (cmpR (ratOf c d) (ratOf a b) > (0 : Int))) (.ret (SV.agg [iv c, iv d])) (.ret (SV.agg [iv a, iv b])))

theorem LMaxR_eq (a b c d : Int) : T9 .nil 84 [.agg [iv a, iv b], .agg [iv c, iv d]] = LMaxR a b c d := by kernel_rfl

noncomputable def LMinU (a b c d : Int) : Tree SV :=
  .need (VF a b ∧ VF c d) (.ite (decide (cmpR (ratOf a b) (ratOf c d) > (0 : Int))) (.ret (SV.agg [iv c, iv d])) (.ret (SV.agg [iv a, iv b])))

theorem LMinU_eq (a b c d : Int) : T9 .nil 95 [.agg [iv a, iv b], .agg [iv c, iv d]] = LMinU a b c d := by kernel_rfl

noncomputable def LMaxU (a b c d : Int) : Tree SV :=
  .need (VF a b ∧ VF c d) (.ite (decide (cmpR (ratOf a b) (ratOf c d) < (0 : Int))) (.ret (SV.agg [iv c, iv d])) (.ret (SV.agg [iv a, iv b])))

theorem LMaxU_eq (a b c d : Int) : T9 .nil 96 [.agg [iv a, iv b], .agg [iv c, iv d]] = LMaxU a b c d := by kernel_rfl

noncomputable def LSub (a b c d : Int) : Tree SV :=
  .need (VF a b ∧ VF (w64 ((0 : Int) - c)) d) (.ret (SV.agg [iv (rN (ratOf a b + ratOf (w64 ((0 : Int) - c)) d)), iv (rD (ratOf a b + ratOf (w64 ((0 : Int) - c)) d)), iv (rE (ratOf a b + ratOf (w64 ((0 : Int) - c)) d))]))

theorem LSub_eq (a b c d : Int) : T9 .nil 42 [.agg [iv a, iv b], .agg [iv c, iv d]] = LSub a b c d := by kernel_rfl

noncomputable def LFrac (a b : Int) : Tree SV :=
  .need ((41 : Int) ≠ (0 : Int))
  (.need ((6 : Int) ≠ (0 : Int))
    (.need
      (((-4611686018427387904 : Int) ≤ w64 (Int.tmod a (41 : Int) - (20 : Int)) ∧ w64 (Int.tmod a (41 : Int) - (20 : Int)) ≤ (4611686018427387904 : Int)) ∧
        (1 : Int) ≤ w64 ((1 : Int) + Int.tmod b (6 : Int)) ∧ w64 ((1 : Int) + Int.tmod b (6 : Int)) ≤ (4611686018427387904 : Int))
      (.ret
        (SV.agg
          [iv (Rat.num (ratOf (w64 (Int.tmod a (41 : Int) - (20 : Int))) (w64 ((1 : Int) + Int.tmod b (6 : Int))))), iv (↑(Rat.den (ratOf (w64 (Int.tmod a (41 : Int) - (20 : Int))) (w64 ((1 : Int) + Int.tmod b (6 : Int))))) : Int)]))))

theorem LFrac_eq (a b : Int) : T9 .nil 73 [iv a, iv b] = LFrac a b := by kernel_rfl

noncomputable def LAt8 (n : Nat) (c : Nat → Int) (i : Int) : Tree SV :=
  .ite ((↑n : Int) == (0 : Int)) (.ret (iv (0 : Int)))
  (.need ((↑n : Int) ≠ (0 : Int)) (.need ((0 : Int) ≤ Int.tmod i (↑n : Int) ∧ Int.tmod i (↑n : Int) < (↑n : Int)) (.ret (iv (w64 (c (Int.toNat (Int.tmod i (↑n : Int)))))))))

theorem LAt8_eq (n : Nat) (c : Nat → Int) (i : Int) : T9 .nil 74 [ro8 n c, iv i] = LAt8 n c i := by kernel_rfl


end Go.Proofs.Ytpaejfeojdoikaa

namespace Go.Proofs.Ytpaejfeojdoikaa
open Go.Sx
set_option maxRecDepth 100000

/-! ### Results that may not fit -/

noncomputable def fit (r : Rat) : Option Rat := if fitsR r then some r else none
noncomputable def oN : Option Rat → Int | some r => r.num | none => 0
noncomputable def oD : Option Rat → Int | some r => r.den | none => 0
noncomputable def oE {α : Type} : Option α → Int | some _ => 0 | none => 2
theorem fit_of {r : Rat} (h : fitsR r) : fit r = some r := if_pos h
theorem fit_no {r : Rat} (h : ¬ fitsR r) : fit r = none := if_neg h
theorem rN_of {r : Rat} (h : fitsR r) : rN r = r.num := if_pos h
theorem rD_of {r : Rat} (h : fitsR r) : rD r = r.den := if_pos h
theorem rE_of {r : Rat} (h : fitsR r) : rE r = 0 := if_pos h
theorem rE_no {r : Rat} (h : ¬ fitsR r) : rE r = 2 := if_neg h
theorem rN_no {r : Rat} (h : ¬ fitsR r) : rN r = 0 := if_neg h
theorem rD_no {r : Rat} (h : ¬ fitsR r) : rD r = 0 := if_neg h
theorem rE_ne {r : Rat} (h : (rE r != 0) = true) : ¬ fitsR r := fun hf => by rw [rE_of hf] at h; simp at h
theorem rE_eq {r : Rat} (h : (rE r != 0) = false) : fitsR r := Decidable.byContradiction fun hf => by rw [rE_no hf] at h; simp at h
/-- The value of a function at a point. -/
noncomputable def atO (k t v a p q r : Rat) : Option Rat :=
  (fit (t * p)).bind fun x => (fit (k + x)).bind fun s => (fit (v * q)).bind fun y => (fit (s + y)).bind fun s2 => (fit (a * r)).bind fun z => fit (s2 + z)
/-- The side of a corner of a box. -/
noncomputable def crn (c lo hi : Rat) (u : Bool) : Rat := if (decide (c.num ≥ 0) == u) = true then hi else lo
/-- The same, a number alone. -/
def crI (c lo hi : Int) (u : Bool) : Int := if (decide (c ≥ 0) == u) = true then hi else lo
theorem crI_num (c lo hi : Rat) (u : Bool) : crI c.num lo.num hi.num u = (crn c lo hi u).num := by unfold crI crn; split <;> rfl
theorem crI_den (c lo hi : Rat) (u : Bool) : crI c.num lo.den hi.den u = (crn c lo hi u).den := by unfold crI crn; split <;> rfl
noncomputable def pairO : Option Rat → Option Rat → Option (Rat × Rat)
  | some x, some y => some (x, y)
  | _, _ => none
noncomputable def lN (o : Option (Rat × Rat)) : Int := oN (o.map Prod.fst)
noncomputable def lD (o : Option (Rat × Rat)) : Int := oD (o.map Prod.fst)
noncomputable def hN (o : Option (Rat × Rat)) : Int := oN (o.map Prod.snd)
noncomputable def hD (o : Option (Rat × Rat)) : Int := oD (o.map Prod.snd)

def atH : Nat → Hint
  | 0 => .u (.f .nil)
  | n + 1 => .u (.t (.br .nil (.br .nil (atH n))))
def coH : Nat → Hint
  | 0 => .u (.f .nil)
  | n + 1 => .u (.t (.br (coH n) (coH n)))
noncomputable def ZAt (kn kd tn td vn vd an ad pn pd qn qd rn rd : Int) : Tree SV :=
  .need ((0 : Int) ≤ (0 : Int) ∧ (0 : Int) < (4 : Int))
  (.need (0 < 4)
   (.need (true = true)
   (.need ((0 : Int) ≤ (0 : Int) ∧ (0 : Int) < (3 : Int))
   (.need ((0 : Int) ≤ (1 : Int) ∧ (1 : Int) < (4 : Int))
   (.need (1 < 4)
   (.need (VF tn td ∧ VF pn pd)
   (.ite (rE (ratOf tn td * ratOf pn pd) != (0 : Int)) (.ret (SV.tup [SV.agg [iv (0 : Int), iv (0 : Int)], iv (rE (ratOf tn td * ratOf pn pd))]))
   (.need (VF kn kd ∧ VF (rN (ratOf tn td * ratOf pn pd)) (rD (ratOf tn td * ratOf pn pd)))
   (.ite (rE (ratOf kn kd + ratOf (rN (ratOf tn td * ratOf pn pd)) (rD (ratOf tn td * ratOf pn pd))) != (0 : Int))
   (.ret (SV.tup [SV.agg [iv (0 : Int), iv (0 : Int)], iv (rE (ratOf kn kd + ratOf (rN (ratOf tn td * ratOf pn pd)) (rD (ratOf tn td * ratOf pn pd))))]))
   (.need (true = true)
   (.need ((0 : Int) ≤ (1 : Int) ∧ (1 : Int) < (3 : Int))
   (.need ((0 : Int) ≤ (2 : Int) ∧ (2 : Int) < (4 : Int))
   (.need (2 < 4)
   (.need (VF vn vd ∧ VF qn qd)
   (.ite (rE (ratOf vn vd * ratOf qn qd) != (0 : Int)) (.ret (SV.tup [SV.agg [iv (0 : Int), iv (0 : Int)], iv (rE (ratOf vn vd * ratOf qn qd))]))
   (.need
   (VF (rN (ratOf kn kd + ratOf (rN (ratOf tn td * ratOf pn pd)) (rD (ratOf tn td * ratOf pn pd)))) (rD (ratOf kn kd + ratOf (rN (ratOf tn td * ratOf pn pd)) (rD (ratOf tn td * ratOf pn pd)))) ∧
   VF (rN (ratOf vn vd * ratOf qn qd)) (rD (ratOf vn vd * ratOf qn qd)))
   (.ite
   (rE
   (ratOf (rN (ratOf kn kd + ratOf (rN (ratOf tn td * ratOf pn pd)) (rD (ratOf tn td * ratOf pn pd)))) (rD (ratOf kn kd + ratOf (rN (ratOf tn td * ratOf pn pd)) (rD (ratOf tn td * ratOf pn pd)))) +
   ratOf (rN (ratOf vn vd * ratOf qn qd)) (rD (ratOf vn vd * ratOf qn qd))) !=
   (0 : Int))
   (.ret
   (SV.tup
   [SV.agg [iv (0 : Int), iv (0 : Int)],
   iv
   (rE
   (ratOf (rN (ratOf kn kd + ratOf (rN (ratOf tn td * ratOf pn pd)) (rD (ratOf tn td * ratOf pn pd)))) (rD (ratOf kn kd + ratOf (rN (ratOf tn td * ratOf pn pd)) (rD (ratOf tn td * ratOf pn pd)))) +
   ratOf (rN (ratOf vn vd * ratOf qn qd)) (rD (ratOf vn vd * ratOf qn qd))))]))
   (.need (true = true)
   (.need ((0 : Int) ≤ (2 : Int) ∧ (2 : Int) < (3 : Int))
   (.need ((0 : Int) ≤ (3 : Int) ∧ (3 : Int) < (4 : Int))
   (.need (3 < 4)
   (.need (VF an ad ∧ VF rn rd)
   (.ite (rE (ratOf an ad * ratOf rn rd) != (0 : Int)) (.ret (SV.tup [SV.agg [iv (0 : Int), iv (0 : Int)], iv (rE (ratOf an ad * ratOf rn rd))]))
   (.need
   (VF
   (rN
   (ratOf (rN (ratOf kn kd + ratOf (rN (ratOf tn td * ratOf pn pd)) (rD (ratOf tn td * ratOf pn pd))))
   (rD (ratOf kn kd + ratOf (rN (ratOf tn td * ratOf pn pd)) (rD (ratOf tn td * ratOf pn pd)))) +
   ratOf (rN (ratOf vn vd * ratOf qn qd)) (rD (ratOf vn vd * ratOf qn qd))))
   (rD
   (ratOf (rN (ratOf kn kd + ratOf (rN (ratOf tn td * ratOf pn pd)) (rD (ratOf tn td * ratOf pn pd))))
   (rD (ratOf kn kd + ratOf (rN (ratOf tn td * ratOf pn pd)) (rD (ratOf tn td * ratOf pn pd)))) +
   ratOf (rN (ratOf vn vd * ratOf qn qd)) (rD (ratOf vn vd * ratOf qn qd)))) ∧
   VF (rN (ratOf an ad * ratOf rn rd)) (rD (ratOf an ad * ratOf rn rd)))
   (.ite
   (rE
   (ratOf
   (rN
   (ratOf (rN (ratOf kn kd + ratOf (rN (ratOf tn td * ratOf pn pd)) (rD (ratOf tn td * ratOf pn pd))))
   (rD (ratOf kn kd + ratOf (rN (ratOf tn td * ratOf pn pd)) (rD (ratOf tn td * ratOf pn pd)))) +
   ratOf (rN (ratOf vn vd * ratOf qn qd)) (rD (ratOf vn vd * ratOf qn qd))))
   (rD
   (ratOf (rN (ratOf kn kd + ratOf (rN (ratOf tn td * ratOf pn pd)) (rD (ratOf tn td * ratOf pn pd))))
   (rD (ratOf kn kd + ratOf (rN (ratOf tn td * ratOf pn pd)) (rD (ratOf tn td * ratOf pn pd)))) +
   ratOf (rN (ratOf vn vd * ratOf qn qd)) (rD (ratOf vn vd * ratOf qn qd)))) +
   ratOf (rN (ratOf an ad * ratOf rn rd)) (rD (ratOf an ad * ratOf rn rd))) !=
   (0 : Int))
   (.ret
   (SV.tup
   [SV.agg [iv (0 : Int), iv (0 : Int)],
   iv
   (rE
   (ratOf
   (rN
   (ratOf (rN (ratOf kn kd + ratOf (rN (ratOf tn td * ratOf pn pd)) (rD (ratOf tn td * ratOf pn pd))))
   (rD (ratOf kn kd + ratOf (rN (ratOf tn td * ratOf pn pd)) (rD (ratOf tn td * ratOf pn pd)))) +
   ratOf (rN (ratOf vn vd * ratOf qn qd)) (rD (ratOf vn vd * ratOf qn qd))))
   (rD
   (ratOf (rN (ratOf kn kd + ratOf (rN (ratOf tn td * ratOf pn pd)) (rD (ratOf tn td * ratOf pn pd))))
   (rD (ratOf kn kd + ratOf (rN (ratOf tn td * ratOf pn pd)) (rD (ratOf tn td * ratOf pn pd)))) +
   ratOf (rN (ratOf vn vd * ratOf qn qd)) (rD (ratOf vn vd * ratOf qn qd)))) +
   ratOf (rN (ratOf an ad * ratOf rn rd)) (rD (ratOf an ad * ratOf rn rd))))]))
   (.need (false = false)
   (.ret
   (SV.tup
   [SV.agg
   [iv
   (rN
   (ratOf
   (rN
   (ratOf (rN (ratOf kn kd + ratOf (rN (ratOf tn td * ratOf pn pd)) (rD (ratOf tn td * ratOf pn pd))))
   (rD (ratOf kn kd + ratOf (rN (ratOf tn td * ratOf pn pd)) (rD (ratOf tn td * ratOf pn pd)))) +
   ratOf (rN (ratOf vn vd * ratOf qn qd)) (rD (ratOf vn vd * ratOf qn qd))))
   (rD
   (ratOf (rN (ratOf kn kd + ratOf (rN (ratOf tn td * ratOf pn pd)) (rD (ratOf tn td * ratOf pn pd))))
   (rD (ratOf kn kd + ratOf (rN (ratOf tn td * ratOf pn pd)) (rD (ratOf tn td * ratOf pn pd)))) +
   ratOf (rN (ratOf vn vd * ratOf qn qd)) (rD (ratOf vn vd * ratOf qn qd)))) +
   ratOf (rN (ratOf an ad * ratOf rn rd)) (rD (ratOf an ad * ratOf rn rd)))),
   iv
   (rD
   (ratOf
   (rN
   (ratOf (rN (ratOf kn kd + ratOf (rN (ratOf tn td * ratOf pn pd)) (rD (ratOf tn td * ratOf pn pd))))
   (rD (ratOf kn kd + ratOf (rN (ratOf tn td * ratOf pn pd)) (rD (ratOf tn td * ratOf pn pd)))) +
   ratOf (rN (ratOf vn vd * ratOf qn qd)) (rD (ratOf vn vd * ratOf qn qd))))
   (rD
   (ratOf (rN (ratOf kn kd + ratOf (rN (ratOf tn td * ratOf pn pd)) (rD (ratOf tn td * ratOf pn pd))))
   (rD (ratOf kn kd + ratOf (rN (ratOf tn td * ratOf pn pd)) (rD (ratOf tn td * ratOf pn pd)))) +
   ratOf (rN (ratOf vn vd * ratOf qn qd)) (rD (ratOf vn vd * ratOf qn qd)))) +
   ratOf (rN (ratOf an ad * ratOf rn rd)) (rD (ratOf an ad * ratOf rn rd))))],
   iv (0 : Int)]))))))))))))))))))))))))))))

theorem ZAt_eq (kn kd tn td vn vd an ad pn pd qn qd rn rd : Int) : T9 (atH 3) 76 [.agg [iv kn, iv kd, iv tn, iv td, iv vn, iv vd, iv an, iv ad], .agg [iv pn, iv pd, iv qn, iv qd, iv rn, iv rd]] = ZAt kn kd tn td vn vd an ad pn pd qn qd rn rd := by kernel_rfl

noncomputable def ZAtR (kn kd tn td vn vd an ad pn pd qn qd rn rd : Int) : Tree SV :=
  .need (true = true)
  (.need ((0 : Int) ≤ (0 : Int) ∧ (0 : Int) < (3 : Int))
   (.need (0 < 3)
   (.need ((0 : Int) ≤ (0 : Int) ∧ (0 : Int) < (3 : Int))
   (.need (0 < 3)
   (.need (VF tn td ∧ VF pn pd)
   (.ite (rE (ratOf tn td * ratOf pn pd) != (0 : Int)) (.ret (SV.agg [iv (0 : Int), iv (0 : Int), iv (rE (ratOf tn td * ratOf pn pd))]))
   (.need (VF kn kd ∧ VF (rN (ratOf tn td * ratOf pn pd)) (rD (ratOf tn td * ratOf pn pd)))
   (.ite (rE (ratOf kn kd + ratOf (rN (ratOf tn td * ratOf pn pd)) (rD (ratOf tn td * ratOf pn pd))) != (0 : Int))
   (.ret (SV.agg [iv (0 : Int), iv (0 : Int), iv (rE (ratOf kn kd + ratOf (rN (ratOf tn td * ratOf pn pd)) (rD (ratOf tn td * ratOf pn pd))))]))
   (.need (true = true)
   (.need ((0 : Int) ≤ (1 : Int) ∧ (1 : Int) < (3 : Int))
   (.need (1 < 3)
   (.need ((0 : Int) ≤ (1 : Int) ∧ (1 : Int) < (3 : Int))
   (.need (1 < 3)
   (.need (VF vn vd ∧ VF qn qd)
   (.ite (rE (ratOf vn vd * ratOf qn qd) != (0 : Int)) (.ret (SV.agg [iv (0 : Int), iv (0 : Int), iv (rE (ratOf vn vd * ratOf qn qd))]))
   (.need
   (VF (rN (ratOf kn kd + ratOf (rN (ratOf tn td * ratOf pn pd)) (rD (ratOf tn td * ratOf pn pd)))) (rD (ratOf kn kd + ratOf (rN (ratOf tn td * ratOf pn pd)) (rD (ratOf tn td * ratOf pn pd)))) ∧
   VF (rN (ratOf vn vd * ratOf qn qd)) (rD (ratOf vn vd * ratOf qn qd)))
   (.ite
   (rE
   (ratOf (rN (ratOf kn kd + ratOf (rN (ratOf tn td * ratOf pn pd)) (rD (ratOf tn td * ratOf pn pd)))) (rD (ratOf kn kd + ratOf (rN (ratOf tn td * ratOf pn pd)) (rD (ratOf tn td * ratOf pn pd)))) +
   ratOf (rN (ratOf vn vd * ratOf qn qd)) (rD (ratOf vn vd * ratOf qn qd))) !=
   (0 : Int))
   (.ret
   (SV.agg
   [iv (0 : Int), iv (0 : Int),
   iv
   (rE
   (ratOf (rN (ratOf kn kd + ratOf (rN (ratOf tn td * ratOf pn pd)) (rD (ratOf tn td * ratOf pn pd)))) (rD (ratOf kn kd + ratOf (rN (ratOf tn td * ratOf pn pd)) (rD (ratOf tn td * ratOf pn pd)))) +
   ratOf (rN (ratOf vn vd * ratOf qn qd)) (rD (ratOf vn vd * ratOf qn qd))))]))
   (.need (true = true)
   (.need ((0 : Int) ≤ (2 : Int) ∧ (2 : Int) < (3 : Int))
   (.need (2 < 3)
   (.need ((0 : Int) ≤ (2 : Int) ∧ (2 : Int) < (3 : Int))
   (.need (2 < 3)
   (.need (VF an ad ∧ VF rn rd)
   (.ite (rE (ratOf an ad * ratOf rn rd) != (0 : Int)) (.ret (SV.agg [iv (0 : Int), iv (0 : Int), iv (rE (ratOf an ad * ratOf rn rd))]))
   (.need
   (VF
   (rN
   (ratOf (rN (ratOf kn kd + ratOf (rN (ratOf tn td * ratOf pn pd)) (rD (ratOf tn td * ratOf pn pd))))
   (rD (ratOf kn kd + ratOf (rN (ratOf tn td * ratOf pn pd)) (rD (ratOf tn td * ratOf pn pd)))) +
   ratOf (rN (ratOf vn vd * ratOf qn qd)) (rD (ratOf vn vd * ratOf qn qd))))
   (rD
   (ratOf (rN (ratOf kn kd + ratOf (rN (ratOf tn td * ratOf pn pd)) (rD (ratOf tn td * ratOf pn pd))))
   (rD (ratOf kn kd + ratOf (rN (ratOf tn td * ratOf pn pd)) (rD (ratOf tn td * ratOf pn pd)))) +
   ratOf (rN (ratOf vn vd * ratOf qn qd)) (rD (ratOf vn vd * ratOf qn qd)))) ∧
   VF (rN (ratOf an ad * ratOf rn rd)) (rD (ratOf an ad * ratOf rn rd)))
   (.ite
   (rE
   (ratOf
   (rN
   (ratOf (rN (ratOf kn kd + ratOf (rN (ratOf tn td * ratOf pn pd)) (rD (ratOf tn td * ratOf pn pd))))
   (rD (ratOf kn kd + ratOf (rN (ratOf tn td * ratOf pn pd)) (rD (ratOf tn td * ratOf pn pd)))) +
   ratOf (rN (ratOf vn vd * ratOf qn qd)) (rD (ratOf vn vd * ratOf qn qd))))
   (rD
   (ratOf (rN (ratOf kn kd + ratOf (rN (ratOf tn td * ratOf pn pd)) (rD (ratOf tn td * ratOf pn pd))))
   (rD (ratOf kn kd + ratOf (rN (ratOf tn td * ratOf pn pd)) (rD (ratOf tn td * ratOf pn pd)))) +
   ratOf (rN (ratOf vn vd * ratOf qn qd)) (rD (ratOf vn vd * ratOf qn qd)))) +
   ratOf (rN (ratOf an ad * ratOf rn rd)) (rD (ratOf an ad * ratOf rn rd))) !=
   (0 : Int))
   (.ret
   (SV.agg
   [iv (0 : Int), iv (0 : Int),
   iv
   (rE
   (ratOf
   (rN
   (ratOf (rN (ratOf kn kd + ratOf (rN (ratOf tn td * ratOf pn pd)) (rD (ratOf tn td * ratOf pn pd))))
   (rD (ratOf kn kd + ratOf (rN (ratOf tn td * ratOf pn pd)) (rD (ratOf tn td * ratOf pn pd)))) +
   ratOf (rN (ratOf vn vd * ratOf qn qd)) (rD (ratOf vn vd * ratOf qn qd))))
   (rD
   (ratOf (rN (ratOf kn kd + ratOf (rN (ratOf tn td * ratOf pn pd)) (rD (ratOf tn td * ratOf pn pd))))
   (rD (ratOf kn kd + ratOf (rN (ratOf tn td * ratOf pn pd)) (rD (ratOf tn td * ratOf pn pd)))) +
   ratOf (rN (ratOf vn vd * ratOf qn qd)) (rD (ratOf vn vd * ratOf qn qd)))) +
   ratOf (rN (ratOf an ad * ratOf rn rd)) (rD (ratOf an ad * ratOf rn rd))))]))
   (.need (false = false)
   (.ret
   (SV.agg
   [iv
   (rN
   (ratOf
   (rN
   (ratOf (rN (ratOf kn kd + ratOf (rN (ratOf tn td * ratOf pn pd)) (rD (ratOf tn td * ratOf pn pd))))
   (rD (ratOf kn kd + ratOf (rN (ratOf tn td * ratOf pn pd)) (rD (ratOf tn td * ratOf pn pd)))) +
   ratOf (rN (ratOf vn vd * ratOf qn qd)) (rD (ratOf vn vd * ratOf qn qd))))
   (rD
   (ratOf (rN (ratOf kn kd + ratOf (rN (ratOf tn td * ratOf pn pd)) (rD (ratOf tn td * ratOf pn pd))))
   (rD (ratOf kn kd + ratOf (rN (ratOf tn td * ratOf pn pd)) (rD (ratOf tn td * ratOf pn pd)))) +
   ratOf (rN (ratOf vn vd * ratOf qn qd)) (rD (ratOf vn vd * ratOf qn qd)))) +
   ratOf (rN (ratOf an ad * ratOf rn rd)) (rD (ratOf an ad * ratOf rn rd)))),
   iv
   (rD
   (ratOf
   (rN
   (ratOf (rN (ratOf kn kd + ratOf (rN (ratOf tn td * ratOf pn pd)) (rD (ratOf tn td * ratOf pn pd))))
   (rD (ratOf kn kd + ratOf (rN (ratOf tn td * ratOf pn pd)) (rD (ratOf tn td * ratOf pn pd)))) +
   ratOf (rN (ratOf vn vd * ratOf qn qd)) (rD (ratOf vn vd * ratOf qn qd))))
   (rD
   (ratOf (rN (ratOf kn kd + ratOf (rN (ratOf tn td * ratOf pn pd)) (rD (ratOf tn td * ratOf pn pd))))
   (rD (ratOf kn kd + ratOf (rN (ratOf tn td * ratOf pn pd)) (rD (ratOf tn td * ratOf pn pd)))) +
   ratOf (rN (ratOf vn vd * ratOf qn qd)) (rD (ratOf vn vd * ratOf qn qd)))) +
   ratOf (rN (ratOf an ad * ratOf rn rd)) (rD (ratOf an ad * ratOf rn rd)))),
   iv
   (rE
   (ratOf
   (rN
   (ratOf (rN (ratOf kn kd + ratOf (rN (ratOf tn td * ratOf pn pd)) (rD (ratOf tn td * ratOf pn pd))))
   (rD (ratOf kn kd + ratOf (rN (ratOf tn td * ratOf pn pd)) (rD (ratOf tn td * ratOf pn pd)))) +
   ratOf (rN (ratOf vn vd * ratOf qn qd)) (rD (ratOf vn vd * ratOf qn qd))))
   (rD
   (ratOf (rN (ratOf kn kd + ratOf (rN (ratOf tn td * ratOf pn pd)) (rD (ratOf tn td * ratOf pn pd))))
   (rD (ratOf kn kd + ratOf (rN (ratOf tn td * ratOf pn pd)) (rD (ratOf tn td * ratOf pn pd)))) +
   ratOf (rN (ratOf vn vd * ratOf qn qd)) (rD (ratOf vn vd * ratOf qn qd)))) +
   ratOf (rN (ratOf an ad * ratOf rn rd)) (rD (ratOf an ad * ratOf rn rd))))])))))))))))))))))))))))))))))

theorem ZAtR_eq (kn kd tn td vn vd an ad pn pd qn qd rn rd : Int) : T9 (atH 3) 63 [.agg [iv kn, iv kd, iv tn, iv td, iv vn, iv vd, iv an, iv ad], .agg [iv pn, iv pd, iv qn, iv qd, iv rn, iv rd]] = ZAtR kn kd tn td vn vd an ad pn pd qn qd rn rd := by kernel_rfl

noncomputable def ZCo (kn kd tn td vn vd an ad a0 a1 a2 a3 b0 b1 b2 b3 c0 c1 c2 c3 : Int) (u : Bool) : Tree SV :=
  .need (true = true)
  (.need ((0 : Int) ≤ (0 : Int) ∧ (0 : Int) < (3 : Int))
   (.need (0 < 3)
   (.need ((0 : Int) ≤ (0 : Int) ∧ (0 : Int) < (3 : Int))
   (.need (0 < 3)
   (.need ((0 : Int) ≤ (1 : Int) ∧ (1 : Int) < (4 : Int))
   (.need (1 < 4)
   (.ite (decide (tn ≥ (0 : Int)) == u)
   (.need ((0 : Int) ≤ (1 : Int) ∧ (1 : Int) < (2 : Int))
   (.need (1 < 2)
   (.need ((0 : Int) ≤ (0 : Int) ∧ (0 : Int) < (3 : Int))
   (.need (0 < 3)
   (.need (true = true)
   (.need ((0 : Int) ≤ (1 : Int) ∧ (1 : Int) < (3 : Int))
   (.need (1 < 3)
   (.need ((0 : Int) ≤ (1 : Int) ∧ (1 : Int) < (3 : Int))
   (.need (1 < 3)
   (.need ((0 : Int) ≤ (2 : Int) ∧ (2 : Int) < (4 : Int))
   (.need (2 < 4)
   (.ite (decide (vn ≥ (0 : Int)) == u)
   (.need ((0 : Int) ≤ (1 : Int) ∧ (1 : Int) < (2 : Int))
   (.need (1 < 2)
   (.need ((0 : Int) ≤ (1 : Int) ∧ (1 : Int) < (3 : Int))
   (.need (1 < 3)
   (.need (true = true)
   (.need ((0 : Int) ≤ (2 : Int) ∧ (2 : Int) < (3 : Int))
   (.need (2 < 3)
   (.need ((0 : Int) ≤ (2 : Int) ∧ (2 : Int) < (3 : Int))
   (.need (2 < 3)
   (.need ((0 : Int) ≤ (3 : Int) ∧ (3 : Int) < (4 : Int))
   (.need (3 < 4)
   (.ite (decide (an ≥ (0 : Int)) == u)
   (.need ((0 : Int) ≤ (1 : Int) ∧ (1 : Int) < (2 : Int))
   (.need (1 < 2)
   (.need ((0 : Int) ≤ (2 : Int) ∧ (2 : Int) < (3 : Int))
   (.need (2 < 3)
   (.need (false = false)
   (.ret
   (SV.agg
   [iv (bif false then c2 else bif false then b2 else bif true then a2 else (0 : Int)),
   iv (bif false then c3 else bif false then b3 else bif true then a3 else (0 : Int)),
   iv (bif false then c2 else bif true then b2 else bif false then a2 else (0 : Int)),
   iv (bif false then c3 else bif true then b3 else bif false then a3 else (0 : Int)),
   iv (bif true then c2 else bif false then b2 else bif false then a2 else (0 : Int)),
   iv (bif true then c3 else bif false then b3 else bif false then a3 else (0 : Int))])))))))
   (.need ((0 : Int) ≤ (0 : Int) ∧ (0 : Int) < (2 : Int))
   (.need (0 < 2)
   (.need ((0 : Int) ≤ (2 : Int) ∧ (2 : Int) < (3 : Int))
   (.need (2 < 3)
   (.need (false = false)
   (.ret
   (SV.agg
   [iv (bif false then c0 else bif false then b2 else bif true then a2 else (0 : Int)),
   iv (bif false then c1 else bif false then b3 else bif true then a3 else (0 : Int)),
   iv (bif false then c0 else bif true then b2 else bif false then a2 else (0 : Int)),
   iv (bif false then c1 else bif true then b3 else bif false then a3 else (0 : Int)),
   iv (bif true then c0 else bif false then b2 else bif false then a2 else (0 : Int)),
   iv (bif true then c1 else bif false then b3 else bif false then a3 else (0 : Int))])))))))))))))))))))
   (.need ((0 : Int) ≤ (0 : Int) ∧ (0 : Int) < (2 : Int))
   (.need (0 < 2)
   (.need ((0 : Int) ≤ (1 : Int) ∧ (1 : Int) < (3 : Int))
   (.need (1 < 3)
   (.need (true = true)
   (.need ((0 : Int) ≤ (2 : Int) ∧ (2 : Int) < (3 : Int))
   (.need (2 < 3)
   (.need ((0 : Int) ≤ (2 : Int) ∧ (2 : Int) < (3 : Int))
   (.need (2 < 3)
   (.need ((0 : Int) ≤ (3 : Int) ∧ (3 : Int) < (4 : Int))
   (.need (3 < 4)
   (.ite (decide (an ≥ (0 : Int)) == u)
   (.need ((0 : Int) ≤ (1 : Int) ∧ (1 : Int) < (2 : Int))
   (.need (1 < 2)
   (.need ((0 : Int) ≤ (2 : Int) ∧ (2 : Int) < (3 : Int))
   (.need (2 < 3)
   (.need (false = false)
   (.ret
   (SV.agg
   [iv (bif false then c2 else bif false then b0 else bif true then a2 else (0 : Int)),
   iv (bif false then c3 else bif false then b1 else bif true then a3 else (0 : Int)),
   iv (bif false then c2 else bif true then b0 else bif false then a2 else (0 : Int)),
   iv (bif false then c3 else bif true then b1 else bif false then a3 else (0 : Int)),
   iv (bif true then c2 else bif false then b0 else bif false then a2 else (0 : Int)),
   iv (bif true then c3 else bif false then b1 else bif false then a3 else (0 : Int))])))))))
   (.need ((0 : Int) ≤ (0 : Int) ∧ (0 : Int) < (2 : Int))
   (.need (0 < 2)
   (.need ((0 : Int) ≤ (2 : Int) ∧ (2 : Int) < (3 : Int))
   (.need (2 < 3)
   (.need (false = false)
   (.ret
   (SV.agg
   [iv (bif false then c0 else bif false then b0 else bif true then a2 else (0 : Int)),
   iv (bif false then c1 else bif false then b1 else bif true then a3 else (0 : Int)),
   iv (bif false then c0 else bif true then b0 else bif false then a2 else (0 : Int)),
   iv (bif false then c1 else bif true then b1 else bif false then a3 else (0 : Int)),
   iv (bif true then c0 else bif false then b0 else bif false then a2 else (0 : Int)),
   iv (bif true then c1 else bif false then b1 else bif false then a3 else (0 : Int))])))))))))))))))))))))))))))))))
   (.need ((0 : Int) ≤ (0 : Int) ∧ (0 : Int) < (2 : Int))
   (.need (0 < 2)
   (.need ((0 : Int) ≤ (0 : Int) ∧ (0 : Int) < (3 : Int))
   (.need (0 < 3)
   (.need (true = true)
   (.need ((0 : Int) ≤ (1 : Int) ∧ (1 : Int) < (3 : Int))
   (.need (1 < 3)
   (.need ((0 : Int) ≤ (1 : Int) ∧ (1 : Int) < (3 : Int))
   (.need (1 < 3)
   (.need ((0 : Int) ≤ (2 : Int) ∧ (2 : Int) < (4 : Int))
   (.need (2 < 4)
   (.ite (decide (vn ≥ (0 : Int)) == u)
   (.need ((0 : Int) ≤ (1 : Int) ∧ (1 : Int) < (2 : Int))
   (.need (1 < 2)
   (.need ((0 : Int) ≤ (1 : Int) ∧ (1 : Int) < (3 : Int))
   (.need (1 < 3)
   (.need (true = true)
   (.need ((0 : Int) ≤ (2 : Int) ∧ (2 : Int) < (3 : Int))
   (.need (2 < 3)
   (.need ((0 : Int) ≤ (2 : Int) ∧ (2 : Int) < (3 : Int))
   (.need (2 < 3)
   (.need ((0 : Int) ≤ (3 : Int) ∧ (3 : Int) < (4 : Int))
   (.need (3 < 4)
   (.ite (decide (an ≥ (0 : Int)) == u)
   (.need ((0 : Int) ≤ (1 : Int) ∧ (1 : Int) < (2 : Int))
   (.need (1 < 2)
   (.need ((0 : Int) ≤ (2 : Int) ∧ (2 : Int) < (3 : Int))
   (.need (2 < 3)
   (.need (false = false)
   (.ret
   (SV.agg
   [iv (bif false then c2 else bif false then b2 else bif true then a0 else (0 : Int)),
   iv (bif false then c3 else bif false then b3 else bif true then a1 else (0 : Int)),
   iv (bif false then c2 else bif true then b2 else bif false then a0 else (0 : Int)),
   iv (bif false then c3 else bif true then b3 else bif false then a1 else (0 : Int)),
   iv (bif true then c2 else bif false then b2 else bif false then a0 else (0 : Int)),
   iv (bif true then c3 else bif false then b3 else bif false then a1 else (0 : Int))])))))))
   (.need ((0 : Int) ≤ (0 : Int) ∧ (0 : Int) < (2 : Int))
   (.need (0 < 2)
   (.need ((0 : Int) ≤ (2 : Int) ∧ (2 : Int) < (3 : Int))
   (.need (2 < 3)
   (.need (false = false)
   (.ret
   (SV.agg
   [iv (bif false then c0 else bif false then b2 else bif true then a0 else (0 : Int)),
   iv (bif false then c1 else bif false then b3 else bif true then a1 else (0 : Int)),
   iv (bif false then c0 else bif true then b2 else bif false then a0 else (0 : Int)),
   iv (bif false then c1 else bif true then b3 else bif false then a1 else (0 : Int)),
   iv (bif true then c0 else bif false then b2 else bif false then a0 else (0 : Int)),
   iv (bif true then c1 else bif false then b3 else bif false then a1 else (0 : Int))])))))))))))))))))))
   (.need ((0 : Int) ≤ (0 : Int) ∧ (0 : Int) < (2 : Int))
   (.need (0 < 2)
   (.need ((0 : Int) ≤ (1 : Int) ∧ (1 : Int) < (3 : Int))
   (.need (1 < 3)
   (.need (true = true)
   (.need ((0 : Int) ≤ (2 : Int) ∧ (2 : Int) < (3 : Int))
   (.need (2 < 3)
   (.need ((0 : Int) ≤ (2 : Int) ∧ (2 : Int) < (3 : Int))
   (.need (2 < 3)
   (.need ((0 : Int) ≤ (3 : Int) ∧ (3 : Int) < (4 : Int))
   (.need (3 < 4)
   (.ite (decide (an ≥ (0 : Int)) == u)
   (.need ((0 : Int) ≤ (1 : Int) ∧ (1 : Int) < (2 : Int))
   (.need (1 < 2)
   (.need ((0 : Int) ≤ (2 : Int) ∧ (2 : Int) < (3 : Int))
   (.need (2 < 3)
   (.need (false = false)
   (.ret
   (SV.agg
   [iv (bif false then c2 else bif false then b0 else bif true then a0 else (0 : Int)),
   iv (bif false then c3 else bif false then b1 else bif true then a1 else (0 : Int)),
   iv (bif false then c2 else bif true then b0 else bif false then a0 else (0 : Int)),
   iv (bif false then c3 else bif true then b1 else bif false then a1 else (0 : Int)),
   iv (bif true then c2 else bif false then b0 else bif false then a0 else (0 : Int)),
   iv (bif true then c3 else bif false then b1 else bif false then a1 else (0 : Int))])))))))
   (.need ((0 : Int) ≤ (0 : Int) ∧ (0 : Int) < (2 : Int))
   (.need (0 < 2)
   (.need ((0 : Int) ≤ (2 : Int) ∧ (2 : Int) < (3 : Int))
   (.need (2 < 3)
   (.need (false = false)
   (.ret
   (SV.agg
   [iv (bif false then c0 else bif false then b0 else bif true then a0 else (0 : Int)),
   iv (bif false then c1 else bif false then b1 else bif true then a1 else (0 : Int)),
   iv (bif false then c0 else bif true then b0 else bif false then a0 else (0 : Int)),
   iv (bif false then c1 else bif true then b1 else bif false then a1 else (0 : Int)),
   iv (bif true then c0 else bif false then b0 else bif false then a0 else (0 : Int)),
   iv (bif true then c1 else bif false then b1 else bif false then a1 else (0 : Int))]))))))))))))))))))))))))))))))))))))))

theorem ZCo_eq (kn kd tn td vn vd an ad a0 a1 a2 a3 b0 b1 b2 b3 c0 c1 c2 c3 : Int) (u : Bool) : T9 (coH 3) 140 [.agg [iv kn, iv kd, iv tn, iv td, iv vn, iv vd, iv an, iv ad], .agg [iv a0, iv a1, iv a2, iv a3, iv b0, iv b1, iv b2, iv b3, iv c0, iv c1, iv c2, iv c3], bv u] = ZCo kn kd tn td vn vd an ad a0 a1 a2 a3 b0 b1 b2 b3 c0 c1 c2 c3 u := by kernel_rfl

noncomputable def ZCoR (kn kd tn td vn vd an ad a0 a1 a2 a3 b0 b1 b2 b3 c0 c1 c2 c3 : Int) (u : Bool) : Tree SV :=
  .need (true = true)
  (.need ((0 : Int) ≤ (0 : Int) ∧ (0 : Int) < (3 : Int))
   (.need (0 < 3)
   (.ite (decide (tn < (0 : Int)) == u)
   (.need ((0 : Int) ≤ (0 : Int) ∧ (0 : Int) < (3 : Int))
   (.need (0 < 3)
   (.need ((0 : Int) ≤ (0 : Int) ∧ (0 : Int) < (3 : Int))
   (.need (0 < 3)
   (.need (true = true)
   (.need ((0 : Int) ≤ (1 : Int) ∧ (1 : Int) < (3 : Int))
   (.need (1 < 3)
   (.ite (decide (vn < (0 : Int)) == u)
   (.need ((0 : Int) ≤ (1 : Int) ∧ (1 : Int) < (3 : Int))
   (.need (1 < 3)
   (.need ((0 : Int) ≤ (1 : Int) ∧ (1 : Int) < (3 : Int))
   (.need (1 < 3)
   (.need (true = true)
   (.need ((0 : Int) ≤ (2 : Int) ∧ (2 : Int) < (3 : Int))
   (.need (2 < 3)
   (.ite (decide (an < (0 : Int)) == u)
   (.need ((0 : Int) ≤ (2 : Int) ∧ (2 : Int) < (3 : Int))
   (.need (2 < 3)
   (.need ((0 : Int) ≤ (2 : Int) ∧ (2 : Int) < (3 : Int))
   (.need (2 < 3)
   (.need (false = false)
   (.ret
   (SV.agg
   [iv (bif false then c0 else bif false then b0 else bif true then a0 else (0 : Int)), iv (bif false then c1 else bif false then b1 else bif true then a1 else (0 : Int)),
   iv (bif false then c0 else bif true then b0 else bif false then a0 else (0 : Int)), iv (bif false then c1 else bif true then b1 else bif false then a1 else (0 : Int)),
   iv (bif true then c0 else bif false then b0 else bif false then a0 else (0 : Int)), iv (bif true then c1 else bif false then b1 else bif false then a1 else (0 : Int))])))))))
   (.need ((0 : Int) ≤ (2 : Int) ∧ (2 : Int) < (3 : Int))
   (.need (2 < 3)
   (.need ((0 : Int) ≤ (2 : Int) ∧ (2 : Int) < (3 : Int))
   (.need (2 < 3)
   (.need (false = false)
   (.ret
   (SV.agg
   [iv (bif false then c2 else bif false then b0 else bif true then a0 else (0 : Int)), iv (bif false then c3 else bif false then b1 else bif true then a1 else (0 : Int)),
   iv (bif false then c2 else bif true then b0 else bif false then a0 else (0 : Int)), iv (bif false then c3 else bif true then b1 else bif false then a1 else (0 : Int)),
   iv (bif true then c2 else bif false then b0 else bif false then a0 else (0 : Int)), iv (bif true then c3 else bif false then b1 else bif false then a1 else (0 : Int))])))))))))))))))
   (.need ((0 : Int) ≤ (1 : Int) ∧ (1 : Int) < (3 : Int))
   (.need (1 < 3)
   (.need ((0 : Int) ≤ (1 : Int) ∧ (1 : Int) < (3 : Int))
   (.need (1 < 3)
   (.need (true = true)
   (.need ((0 : Int) ≤ (2 : Int) ∧ (2 : Int) < (3 : Int))
   (.need (2 < 3)
   (.ite (decide (an < (0 : Int)) == u)
   (.need ((0 : Int) ≤ (2 : Int) ∧ (2 : Int) < (3 : Int))
   (.need (2 < 3)
   (.need ((0 : Int) ≤ (2 : Int) ∧ (2 : Int) < (3 : Int))
   (.need (2 < 3)
   (.need (false = false)
   (.ret
   (SV.agg
   [iv (bif false then c0 else bif false then b2 else bif true then a0 else (0 : Int)), iv (bif false then c1 else bif false then b3 else bif true then a1 else (0 : Int)),
   iv (bif false then c0 else bif true then b2 else bif false then a0 else (0 : Int)), iv (bif false then c1 else bif true then b3 else bif false then a1 else (0 : Int)),
   iv (bif true then c0 else bif false then b2 else bif false then a0 else (0 : Int)), iv (bif true then c1 else bif false then b3 else bif false then a1 else (0 : Int))])))))))
   (.need ((0 : Int) ≤ (2 : Int) ∧ (2 : Int) < (3 : Int))
   (.need (2 < 3)
   (.need ((0 : Int) ≤ (2 : Int) ∧ (2 : Int) < (3 : Int))
   (.need (2 < 3)
   (.need (false = false)
   (.ret
   (SV.agg
   [iv (bif false then c2 else bif false then b2 else bif true then a0 else (0 : Int)), iv (bif false then c3 else bif false then b3 else bif true then a1 else (0 : Int)),
   iv (bif false then c2 else bif true then b2 else bif false then a0 else (0 : Int)), iv (bif false then c3 else bif true then b3 else bif false then a1 else (0 : Int)),
   iv (bif true then c2 else bif false then b2 else bif false then a0 else (0 : Int)),
   iv (bif true then c3 else bif false then b3 else bif false then a1 else (0 : Int))])))))))))))))))))))))))
   (.need ((0 : Int) ≤ (0 : Int) ∧ (0 : Int) < (3 : Int))
   (.need (0 < 3)
   (.need ((0 : Int) ≤ (0 : Int) ∧ (0 : Int) < (3 : Int))
   (.need (0 < 3)
   (.need (true = true)
   (.need ((0 : Int) ≤ (1 : Int) ∧ (1 : Int) < (3 : Int))
   (.need (1 < 3)
   (.ite (decide (vn < (0 : Int)) == u)
   (.need ((0 : Int) ≤ (1 : Int) ∧ (1 : Int) < (3 : Int))
   (.need (1 < 3)
   (.need ((0 : Int) ≤ (1 : Int) ∧ (1 : Int) < (3 : Int))
   (.need (1 < 3)
   (.need (true = true)
   (.need ((0 : Int) ≤ (2 : Int) ∧ (2 : Int) < (3 : Int))
   (.need (2 < 3)
   (.ite (decide (an < (0 : Int)) == u)
   (.need ((0 : Int) ≤ (2 : Int) ∧ (2 : Int) < (3 : Int))
   (.need (2 < 3)
   (.need ((0 : Int) ≤ (2 : Int) ∧ (2 : Int) < (3 : Int))
   (.need (2 < 3)
   (.need (false = false)
   (.ret
   (SV.agg
   [iv (bif false then c0 else bif false then b0 else bif true then a2 else (0 : Int)), iv (bif false then c1 else bif false then b1 else bif true then a3 else (0 : Int)),
   iv (bif false then c0 else bif true then b0 else bif false then a2 else (0 : Int)), iv (bif false then c1 else bif true then b1 else bif false then a3 else (0 : Int)),
   iv (bif true then c0 else bif false then b0 else bif false then a2 else (0 : Int)), iv (bif true then c1 else bif false then b1 else bif false then a3 else (0 : Int))])))))))
   (.need ((0 : Int) ≤ (2 : Int) ∧ (2 : Int) < (3 : Int))
   (.need (2 < 3)
   (.need ((0 : Int) ≤ (2 : Int) ∧ (2 : Int) < (3 : Int))
   (.need (2 < 3)
   (.need (false = false)
   (.ret
   (SV.agg
   [iv (bif false then c2 else bif false then b0 else bif true then a2 else (0 : Int)), iv (bif false then c3 else bif false then b1 else bif true then a3 else (0 : Int)),
   iv (bif false then c2 else bif true then b0 else bif false then a2 else (0 : Int)), iv (bif false then c3 else bif true then b1 else bif false then a3 else (0 : Int)),
   iv (bif true then c2 else bif false then b0 else bif false then a2 else (0 : Int)), iv (bif true then c3 else bif false then b1 else bif false then a3 else (0 : Int))])))))))))))))))
   (.need ((0 : Int) ≤ (1 : Int) ∧ (1 : Int) < (3 : Int))
   (.need (1 < 3)
   (.need ((0 : Int) ≤ (1 : Int) ∧ (1 : Int) < (3 : Int))
   (.need (1 < 3)
   (.need (true = true)
   (.need ((0 : Int) ≤ (2 : Int) ∧ (2 : Int) < (3 : Int))
   (.need (2 < 3)
   (.ite (decide (an < (0 : Int)) == u)
   (.need ((0 : Int) ≤ (2 : Int) ∧ (2 : Int) < (3 : Int))
   (.need (2 < 3)
   (.need ((0 : Int) ≤ (2 : Int) ∧ (2 : Int) < (3 : Int))
   (.need (2 < 3)
   (.need (false = false)
   (.ret
   (SV.agg
   [iv (bif false then c0 else bif false then b2 else bif true then a2 else (0 : Int)), iv (bif false then c1 else bif false then b3 else bif true then a3 else (0 : Int)),
   iv (bif false then c0 else bif true then b2 else bif false then a2 else (0 : Int)), iv (bif false then c1 else bif true then b3 else bif false then a3 else (0 : Int)),
   iv (bif true then c0 else bif false then b2 else bif false then a2 else (0 : Int)), iv (bif true then c1 else bif false then b3 else bif false then a3 else (0 : Int))])))))))
   (.need ((0 : Int) ≤ (2 : Int) ∧ (2 : Int) < (3 : Int))
   (.need (2 < 3)
   (.need ((0 : Int) ≤ (2 : Int) ∧ (2 : Int) < (3 : Int))
   (.need (2 < 3)
   (.need (false = false)
   (.ret
   (SV.agg
   [iv (bif false then c2 else bif false then b2 else bif true then a2 else (0 : Int)), iv (bif false then c3 else bif false then b3 else bif true then a3 else (0 : Int)),
   iv (bif false then c2 else bif true then b2 else bif false then a2 else (0 : Int)), iv (bif false then c3 else bif true then b3 else bif false then a3 else (0 : Int)),
   iv (bif true then c2 else bif false then b2 else bif false then a2 else (0 : Int)),
   iv (bif true then c3 else bif false then b3 else bif false then a3 else (0 : Int))]))))))))))))))))))))))))))

theorem ZCoR_eq (kn kd tn td vn vd an ad a0 a1 a2 a3 b0 b1 b2 b3 c0 c1 c2 c3 : Int) (u : Bool) : T9 (coH 3) 138 [.agg [iv kn, iv kd, iv tn, iv td, iv vn, iv vd, iv an, iv ad], .agg [iv a0, iv a1, iv a2, iv a3, iv b0, iv b1, iv b2, iv b3, iv c0, iv c1, iv c2, iv c3], bv u] = ZCoR kn kd tn td vn vd an ad a0 a1 a2 a3 b0 b1 b2 b3 c0 c1 c2 c3 u := by kernel_rfl


end Go.Proofs.Ytpaejfeojdoikaa

namespace Go.Proofs.Ytpaejfeojdoikaa
open Go.Sx
set_option maxRecDepth 100000

theorem intsOf_eq {k : IntKind} : ∀ {l : List SV} {ns : List Int}, intsOf k l = some ns → l = ns.map fun n => .d (.x (.int k n))
  | [], ns, h => by simp [intsOf] at h; subst h; rfl
  | s :: r, ns, h => by
    unfold intsOf at h
    split at h
    · contradiction
    · rename_i k' n r' heq
      simp only [List.cons.injEq] at heq
      obtain ⟨rfl, rfl⟩ := heq
      split at h
      · rename_i hk; subst hk
        rw [Option.map_eq_some_iff] at h
        obtain ⟨ns', h1, rfl⟩ := h
        rw [intsOf_eq h1]; rfl
      · cases h
    · cases h

theorem co_sat {kn kd tn td vn vd an ad a0 a1 a2 a3 b0 b1 b2 b3 c0 c1 c2 c3 : Int} {u : Bool} :
    (ZCo kn kd tn td vn vd an ad a0 a1 a2 a3 b0 b1 b2 b3 c0 c1 c2 c3 u).sat Try.prog (· = .agg [iv (crI tn a0 a2 u), iv (crI tn a1 a3 u), iv (crI vn b0 b2 u), iv (crI vn b1 b3 u), iv (crI an c0 c2 u), iv (crI an c1 c3 u)]) := by
  unfold ZCo
  unfold crI
  repeat' (first | (exact rfl) | (refine ⟨by decide, ?_⟩) | (refine ⟨fun h => ?_, fun h => ?_⟩ <;> simp only [h]))

theorem coR_sat {kn kd tn td vn vd an ad a0 a1 a2 a3 b0 b1 b2 b3 c0 c1 c2 c3 : Int} {u : Bool} :
    (ZCoR kn kd tn td vn vd an ad a0 a1 a2 a3 b0 b1 b2 b3 c0 c1 c2 c3 u).sat Try.prog (· = .agg [iv (crI tn a0 a2 u), iv (crI tn a1 a3 u), iv (crI vn b0 b2 u), iv (crI vn b1 b3 u), iv (crI an c0 c2 u), iv (crI an c1 c3 u)]) := by
  have e : ∀ x : Int, (decide (x ≥ 0) == u) = !(decide (x < 0) == u) := by
    intro x
    by_cases h : x < 0
    · have : ¬ x ≥ 0 := by omega
      simp only [h, this]; cases u <;> rfl
    · have : x ≥ 0 := by omega
      simp only [h, this]; cases u <;> rfl
  unfold ZCoR
  unfold crI
  rw [e, e, e]
  repeat' (first | (exact rfl) | (refine ⟨by decide, ?_⟩) | (refine ⟨fun h => ?_, fun h => ?_⟩ <;> simp only [h]))

end Go.Proofs.Ytpaejfeojdoikaa

namespace Go.Proofs.Ytpaejfeojdoikaa
open Go.Sx
set_option maxRecDepth 100000

theorem at_sat {k t v a p q r : Rat} (hk : fitsR k) (ht : fitsR t) (hv : fitsR v) (ha : fitsR a) (hp : fitsR p) (hq : fitsR q) (hr : fitsR r) :
    (ZAt k.num k.den t.num t.den v.num v.den a.num a.den p.num p.den q.num q.den r.num r.den).sat Try.prog (· = .tup [.agg [iv (oN (atO k t v a p q r)), iv (oD (atO k t v a p q r))], iv (oE (atO k t v a p q r))]) := by
  unfold ZAt
  simp only [ratOf_rat]
  have err : ∀ {x : Rat}, ¬ fitsR x → atO k t v a p q r = none → SV.tup [.agg [iv 0, iv 0], iv (rE x)] = .tup [.agg [iv (oN (atO k t v a p q r)), iv (oD (atO k t v a p q r))], iv (oE (atO k t v a p q r))] := by
    intro x hx h; rw [h, rE_no hx]; rfl
  refine ⟨by decide, by decide, by decide, by decide, by decide, by decide, ⟨VF.of ht, VF.of hp⟩, fun h => err (rE_ne h) ?_, fun h => ?_⟩
  · simp only [atO, fit_no (rE_ne h), Option.bind]
  have h1 := rE_eq h
  simp only [rN_of h1, rD_of h1, ratOf_rat]
  refine ⟨⟨VF.of hk, VF.of h1⟩, fun h => err (rE_ne h) ?_, fun h => ?_⟩
  · simp only [atO, fit_of h1, fit_no (rE_ne h), Option.bind]
  have h2 := rE_eq h
  simp only [rN_of h2, rD_of h2, ratOf_rat]
  refine ⟨by decide, by decide, by decide, by decide, ⟨VF.of hv, VF.of hq⟩, fun h => err (rE_ne h) ?_, fun h => ?_⟩
  · simp only [atO, fit_of h1, fit_of h2, fit_no (rE_ne h), Option.bind]
  have h3 := rE_eq h
  simp only [rN_of h3, rD_of h3, ratOf_rat]
  refine ⟨⟨VF.of h2, VF.of h3⟩, fun h => err (rE_ne h) ?_, fun h => ?_⟩
  · simp only [atO, fit_of h1, fit_of h2, fit_of h3, fit_no (rE_ne h), Option.bind]
  have h4 := rE_eq h
  simp only [rN_of h4, rD_of h4, ratOf_rat]
  refine ⟨by decide, by decide, by decide, by decide, ⟨VF.of ha, VF.of hr⟩, fun h => err (rE_ne h) ?_, fun h => ?_⟩
  · simp only [atO, fit_of h1, fit_of h2, fit_of h3, fit_of h4, fit_no (rE_ne h), Option.bind]
  have h5 := rE_eq h
  simp only [rN_of h5, rD_of h5, ratOf_rat]
  refine ⟨⟨VF.of h4, VF.of h5⟩, fun h => err (rE_ne h) ?_, fun h => ?_⟩
  · simp only [atO, fit_of h1, fit_of h2, fit_of h3, fit_of h4, fit_of h5, fit_no (rE_ne h), Option.bind]
  have h6 := rE_eq h
  simp only [rN_of h6, rD_of h6, ratOf_rat]
  refine ⟨by decide, ?_⟩
  have : atO k t v a p q r = some (k + t * p + v * q + a * r) := by simp only [atO, fit_of h1, fit_of h2, fit_of h3, fit_of h4, fit_of h5, fit_of h6, Option.bind]
  rw [this]; exact rfl

theorem atR_sat {k t v a p q r : Rat} (hk : fitsR k) (ht : fitsR t) (hv : fitsR v) (ha : fitsR a) (hp : fitsR p) (hq : fitsR q) (hr : fitsR r) :
    (ZAtR k.num k.den t.num t.den v.num v.den a.num a.den p.num p.den q.num q.den r.num r.den).sat Try.prog (· = .agg [iv (oN (atO k t v a p q r)), iv (oD (atO k t v a p q r)), iv (oE (atO k t v a p q r))]) := by
  unfold ZAtR
  simp only [ratOf_rat]
  have err : ∀ {x : Rat}, ¬ fitsR x → atO k t v a p q r = none → SV.agg [iv 0, iv 0, iv (rE x)] = .agg [iv (oN (atO k t v a p q r)), iv (oD (atO k t v a p q r)), iv (oE (atO k t v a p q r))] := by
    intro x hx h; rw [h, rE_no hx]; rfl
  refine ⟨by decide, by decide, by decide, by decide, by decide, ⟨VF.of ht, VF.of hp⟩, fun h => err (rE_ne h) ?_, fun h => ?_⟩
  · simp only [atO, fit_no (rE_ne h), Option.bind]
  have h1 := rE_eq h
  simp only [rN_of h1, rD_of h1, ratOf_rat]
  refine ⟨⟨VF.of hk, VF.of h1⟩, fun h => err (rE_ne h) ?_, fun h => ?_⟩
  · simp only [atO, fit_of h1, fit_no (rE_ne h), Option.bind]
  have h2 := rE_eq h
  simp only [rN_of h2, rD_of h2, ratOf_rat]
  refine ⟨by decide, by decide, by decide, by decide, by decide, ⟨VF.of hv, VF.of hq⟩, fun h => err (rE_ne h) ?_, fun h => ?_⟩
  · simp only [atO, fit_of h1, fit_of h2, fit_no (rE_ne h), Option.bind]
  have h3 := rE_eq h
  simp only [rN_of h3, rD_of h3, ratOf_rat]
  refine ⟨⟨VF.of h2, VF.of h3⟩, fun h => err (rE_ne h) ?_, fun h => ?_⟩
  · simp only [atO, fit_of h1, fit_of h2, fit_of h3, fit_no (rE_ne h), Option.bind]
  have h4 := rE_eq h
  simp only [rN_of h4, rD_of h4, ratOf_rat]
  refine ⟨by decide, by decide, by decide, by decide, by decide, ⟨VF.of ha, VF.of hr⟩, fun h => err (rE_ne h) ?_, fun h => ?_⟩
  · simp only [atO, fit_of h1, fit_of h2, fit_of h3, fit_of h4, fit_no (rE_ne h), Option.bind]
  have h5 := rE_eq h
  simp only [rN_of h5, rD_of h5, ratOf_rat]
  refine ⟨⟨VF.of h4, VF.of h5⟩, fun h => err (rE_ne h) ?_, fun h => ?_⟩
  · simp only [atO, fit_of h1, fit_of h2, fit_of h3, fit_of h4, fit_of h5, fit_no (rE_ne h), Option.bind]
  have h6 := rE_eq h
  simp only [rN_of h6, rD_of h6, rE_of h6, ratOf_rat]
  refine ⟨by decide, ?_⟩
  have : atO k t v a p q r = some (k + t * p + v * q + a * r) := by simp only [atO, fit_of h1, fit_of h2, fit_of h3, fit_of h4, fit_of h5, fit_of h6, Option.bind]
  rw [this]; exact rfl

/-! ### Contracts -/

noncomputable def cAtL : Ctr := fun ss => match ss with
  | [.agg l, .agg m] => match intsOf .i64 l, intsOf .i64 m with
    | some [kn, kd, tn, td, vn, vd, an, ad], some [pn, pd, qn, qd, rn, rd] => .need ((VF kn kd ∧ VF tn td ∧ VF vn vd ∧ VF an ad) ∧ VF pn pd ∧ VF qn qd ∧ VF rn rd)
      (.ret (.tup [.agg [iv (oN (atO (ratOf kn kd) (ratOf tn td) (ratOf vn vd) (ratOf an ad) (ratOf pn pd) (ratOf qn qd) (ratOf rn rd))), iv (oD (atO (ratOf kn kd) (ratOf tn td) (ratOf vn vd) (ratOf an ad) (ratOf pn pd) (ratOf qn qd) (ratOf rn rd)))],
        iv (oE (atO (ratOf kn kd) (ratOf tn td) (ratOf vn vd) (ratOf an ad) (ratOf pn pd) (ratOf qn qd) (ratOf rn rd)))]))
    | _, _ => .fail
  | _ => .fail
theorem cAtL_ok : CtrOK Try.prog 76 cAtL := by
  refine ctrOK_leS C9_ok D9_ok (by kernel_rfl) (by kernel_rfl) fun ss r h => ?_
  unfold cAtL at h
  split at h
  · split at h
    · rename_i e1 e2
      obtain ⟨⟨⟨h1, h2, h3, h4⟩, h5, h6, h7⟩, rfl⟩ := h
      rw [intsOf_eq e1, intsOf_eq e2]
      have := at_sat h1.fits h2.fits h3.fits h4.fits h5.fits h6.fits h7.fits
      rw [h1.low.num, h1.low.den, h2.low.num, h2.low.den, h3.low.num, h3.low.den, h4.low.num, h4.low.den, h5.low.num, h5.low.den, h6.low.num, h6.low.den, h7.low.num, h7.low.den] at this
      exact ⟨_, 200, atH 3, by simp [leSVs, leSV, iv, bv, leD], Sat.of_eq (ZAt_eq _ _ _ _ _ _ _ _ _ _ _ _ _ _) ⟨this⟩⟩
    · exact h.elim
  · exact h.elim
noncomputable def cAtR : Ctr := fun ss => match ss with
  | [.agg l, .agg m] => match intsOf .i64 l, intsOf .i64 m with
    | some [kn, kd, tn, td, vn, vd, an, ad], some [pn, pd, qn, qd, rn, rd] => .need ((VF kn kd ∧ VF tn td ∧ VF vn vd ∧ VF an ad) ∧ VF pn pd ∧ VF qn qd ∧ VF rn rd)
      (.ret (.agg [iv (oN (atO (ratOf kn kd) (ratOf tn td) (ratOf vn vd) (ratOf an ad) (ratOf pn pd) (ratOf qn qd) (ratOf rn rd))), iv (oD (atO (ratOf kn kd) (ratOf tn td) (ratOf vn vd) (ratOf an ad) (ratOf pn pd) (ratOf qn qd) (ratOf rn rd))),
        iv (oE (atO (ratOf kn kd) (ratOf tn td) (ratOf vn vd) (ratOf an ad) (ratOf pn pd) (ratOf qn qd) (ratOf rn rd)))]))
    | _, _ => .fail
  | _ => .fail
theorem cAtR_ok : CtrOK Try.prog 63 cAtR := by
  refine ctrOK_leS C9_ok D9_ok (by kernel_rfl) (by kernel_rfl) fun ss r h => ?_
  unfold cAtR at h
  split at h
  · split at h
    · rename_i e1 e2
      obtain ⟨⟨⟨h1, h2, h3, h4⟩, h5, h6, h7⟩, rfl⟩ := h
      rw [intsOf_eq e1, intsOf_eq e2]
      have := atR_sat h1.fits h2.fits h3.fits h4.fits h5.fits h6.fits h7.fits
      rw [h1.low.num, h1.low.den, h2.low.num, h2.low.den, h3.low.num, h3.low.den, h4.low.num, h4.low.den, h5.low.num, h5.low.den, h6.low.num, h6.low.den, h7.low.num, h7.low.den] at this
      exact ⟨_, 200, atH 3, by simp [leSVs, leSV, iv, bv, leD], Sat.of_eq (ZAtR_eq _ _ _ _ _ _ _ _ _ _ _ _ _ _) ⟨this⟩⟩
    · exact h.elim
  · exact h.elim

noncomputable def cCorner : Ctr := fun ss => match ss with
  | [.agg l, .agg m, .d (.x (.bool u))] => match intsOf .i64 l, intsOf .i64 m with
    | some [kn, kd, tn, td, vn, vd, an, ad], some [a0, a1, a2, a3, b0, b1, b2, b3, c0, c1, c2, c3] =>
      .ret (.agg [iv (crI tn a0 a2 u), iv (crI tn a1 a3 u), iv (crI vn b0 b2 u), iv (crI vn b1 b3 u), iv (crI an c0 c2 u), iv (crI an c1 c3 u)])
    | _, _ => .fail
  | _ => .fail
theorem cCorner_ok : CtrOK Try.prog 140 cCorner := by
  refine ctrOK_leS C9_ok D9_ok (by kernel_rfl) (by kernel_rfl) fun ss r h => ?_
  unfold cCorner at h
  split at h
  · rename_i u
    split at h
    · rename_i kn kd tn td vn vd an ad a0 a1 a2 a3 b0 b1 b2 b3 c0 c1 c2 c3 e1 e2
      obtain rfl := h
      rw [intsOf_eq e1, intsOf_eq e2]
      exact ⟨_, 200, coH 3, by simp [leSVs, leSV, iv, bv, leD], Sat.of_eq (ZCo_eq kn kd tn td vn vd an ad a0 a1 a2 a3 b0 b1 b2 b3 c0 c1 c2 c3 u) ⟨co_sat⟩⟩
    · exact h.elim
  · exact h.elim
theorem cCornerR_ok : CtrOK Try.prog 138 cCorner := by
  refine ctrOK_leS C9_ok D9_ok (by kernel_rfl) (by kernel_rfl) fun ss r h => ?_
  unfold cCorner at h
  split at h
  · rename_i u
    split at h
    · rename_i kn kd tn td vn vd an ad a0 a1 a2 a3 b0 b1 b2 b3 c0 c1 c2 c3 e1 e2
      obtain rfl := h
      rw [intsOf_eq e1, intsOf_eq e2]
      exact ⟨_, 200, coH 3, by simp [leSVs, leSV, iv, bv, leD], Sat.of_eq (ZCoR_eq kn kd tn td vn vd an ad a0 a1 a2 a3 b0 b1 b2 b3 c0 c1 c2 c3 u) ⟨coR_sat⟩⟩
    · exact h.elim
  · exact h.elim

end Go.Proofs.Ytpaejfeojdoikaa

namespace Go.Proofs.Ytpaejfeojdoikaa
open Go.Sx
set_option maxRecDepth 100000

/-! ### Min, Max, Sub -/

noncomputable def mn (p q : Rat) : Rat := if q < p then q else p
noncomputable def mx (p q : Rat) : Rat := if p < q then q else p
theorem cmpR_pos {p q : Rat} : decide (cmpR p q > 0) = decide (q < p) := by
  rw [decide_eq_decide]; unfold cmpR
  by_cases h : p < q
  · rw [if_pos h]; exact ⟨fun h => by omega, fun h2 => absurd h2 (Rat.not_lt.2 (Rat.le_of_lt h))⟩
  · rw [if_neg h]
    by_cases e : p = q
    · subst e; rw [if_pos rfl]; exact ⟨fun h => by omega, fun h2 => absurd h2 Rat.lt_irrefl⟩
    · rw [if_neg e]; exact ⟨fun _ => Rat.lt_of_le_of_ne (Rat.not_lt.1 h) (fun e2 => e e2.symm), fun _ => by omega⟩
theorem cmpR_neg {p q : Rat} : decide (cmpR p q < 0) = decide (p < q) := by
  rw [decide_eq_decide]; unfold cmpR
  by_cases h : p < q
  · rw [if_pos h]; exact ⟨fun _ => h, fun _ => by omega⟩
  · rw [if_neg h]
    by_cases e : p = q
    · subst e; rw [if_pos rfl]; exact ⟨fun h => by omega, fun h2 => absurd h2 h⟩
    · rw [if_neg e]; exact ⟨fun h => by omega, fun h2 => absurd h2 h⟩
theorem cmpR_le {p q : Rat} : decide (cmpR p q ≤ 0) = decide (p ≤ q) := by
  have := cmpR_pos (p := p) (q := q)
  rw [decide_eq_decide] at this ⊢
  rw [← Rat.not_lt, ← this]; omega
theorem cmpR_ge {p q : Rat} : decide (cmpR p q ≥ 0) = decide (q ≤ p) := by
  have := cmpR_neg (p := p) (q := q)
  rw [decide_eq_decide] at this ⊢
  rw [← Rat.not_lt, ← this]; omega

noncomputable def cMin : Ctr := fun ss => match ss with
  | [.agg [.d (.x (.int .i64 a)), .d (.x (.int .i64 b))], .agg [.d (.x (.int .i64 c)), .d (.x (.int .i64 d))]] => .need (VF a b ∧ VF c d) (.ret (.agg [iv (mn (ratOf a b) (ratOf c d)).num, iv (mn (ratOf a b) (ratOf c d)).den]))
  | _ => .fail
noncomputable def cMax : Ctr := fun ss => match ss with
  | [.agg [.d (.x (.int .i64 a)), .d (.x (.int .i64 b))], .agg [.d (.x (.int .i64 c)), .d (.x (.int .i64 d))]] => .need (VF a b ∧ VF c d) (.ret (.agg [iv (mx (ratOf a b) (ratOf c d)).num, iv (mx (ratOf a b) (ratOf c d)).den]))
  | _ => .fail
theorem VF.out {a b : Int} (h : VF a b) : iv (ratOf a b).num = iv a ∧ iv ((ratOf a b).den : Int) = iv b := by rw [h.low.num, h.low.den]; exact ⟨rfl, rfl⟩
theorem cMinR_ok : CtrOK Try.prog 83 cMin := by
  refine ctrOK_leS C9_ok D9_ok (by kernel_rfl) (by kernel_rfl) fun ss r h => ?_
  unfold cMin at h
  split at h
  · rename_i a b c d
    obtain ⟨⟨h1, h2⟩, rfl⟩ := h
    refine ⟨[.agg [iv a, iv b], .agg [iv c, iv d]], 200, .nil, by simp [leSVs, leSV, iv, leD], Sat.of_eq (LMinR_eq a b c d) ⟨?_⟩⟩
    unfold LMinR mn
    rw [cmpR_neg]
    refine ⟨⟨h2, h1⟩, fun h => ?_, fun h => ?_⟩
    · rw [if_pos (of_decide_eq_true h), h2.out.1, h2.out.2]; exact rfl
    · rw [if_neg (of_decide_eq_false h), h1.out.1, h1.out.2]; exact rfl
  · exact h.elim
theorem cMaxR_ok : CtrOK Try.prog 84 cMax := by
  refine ctrOK_leS C9_ok D9_ok (by kernel_rfl) (by kernel_rfl) fun ss r h => ?_
  unfold cMax at h
  split at h
  · rename_i a b c d
    obtain ⟨⟨h1, h2⟩, rfl⟩ := h
    refine ⟨[.agg [iv a, iv b], .agg [iv c, iv d]], 200, .nil, by simp [leSVs, leSV, iv, leD], Sat.of_eq (LMaxR_eq a b c d) ⟨?_⟩⟩
    unfold LMaxR mx
    rw [cmpR_pos]
    refine ⟨⟨h2, h1⟩, fun h => ?_, fun h => ?_⟩
    · rw [if_pos (of_decide_eq_true h), h2.out.1, h2.out.2]; exact rfl
    · rw [if_neg (of_decide_eq_false h), h1.out.1, h1.out.2]; exact rfl
  · exact h.elim
theorem cMinU_ok : CtrOK Try.prog 95 cMin := by
  refine ctrOK_leS C9_ok D9_ok (by kernel_rfl) (by kernel_rfl) fun ss r h => ?_
  unfold cMin at h
  split at h
  · rename_i a b c d
    obtain ⟨⟨h1, h2⟩, rfl⟩ := h
    refine ⟨[.agg [iv a, iv b], .agg [iv c, iv d]], 200, .nil, by simp [leSVs, leSV, iv, leD], Sat.of_eq (LMinU_eq a b c d) ⟨?_⟩⟩
    unfold LMinU mn
    rw [cmpR_pos]
    refine ⟨⟨h1, h2⟩, fun h => ?_, fun h => ?_⟩
    · rw [if_pos (of_decide_eq_true h), h2.out.1, h2.out.2]; exact rfl
    · rw [if_neg (of_decide_eq_false h), h1.out.1, h1.out.2]; exact rfl
  · exact h.elim
theorem cMaxU_ok : CtrOK Try.prog 96 cMax := by
  refine ctrOK_leS C9_ok D9_ok (by kernel_rfl) (by kernel_rfl) fun ss r h => ?_
  unfold cMax at h
  split at h
  · rename_i a b c d
    obtain ⟨⟨h1, h2⟩, rfl⟩ := h
    refine ⟨[.agg [iv a, iv b], .agg [iv c, iv d]], 200, .nil, by simp [leSVs, leSV, iv, leD], Sat.of_eq (LMaxU_eq a b c d) ⟨?_⟩⟩
    unfold LMaxU mx
    rw [cmpR_neg]
    refine ⟨⟨h1, h2⟩, fun h => ?_, fun h => ?_⟩
    · rw [if_pos (of_decide_eq_true h), h2.out.1, h2.out.2]; exact rfl
    · rw [if_neg (of_decide_eq_false h), h1.out.1, h1.out.2]; exact rfl
  · exact h.elim

theorem VF.neg {c d : Int} (h : VF c d) : VF (0 - c) d := ⟨⟨h.low.pos, by have := h.low.cop; rwa [Int.zero_sub, Int.natAbs_neg]⟩, by have := h.n; omega, h.d⟩
theorem ratOf_neg {c d : Int} : ratOf (0 - c) d = - ratOf c d := by
  unfold ratOf; rw [Int.zero_sub, Rat.neg_mkRat]
noncomputable def cSubR : Ctr := fun ss => match ss with
  | [.agg [.d (.x (.int .i64 a)), .d (.x (.int .i64 b))], .agg [.d (.x (.int .i64 c)), .d (.x (.int .i64 d))]] => .need (VF a b ∧ VF c d) (.ret (.agg [iv (rN (ratOf a b - ratOf c d)), iv (rD (ratOf a b - ratOf c d)), iv (rE (ratOf a b - ratOf c d))]))
  | _ => .fail
theorem cSubR_ok : CtrOK Try.prog 42 cSubR := by
  refine ctrOK_leS C9_ok D9_ok (by kernel_rfl) (by kernel_rfl) fun ss r h => ?_
  unfold cSubR at h
  split at h
  · rename_i a b c d
    obtain ⟨⟨h1, h2⟩, rfl⟩ := h
    refine ⟨[.agg [iv a, iv b], .agg [iv c, iv d]], 200, .nil, by simp [leSVs, leSV, iv, leD], Sat.of_eq (LSub_eq a b c d) ⟨?_⟩⟩
    unfold LSub
    have := h2.n
    rw [w64_of (n := 0 - c) (by omega) (by omega), ratOf_neg, ← Rat.sub_eq_add_neg]
    exact ⟨⟨h1, h2.neg⟩, rfl⟩
  · exact h.elim

/-! ### Numbers of bytes -/

def Byt (n : Nat) (cell : Nat → Nat → DV) : Prop := n ≤ 9223372036854775807 ∧ ∀ i, i < n → ∃ b, cell i 0 = .x (.int .u8 b) ∧ 0 ≤ b ∧ b < 256
theorem le_ro8 {n : Nat} {cell : Nat → Nat → DV} (hb : Byt n cell) : ∀ i j, i < n → j < 1 → cell i j = .x (.int .u8 (intCell cell i)) := by
  intro i j hi hj
  obtain rfl : j = 0 := by omega
  obtain ⟨b, e, _⟩ := hb.2 i hi
  simp [intCell, e, intOf1]
theorem Byt.get {n : Nat} {cell : Nat → Nat → DV} (hb : Byt n cell) {i : Nat} (hi : i < n) : 0 ≤ intCell cell i ∧ intCell cell i < 256 := by
  obtain ⟨b, e, h⟩ := hb.2 i hi
  simp only [intCell, e, intOf1]; exact h
/-- An element of a list that is repeated. -/
def at8 (n : Nat) (c : Nat → Int) (i : Int) : Int := if n = 0 then 0 else c (i.toNat % n)
theorem at8_b {n : Nat} {cell : Nat → Nat → DV} (hb : Byt n cell) (i : Int) : 0 ≤ at8 n (intCell cell) i ∧ at8 n (intCell cell) i < 256 := by
  unfold at8; split
  · omega
  · exact hb.get (Nat.mod_lt _ (by omega))
noncomputable def cAt8 : Ctr := fun ss => match ss with
  | [.d (.ro n 1 cell), .d (.x (.int .i64 i))] => .need (Byt n cell ∧ 0 ≤ i) (.ret (iv (at8 n (intCell cell) i)))
  | _ => .fail
theorem cAt8_ok : CtrOK Try.prog 74 cAt8 := by
  refine ctrOK_leS C9_ok D9_ok (by kernel_rfl) (by kernel_rfl) fun ss r h => ?_
  unfold cAt8 at h
  split at h
  · rename_i n cell i
    obtain ⟨⟨h1, h2⟩, rfl⟩ := h
    refine ⟨[ro8 n (intCell cell), iv i], 200, .nil, ?_, Sat.of_eq (LAt8_eq n (intCell cell) i) ⟨?_⟩⟩
    · simp only [leSVs, leSV, ro8, iv, leD, and_true, true_and]
      exact le_ro8 h1
    · unfold LAt8
      refine ⟨fun h => ?_, fun h => ?_⟩
      · have h : n = 0 := by simp at h; omega
        rw [at8, if_pos h]; exact rfl
      · have h : n ≠ 0 := by simp at h; omega
        have e : Int.tmod i n = ((i.toNat % n : Nat) : Int) := by
          rw [tmod_lit h2, Int.natCast_emod]; congr 1; omega
        have hl := Nat.mod_lt i.toNat (show n > 0 by omega)
        rw [e, Int.toNat_natCast]
        have hb := h1.get hl
        rw [w64_of (by omega) (by omega)]
        refine ⟨by omega, by omega, ?_⟩
        rw [at8, if_neg h]; exact rfl
  · exact h.elim

/-- A small fraction of two bytes. -/
noncomputable def frQ (a b : Int) : Rat := ratOf (a % 41 - 20) (1 + b % 6)
noncomputable def cFrac : Ctr := fun ss => match ss with
  | [.d (.x (.int .i64 a)), .d (.x (.int .i64 b))] => .need ((0 ≤ a ∧ a < 256) ∧ 0 ≤ b ∧ b < 256) (.ret (.agg [iv (frQ a b).num, iv (frQ a b).den]))
  | _ => .fail
theorem cFrac_ok : CtrOK Try.prog 73 cFrac := by
  refine ctrOK_leS C9_ok D9_ok (by kernel_rfl) (by kernel_rfl) fun ss r h => ?_
  unfold cFrac at h
  split at h
  · rename_i a b
    obtain ⟨⟨⟨a1, a2⟩, b1, b2⟩, rfl⟩ := h
    refine ⟨[iv a, iv b], 200, .nil, by simp [leSVs, leSV, iv, leD], Sat.of_eq (LFrac_eq a b) ⟨?_⟩⟩
    unfold LFrac
    rw [tmod_lit a1, tmod_lit b1, w64_of (n := a % 41 - 20) (by omega) (by omega), w64_of (n := 1 + b % 6) (by omega) (by omega)]
    exact ⟨by decide, by decide, by omega, rfl⟩
  · exact h.elim

noncomputable def manA : FuncId → Option Ctr := fun k => match k with
  | 76 => some cAtL
  | 63 => some cAtR
  | 140 => some cCorner
  | 138 => some cCorner
  | 83 => some cMin
  | 84 => some cMax
  | 95 => some cMin
  | 96 => some cMax
  | 42 => some cSubR
  | 74 => some cAt8
  | 73 => some cFrac
  | k => man9 k
theorem manA_ok (k : Nat) (c : Ctr) (h : manA k = some c) : CtrOK Try.prog k c ∧ goodF Try.prog k = true := by
  unfold manA at h
  split at h
  · cases h; exact ⟨cAtL_ok, by kernel_rfl⟩
  · cases h; exact ⟨cAtR_ok, by kernel_rfl⟩
  · cases h; exact ⟨cCorner_ok, by kernel_rfl⟩
  · cases h; exact ⟨cCornerR_ok, by kernel_rfl⟩
  · cases h; exact ⟨cMinR_ok, by kernel_rfl⟩
  · cases h; exact ⟨cMaxR_ok, by kernel_rfl⟩
  · cases h; exact ⟨cMinU_ok, by kernel_rfl⟩
  · cases h; exact ⟨cMaxU_ok, by kernel_rfl⟩
  · cases h; exact ⟨cSubR_ok, by kernel_rfl⟩
  · cases h; exact ⟨cAt8_ok, by kernel_rfl⟩
  · cases h; exact ⟨cFrac_ok, by kernel_rfl⟩
  · exact man9_ok _ _ h
noncomputable def CA : Ctx := ctxN Try.prog manA (fun _ => false) 200 .nil 6
theorem CA_ok : CtxOK Try.prog CA := ctxN_ok mixed manA_ok 6
noncomputable def DA : Dr := fun _ => drawn Try.prog CA
theorem DA_ok : DrOK Try.prog CA DA := drawn_ok CA_ok mixed
noncomputable def TA (h : Hint) (k : Nat) (args : List SV) : Tree SV := fnT Try.prog CA DA 200 (fnOf Try.prog k) (bodyOf Try.prog k) args h

noncomputable def LLin (n : Nat) (c : Nat → Int) : Tree SV :=
  .need ((Byt n fun i x => DV.x (.int .u8 (c i))) ∧ (0 : Int) ≤ (0 : Int))
  (.need ((Byt n fun i x => DV.x (.int .u8 (c i))) ∧ (0 : Int) ≤ (1 : Int))
   (.need (((0 : Int) ≤ at8 n (fun i => c i) (0 : Int) ∧ at8 n (fun i => c i) (0 : Int) < (256 : Int)) ∧ (0 : Int) ≤ at8 n (fun i => c i) (1 : Int) ∧ at8 n (fun i => c i) (1 : Int) < (256 : Int))
   (.need ((Byt n fun i x => DV.x (.int .u8 (c i))) ∧ (0 : Int) ≤ (2 : Int))
   (.need ((Byt n fun i x => DV.x (.int .u8 (c i))) ∧ (0 : Int) ≤ (3 : Int))
   (.need (((0 : Int) ≤ at8 n (fun i => c i) (2 : Int) ∧ at8 n (fun i => c i) (2 : Int) < (256 : Int)) ∧ (0 : Int) ≤ at8 n (fun i => c i) (3 : Int) ∧ at8 n (fun i => c i) (3 : Int) < (256 : Int))
   (.need ((Byt n fun i x => DV.x (.int .u8 (c i))) ∧ (0 : Int) ≤ (4 : Int))
   (.need ((Byt n fun i x => DV.x (.int .u8 (c i))) ∧ (0 : Int) ≤ (5 : Int))
   (.need (((0 : Int) ≤ at8 n (fun i => c i) (4 : Int) ∧ at8 n (fun i => c i) (4 : Int) < (256 : Int)) ∧ (0 : Int) ≤ at8 n (fun i => c i) (5 : Int) ∧ at8 n (fun i => c i) (5 : Int) < (256 : Int))
   (.need ((Byt n fun i x => DV.x (.int .u8 (c i))) ∧ (0 : Int) ≤ (6 : Int))
   (.need ((Byt n fun i x => DV.x (.int .u8 (c i))) ∧ (0 : Int) ≤ (7 : Int))
   (.need (((0 : Int) ≤ at8 n (fun i => c i) (6 : Int) ∧ at8 n (fun i => c i) (6 : Int) < (256 : Int)) ∧ (0 : Int) ≤ at8 n (fun i => c i) (7 : Int) ∧ at8 n (fun i => c i) (7 : Int) < (256 : Int))
   (.ret
   (SV.agg
   [iv (Rat.num (frQ (at8 n (fun i => c i) (0 : Int)) (at8 n (fun i => c i) (1 : Int)))), iv (↑(Rat.den (frQ (at8 n (fun i => c i) (0 : Int)) (at8 n (fun i => c i) (1 : Int)))) : Int),
   iv (Rat.num (frQ (at8 n (fun i => c i) (2 : Int)) (at8 n (fun i => c i) (3 : Int)))), iv (↑(Rat.den (frQ (at8 n (fun i => c i) (2 : Int)) (at8 n (fun i => c i) (3 : Int)))) : Int),
   iv (Rat.num (frQ (at8 n (fun i => c i) (4 : Int)) (at8 n (fun i => c i) (5 : Int)))), iv (↑(Rat.den (frQ (at8 n (fun i => c i) (4 : Int)) (at8 n (fun i => c i) (5 : Int)))) : Int),
   iv (Rat.num (frQ (at8 n (fun i => c i) (6 : Int)) (at8 n (fun i => c i) (7 : Int)))), iv (↑(Rat.den (frQ (at8 n (fun i => c i) (6 : Int)) (at8 n (fun i => c i) (7 : Int)))) : Int)])))))))))))))

theorem LLin_eq (n : Nat) (c : Nat → Int) : TA .nil 15 [ro8 n c] = LLin n c := by kernel_rfl

noncomputable def LIvl (n : Nat) (c : Nat → Int) (i : Int) : Tree SV :=
  .need ((Byt n fun i x => DV.x (.int .u8 (c i))) ∧ (0 : Int) ≤ i)
  (.need ((Byt n fun i x => DV.x (.int .u8 (c i))) ∧ (0 : Int) ≤ w64 (i + (1 : Int)))
   (.need (((0 : Int) ≤ at8 n (fun i => c i) i ∧ at8 n (fun i => c i) i < (256 : Int)) ∧ (0 : Int) ≤ at8 n (fun i => c i) (w64 (i + (1 : Int))) ∧ at8 n (fun i => c i) (w64 (i + (1 : Int))) < (256 : Int))
   (.need ((Byt n fun i x => DV.x (.int .u8 (c i))) ∧ (0 : Int) ≤ w64 (i + (2 : Int)))
   (.need ((Byt n fun i x => DV.x (.int .u8 (c i))) ∧ (0 : Int) ≤ w64 (i + (3 : Int)))
   (.need
   (((0 : Int) ≤ at8 n (fun i => c i) (w64 (i + (2 : Int))) ∧ at8 n (fun i => c i) (w64 (i + (2 : Int))) < (256 : Int)) ∧
   (0 : Int) ≤ at8 n (fun i => c i) (w64 (i + (3 : Int))) ∧ at8 n (fun i => c i) (w64 (i + (3 : Int))) < (256 : Int))
   (.need
   (VF (Rat.num (frQ (at8 n (fun i => c i) i) (at8 n (fun i => c i) (w64 (i + (1 : Int)))))) (↑(Rat.den (frQ (at8 n (fun i => c i) i) (at8 n (fun i => c i) (w64 (i + (1 : Int)))))) : Int) ∧
   VF (Rat.num (frQ (at8 n (fun i => c i) (w64 (i + (2 : Int)))) (at8 n (fun i => c i) (w64 (i + (3 : Int)))))) (↑(Rat.den (frQ (at8 n (fun i => c i) (w64 (i + (2 : Int)))) (at8 n (fun i => c i) (w64 (i + (3 : Int)))))) : Int))
   (.need
   (VF (Rat.num (frQ (at8 n (fun i => c i) i) (at8 n (fun i => c i) (w64 (i + (1 : Int)))))) (↑(Rat.den (frQ (at8 n (fun i => c i) i) (at8 n (fun i => c i) (w64 (i + (1 : Int)))))) : Int) ∧
   VF (Rat.num (frQ (at8 n (fun i => c i) (w64 (i + (2 : Int)))) (at8 n (fun i => c i) (w64 (i + (3 : Int))))))
   (↑(Rat.den (frQ (at8 n (fun i => c i) (w64 (i + (2 : Int)))) (at8 n (fun i => c i) (w64 (i + (3 : Int)))))) : Int))
   (.ret
   (SV.agg
   [iv
   (Rat.num
   (mn (ratOf (Rat.num (frQ (at8 n (fun i => c i) i) (at8 n (fun i => c i) (w64 (i + (1 : Int)))))) (↑(Rat.den (frQ (at8 n (fun i => c i) i) (at8 n (fun i => c i) (w64 (i + (1 : Int)))))) : Int))
   (ratOf (Rat.num (frQ (at8 n (fun i => c i) (w64 (i + (2 : Int)))) (at8 n (fun i => c i) (w64 (i + (3 : Int))))))
   (↑(Rat.den (frQ (at8 n (fun i => c i) (w64 (i + (2 : Int)))) (at8 n (fun i => c i) (w64 (i + (3 : Int)))))) : Int)))),
   iv
   (↑(Rat.den
   (mn (ratOf (Rat.num (frQ (at8 n (fun i => c i) i) (at8 n (fun i => c i) (w64 (i + (1 : Int)))))) (↑(Rat.den (frQ (at8 n (fun i => c i) i) (at8 n (fun i => c i) (w64 (i + (1 : Int)))))) : Int))
   (ratOf (Rat.num (frQ (at8 n (fun i => c i) (w64 (i + (2 : Int)))) (at8 n (fun i => c i) (w64 (i + (3 : Int))))))
   (↑(Rat.den (frQ (at8 n (fun i => c i) (w64 (i + (2 : Int)))) (at8 n (fun i => c i) (w64 (i + (3 : Int)))))) : Int)))) :
   Int),
   iv
   (Rat.num
   (mx (ratOf (Rat.num (frQ (at8 n (fun i => c i) i) (at8 n (fun i => c i) (w64 (i + (1 : Int)))))) (↑(Rat.den (frQ (at8 n (fun i => c i) i) (at8 n (fun i => c i) (w64 (i + (1 : Int)))))) : Int))
   (ratOf (Rat.num (frQ (at8 n (fun i => c i) (w64 (i + (2 : Int)))) (at8 n (fun i => c i) (w64 (i + (3 : Int))))))
   (↑(Rat.den (frQ (at8 n (fun i => c i) (w64 (i + (2 : Int)))) (at8 n (fun i => c i) (w64 (i + (3 : Int)))))) : Int)))),
   iv
   (↑(Rat.den
   (mx (ratOf (Rat.num (frQ (at8 n (fun i => c i) i) (at8 n (fun i => c i) (w64 (i + (1 : Int)))))) (↑(Rat.den (frQ (at8 n (fun i => c i) i) (at8 n (fun i => c i) (w64 (i + (1 : Int)))))) : Int))
   (ratOf (Rat.num (frQ (at8 n (fun i => c i) (w64 (i + (2 : Int)))) (at8 n (fun i => c i) (w64 (i + (3 : Int))))))
   (↑(Rat.den (frQ (at8 n (fun i => c i) (w64 (i + (2 : Int)))) (at8 n (fun i => c i) (w64 (i + (3 : Int)))))) : Int)))) :
   Int)])))))))))

theorem LIvl_eq (n : Nat) (c : Nat → Int) (i : Int) : TA .nil 26 [ro8 n c, iv i] = LIvl n c i := by kernel_rfl

noncomputable def LBtw (a b c d k : Int) : Tree SV :=
  .need (VF c d ∧ VF a b)
  (.need ((9 : Int) ≠ (0 : Int))
   (.need (((-4611686018427387904 : Int) ≤ w64 (Int.tmod k (9 : Int)) ∧ w64 (Int.tmod k (9 : Int)) ≤ (4611686018427387904 : Int)) ∧ (1 : Int) ≤ (8 : Int) ∧ (8 : Int) ≤ (4611686018427387904 : Int))
   (.need (VF (rN (ratOf c d - ratOf a b)) (rD (ratOf c d - ratOf a b)) ∧ VF (Rat.num (ratOf (w64 (Int.tmod k (9 : Int))) (8 : Int))) (↑(Rat.den (ratOf (w64 (Int.tmod k (9 : Int))) (8 : Int))) : Int))
   (.need
   (VF a b ∧
   VF (rN (ratOf (rN (ratOf c d - ratOf a b)) (rD (ratOf c d - ratOf a b)) * ratOf (Rat.num (ratOf (w64 (Int.tmod k (9 : Int))) (8 : Int))) (↑(Rat.den (ratOf (w64 (Int.tmod k (9 : Int))) (8 : Int))) : Int)))
   (rD (ratOf (rN (ratOf c d - ratOf a b)) (rD (ratOf c d - ratOf a b)) * ratOf (Rat.num (ratOf (w64 (Int.tmod k (9 : Int))) (8 : Int))) (↑(Rat.den (ratOf (w64 (Int.tmod k (9 : Int))) (8 : Int))) : Int))))
   (.ite
   (rE (ratOf c d - ratOf a b) != (0 : Int) ||
   rE (ratOf (rN (ratOf c d - ratOf a b)) (rD (ratOf c d - ratOf a b)) * ratOf (Rat.num (ratOf (w64 (Int.tmod k (9 : Int))) (8 : Int))) (↑(Rat.den (ratOf (w64 (Int.tmod k (9 : Int))) (8 : Int))) : Int)) != (0 : Int) ||
   rE
   (ratOf a b +
   ratOf (rN (ratOf (rN (ratOf c d - ratOf a b)) (rD (ratOf c d - ratOf a b)) * ratOf (Rat.num (ratOf (w64 (Int.tmod k (9 : Int))) (8 : Int))) (↑(Rat.den (ratOf (w64 (Int.tmod k (9 : Int))) (8 : Int))) : Int)))
   (rD (ratOf (rN (ratOf c d - ratOf a b)) (rD (ratOf c d - ratOf a b)) * ratOf (Rat.num (ratOf (w64 (Int.tmod k (9 : Int))) (8 : Int))) (↑(Rat.den (ratOf (w64 (Int.tmod k (9 : Int))) (8 : Int))) : Int)))) !=
   (0 : Int))
   (.ret (SV.agg [iv a, iv b]))
   (.ret
   (SV.agg
   [iv
   (rN
   (ratOf a b +
   ratOf (rN (ratOf (rN (ratOf c d - ratOf a b)) (rD (ratOf c d - ratOf a b)) * ratOf (Rat.num (ratOf (w64 (Int.tmod k (9 : Int))) (8 : Int))) (↑(Rat.den (ratOf (w64 (Int.tmod k (9 : Int))) (8 : Int))) : Int)))
   (rD (ratOf (rN (ratOf c d - ratOf a b)) (rD (ratOf c d - ratOf a b)) * ratOf (Rat.num (ratOf (w64 (Int.tmod k (9 : Int))) (8 : Int))) (↑(Rat.den (ratOf (w64 (Int.tmod k (9 : Int))) (8 : Int))) : Int))))),
   iv
   (rD
   (ratOf a b +
   ratOf (rN (ratOf (rN (ratOf c d - ratOf a b)) (rD (ratOf c d - ratOf a b)) * ratOf (Rat.num (ratOf (w64 (Int.tmod k (9 : Int))) (8 : Int))) (↑(Rat.den (ratOf (w64 (Int.tmod k (9 : Int))) (8 : Int))) : Int)))
   (rD (ratOf (rN (ratOf c d - ratOf a b)) (rD (ratOf c d - ratOf a b)) * ratOf (Rat.num (ratOf (w64 (Int.tmod k (9 : Int))) (8 : Int))) (↑(Rat.den (ratOf (w64 (Int.tmod k (9 : Int))) (8 : Int))) : Int)))))])))))))

theorem LBtw_eq (a b c d k : Int) : TA .nil 77 [.agg [iv a, iv b, iv c, iv d], u8 k] = LBtw a b c d k := by kernel_rfl

noncomputable def LRng (kn kd tn td vn vd an ad a0 a1 a2 a3 b0 b1 b2 b3 c0 c1 c2 c3 : Int) : Tree SV :=
  .need ((VF kn kd ∧ VF tn td ∧ VF vn vd ∧ VF an ad) ∧ VF (crI tn a0 a2 false) (crI tn a1 a3 false) ∧ VF (crI vn b0 b2 false) (crI vn b1 b3 false) ∧ VF (crI an c0 c2 false) (crI an c1 c3 false))
  (.ite
   (oE (atO (ratOf kn kd) (ratOf tn td) (ratOf vn vd) (ratOf an ad) (ratOf (crI tn a0 a2 false) (crI tn a1 a3 false)) (ratOf (crI vn b0 b2 false) (crI vn b1 b3 false)) (ratOf (crI an c0 c2 false) (crI an c1 c3 false))) != (0 : Int))
   (.ret
   (SV.tup
   [SV.agg [iv (0 : Int), iv (0 : Int), iv (0 : Int), iv (0 : Int)],
   iv (oE (atO (ratOf kn kd) (ratOf tn td) (ratOf vn vd) (ratOf an ad) (ratOf (crI tn a0 a2 false) (crI tn a1 a3 false)) (ratOf (crI vn b0 b2 false) (crI vn b1 b3 false)) (ratOf (crI an c0 c2 false) (crI an c1 c3 false))))]))
   (.need ((VF kn kd ∧ VF tn td ∧ VF vn vd ∧ VF an ad) ∧ VF (crI tn a0 a2 true) (crI tn a1 a3 true) ∧ VF (crI vn b0 b2 true) (crI vn b1 b3 true) ∧ VF (crI an c0 c2 true) (crI an c1 c3 true))
   (.ite (oE (atO (ratOf kn kd) (ratOf tn td) (ratOf vn vd) (ratOf an ad) (ratOf (crI tn a0 a2 true) (crI tn a1 a3 true)) (ratOf (crI vn b0 b2 true) (crI vn b1 b3 true)) (ratOf (crI an c0 c2 true) (crI an c1 c3 true))) != (0 : Int))
   (.ret
   (SV.tup
   [SV.agg [iv (0 : Int), iv (0 : Int), iv (0 : Int), iv (0 : Int)],
   iv (oE (atO (ratOf kn kd) (ratOf tn td) (ratOf vn vd) (ratOf an ad) (ratOf (crI tn a0 a2 true) (crI tn a1 a3 true)) (ratOf (crI vn b0 b2 true) (crI vn b1 b3 true)) (ratOf (crI an c0 c2 true) (crI an c1 c3 true))))]))
   (.ret
   (SV.tup
   [SV.agg
   [iv (oN (atO (ratOf kn kd) (ratOf tn td) (ratOf vn vd) (ratOf an ad) (ratOf (crI tn a0 a2 false) (crI tn a1 a3 false)) (ratOf (crI vn b0 b2 false) (crI vn b1 b3 false)) (ratOf (crI an c0 c2 false) (crI an c1 c3 false)))),
   iv (oD (atO (ratOf kn kd) (ratOf tn td) (ratOf vn vd) (ratOf an ad) (ratOf (crI tn a0 a2 false) (crI tn a1 a3 false)) (ratOf (crI vn b0 b2 false) (crI vn b1 b3 false)) (ratOf (crI an c0 c2 false) (crI an c1 c3 false)))),
   iv (oN (atO (ratOf kn kd) (ratOf tn td) (ratOf vn vd) (ratOf an ad) (ratOf (crI tn a0 a2 true) (crI tn a1 a3 true)) (ratOf (crI vn b0 b2 true) (crI vn b1 b3 true)) (ratOf (crI an c0 c2 true) (crI an c1 c3 true)))),
   iv (oD (atO (ratOf kn kd) (ratOf tn td) (ratOf vn vd) (ratOf an ad) (ratOf (crI tn a0 a2 true) (crI tn a1 a3 true)) (ratOf (crI vn b0 b2 true) (crI vn b1 b3 true)) (ratOf (crI an c0 c2 true) (crI an c1 c3 true))))],
   iv (0 : Int)])))))

theorem LRng_eq (kn kd tn td vn vd an ad a0 a1 a2 a3 b0 b1 b2 b3 c0 c1 c2 c3 : Int) : TA .nil 75 [.agg [iv kn, iv kd, iv tn, iv td, iv vn, iv vd, iv an, iv ad], .agg [iv a0, iv a1, iv a2, iv a3, iv b0, iv b1, iv b2, iv b3, iv c0, iv c1, iv c2, iv c3]] = LRng kn kd tn td vn vd an ad a0 a1 a2 a3 b0 b1 b2 b3 c0 c1 c2 c3 := by kernel_rfl

noncomputable def LRngR (kn kd tn td vn vd an ad a0 a1 a2 a3 b0 b1 b2 b3 c0 c1 c2 c3 : Int) : Tree SV :=
  .need ((VF kn kd ∧ VF tn td ∧ VF vn vd ∧ VF an ad) ∧ VF (crI tn a0 a2 false) (crI tn a1 a3 false) ∧ VF (crI vn b0 b2 false) (crI vn b1 b3 false) ∧ VF (crI an c0 c2 false) (crI an c1 c3 false))
  (.need ((VF kn kd ∧ VF tn td ∧ VF vn vd ∧ VF an ad) ∧ VF (crI tn a0 a2 true) (crI tn a1 a3 true) ∧ VF (crI vn b0 b2 true) (crI vn b1 b3 true) ∧ VF (crI an c0 c2 true) (crI an c1 c3 true))
   (.ite
   (oE (atO (ratOf kn kd) (ratOf tn td) (ratOf vn vd) (ratOf an ad) (ratOf (crI tn a0 a2 false) (crI tn a1 a3 false)) (ratOf (crI vn b0 b2 false) (crI vn b1 b3 false)) (ratOf (crI an c0 c2 false) (crI an c1 c3 false))) != (0 : Int) ||
   oE (atO (ratOf kn kd) (ratOf tn td) (ratOf vn vd) (ratOf an ad) (ratOf (crI tn a0 a2 true) (crI tn a1 a3 true)) (ratOf (crI vn b0 b2 true) (crI vn b1 b3 true)) (ratOf (crI an c0 c2 true) (crI an c1 c3 true))) != (0 : Int))
   (.ret (SV.agg [iv (0 : Int), iv (0 : Int), iv (0 : Int), iv (0 : Int), iv (2 : Int)]))
   (.ret
   (SV.agg
   [iv (oN (atO (ratOf kn kd) (ratOf tn td) (ratOf vn vd) (ratOf an ad) (ratOf (crI tn a0 a2 false) (crI tn a1 a3 false)) (ratOf (crI vn b0 b2 false) (crI vn b1 b3 false)) (ratOf (crI an c0 c2 false) (crI an c1 c3 false)))),
   iv (oD (atO (ratOf kn kd) (ratOf tn td) (ratOf vn vd) (ratOf an ad) (ratOf (crI tn a0 a2 false) (crI tn a1 a3 false)) (ratOf (crI vn b0 b2 false) (crI vn b1 b3 false)) (ratOf (crI an c0 c2 false) (crI an c1 c3 false)))),
   iv (oN (atO (ratOf kn kd) (ratOf tn td) (ratOf vn vd) (ratOf an ad) (ratOf (crI tn a0 a2 true) (crI tn a1 a3 true)) (ratOf (crI vn b0 b2 true) (crI vn b1 b3 true)) (ratOf (crI an c0 c2 true) (crI an c1 c3 true)))),
   iv (oD (atO (ratOf kn kd) (ratOf tn td) (ratOf vn vd) (ratOf an ad) (ratOf (crI tn a0 a2 true) (crI tn a1 a3 true)) (ratOf (crI vn b0 b2 true) (crI vn b1 b3 true)) (ratOf (crI an c0 c2 true) (crI an c1 c3 true)))),
   iv (0 : Int)]))))

theorem LRngR_eq (kn kd tn td vn vd an ad a0 a1 a2 a3 b0 b1 b2 b3 c0 c1 c2 c3 : Int) : TA .nil 64 [.agg [iv kn, iv kd, iv tn, iv td, iv vn, iv vd, iv an, iv ad], .agg [iv a0, iv a1, iv a2, iv a3, iv b0, iv b1, iv b2, iv b3, iv c0, iv c1, iv c2, iv c3]] = LRngR kn kd tn td vn vd an ad a0 a1 a2 a3 b0 b1 b2 b3 c0 c1 c2 c3 := by kernel_rfl


end Go.Proofs.Ytpaejfeojdoikaa

/- Small fractions: plain laws, no program in sight. -/
namespace Go.Sx

/-- A fraction with a denominator that divides D, of size at most M. -/
structure Sm (D M : Nat) (q : Rat) : Prop where
  pos : 0 < D
  ex : ∃ n : Int, q * ((D : Int) : Rat) = (n : Rat) ∧ n.natAbs ≤ M * D

theorem natR_ne {D : Nat} (h : 0 < D) : ((D : Int) : Rat) ≠ 0 := by
  intro h2
  have : ((D : Int) : Rat) = ((0 : Int) : Rat) := h2
  rw [Rat.intCast_inj] at this; omega

theorem Sm.eq {D M : Nat} {q : Rat} {n : Int} (hD : 0 < D) (h : q * ((D : Int) : Rat) = (n : Rat)) : q = mkRat n D := by
  rw [Rat.mkRat_eq_div]
  have h0 := natR_ne hD
  rw [← h]
  exact (Rat.mul_div_cancel h0).symm

theorem Sm.bounds {D M : Nat} {q : Rat} (h : Sm D M q) : q.num.natAbs ≤ M * D ∧ q.den ≤ D := by
  obtain ⟨hD, n, h1, h2⟩ := h
  have e := Sm.eq (M := M) hD h1
  rw [e, Rat.num_mkRat, Rat.den_mkRat, if_neg (by omega), if_neg (by omega)]
  constructor
  · refine Nat.le_trans ?_ h2
    rw [Int.natAbs_ediv_of_dvd (by rw [Int.ofNat_dvd_left]; exact Nat.gcd_dvd_right _ _)]
    exact Nat.div_le_self _ _
  · exact Nat.div_le_self _ _

theorem Sm.le {D M D' M' : Nat} {q : Rat} (h : Sm D M q) (hD : D ∣ D') (h0 : 0 < D') (hM : M ≤ M') : Sm D' M' q := by
  obtain ⟨hp, n, h1, h2⟩ := h
  obtain ⟨k, rfl⟩ := hD
  refine ⟨h0, n * k, ?_, ?_⟩
  · rw [Int.natCast_mul, Rat.intCast_mul, ← Rat.mul_assoc, h1, ← Rat.intCast_mul]
  · rw [Int.natAbs_mul, Int.natAbs_natCast, ← Nat.mul_assoc]
    exact Nat.mul_le_mul_right _ (Nat.le_trans h2 (Nat.mul_le_mul_right _ hM))

theorem Sm.add {D M N : Nat} {p q : Rat} (h : Sm D M p) (k : Sm D N q) : Sm D (M + N) (p + q) := by
  obtain ⟨hp, n, h1, h2⟩ := h
  obtain ⟨_, m, k1, k2⟩ := k
  refine ⟨hp, n + m, by rw [Rat.add_mul, h1, k1, Rat.intCast_add], ?_⟩
  rw [Nat.add_mul]; exact Nat.le_trans (Int.natAbs_add_le _ _) (Nat.add_le_add h2 k2)
theorem Sm.neg {D M : Nat} {p : Rat} (h : Sm D M p) : Sm D M (-p) := by
  obtain ⟨hp, n, h1, h2⟩ := h
  exact ⟨hp, -n, by rw [Rat.neg_mul, h1, Rat.intCast_neg], by rwa [Int.natAbs_neg]⟩
theorem Sm.sub {D M N : Nat} {p q : Rat} (h : Sm D M p) (k : Sm D N q) : Sm D (M + N) (p - q) := by
  rw [Rat.sub_eq_add_neg]; exact h.add k.neg
theorem Sm.mul {D M E N : Nat} {p q : Rat} (h : Sm D M p) (k : Sm E N q) : Sm (D * E) (M * N) (p * q) := by
  obtain ⟨hp, n, h1, h2⟩ := h
  obtain ⟨kp, m, k1, k2⟩ := k
  refine ⟨Nat.mul_pos hp kp, n * m, ?_, ?_⟩
  · rw [Int.natCast_mul, Rat.intCast_mul, Rat.intCast_mul, ← h1, ← k1]
    rw [Rat.mul_assoc, Rat.mul_assoc, ← Rat.mul_assoc q, Rat.mul_comm q, Rat.mul_assoc]
  · rw [Int.natAbs_mul, Nat.mul_mul_mul_comm]; exact Nat.mul_le_mul h2 k2

theorem ratOf_mul {n d : Int} (hd : 1 ≤ d) : ratOf n d * (d : Rat) = n := by
  unfold ratOf
  rw [Rat.mkRat_eq_div]
  have e : ((d.toNat : Nat) : Rat) = (d : Rat) := by
    rw [← Rat.intCast_natCast]; congr 1; omega
  rw [e]
  refine Rat.div_mul_cancel ?_
  intro h
  have : (d : Rat) = ((0 : Int) : Rat) := h
  rw [Rat.intCast_inj] at this; omega

theorem Sm.ratOf {n d : Int} {D M : Nat} (hd : 1 ≤ d) (hD : 0 < D) (hdv : d.toNat ∣ D) (hn : n.natAbs ≤ M * d.toNat) : Sm D M (ratOf n d) := by
  obtain ⟨k, rfl⟩ := hdv
  refine ⟨hD, n * k, ?_, ?_⟩
  · rw [Int.natCast_mul, Rat.intCast_mul, ← Rat.mul_assoc, Int.toNat_of_nonneg (by omega), ratOf_mul hd, ← Rat.intCast_mul]
  · rw [Int.natAbs_mul, Int.natAbs_natCast, ← Nat.mul_assoc]; exact Nat.mul_le_mul_right _ hn

end Go.Sx

namespace Go.Proofs.Ytpaejfeojdoikaa
open Go.Sx
set_option maxRecDepth 100000

theorem _root_.Go.Sx.Sm.fits {D M : Nat} {q : Rat} (h : Sm D M q) (h1 : D ≤ 4611686018427387904) (h2 : M * D ≤ 4611686018427387904) : fitsR q :=
  ⟨Nat.le_trans h.bounds.1 h2, Nat.le_trans h.bounds.2 h1⟩
theorem _root_.Go.Sx.Sm.mn {D M : Nat} {p q : Rat} (h : Sm D M p) (k : Sm D M q) : Sm D M (mn p q) := by unfold Proofs.Ytpaejfeojdoikaa.mn; split <;> assumption
theorem _root_.Go.Sx.Sm.mx {D M : Nat} {p q : Rat} (h : Sm D M p) (k : Sm D M q) : Sm D M (mx p q) := by unfold Proofs.Ytpaejfeojdoikaa.mx; split <;> assumption
theorem crn_fits {c p q : Rat} {u : Bool} (h : fitsR p) (k : fitsR q) : fitsR (crn c p q u) := by unfold crn; split <;> assumption
theorem dvd60 {b : Int} (h1 : 0 ≤ b) : (1 + b % 6).toNat ∣ 60 := by
  have : b % 6 = 0 ∨ b % 6 = 1 ∨ b % 6 = 2 ∨ b % 6 = 3 ∨ b % 6 = 4 ∨ b % 6 = 5 := by omega
  rcases this with h | h | h | h | h | h <;> rw [h] <;> decide
theorem frQ_sm {a b : Int} (ha : 0 ≤ a) (hb : 0 ≤ b) : Sm 60 20 (frQ a b) := by
  unfold frQ
  refine Sm.ratOf (by omega) (by decide) (dvd60 hb) ?_
  have : 1 ≤ (1 + b % 6).toNat := by omega
  omega
/-- The fractions that bytes describe. -/
noncomputable def linQ (n : Nat) (c : Nat → Int) (j : Nat) : Rat := frQ (at8 n c (2 * j : Nat)) (at8 n c (2 * j + 1 : Nat))
theorem linQ_sm {n : Nat} {cell : Nat → Nat → DV} (h : Byt n cell) (j : Nat) : Sm 60 20 (linQ n (intCell cell) j) := frQ_sm (at8_b h _).1 (at8_b h _).1
theorem linQ_fits {n : Nat} {cell : Nat → Nat → DV} (h : Byt n cell) (j : Nat) : fitsR (linQ n (intCell cell) j) := (linQ_sm h j).fits (by decide) (by decide)
/-- The bounds of the intervals that bytes describe. -/
noncomputable def loQ (n : Nat) (c : Nat → Int) (j : Nat) : Rat := mn (linQ n c (2 * j)) (linQ n c (2 * j + 1))
noncomputable def hiQ (n : Nat) (c : Nat → Int) (j : Nat) : Rat := mx (linQ n c (2 * j)) (linQ n c (2 * j + 1))
theorem loQ_sm {n : Nat} {cell : Nat → Nat → DV} (h : Byt n cell) (j : Nat) : Sm 60 20 (loQ n (intCell cell) j) := (linQ_sm h _).mn (linQ_sm h _)
theorem hiQ_sm {n : Nat} {cell : Nat → Nat → DV} (h : Byt n cell) (j : Nat) : Sm 60 20 (hiQ n (intCell cell) j) := (linQ_sm h _).mx (linQ_sm h _)
theorem mn_le {p q : Rat} : mn p q ≤ p ∧ mn p q ≤ q := by unfold mn; split <;> grind
theorem le_mx {p q : Rat} : p ≤ mx p q ∧ q ≤ mx p q := by unfold mx; split <;> grind
theorem mn_mx {p q : Rat} : mn p q ≤ mx p q := Rat.le_trans mn_le.1 le_mx.1
theorem loQ_le {n : Nat} {c : Nat → Int} (j : Nat) : loQ n c j ≤ hiQ n c j := mn_mx

theorem byt_ro {n : Nat} {cell : Nat → Nat → DV} (h : Byt n cell) : Byt n fun i x => .x (.int .u8 (intCell cell i)) := ⟨h.1, fun i hi => ⟨_, rfl, h.get hi⟩⟩
theorem at8_ro {n : Nat} {cell : Nat → Nat → DV} (h : Byt n cell) (i : Int) : 0 ≤ at8 n (fun i => intCell cell i) i ∧ at8 n (fun i => intCell cell i) i < 256 := at8_b h i

noncomputable def cLin : Ctr := fun ss => match ss with
  | [.d (.ro n 1 cell)] => .need (Byt n cell) (.ret (.agg [iv (linQ n (intCell cell) 0).num, iv (linQ n (intCell cell) 0).den, iv (linQ n (intCell cell) 1).num, iv (linQ n (intCell cell) 1).den, iv (linQ n (intCell cell) 2).num, iv (linQ n (intCell cell) 2).den, iv (linQ n (intCell cell) 3).num, iv (linQ n (intCell cell) 3).den]))
  | _ => .fail
theorem cLin_ok : CtrOK Try.prog 15 cLin := by
  refine ctrOK_leS CA_ok DA_ok (by kernel_rfl) (by kernel_rfl) fun ss r h => ?_
  unfold cLin at h
  split at h
  · rename_i n cell
    obtain ⟨h1, rfl⟩ := h
    refine ⟨[ro8 n (intCell cell)], 200, .nil, ?_, Sat.of_eq (LLin_eq n (intCell cell)) ⟨?_⟩⟩
    · simp only [leSVs, leSV, ro8, leD, and_true, true_and]
      exact le_ro8 h1
    · unfold LLin
      have a := at8_ro h1
      have b := byt_ro h1
      exact ⟨⟨b, by decide⟩, ⟨b, by decide⟩, ⟨a _, a _⟩, ⟨b, by decide⟩, ⟨b, by decide⟩, ⟨a _, a _⟩, ⟨b, by decide⟩, ⟨b, by decide⟩, ⟨a _, a _⟩, ⟨b, by decide⟩, ⟨b, by decide⟩, ⟨a _, a _⟩, rfl⟩
  · exact h.elim

noncomputable def cIvl : Ctr := fun ss => match ss with
  | [.d (.ro n 1 cell), .d (.x (.int .i64 i))] => .need (Byt n cell ∧ 0 ≤ i ∧ i < 1000000 ∧ i % 4 = 0) (.ret (.agg [iv (loQ n (intCell cell) (i / 4).toNat).num, iv (loQ n (intCell cell) (i / 4).toNat).den, iv (hiQ n (intCell cell) (i / 4).toNat).num, iv (hiQ n (intCell cell) (i / 4).toNat).den]))
  | _ => .fail
theorem cIvl_ok : CtrOK Try.prog 26 cIvl := by
  refine ctrOK_leS CA_ok DA_ok (by kernel_rfl) (by kernel_rfl) fun ss r h => ?_
  unfold cIvl at h
  split at h
  · rename_i n cell i
    obtain ⟨⟨h1, i0, i1, i4⟩, rfl⟩ := h
    refine ⟨[ro8 n (intCell cell), iv i], 200, .nil, ?_, Sat.of_eq (LIvl_eq n (intCell cell) i) ⟨?_⟩⟩
    · simp only [leSVs, leSV, ro8, iv, leD, and_true, true_and]
      exact le_ro8 h1
    · unfold LIvl
      have a := at8_ro h1
      have b := byt_ro h1
      obtain ⟨j, hj⟩ : ∃ j : Nat, i = 4 * j := ⟨(i / 4).toNat, by omega⟩
      have ej : (i / 4).toNat = j := by omega
      rw [ej, w64_of (n := i + 1) (by omega) (by omega), w64_of (n := i + 2) (by omega) (by omega), w64_of (n := i + 3) (by omega) (by omega)]
      have e1 : frQ (at8 n (fun i => intCell cell i) i) (at8 n (fun i => intCell cell i) (i + 1)) = linQ n (intCell cell) (2 * j) := by
        unfold linQ; rw [show (i : Int) = ((2 * (2 * j) : Nat) : Int) by omega]; rfl
      have e2 : frQ (at8 n (fun i => intCell cell i) (i + 2)) (at8 n (fun i => intCell cell i) (i + 3)) = linQ n (intCell cell) (2 * j + 1) := by
        unfold linQ; rw [show i + 2 = ((2 * (2 * j + 1) : Nat) : Int) by omega, show i + 3 = ((2 * (2 * j + 1) + 1 : Nat) : Int) by omega]
      simp only [e1, e2, ratOf_rat]
      have v1 := VF.of (linQ_fits h1 (2 * j))
      have v2 := VF.of (linQ_fits h1 (2 * j + 1))
      exact ⟨⟨b, by omega⟩, ⟨b, by omega⟩, ⟨a _, a _⟩, ⟨b, by omega⟩, ⟨b, by omega⟩, ⟨a _, a _⟩, ⟨v1, v2⟩, ⟨v1, v2⟩, rfl⟩
  · exact h.elim

/-- An element of an interval. -/
noncomputable def btw (lo hi : Rat) (k : Int) : Rat := lo + (hi - lo) * ratOf (k % 9) 8
theorem btw_sm {lo hi : Rat} {k : Int} (h1 : Sm 60 20 lo) (h2 : Sm 60 20 hi) (hk : 0 ≤ k) : Sm 480 60 (btw lo hi k) :=
  (h1.le (by decide) (by decide) (Nat.le_refl _)).add ((h2.sub h1).mul (Sm.ratOf (D := 8) (M := 1) (by decide) (by decide) (by decide) (by omega)))
noncomputable def cBtw : Ctr := fun ss => match ss with
  | [.agg [.d (.x (.int .i64 a)), .d (.x (.int .i64 b)), .d (.x (.int .i64 c)), .d (.x (.int .i64 d))], .d (.x (.int .u8 k))] => .need (VF a b ∧ VF c d ∧ Sm 60 20 (ratOf a b) ∧ Sm 60 20 (ratOf c d) ∧ 0 ≤ k ∧ k < 256)
      (.ret (.agg [iv (btw (ratOf a b) (ratOf c d) k).num, iv (btw (ratOf a b) (ratOf c d) k).den]))
  | _ => .fail
theorem cBtw_ok : CtrOK Try.prog 77 cBtw := by
  refine ctrOK_leS CA_ok DA_ok (by kernel_rfl) (by kernel_rfl) fun ss r h => ?_
  unfold cBtw at h
  split at h
  · rename_i a b c d k
    obtain ⟨⟨h1, h2, s1, s2, k0, k1⟩, rfl⟩ := h
    refine ⟨[.agg [iv a, iv b, iv c, iv d], u8 k], 200, .nil, by simp [leSVs, leSV, iv, u8, leD], Sat.of_eq (LBtw_eq a b c d k) ⟨?_⟩⟩
    unfold LBtw
    have sk : Sm 8 1 (ratOf (k % 9) 8) := Sm.ratOf (D := 8) (M := 1) (by decide) (by decide) (by decide) (by omega)
    have f1 : fitsR (ratOf c d - ratOf a b) := (s2.sub s1).fits (by decide) (by decide)
    have f2 : fitsR (ratOf (k % 9) 8) := sk.fits (by decide) (by decide)
    have f3 : fitsR ((ratOf c d - ratOf a b) * ratOf (k % 9) 8) := ((s2.sub s1).mul sk).fits (by decide) (by decide)
    have f4 : fitsR (ratOf a b + (ratOf c d - ratOf a b) * ratOf (k % 9) 8) := (btw_sm s1 s2 k0).fits (by decide) (by decide)
    rw [tmod_lit k0, w64_of (n := k % 9) (by omega) (by omega)]
    simp only [rN_of f1, rD_of f1, rE_of f1, ratOf_rat, rN_of f3, rD_of f3, rE_of f3, rN_of f4, rD_of f4, rE_of f4]
    refine ⟨⟨h2, h1⟩, by decide, by omega, ⟨VF.of f1, VF.of f2⟩, ⟨h1, VF.of f3⟩, fun h => by simp at h, fun _ => rfl⟩
  · exact h.elim

/-- The range of a function over a box. -/
noncomputable def rgO (k t v a l0 h0 l1 h1 l2 h2 : Rat) : Option (Rat × Rat) :=
  pairO (atO k t v a (crn t l0 h0 false) (crn v l1 h1 false) (crn a l2 h2 false)) (atO k t v a (crn t l0 h0 true) (crn v l1 h1 true) (crn a l2 h2 true))

theorem rng_sat {k t v a l0 h0 l1 h1 l2 h2 : Rat} (fk : fitsR k) (ft : fitsR t) (fv : fitsR v) (fa : fitsR a) (g0 : fitsR l0) (g1 : fitsR h0) (g2 : fitsR l1) (g3 : fitsR h1) (g4 : fitsR l2) (g5 : fitsR h2) :
    (LRng k.num k.den t.num t.den v.num v.den a.num a.den l0.num l0.den h0.num h0.den l1.num l1.den h1.num h1.den l2.num l2.den h2.num h2.den).sat Try.prog
      (· = .tup [.agg [iv (lN (rgO k t v a l0 h0 l1 h1 l2 h2)), iv (lD (rgO k t v a l0 h0 l1 h1 l2 h2)), iv (hN (rgO k t v a l0 h0 l1 h1 l2 h2)), iv (hD (rgO k t v a l0 h0 l1 h1 l2 h2))], iv (oE (rgO k t v a l0 h0 l1 h1 l2 h2))]) := by
  unfold LRng
  simp only [crI_num, crI_den, ratOf_rat]
  have n0 : ∀ u, VF (crn t l0 h0 u).num (crn t l0 h0 u).den := fun u => VF.of (crn_fits g0 g1)
  have n1 : ∀ u, VF (crn v l1 h1 u).num (crn v l1 h1 u).den := fun u => VF.of (crn_fits g2 g3)
  have n2 : ∀ u, VF (crn a l2 h2 u).num (crn a l2 h2 u).den := fun u => VF.of (crn_fits g4 g5)
  refine ⟨⟨⟨VF.of fk, VF.of ft, VF.of fv, VF.of fa⟩, n0 _, n1 _, n2 _⟩, fun h => ?_, fun h => ⟨⟨⟨VF.of fk, VF.of ft, VF.of fv, VF.of fa⟩, n0 _, n1 _, n2 _⟩, fun h' => ?_, fun h' => ?_⟩⟩
  · unfold rgO
    generalize atO k t v a (crn t l0 h0 false) (crn v l1 h1 false) (crn a l2 h2 false) = x at *
    generalize atO k t v a (crn t l0 h0 true) (crn v l1 h1 true) (crn a l2 h2 true) = y at *
    cases x with
    | none => exact rfl
    | some x => simp [oE] at h
  · unfold rgO
    generalize atO k t v a (crn t l0 h0 false) (crn v l1 h1 false) (crn a l2 h2 false) = x at *
    generalize atO k t v a (crn t l0 h0 true) (crn v l1 h1 true) (crn a l2 h2 true) = y at *
    cases y with
    | none => cases x <;> exact rfl
    | some x => simp [oE] at h'
  · unfold rgO
    generalize atO k t v a (crn t l0 h0 false) (crn v l1 h1 false) (crn a l2 h2 false) = x at *
    generalize atO k t v a (crn t l0 h0 true) (crn v l1 h1 true) (crn a l2 h2 true) = y at *
    cases x with
    | none => simp [oE] at h
    | some x =>
      cases y with
      | none => simp [oE] at h'
      | some y => exact rfl

theorem rngR_sat {k t v a l0 h0 l1 h1 l2 h2 : Rat} (fk : fitsR k) (ft : fitsR t) (fv : fitsR v) (fa : fitsR a) (g0 : fitsR l0) (g1 : fitsR h0) (g2 : fitsR l1) (g3 : fitsR h1) (g4 : fitsR l2) (g5 : fitsR h2) :
    (LRngR k.num k.den t.num t.den v.num v.den a.num a.den l0.num l0.den h0.num h0.den l1.num l1.den h1.num h1.den l2.num l2.den h2.num h2.den).sat Try.prog
      (· = .agg [iv (lN (rgO k t v a l0 h0 l1 h1 l2 h2)), iv (lD (rgO k t v a l0 h0 l1 h1 l2 h2)), iv (hN (rgO k t v a l0 h0 l1 h1 l2 h2)), iv (hD (rgO k t v a l0 h0 l1 h1 l2 h2)), iv (oE (rgO k t v a l0 h0 l1 h1 l2 h2))]) := by
  unfold LRngR
  simp only [crI_num, crI_den, ratOf_rat]
  have n0 : ∀ u, VF (crn t l0 h0 u).num (crn t l0 h0 u).den := fun u => VF.of (crn_fits g0 g1)
  have n1 : ∀ u, VF (crn v l1 h1 u).num (crn v l1 h1 u).den := fun u => VF.of (crn_fits g2 g3)
  have n2 : ∀ u, VF (crn a l2 h2 u).num (crn a l2 h2 u).den := fun u => VF.of (crn_fits g4 g5)
  refine ⟨⟨⟨VF.of fk, VF.of ft, VF.of fv, VF.of fa⟩, n0 _, n1 _, n2 _⟩, ⟨⟨VF.of fk, VF.of ft, VF.of fv, VF.of fa⟩, n0 _, n1 _, n2 _⟩, fun h => ?_, fun h => ?_⟩
  · unfold rgO
    generalize atO k t v a (crn t l0 h0 false) (crn v l1 h1 false) (crn a l2 h2 false) = x at *
    generalize atO k t v a (crn t l0 h0 true) (crn v l1 h1 true) (crn a l2 h2 true) = y at *
    cases x with
    | none => cases y <;> exact rfl
    | some x => cases y with
      | none => exact rfl
      | some y => simp [oE] at h
  · unfold rgO
    generalize atO k t v a (crn t l0 h0 false) (crn v l1 h1 false) (crn a l2 h2 false) = x at *
    generalize atO k t v a (crn t l0 h0 true) (crn v l1 h1 true) (crn a l2 h2 true) = y at *
    cases x with
    | none => simp [oE] at h
    | some x =>
      cases y with
      | none => simp [oE] at h
      | some y => exact rfl

structure VBox (kn kd tn td vn vd an ad a0 a1 a2 a3 b0 b1 b2 b3 c0 c1 c2 c3 : Int) : Prop where
  k : VF kn kd
  t : VF tn td
  v : VF vn vd
  a : VF an ad
  l0 : VF a0 a1
  h0 : VF a2 a3
  l1 : VF b0 b1
  h1 : VF b2 b3
  l2 : VF c0 c1
  h2 : VF c2 c3

noncomputable def cRng : Ctr := fun ss => match ss with
  | [.agg l, .agg m] => match intsOf .i64 l, intsOf .i64 m with
    | some [kn, kd, tn, td, vn, vd, an, ad], some [a0, a1, a2, a3, b0, b1, b2, b3, c0, c1, c2, c3] => .need (VBox kn kd tn td vn vd an ad a0 a1 a2 a3 b0 b1 b2 b3 c0 c1 c2 c3)
      (.ret (.tup [.agg [iv (lN (rgO (ratOf kn kd) (ratOf tn td) (ratOf vn vd) (ratOf an ad) (ratOf a0 a1) (ratOf a2 a3) (ratOf b0 b1) (ratOf b2 b3) (ratOf c0 c1) (ratOf c2 c3))), iv (lD (rgO (ratOf kn kd) (ratOf tn td) (ratOf vn vd) (ratOf an ad) (ratOf a0 a1) (ratOf a2 a3) (ratOf b0 b1) (ratOf b2 b3) (ratOf c0 c1) (ratOf c2 c3))), iv (hN (rgO (ratOf kn kd) (ratOf tn td) (ratOf vn vd) (ratOf an ad) (ratOf a0 a1) (ratOf a2 a3) (ratOf b0 b1) (ratOf b2 b3) (ratOf c0 c1) (ratOf c2 c3))), iv (hD (rgO (ratOf kn kd) (ratOf tn td) (ratOf vn vd) (ratOf an ad) (ratOf a0 a1) (ratOf a2 a3) (ratOf b0 b1) (ratOf b2 b3) (ratOf c0 c1) (ratOf c2 c3)))],
        iv (oE (rgO (ratOf kn kd) (ratOf tn td) (ratOf vn vd) (ratOf an ad) (ratOf a0 a1) (ratOf a2 a3) (ratOf b0 b1) (ratOf b2 b3) (ratOf c0 c1) (ratOf c2 c3)))]))
    | _, _ => .fail
  | _ => .fail
noncomputable def cRngR : Ctr := fun ss => match ss with
  | [.agg l, .agg m] => match intsOf .i64 l, intsOf .i64 m with
    | some [kn, kd, tn, td, vn, vd, an, ad], some [a0, a1, a2, a3, b0, b1, b2, b3, c0, c1, c2, c3] => .need (VBox kn kd tn td vn vd an ad a0 a1 a2 a3 b0 b1 b2 b3 c0 c1 c2 c3)
      (.ret (.agg [iv (lN (rgO (ratOf kn kd) (ratOf tn td) (ratOf vn vd) (ratOf an ad) (ratOf a0 a1) (ratOf a2 a3) (ratOf b0 b1) (ratOf b2 b3) (ratOf c0 c1) (ratOf c2 c3))), iv (lD (rgO (ratOf kn kd) (ratOf tn td) (ratOf vn vd) (ratOf an ad) (ratOf a0 a1) (ratOf a2 a3) (ratOf b0 b1) (ratOf b2 b3) (ratOf c0 c1) (ratOf c2 c3))), iv (hN (rgO (ratOf kn kd) (ratOf tn td) (ratOf vn vd) (ratOf an ad) (ratOf a0 a1) (ratOf a2 a3) (ratOf b0 b1) (ratOf b2 b3) (ratOf c0 c1) (ratOf c2 c3))), iv (hD (rgO (ratOf kn kd) (ratOf tn td) (ratOf vn vd) (ratOf an ad) (ratOf a0 a1) (ratOf a2 a3) (ratOf b0 b1) (ratOf b2 b3) (ratOf c0 c1) (ratOf c2 c3))),
        iv (oE (rgO (ratOf kn kd) (ratOf tn td) (ratOf vn vd) (ratOf an ad) (ratOf a0 a1) (ratOf a2 a3) (ratOf b0 b1) (ratOf b2 b3) (ratOf c0 c1) (ratOf c2 c3)))]))
    | _, _ => .fail
  | _ => .fail
theorem cRng_ok : CtrOK Try.prog 75 cRng := by
  refine ctrOK_leS CA_ok DA_ok (by kernel_rfl) (by kernel_rfl) fun ss r h => ?_
  unfold cRng at h
  split at h
  · split at h
    · rename_i kn kd tn td vn vd an ad a0 a1 a2 a3 b0 b1 b2 b3 c0 c1 c2 c3 e1 e2
      obtain ⟨⟨h1, h2, h3, h4, h5, h6, h7, h8, h9, h10⟩, rfl⟩ := h
      rw [intsOf_eq e1, intsOf_eq e2]
      have := rng_sat h1.fits h2.fits h3.fits h4.fits h5.fits h6.fits h7.fits h8.fits h9.fits h10.fits
      rw [h1.low.num, h1.low.den, h2.low.num, h2.low.den, h3.low.num, h3.low.den, h4.low.num, h4.low.den, h5.low.num, h5.low.den, h6.low.num, h6.low.den, h7.low.num, h7.low.den, h8.low.num, h8.low.den, h9.low.num, h9.low.den, h10.low.num, h10.low.den] at this
      exact ⟨_, 200, .nil, by simp [leSVs, leSV, iv, bv, leD], Sat.of_eq (LRng_eq kn kd tn td vn vd an ad a0 a1 a2 a3 b0 b1 b2 b3 c0 c1 c2 c3) ⟨this⟩⟩
    · exact h.elim
  · exact h.elim
theorem cRngR_ok : CtrOK Try.prog 64 cRngR := by
  refine ctrOK_leS CA_ok DA_ok (by kernel_rfl) (by kernel_rfl) fun ss r h => ?_
  unfold cRngR at h
  split at h
  · split at h
    · rename_i kn kd tn td vn vd an ad a0 a1 a2 a3 b0 b1 b2 b3 c0 c1 c2 c3 e1 e2
      obtain ⟨⟨h1, h2, h3, h4, h5, h6, h7, h8, h9, h10⟩, rfl⟩ := h
      rw [intsOf_eq e1, intsOf_eq e2]
      have := rngR_sat h1.fits h2.fits h3.fits h4.fits h5.fits h6.fits h7.fits h8.fits h9.fits h10.fits
      rw [h1.low.num, h1.low.den, h2.low.num, h2.low.den, h3.low.num, h3.low.den, h4.low.num, h4.low.den, h5.low.num, h5.low.den, h6.low.num, h6.low.den, h7.low.num, h7.low.den, h8.low.num, h8.low.den, h9.low.num, h9.low.den, h10.low.num, h10.low.den] at this
      exact ⟨_, 200, .nil, by simp [leSVs, leSV, iv, bv, leD], Sat.of_eq (LRngR_eq kn kd tn td vn vd an ad a0 a1 a2 a3 b0 b1 b2 b3 c0 c1 c2 c3) ⟨this⟩⟩
    · exact h.elim
  · exact h.elim

end Go.Proofs.Ytpaejfeojdoikaa

namespace Go.Proofs.Ytpaejfeojdoikaa
open Go.Sx
set_option maxRecDepth 100000

noncomputable def manB : FuncId → Option Ctr := fun k => match k with
  | 15 => some cLin
  | 26 => some cIvl
  | 77 => some cBtw
  | 75 => some cRng
  | 64 => some cRngR
  | k => manA k
theorem manB_ok (k : Nat) (c : Ctr) (h : manB k = some c) : CtrOK Try.prog k c ∧ goodF Try.prog k = true := by
  unfold manB at h
  split at h
  · cases h; exact ⟨cLin_ok, by kernel_rfl⟩
  · cases h; exact ⟨cIvl_ok, by kernel_rfl⟩
  · cases h; exact ⟨cBtw_ok, by kernel_rfl⟩
  · cases h; exact ⟨cRng_ok, by kernel_rfl⟩
  · cases h; exact ⟨cRngR_ok, by kernel_rfl⟩
  · exact manA_ok _ _ h
noncomputable def CX : Ctx := ctxN Try.prog manB (fun _ => false) 200 .run 12
theorem CX_ok : CtxOK Try.prog CX := ctxN_ok mixed manB_ok 12
noncomputable def XE  : Tr SV :=
  Tr.need (VBox (5 : Int) (1 : Int) (2 : Int) (1 : Int) (-3 : Int) (1 : Int) (0 : Int) (1 : Int) (0 : Int) (1 : Int) (10 : Int) (1 : Int) (1 : Int) (1 : Int) (2 : Int) (1 : Int) (0 : Int) (1 : Int) (0 : Int) (1 : Int))
  (Tr.need ((VF (5 : Int) (1 : Int) ∧ VF (2 : Int) (1 : Int) ∧ VF (-3 : Int) (1 : Int) ∧ VF (0 : Int) (1 : Int)) ∧ VF (1 : Int) (2 : Int) ∧ VF (1 : Int) (1 : Int) ∧ VF (0 : Int) (1 : Int))
   (Tr.need (True ∧ True)
   (Tr.need (8 ≤ 8)
   (Tr.need (True ∧ True)
   (Tr.need (8 ≤ 8)
   (Tr.need (True ∧ True)
   (Tr.need (12 ≤ 12)
   (Tr.need (VF (0 : Int) (1 : Int) ∧ VF (10 : Int) (1 : Int))
   (Tr.need (VF (1 : Int) (1 : Int) ∧ VF (2 : Int) (1 : Int))
   (Tr.need (VF (0 : Int) (1 : Int) ∧ VF (0 : Int) (1 : Int))
   (Tr.need (VF (2 : Int) (1 : Int) ∧ VF (1 : Int) (1 : Int))
   (Tr.need (VF (4611686018427387904 : Int) (1 : Int) ∧ VF (1 : Int) (1 : Int))
   (Tr.need (VF (1 : Int) (1 : Int) ∧ VF (3 : Int) (1 : Int))
   (Tr.need (VF (2 : Int) (1 : Int) ∧ VF (5 : Int) (1 : Int))
   (Tr.need (VF (1 : Int) (1 : Int) ∧ VF (4 : Int) (1 : Int))
   (Tr.need (VF (2 : Int) (1 : Int) ∧ VF (5 : Int) (1 : Int))
   (Tr.need (VF (1 : Int) (1 : Int) ∧ VF (2 : Int) (1 : Int))
   (Tr.need (VF (2 : Int) (1 : Int) ∧ VF (2 : Int) (1 : Int))
   (Tr.need (VF (1 : Int) (1 : Int) ∧ VF (0 : Int) (1 : Int))
   (Tr.need (VF (0 : Int) (1 : Int) ∧ VF (0 : Int) (1 : Int))
   (Tr.need (VF (0 : Int) (1 : Int) ∧ VF (10 : Int) (1 : Int))
   (Tr.need (VF (0 : Int) (1 : Int) ∧ VF (10 : Int) (1 : Int))
   (Tr.need (VF (10 : Int) (1 : Int) ∧ VF (10 : Int) (1 : Int))
   (Tr.need (VF (1 : Int) (1 : Int) ∧ VF (1 : Int) (1 : Int))
   (Tr.need (VF (1 : Int) (1 : Int) ∧ VF (2 : Int) (1 : Int))
   (Tr.need (VF (1 : Int) (1 : Int) ∧ VF (2 : Int) (1 : Int))
   (Tr.need (VF (2 : Int) (1 : Int) ∧ VF (2 : Int) (1 : Int))
   (Tr.need (VF (0 : Int) (1 : Int) ∧ VF (0 : Int) (1 : Int))
   (Tr.need (VF (0 : Int) (1 : Int) ∧ VF (0 : Int) (1 : Int))
   (Tr.need (VF (0 : Int) (1 : Int) ∧ VF (0 : Int) (1 : Int)) (Tr.need (VF (0 : Int) (1 : Int) ∧ VF (0 : Int) (1 : Int)) (Tr.ret (bv true)))))))))))))))))))))))))))))))))

theorem XE_eq  : autoC Try.prog CX 200 14 .run [] = XE  := by kernel_rfl


instance (a b : Int) : Decidable (VF a b) := decidable_of_iff _ vB_iff
theorem VBox.closed {kn kd tn td vn vd an ad a0 a1 a2 a3 b0 b1 b2 b3 c0 c1 c2 c3 : Int} (h : (VF kn kd ∧ VF tn td ∧ VF vn vd ∧ VF an ad ∧ VF a0 a1) ∧ (VF a2 a3 ∧ VF b0 b1 ∧ VF b2 b3 ∧ VF c0 c1 ∧ VF c2 c3)) : VBox kn kd tn td vn vd an ad a0 a1 a2 a3 b0 b1 b2 b3 c0 c1 c2 c3 :=
  ⟨h.1.1, h.1.2.1, h.1.2.2.1, h.1.2.2.2.1, h.1.2.2.2.2, h.2.1, h.2.2.1, h.2.2.2.1, h.2.2.2.2.1, h.2.2.2.2.2⟩
theorem sat_step {p : Prop} {t : Tr SV} {r : SV} (h1 : p) (h2 : t.ev r) : (Tr.need p t).ev r := ⟨h1, h2⟩
theorem ex04 : (autoC Try.prog CX 200 14 .run []).ev (bv true) := by
  rw [XE_eq]; unfold XE
  refine sat_step (VBox.closed (by decide +kernel)) ?_
  repeat' (first | exact rfl | refine sat_step (by decide +kernel) ?_)
noncomputable def cEx04 : Ctr := fun ss => match ss with
  | [] => .ret (bv true)
  | _ => .fail
theorem cEx04_ok : CtrOK Try.prog 14 cEx04 := (autoC_ok CX_ok mixed 200 14 .run).mono fun ss r h => by
  unfold cEx04 at h
  split at h
  · simp only [Tr.ev] at h; subst h; exact ex04
  · exact h.elim

noncomputable def CB : Ctx := ctxN Try.prog manB (fun _ => false) 200 .nil 6
theorem CB_ok : CtxOK Try.prog CB := ctxN_ok mixed manB_ok 6
noncomputable def DB : Dr := fun _ => drawn Try.prog CB
theorem DB_ok : DrOK Try.prog CB DB := drawn_ok CB_ok mixed
noncomputable def TB (h : Hint) (k : Nat) (args : List SV) : Tree SV := fnT Try.prog CB DB 200 (fnOf Try.prog k) (bodyOf Try.prog k) args h
noncomputable def LCt (a b c d e f : Int) : Tree SV :=
  .need (VF a b ∧ VF e f) (.need (decide (cmpR (ratOf a b) (ratOf e f) ≤ (0 : Int)) = true → VF e f ∧ VF c d) (.ret (bv (decide (cmpR (ratOf a b) (ratOf e f) ≤ (0 : Int)) && decide (cmpR (ratOf e f) (ratOf c d) ≤ (0 : Int))))))

theorem LCt_eq (a b c d e f : Int) : TB .nil 22 [.agg [iv a, iv b, iv c, iv d], .agg [iv e, iv f]] = LCt a b c d e f := by kernel_rfl

noncomputable def LCtR (a b c d e f : Int) : Tree SV :=
  .need (VF a b ∧ VF e f) (.need (decide (cmpR (ratOf a b) (ratOf e f) ≤ (0 : Int)) = true → VF e f ∧ VF c d) (.ret (bv (decide (cmpR (ratOf a b) (ratOf e f) ≤ (0 : Int)) && decide (cmpR (ratOf e f) (ratOf c d) ≤ (0 : Int))))))

theorem LCtR_eq (a b c d e f : Int) : TB .nil 69 [.agg [iv a, iv b, iv c, iv d], .agg [iv e, iv f]] = LCtR a b c d e f := by kernel_rfl

noncomputable def LVi (a b c d : Int) : Tree SV :=
  .need ((vB a b && vB c d) = true → VF a b ∧ VF c d) (.ret (bv (vB a b && vB c d && decide (cmpR (ratOf a b) (ratOf c d) ≤ (0 : Int)))))

theorem LVi_eq (a b c d : Int) : TB .nil 30 [.agg [iv a, iv b, iv c, iv d]] = LVi a b c d := by kernel_rfl

noncomputable def LViR (a b c d : Int) : Tree SV :=
  .need ((vB a b && vB c d) = true → VF a b ∧ VF c d) (.ret (bv (vB a b && vB c d && decide (cmpR (ratOf a b) (ratOf c d) ≤ (0 : Int)))))

theorem LViR_eq (a b c d : Int) : TB .nil 20 [.agg [iv a, iv b, iv c, iv d]] = LViR a b c d := by kernel_rfl

noncomputable def LPs (a b c d e f g h : Int) : Tree SV :=
  .need (VF a b ∧ VF e f)
  (.ite (rE (ratOf a b + ratOf e f) != (0 : Int)) (.ret (SV.tup [SV.agg [iv (0 : Int), iv (0 : Int), iv (0 : Int), iv (0 : Int)], iv (rE (ratOf a b + ratOf e f))]))
    (.need (VF c d ∧ VF g h)
      (.ite (rE (ratOf c d + ratOf g h) != (0 : Int)) (.ret (SV.tup [SV.agg [iv (0 : Int), iv (0 : Int), iv (0 : Int), iv (0 : Int)], iv (rE (ratOf c d + ratOf g h))]))
        (.ret (SV.tup [SV.agg [iv (rN (ratOf a b + ratOf e f)), iv (rD (ratOf a b + ratOf e f)), iv (rN (ratOf c d + ratOf g h)), iv (rD (ratOf c d + ratOf g h))], iv (0 : Int)])))))

theorem LPs_eq (a b c d e f g h : Int) : TB .nil 86 [.agg [iv a, iv b, iv c, iv d], .agg [iv e, iv f, iv g, iv h]] = LPs a b c d e f g h := by kernel_rfl

noncomputable def LPsR (a b c d e f g h : Int) : Tree SV :=
  .need (VF a b ∧ VF e f)
  (.need (VF c d ∧ VF g h)
    (.ite (rE (ratOf a b + ratOf e f) != (0 : Int) || rE (ratOf c d + ratOf g h) != (0 : Int)) (.ret (SV.agg [iv (0 : Int), iv (0 : Int), iv (0 : Int), iv (0 : Int), iv (2 : Int)]))
      (.ret (SV.agg [iv (rN (ratOf a b + ratOf e f)), iv (rD (ratOf a b + ratOf e f)), iv (rN (ratOf c d + ratOf g h)), iv (rD (ratOf c d + ratOf g h)), iv (0 : Int)]))))

theorem LPsR_eq (a b c d e f g h : Int) : TB .nil 67 [.agg [iv a, iv b, iv c, iv d], .agg [iv e, iv f, iv g, iv h]] = LPsR a b c d e f g h := by kernel_rfl

end Go.Proofs.Ytpaejfeojdoikaa

