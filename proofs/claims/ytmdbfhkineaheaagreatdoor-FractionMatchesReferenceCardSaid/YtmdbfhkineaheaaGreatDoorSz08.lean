/- Part of a proof of the given statements of this seat (SxFzWd, SxFzWe, SxFzWi, SxFzYa, SxFzYb, SxFzX, SxFzXa, SxFzSh, SxFzXb, SxFzXc, SxFzXd, SxFzXe, SxFzLa): no conditions beyond those typed here. -/
import Derived.Test.YtmdbfhkineaheaaGreatDoorSz07
import Derived.Shelf.LaysM
import Derived.Shelf.LaysC
import Derived.Shelf.Strconv.Itoa3
import Derived.Shelf.Strconv.AtoiAll
import Derived.Shelf.Strings.Cut
import Derived.Test.YtmdbfhkineaheaaGreatDoorProg
import Derived.Lib.AtoiErrMem
import Derived.Lib.ItoaLen
set_option linter.unusedVariables false
set_option linter.unusedSimpArgs false
set_option linter.unusedSectionVars false

namespace Go.Proofs.YtmdbfhkineaheaaGreatDoor
open Go.Sx
set_option maxRecDepth 100000

/-! ### The operations of package fraction -/

theorem wN_parts (T : Nat) : wN ((T / 18446744073709551616 : Nat) : Int) ((T % 18446744073709551616 : Nat) : Int) = T := by unfold wN; omega
theorem wuN {n : Nat} (h : n ≤ 4611686018427387904) : IntKind.wrap .u64 (n : Int) = n := wu_of (by omega) (by omega)
theorem w64N {n : Nat} (h : n ≤ 4611686018427387904) : w64 (n : Int) = n := w64_of (by omega) (by omega)
theorem w64_gcdR {x y : Nat} (h : y ≤ 4611686018427387904) (h0 : y ≠ 0) : w64 (((Nat.gcd x y : Nat)) : Int) = (Nat.gcd x y : Nat) := w64N (Nat.le_trans (Nat.gcd_le_right _ (Nat.pos_of_ne_zero h0)) h)
theorem len2 (a b : SV) : 2 ≤ [a, b].length := by simp
theorem parts_b {T : Nat} (h : T ≤ 42535295865117307932921825928971026432) : (0 ≤ ((T / 18446744073709551616 : Nat) : Int) ∧ ((T / 18446744073709551616 : Nat) : Int) < 9223372036854775808) ∧ 0 ≤ ((T % 18446744073709551616 : Nat) : Int) ∧ ((T % 18446744073709551616 : Nat) : Int) < 18446744073709551616 := by omega
theorem parts_n (T : Nat) : 0 ≤ ((T / 18446744073709551616 : Nat) : Int) ∧ 0 ≤ ((T % 18446744073709551616 : Nat) : Int) ∧ ((T % 18446744073709551616 : Nat) : Int) < 18446744073709551616 := by omega
theorem mul_b {x y : Nat} (hx : x ≤ 4611686018427387904) (hy : y ≤ 4611686018427387904) : x * y ≤ 21267647932558653966460912964485513216 := by
  have := Nat.mul_le_mul hx hy; omega

theorem cmpU_sat (p q : Rat) (hp : fitsR p) (hq : fitsR q) : Sat Tryz.prog (T7 18 [.agg [iv p.num, iv p.den], .agg [iv q.num, iv q.den]]) (· = iv (cmpR p q)) := by
  obtain ⟨p1, p2⟩ := hp
  obtain ⟨q1, q2⟩ := hq
  constructor
  rw [LCp_eq]; unfold LCp
  simp only [wN_parts, nat_neg, natAbs_cast]
  obtain ⟨s1, s2, s3⟩ := sum_sg (!(decide (p.num < 0) == false)) (p.num.natAbs * q.den) (!!(decide (q.num < 0) == false)) (q.num.natAbs * p.den)
  rw [sg_prod2, sg_prod] at s1 s2
  obtain ⟨hlt, heq⟩ := rat_cmp p q
  have b1 := parts_b (T := p.num.natAbs * q.den) (Nat.le_trans (mul_b p1 q2) (by decide))
  have b2 := parts_b (T := q.num.natAbs * p.den) (Nat.le_trans (mul_b q1 p2) (by decide))
  refine ⟨fun hc => ?_, fun hc => ⟨by omega, by omega, ⟨b1.1, b1.2, b2.1, b2.2⟩, ?_⟩⟩
  · have hc : p.num = q.num ∧ p.den = q.den := by
      simp only [Bool.and_true, Bool.and_eq_true, beq_iff_eq] at hc; exact ⟨hc.1, by omega⟩
    have : p = q := Rat.ext hc.1 hc.2
    rw [cmpR, if_neg (by rw [this]; exact Rat.lt_irrefl), if_pos this]; exact rfl
  · have hne : p.num * ↑q.den + -(q.num * ↑p.den) ≠ 0 := by
      intro h
      have : p = q := heq.2 (by omega)
      subst this
      simp at hc
    have hs0 : sV (!(decide (p.num < 0) == false)) (p.num.natAbs * q.den) (!!(decide (q.num < 0) == false)) (q.num.natAbs * p.den) ≠ 0 := by rw [s1]; omega
    rw [s2 hs0]
    refine ⟨fun hs => ?_, fun hs => ?_⟩
    · have hs := of_decide_eq_true hs
      rw [cmpR, if_pos (hlt.2 (by omega))]; exact rfl
    · have hs := of_decide_eq_false hs
      rw [cmpR, if_neg (fun h => hs (by have := hlt.1 h; omega)), if_neg (fun h => hne (by have := heq.1 h; omega))]; exact rfl

theorem mulU_sat (p q : Rat) (hp : fitsR p) (hq : fitsR q) : Sat Tryz.prog (T7 47 [.agg [iv p.num, iv p.den], .agg [iv q.num, iv q.den]]) (· = .tup [.agg [iv (rN (p * q)), iv (rD (p * q))], iv (rE (p * q))]) := by
  obtain ⟨p1, p2⟩ := hp
  obtain ⟨q1, q2⟩ := hq
  constructor
  rw [LMu_eq]; unfold LMu
  simp only [wuN p2, wuN q2, Int.gcd_natCast_natCast, w64_gcdR p2 (Nat.ne_of_gt p.den_pos), w64_gcdR q2 (Nat.ne_of_gt q.den_pos), w64_div p2, w64_div q2, w64_tdiv p1, w64_tdiv q1, wN_parts, natAbs_cast, nat_neg]
  obtain ⟨r1, r2⟩ := rat_mul p q rfl rfl
  have hg0 : 0 < p.num.natAbs.gcd q.den := Nat.gcd_pos_of_pos_right _ q.den_pos
  have hh0 : 0 < q.num.natAbs.gcd p.den := Nat.gcd_pos_of_pos_right _ p.den_pos
  have a1 : (Int.tdiv p.num (p.num.natAbs.gcd q.den : Nat)).natAbs ≤ p.num.natAbs := by rw [Int.natAbs_tdiv]; exact Nat.div_le_self _ _
  have a2 : (Int.tdiv q.num (q.num.natAbs.gcd p.den : Nat)).natAbs ≤ q.num.natAbs := by rw [Int.natAbs_tdiv]; exact Nat.div_le_self _ _
  have b1 := Nat.div_le_self p.den (q.num.natAbs.gcd p.den)
  have b2 := Nat.div_le_self q.den (p.num.natAbs.gcd q.den)
  generalize p.num.natAbs.gcd q.den = g at *
  generalize q.num.natAbs.gcd p.den = h at *
  generalize Int.tdiv p.num (g : Int) = a at *
  generalize Int.tdiv q.num (h : Int) = c at *
  generalize p.den / h = b at *
  generalize q.den / g = d at *
  have hfin := fin_eq (r := p * q) (S := !(decide (a < 0) == decide (c < 0))) (V := a.natAbs * c.natAbs) (D := b * d) (by rw [r1]; exact sg_mul a c) r2.symm
  refine ⟨fun hc => ?_, fun hc => ?_⟩
  · have hz : p * q = 0 := by
      simp only [Bool.or_eq_true, beq_iff_eq] at hc
      rcases hc with h | h
      · rw [Rat.num_eq_zero.1 h, Rat.zero_mul]
      · rw [Rat.num_eq_zero.1 h, Rat.mul_zero]
    rw [hz, r_zero.1, r_zero.2.1, r_zero.2.2]; exact rfl
  · rw [← hfin.1, ← hfin.2.1, ← hfin.2.2]
    refine ⟨by omega, len2 _ _, by omega, by omega, len2 _ _, by omega, by omega, by omega, by omega, by omega, by omega, by omega, ⟨by omega, by omega, by decide⟩, ?_⟩
    exact rfl

theorem addU_sat (p q : Rat) (hp : fitsR p) (hq : fitsR q) : Sat Tryz.prog (T8 39 [.agg [iv p.num, iv p.den], .agg [iv q.num, iv q.den]]) (· = .tup [.agg [iv (rN (p + q)), iv (rD (p + q))], iv (rE (p + q))]) := by
  obtain ⟨p1, p2⟩ := hp
  obtain ⟨q1, q2⟩ := hq
  constructor
  rw [LAd_eq]; unfold LAd
  simp only [wuN p2, wuN q2, Int.gcd_natCast_natCast, w64_gcdR q2 (Nat.ne_of_gt q.den_pos), w64_div p2, w64_div q2, wN_parts, nat_neg, natAbs_cast, Int.toNat_natCast]
  have hra := rat_add p q rfl rfl rfl
  have hg0 : 0 < p.den.gcd q.den := Nat.gcd_pos_of_pos_left _ p.den_pos
  have hga : p.den.gcd q.den ≤ p.den := Nat.le_of_dvd p.den_pos (Nat.gcd_dvd_left _ _)
  have hA := Nat.div_le_self p.den (p.den.gcd q.den)
  have hB := Nat.div_le_self q.den (p.den.gcd q.den)
  have c1 := sg_prod p.num (q.den / p.den.gcd q.den)
  have c2 := sg_prod q.num (p.den / p.den.gcd q.den)
  generalize hg : p.den.gcd q.den = g at *
  generalize hAe : p.den / g = A at *
  generalize hBe : q.den / g = B at *
  obtain ⟨s1, s2, s3⟩ := sum_sg (!(decide (p.num < 0) == false)) (p.num.natAbs * B) (!(decide (q.num < 0) == false)) (q.num.natAbs * A)
  rw [c1, c2] at s1 s2
  have m1 : p.num.natAbs * B ≤ 21267647932558653966460912964485513216 := mul_b p1 (by omega)
  have m2 : q.num.natAbs * A ≤ 21267647932558653966460912964485513216 := mul_b q1 (by omega)
  have hVb : sV (!(decide (p.num < 0) == false)) (p.num.natAbs * B) (!(decide (q.num < 0) == false)) (q.num.natAbs * A) ≤ 42535295865117307932921825928971026432 := by
    unfold sV; split
    · omega
    · split <;> omega
  have k1 := parts_b (Nat.le_trans m1 (by decide))
  have k2 := parts_b (Nat.le_trans m2 (by decide))
  generalize hV : sV (!(decide (p.num < 0) == false)) (p.num.natAbs * B) (!(decide (q.num < 0) == false)) (q.num.natAbs * A) = V at *
  generalize hS : sN (!(decide (p.num < 0) == false)) (p.num.natAbs * B) (!(decide (q.num < 0) == false)) (q.num.natAbs * A) = S at *
  generalize hT : p.num * (B : Int) + q.num * (A : Int) = T at *
  have k3 := parts_b hVb
  have hh : (V % g).gcd g = T.natAbs.gcd g := by rw [s1, Nat.gcd_comm T.natAbs g, Nat.gcd_rec g]
  rw [hh]
  obtain ⟨r1, r2⟩ := hra
  have hh0 : 0 < T.natAbs.gcd g := Nat.gcd_pos_of_pos_right _ hg0
  have hhg : T.natAbs.gcd g ≤ g := Nat.le_of_dvd hg0 (Nat.gcd_dvd_right _ _)
  have hhd : T.natAbs.gcd g ∣ T.natAbs := Nat.gcd_dvd_left _ _
  have hD := Nat.div_le_self q.den (T.natAbs.gcd g)
  generalize T.natAbs.gcd g = h at *
  simp only [w64N (show h ≤ 4611686018427387904 by omega), w64_div q2, natAbs_cast, nat_neg]
  generalize hDe : q.den / h = D at *
  refine ⟨len2 _ _, by omega, by omega, by omega, by omega, by omega, ⟨k1.1, k1.2, k2.1, k2.2⟩, fun hc => ?_, fun hc => ?_⟩
  · have hc : V = 0 := by simp only [Bool.and_eq_true, beq_iff_eq] at hc; omega
    have hT0 : T = 0 := by omega
    have : p + q = 0 := Rat.num_eq_zero.1 (by rw [r1, hT0]; simp)
    rw [this, r_zero.1, r_zero.2.1, r_zero.2.2]; exact rfl
  · have hc : V ≠ 0 := by
      rintro rfl
      simp at hc
    have hfin := fin_eq (r := p + q) (S := S) (V := V / h) (D := A * D) (by rw [r1, s1]; exact sg_div (by omega) (s2 hc) hhd) r2.symm
    have hVh := Nat.div_le_self V h
    rw [← hfin.1, ← hfin.2.1, ← hfin.2.2]
    refine ⟨⟨by omega, by omega, by omega, by omega⟩, len2 _ _, by omega, ⟨by omega, by omega, by omega, by omega⟩, by omega, by omega, ⟨by omega, by omega, by omega⟩, ⟨parts_n _, parts_n _, by decide⟩, ?_⟩
    exact rfl

noncomputable def cAddU : Ctr := fun ss => match ss with
  | [.agg [.d (.x (.int .i64 a)), .d (.x (.int .i64 b))], .agg [.d (.x (.int .i64 c)), .d (.x (.int .i64 d))]] => .need (VF a b ∧ VF c d) (.ret (.tup [.agg [iv (rN (ratOf a b + ratOf c d)), iv (rD (ratOf a b + ratOf c d))], iv (rE (ratOf a b + ratOf c d))]))
  | _ => .fail
theorem cAddU_ok : CtrOK Tryz.prog 39 cAddU := by
  refine ctrOK_leS C8_ok D8_ok (by kernel_rfl) (by kernel_rfl) fun ss r h => ?_
  unfold cAddU at h
  split at h
  · rename_i a b c d
    obtain ⟨⟨h1, h2⟩, rfl⟩ := h
    have := addU_sat _ _ h1.fits h2.fits
    rw [h1.low.num, h1.low.den, h2.low.num, h2.low.den] at this
    exact ⟨[.agg [iv a, iv b], .agg [iv c, iv d]], 200, .nil, by simp [leSVs, leSV, iv, leD], this⟩
  · exact h.elim
noncomputable def cMulU : Ctr := fun ss => match ss with
  | [.agg [.d (.x (.int .i64 a)), .d (.x (.int .i64 b))], .agg [.d (.x (.int .i64 c)), .d (.x (.int .i64 d))]] => .need (VF a b ∧ VF c d) (.ret (.tup [.agg [iv (rN (ratOf a b * ratOf c d)), iv (rD (ratOf a b * ratOf c d))], iv (rE (ratOf a b * ratOf c d))]))
  | _ => .fail
theorem cMulU_ok : CtrOK Tryz.prog 47 cMulU := by
  refine ctrOK_leS C7_ok D7_ok (by kernel_rfl) (by kernel_rfl) fun ss r h => ?_
  unfold cMulU at h
  split at h
  · rename_i a b c d
    obtain ⟨⟨h1, h2⟩, rfl⟩ := h
    have := mulU_sat _ _ h1.fits h2.fits
    rw [h1.low.num, h1.low.den, h2.low.num, h2.low.den] at this
    exact ⟨[.agg [iv a, iv b], .agg [iv c, iv d]], 200, .nil, by simp [leSVs, leSV, iv, leD], this⟩
  · exact h.elim
noncomputable def cCmpU : Ctr := fun ss => match ss with
  | [.agg [.d (.x (.int .i64 a)), .d (.x (.int .i64 b))], .agg [.d (.x (.int .i64 c)), .d (.x (.int .i64 d))]] => .need (VF a b ∧ VF c d) (.ret (iv (cmpR (ratOf a b) (ratOf c d))))
  | _ => .fail
theorem cCmpU_ok : CtrOK Tryz.prog 18 cCmpU := by
  refine ctrOK_leS C7_ok D7_ok (by kernel_rfl) (by kernel_rfl) fun ss r h => ?_
  unfold cCmpU at h
  split at h
  · rename_i a b c d
    obtain ⟨⟨h1, h2⟩, rfl⟩ := h
    have := cmpU_sat _ _ h1.fits h2.fits
    rw [h1.low.num, h1.low.den, h2.low.num, h2.low.den] at this
    exact ⟨[.agg [iv a, iv b], .agg [iv c, iv d]], 200, .nil, by simp [leSVs, leSV, iv, leD], this⟩
  · exact h.elim

noncomputable def cValU : Ctr := fun ss => match ss with
  | [.agg [.d (.x (.int .i64 a)), .d (.x (.int .i64 b))]] => .ret (bv (vB a b))
  | _ => .fail
theorem cValU_ok : CtrOK Tryz.prog 7 cValU := by
  refine ctrOK_leS C7_ok D7_ok (by kernel_rfl) (by kernel_rfl) fun ss r h => ?_
  unfold cValU at h
  split at h
  · rename_i a b
    obtain rfl := h
    refine ⟨[.agg [iv a, iv b]], 200, .nil, by simp [leSVs, leSV, iv, leD], Sat.of_eq (LVd_eq a b) ⟨?_⟩⟩
    unfold LVd
    refine ⟨fun h => ⟨?_, len2 _ _, ?_, ?_⟩, fun h => ?_⟩
    · simp only [Bool.and_eq_true, decide_eq_true_eq] at h; omega
    · have := wu_nonneg b; omega
    · show bv _ = bv _
      refine congrArg bv ?_
      rw [Bool.eq_iff_iff]
      unfold vB
      simp only [Bool.and_eq_true, decide_eq_true_eq, beq_iff_eq] at h ⊢
      rw [wu_of (n := b) (by omega) (by omega)]
      have : Int.gcd (a.natAbs : Int) b = a.natAbs.gcd b.toNat := by rw [Int.gcd]; congr 1; omega
      constructor
      · intro h5; exact ⟨⟨⟨by omega, by omega⟩, by omega⟩, by omega⟩
      · rintro ⟨_, h5⟩; omega
    · show bv _ = bv _
      refine congrArg bv ?_
      symm
      rw [Bool.eq_false_iff]
      unfold vB
      intro h2
      simp only [Bool.and_eq_true, decide_eq_true_eq] at h2
      rw [Bool.eq_false_iff] at h
      refine h ?_
      simp only [Bool.and_eq_true, decide_eq_true_eq]
      omega
  · exact h.elim

end Go.Proofs.YtmdbfhkineaheaaGreatDoor

namespace Go.Proofs.YtmdbfhkineaheaaGreatDoor
open Go.Sx
set_option maxRecDepth 100000

noncomputable def man9 : FuncId → Option Ctr := fun k => match k with
  | 39 => some cAddU
  | 47 => some cMulU
  | 18 => some cCmpU
  | 7 => some cValU
  | 11 => some cAddR
  | 15 => some cMulR
  | 19 => some cCmpR
  | 8 => some cValR
  | 9 => some cMade
  | 6 => some cMake
  | _ => none
theorem man9_ok (k : Nat) (c : Ctr) (h : man9 k = some c) : CtrOK Tryz.prog k c ∧ goodF Tryz.prog k = true := by
  unfold man9 at h
  split at h <;> first | (cases h; done) | (cases h)
  · exact ⟨cAddU_ok, by kernel_rfl⟩
  · exact ⟨cMulU_ok, by kernel_rfl⟩
  · exact ⟨cCmpU_ok, by kernel_rfl⟩
  · exact ⟨cValU_ok, by kernel_rfl⟩
  · exact ⟨cAddR_ok, by kernel_rfl⟩
  · exact ⟨cMulR_ok, by kernel_rfl⟩
  · exact ⟨cCmpR_ok, by kernel_rfl⟩
  · exact ⟨cValR_ok, by kernel_rfl⟩
  · exact ⟨cMade_ok, by kernel_rfl⟩
  · exact ⟨cMake_ok, by kernel_rfl⟩
noncomputable def C9 : Ctx := ctxN Tryz.prog man9 (fun _ => false) 200 .nil 6
theorem C9_ok : CtxOK Tryz.prog C9 := ctxN_ok mixed man9_ok 6
noncomputable def D9 : Dr := fun _ => drawn Tryz.prog C9
theorem D9_ok : DrOK Tryz.prog C9 D9 := drawn_ok C9_ok mixed
noncomputable def T9 (h : Hint) (k : Nat) (args : List SV) : Tree SV := fnT Tryz.prog C9 D9 200 (fnOf Tryz.prog k) (bodyOf Tryz.prog k) args h

noncomputable def LMinR (a b c d : Int) : Tree SV :=
  .need (VF c d ∧ VF a b) (.ite (decide (cmpR (ratOf c d) (ratOf a b) < (0 : Int))) (.ret (SV.agg [iv c, iv d])) (.ret (SV.agg [iv a, iv b])))

theorem LMinR_eq (a b c d : Int) : T9 .nil 27 [.agg [iv a, iv b], .agg [iv c, iv d]] = LMinR a b c d := by kernel_rfl

noncomputable def LMaxR (a b c d : Int) : Tree SV :=
  .need (VF c d ∧ VF a b) (.ite (decide (cmpR (ratOf c d) (ratOf a b) > (0 : Int))) (.ret (SV.agg [iv c, iv d])) (.ret (SV.agg [iv a, iv b])))

theorem LMaxR_eq (a b c d : Int) : T9 .nil 29 [.agg [iv a, iv b], .agg [iv c, iv d]] = LMaxR a b c d := by kernel_rfl

noncomputable def LMinU (a b c d : Int) : Tree SV :=
  .need (VF a b ∧ VF c d) (.ite (decide (cmpR (ratOf a b) (ratOf c d) > (0 : Int))) (.ret (SV.agg [iv c, iv d])) (.ret (SV.agg [iv a, iv b])))

theorem LMinU_eq (a b c d : Int) : T9 .nil 26 [.agg [iv a, iv b], .agg [iv c, iv d]] = LMinU a b c d := by kernel_rfl

noncomputable def LMaxU (a b c d : Int) : Tree SV :=
  .need (VF a b ∧ VF c d) (.ite (decide (cmpR (ratOf a b) (ratOf c d) < (0 : Int))) (.ret (SV.agg [iv c, iv d])) (.ret (SV.agg [iv a, iv b])))

theorem LMaxU_eq (a b c d : Int) : T9 .nil 28 [.agg [iv a, iv b], .agg [iv c, iv d]] = LMaxU a b c d := by kernel_rfl

noncomputable def LSub (a b c d : Int) : Tree SV :=
  .need (VF a b ∧ VF (w64 ((0 : Int) - c)) d) (.ret (SV.agg [iv (rN (ratOf a b + ratOf (w64 ((0 : Int) - c)) d)), iv (rD (ratOf a b + ratOf (w64 ((0 : Int) - c)) d)), iv (rE (ratOf a b + ratOf (w64 ((0 : Int) - c)) d))]))

theorem LSub_eq (a b c d : Int) : T9 .nil 13 [.agg [iv a, iv b], .agg [iv c, iv d]] = LSub a b c d := by kernel_rfl

end Go.Proofs.YtmdbfhkineaheaaGreatDoor

namespace Go.Proofs.YtmdbfhkineaheaaGreatDoor
open Go.Sx
set_option maxRecDepth 100000

/-! ### Results that may not fit -/

theorem rN_of {r : Rat} (h : fitsR r) : rN r = r.num := if_pos h
theorem rD_of {r : Rat} (h : fitsR r) : rD r = r.den := if_pos h
theorem rE_of {r : Rat} (h : fitsR r) : rE r = 0 := if_pos h
theorem rE_no {r : Rat} (h : ¬ fitsR r) : rE r = 2 := if_neg h
theorem rN_no {r : Rat} (h : ¬ fitsR r) : rN r = 0 := if_neg h
theorem rD_no {r : Rat} (h : ¬ fitsR r) : rD r = 0 := if_neg h
/-! ### Min, Max, Sub -/

noncomputable def mn (p q : Rat) : Rat := if q < p then q else p
noncomputable def mx (p q : Rat) : Rat := if p < q then q else p
theorem cmpR_pos {p q : Rat} : decide (cmpR p q > 0) = decide (q < p) := by
  rw [decide_eq_decide]; unfold cmpR
  by_cases h : p < q
  · rw [if_pos h]; exact ⟨fun h => by omega, fun h2 => absurd h2 (Rat.not_lt.2 (Rat.le_of_lt h))⟩
  · rw [if_neg h]
    by_cases e : p = q
    · subst e; rw [if_pos rfl]; exact ⟨fun h => by omega, fun h2 => absurd h2 Rat.lt_irrefl⟩
    · rw [if_neg e]; exact ⟨fun _ => Rat.lt_of_le_of_ne (Rat.not_lt.1 h) (fun e2 => e e2.symm), fun _ => by omega⟩
theorem cmpR_neg {p q : Rat} : decide (cmpR p q < 0) = decide (p < q) := by
  rw [decide_eq_decide]; unfold cmpR
  by_cases h : p < q
  · rw [if_pos h]; exact ⟨fun _ => h, fun _ => by omega⟩
  · rw [if_neg h]
    by_cases e : p = q
    · subst e; rw [if_pos rfl]; exact ⟨fun h => by omega, fun h2 => absurd h2 h⟩
    · rw [if_neg e]; exact ⟨fun h => by omega, fun h2 => absurd h2 h⟩
noncomputable def cMin : Ctr := fun ss => match ss with
  | [.agg [.d (.x (.int .i64 a)), .d (.x (.int .i64 b))], .agg [.d (.x (.int .i64 c)), .d (.x (.int .i64 d))]] => .need (VF a b ∧ VF c d) (.ret (.agg [iv (mn (ratOf a b) (ratOf c d)).num, iv (mn (ratOf a b) (ratOf c d)).den]))
  | _ => .fail
noncomputable def cMax : Ctr := fun ss => match ss with
  | [.agg [.d (.x (.int .i64 a)), .d (.x (.int .i64 b))], .agg [.d (.x (.int .i64 c)), .d (.x (.int .i64 d))]] => .need (VF a b ∧ VF c d) (.ret (.agg [iv (mx (ratOf a b) (ratOf c d)).num, iv (mx (ratOf a b) (ratOf c d)).den]))
  | _ => .fail
theorem VF.out {a b : Int} (h : VF a b) : iv (ratOf a b).num = iv a ∧ iv ((ratOf a b).den : Int) = iv b := by rw [h.low.num, h.low.den]; exact ⟨rfl, rfl⟩
theorem cMinU_ok : CtrOK Tryz.prog 26 cMin := by
  refine ctrOK_leS C9_ok D9_ok (by kernel_rfl) (by kernel_rfl) fun ss r h => ?_
  unfold cMin at h
  split at h
  · rename_i a b c d
    obtain ⟨⟨h1, h2⟩, rfl⟩ := h
    refine ⟨[.agg [iv a, iv b], .agg [iv c, iv d]], 200, .nil, by simp [leSVs, leSV, iv, leD], Sat.of_eq (LMinU_eq a b c d) ⟨?_⟩⟩
    unfold LMinU mn
    rw [cmpR_pos]
    refine ⟨⟨h1, h2⟩, fun h => ?_, fun h => ?_⟩
    · rw [if_pos (of_decide_eq_true h), h2.out.1, h2.out.2]; exact rfl
    · rw [if_neg (of_decide_eq_false h), h1.out.1, h1.out.2]; exact rfl
  · exact h.elim
theorem cMaxU_ok : CtrOK Tryz.prog 28 cMax := by
  refine ctrOK_leS C9_ok D9_ok (by kernel_rfl) (by kernel_rfl) fun ss r h => ?_
  unfold cMax at h
  split at h
  · rename_i a b c d
    obtain ⟨⟨h1, h2⟩, rfl⟩ := h
    refine ⟨[.agg [iv a, iv b], .agg [iv c, iv d]], 200, .nil, by simp [leSVs, leSV, iv, leD], Sat.of_eq (LMaxU_eq a b c d) ⟨?_⟩⟩
    unfold LMaxU mx
    rw [cmpR_neg]
    refine ⟨⟨h1, h2⟩, fun h => ?_, fun h => ?_⟩
    · rw [if_pos (of_decide_eq_true h), h2.out.1, h2.out.2]; exact rfl
    · rw [if_neg (of_decide_eq_false h), h1.out.1, h1.out.2]; exact rfl
  · exact h.elim

theorem VF.neg {c d : Int} (h : VF c d) : VF (0 - c) d := ⟨⟨h.low.pos, by have := h.low.cop; rwa [Int.zero_sub, Int.natAbs_neg]⟩, by have := h.n; omega, h.d⟩
theorem ratOf_neg {c d : Int} : ratOf (0 - c) d = - ratOf c d := by
  unfold ratOf; rw [Int.zero_sub, Rat.neg_mkRat]

theorem cMinR_ok : CtrOK Tryz.prog 27 cMin := by
  refine ctrOK_leS C9_ok D9_ok (by kernel_rfl) (by kernel_rfl) fun ss r h => ?_
  unfold cMin at h
  split at h
  · rename_i a b c d
    obtain ⟨⟨h1, h2⟩, rfl⟩ := h
    refine ⟨[.agg [iv a, iv b], .agg [iv c, iv d]], 200, .nil, by simp [leSVs, leSV, iv, leD], Sat.of_eq (LMinR_eq a b c d) ⟨?_⟩⟩
    unfold LMinR mn
    rw [cmpR_neg]
    refine ⟨⟨h2, h1⟩, fun h => ?_, fun h => ?_⟩
    · rw [if_pos (of_decide_eq_true h), h2.out.1, h2.out.2]; exact rfl
    · rw [if_neg (of_decide_eq_false h), h1.out.1, h1.out.2]; exact rfl
  · exact h.elim
theorem cMaxR_ok : CtrOK Tryz.prog 29 cMax := by
  refine ctrOK_leS C9_ok D9_ok (by kernel_rfl) (by kernel_rfl) fun ss r h => ?_
  unfold cMax at h
  split at h
  · rename_i a b c d
    obtain ⟨⟨h1, h2⟩, rfl⟩ := h
    refine ⟨[.agg [iv a, iv b], .agg [iv c, iv d]], 200, .nil, by simp [leSVs, leSV, iv, leD], Sat.of_eq (LMaxR_eq a b c d) ⟨?_⟩⟩
    unfold LMaxR mx
    rw [cmpR_pos]
    refine ⟨⟨h2, h1⟩, fun h => ?_, fun h => ?_⟩
    · rw [if_pos (of_decide_eq_true h), h2.out.1, h2.out.2]; exact rfl
    · rw [if_neg (of_decide_eq_false h), h1.out.1, h1.out.2]; exact rfl
  · exact h.elim
noncomputable def cSubR : Ctr := fun ss => match ss with
  | [.agg [.d (.x (.int .i64 a)), .d (.x (.int .i64 b))], .agg [.d (.x (.int .i64 c)), .d (.x (.int .i64 d))]] => .need (VF a b ∧ VF c d) (.ret (.agg [iv (rN (ratOf a b - ratOf c d)), iv (rD (ratOf a b - ratOf c d)), iv (rE (ratOf a b - ratOf c d))]))
  | _ => .fail
theorem cSubR_ok : CtrOK Tryz.prog 13 cSubR := by
  refine ctrOK_leS C9_ok D9_ok (by kernel_rfl) (by kernel_rfl) fun ss r h => ?_
  unfold cSubR at h
  split at h
  · rename_i a b c d
    obtain ⟨⟨h1, h2⟩, rfl⟩ := h
    refine ⟨[.agg [iv a, iv b], .agg [iv c, iv d]], 200, .nil, by simp [leSVs, leSV, iv, leD], Sat.of_eq (LSub_eq a b c d) ⟨?_⟩⟩
    unfold LSub
    have := h2.n
    rw [w64_of (n := 0 - c) (by omega) (by omega), ratOf_neg, ← Rat.sub_eq_add_neg]
    exact ⟨⟨h1, h2.neg⟩, rfl⟩
  · exact h.elim

/-! ### Numbers of bytes -/


end Go.Proofs.YtmdbfhkineaheaaGreatDoor

namespace Go.Proofs.YtmdbfhkineaheaaGreatDoor
open Go.Sx
set_option maxRecDepth 100000

/-! ### MakeIn of any two numbers -/
/-- The quotient of two numbers. -/
def qR (n d : Int) : Rat := if d < 0 then ratOf (-n) (-d) else ratOf n d
theorem qR_half {a b : Int} (hb : b ≠ 0) (h1 : a % 2 = 0) (h2 : b % 2 = 0) : qR (a / 2) (b / 2) = qR a b := by
  unfold qR
  by_cases h : b < 0
  · rw [if_pos h, if_pos (by omega), ← ratOf_half (a := -a) (b := -b) (by omega) (by omega) (by omega)]
    congr 1 <;> omega
  · rw [if_neg h, if_neg (by omega)]
    exact ratOf_half (by omega) h1 h2
theorem qR_zero {b : Int} : qR 0 b = 0 := by
  unfold qR; split <;> (unfold ratOf; exact Rat.zero_mkRat _)
/-- Numerator and denominator of a quotient. -/
theorem qR_parts {a b : Int} (hb : b ≠ 0) : (qR a b).num.natAbs = a.natAbs / a.natAbs.gcd b.natAbs ∧ (qR a b).den = b.natAbs / a.natAbs.gcd b.natAbs ∧ ((decide (a < 0) != decide (b < 0)) = true → (qR a b).num ≤ 0) ∧ ((decide (a < 0) != decide (b < 0)) = false → 0 ≤ (qR a b).num) := by
  have key : ∀ {n d : Int}, 0 < d → (ratOf n d).num.natAbs = n.natAbs / n.natAbs.gcd d.natAbs ∧ (ratOf n d).den = d.natAbs / n.natAbs.gcd d.natAbs ∧ (n ≤ 0 → (ratOf n d).num ≤ 0) ∧ (0 ≤ n → 0 ≤ (ratOf n d).num) := by
    intro n d hd
    obtain ⟨r1, r2⟩ := ratOf_red (n := n) hd rfl
    have e : d.toNat = d.natAbs := by omega
    rw [e] at r1 r2
    refine ⟨by rw [r1, Int.natAbs_tdiv]; rfl, ?_, fun h => ?_, fun h => ?_⟩
    · have hd0 : 0 ≤ d := by omega
      rw [Int.tdiv_eq_ediv_of_nonneg hd0] at r2
      obtain ⟨D, rfl⟩ := Int.eq_ofNat_of_zero_le hd0
      rw [Int.natAbs_natCast] at *
      rw [← Int.natCast_ediv] at r2
      omega
    · rw [r1]
      have := Int.tdiv_nonneg (a := -n) (b := ((n.natAbs.gcd d.natAbs : Nat) : Int)) (by omega) (by omega)
      rw [Int.neg_tdiv] at this; omega
    · rw [r1]; exact Int.tdiv_nonneg h (Int.natCast_nonneg _)
  unfold qR
  by_cases h : b < 0
  · rw [if_pos h]
    obtain ⟨k1, k2, k3, k4⟩ := key (n := -a) (d := -b) (by omega)
    rw [Int.natAbs_neg, Int.natAbs_neg] at k1 k2
    refine ⟨k1, k2, fun hx => k3 ?_, fun hx => k4 ?_⟩
    · simp only [h, decide_true, bne_iff_ne, ne_eq, decide_eq_true_eq] at hx
      simp at hx; omega
    · simp only [h, decide_true] at hx
      simp at hx; omega
  · rw [if_neg h]
    obtain ⟨k1, k2, k3, k4⟩ := key (n := a) (d := b) (by omega)
    refine ⟨k1, k2, fun hx => k3 ?_, fun hx => k4 ?_⟩
    · simp only [h, decide_false] at hx
      simp at hx; omega
    · simp only [h, decide_false] at hx
      simp at hx; omega

theorem odd_gcd {n : Nat} (h : n % 2 = 1) : (9223372036854775808 : Nat).gcd n = 1 := by
  rw [show (9223372036854775808 : Nat) = 2 ^ 63 by decide]
  have : Nat.Coprime 2 n := by
    unfold Nat.Coprime
    rw [Nat.gcd_rec, h]; decide
  exact Nat.Coprime.pow_left 63 this

abbrev I64 (n : Int) : Prop := -9223372036854775808 ≤ n ∧ n ≤ 9223372036854775807
theorem makeG_sat {n d : Int} (hn : I64 n) (hd : I64 d) (h0 : d ≠ 0) : Sat Tryz.prog (tMake n d) (· = .agg [iv (rN (qR n d)), iv (rD (qR n d)), iv (rE (qR n d))]) := by
  constructor
  rw [LMake_eq]; unfold LMake
  refine ⟨fun hc => by simp only [beq_iff_eq] at hc; omega, fun hc => ?_⟩
  refine code_satS C1_ok D1_ok (n := 200) (n0 := 1) (nx := 1) (roots := []) (keep := [4, 5, 6]) (drop := []) (h := .nil) (c := codeC (sub [1] (tMake n d))) (st := codeS (sub [1] (tMake n d))) (k := codeK (sub [1] (tMake n d))) (body := bodyMake) (by kernel_rfl) (by kernel_rfl)
    (fun q s => ∃ a b : Int, q = b.natAbs ∧ I64 a ∧ I64 b ∧ b ≠ 0 ∧ qR a b = qR n d ∧ s = invMake a b)
    (fun e s => ∃ a b : Int, e = .exit 0 ∧ I64 a ∧ I64 b ∧ b ≠ 0 ∧ (a ≠ 0 → ¬ (a % 2 = 0 ∧ b % 2 = 0)) ∧ qR a b = qR n d ∧ s = invMake a b)
    ⟨_, _, ⟨n, d, rfl, hn, hd, h0, rfl, rfl⟩, ?_⟩ ?_ ?_
  · exact entA_sound (roots := []) (keep := [4, 5, 6]) (drop := []) (nx := 1) (h := .nil) (by kernel_rfl)
  · rintro q s ⟨a, b, hq, ha, hb, hb0, he, rfl⟩
    refine Sat.of_eq (BMake_eq a b) ?_
    constructor
    unfold BMake
    refine ⟨by decide, fun _ => by decide, fun hc => ?_, fun hc => ?_⟩
    · simp only [Bool.and_eq_true, beq_iff_eq, bne_iff_ne, ne_eq, tmod2] at hc
      obtain ⟨⟨h1, h2⟩, h3⟩ := hc
      rw [tdiv2 h1, tdiv2 h2, w64_of (n := a / 2) (by omega) (by omega), w64_of (n := b / 2) (by omega) (by omega)]
      exact ⟨by decide, by decide, (b / 2).natAbs, _, by omega, ⟨a / 2, b / 2, rfl, by omega, by omega, by omega, by rw [qR_half hb0 h1 h2, he], rfl⟩, Gc.refl _ _⟩
    · refine ⟨_, ⟨a, b, rfl, ha, hb, hb0, fun hx ⟨h1, h2⟩ => ?_, he, rfl⟩, Gc.refl _ _⟩
      have : (Int.tmod a 2 == 0 && Int.tmod b 2 == 0 && a != 0) = true := by
        simp only [Bool.and_eq_true, beq_iff_eq, bne_iff_ne, ne_eq, tmod2]; exact ⟨⟨h1, h2⟩, hx⟩
      rw [this] at hc; cases hc
  · rintro e s ⟨a, b, rfl, ha, hb, hb0, hev, he, rfl⟩
    refine Sat.of_eq (KMake_eq n d a b) ⟨?_⟩
    unfold KMake
    rw [← he]
    have hg : ((Int.gcd (a.natAbs : Int) (b.natAbs : Int) : Nat) : Int) = ((a.natAbs.gcd b.natAbs : Nat) : Int) := by rw [Int.gcd_natCast_natCast]
    have hgp : 0 < a.natAbs.gcd b.natAbs := Nat.gcd_pos_of_pos_right _ (by omega)
    obtain ⟨r1, r2, r3, r4⟩ := qR_parts (a := a) hb0
    have ga := Nat.div_le_self a.natAbs (a.natAbs.gcd b.natAbs)
    have gb := Nat.div_le_self b.natAbs (a.natAbs.gcd b.natAbs)
    refine ⟨fun hz => ?_, fun hz => ?_⟩
    · have hz : a = 0 := by simpa using hz
      subst hz
      rw [qR_zero, r_zero.1, r_zero.2.1, r_zero.2.2]; exact rfl
    have hz : a ≠ 0 := by simpa using hz
    have hev := hev hz
    refine ⟨fun hl => ?_, fun hl => ?_⟩
    · have hnf : ¬ fitsR (qR a b) := by
        rintro ⟨f1, f2⟩
        rw [r1] at f1; rw [r2] at f2
        simp only [Bool.or_eq_true, beq_iff_eq] at hl
        rcases hl with rfl | rfl
        · have hb2 : b.natAbs % 2 = 1 := by omega
          rw [show (-9223372036854775808 : Int).natAbs = 9223372036854775808 by decide, odd_gcd hb2] at f1
          omega
        · have ha2 : a.natAbs % 2 = 1 := by omega
          rw [show (-9223372036854775808 : Int).natAbs = 9223372036854775808 by decide, Nat.gcd_comm, odd_gcd ha2] at f2
          omega
      rw [rN_no hnf, rD_no hnf, rE_no hnf]; exact rfl
    · simp only [Bool.or_eq_false_iff, beq_eq_false_iff_ne, ne_eq] at hl
      rw [hg, Int.toNat_natCast]
      refine ⟨by omega, by omega, by omega, ⟨by omega, by omega, by omega⟩, ⟨by omega, by omega, by omega⟩, fun hm => ?_, fun hm => ?_⟩
      · have hnf : ¬ fitsR (qR a b) := by
          rintro ⟨f1, f2⟩
          simp only [Bool.or_eq_true, decide_eq_true_eq] at hm
          omega
        rw [rN_no hnf, rD_no hnf, rE_no hnf]; exact rfl
      · have hf : fitsR (qR a b) := by
          simp only [Bool.or_eq_false_iff, decide_eq_false_iff_not] at hm
          exact ⟨by omega, by omega⟩
        rw [rN_of hf, rD_of hf, rE_of hf]
        have hxor : (!decide (a < 0) == decide (b < 0)) = (decide (a < 0) != decide (b < 0)) := by cases decide (a < 0) <;> cases decide (b < 0) <;> rfl
        refine ⟨fun hs => ?_, fun hs => ?_⟩
        · rw [hxor] at hs
          have := r3 hs
          rw [w64_of (by omega) (by omega)]
          simp only [Tree.sat]
          rw [← r1, ← r2, show (0 : Int) - ((qR a b).num.natAbs : Int) = (qR a b).num by omega]
        · rw [hxor] at hs
          have := r4 hs
          simp only [Tree.sat]
          rw [← r1, ← r2, show ((qR a b).num.natAbs : Int) = (qR a b).num by omega]

noncomputable def cMakeG : Ctr := fun ss => match ss with
  | [.d (.x (.int .i64 n)), .d (.x (.int .i64 d))] => .need (I64 n ∧ I64 d)
      (.ret (.agg [iv (if d = 0 then 0 else rN (qR n d)), iv (if d = 0 then 0 else rD (qR n d)), iv (if d = 0 then 3 else rE (qR n d))]))
  | _ => .fail
theorem cMakeG_ok : CtrOK Tryz.prog 6 cMakeG := by
  refine ctrOK_leS C1_ok D1_ok (by kernel_rfl) (by kernel_rfl) fun ss r h => ?_
  unfold cMakeG at h
  split at h
  · rename_i n d
    obtain ⟨⟨h1, h2⟩, rfl⟩ := h
    by_cases h0 : d = 0
    · subst h0
      refine ⟨[iv n, iv 0], 200, .nil, by simp [leSVs, leSV, iv, leD], Sat.of_eq (LMake_eq n 0) ⟨?_⟩⟩
      unfold LMake
      exact ⟨fun _ => rfl, fun h => (by cases h)⟩
    · rw [if_neg h0, if_neg h0, if_neg h0]
      exact ⟨[iv n, iv d], 200, .nil, by simp [leSVs, leSV, iv, leD], makeG_sat h1 h2 h0⟩
  · exact h.elim

end Go.Proofs.YtmdbfhkineaheaaGreatDoor

namespace Go.Proofs.YtmdbfhkineaheaaGreatDoor
open Go.Sx
set_option maxRecDepth 100000

noncomputable def manJ : FuncId → Option Ctr := fun k => match k with
  | 6 => some cMakeG
  | _ => none
theorem manJ_ok (k : Nat) (c : Ctr) (h : manJ k = some c) : CtrOK Tryz.prog k c ∧ goodF Tryz.prog k = true := by
  unfold manJ at h
  split at h
  · cases h; exact ⟨cMakeG_ok, by kernel_rfl⟩
  · cases h
noncomputable def CJ : Ctx := ctxN Tryz.prog manJ (fun _ => false) 200 .nil 6
theorem CJ_ok : CtxOK Tryz.prog CJ := ctxN_ok mixed manJ_ok 6
noncomputable def DJ : Dr := fun _ => drawn Tryz.prog CJ
theorem DJ_ok : DrOK Tryz.prog CJ DJ := drawn_ok CJ_ok mixed
noncomputable def TJ (h : Hint) (k : Nat) (args : List SV) : Tree SV := fnT Tryz.prog CJ DJ 200 (fnOf Tryz.prog k) (bodyOf Tryz.prog k) args h

noncomputable def LMdA (n d : Int) : Tree SV :=
  .need (I64 n ∧ I64 d) (.code (codeC (sub [(0 : Nat)] (TJ .nil (9 : Nat) [iv n, iv d]))) (codeS (sub [(0 : Nat)] (TJ .nil (9 : Nat) [iv n, iv d]))) (codeK (sub [(0 : Nat)] (TJ .nil (9 : Nat) [iv n, iv d]))))

theorem LMdA_eq (n d : Int) : TJ .nil 9 [iv n, iv d] = LMdA n d := by kernel_rfl

noncomputable def tMd (n d : Int) : Tree SV := TJ .nil 9 [iv n, iv d]
noncomputable def invMd (n d x y z : Int) : AS := ⟨[.ok (iv n), .ok (iv d), .unk, .unk, .ok (.ptr 0 0), .ok (.ptr 1 0)] ++ List.replicate 17 .unk, [some (.cells [iv 0, iv 0]), some (.cells [iv x, iv y, iv z]), none], 3, .nil⟩
noncomputable def bodyMd : Code := loopN (bodyOf Tryz.prog 9) 0
noncomputable def BMdA (n d x y z : Int) : Tree (Ex × AS) :=
  .ite (z != (0 : Int))
  (.need ((2 : Int) ≠ (0 : Int))
   (.need ((2 : Int) ≠ (0 : Int))
   (.ite (w64 (Int.tdiv d (2 : Int)) == (0 : Int))
   (.need (I64 (w64 (Int.tdiv n (2 : Int))) ∧ I64 (1 : Int))
   (.ret
   (.normal,
   {
   tm :=
   [.ok (iv (w64 (Int.tdiv n (2 : Int)))), .ok (iv (1 : Int)), .unk, .unk, .ok (SV.ptr 0 0), .ok (SV.ptr 1 0), .unk, .unk, .unk, .unk, .unk, .unk, .unk,
   .unk, .unk, .unk, .unk, .unk, .unk, .unk, .unk, .unk, .unk],
   hp :=
   [some (.cells [iv (0 : Int), iv (0 : Int)]),
   some (.cells [iv (rN (qR (w64 (Int.tdiv n (2 : Int))) (1 : Int))), iv (rD (qR (w64 (Int.tdiv n (2 : Int))) (1 : Int))), iv (rE (qR (w64 (Int.tdiv n (2 : Int))) (1 : Int)))]), none],
   next := 3, hint := .nil })))
   (.need (I64 (w64 (Int.tdiv n (2 : Int))) ∧ I64 (w64 (Int.tdiv d (2 : Int))))
   (.ret
   (.normal,
   {
   tm :=
   [.ok (iv (w64 (Int.tdiv n (2 : Int)))), .ok (iv (w64 (Int.tdiv d (2 : Int)))), .unk, .unk, .ok (SV.ptr 0 0), .ok (SV.ptr 1 0), .unk, .unk, .unk, .unk, .unk,
   .unk, .unk, .unk, .unk, .unk, .unk, .unk, .unk, .unk, .unk, .unk, .unk],
   hp :=
   [some (.cells [iv (0 : Int), iv (0 : Int)]),
   some
   (.cells
   [iv (if w64 (Int.tdiv d (2 : Int)) = (0 : Int) then (0 : Int) else rN (qR (w64 (Int.tdiv n (2 : Int))) (w64 (Int.tdiv d (2 : Int))))),
   iv (if w64 (Int.tdiv d (2 : Int)) = (0 : Int) then (0 : Int) else rD (qR (w64 (Int.tdiv n (2 : Int))) (w64 (Int.tdiv d (2 : Int))))),
   iv (if w64 (Int.tdiv d (2 : Int)) = (0 : Int) then (3 : Int) else rE (qR (w64 (Int.tdiv n (2 : Int))) (w64 (Int.tdiv d (2 : Int)))))]),
   none],
   next := 3, hint := .nil }))))))
  (.ret
   (.exit 0,
   {
   tm :=
   [.ok (iv n), .ok (iv d), .unk, .unk, .ok (SV.ptr 0 0), .ok (SV.ptr 1 0), .unk, .unk, .unk, .unk, .unk, .unk, .unk, .unk, .unk, .unk, .unk, .unk, .unk,
   .unk, .unk, .unk, .unk],
   hp := [some (.cells [iv (0 : Int), iv (0 : Int)]), some (.cells [iv x, iv y, iv z]), none], next := 3, hint := .nil }))

theorem BMdA_eq (n d x y z : Int) : cutT 3 [] [0, 1, 4, 5] [2] 3 .nil (exec Tryz.prog CJ DJ 200 bodyMd (invMd n d x y z)) = BMdA n d x y z := by kernel_rfl

noncomputable def KMdA (n d a b x y z : Int) : Tree SV :=
  .ret (SV.agg [iv x, iv y])

theorem KMdA_eq (n d a b x y z : Int) : codeK (sub [0] (tMd n d)) (.exit 0) (invMd a b x y z) = KMdA n d a b x y z := by kernel_rfl


/-- What the reference makes of two numbers: halved until they fit. -/
def nxD (d : Int) : Int := if Int.tdiv d 2 = 0 then 1 else Int.tdiv d 2
noncomputable def mdF : Nat → Int → Int → Rat
  | 0, _, _ => 0
  | k + 1, n, d => if d ≠ 0 ∧ fitsR (qR n d) then qR n d else mdF k (Int.tdiv n 2) (nxD d)
def mdM (n d : Int) : Nat := n.natAbs + d.natAbs + if d = 0 then 2 else 0
noncomputable def mdQ (n d : Int) : Rat := mdF (mdM n d + 1) n d
theorem mdF_fits : ∀ (k : Nat) (n d : Int), fitsR (mdF k n d)
  | 0, n, d => by unfold mdF; decide +kernel
  | k + 1, n, d => by
    unfold mdF; split
    · rename_i h; exact h.2
    · exact mdF_fits k _ _
theorem mdQ_fits (n d : Int) : fitsR (mdQ n d) := mdF_fits _ _ _
theorem fits_zero : fitsR 0 := by decide +kernel
theorem md_step {n d : Int} (h : ¬ (d ≠ 0 ∧ fitsR (qR n d))) : mdM (Int.tdiv n 2) (nxD d) < mdM n d := by
  have hn : (Int.tdiv n 2).natAbs = n.natAbs / 2 := by rw [Int.natAbs_tdiv]; rfl
  have hd : (Int.tdiv d 2).natAbs = d.natAbs / 2 := by rw [Int.natAbs_tdiv]; rfl
  unfold mdM nxD
  by_cases h0 : d = 0
  · subst h0
    rw [if_pos (by decide), if_neg (by decide), if_pos rfl]; omega
  · have hn0 : n ≠ 0 := by
      rintro rfl
      exact h ⟨h0, by rw [qR_zero]; exact fits_zero⟩
    have e1 : (1 : Int).natAbs = 1 := rfl
    (repeat' split) <;> omega

def mdC (n d : Int) (x y z : Int) : Prop := x = (if d = 0 then 0 else rN (qR n d)) ∧ y = (if d = 0 then 0 else rD (qR n d)) ∧ z = (if d = 0 then 3 else rE (qR n d))
theorem tdiv2_b {n : Int} (h : I64 n) : I64 (Int.tdiv n 2) ∧ w64 (Int.tdiv n 2) = Int.tdiv n 2 := by
  have hn : (Int.tdiv n 2).natAbs = n.natAbs / 2 := by rw [Int.natAbs_tdiv]; rfl
  have : I64 (Int.tdiv n 2) := ⟨by omega, by omega⟩
  exact ⟨this, w64_of this.1 this.2⟩
theorem madeG_sat {n d : Int} (hn : I64 n) (hd : I64 d) : Sat Tryz.prog (tMd n d) (· = .agg [iv (mdQ n d).num, iv (mdQ n d).den]) := by
  constructor
  rw [show tMd n d = LMdA n d from LMdA_eq n d]; unfold LMdA
  refine ⟨⟨hn, hd⟩, ?_⟩
  refine code_satS CJ_ok DJ_ok (n := 200) (n0 := 3) (nx := 3) (roots := []) (keep := [0, 1, 4, 5]) (drop := [2]) (h := .nil) (c := codeC (sub [0] (tMd n d))) (st := codeS (sub [0] (tMd n d))) (k := codeK (sub [0] (tMd n d))) (body := bodyMd) (by kernel_rfl) (by kernel_rfl)
    (fun q s => ∃ a b x y z : Int, I64 a ∧ I64 b ∧ mdM a b < q ∧ mdF q a b = mdQ n d ∧ mdC a b x y z ∧ s = invMd a b x y z)
    (fun e s => ∃ a b y z : Int, ∃ r : Rat, e = .exit 0 ∧ mdQ n d = r ∧ s = invMd a b r.num r.den z)
    ⟨_, _, ⟨n, d, _, _, _, hn, hd, Nat.lt_succ_self _, rfl, ⟨rfl, rfl, rfl⟩, rfl⟩, ?_⟩ ?_ ?_
  · exact entA_sound (roots := []) (keep := [0, 1, 4, 5]) (drop := [2]) (nx := 3) (h := .nil) (by kernel_rfl)
  · rintro q s ⟨a, b, x, y, z, ha, hb, hq, he, ⟨rfl, rfl, rfl⟩, rfl⟩
    refine Sat.of_eq (BMdA_eq _ _ _ _ _) ?_
    constructor
    unfold BMdA
    obtain ⟨a1, a2⟩ := tdiv2_b ha
    obtain ⟨b1, b2⟩ := tdiv2_b hb
    have hI1 : I64 1 := ⟨by decide, by decide⟩
    obtain ⟨q, rfl⟩ : ∃ p, q = p + 1 := ⟨q - 1, by omega⟩
    by_cases hok : b ≠ 0 ∧ fitsR (qR a b)
    · have e1 : mdF (q + 1) a b = qR a b := by unfold mdF; rw [if_pos hok]
      rw [e1] at he
      rw [if_neg hok.1, if_neg hok.1, if_neg hok.1, rE_of hok.2, rN_of hok.2, rD_of hok.2]
      exact ⟨fun h => (by cases h), fun _ => ⟨_, ⟨a, b, 0, 0, qR a b, rfl, he.symm, rfl⟩, Gc.refl _ _⟩⟩
    · have e1 : mdF (q + 1) a b = mdF q (Int.tdiv a 2) (nxD b) := by
        show (if b ≠ 0 ∧ fitsR (qR a b) then qR a b else mdF q (Int.tdiv a 2) (nxD b)) = _
        rw [if_neg hok]
      rw [e1] at he
      have hst := md_step hok
      rw [a2, b2]
      refine ⟨fun _ => ⟨by decide, by decide, fun h1 => ?_, fun h1 => ?_⟩, fun h => ?_⟩
      · have h1 : Int.tdiv b 2 = 0 := by simpa using h1
        have h2 : nxD b = 1 := by unfold nxD; rw [if_pos h1]
        rw [h2] at he hst
        exact ⟨⟨a1, hI1⟩, q, _, Nat.lt_succ_self _, ⟨Int.tdiv a 2, 1, _, _, _, a1, hI1, by omega, he, ⟨by rw [if_neg (by decide)], by rw [if_neg (by decide)], by rw [if_neg (by decide)]⟩, rfl⟩, Gc.refl _ _⟩
      · have h1 : Int.tdiv b 2 ≠ 0 := by simpa using h1
        have h2 : nxD b = Int.tdiv b 2 := by unfold nxD; rw [if_neg h1]
        rw [h2] at he hst
        exact ⟨⟨a1, b1⟩, q, _, Nat.lt_succ_self _, ⟨Int.tdiv a 2, Int.tdiv b 2, _, _, _, a1, b1, by omega, he, ⟨rfl, rfl, rfl⟩, rfl⟩, Gc.refl _ _⟩
      · exfalso
        by_cases hb0 : b = 0
        · rw [if_pos hb0] at h; cases h
        · rw [if_neg hb0, rE_no (fun hf => hok ⟨hb0, hf⟩)] at h; cases h
  · rintro e s ⟨a, b, y, z, r, rfl, he, rfl⟩
    refine Sat.of_eq (KMdA_eq n d a b _ _ _) ⟨?_⟩
    unfold KMdA
    rw [he]; exact rfl

noncomputable def cMadeG : Ctr := fun ss => match ss with
  | [.d (.x (.int .i64 n)), .d (.x (.int .i64 d))] => .need (I64 n ∧ I64 d) (.ret (.agg [iv (mdQ n d).num, iv (mdQ n d).den]))
  | _ => .fail
theorem cMadeG_ok : CtrOK Tryz.prog 9 cMadeG := by
  refine ctrOK_leS CJ_ok DJ_ok (by kernel_rfl) (by kernel_rfl) fun ss r h => ?_
  unfold cMadeG at h
  split at h
  · rename_i n d
    obtain ⟨⟨h1, h2⟩, rfl⟩ := h
    exact ⟨[iv n, iv d], 200, .nil, by simp [leSVs, leSV, iv, leD], madeG_sat h1 h2⟩
  · exact h.elim

end Go.Proofs.YtmdbfhkineaheaaGreatDoor

namespace Go.Proofs.YtmdbfhkineaheaaGreatDoor
open Go.Sx
set_option maxRecDepth 100000

/-! ### Make, Sub, Div, Floor, Ceil -/

noncomputable def man7m : FuncId → Option Ctr := fun k => match k with
  | 38 => some cAbsU
  | 37 => some cGcdV
  | 55 => some cMd
  | _ => none
theorem man7m_ok (k : Nat) (c : Ctr) (h : man7m k = some c) : CtrOK Tryz.prog k c ∧ goodF Tryz.prog k = true := by
  unfold man7m at h
  split at h <;> first | (cases h; done) | (cases h)
  · exact ⟨cAbsU_ok, by kernel_rfl⟩
  · exact ⟨cGcdV_ok, by kernel_rfl⟩
  · exact ⟨cMd_ok, by kernel_rfl⟩
noncomputable def C7m : Ctx := ctxN Tryz.prog man7m (fun _ => false) 200 .nil 6
theorem C7m_ok : CtxOK Tryz.prog C7m := ctxN_ok mixed man7m_ok 6
noncomputable def D7m : Dr := fun _ => drawn Tryz.prog C7m
theorem D7m_ok : DrOK Tryz.prog C7m D7m := drawn_ok C7m_ok mixed
noncomputable def T7m (k : Nat) (args : List SV) : Tree SV := fnT Tryz.prog C7m D7m 200 (fnOf Tryz.prog k) (bodyOf Tryz.prog k) args .nil

noncomputable def LMkU (n d : Int) : Tree SV :=
  .ite (d == (0 : Int)) (.ret (SV.tup [SV.agg [iv (0 : Int), iv (0 : Int)], iv (3 : Int)]))
  (.ite (n == (0 : Int)) (.ret (SV.tup [SV.agg [iv (0 : Int), iv (1 : Int)], iv (0 : Int)]))
   (.need ((-9223372036854775808 : Int) ≤ n ∧ n ≤ (9223372036854775807 : Int))
   (.need ((-9223372036854775808 : Int) ≤ d ∧ d ≤ (9223372036854775807 : Int))
   (.need (2 ≤ List.length [SV.d (DV.x (.int .u64 (↑(Int.natAbs n) : Int))), SV.d (DV.x (.int .u64 (↑(Int.natAbs d) : Int)))])
   (.need ((0 : Int) ≤ (↑(Int.natAbs n) : Int) ∧ (0 : Int) ≤ (↑(Int.natAbs d) : Int))
   (.need ((-9223372036854775808 : Int) ≤ n ∧ n ≤ (9223372036854775807 : Int))
   (.need ((↑(Int.gcd (↑(Int.natAbs n) : Int) (↑(Int.natAbs d) : Int)) : Int) ≠ (0 : Int))
   (.need ((-9223372036854775808 : Int) ≤ d ∧ d ≤ (9223372036854775807 : Int))
   (.need ((↑(Int.gcd (↑(Int.natAbs n) : Int) (↑(Int.natAbs d) : Int)) : Int) ≠ (0 : Int))
   (.need
   (((0 : Int) ≤ (0 : Int) ∧
   (0 : Int) ≤ IntKind.wrap .u64 (Int.tdiv (↑(Int.natAbs n) : Int) (↑(Int.gcd (↑(Int.natAbs n) : Int) (↑(Int.natAbs d) : Int)) : Int)) ∧
   IntKind.wrap .u64 (Int.tdiv (↑(Int.natAbs n) : Int) (↑(Int.gcd (↑(Int.natAbs n) : Int) (↑(Int.natAbs d) : Int)) : Int)) < (18446744073709551616 : Int)) ∧
   ((0 : Int) ≤ (0 : Int) ∧
   (0 : Int) ≤ IntKind.wrap .u64 (Int.tdiv (↑(Int.natAbs d) : Int) (↑(Int.gcd (↑(Int.natAbs n) : Int) (↑(Int.natAbs d) : Int)) : Int)) ∧
   IntKind.wrap .u64 (Int.tdiv (↑(Int.natAbs d) : Int) (↑(Int.gcd (↑(Int.natAbs n) : Int) (↑(Int.natAbs d) : Int)) : Int)) < (18446744073709551616 : Int)) ∧
   false = false)
   (.ret
   (SV.tup
   [SV.agg
   [iv
   (finN (!decide (n < (0 : Int)) == decide (d < (0 : Int))) (wN (0 : Int) (IntKind.wrap .u64 (Int.tdiv (↑(Int.natAbs n) : Int) (↑(Int.gcd (↑(Int.natAbs n) : Int) (↑(Int.natAbs d) : Int)) : Int))))
   (wN (0 : Int) (IntKind.wrap .u64 (Int.tdiv (↑(Int.natAbs d) : Int) (↑(Int.gcd (↑(Int.natAbs n) : Int) (↑(Int.natAbs d) : Int)) : Int))))),
   iv
   (finD (wN (0 : Int) (IntKind.wrap .u64 (Int.tdiv (↑(Int.natAbs n) : Int) (↑(Int.gcd (↑(Int.natAbs n) : Int) (↑(Int.natAbs d) : Int)) : Int))))
   (wN (0 : Int) (IntKind.wrap .u64 (Int.tdiv (↑(Int.natAbs d) : Int) (↑(Int.gcd (↑(Int.natAbs n) : Int) (↑(Int.natAbs d) : Int)) : Int)))))],
   iv
   (finE (wN (0 : Int) (IntKind.wrap .u64 (Int.tdiv (↑(Int.natAbs n) : Int) (↑(Int.gcd (↑(Int.natAbs n) : Int) (↑(Int.natAbs d) : Int)) : Int))))
   (wN (0 : Int) (IntKind.wrap .u64 (Int.tdiv (↑(Int.natAbs d) : Int) (↑(Int.gcd (↑(Int.natAbs n) : Int) (↑(Int.natAbs d) : Int)) : Int)))))]))))))))))))

theorem LMkU_eq (n d : Int) : T7m 33 [iv n, iv d] = LMkU n d := by kernel_rfl

noncomputable def LSubU (a b c d : Int) : Tree SV :=
  .need (VF a b ∧ VF (w64 ((0 : Int) - c)) d) (.ret (SV.tup [SV.agg [iv (rN (ratOf a b + ratOf (w64 ((0 : Int) - c)) d)), iv (rD (ratOf a b + ratOf (w64 ((0 : Int) - c)) d))], iv (rE (ratOf a b + ratOf (w64 ((0 : Int) - c)) d))]))

theorem LSubU_eq (a b c d : Int) : T9 .nil 46 [.agg [iv a, iv b], .agg [iv c, iv d]] = LSubU a b c d := by kernel_rfl

noncomputable def LDivU (a b c d : Int) : Tree SV :=
  .ite (c == (0 : Int)) (.ret (SV.tup [SV.agg [iv (0 : Int), iv (0 : Int)], iv (3 : Int)]))
  (.ite (decide (c < (0 : Int)))
   (.need (VF a b ∧ VF (w64 ((0 : Int) - d)) (w64 ((0 : Int) - c)))
   (.ret
   (SV.tup
   [SV.agg [iv (rN (ratOf a b * ratOf (w64 ((0 : Int) - d)) (w64 ((0 : Int) - c)))), iv (rD (ratOf a b * ratOf (w64 ((0 : Int) - d)) (w64 ((0 : Int) - c))))],
   iv (rE (ratOf a b * ratOf (w64 ((0 : Int) - d)) (w64 ((0 : Int) - c))))])))
   (.need (VF a b ∧ VF d c) (.ret (SV.tup [SV.agg [iv (rN (ratOf a b * ratOf d c)), iv (rD (ratOf a b * ratOf d c))], iv (rE (ratOf a b * ratOf d c))]))))

theorem LDivU_eq (a b c d : Int) : T9 .nil 48 [.agg [iv a, iv b], .agg [iv c, iv d]] = LDivU a b c d := by kernel_rfl

noncomputable def LFlU (a b : Int) : Tree SV :=
  .need (b ≠ (0 : Int)) (.ite (decide (w64 (w64 (Int.tdiv a b) * b) > a)) (.ret (iv (w64 (w64 (Int.tdiv a b) - (1 : Int))))) (.ret (iv (w64 (Int.tdiv a b)))))

theorem LFlU_eq (a b : Int) : T0 20 [.agg [iv a, iv b]] = LFlU a b := by kernel_rfl

noncomputable def LCeU (a b : Int) : Tree SV :=
  .need (b ≠ (0 : Int)) (.ite (decide (w64 (w64 (Int.tdiv a b) * b) < a)) (.ret (iv (w64 (w64 (Int.tdiv a b) + (1 : Int))))) (.ret (iv (w64 (Int.tdiv a b)))))

theorem LCeU_eq (a b : Int) : T0 22 [.agg [iv a, iv b]] = LCeU a b := by kernel_rfl

noncomputable def LMst  : Tree SV :=
  .ret (iv (4611686018427387904 : Int))

theorem LMst_eq  : T0 30 [] = LMst  := by kernel_rfl


end Go.Proofs.YtmdbfhkineaheaaGreatDoor

namespace Go.Proofs.YtmdbfhkineaheaaGreatDoor
open Go.Sx
set_option maxRecDepth 100000

/-! ### Make -/

theorem wu_div {m g : Nat} (hm : m ≤ 9223372036854775808) : IntKind.wrap .u64 (Int.tdiv (m : Int) (g : Int)) = ((m / g : Nat) : Int) := by
  have h := Nat.div_le_self m g
  have : Int.tdiv (m : Int) (g : Int) = ((m / g : Nat) : Int) := by simp
  rw [this]; clear this
  generalize m / g = q at *
  exact wu_of (by omega) (by omega)
theorem wN_nat (m : Nat) : wN 0 (m : Int) = m := by unfold wN; omega

/-- The result of a division of two integers. -/
noncomputable def mkN (n d : Int) : Int := if d = 0 then 0 else rN (qR n d)
noncomputable def mkD (n d : Int) : Int := if d = 0 then 0 else rD (qR n d)
noncomputable def mkE (n d : Int) : Int := if d = 0 then 3 else rE (qR n d)

theorem makeU_sat {n d : Int} (hn : I64 n) (hd : I64 d) : Sat Tryz.prog (T7m 33 [iv n, iv d]) (· = .tup [.agg [iv (mkN n d), iv (mkD n d)], iv (mkE n d)]) := by
  constructor
  rw [LMkU_eq]; unfold LMkU
  refine ⟨fun h => ?_, fun h => ⟨fun h2 => ?_, fun h2 => ?_⟩⟩
  · have h : d = 0 := by simpa using h
    subst h; exact rfl
  · have h : d ≠ 0 := by simpa using h
    have h2 : n = 0 := by simpa using h2
    subst h2
    simp only [mkN, mkD, mkE, if_neg h, qR_zero, r_zero.1, r_zero.2.1, r_zero.2.2]; exact rfl
  · have h : d ≠ 0 := by simpa using h
    have h2 : n ≠ 0 := by simpa using h2
    obtain ⟨q1, q2, q3, q4⟩ := qR_parts (a := n) h
    have hg : Int.gcd (n.natAbs : Int) (d.natAbs : Int) = n.natAbs.gcd d.natAbs := by rw [Int.gcd_natCast_natCast]
    have hg0 : 0 < n.natAbs.gcd d.natAbs := Nat.gcd_pos_of_pos_right _ (by omega)
    obtain ⟨hn1, hn2⟩ := hn
    obtain ⟨hd1, hd2⟩ := hd
    have a1 := Nat.div_le_self n.natAbs (n.natAbs.gcd d.natAbs)
    have a2 := Nat.div_le_self d.natAbs (n.natAbs.gcd d.natAbs)
    simp only [hg, wu_div (m := n.natAbs) (g := n.natAbs.gcd d.natAbs) (by omega), wu_div (m := d.natAbs) (g := n.natAbs.gcd d.natAbs) (by omega), wN_nat]
    have hxor : (!decide (n < 0) == decide (d < 0)) = (decide (n < 0) != decide (d < 0)) := by cases decide (n < 0) <;> cases decide (d < 0) <;> rfl
    have hs : sg (!decide (n < 0) == decide (d < 0)) (n.natAbs / n.natAbs.gcd d.natAbs) = (qR n d).num := by
      rw [hxor]
      unfold sg
      cases hx : (decide (n < 0) != decide (d < 0)) with
      | true => rw [if_pos rfl]; have := q3 hx; omega
      | false => rw [if_neg (by simp)]; have := q4 hx; omega
    obtain ⟨f1, f2, f3⟩ := fin_eq (r := qR n d) hs q2.symm
    refine ⟨⟨hn1, hn2⟩, ⟨hd1, hd2⟩, by simp, by omega, ⟨hn1, hn2⟩, by omega, ⟨hd1, hd2⟩, by omega, ⟨by omega, by omega, by simp⟩, ?_⟩
    rw [f1, f2, f3]
    simp only [mkN, mkD, mkE, if_neg h]; exact rfl

noncomputable def cMakeU : Ctr := fun ss => match ss with
  | [.d (.x (.int .i64 n)), .d (.x (.int .i64 d))] => .need (I64 n ∧ I64 d) (.ret (.tup [.agg [iv (mkN n d), iv (mkD n d)], iv (mkE n d)]))
  | _ => .fail
theorem cMakeU_ok : CtrOK Tryz.prog 33 cMakeU := by
  refine ctrOK_leS C7m_ok D7m_ok (by kernel_rfl) (by kernel_rfl) fun ss r h => ?_
  unfold cMakeU at h
  split at h
  · rename_i n d
    obtain ⟨⟨h1, h2⟩, rfl⟩ := h
    exact ⟨[iv n, iv d], 200, .nil, by simp [leSVs, leSV, iv, leD], makeU_sat h1 h2⟩
  · exact h.elim

/-! ### Sub, Div -/

theorem VF.flip {c d : Int} (h : VF c d) (hc : 0 < c) : VF d c :=
  ⟨⟨by omega, by have := h.low.cop; have := h.low.pos; rw [Nat.gcd_comm]; rwa [show c.toNat = c.natAbs by omega, show d.natAbs = d.toNat by omega]⟩, by have := h.d; have := h.low.pos; omega, by have := h.n; omega⟩
theorem ratOf_ne {c d : Int} (hd : 1 ≤ d) (hc : c ≠ 0) : ratOf c d ≠ 0 := by
  unfold ratOf; rw [Ne, Rat.mkRat_eq_zero (by omega)]; exact hc
theorem ratOf_flip {c d : Int} (hd : 1 ≤ d) (hc : 0 < c) : ratOf d c = (ratOf c d)⁻¹ := by
  have h0 := ratOf_ne hd (show c ≠ 0 by omega)
  have h1 : ratOf d c * ratOf c d = 1 := by
    unfold ratOf
    rw [Rat.mkRat_mul_mkRat]
    have e : d * c = ((c.toNat * d.toNat : Nat) : Int) := by rw [Int.natCast_mul, Int.toNat_of_nonneg (by omega), Int.toNat_of_nonneg (by omega), Int.mul_comm]
    rw [e]
    have hp : c.toNat * d.toNat ≠ 0 := Nat.mul_ne_zero (by omega) (by omega)
    rw [show ((c.toNat * d.toNat : Nat) : Int) = 1 * ((c.toNat * d.toNat : Nat) : Int) by omega]
    rw [Rat.mkRat_eq_iff hp (by decide) |>.2 (show (1 : Int) * ((c.toNat * d.toNat : Nat) : Int) * ((1 : Nat) : Int) = 1 * ((c.toNat * d.toNat : Nat) : Int) by omega)]
    rfl
  have : ratOf d c * ratOf c d * (ratOf c d)⁻¹ = 1 * (ratOf c d)⁻¹ := by rw [h1]
  rwa [Rat.mul_assoc, Rat.mul_inv_cancel _ h0, Rat.mul_one, Rat.one_mul] at this

noncomputable def cSubU : Ctr := fun ss => match ss with
  | [.agg [.d (.x (.int .i64 a)), .d (.x (.int .i64 b))], .agg [.d (.x (.int .i64 c)), .d (.x (.int .i64 d))]] => .need (VF a b ∧ VF c d) (.ret (.tup [.agg [iv (rN (ratOf a b - ratOf c d)), iv (rD (ratOf a b - ratOf c d))], iv (rE (ratOf a b - ratOf c d))]))
  | _ => .fail
theorem cSubU_ok : CtrOK Tryz.prog 46 cSubU := by
  refine ctrOK_leS C9_ok D9_ok (by kernel_rfl) (by kernel_rfl) fun ss r h => ?_
  unfold cSubU at h
  split at h
  · rename_i a b c d
    obtain ⟨⟨h1, h2⟩, rfl⟩ := h
    refine ⟨[.agg [iv a, iv b], .agg [iv c, iv d]], 200, .nil, by simp [leSVs, leSV, iv, leD], Sat.of_eq (LSubU_eq a b c d) ⟨?_⟩⟩
    unfold LSubU
    have hc := h2.n
    rw [w64_of (n := 0 - c) (by omega) (by omega), ratOf_neg, ← Rat.sub_eq_add_neg]
    exact ⟨⟨h1, h2.neg⟩, rfl⟩
  · exact h.elim

noncomputable def dvN (p q : Rat) : Int := if q = 0 then 0 else rN (p / q)
noncomputable def dvD (p q : Rat) : Int := if q = 0 then 0 else rD (p / q)
noncomputable def dvE (p q : Rat) : Int := if q = 0 then 3 else rE (p / q)
theorem ratOf_zero {d : Int} : ratOf 0 d = 0 := by unfold ratOf; exact Rat.zero_mkRat _

noncomputable def cDivU : Ctr := fun ss => match ss with
  | [.agg [.d (.x (.int .i64 a)), .d (.x (.int .i64 b))], .agg [.d (.x (.int .i64 c)), .d (.x (.int .i64 d))]] => .need (VF a b ∧ VF c d) (.ret (.tup [.agg [iv (dvN (ratOf a b) (ratOf c d)), iv (dvD (ratOf a b) (ratOf c d))], iv (dvE (ratOf a b) (ratOf c d))]))
  | _ => .fail
theorem cDivU_ok : CtrOK Tryz.prog 48 cDivU := by
  refine ctrOK_leS C9_ok D9_ok (by kernel_rfl) (by kernel_rfl) fun ss r h => ?_
  unfold cDivU at h
  split at h
  · rename_i a b c d
    obtain ⟨⟨h1, h2⟩, rfl⟩ := h
    refine ⟨[.agg [iv a, iv b], .agg [iv c, iv d]], 200, .nil, by simp [leSVs, leSV, iv, leD], Sat.of_eq (LDivU_eq a b c d) ⟨?_⟩⟩
    unfold LDivU
    have hc := h2.n
    have hd := h2.d
    have hp := h2.low.pos
    rw [w64_of (n := 0 - c) (by omega) (by omega), w64_of (n := 0 - d) (by omega) (by omega)]
    refine ⟨fun h => ?_, fun h => ⟨fun hn => ?_, fun hn => ?_⟩⟩
    · have h : c = 0 := by simpa using h
      subst h
      simp only [dvN, dvD, dvE, ratOf_zero, if_true]; exact rfl
    · have hn : c < 0 := by simpa using hn
      have h0 : ratOf c d ≠ 0 := ratOf_ne hp (by omega)
      have hv : VF (0 - d) (0 - c) := by
        have h3 := (h2.neg.flip (by omega)).neg
        exact h3
      refine ⟨⟨h1, hv⟩, ?_⟩
      have e : ratOf (0 - d) (0 - c) = (ratOf c d)⁻¹ := by
        rw [ratOf_neg, ratOf_flip hp (by omega), ratOf_neg]
        have e1 : -(ratOf c d) ≠ 0 := fun h => h0 (by rw [← Rat.neg_neg (ratOf c d), h]; rfl)
        have e2 : -(-(ratOf c d))⁻¹ * ratOf c d = 1 := by
          rw [Rat.neg_mul, ← Rat.mul_neg, Rat.inv_mul_cancel _ e1]
        have : -(-(ratOf c d))⁻¹ * ratOf c d * (ratOf c d)⁻¹ = 1 * (ratOf c d)⁻¹ := by rw [e2]
        rwa [Rat.mul_assoc, Rat.mul_inv_cancel _ h0, Rat.mul_one, Rat.one_mul] at this
      rw [e, ← Rat.div_def]
      simp only [dvN, dvD, dvE, if_neg h0]; exact rfl
    · have h : c ≠ 0 := by simpa using h
      have hn : ¬ c < 0 := by simpa using hn
      have h0 : ratOf c d ≠ 0 := ratOf_ne hp h
      refine ⟨⟨h1, h2.flip (by omega)⟩, ?_⟩
      rw [ratOf_flip hp (by omega), ← Rat.div_def]
      simp only [dvN, dvD, dvE, if_neg h0]; exact rfl
  · exact h.elim

/-! ### Floor, Ceil -/

theorem tdiv_cases {a b : Int} (hb : 1 ≤ b) : (Int.tdiv a b = a / b ∧ a / b * b ≤ a ∧ a < a / b * b + b) ∧ (0 ≤ a ∨ a / b * b = a) ∨ (a < 0 ∧ Int.tdiv a b = a / b + 1 ∧ a / b * b < a ∧ a < a / b * b + b) := by
  have h1 := Int.emod_add_mul_ediv a b
  have h2 := Int.emod_nonneg a (show b ≠ 0 by omega)
  have h3 := Int.emod_lt_of_pos a (show 0 < b by omega)
  have h4 : a / b * b = a - a % b := by rw [Int.mul_comm]; omega
  by_cases ha : 0 ≤ a
  · left; exact ⟨⟨Int.tdiv_eq_ediv_of_nonneg ha, by omega, by omega⟩, .inl ha⟩
  · by_cases hd : a % b = 0
    · left
      exact ⟨⟨Int.tdiv_eq_ediv_of_dvd (Int.dvd_of_emod_eq_zero hd), by omega, by omega⟩, .inr (by omega)⟩
    · right
      refine ⟨by omega, ?_, by omega, by omega⟩
      rw [Int.tdiv_eq_ediv, if_neg, Int.sign_eq_one_of_pos (by omega)]
      rintro (h | h)
      · exact ha h
      · exact hd (Int.emod_eq_zero_of_dvd h)

noncomputable def cFlU : Ctr := fun ss => match ss with
  | [.agg [.d (.x (.int .i64 a)), .d (.x (.int .i64 b))]] => .need (VF a b) (.ret (iv (a / b)))
  | _ => .fail
noncomputable def cCeU : Ctr := fun ss => match ss with
  | [.agg [.d (.x (.int .i64 a)), .d (.x (.int .i64 b))]] => .need (VF a b) (.ret (iv (-(-a / b))))
  | _ => .fail
theorem ediv_bound {a b : Int} (hb : 1 ≤ b) (ha : a.natAbs ≤ 4611686018427387904) : -4611686018427387904 ≤ a / b ∧ a / b ≤ 4611686018427387904 := by
  constructor
  · have : (-4611686018427387904 : Int) ≤ a / b := by
      rw [Int.le_ediv_iff_mul_le (by omega)]
      have : (4611686018427387904 : Int) ≤ 4611686018427387904 * b := by omega
      omega
    exact this
  · have : a / b < 4611686018427387905 := Int.ediv_lt_of_lt_mul (by omega) (by omega)
    omega
theorem cFlU_ok : CtrOK Tryz.prog 20 cFlU := by
  refine ctrOK_leS C0_ok D0_ok (by kernel_rfl) (by kernel_rfl) fun ss r h => ?_
  unfold cFlU at h
  split at h
  · rename_i a b
    obtain ⟨h1, rfl⟩ := h
    refine ⟨[.agg [iv a, iv b]], 200, .nil, by simp [leSVs, leSV, iv, leD], Sat.of_eq (LFlU_eq a b) ⟨?_⟩⟩
    unfold LFlU
    have hp := h1.low.pos
    have hn := h1.n
    have hd := h1.d
    obtain ⟨b1, b2⟩ := ediv_bound hp hn
    refine ⟨by omega, ?_⟩
    rcases tdiv_cases (a := a) hp with ⟨⟨e1, e2, e3⟩, e4⟩ | ⟨e0, e1, e2, e3⟩
    · rw [e1, w64_of (n := a / b) (by omega) (by omega), w64_of (n := a / b * b) (by omega) (by omega), w64_of (n := a / b - 1) (by omega) (by omega)]
      refine ⟨fun h => ?_, fun h => rfl⟩
      have h := of_decide_eq_true h
      omega
    · have e5 : (a / b + 1) * b = a / b * b + b := by rw [Int.add_mul, Int.one_mul]
      rw [e1, w64_of (n := a / b + 1) (by omega) (by omega), w64_of (n := (a / b + 1) * b) (by omega) (by omega), w64_of (n := a / b + 1 - 1) (by omega) (by omega)]
      refine ⟨fun h => ?_, fun h => ?_⟩
      · rw [show a / b + 1 - 1 = a / b by omega]; exact rfl
      · have h := of_decide_eq_false h
        omega
  · exact h.elim
theorem ceil_cases {a b : Int} (hb : 1 ≤ b) : -(-a / b) = if a / b * b = a then a / b else a / b + 1 := by
  have h1 := Int.emod_add_mul_ediv a b
  have h2 := Int.emod_nonneg a (show b ≠ 0 by omega)
  have h3 := Int.emod_lt_of_pos a (show 0 < b by omega)
  have h4 : a / b * b = a - a % b := by rw [Int.mul_comm]; omega
  have key : ∀ k : Int, k * b < a + b → a ≤ k * b → -(-a / b) = k := by
    intro k k1 k2
    have e : (-k) * b = -(k * b) := by rw [Int.neg_mul]
    have u1 : -a / b < -k + 1 := Int.ediv_lt_of_lt_mul (by omega) (by rw [Int.add_mul, e]; omega)
    have u2 : -k ≤ -a / b := (Int.le_ediv_iff_mul_le (by omega)).2 (by rw [e]; omega)
    omega
  split
  · exact key _ (by omega) (by omega)
  · exact key _ (by rw [Int.add_mul]; omega) (by rw [Int.add_mul]; omega)
theorem cCeU_ok : CtrOK Tryz.prog 22 cCeU := by
  refine ctrOK_leS C0_ok D0_ok (by kernel_rfl) (by kernel_rfl) fun ss r h => ?_
  unfold cCeU at h
  split at h
  · rename_i a b
    obtain ⟨h1, rfl⟩ := h
    refine ⟨[.agg [iv a, iv b]], 200, .nil, by simp [leSVs, leSV, iv, leD], Sat.of_eq (LCeU_eq a b) ⟨?_⟩⟩
    unfold LCeU
    have hp := h1.low.pos
    have hn := h1.n
    have hd := h1.d
    obtain ⟨b1, b2⟩ := ediv_bound hp hn
    rw [ceil_cases hp]
    refine ⟨by omega, ?_⟩
    rcases tdiv_cases (a := a) hp with ⟨⟨e1, e2, e3⟩, e4⟩ | ⟨e0, e1, e2, e3⟩
    · rw [e1, w64_of (n := a / b) (by omega) (by omega), w64_of (n := a / b * b) (by omega) (by omega), w64_of (n := a / b + 1) (by omega) (by omega)]
      refine ⟨fun h => ?_, fun h => ?_⟩
      · have h := of_decide_eq_true h
        rw [if_neg (by omega)]; exact rfl
      · have h := of_decide_eq_false h
        rw [if_pos (by omega)]; exact rfl
    · have e5 : (a / b + 1) * b = a / b * b + b := by rw [Int.add_mul, Int.one_mul]
      rw [e1, w64_of (n := a / b + 1) (by omega) (by omega), w64_of (n := (a / b + 1) * b) (by omega) (by omega)]
      refine ⟨fun h => ?_, fun h => ?_⟩
      · have h := of_decide_eq_true h
        omega
      · rw [if_neg (by omega)]; exact rfl
  · exact h.elim

noncomputable def cMst : Ctr := fun ss => match ss with
  | [] => .ret (iv 4611686018427387904)
  | _ => .fail
theorem cMst_ok : CtrOK Tryz.prog 30 cMst := by
  refine ctrOK_leS C0_ok D0_ok (by kernel_rfl) (by kernel_rfl) fun ss r h => ?_
  unfold cMst at h
  split at h
  · obtain rfl := h
    exact ⟨[], 200, .nil, by simp [leSVs], Sat.of_eq LMst_eq ⟨rfl⟩⟩
  · exact h.elim

end Go.Proofs.YtmdbfhkineaheaaGreatDoor

namespace Go.Proofs
open Go.Shelf
def Tryz.laysM171_ren : Go.Shelf.Ren := ⟨fun | 171 => 51 | 243 => 68 | 246 => 74 | 283 => 79 | 284 => 80 | 285 => 81 | 286 => 82 | 129 => 89 | 317 => 90 | 318 => 91 | 319 => 92 | 320 => 93 | 337 => 101 | 338 => 102 | n => n, fun | 3 => 3 | 9 => 9 | 2 => 2 | 4 => 4 | 171 => 90 | 0 => 0 | 53 => 44 | 37 => 92 | 5 => 5 | 173 => 93 | 212 => 103 | 51 => 104 | 20 => 20 | 213 => 105 | 46 => 86 | 232 => 124 | 233 => 125 | n => n, fun | 17 => 2 | 18 => 6 | 19 => 7 | n => n⟩
theorem Tryz.laysM171 : Go.Proofs.LaysM.n171 Tryz.prog Tryz.laysM171_ren := {
  mixed := by kernel_rfl
  f129 := Tryz.func89.trans (congrArg some (by kernel_rfl))
  f171 := Tryz.func51.trans (congrArg some (by kernel_rfl))
  f243 := Tryz.func68.trans (congrArg some (by kernel_rfl))
  f246 := Tryz.func74.trans (congrArg some (by kernel_rfl))
  f283 := Tryz.func79.trans (congrArg some (by kernel_rfl))
  f284 := Tryz.func80.trans (congrArg some (by kernel_rfl))
  f285 := Tryz.func81.trans (congrArg some (by kernel_rfl))
  f286 := Tryz.func82.trans (congrArg some (by kernel_rfl))
  f317 := Tryz.func90.trans (congrArg some (by kernel_rfl))
  f318 := Tryz.func91.trans (congrArg some (by kernel_rfl))
  f319 := Tryz.func92.trans (congrArg some (by kernel_rfl))
  f320 := Tryz.func93.trans (congrArg some (by kernel_rfl))
  f337 := Tryz.func101.trans (congrArg some (by kernel_rfl))
  f338 := Tryz.func102.trans (congrArg some (by kernel_rfl))
  t0 := Tryz.underlying0
  a0 := Tryz.isAgg0
  z0 := Tryz.sizeOf0
  v0 := Tryz.zeroValue0
  t2 := Tryz.underlying2
  a2 := Tryz.isAgg2
  z2 := Tryz.sizeOf2
  v2 := Tryz.zeroValue2
  t3 := Tryz.underlying3
  a3 := Tryz.isAgg3
  z3 := Tryz.sizeOf3
  v3 := Tryz.zeroValue3
  t4 := Tryz.underlying4
  a4 := Tryz.isAgg4
  z4 := Tryz.sizeOf4
  v4 := Tryz.zeroValue4
  t5 := Tryz.underlying5
  a5 := Tryz.isAgg5
  z5 := Tryz.sizeOf5
  v5 := Tryz.zeroValue5
  t9 := Tryz.underlying9
  a9 := Tryz.isAgg9
  z9 := Tryz.sizeOf9
  v9 := Tryz.zeroValue9
  t20 := Tryz.underlying20
  a20 := Tryz.isAgg20
  z20 := Tryz.sizeOf20
  v20 := Tryz.zeroValue20
  t37 := Tryz.underlying92
  a37 := Tryz.isAgg92
  z37 := Tryz.sizeOf92
  v37 := Tryz.zeroValue92
  t46 := Tryz.underlying86
  a46 := Tryz.isAgg86
  z46 := Tryz.sizeOf86
  v46 := Tryz.zeroValue86
  t51 := Tryz.underlying104
  a51 := Tryz.isAgg104
  z51 := Tryz.sizeOf104
  v51 := Tryz.zeroValue104
  t53 := Tryz.underlying44
  a53 := Tryz.isAgg44
  z53 := Tryz.sizeOf44
  v53 := Tryz.zeroValue44
  t171 := Tryz.underlying90
  a171 := Tryz.isAgg90
  z171 := Tryz.sizeOf90
  v171 := Tryz.zeroValue90
  t173 := Tryz.underlying93
  a173 := Tryz.isAgg93
  z173 := Tryz.sizeOf93
  v173 := Tryz.zeroValue93
  t212 := Tryz.underlying103
  a212 := Tryz.isAgg103
  z212 := Tryz.sizeOf103
  v212 := Tryz.zeroValue103
  t213 := Tryz.underlying105
  a213 := Tryz.isAgg105
  z213 := Tryz.sizeOf105
  t232 := Tryz.underlying124
  a232 := Tryz.isAgg124
  z232 := Tryz.sizeOf124
  v232 := Tryz.zeroValue124
  t233 := Tryz.underlying125
  a233 := Tryz.isAgg125
  z233 := Tryz.sizeOf125
  v233 := Tryz.zeroValue125
  g17 := by kernel_rfl
  g18 := by kernel_rfl
  g19 := by kernel_rfl
  i0 := by kernel_rfl
  i2 := by kernel_rfl
  i3 := by kernel_rfl
  i4 := by kernel_rfl
  i5 := by kernel_rfl
  i9 := by kernel_rfl
  i20 := by kernel_rfl
  i37 := by kernel_rfl
  i46 := by kernel_rfl
  i51 := by kernel_rfl
  i53 := by kernel_rfl
  i171 := by kernel_rfl
  i173 := by kernel_rfl
  i212 := by kernel_rfl
  i232 := by kernel_rfl
  i233 := by kernel_rfl
  m17 := by kernel_rfl
  m18 := by kernel_rfl
  m19 := by kernel_rfl }
open Go.RowKit Go.Sort Go.Lib in
/-- strconv.Itoa: "Itoa is equivalent to FormatInt(int64(i), 10).": i's DECIMAL NUMERAL ('Lib.itoa': a '-' where i is negative, then the digits), FOR EVERY int. The world behind the call: the world before it, new blocks behind the heap (the library's 'var a [24]byte'), draws. (LAID: no walk: one application.) -/
theorem Tryz.strconv_Itoa (n : Int) (h0 : -9223372036854775808 ≤ n) (h1 : n ≤ 9223372036854775807) (w : World) (htab : Lib.TabIs Tryz.prog w "internal/strconv.uint64pow10" .u64 Lib.pow10Tab) :
    Calls Tryz.prog 51 #[.int .i64 n] w fun e w' => e = .returned (.string ⟨(Lib.itoa n).toArray⟩) ∧ ∃ k os, w' = grow (w.drewN k) os := Any.strconv_Itoa Tryz.laysM171 n h0 h1 w htab
def Tryz.laysC172_ren : Go.Shelf.Ren := ⟨fun | 172 => 70 | 244 => 76 | 245 => 77 | 247 => 84 | 279 => 85 | 280 => 86 | 281 => 87 | 282 => 88 | 287 => 98 | 316 => 99 | 171 => 51 | 205 => 100 | 321 => 105 | 322 => 106 | 243 => 68 | 246 => 74 | 283 => 79 | 284 => 80 | 285 => 81 | 286 => 82 | 129 => 89 | 317 => 90 | 318 => 91 | 319 => 92 | 320 => 93 | 337 => 101 | 338 => 102 | n => n, fun | 9 => 9 | 3 => 3 | 75 => 81 | 76 => 82 | 4 => 4 | 5 => 5 | 167 => 96 | 37 => 92 | 0 => 0 | 85 => 97 | 2 => 2 | 168 => 99 | 53 => 44 | 175 => 109 | 46 => 86 | 210 => 113 | 127 => 120 | 145 => 123 | 143 => 121 | 21 => 21 | 171 => 90 | 173 => 93 | 212 => 103 | 51 => 104 | 20 => 20 | 213 => 105 | 232 => 124 | 233 => 125 | 80 => 126 | n => n, fun | 15 => 4 | 16 => 5 | 17 => 2 | 18 => 6 | 19 => 7 | n => n⟩
theorem Tryz.laysC172 : Go.Proofs.LaysC.n172 Tryz.prog Tryz.laysC172_ren := {
  mixed := by kernel_rfl
  f129 := Tryz.func89.trans (congrArg some (by kernel_rfl))
  f171 := Tryz.func51.trans (congrArg some (by kernel_rfl))
  f172 := Tryz.func70.trans (congrArg some (by kernel_rfl))
  f205 := Tryz.func100.trans (congrArg some (by kernel_rfl))
  f243 := Tryz.func68.trans (congrArg some (by kernel_rfl))
  f244 := Tryz.func76.trans (congrArg some (by kernel_rfl))
  f245 := Tryz.func77.trans (congrArg some (by kernel_rfl))
  f246 := Tryz.func74.trans (congrArg some (by kernel_rfl))
  f247 := Tryz.func84.trans (congrArg some (by kernel_rfl))
  f279 := Tryz.func85.trans (congrArg some (by kernel_rfl))
  f280 := Tryz.func86.trans (congrArg some (by kernel_rfl))
  f281 := Tryz.func87.trans (congrArg some (by kernel_rfl))
  f282 := Tryz.func88.trans (congrArg some (by kernel_rfl))
  f283 := Tryz.func79.trans (congrArg some (by kernel_rfl))
  f284 := Tryz.func80.trans (congrArg some (by kernel_rfl))
  f285 := Tryz.func81.trans (congrArg some (by kernel_rfl))
  f286 := Tryz.func82.trans (congrArg some (by kernel_rfl))
  f287 := Tryz.func98.trans (congrArg some (by kernel_rfl))
  f316 := Tryz.func99.trans (congrArg some (by kernel_rfl))
  f317 := Tryz.func90.trans (congrArg some (by kernel_rfl))
  f318 := Tryz.func91.trans (congrArg some (by kernel_rfl))
  f319 := Tryz.func92.trans (congrArg some (by kernel_rfl))
  f320 := Tryz.func93.trans (congrArg some (by kernel_rfl))
  f321 := Tryz.func105.trans (congrArg some (by kernel_rfl))
  f322 := Tryz.func106.trans (congrArg some (by kernel_rfl))
  f337 := Tryz.func101.trans (congrArg some (by kernel_rfl))
  f338 := Tryz.func102.trans (congrArg some (by kernel_rfl))
  t0 := Tryz.underlying0
  a0 := Tryz.isAgg0
  z0 := Tryz.sizeOf0
  v0 := Tryz.zeroValue0
  t2 := Tryz.underlying2
  a2 := Tryz.isAgg2
  z2 := Tryz.sizeOf2
  v2 := Tryz.zeroValue2
  t3 := Tryz.underlying3
  a3 := Tryz.isAgg3
  z3 := Tryz.sizeOf3
  v3 := Tryz.zeroValue3
  t4 := Tryz.underlying4
  a4 := Tryz.isAgg4
  z4 := Tryz.sizeOf4
  v4 := Tryz.zeroValue4
  t5 := Tryz.underlying5
  a5 := Tryz.isAgg5
  z5 := Tryz.sizeOf5
  v5 := Tryz.zeroValue5
  t9 := Tryz.underlying9
  a9 := Tryz.isAgg9
  z9 := Tryz.sizeOf9
  v9 := Tryz.zeroValue9
  t20 := Tryz.underlying20
  a20 := Tryz.isAgg20
  z20 := Tryz.sizeOf20
  v20 := Tryz.zeroValue20
  t21 := Tryz.underlying21
  a21 := Tryz.isAgg21
  z21 := Tryz.sizeOf21
  v21 := Tryz.zeroValue21
  t37 := Tryz.underlying92
  a37 := Tryz.isAgg92
  z37 := Tryz.sizeOf92
  v37 := Tryz.zeroValue92
  t46 := Tryz.underlying86
  a46 := Tryz.isAgg86
  z46 := Tryz.sizeOf86
  v46 := Tryz.zeroValue86
  t51 := Tryz.underlying104
  a51 := Tryz.isAgg104
  z51 := Tryz.sizeOf104
  v51 := Tryz.zeroValue104
  t53 := Tryz.underlying44
  a53 := Tryz.isAgg44
  z53 := Tryz.sizeOf44
  v53 := Tryz.zeroValue44
  t75 := Tryz.underlying81
  a75 := Tryz.isAgg81
  z75 := Tryz.sizeOf81
  v75 := Tryz.zeroValue81
  t76 := Tryz.underlying82
  a76 := Tryz.isAgg82
  z76 := Tryz.sizeOf82
  v76 := Tryz.zeroValue82
  t85 := Tryz.underlying97
  a85 := Tryz.isAgg97
  z85 := Tryz.sizeOf97
  v85 := Tryz.zeroValue97
  t127 := Tryz.underlying120
  a127 := Tryz.isAgg120
  z127 := Tryz.sizeOf120
  v127 := Tryz.zeroValue120
  t143 := Tryz.underlying121
  a143 := Tryz.isAgg121
  z143 := Tryz.sizeOf121
  v143 := Tryz.zeroValue121
  t145 := Tryz.underlying123
  a145 := Tryz.isAgg123
  z145 := Tryz.sizeOf123
  v145 := Tryz.zeroValue123
  t167 := Tryz.underlying96
  a167 := Tryz.isAgg96
  z167 := Tryz.sizeOf96
  v167 := Tryz.zeroValue96
  t168 := Tryz.underlying99
  a168 := Tryz.isAgg99
  z168 := Tryz.sizeOf99
  v168 := Tryz.zeroValue99
  t171 := Tryz.underlying90
  a171 := Tryz.isAgg90
  z171 := Tryz.sizeOf90
  v171 := Tryz.zeroValue90
  t173 := Tryz.underlying93
  a173 := Tryz.isAgg93
  z173 := Tryz.sizeOf93
  v173 := Tryz.zeroValue93
  t175 := Tryz.underlying109
  a175 := Tryz.isAgg109
  z175 := Tryz.sizeOf109
  v175 := Tryz.zeroValue109
  t210 := Tryz.underlying113
  a210 := Tryz.isAgg113
  z210 := Tryz.sizeOf113
  v210 := Tryz.zeroValue113
  t212 := Tryz.underlying103
  a212 := Tryz.isAgg103
  z212 := Tryz.sizeOf103
  v212 := Tryz.zeroValue103
  t213 := Tryz.underlying105
  a213 := Tryz.isAgg105
  z213 := Tryz.sizeOf105
  t232 := Tryz.underlying124
  a232 := Tryz.isAgg124
  z232 := Tryz.sizeOf124
  v232 := Tryz.zeroValue124
  t233 := Tryz.underlying125
  a233 := Tryz.isAgg125
  z233 := Tryz.sizeOf125
  v233 := Tryz.zeroValue125
  g15 := by kernel_rfl
  g16 := by kernel_rfl
  g17 := by kernel_rfl
  g18 := by kernel_rfl
  g19 := by kernel_rfl
  t80 := Tryz.underlying126
  a80 := Tryz.isAgg126
  z80 := Tryz.sizeOf126
  v80 := Tryz.zeroValue126
  i0 := by kernel_rfl
  i2 := by kernel_rfl
  i3 := by kernel_rfl
  i4 := by kernel_rfl
  i5 := by kernel_rfl
  i9 := by kernel_rfl
  i20 := by kernel_rfl
  i21 := by kernel_rfl
  i37 := by kernel_rfl
  i46 := by kernel_rfl
  i51 := by kernel_rfl
  i53 := by kernel_rfl
  i75 := by kernel_rfl
  i76 := by kernel_rfl
  i80 := by kernel_rfl
  i85 := by kernel_rfl
  i127 := by kernel_rfl
  i143 := by kernel_rfl
  i145 := by kernel_rfl
  i167 := by kernel_rfl
  i168 := by kernel_rfl
  i171 := by kernel_rfl
  i173 := by kernel_rfl
  i175 := by kernel_rfl
  i210 := by kernel_rfl
  i212 := by kernel_rfl
  i232 := by kernel_rfl
  i233 := by kernel_rfl
  m15 := by kernel_rfl
  m16 := by kernel_rfl
  m17 := by kernel_rfl
  m18 := by kernel_rfl
  m19 := by kernel_rfl
  c0 := by kernel_rfl
  c2 := by kernel_rfl
  c3 := by kernel_rfl
  c4 := by kernel_rfl
  c5 := by kernel_rfl
  c9 := by kernel_rfl
  c20 := by kernel_rfl
  c21 := by kernel_rfl
  c37 := by kernel_rfl
  c46 := by kernel_rfl
  c51 := by kernel_rfl
  c53 := by kernel_rfl
  c75 := by kernel_rfl
  c76 := by kernel_rfl
  c80 := by kernel_rfl
  c85 := by kernel_rfl
  c127 := by kernel_rfl
  c143 := by kernel_rfl
  c145 := by kernel_rfl
  c167 := by kernel_rfl
  c168 := by kernel_rfl
  c171 := by kernel_rfl
  c173 := by kernel_rfl
  c175 := by kernel_rfl
  c210 := by kernel_rfl
  c212 := by kernel_rfl
  c213 := by kernel_rfl
  c232 := by kernel_rfl
  c233 := by kernel_rfl }
open Go.RowKit in
/-- strconv.Atoi, AT EVERY STRING THAT SPELLS AN int ('Lib.atoiAll .. = .ok v'; of whatever length: leading zeros count): v, AND NO ERROR. The world: as it was, or with the one new row that '[]byte(..)' lays. (LAID: no walk: one application.) -/
theorem Tryz.strconv_Atoi_ok (s : ByteArray) (hmax : s.size ≤ 9223372036854775806) (v : Int) (h : Lib.atoiAll s.data.toList = .ok v) (w : World) :
    Calls Tryz.prog 70 #[.string s] w fun e w' => e = .returned (.tuple #[.int .i64 v, .nilIface]) ∧ (w' = w ∨ ∃ t, w' = Lib.bytesWorld w 5 t) := Any.strconv_Atoi_ok Tryz.laysC172 s hmax v h w
open Go.RowKit in
/-- strconv.Atoi, AT EVERY NUMERAL THAT NO int HOLDS ('.range'): THE GREATEST OR THE LEAST int, BY THE SIGN ('Lib.atoiSat'), AND AN ERROR THAT IS NOT nil: a *NumError in a new block N: {Func: "Atoi", Num: s's bytes, Err: what the variable ErrRange holds}. Of what was there nothing has turned. (LAID: no walk: one application.) -/
theorem Tryz.strconv_Atoi_range (s : ByteArray) (hlim : s.size ≤ 281474976710656) (h : Lib.atoiAll s.data.toList = .range) (ev : Value) (w : World) (hv : w.cell? ⟨5, 0, none⟩ = some ev) (hev : ev = .nilIface ∨ ∃ te pe, ev = .iface te pe) :
    Calls Tryz.prog 70 #[.string s] w fun e w' => ∃ N, e = .returned (.tuple #[.int .i64 (Lib.atoiSat s.data.toList), .iface 99 (.pointer (some ⟨N, 0, none⟩))]) ∧ w.heap.size ≤ N ∧ w'.heap[N]? = some (.cells #[.string ⟨#[65, 116, 111, 105]⟩, .string s, ev] 113 (0, 0)) ∧ Below w.heap.size w w' := Any.strconv_Atoi_range Tryz.laysC172 s hlim h ev w hv hev
def Tryz.lays145_ren : Go.Shelf.Ren := ⟨fun | 145 => 69 | 220 => 75 | 219 => 83 | 217 => 94 | 225 => 95 | 224 => 96 | 267 => 97 | 266 => 103 | 314 => 104 | n => n, fun | 9 => 9 | 4 => 4 | 59 => 78 | 3 => 3 | 5 => 5 | 46 => 86 | 146 => 116 | 51 => 104 | n => n, fun | 1 => 3 | n => n⟩
theorem Tryz.lays145 : Go.Proofs.Lays.n145 Tryz.prog Tryz.lays145_ren := {
  mixed := by kernel_rfl
  f145 := Tryz.func69.trans (congrArg some (by kernel_rfl))
  f217 := Tryz.func94.trans (congrArg some (by kernel_rfl))
  f219 := Tryz.func83.trans (congrArg some (by kernel_rfl))
  f220 := Tryz.func75.trans (congrArg some (by kernel_rfl))
  f224 := Tryz.func96.trans (congrArg some (by kernel_rfl))
  f225 := Tryz.func95.trans (congrArg some (by kernel_rfl))
  f266 := Tryz.func103.trans (congrArg some (by kernel_rfl))
  f267 := Tryz.func97.trans (congrArg some (by kernel_rfl))
  f314 := Tryz.func104.trans (congrArg some (by kernel_rfl))
  t3 := Tryz.underlying3
  a3 := Tryz.isAgg3
  z3 := Tryz.sizeOf3
  v3 := Tryz.zeroValue3
  t4 := Tryz.underlying4
  a4 := Tryz.isAgg4
  z4 := Tryz.sizeOf4
  v4 := Tryz.zeroValue4
  t5 := Tryz.underlying5
  a5 := Tryz.isAgg5
  z5 := Tryz.sizeOf5
  v5 := Tryz.zeroValue5
  t9 := Tryz.underlying9
  a9 := Tryz.isAgg9
  z9 := Tryz.sizeOf9
  v9 := Tryz.zeroValue9
  t46 := Tryz.underlying86
  a46 := Tryz.isAgg86
  z46 := Tryz.sizeOf86
  v46 := Tryz.zeroValue86
  t51 := Tryz.underlying104
  a51 := Tryz.isAgg104
  z51 := Tryz.sizeOf104
  v51 := Tryz.zeroValue104
  t59 := Tryz.underlying78
  a59 := Tryz.isAgg78
  z59 := Tryz.sizeOf78
  v59 := Tryz.zeroValue78
  t146 := Tryz.underlying116
  a146 := Tryz.isAgg116
  z146 := Tryz.sizeOf116
  v146 := Tryz.zeroValue116
  g1 := by kernel_rfl }
open Go.RowKit Go.Lib in
/-- strings.Cut: "Cut slices s around the first instance of sep, returning the text before and after sep. The found result reports whether sep appears in s. If sep does not appear in s, cut returns s, "", false.": IT RETURNS 'Lib.cut s sep'; the world is as it was but for the count of draws. (LAID: no walk: one application.) -/
theorem Tryz.strings_Cut (s sep : ByteArray) (m : Int) (w : World) (hs : s.size < 4294967281) (hm : w.cell? ⟨3, 0, none⟩ = some (.int .i64 m)) :
    Calls Tryz.prog 69 #[.string s, .string sep] w fun e w' => e = .returned (.tuple #[.string ⟨(Lib.cut s.data.toList sep.data.toList).1.toArray⟩, .string ⟨(Lib.cut s.data.toList sep.data.toList).2.1.toArray⟩, .bool (Lib.cut s.data.toList sep.data.toList).2.2]) ∧ ∃ n, w' = w.drewN n := Any.strings_Cut Tryz.lays145 s sep m w hs hm
end Go.Proofs

namespace Go.Proofs.YtmdbfhkineaheaaGreatDoor
open Go.Sx Go.RowKit Go.Sort
set_option maxRecDepth 100000

/-! ### Texts of numbers, numbers of texts, a text cut in two -/

theorem below_grow (w : World) (k : Nat) (os : Array Obj) : Below w.heap.size w (grow (w.drewN k) os) :=
  ⟨rfl, rfl, rfl, by simp [grow, World.drewN], fun i hi => by
    have h1 : i < (w.heap).size := hi
    simp [grow, World.drewN, Array.getElem?_append, h1]⟩

noncomputable def cItoa : Ctr := fun ss => match ss with
  | [.d (.x (.int .i64 n))] => .need (-9223372036854775808 ≤ n ∧ n ≤ 9223372036854775807) (.ret (strV (Lib.itoa n)))
  | _ => .fail
theorem gTab : Tryz.prog.globalNamed "internal/strconv.uint64pow10" = some 2 := by kernel_rfl
theorem cItoa_ok : CtrOK Tryz.prog 51 cItoa := by
  refine ctrOK_calls fun ss vs w F r hF hgl hr h => ?_
  unfold cItoa at h
  split at h
  · rename_i n
    obtain ⟨⟨h0, h1⟩, rfl⟩ := h
    rw [repsX [.int .i64 n] hr]
    obtain ⟨_, e, fr, ho⟩ := hgl.one 2 (okTab Lib.pow10Tab) rfl
    have htab : Lib.TabIs Tryz.prog w "internal/strconv.uint64pow10" .u64 Lib.pow10Tab := by
      unfold Lib.TabIs World.var?
      rw [gTab]
      simp only [Option.bind_some, ho]
    refine (Tryz.strconv_Itoa n h0 h1 w htab).mono ?_
    rintro e' w' ⟨rfl, k, os, rfl⟩
    exact ⟨_, rfl, below_grow w k os, .d (.x _)⟩
  · exact h.elim

/-- What Atoi hands back. -/
noncomputable def atoiV (l : List UInt8) : Int := match Lib.atoiAll l with
  | .ok v => v
  | .range => Lib.atoiSat l
  | _ => 0
noncomputable def errV : SV := .ifc 99 (.rop 0 fun _ => .x undef)
noncomputable def atoiE (l : List UInt8) : SV := match Lib.atoiAll l with
  | .ok _ => .d (.x .nilIface)
  | _ => errV
noncomputable def cAtoi : Ctr := fun ss => match ss with
  | [.d (.x (.string s))] => .need (s.size ≤ 281474976710656) (.ret (.tup [iv (atoiV s.data.toList), atoiE s.data.toList]))
  | _ => .fail
theorem rep_err {w : World} {F : Nat → Prop} {v : Value} {t : TypeId} {N : Nat} (h : v = .iface t (.pointer (some ⟨N, 0, none⟩))) : Rep w emp F v (.ifc t (.rop 0 fun _ => .x undef)) := by
  subst h
  exact .ifc _ _ _ (.rop N 0 0 _ (fun _ => undef) (fun h => (h rfl).elim) (fun j hj => by omega) (fun j hj => by omega) (fun j hj => by omega))
theorem rep_tup2 {w : World} {F : Nat → Prop} {a b : Value} {x y : SV} (h1 : Rep w emp F a x) (h2 : Rep w emp F b y) : Rep w emp F (.tuple #[a, b]) (.tup [x, y]) := by
  refine .tup _ _ rfl fun i hi => ?_
  match i, hi with
  | 0, _ => exact h1
  | 1, _ => exact h2
theorem rep_tup3 {w : World} {F : Nat → Prop} {a b c : Value} {x y z : SV} (h1 : Rep w emp F a x) (h2 : Rep w emp F b y) (h3 : Rep w emp F c z) : Rep w emp F (.tuple #[a, b, c]) (.tup [x, y, z]) := by
  refine .tup _ _ rfl fun i hi => ?_
  match i, hi with
  | 0, _ => exact h1
  | 1, _ => exact h2
  | 2, _ => exact h3
theorem cAtoi_ok : CtrOK Tryz.prog 70 cAtoi := by
  refine ctrOK_calls fun ss vs w F r hF hgl hr h => ?_
  unfold cAtoi at h
  split at h
  · rename_i s
    obtain ⟨h0, rfl⟩ := h
    rw [repsX [.string s] hr]
    unfold atoiV atoiE
    rcases ha : Lib.atoiAll s.data.toList with v | _ | _
    · refine (Tryz.strconv_Atoi_ok s (by omega) v ha w).mono ?_
      rintro e w' ⟨rfl, hw⟩
      refine ⟨_, rfl, ?_, rep_tup2 (.d (.x _)) (.d (.x _))⟩
      rcases hw with rfl | ⟨t, rfl⟩
      · exact Below.refl _ _
      · exact Lib.bytesWorld_below _ _ _
    · obtain ⟨t, p, hc⟩ := okErr_cell (hgl.one 4 okErr rfl).2
      refine (Any.strconv_Atoi_syntax Tryz.laysC172 s h0 ha _ w hc (.inr ⟨t, p, rfl⟩)).mono ?_
      rintro e w' ⟨N, rfl, _, _, hb⟩
      exact ⟨_, rfl, hb, rep_tup2 (.d (.x _)) (rep_err rfl)⟩
    · obtain ⟨t, p, hc⟩ := okErr_cell (hgl.one 5 okErr rfl).2
      refine (Tryz.strconv_Atoi_range s h0 ha _ w hc (.inr ⟨t, p, rfl⟩)).mono ?_
      rintro e w' ⟨N, rfl, _, _, hb⟩
      exact ⟨_, rfl, hb, rep_tup2 (.d (.x _)) (rep_err rfl)⟩
  · exact h.elim

noncomputable def cCut : Ctr := fun ss => match ss with
  | [.d (.x (.string s)), .d (.x (.string t))] => .need (s.size < 4294967281) (.ret (.tup [strV (Lib.cut s.data.toList t.data.toList).1, strV (Lib.cut s.data.toList t.data.toList).2.1, bv (Lib.cut s.data.toList t.data.toList).2.2]))
  | _ => .fail
theorem cCut_ok : CtrOK Tryz.prog 69 cCut := by
  refine ctrOK_calls fun ss vs w F r hF hgl hr h => ?_
  unfold cCut at h
  split at h
  · rename_i s t
    obtain ⟨h0, rfl⟩ := h
    rw [repsX [.string s, .string t] hr]
    obtain ⟨m, hm⟩ := okInt_cell (hgl.one 3 okInt rfl).2
    refine (Tryz.strings_Cut s t m w h0 hm).mono ?_
    rintro e w' ⟨rfl, n, rfl⟩
    exact ⟨_, rfl, ⟨rfl, rfl, rfl, Nat.le_refl _, fun _ _ => rfl⟩, rep_tup3 (.d (.x _)) (.d (.x _)) (.d (.x _))⟩
  · exact h.elim

end Go.Proofs.YtmdbfhkineaheaaGreatDoor

namespace Go.Proofs.YtmdbfhkineaheaaGreatDoor
open Go.Sx
set_option maxRecDepth 100000

/-! ### Decimal digits, reckoned with a bound -/

def decF : Nat → Nat → List UInt8
  | 0, _ => [48]
  | f + 1, u => if u < 10 then [UInt8.ofNat (48 + u)] else decF f (u / 10) ++ [UInt8.ofNat (48 + u % 10)]
theorem decF_eq : ∀ (f u : Nat), u < 10 ^ f → decF f u = Lib.decDigits u
  | 0, u, h => by simp at h; subst h; rw [Lib.decDigits]; rfl
  | f + 1, u, h => by
    rw [Lib.decDigits]
    unfold decF
    by_cases h1 : u < 10
    · rw [if_pos h1, dif_pos h1]
    · rw [if_neg h1, dif_neg h1, decF_eq f (u / 10) (by rw [Nat.pow_succ] at h; omega)]
def itoaC (n : Int) : List UInt8 := if n < 0 then 45 :: decF 19 n.natAbs else decF 19 n.toNat
theorem itoaC_eq {n : Int} (h0 : -9223372036854775808 ≤ n) (h1 : n ≤ 9223372036854775807) : itoaC n = Lib.itoa n := by
  unfold itoaC Lib.itoa
  rw [decF_eq 19 n.natAbs (by have : (10 : Nat) ^ 19 = 10000000000000000000 := by decide
                              omega), decF_eq 19 n.toNat (by have : (10 : Nat) ^ 19 = 10000000000000000000 := by decide
                                                             omega)]
theorem itoaC_len {n : Int} (h0 : -9223372036854775808 ≤ n) (h1 : n ≤ 9223372036854775807) : (itoaC n).length ≤ 21 := by
  rw [itoaC_eq h0 h1]; exact Lib.itoa_length_le n h0 h1
noncomputable def cItoaC : Ctr := fun ss => match ss with
  | [.d (.x (.int .i64 n))] => .need (-9223372036854775808 ≤ n ∧ n ≤ 9223372036854775807) (.ret (strV (itoaC n)))
  | _ => .fail
theorem cItoaC_ok : CtrOK Tryz.prog 51 cItoaC := cItoa_ok.mono fun ss r h => by
  unfold cItoaC at h
  split at h
  · obtain ⟨⟨h0, h1⟩, rfl⟩ := h
    exact ⟨⟨h0, h1⟩, by rw [itoaC_eq h0 h1]; rfl⟩
  · exact h.elim

noncomputable def manT : FuncId → Option Ctr := fun k => match k with
  | 51 => some cItoaC
  | _ => none
theorem manT_ok (k : Nat) (c : Ctr) (h : manT k = some c) : CtrOK Tryz.prog k c ∧ goodF Tryz.prog k = true := by
  unfold manT at h
  split at h <;> first | (cases h; done) | (cases h)
  · exact ⟨cItoaC_ok, by kernel_rfl⟩
noncomputable def CT : Ctx := ctxN Tryz.prog manT (fun _ => false) 200 .nil 6
theorem CT_ok : CtxOK Tryz.prog CT := ctxN_ok mixed manT_ok 6
noncomputable def DT : Dr := fun _ => drawn Tryz.prog CT
theorem DT_ok : DrOK Tryz.prog CT DT := drawn_ok CT_ok mixed
noncomputable def TT (k : Nat) (args : List SV) : Tree SV := fnT Tryz.prog CT DT 200 (fnOf Tryz.prog k) (bodyOf Tryz.prog k) args .nil

noncomputable def LTx (a b : Int) : Tree SV :=
  .need ((-9223372036854775808 : Int) ≤ a ∧ a ≤ (9223372036854775807 : Int))
  (.ite (b != (1 : Int))
   (.need ((-9223372036854775808 : Int) ≤ b ∧ b ≤ (9223372036854775807 : Int))
   (.need (1 + ByteArray.size (strB (itoaC b)) ≤ 9223372036854775807)
   (.need (ByteArray.size (strB (itoaC a)) + ByteArray.size (strB [(47 : UInt8)] ++ strB (itoaC b)) ≤ 9223372036854775807)
   (.ret (SV.d (DV.x (.string (strB (itoaC a) ++ (strB [(47 : UInt8)] ++ strB (itoaC b))))))))))
   (.ret (SV.d (DV.x (.string (strB (itoaC a)))))))

theorem LTx_eq (a b : Int) : TT 24 [.agg [iv a, iv b]] = LTx a b := by kernel_rfl


/-- The text of a fraction. -/
def txtL (a b : Int) : List UInt8 := if b = 1 then itoaC a else itoaC a ++ 47 :: itoaC b
theorem strB_append (a b : List UInt8) : strB a ++ strB b = strB (a ++ b) := by
  unfold strB
  apply ByteArray.ext
  simp
theorem strB_size (a : List UInt8) : (strB a).size = a.length := by unfold strB; simp [ByteArray.size]
noncomputable def cText : Ctr := fun ss => match ss with
  | [.agg [.d (.x (.int .i64 a)), .d (.x (.int .i64 b))]] => .need (VF a b) (.ret (strV (txtL a b)))
  | _ => .fail
theorem cText_ok : CtrOK Tryz.prog 24 cText := by
  refine ctrOK_leS CT_ok DT_ok (by kernel_rfl) (by kernel_rfl) fun ss r h => ?_
  unfold cText at h
  split at h
  · rename_i a b
    obtain ⟨h1, rfl⟩ := h
    refine ⟨[.agg [iv a, iv b]], 200, .nil, by simp [leSVs, leSV, iv, leD], Sat.of_eq (LTx_eq a b) ⟨?_⟩⟩
    unfold LTx
    have hn := h1.n
    have hd := h1.d
    have hp := h1.low.pos
    have l1 := itoaC_len (n := a) (by omega) (by omega)
    have l2 := itoaC_len (n := b) (by omega) (by omega)
    refine ⟨⟨by omega, by omega⟩, fun h => ⟨⟨by omega, by omega⟩, ?_, ?_, ?_⟩, fun h => ?_⟩
    · rw [strB_size]; omega
    · rw [strB_append, strB_size, strB_size, List.length_append, List.length_singleton]; omega
    · have h : b ≠ 1 := by simpa using h
      rw [strB_append, strB_append]
      unfold txtL; rw [if_neg h]; exact rfl
    · have h : b = 1 := by simpa using h
      unfold txtL; rw [if_pos h]; exact rfl
  · exact h.elim

end Go.Proofs.YtmdbfhkineaheaaGreatDoor

namespace Go.Proofs.YtmdbfhkineaheaaGreatDoor
open Go.Sx
set_option maxRecDepth 100000

def atoiOK (l : List UInt8) : Bool := match Lib.atoiAll l with
  | .ok _ => true
  | _ => false
noncomputable def cAtoiI : Ctr := fun ss => match ss with
  | [.d (.x (.string s))] => .need (s.size ≤ 281474976710656) (.ite (atoiOK s.data.toList) (.ret (.tup [iv (atoiV s.data.toList), .d (.x .nilIface)])) (.ret (.tup [iv (atoiV s.data.toList), errV])))
  | _ => .fail
theorem cAtoiI_ok : CtrOK Tryz.prog 70 cAtoiI := cAtoi_ok.mono fun ss r h => by
  unfold cAtoiI at h
  split at h
  · rename_i s
    obtain ⟨h0, h⟩ := h
    refine ⟨h0, ?_⟩
    unfold atoiOK at h
    unfold atoiE
    rcases ha : Lib.atoiAll s.data.toList with v | _ | _
    · rw [ha] at h; rcases h with ⟨_, rfl⟩ | ⟨h, _⟩; exact rfl; cases h
    · rw [ha] at h; rcases h with ⟨h, _⟩ | ⟨_, rfl⟩; cases h; exact rfl
    · rw [ha] at h; rcases h with ⟨h, _⟩ | ⟨_, rfl⟩; cases h; exact rfl
  · exact h.elim

noncomputable def manP : FuncId → Option Ctr := fun k => match k with
  | 69 => some cCut
  | 70 => some cAtoiI
  | 7 => some cValU
  | 24 => some cText
  | _ => none
theorem manP_ok (k : Nat) (c : Ctr) (h : manP k = some c) : CtrOK Tryz.prog k c ∧ goodF Tryz.prog k = true := by
  unfold manP at h
  split at h <;> first | (cases h; done) | (cases h)
  · exact ⟨cCut_ok, by kernel_rfl⟩
  · exact ⟨cAtoiI_ok, by kernel_rfl⟩
  · exact ⟨cValU_ok, by kernel_rfl⟩
  · exact ⟨cText_ok, by kernel_rfl⟩
noncomputable def CP : Ctx := ctxN Tryz.prog manP (fun _ => false) 200 .nil 6
theorem CP_ok : CtxOK Tryz.prog CP := ctxN_ok mixed manP_ok 6
noncomputable def DP : Dr := fun _ => drawn Tryz.prog CP
theorem DP_ok : DrOK Tryz.prog CP DP := drawn_ok CP_ok mixed
noncomputable def TP (k : Nat) (args : List SV) : Tree SV := fnT Tryz.prog CP DP 200 (fnOf Tryz.prog k) (bodyOf Tryz.prog k) args .nil
noncomputable def LPa (s : List UInt8) : Tree SV :=
  .need (ByteArray.size (strB s) < 4294967281)
  (.need (ByteArray.size (strB (Prod.fst (Lib.cut (Array.toList (ByteArray.data (strB s))) [(47 : UInt8)]))) ≤ 281474976710656)
   (.ite (atoiOK (Array.toList (ByteArray.data (strB (Prod.fst (Lib.cut (Array.toList (ByteArray.data (strB s))) [(47 : UInt8)]))))))
   (.ite (Prod.snd (Prod.snd (Lib.cut (Array.toList (ByteArray.data (strB s))) [(47 : UInt8)])))
   (.need (ByteArray.size (strB (Prod.fst (Prod.snd (Lib.cut (Array.toList (ByteArray.data (strB s))) [(47 : UInt8)])))) ≤ 281474976710656)
   (.ite (atoiOK (Array.toList (ByteArray.data (strB (Prod.fst (Prod.snd (Lib.cut (Array.toList (ByteArray.data (strB s))) [(47 : UInt8)])))))))
   (.need
   ((!vB (atoiV (Array.toList (ByteArray.data (strB (Prod.fst (Lib.cut (Array.toList (ByteArray.data (strB s))) [(47 : UInt8)]))))))
   (atoiV (Array.toList (ByteArray.data (strB (Prod.fst (Prod.snd (Lib.cut (Array.toList (ByteArray.data (strB s))) [(47 : UInt8)])))))))) =
   false →
   VF (atoiV (Array.toList (ByteArray.data (strB (Prod.fst (Lib.cut (Array.toList (ByteArray.data (strB s))) [(47 : UInt8)]))))))
   (atoiV (Array.toList (ByteArray.data (strB (Prod.fst (Prod.snd (Lib.cut (Array.toList (ByteArray.data (strB s))) [(47 : UInt8)]))))))))
   (.ite
   (!vB (atoiV (Array.toList (ByteArray.data (strB (Prod.fst (Lib.cut (Array.toList (ByteArray.data (strB s))) [(47 : UInt8)]))))))
   (atoiV (Array.toList (ByteArray.data (strB (Prod.fst (Prod.snd (Lib.cut (Array.toList (ByteArray.data (strB s))) [(47 : UInt8)]))))))) ||
   !strEq
   (strB
   (txtL (atoiV (Array.toList (ByteArray.data (strB (Prod.fst (Lib.cut (Array.toList (ByteArray.data (strB s))) [(47 : UInt8)]))))))
   (atoiV (Array.toList (ByteArray.data (strB (Prod.fst (Prod.snd (Lib.cut (Array.toList (ByteArray.data (strB s))) [(47 : UInt8)])))))))))
   (strB s))
   (.ret (SV.tup [SV.agg [iv (0 : Int), iv (0 : Int)], iv (5 : Int)]))
   (.ret
   (SV.tup
   [SV.agg
   [iv (atoiV (Array.toList (ByteArray.data (strB (Prod.fst (Lib.cut (Array.toList (ByteArray.data (strB s))) [(47 : UInt8)])))))),
   iv (atoiV (Array.toList (ByteArray.data (strB (Prod.fst (Prod.snd (Lib.cut (Array.toList (ByteArray.data (strB s))) [(47 : UInt8)])))))))],
   iv (0 : Int)]))))
   (.need
   ((!vB (atoiV (Array.toList (ByteArray.data (strB (Prod.fst (Lib.cut (Array.toList (ByteArray.data (strB s))) [(47 : UInt8)]))))))
   (atoiV (Array.toList (ByteArray.data (strB (Prod.fst (Prod.snd (Lib.cut (Array.toList (ByteArray.data (strB s))) [(47 : UInt8)])))))))) =
   false →
   VF (atoiV (Array.toList (ByteArray.data (strB (Prod.fst (Lib.cut (Array.toList (ByteArray.data (strB s))) [(47 : UInt8)]))))))
   (atoiV (Array.toList (ByteArray.data (strB (Prod.fst (Prod.snd (Lib.cut (Array.toList (ByteArray.data (strB s))) [(47 : UInt8)]))))))))
   (.ite
   (!vB (atoiV (Array.toList (ByteArray.data (strB (Prod.fst (Lib.cut (Array.toList (ByteArray.data (strB s))) [(47 : UInt8)]))))))
   (atoiV (Array.toList (ByteArray.data (strB (Prod.fst (Prod.snd (Lib.cut (Array.toList (ByteArray.data (strB s))) [(47 : UInt8)]))))))) ||
   !strEq
   (strB
   (txtL (atoiV (Array.toList (ByteArray.data (strB (Prod.fst (Lib.cut (Array.toList (ByteArray.data (strB s))) [(47 : UInt8)]))))))
   (atoiV (Array.toList (ByteArray.data (strB (Prod.fst (Prod.snd (Lib.cut (Array.toList (ByteArray.data (strB s))) [(47 : UInt8)])))))))))
   (strB s))
   (.ret (SV.tup [SV.agg [iv (0 : Int), iv (0 : Int)], iv (5 : Int)]))
   (.ret
   (SV.tup
   [SV.agg
   [iv (atoiV (Array.toList (ByteArray.data (strB (Prod.fst (Lib.cut (Array.toList (ByteArray.data (strB s))) [(47 : UInt8)])))))),
   iv (atoiV (Array.toList (ByteArray.data (strB (Prod.fst (Prod.snd (Lib.cut (Array.toList (ByteArray.data (strB s))) [(47 : UInt8)])))))))],
   iv (0 : Int)]))))))
   (.need
   ((!vB (atoiV (Array.toList (ByteArray.data (strB (Prod.fst (Lib.cut (Array.toList (ByteArray.data (strB s))) [(47 : UInt8)])))))) (1 : Int)) = false →
   VF (atoiV (Array.toList (ByteArray.data (strB (Prod.fst (Lib.cut (Array.toList (ByteArray.data (strB s))) [(47 : UInt8)])))))) (1 : Int))
   (.ite
   (!vB (atoiV (Array.toList (ByteArray.data (strB (Prod.fst (Lib.cut (Array.toList (ByteArray.data (strB s))) [(47 : UInt8)])))))) (1 : Int) ||
   !strEq (strB (txtL (atoiV (Array.toList (ByteArray.data (strB (Prod.fst (Lib.cut (Array.toList (ByteArray.data (strB s))) [(47 : UInt8)])))))) (1 : Int))) (strB s))
   (.ret (SV.tup [SV.agg [iv (0 : Int), iv (0 : Int)], iv (5 : Int)]))
   (.ret (SV.tup [SV.agg [iv (atoiV (Array.toList (ByteArray.data (strB (Prod.fst (Lib.cut (Array.toList (ByteArray.data (strB s))) [(47 : UInt8)])))))), iv (1 : Int)], iv (0 : Int)])))))
   (.ite (Prod.snd (Prod.snd (Lib.cut (Array.toList (ByteArray.data (strB s))) [(47 : UInt8)])))
   (.need (ByteArray.size (strB (Prod.fst (Prod.snd (Lib.cut (Array.toList (ByteArray.data (strB s))) [(47 : UInt8)])))) ≤ 281474976710656)
   (.ite (atoiOK (Array.toList (ByteArray.data (strB (Prod.fst (Prod.snd (Lib.cut (Array.toList (ByteArray.data (strB s))) [(47 : UInt8)])))))))
   (.need
   ((!vB (atoiV (Array.toList (ByteArray.data (strB (Prod.fst (Lib.cut (Array.toList (ByteArray.data (strB s))) [(47 : UInt8)]))))))
   (atoiV (Array.toList (ByteArray.data (strB (Prod.fst (Prod.snd (Lib.cut (Array.toList (ByteArray.data (strB s))) [(47 : UInt8)])))))))) =
   false →
   VF (atoiV (Array.toList (ByteArray.data (strB (Prod.fst (Lib.cut (Array.toList (ByteArray.data (strB s))) [(47 : UInt8)]))))))
   (atoiV (Array.toList (ByteArray.data (strB (Prod.fst (Prod.snd (Lib.cut (Array.toList (ByteArray.data (strB s))) [(47 : UInt8)]))))))))
   (.ite
   (!vB (atoiV (Array.toList (ByteArray.data (strB (Prod.fst (Lib.cut (Array.toList (ByteArray.data (strB s))) [(47 : UInt8)]))))))
   (atoiV (Array.toList (ByteArray.data (strB (Prod.fst (Prod.snd (Lib.cut (Array.toList (ByteArray.data (strB s))) [(47 : UInt8)]))))))) ||
   !strEq
   (strB
   (txtL (atoiV (Array.toList (ByteArray.data (strB (Prod.fst (Lib.cut (Array.toList (ByteArray.data (strB s))) [(47 : UInt8)]))))))
   (atoiV (Array.toList (ByteArray.data (strB (Prod.fst (Prod.snd (Lib.cut (Array.toList (ByteArray.data (strB s))) [(47 : UInt8)])))))))))
   (strB s))
   (.ret (SV.tup [SV.agg [iv (0 : Int), iv (0 : Int)], iv (5 : Int)]))
   (.ret
   (SV.tup
   [SV.agg
   [iv (atoiV (Array.toList (ByteArray.data (strB (Prod.fst (Lib.cut (Array.toList (ByteArray.data (strB s))) [(47 : UInt8)])))))),
   iv (atoiV (Array.toList (ByteArray.data (strB (Prod.fst (Prod.snd (Lib.cut (Array.toList (ByteArray.data (strB s))) [(47 : UInt8)])))))))],
   iv (0 : Int)]))))
   (.need
   ((!vB (atoiV (Array.toList (ByteArray.data (strB (Prod.fst (Lib.cut (Array.toList (ByteArray.data (strB s))) [(47 : UInt8)]))))))
   (atoiV (Array.toList (ByteArray.data (strB (Prod.fst (Prod.snd (Lib.cut (Array.toList (ByteArray.data (strB s))) [(47 : UInt8)])))))))) =
   false →
   VF (atoiV (Array.toList (ByteArray.data (strB (Prod.fst (Lib.cut (Array.toList (ByteArray.data (strB s))) [(47 : UInt8)]))))))
   (atoiV (Array.toList (ByteArray.data (strB (Prod.fst (Prod.snd (Lib.cut (Array.toList (ByteArray.data (strB s))) [(47 : UInt8)]))))))))
   (.ite
   (!vB (atoiV (Array.toList (ByteArray.data (strB (Prod.fst (Lib.cut (Array.toList (ByteArray.data (strB s))) [(47 : UInt8)]))))))
   (atoiV (Array.toList (ByteArray.data (strB (Prod.fst (Prod.snd (Lib.cut (Array.toList (ByteArray.data (strB s))) [(47 : UInt8)]))))))) ||
   !strEq
   (strB
   (txtL (atoiV (Array.toList (ByteArray.data (strB (Prod.fst (Lib.cut (Array.toList (ByteArray.data (strB s))) [(47 : UInt8)]))))))
   (atoiV (Array.toList (ByteArray.data (strB (Prod.fst (Prod.snd (Lib.cut (Array.toList (ByteArray.data (strB s))) [(47 : UInt8)])))))))))
   (strB s))
   (.ret (SV.tup [SV.agg [iv (0 : Int), iv (0 : Int)], iv (5 : Int)]))
   (.ret
   (SV.tup
   [SV.agg
   [iv (atoiV (Array.toList (ByteArray.data (strB (Prod.fst (Lib.cut (Array.toList (ByteArray.data (strB s))) [(47 : UInt8)])))))),
   iv (atoiV (Array.toList (ByteArray.data (strB (Prod.fst (Prod.snd (Lib.cut (Array.toList (ByteArray.data (strB s))) [(47 : UInt8)])))))))],
   iv (0 : Int)]))))))
   (.need
   ((!vB (atoiV (Array.toList (ByteArray.data (strB (Prod.fst (Lib.cut (Array.toList (ByteArray.data (strB s))) [(47 : UInt8)])))))) (1 : Int)) = false →
   VF (atoiV (Array.toList (ByteArray.data (strB (Prod.fst (Lib.cut (Array.toList (ByteArray.data (strB s))) [(47 : UInt8)])))))) (1 : Int))
   (.ite
   (!vB (atoiV (Array.toList (ByteArray.data (strB (Prod.fst (Lib.cut (Array.toList (ByteArray.data (strB s))) [(47 : UInt8)])))))) (1 : Int) ||
   !strEq (strB (txtL (atoiV (Array.toList (ByteArray.data (strB (Prod.fst (Lib.cut (Array.toList (ByteArray.data (strB s))) [(47 : UInt8)])))))) (1 : Int))) (strB s))
   (.ret (SV.tup [SV.agg [iv (0 : Int), iv (0 : Int)], iv (5 : Int)]))
   (.ret (SV.tup [SV.agg [iv (atoiV (Array.toList (ByteArray.data (strB (Prod.fst (Lib.cut (Array.toList (ByteArray.data (strB s))) [(47 : UInt8)])))))), iv (1 : Int)], iv (0 : Int)])))))))

theorem LPa_eq (s : List UInt8) : TP 53 [strV s] = LPa s := by kernel_rfl


end Go.Proofs.YtmdbfhkineaheaaGreatDoor

namespace Go.Proofs.YtmdbfhkineaheaaGreatDoor
open Go.Sx
set_option maxRecDepth 100000

/-! ### Parse -/

theorem strB_list (l : List UInt8) : Array.toList (ByteArray.data (strB l)) = l := by unfold strB; rfl
theorem strB_of (s : ByteArray) : strB s.data.toList = s := by unfold strB; rfl
theorem strEq_list (a b : List UInt8) : strEq (strB a) (strB b) = (a == b) := by unfold strEq; rw [strB_list, strB_list]
noncomputable def pcN (s : List UInt8) : Int := atoiV (Lib.cut s [47]).1
noncomputable def pcD (s : List UInt8) : Int := if (Lib.cut s [47]).2.2 = true then atoiV (Lib.cut s [47]).2.1 else 1
noncomputable def txOK (n d : Int) (s : List UInt8) : Bool := vB n d && (txtL n d == s)
noncomputable def pcOK (s : List UInt8) : Bool := txOK (pcN s) (pcD s) s
theorem cut_len (s t : List UInt8) : (Lib.cut s t).1.length ≤ s.length ∧ (Lib.cut s t).2.1.length ≤ s.length := by
  unfold Lib.cut
  split
  · simp only [List.length_take, List.length_drop]; omega
  · simp
theorem vf_of {a b : Int} (h : vB a b = true) : VF a b := vB_iff.1 h

theorem pa_leaf (x y : Int) (s : List UInt8) : Tree.sat Tryz.prog (.need ((!vB x y) = false → VF x y) (.ite (!vB x y || !strEq (strB (txtL x y)) (strB s)) (.ret (SV.tup [SV.agg [iv (0 : Int), iv (0 : Int)], iv (5 : Int)])) (.ret (SV.tup [SV.agg [iv x, iv y], iv (0 : Int)]))))
    (· = .tup [.agg [iv (if txOK x y s = true then x else 0), iv (if txOK x y s = true then y else 0)], iv (if txOK x y s = true then 0 else 5)]) := by
  rw [strEq_list]
  refine ⟨fun h => vf_of (by simpa using h), fun h => ?_, fun h => ?_⟩
  · have : txOK x y s = false := by
      unfold txOK
      cases h1 : vB x y <;> simp_all
    rw [this]; exact rfl
  · have : txOK x y s = true := by
      unfold txOK
      cases h1 : vB x y <;> simp_all
    rw [this]; exact rfl

noncomputable def cParse : Ctr := fun ss => match ss with
  | [.d (.x (.string s))] => .need (s.size < 4294967281) (.ret (.tup [.agg [iv (if pcOK s.data.toList = true then pcN s.data.toList else 0), iv (if pcOK s.data.toList = true then pcD s.data.toList else 0)], iv (if pcOK s.data.toList = true then 0 else 5)]))
  | _ => .fail
theorem parse_sat {s : List UInt8} (hs : s.length < 4294967281) : Sat Tryz.prog (TP 53 [strV s]) (· = .tup [.agg [iv (if pcOK s = true then pcN s else 0), iv (if pcOK s = true then pcD s else 0)], iv (if pcOK s = true then 0 else 5)]) := by
  constructor
  rw [LPa_eq]; unfold LPa
  simp only [strB_list, strB_size]
  obtain ⟨c1, c2⟩ := cut_len s [47]
  have k1 : (Lib.cut s [47]).2.2 = true → pcD s = atoiV (Lib.cut s [47]).2.1 := fun h => if_pos h
  have k2 : (Lib.cut s [47]).2.2 = false → pcD s = 1 := fun h => if_neg (by rw [h]; simp)
  unfold pcOK
  refine ⟨hs, by omega, fun _ => ⟨fun h => ⟨by omega, fun _ => ?_, fun _ => ?_⟩, fun h => ?_⟩, fun _ => ⟨fun h => ⟨by omega, fun _ => ?_, fun _ => ?_⟩, fun h => ?_⟩⟩
  · rw [k1 h]; exact pa_leaf _ _ s
  · rw [k1 h]; exact pa_leaf _ _ s
  · rw [k2 h]; exact pa_leaf _ _ s
  · rw [k1 h]; exact pa_leaf _ _ s
  · rw [k1 h]; exact pa_leaf _ _ s
  · rw [k2 h]; exact pa_leaf _ _ s
theorem cParse_ok : CtrOK Tryz.prog 53 cParse := by
  refine ctrOK_leS CP_ok DP_ok (by kernel_rfl) (by kernel_rfl) fun ss r h => ?_
  unfold cParse at h
  split at h
  · rename_i s
    obtain ⟨h1, rfl⟩ := h
    refine ⟨[strV s.data.toList], 200, .nil, ?_, parse_sat (s := s.data.toList) ?_⟩
    · unfold strV
      rw [strB_of]
      simp [leSVs, leSV, leD]
    · have e : s.size = s.data.toList.length := (Array.length_toList).symm
      omega
  · exact h.elim

end Go.Proofs.YtmdbfhkineaheaaGreatDoor

namespace Go.Proofs.YtmdbfhkineaheaaGreatDoor
open Go.Sx
set_option maxRecDepth 100000

noncomputable def mN (n d : Int) : Int := (mdQ n d).num
noncomputable def mD (n d : Int) : Int := (mdQ n d).den
noncomputable def cMadeS : Ctr := fun ss => match ss with
  | [.d (.x (.int .i64 n)), .d (.x (.int .i64 d))] => .need (I64 n ∧ I64 d) (.ret (.agg [iv (mN n d), iv (mD n d)]))
  | _ => .fail
theorem cMadeS_ok : CtrOK Tryz.prog 9 cMadeS := cMadeG_ok

noncomputable def manL : FuncId → Option Ctr := fun k => match k with
  | 33 => some cMakeU
  | 39 => some cAddU
  | 46 => some cSubU
  | 47 => some cMulU
  | 48 => some cDivU
  | 18 => some cCmpU
  | 7 => some cValU
  | 20 => some cFlU
  | 22 => some cCeU
  | 26 => some cMin
  | 28 => some cMax
  | 24 => some cText
  | 53 => some cParse
  | 9 => some cMadeS
  | 30 => some cMst
  | 6 => some cMakeG
  | 8 => some cValR
  | _ => none
theorem manL_ok (k : Nat) (c : Ctr) (h : manL k = some c) : CtrOK Tryz.prog k c ∧ goodF Tryz.prog k = true := by
  unfold manL at h
  split at h <;> first | (cases h; done) | (cases h)
  · exact ⟨cMakeU_ok, by kernel_rfl⟩
  · exact ⟨cAddU_ok, by kernel_rfl⟩
  · exact ⟨cSubU_ok, by kernel_rfl⟩
  · exact ⟨cMulU_ok, by kernel_rfl⟩
  · exact ⟨cDivU_ok, by kernel_rfl⟩
  · exact ⟨cCmpU_ok, by kernel_rfl⟩
  · exact ⟨cValU_ok, by kernel_rfl⟩
  · exact ⟨cFlU_ok, by kernel_rfl⟩
  · exact ⟨cCeU_ok, by kernel_rfl⟩
  · exact ⟨cMinU_ok, by kernel_rfl⟩
  · exact ⟨cMaxU_ok, by kernel_rfl⟩
  · exact ⟨cText_ok, by kernel_rfl⟩
  · exact ⟨cParse_ok, by kernel_rfl⟩
  · exact ⟨cMadeS_ok, by kernel_rfl⟩
  · exact ⟨cMst_ok, by kernel_rfl⟩
  · exact ⟨cMakeG_ok, by kernel_rfl⟩
  · exact ⟨cValR_ok, by kernel_rfl⟩
noncomputable def CX : Ctx := ctxN Tryz.prog manL (fun _ => false) 200 .run 12
theorem CX_ok : CtxOK Tryz.prog CX := ctxN_ok mixed manL_ok 12
noncomputable def XE  : Tr SV :=
  Tr.need (I64 (6 : Int) ∧ I64 (-4 : Int))
  (Tr.need (I64 (0 : Int) ∧ I64 (5 : Int))
   (Tr.need (I64 (1 : Int) ∧ I64 (0 : Int))
   (Tr.need (VF (1 : Int) (6 : Int) ∧ VF (1 : Int) (10 : Int))
   (Tr.need (VF (3 : Int) (4 : Int) ∧ VF (-9 : Int) (2 : Int))
   (Tr.need (VF (4611686018427387904 : Int) (1 : Int) ∧ VF (1 : Int) (1 : Int))
   (Tr.need (VF (4611686018427387904 : Int) (1 : Int) ∧ VF (-1 : Int) (3 : Int))
   (Tr.need (VF (4611686018427387904 : Int) (1 : Int) ∧ VF (1 : Int) (4611686018427387904 : Int))
   (Tr.need (VF (1 : Int) (6 : Int) ∧ VF (0 : Int) (1 : Int))
   (Tr.need (VF (1 : Int) (6 : Int) ∧ VF (1 : Int) (10 : Int))
   (Tr.need (3 < 4294967281)
   (Tr.need (3 < 4294967281)
   (Tr.need (2 < 4294967281)
   (Tr.need (2 < 4294967281)
   (Tr.need (4 < 4294967281)
   (Tr.need (VF (-3 : Int) (2 : Int))
   (Tr.need (VF (5 : Int) (1 : Int))
   (Tr.need (VF (-3 : Int) (2 : Int))
   (Tr.need (VF (-3 : Int) (2 : Int))
   (Tr.need (VF (1 : Int) (6 : Int))
   (Tr.need (VF (1 : Int) (6 : Int)) (Tr.need (VF (1 : Int) (6 : Int) ∧ VF (1 : Int) (10 : Int)) (Tr.need (VF (1 : Int) (6 : Int) ∧ VF (1 : Int) (10 : Int)) (Tr.ret (bv true))))))))))))))))))))))))

theorem XE_eq  : autoC Tryz.prog CX 200 4 .run [] = XE  := by kernel_rfl


instance (a b : Int) : Decidable (VF a b) := decidable_of_iff _ vB_iff
instance (a : Int) : Decidable (I64 a) := inferInstanceAs (Decidable (_ ∧ _))
theorem sat_step {p : Prop} {t : Tr SV} {r : SV} (h1 : p) (h2 : t.ev r) : (Tr.need p t).ev r := ⟨h1, h2⟩
theorem ex02 : (autoC Tryz.prog CX 200 4 .run []).ev (bv true) := by
  rw [XE_eq]; unfold XE
  repeat' (first | exact rfl | refine sat_step (by decide +kernel) ?_)
noncomputable def cEx : Ctr := fun ss => match ss with
  | [] => .ret (bv true)
  | _ => .fail
theorem cEx_ok : CtrOK Tryz.prog 4 cEx := (autoC_ok CX_ok mixed 200 4 .run).mono fun ss r h => by
  unfold cEx at h
  split at h
  · simp only [Tr.ev] at h; subst h; exact ex02
  · exact h.elim

noncomputable def manM : FuncId → Option Ctr := fun k => match k with
  | 4 => some cEx
  | k => manL k
theorem manM_ok (k : Nat) (c : Ctr) (h : manM k = some c) : CtrOK Tryz.prog k c ∧ goodF Tryz.prog k = true := by
  unfold manM at h
  split at h
  · cases h; exact ⟨cEx_ok, by kernel_rfl⟩
  · exact manL_ok _ _ h
noncomputable def CM : Ctx := ctxN Tryz.prog manM (fun _ => false) 200 .nil 6
theorem CM_ok : CtxOK Tryz.prog CM := ctxN_ok mixed manM_ok 6
noncomputable def DM : Dr := fun _ => drawn Tryz.prog CM
theorem DM_ok : DrOK Tryz.prog CM DM := drawn_ok CM_ok mixed
end Go.Proofs.YtmdbfhkineaheaaGreatDoor

