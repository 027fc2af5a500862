/- Part of a proof of the given statements of this seat (SxDiv, SxMrU, SxMrV, SxMrW, SxMrWa, SxMrWb): no conditions beyond those typed here. -/
import Derived.Test.YtcbjclmjkilphaaSy04
set_option linter.unusedVariables false
set_option linter.unusedSimpArgs false

/- Division of two words by one word, digit by digit: plain laws, no program in sight. -/
namespace Go.Sx

structure DivIn (u v a b : Int) : Prop where
  u0 : 0 ≤ u
  v0 : 0 ≤ v
  v1 : v < 4294967296
  a0 : 2147483648 ≤ a
  a1 : a < 4294967296
  b0 : 0 ≤ b
  b1 : b < 4294967296
  uy : u < a * 4294967296 + b

def digQ (u v a b : Int) : Int := (u * 4294967296 + v) / (a * 4294967296 + b)

structure DigI (u v a b q r : Int) : Prop where
  inp : DivIn u v a b
  le : digQ u v a b ≤ q
  q1 : q ≤ 4294967297
  eq : q * a + r = u
  r0 : 0 ≤ r

theorem dig_nonneg {u v a b : Int} (h : DivIn u v a b) : 0 ≤ digQ u v a b := by
  have := h.u0; have := h.v0; have := h.a0; have := h.b0
  exact Int.ediv_nonneg (by omega) (by omega)
theorem dig_mul (q a b : Int) : q * (a * 4294967296 + b) = q * a * 4294967296 + q * b := by
  rw [Int.mul_add, ← Int.mul_assoc]

theorem dig_start {u v a b : Int} (h : DivIn u v a b) : DigI u v a b (u / a) (u - u / a * a) ∧ u - u / a * a < 4294967296 := by
  have hn := dig_nonneg h
  obtain ⟨u0, v0, v1, a0, a1, b0, b1, uy⟩ := h
  have e1 := Int.emod_add_mul_ediv u a
  have e2 := Int.emod_nonneg u (show a ≠ 0 by omega)
  have e3 := Int.emod_lt_of_pos u (show 0 < a by omega)
  have e4 : a * (u / a) = u / a * a := Int.mul_comm _ _
  refine ⟨⟨⟨u0, v0, v1, a0, a1, b0, b1, uy⟩, ?_, ?_, by omega, by omega⟩, by omega⟩
  · have h1 : digQ u v a b * (a * 4294967296 + b) ≤ u * 4294967296 + v := Int.ediv_mul_le _ (by omega)
    rw [dig_mul] at h1
    have h2 : 0 ≤ digQ u v a b * b := Int.mul_nonneg hn b0
    exact Int.le_ediv_of_mul_le (by omega) (by omega)
  · have : u / a < 4294967298 := Int.ediv_lt_of_lt_mul (by omega) (by omega)
    omega

theorem dig_hit {u v a b q r : Int} (h : DigI u v a b q r) (hq : q * b ≤ 4294967296 * r + v) : q = digQ u v a b := by
  obtain ⟨⟨u0, v0, v1, a0, a1, b0, b1, uy⟩, le, q1, eq, r0⟩ := h
  have : q ≤ digQ u v a b := by
    refine Int.le_ediv_of_mul_le (by omega) ?_
    rw [dig_mul]; omega
  omega

theorem dig_miss {u v a b q r : Int} (h : DigI u v a b q r) (hq : 4294967296 ≤ q ∨ 4294967296 * r + v < q * b) : digQ u v a b ≤ q - 1 := by
  obtain ⟨⟨u0, v0, v1, a0, a1, b0, b1, uy⟩, le, q1, eq, r0⟩ := h
  rcases hq with hq | hq
  · have : digQ u v a b < 4294967296 := Int.ediv_lt_of_lt_mul (by omega) (by omega)
    omega
  · have : digQ u v a b < q := Int.ediv_lt_of_lt_mul (by omega) (by rw [dig_mul]; omega)
    omega

theorem dig_step {u v a b q r : Int} (h : DigI u v a b q r) (hq : 4294967296 ≤ q ∨ 4294967296 * r + v < q * b) : DigI u v a b (q - 1) (r + a) := by
  refine ⟨h.inp, dig_miss h hq, by have := h.q1; omega, ?_, by have := h.r0; have := h.inp.a0; omega⟩
  rw [Int.sub_mul, Int.one_mul, ← h.eq]; omega

theorem dig_qb {u v a b q r : Int} (h : DigI u v a b q r) : 0 ≤ q ∧ 0 ≤ q * b ∧ q * b ≤ 18446744073709551615 := by
  have hq := dig_nonneg h.inp
  have h1 := h.le; have h2 := h.inp.b0; have h3 := h.inp.b1; have h4 := h.q1
  refine ⟨by omega, Int.mul_nonneg (by omega) h2, ?_⟩
  have := Int.mul_le_mul h4 (show b ≤ 4294967295 by omega) h2 (by omega)
  omega

theorem dig_brk {u v a b q r : Int} (h : DigI u v a b q r) (hr : 4294967296 ≤ r) (hq : q ≤ 4294967296) : q = digQ u v a b := by
  refine dig_hit h ?_
  have h2 := h.inp.b0; have h3 := h.inp.b1; have h5 := h.inp.v0
  have := Int.mul_le_mul_of_nonneg_right hq h2
  omega

theorem ediv_rem (X Y : Int) (hY : 0 < Y) : 0 ≤ X - X / Y * Y ∧ X - X / Y * Y < Y := by
  have e1 := Int.emod_add_mul_ediv X Y
  have e2 := Int.emod_nonneg X (show Y ≠ 0 by omega)
  have e3 := Int.emod_lt_of_pos X hY
  rw [Int.mul_comm] at e1
  omega
theorem dig_rem {u v a b : Int} (h : DivIn u v a b) : 0 ≤ u * 4294967296 + v - digQ u v a b * (a * 4294967296 + b) ∧ u * 4294967296 + v - digQ u v a b * (a * 4294967296 + b) < a * 4294967296 + b := by
  obtain ⟨u0, v0, v1, a0, a1, b0, b1, uy⟩ := h
  exact ediv_rem _ _ (by omega)
theorem dig_lt {u v a b : Int} (h : DivIn u v a b) : digQ u v a b < 4294967296 := by
  obtain ⟨u0, v0, v1, a0, a1, b0, b1, uy⟩ := h
  exact Int.ediv_lt_of_lt_mul (by omega) (by omega)

/-- The two digits together. -/
theorem dig_two {u v w a b s X Y q1 q0 : Int} (h : DivIn u v a b) (hw : 0 ≤ w ∧ w < 4294967296) (hs : 0 < s) (hX : (u * 4294967296 + v) * 4294967296 + w = X * s) (hY : a * 4294967296 + b = Y * s)
    (h1 : q1 = digQ u v a b) (h0 : q0 = digQ (u * 4294967296 + v - q1 * (a * 4294967296 + b)) w a b) :
    q1 * 4294967296 + q0 = X / Y ∧ (u * 4294967296 + v - q1 * (a * 4294967296 + b)) * 4294967296 + w - q0 * (a * 4294967296 + b) = X % Y * s := by
  have r1 := dig_rem h
  rw [← h1] at r1
  have hy : 0 < a * 4294967296 + b := by have := h.a0; have := h.b0; omega
  have h' : DivIn (u * 4294967296 + v - q1 * (a * 4294967296 + b)) w a b := ⟨r1.1, hw.1, hw.2, h.a0, h.a1, h.b0, h.b1, r1.2⟩
  have r0 := dig_rem h'
  rw [← h0] at r0
  have key : X * s = (q1 * 4294967296 + q0) * (Y * s) + ((u * 4294967296 + v - q1 * (a * 4294967296 + b)) * 4294967296 + w - q0 * (a * 4294967296 + b)) := by
    rw [← hX, hY]
    have e1 : (q1 * 4294967296 + q0) * (Y * s) = q1 * (Y * s) * 4294967296 + q0 * (Y * s) := by rw [Int.add_mul, Int.mul_right_comm]
    rw [e1]; omega
  generalize (u * 4294967296 + v - q1 * (a * 4294967296 + b)) * 4294967296 + w - q0 * (a * 4294967296 + b) = R at *
  rw [hY] at r0 hy
  have hd : q1 * 4294967296 + q0 = X * s / (Y * s) := by
    have : X * s / (Y * s) = R / (Y * s) + (q1 * 4294967296 + q0) := by
      rw [key, Int.add_comm, Int.mul_comm (q1 * 4294967296 + q0), Int.add_mul_ediv_left _ _ (by omega)]
    rw [this, Int.ediv_eq_zero_of_lt r0.1 r0.2]; omega
  rw [Int.mul_ediv_mul_of_pos_left _ _ hs] at hd
  refine ⟨hd, ?_⟩
  have e2 := Int.emod_add_mul_ediv X Y
  rw [← hd] at e2
  have e3 : X % Y = X - (q1 * 4294967296 + q0) * Y := by rw [Int.mul_comm] at e2; omega
  rw [e3, Int.sub_mul, Int.mul_assoc, key]; omega

end Go.Sx

namespace Go.Proofs.Ytcbjclmjkilphaa.Fr
open Go.Sx
set_option maxRecDepth 100000

def lenL : List UInt8 := [0, 1, 2, 2, 3, 3, 3, 3, 4, 4, 4, 4, 4, 4, 4, 4, 5, 5, 5, 5, 5, 5, 5, 5, 5, 5, 5, 5, 5, 5, 5, 5, 6, 6, 6, 6, 6, 6, 6, 6, 6, 6, 6, 6, 6, 6, 6, 6, 6, 6, 6, 6, 6, 6, 6, 6, 6, 6, 6, 6, 6, 6, 6, 6, 7, 7, 7, 7, 7, 7, 7, 7, 7, 7, 7, 7, 7, 7, 7, 7, 7, 7, 7, 7, 7, 7, 7, 7, 7, 7, 7, 7, 7, 7, 7, 7, 7, 7, 7, 7, 7, 7, 7, 7, 7, 7, 7, 7, 7, 7, 7, 7, 7, 7, 7, 7, 7, 7, 7, 7, 7, 7, 7, 7, 7, 7, 7, 7, 8, 8, 8, 8, 8, 8, 8, 8, 8, 8, 8, 8, 8, 8, 8, 8, 8, 8, 8, 8, 8, 8, 8, 8, 8, 8, 8, 8, 8, 8, 8, 8, 8, 8, 8, 8, 8, 8, 8, 8, 8, 8, 8, 8, 8, 8, 8, 8, 8, 8, 8, 8, 8, 8, 8, 8, 8, 8, 8, 8, 8, 8, 8, 8, 8, 8, 8, 8, 8, 8, 8, 8, 8, 8, 8, 8, 8, 8, 8, 8, 8, 8, 8, 8, 8, 8, 8, 8, 8, 8, 8, 8, 8, 8, 8, 8, 8, 8, 8, 8, 8, 8, 8, 8, 8, 8, 8, 8, 8, 8, 8, 8, 8, 8, 8, 8, 8, 8, 8, 8, 8, 8, 8, 8, 8, 8, 8, 8]
def lenT (i : Nat) : Nat := UInt8.toNat (Array.getD ⟨lenL⟩ i 0)
theorem lenT_chk : ∀ i : Fin 256, i.val < 2 ^ lenT i.val ∧ (lenT i.val = 0 ∨ 2 ^ (lenT i.val - 1) ≤ i.val) := by decide +kernel
theorem lenT_eq {i : Nat} (h : i < 256) : lenT i = blen i := by
  obtain ⟨h1, h2⟩ := lenT_chk ⟨i, h⟩
  simp only at h1 h2
  have a := blen_le.2 h1
  rcases h2 with h2 | h2
  · rw [h2] at a ⊢; omega
  · have : ¬ blen i ≤ lenT i - 1 := fun h => by have := blen_le.1 h; omega
    omega
theorem blen_shift {n : Nat} : ∀ {k : Nat}, n / 2 ^ k ≠ 0 → blen n = blen (n / 2 ^ k) + k
  | 0, _ => by simp
  | k + 1, h => by
    have e : n / 2 ^ (k + 1) = n / 2 ^ k / 2 := by rw [Nat.pow_succ, ← Nat.div_div_eq_div_mul]
    rw [e] at h ⊢
    have h0 : n / 2 ^ k ≠ 0 := fun h' => h (by rw [h'])
    rw [blen_shift h0, blen_pos h0]; omega
theorem blen8 {n : Nat} (h : 256 ≤ n) : blen n = blen (n / 256) + 8 := blen_shift (k := 8) (by omega)
theorem blen16 {n : Nat} (h : 65536 ≤ n) : blen n = blen (n / 65536) + 16 := blen_shift (k := 16) (by omega)
theorem blen32 {n : Nat} (h : 4294967296 ≤ n) : blen n = blen (n / 4294967296) + 32 := blen_shift (k := 32) (by omega)

noncomputable def LLen (x : Int) : Tree SV :=
  .ite (decide (x ≥ (4294967296 : Int))) (.need ((0 : Int) ≤ (32 : Int)) (.ite (decide (Int.fdiv x (4294967296 : Int) ≥ (65536 : Int))) (.need ((0 : Int) ≤ (16 : Int)) (.ite (decide (Int.fdiv (Int.fdiv x (4294967296 : Int)) (65536 : Int) ≥ (256 : Int))) (.need ((0 : Int) ≤ (8 : Int)) (.need ((0 : Int) ≤ IntKind.wrap .u8 (Int.fdiv (Int.fdiv (Int.fdiv x (4294967296 : Int)) (65536 : Int)) (256 : Int)) ∧ IntKind.wrap .u8 (Int.fdiv (Int.fdiv (Int.fdiv x (4294967296 : Int)) (65536 : Int)) (256 : Int)) < (256 : Int)) (.ret (iv (w64 ((56 : Int) + w64 (↑(lenT (Int.toNat (IntKind.wrap .u8 (Int.fdiv (Int.fdiv (Int.fdiv x (4294967296 : Int)) (65536 : Int)) (256 : Int))))) : Int))))))) (.need ((0 : Int) ≤ IntKind.wrap .u8 (Int.fdiv (Int.fdiv x (4294967296 : Int)) (65536 : Int)) ∧ IntKind.wrap .u8 (Int.fdiv (Int.fdiv x (4294967296 : Int)) (65536 : Int)) < (256 : Int)) (.ret (iv (w64 ((48 : Int) + w64 (↑(lenT (Int.toNat (IntKind.wrap .u8 (Int.fdiv (Int.fdiv x (4294967296 : Int)) (65536 : Int))))) : Int)))))))) (.ite (decide (Int.fdiv x (4294967296 : Int) ≥ (256 : Int))) (.need ((0 : Int) ≤ (8 : Int)) (.need ((0 : Int) ≤ IntKind.wrap .u8 (Int.fdiv (Int.fdiv x (4294967296 : Int)) (256 : Int)) ∧ IntKind.wrap .u8 (Int.fdiv (Int.fdiv x (4294967296 : Int)) (256 : Int)) < (256 : Int)) (.ret (iv (w64 ((40 : Int) + w64 (↑(lenT (Int.toNat (IntKind.wrap .u8 (Int.fdiv (Int.fdiv x (4294967296 : Int)) (256 : Int))))) : Int))))))) (.need ((0 : Int) ≤ IntKind.wrap .u8 (Int.fdiv x (4294967296 : Int)) ∧ IntKind.wrap .u8 (Int.fdiv x (4294967296 : Int)) < (256 : Int)) (.ret (iv (w64 ((32 : Int) + w64 (↑(lenT (Int.toNat (IntKind.wrap .u8 (Int.fdiv x (4294967296 : Int))))) : Int))))))))) (.ite (decide (x ≥ (65536 : Int))) (.need ((0 : Int) ≤ (16 : Int)) (.ite (decide (Int.fdiv x (65536 : Int) ≥ (256 : Int))) (.need ((0 : Int) ≤ (8 : Int)) (.need ((0 : Int) ≤ IntKind.wrap .u8 (Int.fdiv (Int.fdiv x (65536 : Int)) (256 : Int)) ∧ IntKind.wrap .u8 (Int.fdiv (Int.fdiv x (65536 : Int)) (256 : Int)) < (256 : Int)) (.ret (iv (w64 ((24 : Int) + w64 (↑(lenT (Int.toNat (IntKind.wrap .u8 (Int.fdiv (Int.fdiv x (65536 : Int)) (256 : Int))))) : Int))))))) (.need ((0 : Int) ≤ IntKind.wrap .u8 (Int.fdiv x (65536 : Int)) ∧ IntKind.wrap .u8 (Int.fdiv x (65536 : Int)) < (256 : Int)) (.ret (iv (w64 ((16 : Int) + w64 (↑(lenT (Int.toNat (IntKind.wrap .u8 (Int.fdiv x (65536 : Int))))) : Int)))))))) (.ite (decide (x ≥ (256 : Int))) (.need ((0 : Int) ≤ (8 : Int)) (.need ((0 : Int) ≤ IntKind.wrap .u8 (Int.fdiv x (256 : Int)) ∧ IntKind.wrap .u8 (Int.fdiv x (256 : Int)) < (256 : Int)) (.ret (iv (w64 ((8 : Int) + w64 (↑(lenT (Int.toNat (IntKind.wrap .u8 (Int.fdiv x (256 : Int))))) : Int))))))) (.need ((0 : Int) ≤ IntKind.wrap .u8 x ∧ IntKind.wrap .u8 x < (256 : Int)) (.ret (iv (w64 ((0 : Int) + w64 (↑(lenT (Int.toNat (IntKind.wrap .u8 x))) : Int))))))))

theorem LLen_eq (x : Int) : T0 112 [u6 x] = LLen x := by kernel_rfl


end Go.Proofs.Ytcbjclmjkilphaa.Fr

namespace Go.Proofs.Ytcbjclmjkilphaa.Fr
open Go.Sx
set_option maxRecDepth 100000

theorem fd32 (n : Nat) : Int.fdiv (n : Int) 4294967296 = ((n / 4294967296 : Nat) : Int) := by rw [Int.fdiv_eq_ediv_of_nonneg _ (by decide)]; omega
theorem fd16 (n : Nat) : Int.fdiv (n : Int) 65536 = ((n / 65536 : Nat) : Int) := by rw [Int.fdiv_eq_ediv_of_nonneg _ (by decide)]; omega
theorem fd8 (n : Nat) : Int.fdiv (n : Int) 256 = ((n / 256 : Nat) : Int) := by rw [Int.fdiv_eq_ediv_of_nonneg _ (by decide)]; omega
theorem wb8 (n : Int) : IntKind.wrap .u8 n = n % 256 := by
  unfold IntKind.wrap
  simp [IntKind.signed, IntKind.bits]
theorem len_leaf {m N off : Nat} {o : Int} (h : m < 256) (e : blen N = blen m + off) (ho : off ≤ 56) (hoo : o = off) :
    ((0 : Int) ≤ IntKind.wrap .u8 (m : Int) ∧ IntKind.wrap .u8 (m : Int) < 256) ∧ iv (w64 (o + w64 ((lenT (Int.toNat (IntKind.wrap .u8 (m : Int))) : Nat) : Int))) = iv (blen N) := by
  have e1 : IntKind.wrap .u8 (m : Int) = m := by rw [wb8]; omega
  have e2 : blen m ≤ 8 := blen_le.2 (by omega)
  rw [e1]
  refine ⟨by omega, ?_⟩
  rw [Int.toNat_natCast, lenT_eq h, w64_of (n := (blen m : Int)) (by omega) (by omega), w64_of (by omega) (by omega), e, hoo]
  congr 1; omega

noncomputable def cLen : Ctr := fun ss => match ss with
  | [.d (.x (.int .u64 x))] => .need (0 ≤ x ∧ x < 18446744073709551616) (.ret (iv (blen x.toNat)))
  | _ => .fail
theorem cLen_ok : CtrOK Try.prog 112 cLen := by
  refine ctrOK_leS C0_ok D0_ok (by kernel_rfl) (by kernel_rfl) fun ss r h => ?_
  unfold cLen at h
  split at h
  · rename_i x
    obtain ⟨⟨h1, h2⟩, rfl⟩ := h
    refine ⟨[u6 x], 200, .nil, by simp [leSVs, leSV, u6, leD], Sat.of_eq (LLen_eq x) ⟨?_⟩⟩
    obtain ⟨N, rfl⟩ := Int.eq_ofNat_of_zero_le h1
    rw [Int.toNat_natCast]
    unfold LLen
    simp only [fd32, fd16, fd8]
    refine ⟨fun a => ⟨by decide, fun b => ⟨by decide, fun c => ⟨by decide, ?_⟩, fun c => ?_⟩, fun b => ⟨fun c => ⟨by decide, ?_⟩, fun c => ?_⟩⟩, fun a => ⟨fun b => ⟨by decide, fun c => ⟨by decide, ?_⟩, fun c => ?_⟩, fun b => ⟨fun c => ⟨by decide, ?_⟩, fun c => ?_⟩⟩⟩ <;>
      simp only [decide_eq_true_eq, decide_eq_false_iff_not] at a b c
    · exact len_leaf (off := 56) (by omega) (by rw [blen32 (n := N) (by omega), blen16 (n := N / 4294967296) (by omega), blen8 (n := N / 4294967296 / 65536) (by omega)]) (by omega) rfl
    · exact len_leaf (off := 48) (by omega) (by rw [blen32 (n := N) (by omega), blen16 (n := N / 4294967296) (by omega)]) (by omega) rfl
    · exact len_leaf (off := 40) (by omega) (by rw [blen32 (n := N) (by omega), blen8 (n := N / 4294967296) (by omega)]) (by omega) rfl
    · exact len_leaf (off := 32) (by omega) (by rw [blen32 (n := N) (by omega)]) (by omega) rfl
    · exact len_leaf (off := 24) (by omega) (by rw [blen16 (n := N) (by omega), blen8 (n := N / 65536) (by omega)]) (by omega) rfl
    · exact len_leaf (off := 16) (by omega) (by rw [blen16 (n := N) (by omega)]) (by omega) rfl
    · exact len_leaf (off := 8) (by omega) (by rw [blen8 (n := N) (by omega)]) (by omega) rfl
    · exact len_leaf (off := 0) (by omega) rfl (by omega) rfl
  · exact h.elim

noncomputable def manD : FuncId → Option Ctr := fun k => match k with
  | 112 => some cLen
  | _ => none
theorem manD_ok (k : Nat) (c : Ctr) (h : manD k = some c) : CtrOK Try.prog k c ∧ goodF Try.prog k = true := by
  unfold manD at h
  split at h <;> first | (cases h; done) | (cases h)
  · exact ⟨cLen_ok, by kernel_rfl⟩
noncomputable def CD : Ctx := ctxN Try.prog manD (fun _ => false) 200 .nil 6
theorem CD_ok : CtxOK Try.prog CD := ctxN_ok mixed manD_ok 6
noncomputable def DD : Dr := fun _ => drawn Try.prog CD
theorem DD_ok : DrOK Try.prog CD DD := drawn_ok CD_ok mixed
noncomputable def TD (k : Nat) (args : List SV) : Tree SV := fnT Try.prog CD DD 200 (fnOf Try.prog k) (bodyOf Try.prog k) args .nil

end Go.Proofs.Ytcbjclmjkilphaa.Fr

namespace Go.Proofs.Ytcbjclmjkilphaa.Fr
open Go.Sx
set_option maxRecDepth 100000

noncomputable def tDv (y x d : Int) : Tree SV := TD 110 [u6 y, u6 x, u6 d]
def pD : List Nat := [1, 1, 1, 0, 0, 0, 0, 0, 0, 0, 0]
noncomputable def LDv (y x d : Int) : Tree SV :=
  .ite (d == (0 : Int)) .fail
  (.ite (decide (d ≤ y)) .fail
   (.ite (y == (0 : Int)) (.need (d ≠ (0 : Int)) (.need (d ≠ (0 : Int)) (.ret (SV.tup [SV.d (DV.x (.int .u64 (IntKind.wrap .u64 (Int.tdiv x d)))), SV.d (DV.x (.int .u64 (Int.tmod x d)))]))))
   (.need ((0 : Int) ≤ d ∧ d < (18446744073709551616 : Int))
   (.need ((0 : Int) ≤ IntKind.wrap .u64 (w64 ((64 : Int) - (↑(blen (Int.toNat d)) : Int))))
   (.need ((0 : Int) ≤ (32 : Int))
   (.need ((0 : Int) ≤ IntKind.wrap .u64 (w64 ((64 : Int) - (↑(blen (Int.toNat d)) : Int))))
   (.need ((0 : Int) ≤ IntKind.wrap .u64 ((64 : Int) - IntKind.wrap .u64 (w64 ((64 : Int) - (↑(blen (Int.toNat d)) : Int)))))
   (.need ((0 : Int) ≤ IntKind.wrap .u64 (w64 ((64 : Int) - (↑(blen (Int.toNat d)) : Int))))
   (.need ((0 : Int) ≤ (32 : Int))
   (.need (Int.fdiv (IntKind.wrap .u64 (d * (2 : Int) ^ min (Int.toNat (IntKind.wrap .u64 (w64 ((64 : Int) - (↑(blen (Int.toNat d)) : Int))))) 64)) (4294967296 : Int) ≠ (0 : Int))
   (.code (codeC (sub [(1 : Nat), (1 : Nat), (1 : Nat), (0 : Nat), (0 : Nat), (0 : Nat), (0 : Nat), (0 : Nat), (0 : Nat), (0 : Nat), (0 : Nat)] (tDv y x d)))
   (codeS (sub [(1 : Nat), (1 : Nat), (1 : Nat), (0 : Nat), (0 : Nat), (0 : Nat), (0 : Nat), (0 : Nat), (0 : Nat), (0 : Nat), (0 : Nat)] (tDv y x d)))
   (codeK (sub [(1 : Nat), (1 : Nat), (1 : Nat), (0 : Nat), (0 : Nat), (0 : Nat), (0 : Nat), (0 : Nat), (0 : Nat), (0 : Nat), (0 : Nat)] (tDv y x d))))))))))))))

theorem LDv_eq (y x d : Int) : tDv y x d = LDv y x d := by kernel_rfl

noncomputable def invD1 (Y s a b u v w q r : Int) : AS := ⟨[.unk, .unk, .ok (u6 Y), .unk, .unk, .unk, .unk, .unk, .ok (u6 s), .ok (u6 a), .ok (u6 b), .ok (u6 u), .unk, .ok (u6 v), .ok (u6 w), .ok (u6 q), .ok (u6 r)] ++ List.replicate 118 .unk, [], 0, .nil⟩
noncomputable def invD2 (Y s a b w q u q0 r : Int) : AS := ⟨[.unk, .unk, .ok (u6 Y), .unk, .unk, .unk, .unk, .unk, .ok (u6 s), .ok (u6 a), .ok (u6 b), .unk, .unk, .unk, .ok (u6 w), .ok (u6 q), .ok (u6 r), .ok (u6 u), .ok (u6 q0)] ++ List.replicate 116 .unk, [], 0, .nil⟩
noncomputable def bodyD1 : Code := loopN (bodyOf Try.prog 110) 0
noncomputable def bodyD2 : Code := loopN (bodyOf Try.prog 110) 1
noncomputable def BD1 (Y s a b u v w q r : Int) : Tree (Ex × AS) :=
  .ite (decide (q ≥ (4294967296 : Int)) || decide (IntKind.wrap .u64 (q * b) > IntKind.wrap .u64 (IntKind.wrap .u64 ((4294967296 : Int) * r) + v)))
  (.ite (decide (IntKind.wrap .u64 (r + a) ≥ (4294967296 : Int)))
   (.ret
   (.exit 0,
   {
   tm :=
   [.unk, .unk, .ok (SV.d (DV.x (.int .u64 Y))), .unk, .unk, .unk, .unk, .unk, .ok (SV.d (DV.x (.int .u64 s))), .ok (SV.d (DV.x (.int .u64 a))),
   .ok (SV.d (DV.x (.int .u64 b))), .ok (SV.d (DV.x (.int .u64 u))), .unk, .ok (SV.d (DV.x (.int .u64 v))), .ok (SV.d (DV.x (.int .u64 w))),
   .ok (SV.d (DV.x (.int .u64 (IntKind.wrap .u64 (q - (1 : Int)))))), .ok (SV.d (DV.x (.int .u64 (IntKind.wrap .u64 (r + a))))), .unk, .unk, .unk, .unk, .unk, .unk, .unk,
   .unk, .unk, .unk, .unk, .unk, .unk, .unk, .unk, .unk, .unk, .unk, .unk, .unk, .unk, .unk, .unk, .unk, .unk, .unk, .unk, .unk, .unk, .unk, .unk, .unk, .unk, .unk, .unk,
   .unk, .unk, .unk, .unk, .unk, .unk, .unk, .unk, .unk, .unk, .unk, .unk, .unk, .unk, .unk, .unk, .unk, .unk, .unk, .unk, .unk, .unk, .unk, .unk, .unk, .unk, .unk, .unk,
   .unk, .unk, .unk, .unk, .unk, .unk, .unk, .unk, .unk, .unk, .unk, .unk, .unk, .unk, .unk, .unk, .unk, .unk, .unk, .unk, .unk, .unk, .unk, .unk, .unk, .unk, .unk, .unk,
   .unk, .unk, .unk, .unk, .unk, .unk, .unk, .unk, .unk, .unk, .unk, .unk, .unk, .unk, .unk, .unk, .unk, .unk, .unk, .unk, .unk, .unk, .unk, .unk, .unk, .unk, .unk],
   hp := [], next := 0, hint := .nil }))
   (.ret
   (.normal,
   {
   tm :=
   [.unk, .unk, .ok (SV.d (DV.x (.int .u64 Y))), .unk, .unk, .unk, .unk, .unk, .ok (SV.d (DV.x (.int .u64 s))), .ok (SV.d (DV.x (.int .u64 a))),
   .ok (SV.d (DV.x (.int .u64 b))), .ok (SV.d (DV.x (.int .u64 u))), .unk, .ok (SV.d (DV.x (.int .u64 v))), .ok (SV.d (DV.x (.int .u64 w))),
   .ok (SV.d (DV.x (.int .u64 (IntKind.wrap .u64 (q - (1 : Int)))))), .ok (SV.d (DV.x (.int .u64 (IntKind.wrap .u64 (r + a))))), .unk, .unk, .unk, .unk, .unk, .unk, .unk,
   .unk, .unk, .unk, .unk, .unk, .unk, .unk, .unk, .unk, .unk, .unk, .unk, .unk, .unk, .unk, .unk, .unk, .unk, .unk, .unk, .unk, .unk, .unk, .unk, .unk, .unk, .unk, .unk,
   .unk, .unk, .unk, .unk, .unk, .unk, .unk, .unk, .unk, .unk, .unk, .unk, .unk, .unk, .unk, .unk, .unk, .unk, .unk, .unk, .unk, .unk, .unk, .unk, .unk, .unk, .unk, .unk,
   .unk, .unk, .unk, .unk, .unk, .unk, .unk, .unk, .unk, .unk, .unk, .unk, .unk, .unk, .unk, .unk, .unk, .unk, .unk, .unk, .unk, .unk, .unk, .unk, .unk, .unk, .unk, .unk,
   .unk, .unk, .unk, .unk, .unk, .unk, .unk, .unk, .unk, .unk, .unk, .unk, .unk, .unk, .unk, .unk, .unk, .unk, .unk, .unk, .unk, .unk, .unk, .unk, .unk, .unk, .unk],
   hp := [], next := 0, hint := .nil })))
  (.ret
   (.exit 0,
   {
   tm :=
   [.unk, .unk, .ok (SV.d (DV.x (.int .u64 Y))), .unk, .unk, .unk, .unk, .unk, .ok (SV.d (DV.x (.int .u64 s))), .ok (SV.d (DV.x (.int .u64 a))),
   .ok (SV.d (DV.x (.int .u64 b))), .ok (SV.d (DV.x (.int .u64 u))), .unk, .ok (SV.d (DV.x (.int .u64 v))), .ok (SV.d (DV.x (.int .u64 w))),
   .ok (SV.d (DV.x (.int .u64 q))), .ok (SV.d (DV.x (.int .u64 r))), .unk, .unk, .unk, .unk, .unk, .unk, .unk, .unk, .unk, .unk, .unk, .unk, .unk, .unk, .unk, .unk,
   .unk, .unk, .unk, .unk, .unk, .unk, .unk, .unk, .unk, .unk, .unk, .unk, .unk, .unk, .unk, .unk, .unk, .unk, .unk, .unk, .unk, .unk, .unk, .unk, .unk, .unk, .unk, .unk,
   .unk, .unk, .unk, .unk, .unk, .unk, .unk, .unk, .unk, .unk, .unk, .unk, .unk, .unk, .unk, .unk, .unk, .unk, .unk, .unk, .unk, .unk, .unk, .unk, .unk, .unk, .unk, .unk,
   .unk, .unk, .unk, .unk, .unk, .unk, .unk, .unk, .unk, .unk, .unk, .unk, .unk, .unk, .unk, .unk, .unk, .unk, .unk, .unk, .unk, .unk, .unk, .unk, .unk, .unk, .unk, .unk,
   .unk, .unk, .unk, .unk, .unk, .unk, .unk, .unk, .unk, .unk, .unk, .unk, .unk, .unk, .unk, .unk, .unk, .unk],
   hp := [], next := 0, hint := .nil }))

theorem BD1_eq (Y s a b u v w q r : Int) : cutT 0 [] [2, 8, 9, 10, 11, 13, 14, 15, 16] [] 0 .nil (exec Try.prog CD DD 200 bodyD1 (invD1 Y s a b u v w q r)) = BD1 Y s a b u v w q r := by kernel_rfl

noncomputable def BD2 (Y s a b w q u q0 r : Int) : Tree (Ex × AS) :=
  .ite (decide (q0 ≥ (4294967296 : Int)) || decide (IntKind.wrap .u64 (q0 * b) > IntKind.wrap .u64 (IntKind.wrap .u64 ((4294967296 : Int) * r) + w)))
  (.ite (decide (IntKind.wrap .u64 (r + a) ≥ (4294967296 : Int)))
   (.ret
   (.exit 2,
   {
   tm :=
   [.unk, .unk, .ok (SV.d (DV.x (.int .u64 Y))), .unk, .unk, .unk, .unk, .unk, .ok (SV.d (DV.x (.int .u64 s))), .ok (SV.d (DV.x (.int .u64 a))),
   .ok (SV.d (DV.x (.int .u64 b))), .unk, .unk, .unk, .ok (SV.d (DV.x (.int .u64 w))), .ok (SV.d (DV.x (.int .u64 q))),
   .ok (SV.d (DV.x (.int .u64 (IntKind.wrap .u64 (r + a))))), .ok (SV.d (DV.x (.int .u64 u))), .ok (SV.d (DV.x (.int .u64 (IntKind.wrap .u64 (q0 - (1 : Int)))))), .unk,
   .unk, .unk, .unk, .unk, .unk, .unk, .unk, .unk, .unk, .unk, .unk, .unk, .unk, .unk, .unk, .unk, .unk, .unk, .unk, .unk, .unk, .unk, .unk, .unk, .unk, .unk, .unk, .unk,
   .unk, .unk, .unk, .unk, .unk, .unk, .unk, .unk, .unk, .unk, .unk, .unk, .unk, .unk, .unk, .unk, .unk, .unk, .unk, .unk, .unk, .unk, .unk, .unk, .unk, .unk, .unk, .unk,
   .unk, .unk, .unk, .unk, .unk, .unk, .unk, .unk, .unk, .unk, .unk, .unk, .unk, .unk, .unk, .unk, .unk, .unk, .unk, .unk, .unk, .unk, .unk, .unk, .unk, .unk, .unk, .unk,
   .unk, .unk, .unk, .unk, .unk, .unk, .unk, .unk, .unk, .unk, .unk, .unk, .unk, .unk, .unk, .unk, .unk, .unk, .unk, .unk, .unk, .unk, .unk, .unk, .unk, .unk, .unk, .unk,
   .unk, .unk, .unk],
   hp := [], next := 0, hint := .nil }))
   (.ret
   (.normal,
   {
   tm :=
   [.unk, .unk, .ok (SV.d (DV.x (.int .u64 Y))), .unk, .unk, .unk, .unk, .unk, .ok (SV.d (DV.x (.int .u64 s))), .ok (SV.d (DV.x (.int .u64 a))),
   .ok (SV.d (DV.x (.int .u64 b))), .unk, .unk, .unk, .ok (SV.d (DV.x (.int .u64 w))), .ok (SV.d (DV.x (.int .u64 q))),
   .ok (SV.d (DV.x (.int .u64 (IntKind.wrap .u64 (r + a))))), .ok (SV.d (DV.x (.int .u64 u))), .ok (SV.d (DV.x (.int .u64 (IntKind.wrap .u64 (q0 - (1 : Int)))))), .unk,
   .unk, .unk, .unk, .unk, .unk, .unk, .unk, .unk, .unk, .unk, .unk, .unk, .unk, .unk, .unk, .unk, .unk, .unk, .unk, .unk, .unk, .unk, .unk, .unk, .unk, .unk, .unk, .unk,
   .unk, .unk, .unk, .unk, .unk, .unk, .unk, .unk, .unk, .unk, .unk, .unk, .unk, .unk, .unk, .unk, .unk, .unk, .unk, .unk, .unk, .unk, .unk, .unk, .unk, .unk, .unk, .unk,
   .unk, .unk, .unk, .unk, .unk, .unk, .unk, .unk, .unk, .unk, .unk, .unk, .unk, .unk, .unk, .unk, .unk, .unk, .unk, .unk, .unk, .unk, .unk, .unk, .unk, .unk, .unk, .unk,
   .unk, .unk, .unk, .unk, .unk, .unk, .unk, .unk, .unk, .unk, .unk, .unk, .unk, .unk, .unk, .unk, .unk, .unk, .unk, .unk, .unk, .unk, .unk, .unk, .unk, .unk, .unk, .unk,
   .unk, .unk, .unk],
   hp := [], next := 0, hint := .nil })))
  (.ret
   (.exit 2,
   {
   tm :=
   [.unk, .unk, .ok (SV.d (DV.x (.int .u64 Y))), .unk, .unk, .unk, .unk, .unk, .ok (SV.d (DV.x (.int .u64 s))), .ok (SV.d (DV.x (.int .u64 a))),
   .ok (SV.d (DV.x (.int .u64 b))), .unk, .unk, .unk, .ok (SV.d (DV.x (.int .u64 w))), .ok (SV.d (DV.x (.int .u64 q))), .ok (SV.d (DV.x (.int .u64 r))),
   .ok (SV.d (DV.x (.int .u64 u))), .ok (SV.d (DV.x (.int .u64 q0))), .unk, .unk, .unk, .unk, .unk, .unk, .unk, .unk, .unk, .unk, .unk, .unk, .unk, .unk, .unk, .unk,
   .unk, .unk, .unk, .unk, .unk, .unk, .unk, .unk, .unk, .unk, .unk, .unk, .unk, .unk, .unk, .unk, .unk, .unk, .unk, .unk, .unk, .unk, .unk, .unk, .unk, .unk, .unk, .unk,
   .unk, .unk, .unk, .unk, .unk, .unk, .unk, .unk, .unk, .unk, .unk, .unk, .unk, .unk, .unk, .unk, .unk, .unk, .unk, .unk, .unk, .unk, .unk, .unk, .unk, .unk, .unk, .unk,
   .unk, .unk, .unk, .unk, .unk, .unk, .unk, .unk, .unk, .unk, .unk, .unk, .unk, .unk, .unk, .unk, .unk, .unk, .unk, .unk, .unk, .unk, .unk, .unk, .unk, .unk, .unk, .unk,
   .unk, .unk, .unk, .unk, .unk, .unk, .unk, .unk, .unk, .unk, .unk, .unk, .unk, .unk, .unk, .unk],
   hp := [], next := 0, hint := .nil }))

theorem BD2_eq (Y s a b w q u q0 r : Int) : cutT 0 [] [2, 8, 9, 10, 14, 15, 16, 17, 18] [] 0 .nil (exec Try.prog CD DD 200 bodyD2 (invD2 Y s a b w q u q0 r)) = BD2 Y s a b w q u q0 r := by kernel_rfl

noncomputable def kD1 (y x d : Int) (Y s a b u v w q r : Int) : Tree SV := codeK (sub pD (tDv y x d)) (.exit 0) (invD1 Y s a b u v w q r)
noncomputable def KD1 (y x d : Int) (Y s a b u v w q r : Int) : Tree SV :=
  .need (a ≠ (0 : Int)) (.code (codeC (sub [(0 : Nat)] (kD1 y x d Y s a b u v w q r))) (codeS (sub [(0 : Nat)] (kD1 y x d Y s a b u v w q r))) (codeK (sub [(0 : Nat)] (kD1 y x d Y s a b u v w q r))))

theorem KD1_eq (y x d : Int) (Y s a b u v w q r : Int) : kD1 y x d Y s a b u v w q r = KD1 y x d Y s a b u v w q r := by kernel_rfl

noncomputable def KD2 (y x d : Int) (Y s a b u v w q r : Int) (Y' s' a' b' w' q1 u2 q0 r' : Int) : Tree SV :=
  .need ((0 : Int) ≤ s')
  (.ret
    (SV.tup
      [SV.d (DV.x (.int .u64 (IntKind.wrap .u64 (IntKind.wrap .u64 (q1 * (4294967296 : Int)) + q0)))),
        SV.d
          (DV.x
            (.int .u64
              (Int.fdiv (IntKind.wrap .u64 (IntKind.wrap .u64 (IntKind.wrap .u64 (u2 * (4294967296 : Int)) + w') - IntKind.wrap .u64 (q0 * Y'))) ((2 : Int) ^ min (Int.toNat s') 64))))]))

theorem KD2_eq (y x d : Int) (Y s a b u v w q r : Int) (Y' s' a' b' w' q1 u2 q0 r' : Int) : codeK (sub [0] (kD1 y x d Y s a b u v w q r)) (.exit 2) (invD2 Y' s' a' b' w' q1 u2 q0 r') = KD2 y x d Y s a b u v w q r Y' s' a' b' w' q1 u2 q0 r' := by kernel_rfl


end Go.Proofs.Ytcbjclmjkilphaa.Fr

namespace Go.Proofs.Ytcbjclmjkilphaa.Fr
open Go.Sx
set_option maxRecDepth 100000

theorem wu_nonneg (n : Int) : 0 ≤ IntKind.wrap .u64 n := by rw [wu]; omega
/-- Bits side by side. -/
theorem or_add {A B k : Int} {s : Nat} (hA : A = k * ((2 ^ s : Nat) : Int)) (hk : 0 ≤ k) (hB : 0 ≤ B) (hB2 : B < ((2 ^ s : Nat) : Int)) (h : A + B < 18446744073709551616) :
    ((BitVec.toNat (BitVec.ofInt 64 A ||| BitVec.ofInt 64 B) : Nat) : Int) = A + B := by
  have hA0 : 0 ≤ A := by rw [hA]; exact Int.mul_nonneg hk (by omega)
  obtain ⟨K, rfl⟩ := Int.eq_ofNat_of_zero_le hk
  obtain ⟨C, rfl⟩ := Int.eq_ofNat_of_zero_le hB
  have hA' : A = ((2 ^ s * K : Nat) : Int) := by rw [hA, ← Int.natCast_mul, Nat.mul_comm]
  rw [hA'] at h hA0 ⊢
  have e : ∀ n : Nat, (n : Int) < 18446744073709551616 → (((n : Int) % ((2 ^ 64 : Nat) : Int))).toNat = n := by
    intro n hn
    rw [show ((2 ^ 64 : Nat) : Int) = 18446744073709551616 by decide]; omega
  rw [BitVec.toNat_or, BitVec.toNat_ofInt, BitVec.toNat_ofInt, e _ (by omega), e _ (by omega), ← Nat.two_pow_add_eq_or_of_lt (by omega)]
  omega

theorem div_setup {y x d P Q : Int} (hP : 0 < P) (hQ : 0 < Q) (hPQ : P * Q = 18446744073709551616) (y0 : 0 ≤ y) (yd : y < d) (x0 : 0 ≤ x) (x1 : x < 18446744073709551616) :
    (y * P + x / Q) * 18446744073709551616 + x * P % 18446744073709551616 = (y * 18446744073709551616 + x) * P ∧ 0 ≤ x / Q ∧ x / Q < P ∧ y * P + x / Q < d * P := by
  have h1 : x / Q < P := Int.ediv_lt_of_lt_mul hQ (by omega)
  have h2 : 0 ≤ x / Q := Int.ediv_nonneg x0 (by omega)
  have h3 : x * P / 18446744073709551616 = x / Q := by rw [← hPQ, Int.mul_comm P Q, Int.mul_ediv_mul_of_pos_left _ _ hP]
  have h4 := Int.emod_add_mul_ediv (x * P) 18446744073709551616
  have h5 : (y + 1) * P ≤ d * P := Int.mul_le_mul_of_nonneg_right (by omega) (by omega)
  rw [Int.add_mul] at h5
  refine ⟨?_, h2, h1, by omega⟩
  rw [h3] at h4
  rw [Int.add_mul (y * 18446744073709551616) x P, Int.mul_right_comm y 18446744073709551616 P]
  omega

noncomputable def dS (d : Int) : Int := IntKind.wrap .u64 (w64 (64 - (blen (Int.toNat d) : Int)))
noncomputable def dY (d : Int) : Int := IntKind.wrap .u64 (d * 2 ^ min (Int.toNat (dS d)) 64)
noncomputable def dA (d : Int) : Int := Int.fdiv (dY d) 4294967296
noncomputable def dB (d : Int) : Int := IntKind.wrap .u64 (BitVec.toNat (BitVec.ofInt 64 (dY d) &&& BitVec.ofInt 64 4294967295) : Nat)
noncomputable def dU (y x d : Int) : Int := IntKind.wrap .u64 (BitVec.toNat (BitVec.ofInt 64 (IntKind.wrap .u64 (y * 2 ^ min (Int.toNat (dS d)) 64)) ||| BitVec.ofInt 64 (Int.fdiv x (2 ^ min (Int.toNat (IntKind.wrap .u64 (64 - dS d))) 64))) : Nat)
noncomputable def dX (x d : Int) : Int := IntKind.wrap .u64 (x * 2 ^ min (Int.toNat (dS d)) 64)
noncomputable def dV (x d : Int) : Int := Int.fdiv (dX x d) 4294967296
noncomputable def dW (x d : Int) : Int := IntKind.wrap .u64 (BitVec.toNat (BitVec.ofInt 64 (dX x d) &&& BitVec.ofInt 64 4294967295) : Nat)
noncomputable def dQ (u a : Int) : Int := IntKind.wrap .u64 (Int.tdiv u a)
noncomputable def dR (u q a : Int) : Int := IntKind.wrap .u64 (u - IntKind.wrap .u64 (q * a))
noncomputable def dN (u v q Y : Int) : Int := IntKind.wrap .u64 (IntKind.wrap .u64 (IntKind.wrap .u64 (u * 4294967296) + v) - IntKind.wrap .u64 (q * Y))

structure DvF (y x d : Int) (s : Nat) : Prop where
  s64 : s < 64
  S : dS d = s
  Y : dY d = d * (2 ^ s : Nat)
  A : dA d = d * (2 ^ s : Nat) / 4294967296
  B : dB d = d * (2 ^ s : Nat) % 4294967296
  V0 : 0 ≤ dV x d ∧ dV x d < 4294967296
  W0 : 0 ≤ dW x d ∧ dW x d < 4294967296
  X : (dU y x d * 4294967296 + dV x d) * 4294967296 + dW x d = (y * 18446744073709551616 + x) * (2 ^ s : Nat)
  inp : DivIn (dU y x d) (dV x d) (dA d) (dB d)
  Yb : 9223372036854775808 ≤ d * (2 ^ s : Nat) ∧ d * (2 ^ s : Nat) < 18446744073709551616

theorem two_pow_split {s : Nat} (h : s ≤ 64) : ((2 ^ s : Nat) : Int) * ((2 ^ (64 - s) : Nat) : Int) = 18446744073709551616 := by
  rw [← Int.natCast_mul, ← Nat.pow_add, show s + (64 - s) = 64 by omega]; decide

theorem dvF {y x d : Int} (y0 : 0 ≤ y) (yd : y < d) (d1 : d < 18446744073709551616) (x0 : 0 ≤ x) (x1 : x < 18446744073709551616) : ∃ s, DvF y x d s := by
  have hL : blen d.toNat ≤ 64 := blen_le.2 (by omega)
  have hL0 : blen d.toNat ≠ 0 := fun h => by have := blen_le.1 (show blen d.toNat ≤ 0 by omega); omega
  have hb1 := lt_pow_blen d.toNat
  have hb2 : ¬ d.toNat < 2 ^ (blen d.toNat - 1) := fun h => by have := blen_le.2 h; omega
  refine ⟨64 - blen d.toNat, ?_⟩
  have hS : dS d = ((64 - blen d.toNat : Nat) : Int) := by
    unfold dS
    rw [w64_of (by omega) (by omega), wu_of (by omega) (by omega)]; omega
  have hs64 : 64 - blen d.toNat < 64 := by omega
  have hYb : 9223372036854775808 ≤ d * (2 ^ (64 - blen d.toNat) : Nat) ∧ d * (2 ^ (64 - blen d.toNat) : Nat) < 18446744073709551616 := by
    have e1 : 2 ^ blen d.toNat * 2 ^ (64 - blen d.toNat) = 18446744073709551616 := by rw [← Nat.pow_add, show blen d.toNat + (64 - blen d.toNat) = 64 by omega]
    have e2 : 2 ^ (blen d.toNat - 1) * 2 ^ (64 - blen d.toNat) = 9223372036854775808 := by rw [← Nat.pow_add, show blen d.toNat - 1 + (64 - blen d.toNat) = 63 by omega]
    have h1 := Nat.mul_lt_mul_of_pos_right hb1 (Nat.two_pow_pos (64 - blen d.toNat))
    have h2 := Nat.mul_le_mul_right (2 ^ (64 - blen d.toNat)) (Nat.le_of_not_lt hb2)
    have h3 : d * (2 ^ (64 - blen d.toNat) : Nat) = ((d.toNat * 2 ^ (64 - blen d.toNat) : Nat) : Int) := by rw [Int.natCast_mul]; congr 1; omega
    rw [h3]; omega
  generalize 64 - blen d.toNat = s at *
  have hmin : min (Int.toNat (dS d)) 64 = s := by rw [hS]; omega
  have hmin2 : min (Int.toNat (IntKind.wrap .u64 (64 - dS d))) 64 = 64 - s := by rw [hS, wu_of (by omega) (by omega)]; omega
  have hp : ∀ n : Nat, (2 : Int) ^ n = ((2 ^ n : Nat) : Int) := fun n => by rw [Int.natCast_pow]; rfl
  have hP : (0 : Int) < ((2 ^ s : Nat) : Int) := by have := Nat.two_pow_pos s; omega
  have hQ : (0 : Int) < ((2 ^ (64 - s) : Nat) : Int) := by have := Nat.two_pow_pos (64 - s); omega
  obtain ⟨k1, k2, k3, k4⟩ := div_setup hP hQ (two_pow_split (by omega)) y0 yd x0 x1
  have hY : dY d = d * (2 ^ s : Nat) := by unfold dY; rw [hmin, hp, wu_of (by omega) (by omega)]
  have hA : dA d = d * (2 ^ s : Nat) / 4294967296 := by unfold dA; rw [hY, Int.fdiv_eq_ediv_of_nonneg _ (by decide)]
  have hB : dB d = d * (2 ^ s : Nat) % 4294967296 := by unfold dB; rw [hY, mask32 (by omega) (by omega), wu_of (by omega) (by omega)]
  have hX : dX x d = x * (2 ^ s : Nat) % 18446744073709551616 := by unfold dX; rw [hmin, hp, wu]
  have hV : dV x d = dX x d / 4294967296 := by unfold dV; rw [Int.fdiv_eq_ediv_of_nonneg _ (by decide)]
  have hW : dW x d = dX x d % 4294967296 := by unfold dW; rw [mask32 (by rw [hX]; omega) (by rw [hX]; omega), wu_of (by omega) (by omega)]
  have hyP : 0 ≤ y * ((2 ^ s : Nat) : Int) := Int.mul_nonneg y0 (by omega)
  have hU : dU y x d = y * (2 ^ s : Nat) + x / (2 ^ (64 - s) : Nat) := by
    unfold dU
    rw [hmin, hmin2, hp, hp, wu_of (n := y * _) hyP (by omega), Int.fdiv_eq_ediv_of_nonneg _ (by omega), or_add rfl y0 k2 k3 (by omega), wu_of (by omega) (by omega)]
  refine ⟨hs64, hS, hY, hA, hB, ⟨by rw [hV, hX]; omega, by rw [hV, hX]; omega⟩, ⟨by rw [hW]; omega, by rw [hW]; omega⟩, ?_, ⟨by rw [hU]; omega, by rw [hV, hX]; omega, by rw [hV, hX]; omega, by rw [hA]; omega, by rw [hA]; omega, by rw [hB]; omega, by rw [hB]; omega, by rw [hU, hA, hB]; omega⟩, hYb⟩
  rw [hV, hW, ← k1, ← hU, ← hX]
  omega

theorem tdiv_nn {a b : Int} (h : 0 ≤ a) : Int.tdiv a b = a / b := Int.tdiv_eq_ediv_of_nonneg h
theorem dQR {u v a b : Int} (h : DivIn u v a b) : dQ u a = u / a ∧ dR u (dQ u a) a = u - u / a * a := by
  have hs := dig_start h
  have h1 := h.u0; have h2 := h.a0; have h4 := h.a1; have h5 := h.b1; have h6 := h.uy
  have e2 := Int.emod_add_mul_ediv u a
  have e3 := Int.emod_nonneg u (show a ≠ 0 by omega)
  have e4 : a * (u / a) = u / a * a := Int.mul_comm _ _
  have e5 := Int.ediv_nonneg h1 (show 0 ≤ a by omega)
  have e6 : 0 ≤ u / a * a := Int.mul_nonneg e5 (by omega)
  have e1 : dQ u a = u / a := by
    unfold dQ
    rw [tdiv_nn h1, wu_of e5 (by have := hs.1.q1; omega)]
  refine ⟨e1, ?_⟩
  unfold dR
  rw [e1, wu_of (n := u / a * a) e6 (by omega), wu_of (by omega) (by omega)]

theorem dN_eq {u v q a b Y : Int} (h : DivIn u v a b) (hq : q = digQ u v a b) (hY : Y = a * 4294967296 + b) : dN u v q Y = u * 4294967296 + v - q * (a * 4294967296 + b) := by
  have h1 := dig_rem h
  rw [← hq] at h1
  have hy : a * 4294967296 + b < 18446744073709551616 := by have := h.a1; have := h.b1; omega
  unfold dN
  rw [hY]
  generalize q * (a * 4294967296 + b) = Z at *
  simp only [wu]
  omega

theorem digc {r v : Int} (r0 : 0 ≤ r) (r1 : r < 4294967296) (v0 : 0 ≤ v) (v1 : v < 4294967296) : IntKind.wrap .u64 (IntKind.wrap .u64 (4294967296 * r) + v) = 4294967296 * r + v := by
  rw [wu_of (n := 4294967296 * r) (by omega) (by omega), wu_of (by omega) (by omega)]

theorem div64_sat {y x d : Int} (y0 : 0 < y) (yd : y < d) (d1 : d < 18446744073709551616) (x0 : 0 ≤ x) (x1 : x < 18446744073709551616) :
    Sat Try.prog (tDv y x d) (· = .tup [u6 ((y * 18446744073709551616 + x) / d), u6 ((y * 18446744073709551616 + x) % d)]) := by
  obtain ⟨s, hs⟩ := dvF (by omega) yd d1 x0 x1
  constructor
  rw [LDv_eq]; unfold LDv
  refine ⟨fun h => ?_, fun _ => ⟨fun h => ?_, fun _ => ⟨fun h => ?_, fun _ => ⟨by omega, wu_nonneg _, by decide, wu_nonneg _, wu_nonneg _, wu_nonneg _, by decide, ?_, ?_⟩⟩⟩⟩
  · simp only [beq_iff_eq] at h; omega
  · simp only [decide_eq_true_eq] at h; omega
  · simp only [beq_iff_eq] at h; omega
  · show dA d ≠ 0
    have := hs.inp.a0; omega
  have hin := hs.inp
  obtain ⟨hst, hst1⟩ := dig_start hin
  obtain ⟨q1, q2⟩ := dQR hin
  refine code_satS CD_ok DD_ok (n := 200) (n0 := 0) (nx := 0) (roots := []) (keep := [2, 8, 9, 10, 11, 13, 14, 15, 16]) (drop := []) (h := .nil) (c := codeC (sub pD (tDv y x d))) (st := codeS (sub pD (tDv y x d))) (k := codeK (sub pD (tDv y x d))) (body := bodyD1) (by kernel_rfl) (by kernel_rfl)
    (fun m st => ∃ q r, m = (4294967296 - r).toNat ∧ DigI (dU y x d) (dV x d) (dA d) (dB d) q r ∧ r < 4294967296 ∧ st = invD1 (dY d) (dS d) (dA d) (dB d) (dU y x d) (dV x d) (dW x d) q r)
    (fun e st => e = .exit 0 ∧ ∃ r, st = invD1 (dY d) (dS d) (dA d) (dB d) (dU y x d) (dV x d) (dW x d) (digQ (dU y x d) (dV x d) (dA d) (dB d)) r)
    ⟨_, invD1 (dY d) (dS d) (dA d) (dB d) (dU y x d) (dV x d) (dW x d) (dQ (dU y x d) (dA d)) (dR (dU y x d) (dQ (dU y x d) (dA d)) (dA d)), ⟨_, _, rfl, by rw [q2, q1]; exact hst, by rw [q2]; exact hst1, rfl⟩, ?_⟩ ?_ ?_
  · exact entA_sound (roots := []) (keep := [2, 8, 9, 10, 11, 13, 14, 15, 16]) (drop := []) (nx := 0) (h := .nil) (by kernel_rfl)
  · rintro m st ⟨q, r, rfl, hq, hr, rfl⟩
    refine Sat.of_eq (BD1_eq _ _ _ _ _ _ _ q r) ?_
    constructor
    unfold BD1
    have b1 := dig_qb hq
    have b2 := hq.r0; have b3 := hq.q1
    have a0 := hin.a0; have a1 := hin.a1
    have e0 := digc b2 hr hin.v0 hin.v1
    have e1 : IntKind.wrap .u64 (q * dB d) = q * dB d := wu_of b1.2.1 (by omega)
    have e3 : IntKind.wrap .u64 (r + dA d) = r + dA d := wu_of (by omega) (by omega)
    rw [e0, e1, e3]
    refine ⟨fun hc => ?_, fun hc => ?_⟩
    · have hc : 4294967296 ≤ q ∨ 4294967296 * r + dV x d < q * dB d := by
        simp only [Bool.or_eq_true, decide_eq_true_eq] at hc; exact hc
      have hst := dig_step hq hc
      have e2 : IntKind.wrap .u64 (q - 1) = q - 1 := wu_of (by have := dig_nonneg hin; have := hst.le; omega) (by omega)
      rw [e2]
      refine ⟨fun hb => ?_, fun hb => ?_⟩
      · have hb : 4294967296 ≤ r + dA d := of_decide_eq_true hb
        refine ⟨_, ⟨rfl, r + dA d, rfl⟩, ?_⟩
        rw [← dig_brk hst hb (by omega)]; exact Gc.refl _ _
      · have hb : ¬ 4294967296 ≤ r + dA d := of_decide_eq_false hb
        exact ⟨_, _, by omega, ⟨_, _, rfl, hst, by omega, rfl⟩, Gc.refl _ _⟩
    · have hc : q * dB d ≤ 4294967296 * r + dV x d := by
        simp only [Bool.or_eq_false_iff, decide_eq_false_iff_not] at hc; omega
      refine ⟨_, ⟨rfl, r, rfl⟩, ?_⟩
      rw [← dig_hit hq hc]; exact Gc.refl _ _
  · rintro e st ⟨rfl, r, rfl⟩
    refine Sat.of_eq (t := kD1 y x d (dY d) (dS d) (dA d) (dB d) (dU y x d) (dV x d) (dW x d) (digQ (dU y x d) (dV x d) (dA d) (dB d)) r) (KD1_eq y x d (dY d) (dS d) (dA d) (dB d) (dU y x d) (dV x d) (dW x d) (digQ (dU y x d) (dV x d) (dA d) (dB d)) r) ⟨?_⟩
    unfold KD1
    refine ⟨by have := hin.a0; omega, ?_⟩
    have hD : dY d = dA d * 4294967296 + dB d := by rw [hs.Y, hs.A, hs.B]; omega
    have hN := dN_eq hin rfl hD
    have hrem := dig_rem hin
    obtain ⟨hX1, hX2⟩ := dig_two hin hs.W0 (show (0 : Int) < ((2 ^ s : Nat) : Int) by have := Nat.two_pow_pos s; omega) hs.X (by rw [← hD, hs.Y]) rfl rfl
    rw [← hN] at hrem hX1 hX2
    have hql := dig_lt hin
    have hq0 := dig_nonneg hin
    generalize digQ (dU y x d) (dV x d) (dA d) (dB d) = Q1 at *
    have hin2 : DivIn (dN (dU y x d) (dV x d) Q1 (dY d)) (dW x d) (dA d) (dB d) := ⟨hrem.1, hs.W0.1, hs.W0.2, hin.a0, hin.a1, hin.b0, hin.b1, hrem.2⟩
    obtain ⟨hst, hst1⟩ := dig_start hin2
    obtain ⟨q1, q2⟩ := dQR hin2
    refine code_satS CD_ok DD_ok (n := 200) (n0 := 0) (nx := 0) (roots := []) (keep := [2, 8, 9, 10, 14, 15, 16, 17, 18]) (drop := []) (h := .nil) (c := codeC (sub [0] (kD1 y x d (dY d) (dS d) (dA d) (dB d) (dU y x d) (dV x d) (dW x d) Q1 r))) (st := codeS (sub [0] (kD1 y x d (dY d) (dS d) (dA d) (dB d) (dU y x d) (dV x d) (dW x d) Q1 r))) (k := codeK (sub [0] (kD1 y x d (dY d) (dS d) (dA d) (dB d) (dU y x d) (dV x d) (dW x d) Q1 r))) (body := bodyD2) (by kernel_rfl) (by kernel_rfl)
      (fun m st => ∃ q r, m = (4294967296 - r).toNat ∧ DigI (dN (dU y x d) (dV x d) Q1 (dY d)) (dW x d) (dA d) (dB d) q r ∧ r < 4294967296 ∧ st = invD2 (dY d) (dS d) (dA d) (dB d) (dW x d) Q1 (dN (dU y x d) (dV x d) Q1 (dY d)) q r)
      (fun e st => e = .exit 2 ∧ ∃ r, st = invD2 (dY d) (dS d) (dA d) (dB d) (dW x d) Q1 (dN (dU y x d) (dV x d) Q1 (dY d)) (digQ (dN (dU y x d) (dV x d) Q1 (dY d)) (dW x d) (dA d) (dB d)) r)
      ⟨_, invD2 (dY d) (dS d) (dA d) (dB d) (dW x d) Q1 (dN (dU y x d) (dV x d) Q1 (dY d)) (dQ (dN (dU y x d) (dV x d) Q1 (dY d)) (dA d)) (dR (dN (dU y x d) (dV x d) Q1 (dY d)) (dQ (dN (dU y x d) (dV x d) Q1 (dY d)) (dA d)) (dA d)), ⟨_, _, rfl, by rw [q2, q1]; exact hst, by rw [q2]; exact hst1, rfl⟩, ?_⟩ ?_ ?_
    · exact entA_sound (roots := []) (keep := [2, 8, 9, 10, 14, 15, 16, 17, 18]) (drop := []) (nx := 0) (h := .nil) (by kernel_rfl)
    · rintro m st ⟨q, r, rfl, hq, hr, rfl⟩
      refine Sat.of_eq (BD2_eq _ _ _ _ _ _ _ q r) ?_
      constructor
      unfold BD2
      have b1 := dig_qb hq
      have b2 := hq.r0; have b3 := hq.q1
      have a0 := hin.a0; have a1 := hin.a1
      have e0 := digc b2 hr hin2.v0 hin2.v1
      have e1 : IntKind.wrap .u64 (q * dB d) = q * dB d := wu_of b1.2.1 (by omega)
      have e3 : IntKind.wrap .u64 (r + dA d) = r + dA d := wu_of (by omega) (by omega)
      rw [e0, e1, e3]
      refine ⟨fun hc => ?_, fun hc => ?_⟩
      · have hc : 4294967296 ≤ q ∨ 4294967296 * r + dW x d < q * dB d := by
          simp only [Bool.or_eq_true, decide_eq_true_eq] at hc; exact hc
        have hst := dig_step hq hc
        have e2 : IntKind.wrap .u64 (q - 1) = q - 1 := wu_of (by have := dig_nonneg hin2; have := hst.le; omega) (by omega)
        rw [e2]
        refine ⟨fun hb => ?_, fun hb => ?_⟩
        · have hb : 4294967296 ≤ r + dA d := of_decide_eq_true hb
          refine ⟨_, ⟨rfl, r + dA d, rfl⟩, ?_⟩
          rw [← dig_brk hst hb (by omega)]; exact Gc.refl _ _
        · have hb : ¬ 4294967296 ≤ r + dA d := of_decide_eq_false hb
          exact ⟨_, _, by omega, ⟨_, _, rfl, hst, by omega, rfl⟩, Gc.refl _ _⟩
      · have hc : q * dB d ≤ 4294967296 * r + dW x d := by
          simp only [Bool.or_eq_false_iff, decide_eq_false_iff_not] at hc; omega
        refine ⟨_, ⟨rfl, r, rfl⟩, ?_⟩
        rw [← dig_hit hq hc]; exact Gc.refl _ _
    · rintro e st ⟨rfl, r', rfl⟩
      refine Sat.of_eq (KD2_eq y x d (dY d) (dS d) (dA d) (dB d) (dU y x d) (dV x d) (dW x d) Q1 r (dY d) (dS d) (dA d) (dB d) (dW x d) Q1 (dN (dU y x d) (dV x d) Q1 (dY d)) (digQ (dN (dU y x d) (dV x d) Q1 (dY d)) (dW x d) (dA d) (dB d)) r') ⟨?_⟩
      unfold KD2
      refine ⟨wu_nonneg _, ?_⟩
      have hl2 := dig_lt hin2
      have hn2 := dig_nonneg hin2
      have hN2 := dN_eq hin2 rfl hD
      generalize digQ (dN (dU y x d) (dV x d) Q1 (dY d)) (dW x d) (dA d) (dB d) = Q0 at *
      rw [hX2] at hN2
      generalize dN (dU y x d) (dV x d) Q1 (dY d) = N1 at *
      have hN3 : IntKind.wrap .u64 (IntKind.wrap .u64 (IntKind.wrap .u64 (N1 * 4294967296) + dW x d) - IntKind.wrap .u64 (Q0 * dY d)) = (y * 18446744073709551616 + x) % d * ((2 ^ s : Nat) : Int) := hN2
      rw [wu_of (n := Q1 * 4294967296) (by omega) (by omega), wu_of (by omega) (by omega), hX1]
      have hmin : min (Int.toNat (dS d)) 64 = s := by rw [hs.S]; have := hs.s64; omega
      have hp : (2 : Int) ^ s = ((2 ^ s : Nat) : Int) := by rw [Int.natCast_pow]; rfl
      rw [hN3, hmin, hp, Int.fdiv_eq_ediv_of_nonneg _ (Int.natCast_nonneg _), Int.mul_ediv_cancel _ (by have := Nat.two_pow_pos s; omega)]
      exact rfl

end Go.Proofs.Ytcbjclmjkilphaa.Fr

namespace Go.Proofs.Ytcbjclmjkilphaa.Fr
open Go.Sx
set_option maxRecDepth 100000

noncomputable def cDiv64 : Ctr := fun ss => match ss with
  | [.d (.x (.int .u64 y)), .d (.x (.int .u64 x)), .d (.x (.int .u64 d))] => .need ((0 ≤ y ∧ y < d) ∧ (0 ≤ x ∧ x < 18446744073709551616) ∧ d < 18446744073709551616) (.ret (.tup [u6 ((y * 18446744073709551616 + x) / d), u6 ((y * 18446744073709551616 + x) % d)]))
  | _ => .fail
theorem cDiv64_ok : CtrOK Try.prog 110 cDiv64 := by
  refine ctrOK_leS CD_ok DD_ok (by kernel_rfl) (by kernel_rfl) fun ss r h => ?_
  unfold cDiv64 at h
  split at h
  · rename_i y x d
    obtain ⟨⟨⟨y0, yd⟩, ⟨x0, x1⟩, d1⟩, rfl⟩ := h
    by_cases hy : y = 0
    · subst hy
      refine ⟨[u6 0, u6 x, u6 d], 200, .nil, by simp [leSVs, leSV, u6, leD], Sat.of_eq (LDv_eq 0 x d) ⟨?_⟩⟩
      unfold LDv
      have e1 : Int.tdiv x d = x / d := Int.tdiv_eq_ediv_of_nonneg x0
      have e2 : Int.tmod x d = x % d := tmod_lit x0 d
      have b1 : 0 ≤ x / d := Int.ediv_nonneg x0 (by omega)
      have b2 : x / d ≤ x := Int.ediv_le_self _ x0
      rw [e1, e2, wu_of b1 (by omega), Int.zero_mul, Int.zero_add]
      refine ⟨fun hc => by simp only [beq_iff_eq] at hc; omega, fun _ => ⟨fun hc => by simp only [decide_eq_true_eq] at hc; omega, fun _ => ⟨fun _ => ⟨by omega, by omega, rfl⟩, fun hc => by simp at hc⟩⟩⟩
    · exact ⟨[u6 y, u6 x, u6 d], 200, .nil, by simp [leSVs, leSV, u6, leD], div64_sat (by omega) yd d1 x0 x1⟩
  · exact h.elim

noncomputable def gcd2 : DV → DV → Tr SV := fun p q => match p, q with
  | .x (.int .u64 a), .x (.int .u64 b) => .need (0 ≤ a ∧ 0 ≤ b) (.ret (u6 (Int.gcd a b)))
  | _, _ => .fail
/-- The same contract, its numbers taken out of the row. -/
noncomputable def cGcdV : Ctr := fun ss => match ss with
  | [.d (.ro 2 1 cell)] => gcd2 (cell 0 0) (cell 1 0)
  | _ => .fail
theorem cGcdV_ok : CtrOK Try.prog 94 cGcdV := cGcdU_ok.mono fun ss r h => by
  unfold cGcdV at h
  split at h
  · rename_i cell
    unfold gcd2 at h
    split at h
    · rename_i a b e1 e2
      obtain ⟨⟨h1, h2⟩, rfl⟩ := h
      have f1 : intCell cell 0 = a := by simp [intCell, e1, intOf1]
      have f2 : intCell cell 1 = b := by simp [intCell, e2, intOf1]
      refine ⟨⟨a, b, e1, e2, h1, h2⟩, ?_⟩
      rw [f1, f2]; exact rfl
    · exact h.elim
  · exact h.elim

noncomputable def man7 : FuncId → Option Ctr := fun k => match k with
  | 95 => some cAbsU
  | 94 => some cGcdV
  | 106 => some cMul64
  | 110 => some cDiv64
  | 100 => some cTm
  | 101 => some cPl
  | 99 => some cMd
  | _ => none
theorem man7_ok (k : Nat) (c : Ctr) (h : man7 k = some c) : CtrOK Try.prog k c ∧ goodF Try.prog k = true := by
  unfold man7 at h
  split at h <;> first | (cases h; done) | (cases h)
  · exact ⟨cAbsU_ok, by kernel_rfl⟩
  · exact ⟨cGcdV_ok, by kernel_rfl⟩
  · exact ⟨cMul64_ok, by kernel_rfl⟩
  · exact ⟨cDiv64_ok, by kernel_rfl⟩
  · exact ⟨cTm_ok, by kernel_rfl⟩
  · exact ⟨cPl_ok, by kernel_rfl⟩
  · exact ⟨cMd_ok, by kernel_rfl⟩
noncomputable def C7 : Ctx := ctxN Try.prog man7 (fun _ => false) 200 .nil 6
theorem C7_ok : CtxOK Try.prog C7 := ctxN_ok mixed man7_ok 6
noncomputable def D7 : Dr := fun _ => drawn Try.prog C7
theorem D7_ok : DrOK Try.prog C7 D7 := drawn_ok C7_ok mixed
noncomputable def T7 (k : Nat) (args : List SV) : Tree SV := fnT Try.prog C7 D7 200 (fnOf Try.prog k) (bodyOf Try.prog k) args .nil

noncomputable def LRm (y x d : Int) : Tree SV :=
  .need (d ≠ (0 : Int))
  (.need (((0 : Int) ≤ Int.tmod y d ∧ Int.tmod y d < d) ∧ ((0 : Int) ≤ x ∧ x < (18446744073709551616 : Int)) ∧ d < (18446744073709551616 : Int))
    (.ret (SV.d (DV.x (.int .u64 ((Int.tmod y d * (18446744073709551616 : Int) + x) % d))))))

theorem LRm_eq (y x d : Int) : T7 103 [u6 y, u6 x, u6 d] = LRm y x d := by kernel_rfl

noncomputable def LOv7 (s : Bool) (h l m : Int) : Tree SV :=
  .need (m ≠ (0 : Int))
  (.need (((0 : Int) ≤ Int.tmod h m ∧ Int.tmod h m < m) ∧ ((0 : Int) ≤ l ∧ l < (18446744073709551616 : Int)) ∧ m < (18446744073709551616 : Int))
    (.need (m ≠ (0 : Int)) (.ret (SV.agg [bv s, SV.d (DV.x (.int .u64 (IntKind.wrap .u64 (Int.tdiv h m)))), SV.d (DV.x (.int .u64 ((Int.tmod h m * (18446744073709551616 : Int) + l) / m)))]))))

theorem LOv7_eq (s : Bool) (h l m : Int) : T7 104 [.agg [bv s, u6 h, u6 l], u6 m] = LOv7 s h l m := by kernel_rfl

noncomputable def LMu (a b c d : Int) : Tree SV :=
  .ite (a == (0 : Int) || c == (0 : Int)) (.ret (SV.tup [SV.agg [iv (0 : Int), iv (1 : Int)], iv (0 : Int)]))
  (.need ((-9223372036854775808 : Int) ≤ a ∧ a ≤ (9223372036854775807 : Int))
   (.need (2 ≤ List.length [SV.d (DV.x (.int .u64 (↑(Int.natAbs a) : Int))), SV.d (DV.x (.int .u64 (IntKind.wrap .u64 d)))])
   (.need ((0 : Int) ≤ (↑(Int.natAbs a) : Int) ∧ (0 : Int) ≤ IntKind.wrap .u64 d)
   (.need ((-9223372036854775808 : Int) ≤ c ∧ c ≤ (9223372036854775807 : Int))
   (.need (2 ≤ List.length [SV.d (DV.x (.int .u64 (↑(Int.natAbs c) : Int))), SV.d (DV.x (.int .u64 (IntKind.wrap .u64 b)))])
   (.need ((0 : Int) ≤ (↑(Int.natAbs c) : Int) ∧ (0 : Int) ≤ IntKind.wrap .u64 b)
   (.need (w64 (↑(Int.gcd (↑(Int.natAbs a) : Int) (IntKind.wrap .u64 d)) : Int) ≠ (0 : Int))
   (.need (w64 (↑(Int.gcd (↑(Int.natAbs c) : Int) (IntKind.wrap .u64 b)) : Int) ≠ (0 : Int))
   (.need
   (((-9223372036854775808 : Int) ≤ w64 (Int.tdiv a (w64 (↑(Int.gcd (↑(Int.natAbs a) : Int) (IntKind.wrap .u64 d)) : Int))) ∧
   w64 (Int.tdiv a (w64 (↑(Int.gcd (↑(Int.natAbs a) : Int) (IntKind.wrap .u64 d)) : Int))) ≤ (9223372036854775807 : Int)) ∧
   (-9223372036854775808 : Int) ≤ w64 (Int.tdiv c (w64 (↑(Int.gcd (↑(Int.natAbs c) : Int) (IntKind.wrap .u64 b)) : Int))) ∧
   w64 (Int.tdiv c (w64 (↑(Int.gcd (↑(Int.natAbs c) : Int) (IntKind.wrap .u64 b)) : Int))) ≤ (9223372036854775807 : Int))
   (.need (w64 (↑(Int.gcd (↑(Int.natAbs c) : Int) (IntKind.wrap .u64 b)) : Int) ≠ (0 : Int))
   (.need (w64 (↑(Int.gcd (↑(Int.natAbs a) : Int) (IntKind.wrap .u64 d)) : Int) ≠ (0 : Int))
   (.need
   (((-9223372036854775808 : Int) ≤ w64 (Int.tdiv b (w64 (↑(Int.gcd (↑(Int.natAbs c) : Int) (IntKind.wrap .u64 b)) : Int))) ∧
   w64 (Int.tdiv b (w64 (↑(Int.gcd (↑(Int.natAbs c) : Int) (IntKind.wrap .u64 b)) : Int))) ≤ (9223372036854775807 : Int)) ∧
   (-9223372036854775808 : Int) ≤ w64 (Int.tdiv d (w64 (↑(Int.gcd (↑(Int.natAbs a) : Int) (IntKind.wrap .u64 d)) : Int))) ∧
   w64 (Int.tdiv d (w64 (↑(Int.gcd (↑(Int.natAbs a) : Int) (IntKind.wrap .u64 d)) : Int))) ≤ (9223372036854775807 : Int))
   (.need
   (((0 : Int) ≤
   (↑(Int.natAbs (w64 (Int.tdiv a (w64 (↑(Int.gcd (↑(Int.natAbs a) : Int) (IntKind.wrap .u64 d)) : Int)))) *
   Int.natAbs (w64 (Int.tdiv c (w64 (↑(Int.gcd (↑(Int.natAbs c) : Int) (IntKind.wrap .u64 b)) : Int)))) /
   18446744073709551616) :
   Int) ∧
   (0 : Int) ≤
   (↑(Int.natAbs (w64 (Int.tdiv a (w64 (↑(Int.gcd (↑(Int.natAbs a) : Int) (IntKind.wrap .u64 d)) : Int)))) *
   Int.natAbs (w64 (Int.tdiv c (w64 (↑(Int.gcd (↑(Int.natAbs c) : Int) (IntKind.wrap .u64 b)) : Int)))) %
   18446744073709551616) :
   Int) ∧
   (↑(Int.natAbs (w64 (Int.tdiv a (w64 (↑(Int.gcd (↑(Int.natAbs a) : Int) (IntKind.wrap .u64 d)) : Int)))) *
   Int.natAbs (w64 (Int.tdiv c (w64 (↑(Int.gcd (↑(Int.natAbs c) : Int) (IntKind.wrap .u64 b)) : Int)))) %
   18446744073709551616) :
   Int) <
   (18446744073709551616 : Int)) ∧
   ((0 : Int) ≤
   (↑(Int.natAbs (w64 (Int.tdiv b (w64 (↑(Int.gcd (↑(Int.natAbs c) : Int) (IntKind.wrap .u64 b)) : Int)))) *
   Int.natAbs (w64 (Int.tdiv d (w64 (↑(Int.gcd (↑(Int.natAbs a) : Int) (IntKind.wrap .u64 d)) : Int)))) /
   18446744073709551616) :
   Int) ∧
   (0 : Int) ≤
   (↑(Int.natAbs (w64 (Int.tdiv b (w64 (↑(Int.gcd (↑(Int.natAbs c) : Int) (IntKind.wrap .u64 b)) : Int)))) *
   Int.natAbs (w64 (Int.tdiv d (w64 (↑(Int.gcd (↑(Int.natAbs a) : Int) (IntKind.wrap .u64 d)) : Int)))) %
   18446744073709551616) :
   Int) ∧
   (↑(Int.natAbs (w64 (Int.tdiv b (w64 (↑(Int.gcd (↑(Int.natAbs c) : Int) (IntKind.wrap .u64 b)) : Int)))) *
   Int.natAbs (w64 (Int.tdiv d (w64 (↑(Int.gcd (↑(Int.natAbs a) : Int) (IntKind.wrap .u64 d)) : Int)))) %
   18446744073709551616) :
   Int) <
   (18446744073709551616 : Int)) ∧
   (!decide (w64 (Int.tdiv b (w64 (↑(Int.gcd (↑(Int.natAbs c) : Int) (IntKind.wrap .u64 b)) : Int))) < (0 : Int)) ==
   decide (w64 (Int.tdiv d (w64 (↑(Int.gcd (↑(Int.natAbs a) : Int) (IntKind.wrap .u64 d)) : Int))) < (0 : Int))) =
   false)
   (.ret
   (SV.tup
   [SV.agg
   [iv
   (finN
   (!decide (w64 (Int.tdiv a (w64 (↑(Int.gcd (↑(Int.natAbs a) : Int) (IntKind.wrap .u64 d)) : Int))) < (0 : Int)) ==
   decide (w64 (Int.tdiv c (w64 (↑(Int.gcd (↑(Int.natAbs c) : Int) (IntKind.wrap .u64 b)) : Int))) < (0 : Int)))
   (wN
   (↑(Int.natAbs (w64 (Int.tdiv a (w64 (↑(Int.gcd (↑(Int.natAbs a) : Int) (IntKind.wrap .u64 d)) : Int)))) *
   Int.natAbs (w64 (Int.tdiv c (w64 (↑(Int.gcd (↑(Int.natAbs c) : Int) (IntKind.wrap .u64 b)) : Int)))) /
   18446744073709551616) :
   Int)
   (↑(Int.natAbs (w64 (Int.tdiv a (w64 (↑(Int.gcd (↑(Int.natAbs a) : Int) (IntKind.wrap .u64 d)) : Int)))) *
   Int.natAbs (w64 (Int.tdiv c (w64 (↑(Int.gcd (↑(Int.natAbs c) : Int) (IntKind.wrap .u64 b)) : Int)))) %
   18446744073709551616) :
   Int))
   (wN
   (↑(Int.natAbs (w64 (Int.tdiv b (w64 (↑(Int.gcd (↑(Int.natAbs c) : Int) (IntKind.wrap .u64 b)) : Int)))) *
   Int.natAbs (w64 (Int.tdiv d (w64 (↑(Int.gcd (↑(Int.natAbs a) : Int) (IntKind.wrap .u64 d)) : Int)))) /
   18446744073709551616) :
   Int)
   (↑(Int.natAbs (w64 (Int.tdiv b (w64 (↑(Int.gcd (↑(Int.natAbs c) : Int) (IntKind.wrap .u64 b)) : Int)))) *
   Int.natAbs (w64 (Int.tdiv d (w64 (↑(Int.gcd (↑(Int.natAbs a) : Int) (IntKind.wrap .u64 d)) : Int)))) %
   18446744073709551616) :
   Int))),
   iv
   (finD
   (wN
   (↑(Int.natAbs (w64 (Int.tdiv a (w64 (↑(Int.gcd (↑(Int.natAbs a) : Int) (IntKind.wrap .u64 d)) : Int)))) *
   Int.natAbs (w64 (Int.tdiv c (w64 (↑(Int.gcd (↑(Int.natAbs c) : Int) (IntKind.wrap .u64 b)) : Int)))) /
   18446744073709551616) :
   Int)
   (↑(Int.natAbs (w64 (Int.tdiv a (w64 (↑(Int.gcd (↑(Int.natAbs a) : Int) (IntKind.wrap .u64 d)) : Int)))) *
   Int.natAbs (w64 (Int.tdiv c (w64 (↑(Int.gcd (↑(Int.natAbs c) : Int) (IntKind.wrap .u64 b)) : Int)))) %
   18446744073709551616) :
   Int))
   (wN
   (↑(Int.natAbs (w64 (Int.tdiv b (w64 (↑(Int.gcd (↑(Int.natAbs c) : Int) (IntKind.wrap .u64 b)) : Int)))) *
   Int.natAbs (w64 (Int.tdiv d (w64 (↑(Int.gcd (↑(Int.natAbs a) : Int) (IntKind.wrap .u64 d)) : Int)))) /
   18446744073709551616) :
   Int)
   (↑(Int.natAbs (w64 (Int.tdiv b (w64 (↑(Int.gcd (↑(Int.natAbs c) : Int) (IntKind.wrap .u64 b)) : Int)))) *
   Int.natAbs (w64 (Int.tdiv d (w64 (↑(Int.gcd (↑(Int.natAbs a) : Int) (IntKind.wrap .u64 d)) : Int)))) %
   18446744073709551616) :
   Int)))],
   iv
   (finE
   (wN
   (↑(Int.natAbs (w64 (Int.tdiv a (w64 (↑(Int.gcd (↑(Int.natAbs a) : Int) (IntKind.wrap .u64 d)) : Int)))) *
   Int.natAbs (w64 (Int.tdiv c (w64 (↑(Int.gcd (↑(Int.natAbs c) : Int) (IntKind.wrap .u64 b)) : Int)))) /
   18446744073709551616) :
   Int)
   (↑(Int.natAbs (w64 (Int.tdiv a (w64 (↑(Int.gcd (↑(Int.natAbs a) : Int) (IntKind.wrap .u64 d)) : Int)))) *
   Int.natAbs (w64 (Int.tdiv c (w64 (↑(Int.gcd (↑(Int.natAbs c) : Int) (IntKind.wrap .u64 b)) : Int)))) %
   18446744073709551616) :
   Int))
   (wN
   (↑(Int.natAbs (w64 (Int.tdiv b (w64 (↑(Int.gcd (↑(Int.natAbs c) : Int) (IntKind.wrap .u64 b)) : Int)))) *
   Int.natAbs (w64 (Int.tdiv d (w64 (↑(Int.gcd (↑(Int.natAbs a) : Int) (IntKind.wrap .u64 d)) : Int)))) /
   18446744073709551616) :
   Int)
   (↑(Int.natAbs (w64 (Int.tdiv b (w64 (↑(Int.gcd (↑(Int.natAbs c) : Int) (IntKind.wrap .u64 b)) : Int)))) *
   Int.natAbs (w64 (Int.tdiv d (w64 (↑(Int.gcd (↑(Int.natAbs a) : Int) (IntKind.wrap .u64 d)) : Int)))) %
   18446744073709551616) :
   Int)))])))))))))))))))

theorem LMu_eq (a b c d : Int) : T7 88 [.agg [iv a, iv b], .agg [iv c, iv d]] = LMu a b c d := by kernel_rfl

noncomputable def LVd (a b : Int) : Tree SV :=
  .ite (decide (b ≥ (1 : Int)) && decide (b ≤ (4611686018427387904 : Int)) && decide (a ≥ (-4611686018427387904 : Int)) && decide (a ≤ (4611686018427387904 : Int)))
  (.need ((-9223372036854775808 : Int) ≤ a ∧ a ≤ (9223372036854775807 : Int))
    (.need (2 ≤ List.length [SV.d (DV.x (.int .u64 (↑(Int.natAbs a) : Int))), SV.d (DV.x (.int .u64 (IntKind.wrap .u64 b)))])
      (.need ((0 : Int) ≤ (↑(Int.natAbs a) : Int) ∧ (0 : Int) ≤ IntKind.wrap .u64 b) (.ret (bv ((↑(Int.gcd (↑(Int.natAbs a) : Int) (IntKind.wrap .u64 b)) : Int) == (1 : Int)))))))
  (.ret (bv false))

theorem LVd_eq (a b : Int) : T7 84 [.agg [iv a, iv b]] = LVd a b := by kernel_rfl


end Go.Proofs.Ytcbjclmjkilphaa.Fr

