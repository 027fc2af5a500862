/- Part of a proof of the given statements of this seat (SxBits, SxRat, SxFm0, SxFmA, SxFmB, SxFmC, SxFmD, SxFmE, SxFmF, SxFmG, SxFmH, SxFmI, SxFmJ, SxFmK, SxFmL, SxFmM, SxFmN, SxFmO, SxFmP, SxFmQ, SxFmR, SxFmS, SxFmT, SxDiv, SxFmU, SxFmV, SxFmW, SxFmWa, SxFmWb, SxFmWc, SxFmWd, SxFmWe): no conditions beyond those typed here. -/
import Derived.Test.YtpaejfeojdoikaaProg
import Derived.Test.YtpaejfeojdoikaaSw04
set_option linter.unusedVariables false
set_option linter.unusedSimpArgs false
set_option linter.unusedSectionVars false
set_option linter.constructorNameAsVariable false

namespace Go.Sx
def bitN (n i : Nat) : Nat := n / 2 ^ i % 2
def blen (n : Nat) : Nat := if h : n = 0 then 0 else blen (n / 2) + 1
termination_by n
decreasing_by omega
theorem blen_zero : blen 0 = 0 := by rw [blen]; simp
theorem blen_pos {n : Nat} (h : n ≠ 0) : blen n = blen (n / 2) + 1 := by rw [blen]; simp [h]
theorem blen_le {n : Nat} : ∀ {k : Nat}, blen n ≤ k ↔ n < 2 ^ k := by
  induction n using Nat.strongRecOn with
  | _ n ih =>
    intro k
    by_cases h : n = 0
    · subst h; rw [blen_zero]; simp [Nat.pow_pos]
    · rw [blen_pos h]
      cases k with
      | zero => simp; omega
      | succ k =>
        rw [Nat.add_le_add_iff_right, ih (n / 2) (by omega), Nat.pow_succ]
        omega
theorem lt_pow_blen (n : Nat) : n < 2 ^ blen n := blen_le.1 (Nat.le_refl _)
theorem bitN_lt (n i : Nat) : bitN n i < 2 := Nat.mod_lt _ (by omega)
theorem bitN_high {n i : Nat} (h : blen n ≤ i) : bitN n i = 0 := by
  unfold bitN
  rw [Nat.div_eq_of_lt (blen_le.1 h)]
def valN (c : Nat → Int) : Nat → Nat
  | 0 => 0
  | k + 1 => valN c k + (c k).toNat * 2 ^ k
def Bits (len : Nat) (c : Nat → Int) : Prop := ∀ i, i < len → c i = 0 ∨ c i = 1
theorem Bits.mono {a b : Nat} {c : Nat → Int} (h : Bits b c) (hab : a ≤ b) : Bits a c := fun i hi => h i (by omega)
theorem valN_lt {c : Nat → Int} : ∀ {len : Nat}, Bits len c → valN c len < 2 ^ len
  | 0, _ => by simp [valN]
  | k + 1, h => by
    have ih := valN_lt (h.mono (Nat.le_succ k))
    simp only [valN, Nat.pow_succ]
    rcases h k (by omega) with e | e <;> rw [e] <;> simp <;> omega
theorem mod_succ_pow (n k : Nat) : n % 2 ^ (k + 1) = n % 2 ^ k + bitN n k * 2 ^ k := by
  unfold bitN
  rw [Nat.pow_succ, Nat.mod_mul, Nat.mul_comm (n / 2 ^ k % 2)]
theorem valN_mod {c : Nat → Int} {n : Nat} : ∀ {k : Nat}, (∀ i, i < k → c i = bitN n i) → valN c k = n % 2 ^ k
  | 0, _ => by simp [valN, Nat.mod_one]
  | k + 1, h => by
    rw [valN, valN_mod (fun i hi => h i (by omega)), mod_succ_pow, h k (by omega)]
    simp
theorem valN_bits (n : Nat) : valN (fun i => (bitN n i : Int)) (blen n) = n := by
  rw [valN_mod (n := n) (fun i _ => rfl), Nat.mod_eq_of_lt (lt_pow_blen n)]
theorem valN_bits' {n len : Nat} (h : n < 2 ^ len) : valN (fun i => (bitN n i : Int)) len = n := by
  rw [valN_mod (n := n) (fun i _ => rfl), Nat.mod_eq_of_lt h]
theorem bitN_valN {c : Nat → Int} {i : Nat} : ∀ {len : Nat}, Bits len c → i < len → (bitN (valN c len) i : Int) = c i
  | 0, _, h => by omega
  | k + 1, h, hi => by
    have hlt := valN_lt (h.mono (Nat.le_succ k))
    simp only [valN]
    by_cases hik : i = k
    · subst hik
      unfold bitN
      rw [Nat.add_mul_div_right _ _ (Nat.pow_pos (by omega)), Nat.div_eq_of_lt hlt]
      rcases h i (by omega) with e | e <;> rw [e] <;> simp
    · have ih := bitN_valN (i := i) (h.mono (Nat.le_succ k)) (by omega)
      rw [← ih]
      unfold bitN
      have e : (c k).toNat * 2 ^ k = (c k).toNat * 2 ^ (k - i - 1) * 2 * 2 ^ i := by
        rw [Nat.mul_assoc, Nat.mul_assoc, ← Nat.pow_succ', ← Nat.pow_add]
        congr 2; omega
      rw [e, Nat.add_mul_div_right _ _ (Nat.pow_pos (by omega))]
      omega
def carryN (a b k : Nat) : Nat := (a % 2 ^ k + b % 2 ^ k) / 2 ^ k
theorem carry_zero (a b : Nat) : carryN a b 0 = 0 := by simp [carryN, Nat.mod_one]
theorem add_split (a b k : Nat) : a % 2 ^ k + b % 2 ^ k = (a + b) % 2 ^ k + carryN a b k * 2 ^ k := by
  unfold carryN
  have := Nat.div_add_mod (a % 2 ^ k + b % 2 ^ k) (2 ^ k)
  rw [← Nat.add_mod] at this
  rw [Nat.mul_comm] at this
  omega
theorem carry_le (a b k : Nat) : carryN a b k ≤ 1 := by
  have h1 := add_split a b k
  have h2 := Nat.mod_lt a (Nat.pow_pos (n := k) (show 0 < 2 by omega))
  have h3 := Nat.mod_lt b (Nat.pow_pos (n := k) (show 0 < 2 by omega))
  have : carryN a b k * 2 ^ k < 2 * 2 ^ k := by omega
  have := Nat.lt_of_mul_lt_mul_right this
  omega
theorem add_step (a b k : Nat) : bitN a k + bitN b k + carryN a b k = bitN (a + b) k + 2 * carryN a b (k + 1) := by
  have h1 := add_split a b k
  have h2 := add_split a b (k + 1)
  rw [mod_succ_pow a k, mod_succ_pow b k, mod_succ_pow (a + b) k, Nat.pow_succ] at h2
  have hp : 0 < 2 ^ k := Nat.pow_pos (by omega)
  have : (bitN a k + bitN b k + carryN a b k) * 2 ^ k = (bitN (a + b) k + 2 * carryN a b (k + 1)) * 2 ^ k := by
    rw [Nat.add_mul, Nat.add_mul, Nat.add_mul, Nat.mul_assoc 2, Nat.mul_comm 2, Nat.mul_assoc]
    omega
  exact Nat.eq_of_mul_eq_mul_right hp this
def borrowN (a b k : Nat) : Nat := if a % 2 ^ k < b % 2 ^ k then 1 else 0
theorem sub_split {a b : Nat} (h : b ≤ a) (k : Nat) : a % 2 ^ k + borrowN a b k * 2 ^ k = b % 2 ^ k + (a - b) % 2 ^ k := by
  have h1 := add_split b (a - b) k
  rw [Nat.add_sub_cancel' h] at h1
  have h2 := carry_le b (a - b) k
  have h3 := Nat.mod_lt a (Nat.pow_pos (n := k) (show 0 < 2 by omega))
  have h4 := Nat.mod_lt (a - b) (Nat.pow_pos (n := k) (show 0 < 2 by omega))
  have h5 := Nat.mod_lt b (Nat.pow_pos (n := k) (show 0 < 2 by omega))
  have hc : carryN b (a - b) k = 0 ∨ carryN b (a - b) k = 1 := by omega
  unfold borrowN
  rcases hc with e | e <;> rw [e] at h1 <;> split <;> omega
theorem sub_step {a b : Nat} (h : b ≤ a) (k : Nat) : (bitN a k : Int) - bitN b k - borrowN a b k = (bitN (a - b) k : Int) - 2 * borrowN a b (k + 1) := by
  have h1 := sub_split h k
  have h2 := sub_split h (k + 1)
  rw [mod_succ_pow a k, mod_succ_pow b k, mod_succ_pow (a - b) k, Nat.pow_succ] at h2
  have hp : 0 < 2 ^ k := Nat.pow_pos (by omega)
  have : (bitN a k + 2 * borrowN a b (k + 1)) * 2 ^ k = (bitN b k + bitN (a - b) k + borrowN a b k) * 2 ^ k := by
    rw [Nat.add_mul, Nat.add_mul, Nat.add_mul, Nat.mul_assoc 2, Nat.mul_comm 2, Nat.mul_assoc]
    omega
  have := Nat.eq_of_mul_eq_mul_right hp this
  omega
theorem div_succ_pow (n k : Nat) : n / 2 ^ k = 2 * (n / 2 ^ (k + 1)) + bitN n k := by
  unfold bitN
  rw [Nat.pow_succ, ← Nat.div_div_eq_div_mul]; omega
theorem cmp_step {a b k : Nat} (h : a / 2 ^ (k + 1) = b / 2 ^ (k + 1)) (hb : bitN a k = bitN b k) : a / 2 ^ k = b / 2 ^ k := by
  rw [div_succ_pow a, div_succ_pow b, h, hb]
theorem cmp_ne {a b k : Nat} (h : a / 2 ^ (k + 1) = b / 2 ^ (k + 1)) (hb : bitN a k ≠ bitN b k) : (bitN a k : Int) - bitN b k = if a < b then -1 else 1 := by
  have h1 := div_succ_pow a k
  have h2 := div_succ_pow b k
  have h3 := bitN_lt a k
  have h4 := bitN_lt b k
  by_cases hlt : a < b
  · rw [if_pos hlt]
    have : a / 2 ^ k ≤ b / 2 ^ k := Nat.div_le_div_right (by omega)
    omega
  · rw [if_neg hlt]
    have : b / 2 ^ k ≤ a / 2 ^ k := Nat.div_le_div_right (by omega)
    omega
theorem mul_step (a b k : Nat) : a * (b % 2 ^ (k + 1)) = a * (b % 2 ^ k) + bitN b k * (a * 2 ^ k) := by
  rw [mod_succ_pow, Nat.mul_add]
  congr 1
  rw [Nat.mul_left_comm]
end Go.Sx
namespace Go.Sx
structure Low (n d : Int) : Prop where
  pos : 1 ≤ d
  cop : n.natAbs.gcd d.toNat = 1
def ratOf (n d : Int) : Rat := mkRat n d.toNat
theorem Low.num {n d : Int} (h : Low n d) : (ratOf n d).num = n := by
  unfold ratOf
  have := h.pos
  rw [Rat.num_mkRat, if_neg (by omega), Nat.gcd_comm, h.cop]; simp
theorem Low.den {n d : Int} (h : Low n d) : ((ratOf n d).den : Int) = d := by
  unfold ratOf
  have := h.pos
  rw [Rat.den_mkRat, if_neg (by omega), Nat.gcd_comm, h.cop]; simp; omega
theorem low_rat (q : Rat) : Low q.num q.den := ⟨by have := q.den_pos; omega, q.reduced⟩
theorem ratOf_rat (q : Rat) : ratOf q.num q.den = q := by
  unfold ratOf; rw [Int.toNat_natCast, Rat.mkRat_self]
theorem ratOf_red {n d : Int} (hd : 0 < d) {g : Nat} (hg : g = n.natAbs.gcd d.toNat) : (ratOf n d).num = n.tdiv g ∧ ((ratOf n d).den : Int) = d.tdiv g := by
  unfold ratOf
  have h1 : g ∣ n.natAbs := hg ▸ Nat.gcd_dvd_left _ _
  rw [Rat.num_mkRat, Rat.den_mkRat, if_neg (by omega), if_neg (by omega), Nat.gcd_comm, ← hg]
  constructor
  · rw [Int.tdiv_eq_ediv_of_dvd (by rw [Int.ofNat_dvd_left]; exact h1)]
  · rw [Int.tdiv_eq_ediv_of_nonneg (by omega)]
    obtain ⟨D, rfl⟩ := Int.eq_ofNat_of_zero_le (show 0 ≤ d by omega)
    simp
theorem rat_cmp (a b : Rat) : (a < b ↔ a.num * b.den < b.num * a.den) ∧ (a = b ↔ a.num * b.den = b.num * a.den) := ⟨Rat.lt_iff a b, Rat.eq_iff_mul_eq_mul⟩
end Go.Sx
namespace Go.Proofs.Ytpaejfeojdoikaa
open Go.Sx
set_option maxRecDepth 100000
noncomputable instance globs0 : Globs := ⟨fun _ => none, fun _ => none⟩
theorem mixed : Try.prog.follows .mixedOrders = true := by kernel_rfl
noncomputable def C0 : Ctx := ctxN Try.prog (fun _ => none) (fun _ => false) 200 .nil 6
theorem C0_ok : CtxOK Try.prog C0 := ctxN_ok mixed (fun k c h => by cases h) 6
noncomputable def D0 : Dr := fun _ => drawn Try.prog C0
theorem D0_ok : DrOK Try.prog C0 D0 := drawn_ok C0_ok mixed
noncomputable def T0 (k : Nat) (args : List SV) : Tree SV := fnT Try.prog C0 D0 200 (fnOf Try.prog k) (bodyOf Try.prog k) args .nil
theorem w64_of {n : Int} (h1 : -9223372036854775808 ≤ n) (h2 : n ≤ 9223372036854775807) : w64 n = n := by
  unfold w64 IntKind.wrap
  simp [IntKind.signed, IntKind.bits]
  omega
theorem tmod_lit {a : Int} (h : 0 ≤ a) (b : Int) : Int.tmod a b = a % b := Int.tmod_eq_emod_of_nonneg h
theorem sub_nil {α : Type} (t : Tree α) : sub [] t = t := by unfold sub; rfl
theorem Sat.of_eq {α : Type} {P : Program} {t t' : Tree α} {Q : α → Prop} (h : t = t') (k : Sat P t' Q) : Sat P t Q := h ▸ k
def Is (X : AS) : AS → Prop := fun s => s = X
def intOf1 : DV → Int | .x (.int _ n) => n | _ => 0
noncomputable def intCell (cell : Nat → Nat → DV) : Nat → Int := fun i => intOf1 (cell i 0)
theorem le_ro64 {n : Nat} {cell : Nat → Nat → DV} (hb : ∀ i, i < n → ∃ b, cell i 0 = .x (.int .i64 b)) : ∀ i j, i < n → j < 1 → cell i j = .x (.int .i64 (intCell cell i)) := by
  intro i j hi hj
  obtain rfl : j = 0 := by omega
  obtain ⟨b, e⟩ := hb i hi
  simp [intCell, e, intOf1]
end Go.Proofs.Ytpaejfeojdoikaa
namespace Go.Proofs.Ytpaejfeojdoikaa
open Go.Sx
set_option maxRecDepth 100000
noncomputable def tAt (n : Nat) (c : Nat → Int) (i : Int) : Tree SV := T0 177 [ro64 n c, iv i]
noncomputable def LAt (n : Nat) (c : Nat → Int) (i : Int) : Tree SV :=
  .ite (decide (i < (↑n : Int))) (.need ((0 : Int) ≤ i ∧ i < (↑n : Int)) (.ret (iv (c (Int.toNat i))))) (.ret (iv (0 : Int)))
theorem LAt_eq (n : Nat) (c : Nat → Int) (i : Int) : tAt n c i = LAt n c i := by kernel_rfl
noncomputable def tSize (n : Int) : Tree SV := T0 81 [iv n]
noncomputable def LSize (n : Int) : Tree SV :=
  .ite (decide (n < (0 : Int))) (.ret (iv (w64 ((0 : Int) - n)))) (.ret (iv n))
theorem LSize_eq (n : Int) : tSize n = LSize n := by kernel_rfl
noncomputable def tHalf (n g : Int) : Tree SV := T0 162 [iv n, iv g]
noncomputable def LHalf (n g : Int) : Tree SV :=
  .need (g ≠ (0 : Int)) (.ite (decide (w64 (Int.tdiv n g) < (0 : Int))) (.ret (iv (w64 ((0 : Int) - w64 (Int.tdiv n g))))) (.ret (iv (w64 (Int.tdiv n g)))))
theorem LHalf_eq (n g : Int) : tHalf n g = LHalf n g := by kernel_rfl
noncomputable def tGcd (a b : Int) : Tree SV := T0 80 [iv a, iv b]
noncomputable def invGcd (a b : Int) : AS := ⟨[.ok (iv a), .ok (iv b)] ++ List.replicate 12 .unk, [], 0, .nil⟩
noncomputable def bodyGcd : Code := loopN (bodyOf Try.prog 80) 0
noncomputable def BGcd (a b : Int) : Tree (Ex × AS) :=
  .ite (decide (b > (0 : Int)))
  (.need (b ≠ (0 : Int))
    (.ret (.normal, { tm := [.ok (iv b), .ok (iv (Int.tmod a b)), .unk, .unk, .unk, .unk, .unk, .unk, .unk, .unk, .unk, .unk, .unk, .unk], hp := [], next := 0, hint := .nil })))
  (.ret (.exit 0, { tm := [.ok (iv a), .ok (iv b), .unk, .unk, .unk, .unk, .unk, .unk, .unk, .unk, .unk, .unk, .unk, .unk], hp := [], next := 0, hint := .nil }))
theorem BGcd_eq (a b : Int) : cutT 0 [] [0, 1] [] 0 .nil (exec Try.prog C0 D0 200 bodyGcd (invGcd a b)) = BGcd a b := by kernel_rfl
noncomputable def KGcd (a b x y : Int) : Tree SV :=
  .ret (iv x)
theorem KGcd_eq (a b x y : Int) : codeK (sub [] (tGcd a b)) (.exit 0) (invGcd x y) = KGcd a b x y := by kernel_rfl
noncomputable def tBits (n : Int) : Tree SV := T0 115 [iv n]
noncomputable def invBits (n : Int) (k : Nat) (c : Nat → Int) : AS := ⟨[.ok (iv n), .unk, .unk, .ok (.row 1 0 0 k 1)] ++ List.replicate 11 .unk, [none, some (.row k 1 fun i _ => .x (.int .i64 (c i)))], 2, .nil⟩
noncomputable def bodyBits : Code := loopN (bodyOf Try.prog 115) 0
noncomputable def BBits (n : Int) (k : Nat) (c : Nat → Int) : Tree (Ex × AS) :=
  .ite (decide (n > (0 : Int)))
  (.need ((2 : Int) ≠ (0 : Int))
    (.need (0 + k ≤ k ∧ 1 ≤ List.length [iv (Int.tmod n (2 : Int))] ∧ (k + 1) * 8 ≤ 140737488355328)
      (.need ((2 : Int) ≠ (0 : Int))
        (.ret
          (.normal,
            {
              tm :=
                [.ok (iv (w64 (Int.tdiv n (2 : Int)))), .unk, .unk, .ok (SV.row 1 0 0 (k + 1) 1), .unk, .unk, .unk, .unk, .unk, .unk, .unk, .unk, .unk, .unk,
                  .unk],
              hp :=
                [none,
                  some
                    (.row (k + 1) 1 fun a b =>
                      selD (decide (a < k)) (DV.x (.int .i64 (c ((0 : Nat) + a)))) (dsAt [DV.x (.int .i64 (Int.tmod n (2 : Int)))] (0 + (0 + (a - k)) * 1 + b)))],
              next := 2, hint := .nil })))))
  (.ret
    (.exit 0,
      { tm := [.ok (iv n), .unk, .unk, .ok (SV.row 1 0 0 k 1), .unk, .unk, .unk, .unk, .unk, .unk, .unk, .unk, .unk, .unk, .unk],
        hp := [none, some (.row k 1 fun i x => DV.x (.int .i64 (c i)))], next := 2, hint := .nil }))
theorem BBits_eq (n : Int) (k : Nat) (c : Nat → Int) : cutT 1 [(.slot 3, 1)] [0, 3] [] 2 .nil (exec Try.prog C0 D0 200 bodyBits (invBits n k c)) = BBits n k c := by kernel_rfl
noncomputable def KBits (m n : Int) (k : Nat) (c : Nat → Int) : Tree SV :=
  .need (0 + k ≤ k) (.ret (SV.d (DV.ro k 1 fun i j => DV.x (.int .i64 (c ((0 : Nat) + i))))))
theorem KBits_eq (m n : Int) (k : Nat) (c : Nat → Int) : codeK (sub [] (tBits m)) (.exit 0) (invBits n k c) = KBits m n k c := by kernel_rfl
noncomputable def tTrim (m : Nat) (c : Nat → Int) : Tree SV := T0 160 [ro64 m c]
noncomputable def invTrim (m : Nat) (c : Nat → Int) (k : Int) : AS := ⟨[.ok (ro64 m c), .unk, .unk, .ok (iv k)] ++ List.replicate 17 .unk, [], 0, .nil⟩
noncomputable def bodyTrim : Code := loopN (bodyOf Try.prog 160) 0
noncomputable def BTrim (m : Nat) (c : Nat → Int) (k : Int) : Tree (Ex × AS) :=
  .need (decide (k > (0 : Int)) = true → (0 : Int) ≤ w64 (k - (1 : Int)) ∧ w64 (k - (1 : Int)) < (↑m : Int))
  (.ite (decide (k > (0 : Int)) && c (Int.toNat (w64 (k - (1 : Int)))) == (0 : Int))
    (.ret
      (.normal,
        {
          tm :=
            [.ok (SV.d (DV.ro m 1 fun i x => DV.x (.int .i64 (c i)))), .unk, .unk, .ok (iv (w64 (k - (1 : Int)))), .unk, .unk, .unk, .unk, .unk, .unk, .unk, .unk, .unk, .unk, .unk, .unk,
              .unk, .unk, .unk, .unk, .unk],
          hp := [], next := 0, hint := .nil }))
    (.ret
      (.exit 0,
        {
          tm :=
            [.ok (SV.d (DV.ro m 1 fun i x => DV.x (.int .i64 (c i)))), .unk, .unk, .ok (iv k), .unk, .unk, .unk, .unk, .unk, .unk, .unk, .unk, .unk, .unk, .unk, .unk, .unk, .unk,
              .unk, .unk, .unk],
          hp := [], next := 0, hint := .nil })))
theorem BTrim_eq (m : Nat) (c : Nat → Int) (k : Int) : cutT 0 [] [0, 3] [] 0 .nil (exec Try.prog C0 D0 200 bodyTrim (invTrim m c k)) = BTrim m c k := by kernel_rfl
noncomputable def KTrim (m : Nat) (c : Nat → Int) (k : Int) : Tree SV :=
  .need (((0 : Int) ≤ k ∧ Int.toNat k ≤ m) ∧ True) (.ret (SV.d (DV.ro (Int.toNat k - 0) 1 fun i j => DV.x (.int .i64 (c ((0 : Nat) + i))))))
theorem KTrim_eq (m : Nat) (c : Nat → Int) (k : Int) : codeK (sub [] (tTrim m c)) (.exit 0) (invTrim m c k) = KTrim m c k := by kernel_rfl
end Go.Proofs.Ytpaejfeojdoikaa
namespace Go.Proofs.Ytpaejfeojdoikaa
open Go.Sx
set_option maxRecDepth 100000
theorem gcd_emod {x y : Int} (hx : 0 ≤ x) (hy : 0 ≤ y) : Int.gcd x y = Int.gcd y (x % y) := by
  obtain ⟨a, rfl⟩ := Int.eq_ofNat_of_zero_le hx
  obtain ⟨b, rfl⟩ := Int.eq_ofNat_of_zero_le hy
  rw [← Int.natCast_emod, Int.gcd_natCast_natCast, Int.gcd_natCast_natCast, Nat.gcd_comm a b, Nat.gcd_rec, Nat.gcd_comm]
theorem gcd_sat {a b : Int} (ha : 0 ≤ a) (hb : 0 ≤ b) : Sat Try.prog (tGcd a b) (· = iv (Int.gcd a b)) := by
  constructor
  rw [show tGcd a b = sub [] (tGcd a b) from (sub_nil _).symm]
  refine code_satS C0_ok D0_ok (n := 200) (n0 := 0) (nx := 0) (roots := []) (keep := [0, 1]) (drop := []) (h := .nil) (c := codeC (sub [] (tGcd a b))) (st := codeS (sub [] (tGcd a b))) (k := codeK (sub [] (tGcd a b))) (body := bodyGcd) (by kernel_rfl) (by kernel_rfl)
    (fun q s => ∃ x y : Int, q = y.toNat ∧ 0 ≤ x ∧ 0 ≤ y ∧ Int.gcd x y = Int.gcd a b ∧ s = invGcd x y)
    (fun e s => e = .exit 0 ∧ s = invGcd (Int.gcd a b) 0)
    ⟨_, _, ⟨a, b, rfl, ha, hb, rfl, rfl⟩, ?_⟩ ?_ ?_
  · exact entA_sound (roots := []) (keep := [0, 1]) (drop := []) (nx := 0) (h := .nil) (by kernel_rfl)
  · rintro q s ⟨x, y, rfl, hx, hy, hg, rfl⟩
    refine Sat.of_eq (BGcd_eq x y) ?_
    constructor
    unfold BGcd
    refine ⟨fun hc => ?_, fun hc => ?_⟩
    · have hc : 0 < y := by simpa using hc
      have h1 : Int.tmod x y = x % y := tmod_lit hx y
      have h2 := Int.emod_nonneg x (show y ≠ 0 by omega)
      have h3 := Int.emod_lt_of_pos x hc
      refine ⟨by omega, _, _, ?_, ⟨y, Int.tmod x y, rfl, hy, by omega, ?_, rfl⟩, Gc.refl _ _⟩
      · omega
      · rw [h1, ← hg]; exact (gcd_emod hx hy).symm
    · have hc : y = 0 := by simp at hc; omega
      subst hc
      have : x = (Int.gcd a b : Int) := by rw [← hg, Int.gcd_zero_right]; omega
      exact ⟨_, ⟨rfl, rfl⟩, by rw [this]; exact Gc.refl _ _⟩
  · rintro e s ⟨rfl, rfl⟩
    exact Sat.of_eq (KGcd_eq a b _ _) ⟨rfl⟩
noncomputable def cGcd : Ctr := fun ss => match ss with
  | [.d (.x (.int .i64 a)), .d (.x (.int .i64 b))] => .need (0 ≤ a ∧ 0 ≤ b) (.ret (iv (Int.gcd a b)))
  | _ => .fail
theorem cGcd_ok : CtrOK Try.prog 80 cGcd := by
  refine ctrOK_leS C0_ok D0_ok (by kernel_rfl) (by kernel_rfl) fun ss r h => ?_
  unfold cGcd at h
  split at h
  · rename_i a b
    obtain ⟨⟨h1, h2⟩, rfl⟩ := h
    exact ⟨[iv a, iv b], 200, .nil, by simp [leSVs, leSV, iv, leD], gcd_sat h1 h2⟩
  · exact h.elim
noncomputable def cSize : Ctr := fun ss => match ss with
  | [.d (.x (.int .i64 n))] => .need (-9223372036854775807 ≤ n ∧ n ≤ 9223372036854775807) (.ret (iv n.natAbs))
  | _ => .fail
theorem cSize_ok : CtrOK Try.prog 81 cSize := by
  refine ctrOK_leS C0_ok D0_ok (by kernel_rfl) (by kernel_rfl) fun ss r h => ?_
  unfold cSize at h
  split at h
  · rename_i n
    obtain ⟨⟨h1, h2⟩, rfl⟩ := h
    refine ⟨[iv n], 200, .nil, by simp [leSVs, leSV, iv, leD], Sat.of_eq (LSize_eq n) ⟨?_⟩⟩
    unfold LSize
    refine ⟨fun hc => ?_, fun hc => ?_⟩
    · have hc : n < 0 := by simpa using hc
      rw [w64_of (by omega) (by omega), show (n.natAbs : Int) = 0 - n by omega]; exact rfl
    · have hc : ¬ n < 0 := by simpa using hc
      rw [show (n.natAbs : Int) = n by omega]; exact rfl
  · exact h.elim
noncomputable def cHalf : Ctr := fun ss => match ss with
  | [.d (.x (.int .i64 n)), .d (.x (.int .i64 g))] => .need (-9223372036854775807 ≤ n ∧ n ≤ 9223372036854775807 ∧ 1 ≤ g) (.ret (iv (n.natAbs / g.toNat : Nat)))
  | _ => .fail
theorem natAbs_tdiv {n g : Int} (hg : 1 ≤ g) : (Int.tdiv n g).natAbs = n.natAbs / g.toNat := by
  rw [Int.natAbs_tdiv]; congr 1; omega
theorem tdiv_b {n g : Int} (hg : 1 ≤ g) (h : -9223372036854775807 ≤ n ∧ n ≤ 9223372036854775807) : -9223372036854775807 ≤ Int.tdiv n g ∧ Int.tdiv n g ≤ 9223372036854775807 := by
  have := natAbs_tdiv (n := n) hg
  have h2 := Nat.div_le_self n.natAbs g.toNat
  omega
theorem cHalf_ok : CtrOK Try.prog 162 cHalf := by
  refine ctrOK_leS C0_ok D0_ok (by kernel_rfl) (by kernel_rfl) fun ss r h => ?_
  unfold cHalf at h
  split at h
  · rename_i n g
    obtain ⟨⟨h1, h2, hg⟩, rfl⟩ := h
    refine ⟨[iv n, iv g], 200, .nil, by simp [leSVs, leSV, iv, leD], Sat.of_eq (LHalf_eq n g) ⟨?_⟩⟩
    unfold LHalf
    have e1 := natAbs_tdiv (n := n) hg
    have e2 := tdiv_b hg ⟨h1, h2⟩
    rw [w64_of (n := Int.tdiv n g) (by omega) (by omega)]
    refine ⟨by omega, fun hc => ?_, fun hc => ?_⟩
    · have hc : Int.tdiv n g < 0 := by simpa using hc
      rw [w64_of (by omega) (by omega), ← e1, show ((Int.tdiv n g).natAbs : Int) = 0 - Int.tdiv n g by omega]; exact rfl
    · have hc : ¬ Int.tdiv n g < 0 := by simpa using hc
      rw [← e1, show ((Int.tdiv n g).natAbs : Int) = Int.tdiv n g by omega]; exact rfl
  · exact h.elim
noncomputable def bitsSV (v : Nat) : SV := ro64 (blen v) fun i => bitN v i
theorem bits_sat {n : Int} (hn : 0 ≤ n) (hn2 : n ≤ 9223372036854775807) : Sat Try.prog (tBits n) fun r => leSV 0 [] [] r (bitsSV n.toNat) := by
  constructor
  rw [show tBits n = sub [] (tBits n) from (sub_nil _).symm]
  have hl : blen n.toNat ≤ 63 := blen_le.2 (by omega)
  refine code_satS C0_ok D0_ok (n := 200) (n0 := 1) (nx := 2) (roots := [(.slot 3, 1)]) (keep := [0, 3]) (drop := []) (h := .nil) (c := codeC (sub [] (tBits n))) (st := codeS (sub [] (tBits n))) (k := codeK (sub [] (tBits n))) (body := bodyBits) (by kernel_rfl) (by kernel_rfl)
    (fun q s => ∃ k : Nat, q = n.toNat / 2 ^ k ∧ k ≤ blen n.toNat ∧ s = invBits ((n.toNat / 2 ^ k : Nat) : Int) k fun i => bitN n.toNat i)
    (fun e s => e = .exit 0 ∧ s = invBits 0 (blen n.toNat) fun i => bitN n.toNat i)
    ⟨_, _, ⟨0, rfl, by omega, rfl⟩, ?_⟩ ?_ ?_
  · refine (entA_sound (s' := ⟨[.ok (iv n), .unk, .unk, .ok (.row 1 0 0 0 1)] ++ List.replicate 11 .unk, [none, some (.cells [])], 2, .nil⟩) (roots := [(.slot 3, 1)]) (keep := [0, 3]) (drop := []) (nx := 2) (h := .nil) (by kernel_rfl)).trans ?_
    have : ((n.toNat / 2 ^ 0 : Nat) : Int) = n := by simp; omega
    rw [this]
    refine gc_sound [(1, 1)] [] rfl ?_ ?_
    · simp [invBits, leTm, leTV, leSV, leSVs, rn, iv, leD, List.replicate]
    · simp [invBits, leHp, leBlk, leSVs, leSV, rn, iv, leD, srcOf, hget]
  · rintro q s ⟨k, rfl, hk, rfl⟩
    refine Sat.of_eq (BBits_eq _ k _) ?_
    constructor
    unfold BBits
    obtain ⟨x, hx⟩ : ∃ x, n.toNat / 2 ^ k = x := ⟨_, rfl⟩
    have hx2 : n.toNat / 2 ^ (k + 1) = x / 2 := by rw [Nat.pow_succ, ← Nat.div_div_eq_div_mul, hx]
    have hx3 : x ≤ n.toNat := by rw [← hx]; exact Nat.div_le_self _ _
    rw [hx]
    refine ⟨fun hc => ?_, fun hc => ?_⟩
    · have hc : 0 < x := by simp at hc; omega
      have hk2 : k < blen n.toNat := by
        apply Decidable.byContradiction
        intro h
        have : n.toNat < 2 ^ k := blen_le.1 (by omega)
        rw [Nat.div_eq_of_lt this] at hx; omega
      have e1 : Int.tmod (x : Int) 2 = bitN n.toNat k := by rw [tmod_lit (by omega)]; unfold bitN; rw [hx]; omega
      have e2 : w64 (Int.tdiv (x : Int) 2) = ((x / 2 : Nat) : Int) := by
        rw [Int.tdiv_eq_ediv_of_nonneg (by omega), w64_of (by omega) (by omega)]; omega
      refine ⟨by decide, ⟨by omega, by simp, by omega⟩, by decide, x / 2, _, by omega, ⟨k + 1, hx2.symm, hk2, rfl⟩, ?_⟩
      rw [e1, e2, hx2]
      refine gc_sound [(1, 1)] [] rfl ?_ ?_
      · simp [invBits, leTm, leTV, leSV, leSVs, rn, iv, leD, List.replicate]
      · simp [invBits, leHp, leBlk, leSVs, leSV, rn, iv, leD, srcOf, hget]
        intro i hi
        rw [selD_eq]
        by_cases h : i < k
        · simp [h]
        · obtain rfl : i = k := by omega
          simp [dsAt]
    · have hc : x = 0 := by simp at hc; omega
      have hk2 : blen n.toNat ≤ k := blen_le.2 (by
        rcases Nat.div_eq_zero_iff.1 (hx.trans hc) with h | h
        · have := Nat.pow_pos (n := k) (show 0 < 2 by omega); omega
        · exact h)
      obtain rfl : k = blen n.toNat := by omega
      exact ⟨_, ⟨rfl, rfl⟩, by rw [hc]; exact Gc.refl _ _⟩
  · rintro e s ⟨rfl, rfl⟩
    refine Sat.of_eq (KBits_eq n _ _ _) ⟨?_⟩
    refine ⟨by omega, ?_⟩
    simp [Tree.sat, bitsSV, ro64, leSV, leD]
noncomputable def cBits : Ctr := fun ss => match ss with
  | [.d (.x (.int .i64 n))] => .need (0 ≤ n ∧ n ≤ 9223372036854775807) (.ret (bitsSV n.toNat))
  | _ => .fail
theorem cBits_ok : CtrOK Try.prog 115 cBits := by
  refine ctrOK_leR C0_ok D0_ok (by kernel_rfl) (by kernel_rfl) fun ss r h => ?_
  unfold cBits at h
  split at h
  · rename_i n
    obtain ⟨⟨h1, h2⟩, rfl⟩ := h
    exact ⟨[iv n], 200, .nil, by simp [leSVs, leSV, iv, leD], bits_sat h1 h2⟩
  · exact h.elim
def BitC (n : Nat) (cell : Nat → Nat → DV) : Prop := ∀ i, i < n → cell i 0 = xi 0 ∨ cell i 0 = xi 1
theorem BitC.bits {n : Nat} {cell : Nat → Nat → DV} (h : BitC n cell) : Bits n (intCell cell) := fun i hi => by
  rcases h i hi with e | e <;> simp [intCell, e, intOf1]
theorem BitC.le {n : Nat} {cell : Nat → Nat → DV} (h : BitC n cell) : ∀ i j, i < n → j < 1 → cell i j = .x (.int .i64 (intCell cell i)) := le_ro64 fun i hi => by
  rcases h i hi with e | e <;> exact ⟨_, e⟩
theorem trim_sat {m : Nat} {c : Nat → Int} (hm : m ≤ 1000000) (hb : Bits m c) : Sat Try.prog (tTrim m c) fun r => leSV 0 [] [] r (bitsSV (valN c m)) := by
  constructor
  rw [show tTrim m c = sub [] (tTrim m c) from (sub_nil _).symm]
  have hl : blen (valN c m) ≤ m := blen_le.2 (valN_lt hb)
  refine code_satS C0_ok D0_ok (n := 200) (n0 := 0) (nx := 0) (roots := []) (keep := [0, 3]) (drop := []) (h := .nil) (c := codeC (sub [] (tTrim m c))) (st := codeS (sub [] (tTrim m c))) (k := codeK (sub [] (tTrim m c))) (body := bodyTrim) (by kernel_rfl) (by kernel_rfl)
    (fun q s => ∃ k : Nat, q = k ∧ k ≤ m ∧ blen (valN c m) ≤ k ∧ s = invTrim m c k)
    (fun e s => e = .exit 0 ∧ s = invTrim m c (blen (valN c m)))
    ⟨m, _, ⟨m, rfl, Nat.le_refl _, hl, rfl⟩, ?_⟩ ?_ ?_
  · exact entA_sound (roots := []) (keep := [0, 3]) (drop := []) (nx := 0) (h := .nil) (by kernel_rfl)
  · rintro q s ⟨k, hq, hk, hv, rfl⟩
    refine Sat.of_eq (BTrim_eq m c k) ?_
    constructor
    unfold BTrim
    refine ⟨fun hc => ?_, fun hc => ?_, fun hc => ?_⟩
    · have : 0 < k := by simpa using hc
      rw [w64_of (by omega) (by omega)]; omega
    · have h0 : 0 < k := by
        have := hc
        simp only [Bool.and_eq_true, decide_eq_true_eq] at this; omega
      have e1 : w64 ((k : Int) - 1) = ((k - 1 : Nat) : Int) := by rw [w64_of (by omega) (by omega)]; omega
      rw [e1] at hc ⊢
      have hc0 : c (k - 1) = 0 := by
        have := hc
        simp only [Bool.and_eq_true, beq_iff_eq, Int.toNat_natCast] at this; exact this.2
      refine ⟨k - 1, _, by omega, ⟨k - 1, rfl, by omega, ?_, rfl⟩, Gc.refl _ _⟩
      have hbit := bitN_valN (i := k - 1) hb (by omega)
      rw [hc0] at hbit
      have hbit : bitN (valN c m) (k - 1) = 0 := by omega
      refine blen_le.2 ?_
      have hlt := blen_le.1 hv
      unfold bitN at hbit
      rw [show k = k - 1 + 1 by omega, Nat.pow_succ] at hlt
      have := Nat.div_lt_of_lt_mul hlt
      have h2 : valN c m / 2 ^ (k - 1) = 0 := by
        clear hlt; revert hbit this; generalize valN c m / 2 ^ (k - 1) = z; omega
      rcases Nat.div_eq_zero_iff.1 h2 with h | h
      · have := Nat.pow_pos (n := k - 1) (show 0 < 2 by omega); omega
      · exact h
    · refine ⟨_, ⟨rfl, rfl⟩, ?_⟩
      have : blen (valN c m) = k := by
        apply Decidable.byContradiction
        intro hne
        have e1 : w64 ((k : Int) - 1) = ((k - 1 : Nat) : Int) := by rw [w64_of (by omega) (by omega)]; omega
        rw [e1] at hc
        have hbit := bitN_valN (i := k - 1) hb (by omega)
        rw [bitN_high (show blen (valN c m) ≤ k - 1 by omega)] at hbit
        simp only [Int.toNat_natCast, ← hbit] at hc
        simp at hc
        omega
      rw [this]; exact Gc.refl _ _
  · rintro e s ⟨rfl, rfl⟩
    refine Sat.of_eq (KTrim_eq m c _) ⟨?_⟩
    refine ⟨⟨⟨by omega, by omega⟩, trivial⟩, ?_⟩
    simp only [Tree.sat, bitsSV, ro64, leSV, leD, Nat.zero_add, Nat.sub_zero, Int.toNat_natCast, true_and]
    intro i j hi hj
    rw [bitN_valN hb (by omega)]
noncomputable def cTrim : Ctr := fun ss => match ss with
  | [.d (.ro n 1 cell)] => .need (n ≤ 1000000 ∧ BitC n cell) (.ret (bitsSV (valN (intCell cell) n)))
  | _ => .fail
theorem cTrim_ok : CtrOK Try.prog 160 cTrim := by
  refine ctrOK_leR C0_ok D0_ok (by kernel_rfl) (by kernel_rfl) fun ss r h => ?_
  unfold cTrim at h
  split at h
  · rename_i n cell
    obtain ⟨⟨h1, h2⟩, rfl⟩ := h
    refine ⟨[ro64 n (intCell cell)], 200, .nil, ?_, trim_sat h1 h2.bits⟩
    simp only [leSVs, leSV, ro64, leD, and_true, true_and]
    exact h2.le
  · exact h.elim
noncomputable def cAt : Ctr := fun ss => match ss with
  | [.d (.ro n 1 cell), .d (.x (.int .i64 i))] => .need (0 ≤ i ∧ BitC n cell) (.ret (iv (if i < n then intCell cell i.toNat else 0)))
  | _ => .fail
theorem cAt_ok : CtrOK Try.prog 177 cAt := by
  refine ctrOK_leS C0_ok D0_ok (by kernel_rfl) (by kernel_rfl) fun ss r h => ?_
  unfold cAt at h
  split at h
  · rename_i n cell i
    obtain ⟨⟨h1, h2⟩, rfl⟩ := h
    refine ⟨[ro64 n (intCell cell), iv i], 200, .nil, ?_, Sat.of_eq (LAt_eq n (intCell cell) i) ⟨?_⟩⟩
    · simp only [leSVs, leSV, ro64, iv, leD, and_true, true_and]
      exact h2.le
    · unfold LAt
      refine ⟨fun hc => ?_, fun hc => ?_⟩
      · have hc : i < n := by simpa using hc
        rw [if_pos hc]
        exact ⟨⟨h1, hc⟩, rfl⟩
      · have hc : ¬ i < n := by simpa using hc
        rw [if_neg hc]; exact rfl
  · exact h.elim
end Go.Proofs.Ytpaejfeojdoikaa
namespace Go.Proofs.Ytpaejfeojdoikaa
open Go.Sx
set_option maxRecDepth 100000
noncomputable def man1 : FuncId → Option Ctr := fun k => match k with
  | 80 => some cGcd
  | 81 => some cSize
  | 162 => some cHalf
  | 115 => some cBits
  | 160 => some cTrim
  | 177 => some cAt
  | _ => none
theorem man1_ok (k : Nat) (c : Ctr) (h : man1 k = some c) : CtrOK Try.prog k c ∧ goodF Try.prog k = true := by
  unfold man1 at h
  split at h <;> first | (cases h; done) | (cases h)
  · exact ⟨cGcd_ok, by kernel_rfl⟩
  · exact ⟨cSize_ok, by kernel_rfl⟩
  · exact ⟨cHalf_ok, by kernel_rfl⟩
  · exact ⟨cBits_ok, by kernel_rfl⟩
  · exact ⟨cTrim_ok, by kernel_rfl⟩
  · exact ⟨cAt_ok, by kernel_rfl⟩
noncomputable def C1 : Ctx := ctxN Try.prog man1 (fun _ => false) 200 .nil 6
theorem C1_ok : CtxOK Try.prog C1 := ctxN_ok mixed man1_ok 6
noncomputable def D1 : Dr := fun _ => drawn Try.prog C1
theorem D1_ok : DrOK Try.prog C1 D1 := drawn_ok C1_ok mixed
noncomputable def T1 (k : Nat) (args : List SV) : Tree SV := fnT Try.prog C1 D1 200 (fnOf Try.prog k) (bodyOf Try.prog k) args .nil
noncomputable def tPlus (n : Nat) (a : Nat → Int) (m : Nat) (b : Nat → Int) : Tree SV := T1 157 [ro64 n a, ro64 m b]
noncomputable def tMinus (n : Nat) (a : Nat → Int) (m : Nat) (b : Nat → Int) : Tree SV := T1 159 [ro64 n a, ro64 m b]
noncomputable def tCmpL (n : Nat) (a : Nat → Int) (m : Nat) (b : Nat → Int) : Tree SV := T1 158 [ro64 n a, ro64 m b]
noncomputable def tMake (n d : Int) : Tree SV := T1 116 [iv n, iv d]
noncomputable def LMake (n d : Int) : Tree SV :=
  .ite (d == (0 : Int)) (.ret (SV.agg [iv (0 : Int), iv (0 : Int), iv (3 : Int)])) (.code (codeC (sub [(1 : Nat)] (tMake n d))) (codeS (sub [(1 : Nat)] (tMake n d))) (codeK (sub [(1 : Nat)] (tMake n d))))
theorem LMake_eq (n d : Int) : tMake n d = LMake n d := by kernel_rfl
noncomputable def invPlus (n : Nat) (a : Nat → Int) (m : Nat) (b : Nat → Int) (x : Int) (k : Nat) (c : Nat → Int) : AS := ⟨[.ok (ro64 n a), .ok (ro64 m b), .unk, .unk, .unk, .ok (.row 1 0 0 k 1), .ok (iv x), .ok (iv k)] ++ List.replicate 32 .unk, [none, some (.row k 1 fun i _ => .x (.int .i64 (c i)))], 2, .nil⟩
noncomputable def bodyPlus : Code := loopN (bodyOf Try.prog 157) 0
noncomputable def BPlus (n : Nat) (a : Nat → Int) (m : Nat) (b : Nat → Int) (x : Int) (k : Nat) (c : Nat → Int) : Tree (Ex × AS) :=
 .ite (decide ((↑k : Int) ≤ (↑n : Int)) || decide ((↑k : Int) ≤ (↑m : Int)))
 (.need ((0 : Int) ≤ (↑k : Int) ∧ BitC n fun i x => DV.x (.int .i64 (a i)))
 (.need ((0 : Int) ≤ (↑k : Int) ∧ BitC m fun i x => DV.x (.int .i64 (b i)))
 (.need ((2 : Int) ≠ (0 : Int))
 (.need
 (0 + k ≤ k ∧
 1 ≤
 List.length
 [iv
 (Int.tmod
 (w64
 (w64
 ((if (↑k : Int) < (↑n : Int) then intCell (fun i x => DV.x (.int .i64 (a i))) (Int.toNat (↑k : Int)) else (0 : Int)) +
 if (↑k : Int) < (↑m : Int) then intCell (fun i x => DV.x (.int .i64 (b i))) (Int.toNat (↑k : Int)) else (0 : Int)) +
 x))
 (2 : Int))] ∧
 (k + 1) * 8 ≤ 140737488355328)
 (.need ((2 : Int) ≠ (0 : Int))
 (.ret
 (.normal,
 {
 tm :=
 [.ok (SV.d (DV.ro n 1 fun i x => DV.x (.int .i64 (a i)))), .ok (SV.d (DV.ro m 1 fun i x => DV.x (.int .i64 (b i)))), .unk, .unk, .unk,
 .ok (SV.row 1 0 0 (k + 1) 1),
 .ok
 (iv
 (w64
 (Int.tdiv
 (w64
 (w64
 ((if (↑k : Int) < (↑n : Int) then intCell (fun i x => DV.x (.int .i64 (a i))) (Int.toNat (↑k : Int)) else (0 : Int)) +
 if (↑k : Int) < (↑m : Int) then intCell (fun i x => DV.x (.int .i64 (b i))) (Int.toNat (↑k : Int)) else (0 : Int)) +
 x))
 (2 : Int)))),
 .ok (iv (w64 ((↑k : Int) + (1 : Int)))), .unk, .unk, .unk, .unk, .unk, .unk, .unk, .unk, .unk, .unk, .unk, .unk, .unk, .unk, .unk, .unk, .unk, .unk, .unk, .unk, .unk, .unk,
 .unk, .unk, .unk, .unk, .unk, .unk, .unk, .unk, .unk, .unk],
 hp :=
 [none,
 some
 (.row (k + 1) 1 fun a_1 b_1 =>
 selD (decide (a_1 < k)) (DV.x (.int .i64 (c ((0 : Nat) + a_1))))
 (dsAt
 [DV.x
 (.int .i64
 (Int.tmod
 (w64
 (w64
 ((if (↑k : Int) < (↑n : Int) then intCell (fun i x => DV.x (.int .i64 (a i))) (Int.toNat (↑k : Int)) else (0 : Int)) +
 if (↑k : Int) < (↑m : Int) then intCell (fun i x => DV.x (.int .i64 (b i))) (Int.toNat (↑k : Int)) else (0 : Int)) +
 x))
 (2 : Int)))]
 (0 + (0 + (a_1 - k)) * 1 + b_1)))],
 next := 2, hint := .nil })))))))
 (.ret
 (.exit 0,
 {
 tm :=
 [.ok (SV.d (DV.ro n 1 fun i x => DV.x (.int .i64 (a i)))), .ok (SV.d (DV.ro m 1 fun i x => DV.x (.int .i64 (b i)))), .unk, .unk, .unk,
 .ok (SV.row 1 0 0 k 1), .ok (iv x), .ok (iv (↑k : Int)), .unk, .unk, .unk, .unk, .unk, .unk, .unk, .unk, .unk, .unk, .unk, .unk, .unk, .unk, .unk,
 .unk, .unk, .unk, .unk, .unk, .unk, .unk, .unk, .unk, .unk, .unk, .unk, .unk, .unk, .unk, .unk, .unk],
 hp := [none, some (.row k 1 fun i x => DV.x (.int .i64 (c i)))], next := 2, hint := .nil }))
theorem BPlus_eq (n : Nat) (a : Nat → Int) (m : Nat) (b : Nat → Int) (x : Int) (k : Nat) (c : Nat → Int) : cutT 1 [(.slot 5, 1)] [0, 1, 5, 6, 7] [] 2 .nil (exec Try.prog C1 D1 200 bodyPlus (invPlus n a m b x k c)) = BPlus n a m b x k c := by kernel_rfl
noncomputable def KPlus (n : Nat) (a : Nat → Int) (m : Nat) (b : Nat → Int) (x : Int) (k : Nat) (c : Nat → Int) : Tree SV :=
  .need (0 + k ≤ k)
  (.need (0 + k ≤ k)
    (.need (k ≤ 1000000 ∧ BitC k fun i j => (fun i x => DV.x (.int .i64 (c i))) ((0 : Nat) + i) j)
      (.ret (SV.d (DV.ro (blen (valN (fun i => c ((0 : Nat) + i)) k)) 1 fun i x => DV.x (.int .i64 (↑(bitN (valN (fun i => c ((0 : Nat) + i)) k) i) : Int)))))))
theorem KPlus_eq (n : Nat) (a : Nat → Int) (m : Nat) (b : Nat → Int) (x : Int) (k : Nat) (c : Nat → Int) : codeK (sub [] (tPlus n a m b)) (.exit 0) (invPlus n a m b x k c) = KPlus n a m b x k c := by kernel_rfl
noncomputable def invMinus (n : Nat) (a : Nat → Int) (m : Nat) (b : Nat → Int) (x : Int) (k : Nat) (c : Nat → Int) : AS := ⟨[.ok (ro64 n a), .ok (ro64 m b), .unk, .unk, .unk, .ok (.row 1 0 0 k 1), .ok (iv x), .ok (iv k)] ++ List.replicate 27 .unk, [none, some (.row k 1 fun i _ => .x (.int .i64 (c i)))], 2, .nil⟩
noncomputable def bodyMinus : Code := loopN (bodyOf Try.prog 159) 0
noncomputable def BMinus (n : Nat) (a : Nat → Int) (m : Nat) (b : Nat → Int) (x : Int) (k : Nat) (c : Nat → Int) : Tree (Ex × AS) :=
 .ite (decide ((↑k : Int) < (↑n : Int)))
 (.need ((0 : Int) ≤ (↑k : Int) ∧ BitC n fun i x => DV.x (.int .i64 (a i)))
 (.need ((0 : Int) ≤ (↑k : Int) ∧ BitC m fun i x => DV.x (.int .i64 (b i)))
 (.ite
 (decide
 (w64
 (w64
 ((if (↑k : Int) < (↑n : Int) then intCell (fun i x => DV.x (.int .i64 (a i))) (Int.toNat (↑k : Int)) else (0 : Int)) -
 if (↑k : Int) < (↑m : Int) then intCell (fun i x => DV.x (.int .i64 (b i))) (Int.toNat (↑k : Int)) else (0 : Int)) -
 x) <
 (0 : Int)))
 (.need
 (0 + k ≤ k ∧
 1 ≤
 List.length
 [iv
 (w64
 (w64
 (w64
 ((if (↑k : Int) < (↑n : Int) then intCell (fun i x => DV.x (.int .i64 (a i))) (Int.toNat (↑k : Int)) else (0 : Int)) -
 if (↑k : Int) < (↑m : Int) then intCell (fun i x => DV.x (.int .i64 (b i))) (Int.toNat (↑k : Int)) else (0 : Int)) -
 x) +
 (2 : Int)))] ∧
 (k + 1) * 8 ≤ 140737488355328)
 (.ret
 (.normal,
 {
 tm :=
 [.ok (SV.d (DV.ro n 1 fun i x => DV.x (.int .i64 (a i)))), .ok (SV.d (DV.ro m 1 fun i x => DV.x (.int .i64 (b i)))), .unk, .unk, .unk,
 .ok (SV.row 1 0 0 (k + 1) 1), .ok (iv (1 : Int)), .ok (iv (w64 ((↑k : Int) + (1 : Int)))), .unk, .unk, .unk, .unk, .unk, .unk, .unk, .unk, .unk,
 .unk, .unk, .unk, .unk, .unk, .unk, .unk, .unk, .unk, .unk, .unk, .unk, .unk, .unk, .unk, .unk, .unk, .unk],
 hp :=
 [none,
 some
 (.row (k + 1) 1 fun a_1 b_1 =>
 selD (decide (a_1 < k)) (DV.x (.int .i64 (c ((0 : Nat) + a_1))))
 (dsAt
 [DV.x
 (.int .i64
 (w64
 (w64
 (w64
 ((if (↑k : Int) < (↑n : Int) then intCell (fun i x => DV.x (.int .i64 (a i))) (Int.toNat (↑k : Int)) else (0 : Int)) -
 if (↑k : Int) < (↑m : Int) then intCell (fun i x => DV.x (.int .i64 (b i))) (Int.toNat (↑k : Int)) else (0 : Int)) -
 x) +
 (2 : Int))))]
 (0 + (0 + (a_1 - k)) * 1 + b_1)))],
 next := 2, hint := .nil })))
 (.need
 (0 + k ≤ k ∧
 1 ≤
 List.length
 [iv
 (w64
 (w64
 ((if (↑k : Int) < (↑n : Int) then intCell (fun i x => DV.x (.int .i64 (a i))) (Int.toNat (↑k : Int)) else (0 : Int)) -
 if (↑k : Int) < (↑m : Int) then intCell (fun i x => DV.x (.int .i64 (b i))) (Int.toNat (↑k : Int)) else (0 : Int)) -
 x))] ∧
 (k + 1) * 8 ≤ 140737488355328)
 (.ret
 (.normal,
 {
 tm :=
 [.ok (SV.d (DV.ro n 1 fun i x => DV.x (.int .i64 (a i)))), .ok (SV.d (DV.ro m 1 fun i x => DV.x (.int .i64 (b i)))), .unk, .unk, .unk,
 .ok (SV.row 1 0 0 (k + 1) 1), .ok (iv (0 : Int)), .ok (iv (w64 ((↑k : Int) + (1 : Int)))), .unk, .unk, .unk, .unk, .unk, .unk, .unk, .unk, .unk,
 .unk, .unk, .unk, .unk, .unk, .unk, .unk, .unk, .unk, .unk, .unk, .unk, .unk, .unk, .unk, .unk, .unk, .unk],
 hp :=
 [none,
 some
 (.row (k + 1) 1 fun a_1 b_1 =>
 selD (decide (a_1 < k)) (DV.x (.int .i64 (c ((0 : Nat) + a_1))))
 (dsAt
 [DV.x
 (.int .i64
 (w64
 (w64
 ((if (↑k : Int) < (↑n : Int) then intCell (fun i x => DV.x (.int .i64 (a i))) (Int.toNat (↑k : Int)) else (0 : Int)) -
 if (↑k : Int) < (↑m : Int) then intCell (fun i x => DV.x (.int .i64 (b i))) (Int.toNat (↑k : Int)) else (0 : Int)) -
 x)))]
 (0 + (0 + (a_1 - k)) * 1 + b_1)))],
 next := 2, hint := .nil }))))))
 (.ret
 (.exit 0,
 {
 tm :=
 [.ok (SV.d (DV.ro n 1 fun i x => DV.x (.int .i64 (a i)))), .ok (SV.d (DV.ro m 1 fun i x => DV.x (.int .i64 (b i)))), .unk, .unk, .unk,
 .ok (SV.row 1 0 0 k 1), .ok (iv x), .ok (iv (↑k : Int)), .unk, .unk, .unk, .unk, .unk, .unk, .unk, .unk, .unk, .unk, .unk, .unk, .unk, .unk, .unk,
 .unk, .unk, .unk, .unk, .unk, .unk, .unk, .unk, .unk, .unk, .unk, .unk],
 hp := [none, some (.row k 1 fun i x => DV.x (.int .i64 (c i)))], next := 2, hint := .nil }))
theorem BMinus_eq (n : Nat) (a : Nat → Int) (m : Nat) (b : Nat → Int) (x : Int) (k : Nat) (c : Nat → Int) : cutT 1 [(.slot 5, 1)] [0, 1, 5, 6, 7] [] 2 .nil (exec Try.prog C1 D1 200 bodyMinus (invMinus n a m b x k c)) = BMinus n a m b x k c := by kernel_rfl
noncomputable def KMinus (n : Nat) (a : Nat → Int) (m : Nat) (b : Nat → Int) (x : Int) (k : Nat) (c : Nat → Int) : Tree SV :=
  .need (0 + k ≤ k)
  (.need (0 + k ≤ k)
    (.need (k ≤ 1000000 ∧ BitC k fun i j => (fun i x => DV.x (.int .i64 (c i))) ((0 : Nat) + i) j)
      (.ret (SV.d (DV.ro (blen (valN (fun i => c ((0 : Nat) + i)) k)) 1 fun i x => DV.x (.int .i64 (↑(bitN (valN (fun i => c ((0 : Nat) + i)) k) i) : Int)))))))
theorem KMinus_eq (n : Nat) (a : Nat → Int) (m : Nat) (b : Nat → Int) (x : Int) (k : Nat) (c : Nat → Int) : codeK (sub [] (tMinus n a m b)) (.exit 0) (invMinus n a m b x k c) = KMinus n a m b x k c := by kernel_rfl
noncomputable def invCmp (n : Nat) (a : Nat → Int) (m : Nat) (b : Nat → Int) (r k : Int) : AS := ⟨[.ok (ro64 n a), .ok (ro64 m b), .unk, .unk, .ok (iv r), .ok (iv k)] ++ List.replicate 24 .unk, [], 0, .nil⟩
noncomputable def bodyCmp : Code := loopN (bodyOf Try.prog 158) 0
noncomputable def BCmp (n : Nat) (a : Nat → Int) (m : Nat) (b : Nat → Int) (r k : Int) : Tree (Ex × AS) :=
 .ite (decide (k ≥ (0 : Int)))
 (.need ((0 : Int) ≤ k ∧ BitC n fun i x => DV.x (.int .i64 (a i)))
 (.need ((0 : Int) ≤ k ∧ BitC m fun i x => DV.x (.int .i64 (b i)))
 (.ite ((if k < (↑n : Int) then intCell (fun i x => DV.x (.int .i64 (a i))) (Int.toNat k) else (0 : Int)) != if k < (↑m : Int) then intCell (fun i x => DV.x (.int .i64 (b i))) (Int.toNat k) else (0 : Int))
 (.need ((0 : Int) ≤ k ∧ BitC n fun i x => DV.x (.int .i64 (a i)))
 (.need ((0 : Int) ≤ k ∧ BitC m fun i x => DV.x (.int .i64 (b i)))
 (.ret
 (.ret,
 {
 tm :=
 [.ok (SV.d (DV.ro n 1 fun i x => DV.x (.int .i64 (a i)))), .ok (SV.d (DV.ro m 1 fun i x => DV.x (.int .i64 (b i)))), .unk, .unk,
 .ok
 (iv
 (w64
 ((if k < (↑n : Int) then intCell (fun i x => DV.x (.int .i64 (a i))) (Int.toNat k) else (0 : Int)) -
 if k < (↑m : Int) then intCell (fun i x => DV.x (.int .i64 (b i))) (Int.toNat k) else (0 : Int)))),
 .ok (iv k), .unk, .unk, .unk, .unk, .unk, .unk, .unk, .unk, .unk, .unk, .unk, .unk, .unk, .unk, .unk, .unk, .unk, .unk, .unk, .unk, .unk, .unk, .unk, .unk],
 hp := [], next := 0, hint := .nil }))))
 (.ret
 (.normal,
 {
 tm :=
 [.ok (SV.d (DV.ro n 1 fun i x => DV.x (.int .i64 (a i)))), .ok (SV.d (DV.ro m 1 fun i x => DV.x (.int .i64 (b i)))), .unk, .unk, .ok (iv r),
 .ok (iv (w64 (k - (1 : Int)))), .unk, .unk, .unk, .unk, .unk, .unk, .unk, .unk, .unk, .unk, .unk, .unk, .unk, .unk, .unk, .unk, .unk, .unk, .unk, .unk, .unk, .unk, .unk,
 .unk],
 hp := [], next := 0, hint := .nil })))))
 (.ret
 (.exit 0,
 {
 tm :=
 [.ok (SV.d (DV.ro n 1 fun i x => DV.x (.int .i64 (a i)))), .ok (SV.d (DV.ro m 1 fun i x => DV.x (.int .i64 (b i)))), .unk, .unk, .ok (iv r), .ok (iv k), .unk, .unk,
 .unk, .unk, .unk, .unk, .unk, .unk, .unk, .unk, .unk, .unk, .unk, .unk, .unk, .unk, .unk, .unk, .unk, .unk, .unk, .unk, .unk, .unk],
 hp := [], next := 0, hint := .nil }))
theorem BCmp_eq (n : Nat) (a : Nat → Int) (m : Nat) (b : Nat → Int) (r k : Int) : cutT 0 [] [0, 1, 4, 5] [] 0 .nil (exec Try.prog C1 D1 200 bodyCmp (invCmp n a m b r k)) = BCmp n a m b r k := by kernel_rfl
noncomputable def KCmp (n : Nat) (a : Nat → Int) (m : Nat) (b : Nat → Int) (r k : Int) : Tree SV :=
  .ret (iv (0 : Int))
theorem KCmp_eq (n : Nat) (a : Nat → Int) (m : Nat) (b : Nat → Int) (r k : Int) : codeK (sub [] (tCmpL n a m b)) (.exit 0) (invCmp n a m b r k) = KCmp n a m b r k := by kernel_rfl
noncomputable def KCmp2 (n : Nat) (a : Nat → Int) (m : Nat) (b : Nat → Int) (r k : Int) : Tree SV :=
  .ret (iv r)
theorem KCmp2_eq (n : Nat) (a : Nat → Int) (m : Nat) (b : Nat → Int) (r k : Int) : codeK (sub [] (tCmpL n a m b)) .ret (invCmp n a m b r k) = KCmp2 n a m b r k := by kernel_rfl
noncomputable def invMake (a b : Int) : AS := ⟨[.unk, .unk, .unk, .unk, .ok (.ptr 0 0), .ok (iv a), .ok (iv b)] ++ List.replicate 69 .unk, [some (.cells [iv 0, iv 0, iv 0])], 1, .nil⟩
noncomputable def bodyMake : Code := loopN (bodyOf Try.prog 116) 0
noncomputable def BMake (a b : Int) : Tree (Ex × AS) :=
 .need ((2 : Int) ≠ (0 : Int))
 (.need ((Int.tmod a (2 : Int) == (0 : Int)) = true → (2 : Int) ≠ (0 : Int))
 (.ite (Int.tmod a (2 : Int) == (0 : Int) && Int.tmod b (2 : Int) == (0 : Int) && a != (0 : Int))
 (.need ((2 : Int) ≠ (0 : Int))
 (.need ((2 : Int) ≠ (0 : Int))
 (.ret
 (.normal,
 {
 tm :=
 [.unk, .unk, .unk, .unk, .ok (SV.ptr 0 0), .ok (iv (w64 (Int.tdiv a (2 : Int)))), .ok (iv (w64 (Int.tdiv b (2 : Int)))), .unk, .unk, .unk, .unk, .unk, .unk, .unk, .unk,
 .unk, .unk, .unk, .unk, .unk, .unk, .unk, .unk, .unk, .unk, .unk, .unk, .unk, .unk, .unk, .unk, .unk, .unk, .unk, .unk, .unk, .unk, .unk, .unk, .unk, .unk, .unk,
 .unk, .unk, .unk, .unk, .unk, .unk, .unk, .unk, .unk, .unk, .unk, .unk, .unk, .unk, .unk, .unk, .unk, .unk, .unk, .unk, .unk, .unk, .unk, .unk, .unk, .unk, .unk,
 .unk, .unk, .unk, .unk, .unk, .unk, .unk],
 hp := [some (.cells [iv (0 : Int), iv (0 : Int), iv (0 : Int)])], next := 1, hint := .nil }))))
 (.ret
 (.exit 0,
 {
 tm :=
 [.unk, .unk, .unk, .unk, .ok (SV.ptr 0 0), .ok (iv a), .ok (iv b), .unk, .unk, .unk, .unk, .unk, .unk, .unk, .unk, .unk, .unk, .unk, .unk, .unk, .unk, .unk,
 .unk, .unk, .unk, .unk, .unk, .unk, .unk, .unk, .unk, .unk, .unk, .unk, .unk, .unk, .unk, .unk, .unk, .unk, .unk, .unk, .unk, .unk, .unk, .unk, .unk, .unk, .unk, .unk,
 .unk, .unk, .unk, .unk, .unk, .unk, .unk, .unk, .unk, .unk, .unk, .unk, .unk, .unk, .unk, .unk, .unk, .unk, .unk, .unk, .unk, .unk, .unk, .unk, .unk, .unk],
 hp := [some (.cells [iv (0 : Int), iv (0 : Int), iv (0 : Int)])], next := 1, hint := .nil }))))
theorem BMake_eq (a b : Int) : cutT 1 [] [4, 5, 6] [] 1 .nil (exec Try.prog C1 D1 200 bodyMake (invMake a b)) = BMake a b := by kernel_rfl
noncomputable def KMake (n d a b : Int) : Tree SV :=
 .ite (a == (0 : Int)) (.ret (SV.agg [iv (0 : Int), iv (1 : Int), iv (0 : Int)]))
 (.ite (a == (-9223372036854775808 : Int) || b == (-9223372036854775808 : Int)) (.ret (SV.agg [iv (0 : Int), iv (0 : Int), iv (2 : Int)]))
 (.need ((-9223372036854775807 : Int) ≤ a ∧ a ≤ (9223372036854775807 : Int))
 (.need ((-9223372036854775807 : Int) ≤ b ∧ b ≤ (9223372036854775807 : Int))
 (.need ((0 : Int) ≤ (↑(Int.natAbs a) : Int) ∧ (0 : Int) ≤ (↑(Int.natAbs b) : Int))
 (.need ((-9223372036854775807 : Int) ≤ a ∧ a ≤ (9223372036854775807 : Int) ∧ (1 : Int) ≤ (↑(Int.gcd (↑(Int.natAbs a) : Int) (↑(Int.natAbs b) : Int)) : Int))
 (.need ((-9223372036854775807 : Int) ≤ b ∧ b ≤ (9223372036854775807 : Int) ∧ (1 : Int) ≤ (↑(Int.gcd (↑(Int.natAbs a) : Int) (↑(Int.natAbs b) : Int)) : Int))
 (.ite
 (decide ((↑(Int.natAbs a / Int.toNat (↑(Int.gcd (↑(Int.natAbs a) : Int) (↑(Int.natAbs b) : Int)) : Int)) : Int) > (4611686018427387904 : Int)) ||
 decide ((↑(Int.natAbs b / Int.toNat (↑(Int.gcd (↑(Int.natAbs a) : Int) (↑(Int.natAbs b) : Int)) : Int)) : Int) > (4611686018427387904 : Int)))
 (.ret (SV.agg [iv (0 : Int), iv (0 : Int), iv (2 : Int)]))
 (.ite (!decide (a < (0 : Int)) == decide (b < (0 : Int)))
 (.ret
 (SV.agg
 [iv (w64 ((0 : Int) - (↑(Int.natAbs a / Int.toNat (↑(Int.gcd (↑(Int.natAbs a) : Int) (↑(Int.natAbs b) : Int)) : Int)) : Int))),
 iv (↑(Int.natAbs b / Int.toNat (↑(Int.gcd (↑(Int.natAbs a) : Int) (↑(Int.natAbs b) : Int)) : Int)) : Int), iv (0 : Int)]))
 (.ret
 (SV.agg
 [iv (↑(Int.natAbs a / Int.toNat (↑(Int.gcd (↑(Int.natAbs a) : Int) (↑(Int.natAbs b) : Int)) : Int)) : Int), iv (↑(Int.natAbs b / Int.toNat (↑(Int.gcd (↑(Int.natAbs a) : Int) (↑(Int.natAbs b) : Int)) : Int)) : Int),
 iv (0 : Int)]))))))))))
theorem KMake_eq (n d a b : Int) : codeK (sub [1] (tMake n d)) (.exit 0) (invMake a b) = KMake n d a b := by kernel_rfl
end Go.Proofs.Ytpaejfeojdoikaa
namespace Go.Proofs.Ytpaejfeojdoikaa
open Go.Sx
set_option maxRecDepth 100000
theorem atB {n : Nat} {a : Nat → Int} (h : Bits n a) (k : Nat) : (if (k : Int) < n then intCell (fun i x => .x (.int .i64 (a i))) (Int.toNat k) else 0) = bitN (valN a n) k := by
  by_cases hk : (k : Int) < n
  · rw [if_pos hk]; exact (bitN_valN h (by omega)).symm
  · rw [if_neg hk, bitN_high (Nat.le_trans (blen_le.2 (valN_lt h)) (by omega))]; rfl
theorem bitC_of {n : Nat} {a : Nat → Int} (h : Bits n a) : BitC n fun i x => .x (.int .i64 (a i)) := fun i hi => by
  rcases h i hi with e | e <;> simp [e]
theorem bitN_cell (v i : Nat) : xi (bitN v i : Int) = xi 0 ∨ xi (bitN v i : Int) = xi 1 := by
  have := bitN_lt v i
  have : bitN v i = 0 ∨ bitN v i = 1 := by omega
  rcases this with e | e <;> rw [e]
  · exact .inl rfl
  · exact .inr rfl
theorem plus_sat {n : Nat} {a : Nat → Int} {m : Nat} {b : Nat → Int} (hn : n ≤ 500000) (hm : m ≤ 500000) (ha : Bits n a) (hb : Bits m b) : Sat Try.prog (tPlus n a m b) (· = bitsSV (valN a n + valN b m)) := by
  constructor
  rw [show tPlus n a m b = sub [] (tPlus n a m b) from (sub_nil _).symm]
  refine code_satS C1_ok D1_ok (n := 200) (n0 := 1) (nx := 2) (roots := [(.slot 5, 1)]) (keep := [0, 1, 5, 6, 7]) (drop := []) (h := .nil) (c := codeC (sub [] (tPlus n a m b))) (st := codeS (sub [] (tPlus n a m b))) (k := codeK (sub [] (tPlus n a m b))) (body := bodyPlus) (by kernel_rfl) (by kernel_rfl)
    (fun q s => ∃ k : Nat, q = max n m + 1 - k ∧ k ≤ max n m + 1 ∧ s = invPlus n a m b (carryN (valN a n) (valN b m) k) k fun i => bitN (valN a n + valN b m) i)
    (fun e s => e = .exit 0 ∧ s = invPlus n a m b (carryN (valN a n) (valN b m) (max n m + 1)) (max n m + 1) fun i => bitN (valN a n + valN b m) i)
    ⟨_, _, ⟨0, rfl, by omega, rfl⟩, ?_⟩ ?_ ?_
  · refine (entA_sound (s' := ⟨[.ok (ro64 n a), .ok (ro64 m b), .unk, .unk, .unk, .ok (.row 1 0 0 0 1), .ok (iv 0), .ok (iv 0)] ++ List.replicate 32 .unk, [none, some (.cells [])], 2, .nil⟩) (roots := [(.slot 5, 1)]) (keep := [0, 1, 5, 6, 7]) (drop := []) (nx := 2) (h := .nil) (by kernel_rfl)).trans ?_
    rw [carry_zero]
    refine gc_sound [(1, 1)] [] rfl ?_ ?_
    · simp [invPlus, leTm, leTV, leSV, leSVs, rn, iv, leD, List.replicate, ro64]
    · simp [invPlus, leHp, leBlk, leSVs, leSV, rn, iv, leD, srcOf, hget]
  · rintro q s ⟨k, hq, hk, rfl⟩
    refine Sat.of_eq (BPlus_eq n a m b _ k _) ?_
    constructor
    unfold BPlus
    rw [atB ha, atB hb]
    have hc1 := carry_le (valN a n) (valN b m) k
    have hb1 := bitN_lt (valN a n) k
    have hb2 := bitN_lt (valN b m) k
    have hst := add_step (valN a n) (valN b m) k
    have hb3 := bitN_lt (valN a n + valN b m) k
    have hc2 := carry_le (valN a n) (valN b m) (k + 1)
    rw [w64_of (n := (bitN (valN a n) k : Int) + bitN (valN b m) k) (by omega) (by omega), w64_of (n := (bitN (valN a n) k : Int) + bitN (valN b m) k + carryN (valN a n) (valN b m) k) (by omega) (by omega)]
    have e1 : Int.tmod ((bitN (valN a n) k : Int) + bitN (valN b m) k + carryN (valN a n) (valN b m) k) 2 = bitN (valN a n + valN b m) k := by rw [tmod_lit (by omega)]; omega
    have e2 : w64 (Int.tdiv ((bitN (valN a n) k : Int) + bitN (valN b m) k + carryN (valN a n) (valN b m) k) 2) = carryN (valN a n) (valN b m) (k + 1) := by
      rw [Int.tdiv_eq_ediv_of_nonneg (by omega), w64_of (by omega) (by omega)]; omega
    have e3 : w64 ((k : Int) + 1) = ((k + 1 : Nat) : Int) := by rw [w64_of (by omega) (by omega)]; omega
    refine ⟨fun hc => ?_, fun hc => ?_⟩
    · have hc : k ≤ n ∨ k ≤ m := by
        simp only [Bool.or_eq_true, decide_eq_true_eq] at hc; omega
      refine ⟨⟨by omega, bitC_of ha⟩, ⟨by omega, bitC_of hb⟩, by decide, ⟨by omega, by simp, by omega⟩, by decide, max n m + 1 - (k + 1), _, by omega, ⟨k + 1, rfl, by omega, rfl⟩, ?_⟩
      rw [e1, e2, e3]
      refine gc_sound [(1, 1)] [] rfl ?_ ?_
      · simp [invPlus, leTm, leTV, leSV, leSVs, rn, iv, leD, List.replicate, ro64]
      · simp [invPlus, leHp, leBlk, leSVs, leSV, rn, iv, leD, srcOf, hget]
        intro i hi
        rw [selD_eq]
        by_cases h : i < k
        · simp [h]
        · obtain rfl : i = k := by omega
          simp [dsAt]
    · have hc : ¬ (k ≤ n ∨ k ≤ m) := by
        simp only [Bool.or_eq_false_iff, decide_eq_false_iff_not] at hc; omega
      obtain rfl : k = max n m + 1 := by omega
      exact ⟨_, ⟨rfl, rfl⟩, Gc.refl _ _⟩
  · rintro e s ⟨rfl, rfl⟩
    refine Sat.of_eq (KPlus_eq n a m b _ _ _) ⟨?_⟩
    unfold KPlus
    refine ⟨by omega, by omega, ⟨by omega, fun i hi => ?_⟩, ?_⟩
    · exact bitN_cell (valN a n + valN b m) (0 + i)
    · have hv : valN (fun i => ((bitN (valN a n + valN b m) (0 + i) : Nat) : Int)) (max n m + 1) = valN a n + valN b m := by
        simp only [Nat.zero_add]
        refine valN_bits' ?_
        have h1 := valN_lt ha
        have h2 := valN_lt hb
        have h3 := Nat.pow_le_pow_right (show 0 < 2 by omega) (Nat.le_max_left n m)
        have h4 := Nat.pow_le_pow_right (show 0 < 2 by omega) (Nat.le_max_right n m)
        rw [Nat.pow_succ]; omega
      rw [hv]; exact rfl
noncomputable def cPlusL : Ctr := fun ss => match ss with
  | [.d (.ro n 1 cell), .d (.ro m 1 cel2)] => .need (n ≤ 500000 ∧ m ≤ 500000 ∧ BitC n cell ∧ BitC m cel2) (.ret (bitsSV (valN (intCell cell) n + valN (intCell cel2) m)))
  | _ => .fail
theorem cPlusL_ok : CtrOK Try.prog 157 cPlusL := by
  refine ctrOK_leS C1_ok D1_ok (by kernel_rfl) (by kernel_rfl) fun ss r h => ?_
  unfold cPlusL at h
  split at h
  · rename_i n cell m cel2
    obtain ⟨⟨h1, h2, h3, h4⟩, rfl⟩ := h
    refine ⟨[ro64 n (intCell cell), ro64 m (intCell cel2)], 200, .nil, ?_, plus_sat h1 h2 h3.bits h4.bits⟩
    simp only [leSVs, leSV, ro64, leD, and_true, true_and]
    exact ⟨h3.le, h4.le⟩
  · exact h.elim
theorem minus_sat {n : Nat} {a : Nat → Int} {m : Nat} {b : Nat → Int} (hn : n ≤ 500000) (ha : Bits n a) (hb : Bits m b) (hab : valN b m ≤ valN a n) : Sat Try.prog (tMinus n a m b) (· = bitsSV (valN a n - valN b m)) := by
  constructor
  rw [show tMinus n a m b = sub [] (tMinus n a m b) from (sub_nil _).symm]
  refine code_satS C1_ok D1_ok (n := 200) (n0 := 1) (nx := 2) (roots := [(.slot 5, 1)]) (keep := [0, 1, 5, 6, 7]) (drop := []) (h := .nil) (c := codeC (sub [] (tMinus n a m b))) (st := codeS (sub [] (tMinus n a m b))) (k := codeK (sub [] (tMinus n a m b))) (body := bodyMinus) (by kernel_rfl) (by kernel_rfl)
    (fun q s => ∃ k : Nat, q = n - k ∧ k ≤ n ∧ s = invMinus n a m b (borrowN (valN a n) (valN b m) k) k fun i => bitN (valN a n - valN b m) i)
    (fun e s => e = .exit 0 ∧ s = invMinus n a m b (borrowN (valN a n) (valN b m) n) n fun i => bitN (valN a n - valN b m) i)
    ⟨_, _, ⟨0, rfl, by omega, rfl⟩, ?_⟩ ?_ ?_
  · refine (entA_sound (s' := ⟨[.ok (ro64 n a), .ok (ro64 m b), .unk, .unk, .unk, .ok (.row 1 0 0 0 1), .ok (iv 0), .ok (iv 0)] ++ List.replicate 27 .unk, [none, some (.cells [])], 2, .nil⟩) (roots := [(.slot 5, 1)]) (keep := [0, 1, 5, 6, 7]) (drop := []) (nx := 2) (h := .nil) (by kernel_rfl)).trans ?_
    have e0 : borrowN (valN a n) (valN b m) 0 = 0 := by simp [borrowN, Nat.mod_one]
    rw [e0]
    refine gc_sound [(1, 1)] [] rfl ?_ ?_
    · simp [invMinus, leTm, leTV, leSV, leSVs, rn, iv, leD, List.replicate, ro64]
    · simp [invMinus, leHp, leBlk, leSVs, leSV, rn, iv, leD, srcOf, hget]
  · rintro q s ⟨k, hq, hk, rfl⟩
    refine Sat.of_eq (BMinus_eq n a m b _ k _) ?_
    constructor
    unfold BMinus
    rw [atB ha, atB hb]
    have hb1 := bitN_lt (valN a n) k
    have hb2 := bitN_lt (valN b m) k
    have hst := sub_step hab k
    have hb3 := bitN_lt (valN a n - valN b m) k
    have hc1 : borrowN (valN a n) (valN b m) k ≤ 1 := by unfold borrowN; split <;> omega
    have hc2 : borrowN (valN a n) (valN b m) (k + 1) ≤ 1 := by unfold borrowN; split <;> omega
    rw [w64_of (n := (bitN (valN a n) k : Int) - bitN (valN b m) k) (by omega) (by omega), w64_of (n := (bitN (valN a n) k : Int) - bitN (valN b m) k - borrowN (valN a n) (valN b m) k) (by omega) (by omega)]
    have e3 : w64 ((k : Int) + 1) = ((k + 1 : Nat) : Int) := by rw [w64_of (by omega) (by omega)]; omega
    refine ⟨fun hc => ?_, fun hc => ?_⟩
    · have hc : k < n := by simpa using hc
      refine ⟨⟨by omega, bitC_of ha⟩, ⟨by omega, bitC_of hb⟩, fun hs => ?_, fun hs => ?_⟩
      · have hs : (bitN (valN a n) k : Int) - bitN (valN b m) k - borrowN (valN a n) (valN b m) k < 0 := by simpa using hs
        have h1 : borrowN (valN a n) (valN b m) (k + 1) = 1 := by omega
        have e1 : w64 ((bitN (valN a n) k : Int) - bitN (valN b m) k - borrowN (valN a n) (valN b m) k + 2) = bitN (valN a n - valN b m) k := by rw [w64_of (by omega) (by omega)]; omega
        refine ⟨⟨by omega, by simp, by omega⟩, n - (k + 1), _, by omega, ⟨k + 1, rfl, by omega, rfl⟩, ?_⟩
        rw [e1, e3, h1]
        refine gc_sound [(1, 1)] [] rfl ?_ ?_
        · simp [invMinus, leTm, leTV, leSV, leSVs, rn, iv, leD, List.replicate, ro64]
        · simp [invMinus, leHp, leBlk, leSVs, leSV, rn, iv, leD, srcOf, hget]
          intro i hi
          rw [selD_eq]
          by_cases h : i < k
          · simp [h]
          · obtain rfl : i = k := by omega
            simp [dsAt]
      · have hs : ¬ (bitN (valN a n) k : Int) - bitN (valN b m) k - borrowN (valN a n) (valN b m) k < 0 := by simpa using hs
        have h1 : borrowN (valN a n) (valN b m) (k + 1) = 0 := by omega
        have e1 : (bitN (valN a n) k : Int) - bitN (valN b m) k - borrowN (valN a n) (valN b m) k = bitN (valN a n - valN b m) k := by omega
        refine ⟨⟨by omega, by simp, by omega⟩, n - (k + 1), _, by omega, ⟨k + 1, rfl, by omega, rfl⟩, ?_⟩
        rw [e1, e3, h1]
        refine gc_sound [(1, 1)] [] rfl ?_ ?_
        · simp [invMinus, leTm, leTV, leSV, leSVs, rn, iv, leD, List.replicate, ro64]
        · simp [invMinus, leHp, leBlk, leSVs, leSV, rn, iv, leD, srcOf, hget]
          intro i hi
          rw [selD_eq]
          by_cases h : i < k
          · simp [h]
          · obtain rfl : i = k := by omega
            simp [dsAt]
    · have hc : ¬ k < n := by simpa using hc
      obtain rfl : k = n := by omega
      exact ⟨_, ⟨rfl, rfl⟩, Gc.refl _ _⟩
  · rintro e s ⟨rfl, rfl⟩
    refine Sat.of_eq (KMinus_eq n a m b _ _ _) ⟨?_⟩
    unfold KMinus
    refine ⟨by omega, by omega, ⟨by omega, fun i hi => ?_⟩, ?_⟩
    · exact bitN_cell (valN a n - valN b m) (0 + i)
    · have hv : valN (fun i => ((bitN (valN a n - valN b m) (0 + i) : Nat) : Int)) n = valN a n - valN b m := by
        simp only [Nat.zero_add]
        refine valN_bits' ?_
        have h1 := valN_lt ha
        omega
      rw [hv]; exact rfl
noncomputable def cMinusL : Ctr := fun ss => match ss with
  | [.d (.ro n 1 cell), .d (.ro m 1 cel2)] => .need (n ≤ 500000 ∧ BitC n cell ∧ BitC m cel2 ∧ valN (intCell cel2) m ≤ valN (intCell cell) n) (.ret (bitsSV (valN (intCell cell) n - valN (intCell cel2) m)))
  | _ => .fail
theorem cMinusL_ok : CtrOK Try.prog 159 cMinusL := by
  refine ctrOK_leS C1_ok D1_ok (by kernel_rfl) (by kernel_rfl) fun ss r h => ?_
  unfold cMinusL at h
  split at h
  · rename_i n cell m cel2
    obtain ⟨⟨h1, h3, h4, h5⟩, rfl⟩ := h
    refine ⟨[ro64 n (intCell cell), ro64 m (intCell cel2)], 200, .nil, ?_, minus_sat h1 h3.bits h4.bits h5⟩
    simp only [leSVs, leSV, ro64, leD, and_true, true_and]
    exact ⟨h3.le, h4.le⟩
  · exact h.elim
end Go.Proofs.Ytpaejfeojdoikaa
namespace Go.Proofs.Ytpaejfeojdoikaa
open Go.Sx
set_option maxRecDepth 100000
def sgnN (x y : Nat) : Int := if x < y then -1 else if x = y then 0 else 1
set_option maxHeartbeats 2000000 in
theorem cmp_sat {n : Nat} {a : Nat → Int} {m : Nat} {b : Nat → Int} (hn : n ≤ 1000000) (hm : m ≤ 1000000) (ha : Bits n a) (hb : Bits m b) : Sat Try.prog (tCmpL n a m b) (· = iv (sgnN (valN a n) (valN b m))) := by
  constructor
  rw [show tCmpL n a m b = sub [] (tCmpL n a m b) from (sub_nil _).symm]
  have hnm : max n m ≤ 1000000 := by omega
  have h0 : valN a n / 2 ^ max n m = valN b m / 2 ^ max n m := by
    have h1 := valN_lt ha
    have h2 := valN_lt hb
    have h3 := Nat.pow_le_pow_right (show 0 < 2 by omega) (Nat.le_max_left n m)
    have h4 := Nat.pow_le_pow_right (show 0 < 2 by omega) (Nat.le_max_right n m)
    rw [Nat.div_eq_of_lt (by omega), Nat.div_eq_of_lt (by omega)]
  refine code_satS C1_ok D1_ok (n := 200) (n0 := 0) (nx := 0) (roots := []) (keep := [0, 1, 4, 5]) (drop := []) (h := .nil) (c := codeC (sub [] (tCmpL n a m b))) (st := codeS (sub [] (tCmpL n a m b))) (k := codeK (sub [] (tCmpL n a m b))) (body := bodyCmp) (by kernel_rfl) (by kernel_rfl)
    (fun q s => ∃ k : Nat, q = k ∧ k ≤ 1000000 ∧ valN a n / 2 ^ k = valN b m / 2 ^ k ∧ s = invCmp n a m b 0 ((k : Int) - 1))
    (fun e s => (e = .exit 0 ∧ valN a n = valN b m ∧ ∃ r k, s = invCmp n a m b r k) ∨ (e = .ret ∧ valN a n ≠ valN b m ∧ ∃ k, s = invCmp n a m b (if valN a n < valN b m then -1 else 1) k))
    ⟨max n m, invCmp n a m b 0 (((max n m : Nat) : Int) - 1), ⟨max n m, rfl, hnm, h0, rfl⟩, ?_⟩ ?_ ?_
  · refine (entA_sound (s' := invCmp n a m b 0 (w64 ((if (m : Int) > n then (m : Int) else n) - 1))) (roots := []) (keep := [0, 1, 4, 5]) (drop := []) (nx := 0) (h := .nil) (by kernel_rfl)).trans ?_
    have : w64 ((if (m : Int) > n then (m : Int) else n) - 1) = ((max n m : Nat) : Int) - 1 := by
      rw [w64_of] <;> split <;> omega
    rw [this]; exact Gc.refl _ _
  · rintro q s ⟨k, hq, hk, he, rfl⟩
    refine Sat.of_eq (BCmp_eq n a m b 0 _) ?_
    constructor
    unfold BCmp
    refine ⟨fun hc => ?_, fun hc => ?_⟩
    · have hc : 0 < k := by simp only [decide_eq_true_eq] at hc; omega
      obtain ⟨j, rfl⟩ : ∃ j, k = j + 1 := ⟨k - 1, by omega⟩
      rw [show (((j + 1 : Nat) : Int) - 1) = (j : Int) by omega, atB ha, atB hb]
      refine ⟨⟨by omega, bitC_of ha⟩, ⟨by omega, bitC_of hb⟩, fun hs => ?_, fun hs => ?_⟩
      · have hs : bitN (valN a n) j ≠ bitN (valN b m) j := by
          simp only [bne_iff_ne, ne_eq] at hs; omega
        have h1 := cmp_ne he hs
        refine ⟨⟨by omega, bitC_of ha⟩, ⟨by omega, bitC_of hb⟩, _, .inr ⟨rfl, fun h => hs (by rw [h]), j, rfl⟩, ?_⟩
        rw [w64_of (by rw [h1]; split <;> omega) (by rw [h1]; split <;> omega), h1]
        exact Gc.refl _ _
      · have hs : bitN (valN a n) j = bitN (valN b m) j := by
          simp only [bne_eq_false_iff_eq] at hs; omega
        refine ⟨j, _, by omega, ⟨j, rfl, by omega, cmp_step he hs, rfl⟩, ?_⟩
        rw [w64_of (by omega) (by omega)]
        exact Gc.refl _ _
    · have hc : k = 0 := by simp only [decide_eq_false_iff_not] at hc; omega
      subst hc
      exact ⟨_, .inl ⟨rfl, by simpa using he, _, _, rfl⟩, Gc.refl _ _⟩
  · rintro e s (⟨rfl, he, r, k, rfl⟩ | ⟨rfl, he, k, rfl⟩)
    · refine Sat.of_eq (KCmp_eq n a m b _ _) ⟨?_⟩
      unfold KCmp sgnN
      rw [he]; simp [Tree.sat]
    · refine Sat.of_eq (KCmp2_eq n a m b _ _) ⟨?_⟩
      unfold KCmp2 sgnN
      rw [if_neg he]; exact rfl
noncomputable def cCmpL : Ctr := fun ss => match ss with
  | [.d (.ro n 1 cell), .d (.ro m 1 cel2)] => .need (n ≤ 1000000 ∧ m ≤ 1000000 ∧ BitC n cell ∧ BitC m cel2) (.ret (iv (sgnN (valN (intCell cell) n) (valN (intCell cel2) m))))
  | _ => .fail
theorem cCmpL_ok : CtrOK Try.prog 158 cCmpL := by
  refine ctrOK_leS C1_ok D1_ok (by kernel_rfl) (by kernel_rfl) fun ss r h => ?_
  unfold cCmpL at h
  split at h
  · rename_i n cell m cel2
    obtain ⟨⟨h1, h2, h3, h4⟩, rfl⟩ := h
    refine ⟨[ro64 n (intCell cell), ro64 m (intCell cel2)], 200, .nil, ?_, cmp_sat h1 h2 h3.bits h4.bits⟩
    simp only [leSVs, leSV, ro64, leD, and_true, true_and]
    exact ⟨h3.le, h4.le⟩
  · exact h.elim
end Go.Proofs.Ytpaejfeojdoikaa
namespace Go.Proofs.Ytpaejfeojdoikaa
open Go.Sx
set_option maxRecDepth 100000
theorem ratOf_half {a b : Int} (hb : 1 ≤ b) (h1 : a % 2 = 0) (h2 : b % 2 = 0) : ratOf (a / 2) (b / 2) = ratOf a b := by
  unfold ratOf
  have e1 : a = ((2 : Nat) : Int) * (a / 2) := by omega
  have e2 : b.toNat = 2 * (b / 2).toNat := by omega
  rw [e2]
  conv => rhs; rw [e1]
  exact (Rat.mkRat_mul_left (by decide)).symm
theorem tmod2 (a : Int) : (Int.tmod a 2 = 0) ↔ a % 2 = 0 := by
  rw [← Int.dvd_iff_tmod_eq_zero, ← Int.dvd_iff_emod_eq_zero]
theorem tdiv2 {a : Int} (h : a % 2 = 0) : Int.tdiv a 2 = a / 2 := Int.tdiv_eq_ediv_of_dvd (Int.dvd_of_emod_eq_zero h)
theorem make_sat {n d : Int} (hn : -4611686018427387904 ≤ n ∧ n ≤ 4611686018427387904) (hd : 1 ≤ d ∧ d ≤ 4611686018427387904) : Sat Try.prog (tMake n d) (· = .agg [iv (ratOf n d).num, iv (ratOf n d).den, iv 0]) := by
  constructor
  rw [LMake_eq]; unfold LMake
  refine ⟨fun hc => by simp only [beq_iff_eq] at hc; omega, fun hc => ?_⟩
  refine code_satS C1_ok D1_ok (n := 200) (n0 := 1) (nx := 1) (roots := []) (keep := [4, 5, 6]) (drop := []) (h := .nil) (c := codeC (sub [1] (tMake n d))) (st := codeS (sub [1] (tMake n d))) (k := codeK (sub [1] (tMake n d))) (body := bodyMake) (by kernel_rfl) (by kernel_rfl)
    (fun q s => ∃ a b : Int, q = b.toNat ∧ (-4611686018427387904 ≤ a ∧ a ≤ 4611686018427387904) ∧ (1 ≤ b ∧ b ≤ 4611686018427387904) ∧ ratOf a b = ratOf n d ∧ s = invMake a b)
    (fun e s => ∃ a b : Int, e = .exit 0 ∧ (-4611686018427387904 ≤ a ∧ a ≤ 4611686018427387904) ∧ (1 ≤ b ∧ b ≤ 4611686018427387904) ∧ ratOf a b = ratOf n d ∧ s = invMake a b)
    ⟨_, _, ⟨n, d, rfl, hn, hd, rfl, rfl⟩, ?_⟩ ?_ ?_
  · exact entA_sound (roots := []) (keep := [4, 5, 6]) (drop := []) (nx := 1) (h := .nil) (by kernel_rfl)
  · rintro q s ⟨a, b, hq, ha, hb, he, rfl⟩
    refine Sat.of_eq (BMake_eq a b) ?_
    constructor
    unfold BMake
    refine ⟨by decide, fun _ => by decide, fun hc => ?_, fun hc => ?_⟩
    · simp only [Bool.and_eq_true, beq_iff_eq, bne_iff_ne, ne_eq, tmod2] at hc
      obtain ⟨⟨h1, h2⟩, h3⟩ := hc
      rw [tdiv2 h1, tdiv2 h2, w64_of (n := a / 2) (by omega) (by omega), w64_of (n := b / 2) (by omega) (by omega)]
      exact ⟨by decide, by decide, (b / 2).toNat, _, by omega, ⟨a / 2, b / 2, rfl, by omega, by omega, by rw [ratOf_half hb.1 h1 h2, he], rfl⟩, Gc.refl _ _⟩
    · exact ⟨_, ⟨a, b, rfl, ha, hb, he, rfl⟩, Gc.refl _ _⟩
  · rintro e s ⟨a, b, rfl, ha, hb, he, rfl⟩
    refine Sat.of_eq (KMake_eq n d a b) ⟨?_⟩
    unfold KMake
    rw [← he]
    have hg : ((Int.gcd (a.natAbs : Int) (b.natAbs : Int) : Nat) : Int).toNat = a.natAbs.gcd b.toNat := by
      rw [Int.toNat_natCast, Int.gcd_natCast_natCast]; congr 1; omega
    have hgp : 0 < a.natAbs.gcd b.toNat := Nat.gcd_pos_of_pos_right _ (by omega)
    have hg1 : ((Int.gcd (a.natAbs : Int) (b.natAbs : Int) : Nat) : Int) = ((a.natAbs.gcd b.toNat : Nat) : Int) := by rw [← hg]; omega
    obtain ⟨r1, r2⟩ := ratOf_red (n := a) (d := b) (by omega) rfl
    have ga := Nat.div_le_self a.natAbs (a.natAbs.gcd b.toNat)
    have gb := Nat.div_le_self b.natAbs (a.natAbs.gcd b.toNat)
    have na : (Int.tdiv a (a.natAbs.gcd b.toNat : Nat)).natAbs = a.natAbs / a.natAbs.gcd b.toNat := by rw [Int.natAbs_tdiv]; rfl
    have nb : (Int.tdiv b (a.natAbs.gcd b.toNat : Nat)).natAbs = b.natAbs / a.natAbs.gcd b.toNat := by rw [Int.natAbs_tdiv]; rfl
    have sb : 0 ≤ Int.tdiv b (a.natAbs.gcd b.toNat : Nat) := Int.tdiv_nonneg (by omega) (by omega)
    refine ⟨fun h0 => ?_, fun h0 => ?_⟩
    · have h0 : a = 0 := by simpa using h0
      subst h0
      have : ratOf 0 b = 0 := by unfold ratOf; exact Rat.zero_mkRat _
      rw [this]; exact rfl
    · have h0 : a ≠ 0 := by simpa using h0
      refine ⟨fun hl => ?_, fun hl => ⟨by omega, by omega, by omega, ?_⟩⟩
      · simp only [Bool.or_eq_true, beq_iff_eq] at hl; omega
      rw [hg1, Int.toNat_natCast]
      refine ⟨⟨by omega, by omega, by omega⟩, ⟨by omega, by omega, by omega⟩, fun hm => ?_, fun hm => ?_⟩
      · simp only [Bool.or_eq_true, decide_eq_true_eq] at hm; omega
      refine ⟨fun hs => ?_, fun hs => ?_⟩
      · have hneg : a < 0 := by
          apply Decidable.byContradiction
          intro h
          have e1 : decide (a < 0) = false := by simpa using h
          have e2 : decide (b < 0) = false := by simp; omega
          rw [e1, e2] at hs; simp at hs
        have sa : Int.tdiv a (a.natAbs.gcd b.toNat : Nat) ≤ 0 := by
          have := Int.tdiv_nonneg (a := -a) (b := ((a.natAbs.gcd b.toNat : Nat) : Int)) (by omega) (by omega)
          rw [Int.neg_tdiv] at this; omega
        rw [w64_of (by omega) (by omega), r1, r2, ← na, ← nb]
        simp only [Tree.sat]
        rw [show 0 - ((Int.tdiv a (a.natAbs.gcd b.toNat : Nat)).natAbs : Int) = Int.tdiv a (a.natAbs.gcd b.toNat : Nat) by omega, show ((Int.tdiv b (a.natAbs.gcd b.toNat : Nat)).natAbs : Int) = Int.tdiv b (a.natAbs.gcd b.toNat : Nat) by omega]
      · have hpos : 0 ≤ a := by
          apply Decidable.byContradiction
          intro h
          have e1 : decide (a < 0) = true := by simp; omega
          have e2 : decide (b < 0) = false := by simp; omega
          rw [e1, e2] at hs; simp at hs
        have sa : 0 ≤ Int.tdiv a (a.natAbs.gcd b.toNat : Nat) := Int.tdiv_nonneg (by omega) (by omega)
        rw [r1, r2, ← na, ← nb]
        simp only [Tree.sat]
        rw [show ((Int.tdiv a (a.natAbs.gcd b.toNat : Nat)).natAbs : Int) = Int.tdiv a (a.natAbs.gcd b.toNat : Nat) by omega, show ((Int.tdiv b (a.natAbs.gcd b.toNat : Nat)).natAbs : Int) = Int.tdiv b (a.natAbs.gcd b.toNat : Nat) by omega]
noncomputable def cMake : Ctr := fun ss => match ss with
  | [.d (.x (.int .i64 n)), .d (.x (.int .i64 d))] => .need ((-4611686018427387904 ≤ n ∧ n ≤ 4611686018427387904) ∧ (1 ≤ d ∧ d ≤ 4611686018427387904)) (.ret (.agg [iv (ratOf n d).num, iv (ratOf n d).den, iv 0]))
  | _ => .fail
theorem cMake_ok : CtrOK Try.prog 116 cMake := by
  refine ctrOK_leS C1_ok D1_ok (by kernel_rfl) (by kernel_rfl) fun ss r h => ?_
  unfold cMake at h
  split at h
  · rename_i n d
    obtain ⟨⟨h1, h2⟩, rfl⟩ := h
    exact ⟨[iv n, iv d], 200, .nil, by simp [leSVs, leSV, iv, leD], make_sat h1 h2⟩
  · exact h.elim
end Go.Proofs.Ytpaejfeojdoikaa
namespace Go.Proofs.Ytpaejfeojdoikaa
open Go.Sx
set_option maxRecDepth 100000
noncomputable def man2 : FuncId → Option Ctr := fun k => match k with
  | 80 => some cGcd
  | 81 => some cSize
  | 162 => some cHalf
  | 115 => some cBits
  | 160 => some cTrim
  | 177 => some cAt
  | 157 => some cPlusL
  | 158 => some cCmpL
  | 159 => some cMinusL
  | 116 => some cMake
  | _ => none
theorem man2_ok (k : Nat) (c : Ctr) (h : man2 k = some c) : CtrOK Try.prog k c ∧ goodF Try.prog k = true := by
  unfold man2 at h
  split at h <;> first | (cases h; done) | (cases h)
  · exact ⟨cGcd_ok, by kernel_rfl⟩
  · exact ⟨cSize_ok, by kernel_rfl⟩
  · exact ⟨cHalf_ok, by kernel_rfl⟩
  · exact ⟨cBits_ok, by kernel_rfl⟩
  · exact ⟨cTrim_ok, by kernel_rfl⟩
  · exact ⟨cAt_ok, by kernel_rfl⟩
  · exact ⟨cPlusL_ok, by kernel_rfl⟩
  · exact ⟨cCmpL_ok, by kernel_rfl⟩
  · exact ⟨cMinusL_ok, by kernel_rfl⟩
  · exact ⟨cMake_ok, by kernel_rfl⟩
noncomputable def C2 : Ctx := ctxN Try.prog man2 (fun _ => false) 200 .nil 6
theorem C2_ok : CtxOK Try.prog C2 := ctxN_ok mixed man2_ok 6
noncomputable def D2 : Dr := fun _ => drawn Try.prog C2
theorem D2_ok : DrOK Try.prog C2 D2 := drawn_ok C2_ok mixed
noncomputable def T2 (k : Nat) (args : List SV) : Tree SV := fnT Try.prog C2 D2 200 (fnOf Try.prog k) (bodyOf Try.prog k) args .nil
noncomputable def tTimes (n : Nat) (a : Nat → Int) (m : Nat) (b : Nat → Int) : Tree SV := T2 114 [ro64 n a, ro64 m b]
noncomputable def LTimes (n : Nat) (a : Nat → Int) (m : Nat) (b : Nat → Int) : Tree SV :=
  .need (0 ≤ 0 ∧ True ∧ (0 + n) * 8 ≤ 140737488355328) (.code (codeC (sub [(0 : Nat)] (tTimes n a m b))) (codeS (sub [(0 : Nat)] (tTimes n a m b))) (codeK (sub [(0 : Nat)] (tTimes n a m b))))
theorem LTimes_eq (n : Nat) (a : Nat → Int) (m : Nat) (b : Nat → Int) : tTimes n a m b = LTimes n a m b := by kernel_rfl
noncomputable def tMadeR (n d : Int) : Tr SV := autoC Try.prog (ctxN Try.prog man2 (fun _ => false) 200 .run 6) 200 41 .run [iv n, iv d]
noncomputable def LMadeR (n d : Int) : Tr SV :=
  Tr.need (((-4611686018427387904 : Int) ≤ n ∧ n ≤ (4611686018427387904 : Int)) ∧ (1 : Int) ≤ d ∧ d ≤ (4611686018427387904 : Int)) (Tr.ret (SV.agg [iv (Rat.num (ratOf n d)), iv (↑(Rat.den (ratOf n d)) : Int)]))
theorem LMadeR_eq (n d : Int) : tMadeR n d = LMadeR n d := by kernel_rfl
noncomputable def invTimes (m : Nat) (b : Nat → Int) (v : Nat) (l : Nat) (c : Nat → Int) (i : Int) : AS := ⟨[.unk, .ok (ro64 m b), .unk, .unk, .unk, .ok (bitsSV v), .ok (.row 3 0 0 l 1), .ok (iv i)] ++ List.replicate 22 .unk, [none, none, none, some (.row l 1 fun i _ => .x (.int .i64 (c i)))], 4, .nil⟩
noncomputable def bodyTimes : Code := loopN (bodyOf Try.prog 114) 0
noncomputable def BTimes (m : Nat) (b : Nat → Int) (v : Nat) (l : Nat) (c : Nat → Int) (i : Int) : Tree (Ex × AS) :=
 .ite (decide (i < (↑m : Int)))
 (.need ((0 : Int) ≤ i ∧ i < (↑m : Int))
 (.ite (b (Int.toNat i) == (1 : Int))
 (.need (0 + l ≤ l)
 (.need (0 + l ≤ l)
 (.need
 (blen v ≤ 500000 ∧ l ≤ 500000 ∧ (BitC (blen v) fun i x => DV.x (.int .i64 ((fun i => (↑(bitN v i) : Int)) i))) ∧ BitC l fun i j => (fun i x => DV.x (.int .i64 (c i))) ((0 : Nat) + i) j)
 (.need (1 ≤ 1 ∧ True ∧ (1 + l) * 8 ≤ 140737488355328)
 (.ret
 (.normal,
 {
 tm :=
 [.unk, .ok (SV.d (DV.ro m 1 fun i x => DV.x (.int .i64 (b i)))), .unk, .unk, .unk,
 .ok
 (SV.d
 (DV.ro (blen (valN (fun i => (↑(bitN v i) : Int)) (blen v) + valN (fun i => c ((0 : Nat) + i)) l)) 1 fun i x =>
 DV.x (.int .i64 (↑(bitN (valN (fun i => (↑(bitN v i) : Int)) (blen v) + valN (fun i => c ((0 : Nat) + i)) l) i) : Int)))),
 .ok (SV.row 3 0 0 (1 + l) 1), .ok (iv (w64 (i + (1 : Int)))), .unk, .unk, .unk, .unk, .unk, .unk, .unk, .unk, .unk, .unk, .unk, .unk,
 .unk, .unk, .unk, .unk, .unk, .unk, .unk, .unk, .unk, .unk],
 hp :=
 [none, none, none,
 some
 (.row (1 + l) 1 fun a b =>
 selD (decide (a < 1)) (dsAt [DV.x (.int .i64 (0 : Int))] (0 + (0 + a) * 1 + b)) (DV.x (.int .i64 (c ((0 : Nat) + (a - (1 : Nat)))))))],
 next := 4, hint := .nil }))))))
 (.need (1 ≤ 1 ∧ 0 + l ≤ l ∧ (1 + l) * 8 ≤ 140737488355328)
 (.ret
 (.normal,
 {
 tm :=
 [.unk, .ok (SV.d (DV.ro m 1 fun i x => DV.x (.int .i64 (b i)))), .unk, .unk, .unk, .ok (SV.d (DV.ro (blen v) 1 fun i x => DV.x (.int .i64 (↑(bitN v i) : Int)))),
 .ok (SV.row 3 0 0 (1 + l) 1), .ok (iv (w64 (i + (1 : Int)))), .unk, .unk, .unk, .unk, .unk, .unk, .unk, .unk, .unk, .unk, .unk, .unk, .unk,
 .unk, .unk, .unk, .unk, .unk, .unk, .unk, .unk, .unk],
 hp :=
 [none, none, none,
 some
 (.row (1 + l) 1 fun a b =>
 selD (decide (a < 1)) (dsAt [DV.x (.int .i64 (0 : Int))] (0 + (0 + a) * 1 + b)) (DV.x (.int .i64 (c ((0 : Nat) + (a - (1 : Nat)))))))],
 next := 4, hint := .nil })))))
 (.ret
 (.exit 0,
 {
 tm :=
 [.unk, .ok (SV.d (DV.ro m 1 fun i x => DV.x (.int .i64 (b i)))), .unk, .unk, .unk, .ok (SV.d (DV.ro (blen v) 1 fun i x => DV.x (.int .i64 (↑(bitN v i) : Int)))),
 .ok (SV.row 3 0 0 l 1), .ok (iv i), .unk, .unk, .unk, .unk, .unk, .unk, .unk, .unk, .unk, .unk, .unk, .unk, .unk, .unk, .unk, .unk, .unk, .unk,
 .unk, .unk, .unk, .unk],
 hp := [none, none, none, some (.row l 1 fun i x => DV.x (.int .i64 (c i)))], next := 4, hint := .nil }))
theorem BTimes_eq (m : Nat) (b : Nat → Int) (v : Nat) (l : Nat) (c : Nat → Int) (i : Int) : cutT 3 [(.slot 6, 3)] [1, 5, 6, 7] [] 4 .nil (exec Try.prog C2 D2 200 bodyTimes (invTimes m b v l c i)) = BTimes m b v l c i := by kernel_rfl
noncomputable def KTimes (n : Nat) (a : Nat → Int) (m : Nat) (b : Nat → Int) (v : Nat) (l : Nat) (c : Nat → Int) (i : Int) : Tree SV :=
  .ret (SV.d (DV.ro (blen v) 1 fun i x => DV.x (.int .i64 (↑(bitN v i) : Int))))
theorem KTimes_eq (n : Nat) (a : Nat → Int) (m : Nat) (b : Nat → Int) (v : Nat) (l : Nat) (c : Nat → Int) (i : Int) : codeK (sub [0] (tTimes n a m b)) (.exit 0) (invTimes m b v l c i) = KTimes n a m b v l c i := by kernel_rfl
noncomputable def entT {α : Type} (ls : List Nat) (n0 : Nat) (roots : List (Root × Nat)) (keep drop : List Nat) (nx : Nat) (h : Hint) (t : Tree α) : Tree AS :=
  needT (frzP ls (ups (codeS t) n0)) (match frcO (gcA n0 roots keep drop nx h (frzSt ls (ups (codeS t) n0))) with | some s => .ret s | none => .fail)
noncomputable def ITimes (n : Nat) (a : Nat → Int) (m : Nat) (b : Nat → Int) : Tree AS :=
  .need (0 ≤ 0)
  (.need (0 ≤ 0)
    (.ret
      {
        tm :=
          [.unk, .ok (SV.d (DV.ro m 1 fun i x => DV.x (.int .i64 (b i)))), .unk, .unk, .unk, .ok (SV.d (DV.ro 0 1 fun i j => dsAt [] (0 + (0 + i) * 1 + j))),
            .ok (SV.row 3 0 0 (0 + n) 1), .ok (iv (0 : Int)), .unk, .unk, .unk, .unk, .unk, .unk, .unk, .unk, .unk, .unk, .unk, .unk, .unk, .unk, .unk,
            .unk, .unk, .unk, .unk, .unk, .unk, .unk],
        hp := [none, none, none, some (.row (0 + n) 1 fun a_1 b => DV.x (.int .i64 (a (a_1 - (0 : Nat)))))], next := 4, hint := .nil }))
theorem ITimes_eq (n : Nat) (a : Nat → Int) (m : Nat) (b : Nat → Int) : entT [0] 3 [(.slot 6, 3)] [1, 5, 6, 7] [0, 1] 4 .nil (sub [0] (tTimes n a m b)) = ITimes n a m b := by kernel_rfl
end Go.Proofs.Ytpaejfeojdoikaa
namespace Go.Proofs.Ytpaejfeojdoikaa
open Go.Sx
set_option maxRecDepth 100000
theorem entT_gc {α : Type} {P : Program} {ls : List Nat} {n0 : Nat} {roots : List (Root × Nat)} {keep drop : List Nat} {nx : Nat} {h : Hint} {t : Tree α} {X : AS} (hs : Sat P (entT ls n0 roots keep drop nx h t) (Is X)) : Gc n0 (ups (codeS t) n0) X := by
  obtain ⟨hps, hs⟩ := needT_sat hs.ok
  split at hs
  · rename_i s he
    rw [frcO_eq] at he
    have hs : s = X := hs
    subst hs
    exact fun p μ0 a w h0 hsim => gcA_sound he p μ0 a w h0 (frz_sim P hsim hps)
  · exact hs.elim
def shiftC (c : Nat → Int) (j : Nat) : Int := if j < 1 then 0 else c (j - 1)
theorem valN_shift {c : Nat → Int} : ∀ l, valN (shiftC c) (l + 1) = 2 * valN c l
  | 0 => by simp [valN, shiftC]
  | l + 1 => by
    rw [valN, valN_shift l]
    conv => rhs; rw [valN]
    simp only [shiftC]
    rw [if_neg (by omega), Nat.add_sub_cancel, Nat.pow_succ, Nat.mul_add, Nat.mul_comm (2 ^ l) 2, ← Nat.mul_assoc, ← Nat.mul_assoc, Nat.mul_comm _ 2]
theorem bits_shift {c : Nat → Int} {l : Nat} (h : Bits l c) : Bits (l + 1) (shiftC c) := fun i hi => by
  unfold shiftC
  split
  · exact .inl rfl
  · exact h _ (by omega)
theorem invTimes_gc {m : Nat} {b : Nat → Int} {s : SV} {l : Nat} {c' : Nat → Nat → DV} {c : Nat → Int} {i : Int} {v : Nat} (hs : leSV 3 [(3, 3)] [] s (bitsSV v)) (h : ∀ i j, i < l → j < 1 → c' i j = .x (.int .i64 (c i))) :
    Gc 3 ⟨[.unk, .ok (ro64 m b), .unk, .unk, .unk, .ok s, .ok (.row 3 0 0 l 1), .ok (iv i)] ++ List.replicate 22 .unk, [none, none, none, some (.row l 1 c')], 4, .nil⟩ (invTimes m b v l c i) := by
  refine gc_sound [(3, 3)] [] rfl ?_ ?_
  · simp [invTimes, leTm, leTV, leSV, leSVs, rn, iv, leD, List.replicate, ro64]
    exact hs
  · simp [invTimes, leHp, leBlk, leSVs, leSV, rn, iv, leD, srcOf, hget]
    intro i hi; exact h i 0 hi (by omega)
theorem le_bits {v w : Nat} (h : v = w) {n0 : Nat} {ρ : List (Nat × Nat)} : leSV n0 ρ [] (bitsSV v) (bitsSV w) := by
  subst h; simp [bitsSV, ro64, leSV, leD]
theorem times_sat {n : Nat} {a : Nat → Int} {m : Nat} {b : Nat → Int} (hn : n ≤ 1000) (hm : m ≤ 1000) (ha : Bits n a) (hb : Bits m b) : Sat Try.prog (tTimes n a m b) (· = bitsSV (valN a n * valN b m)) := by
  constructor
  rw [LTimes_eq]; unfold LTimes
  refine ⟨⟨by omega, trivial, by omega⟩, ?_⟩
  refine code_satS C2_ok D2_ok (n := 200) (n0 := 3) (nx := 4) (roots := [(.slot 6, 3)]) (keep := [1, 5, 6, 7]) (drop := []) (h := .nil) (c := codeC (sub [0] (tTimes n a m b))) (st := codeS (sub [0] (tTimes n a m b))) (k := codeK (sub [0] (tTimes n a m b))) (body := bodyTimes) (by kernel_rfl) (by kernel_rfl)
    (fun q s => ∃ (k l : Nat) (c : Nat → Int), q = m - k ∧ k ≤ m ∧ l = n + k ∧ Bits l c ∧ valN c l = valN a n * 2 ^ k ∧ s = invTimes m b (valN a n * (valN b m % 2 ^ k)) l c k)
    (fun e s => e = .exit 0 ∧ ∃ l c i, s = invTimes m b (valN a n * valN b m) l c i)
    ⟨_, _, ⟨0, n, a, rfl, by omega, rfl, ha, by simp, rfl⟩, ?_⟩ ?_ ?_
  · refine (entT_gc (P := Try.prog) (ls := [0]) (n0 := 3) (roots := [(.slot 6, 3)]) (keep := [1, 5, 6, 7]) (drop := [0, 1]) (nx := 4) (h := .nil) (t := sub [0] (tTimes n a m b)) (X := ⟨[.unk, .ok (ro64 m b), .unk, .unk, .unk, .ok (.d (.ro 0 1 fun i j => dsAt [] (0 + (0 + i) * 1 + j))), .ok (.row 3 0 0 (0 + n) 1), .ok (iv 0)] ++ List.replicate 22 .unk, [none, none, none, some (.row (0 + n) 1 fun i j => .x (.int .i64 (a (i - 0))))], 4, .nil⟩) (Sat.of_eq (ITimes_eq n a m b) ⟨by unfold ITimes; exact ⟨by omega, by omega, rfl⟩⟩)).trans ?_
    rw [Nat.zero_add, Nat.pow_zero, Nat.mod_one, Nat.mul_zero]
    refine invTimes_gc ?_ fun i j hi hj => rfl
    simp [bitsSV, ro64, leSV, leD, blen_zero]
  · rintro q s ⟨k, l, c, hq, hk, hl, hc, hv, rfl⟩
    refine Sat.of_eq (BTimes_eq m b _ l c _) ?_
    constructor
    unfold BTimes
    have e3 : w64 ((k : Int) + 1) = ((k + 1 : Nat) : Int) := by rw [w64_of (by omega) (by omega)]; omega
    have hva := valN_lt ha
    have hvb := valN_lt hb
    have hvl : valN a n * (valN b m % 2 ^ k) < 2 ^ (n + m) := by
      rw [Nat.pow_add]
      have h1 : valN b m % 2 ^ k ≤ valN b m := Nat.mod_le _ _
      exact Nat.mul_lt_mul_of_lt_of_le hva (by omega) (Nat.pow_pos (by omega))
    have hbl : blen (valN a n * (valN b m % 2 ^ k)) ≤ 2000 := Nat.le_trans (blen_le.2 hvl) (by omega)
    have hcell : ∀ i j, i < 1 + l → j < 1 → selD (decide (i < 1)) (dsAt [DV.x (Value.int .i64 0)] (0 + (0 + i) * 1 + j)) (DV.x (Value.int .i64 (c (0 + (i - 1))))) = .x (.int .i64 (shiftC c i)) := by
      intro i j hi hj
      obtain rfl : j = 0 := by omega
      rw [selD_eq]
      by_cases h : i < 1
      · obtain rfl : i = 0 := by omega
        rfl
      · simp [shiftC, h]
    have hbit := bitN_valN hb (i := k)
    have hms := mul_step (valN a n) (valN b m) k
    have hsh : valN (shiftC c) (1 + l) = valN a n * 2 ^ (k + 1) := by
      rw [Nat.add_comm, valN_shift, hv, Nat.pow_succ]; simp [Nat.mul_comm, Nat.mul_assoc, Nat.mul_left_comm]
    have hbs : Bits (1 + l) (shiftC c) := by rw [Nat.add_comm]; exact bits_shift hc
    rw [Int.toNat_natCast, e3]
    refine ⟨fun hlt => ?_, fun hlt => ?_⟩
    · have hlt : k < m := by simpa using hlt
      have hbit := hbit hlt
      refine ⟨by omega, fun h1 => ?_, fun h1 => ?_⟩
      · have h1 : b k = 1 := by simpa using h1
        rw [h1] at hbit
        have hbit : bitN (valN b m) k = 1 := by omega
        refine ⟨by omega, by omega, ⟨by omega, by omega, fun i hi => bitN_cell _ i, ?_⟩, ⟨by omega, trivial, by omega⟩, m - (k + 1), _, by omega, ⟨k + 1, 1 + l, shiftC c, rfl, hlt, by omega, hbs, hsh, rfl⟩, ?_⟩
        · simp only [Nat.zero_add]; exact bitC_of hc
        · refine invTimes_gc (s := bitsSV _) (le_bits ?_) hcell
          rw [valN_bits, hms, hbit, Nat.one_mul, ← hv]
          simp only [Nat.zero_add]
      · have h1 : ¬ b k = 1 := by simpa using h1
        have hbit : bitN (valN b m) k = 0 := by
          rcases hb k hlt with h | h
          · omega
          · exact absurd h h1
        refine ⟨⟨by omega, by omega, by omega⟩, m - (k + 1), _, by omega, ⟨k + 1, 1 + l, shiftC c, rfl, hlt, by omega, hbs, hsh, rfl⟩, ?_⟩
        refine invTimes_gc (s := bitsSV _) (le_bits ?_) hcell
        rw [hms, hbit, Nat.zero_mul, Nat.add_zero]
    · have hlt : ¬ k < m := by simpa using hlt
      obtain rfl : k = m := by omega
      refine ⟨_, ⟨rfl, l, c, (k : Int), rfl⟩, ?_⟩
      rw [Nat.mod_eq_of_lt hvb]
      exact Gc.refl _ _
  · rintro e s ⟨rfl, l, c, i, rfl⟩
    exact Sat.of_eq (KTimes_eq n a m b _ l c i) ⟨rfl⟩
noncomputable def cTimesL : Ctr := fun ss => match ss with
  | [.d (.ro n 1 cell), .d (.ro m 1 cel2)] => .need (n ≤ 1000 ∧ m ≤ 1000 ∧ BitC n cell ∧ BitC m cel2) (.ret (bitsSV (valN (intCell cell) n * valN (intCell cel2) m)))
  | _ => .fail
theorem cTimesL_ok : CtrOK Try.prog 114 cTimesL := by
  refine ctrOK_leS C2_ok D2_ok (by kernel_rfl) (by kernel_rfl) fun ss r h => ?_
  unfold cTimesL at h
  split at h
  · rename_i n cell m cel2
    obtain ⟨⟨h1, h2, h3, h4⟩, rfl⟩ := h
    refine ⟨[ro64 n (intCell cell), ro64 m (intCell cel2)], 200, .nil, ?_, times_sat h1 h2 h3.bits h4.bits⟩
    simp only [leSVs, leSV, ro64, leD, and_true, true_and]
    exact ⟨h3.le, h4.le⟩
  · exact h.elim
noncomputable def cMade : Ctr := fun ss => match ss with
  | [.d (.x (.int .i64 n)), .d (.x (.int .i64 d))] => .need ((-4611686018427387904 ≤ n ∧ n ≤ 4611686018427387904) ∧ (1 ≤ d ∧ d ≤ 4611686018427387904)) (.ret (.agg [iv (ratOf n d).num, iv (ratOf n d).den]))
  | _ => .fail
theorem C2r_ok : CtxOK Try.prog (ctxN Try.prog man2 (fun _ => false) 200 .run 6) := ctxN_ok mixed man2_ok 6
theorem cMade_ok : CtrOK Try.prog 41 cMade := (autoC_ok C2r_ok mixed 200 41 .run).mono fun ss r h => by
  unfold cMade at h
  split at h
  · rename_i n d
    show (tMadeR n d).ev r
    rw [LMadeR_eq]; exact h
  · exact h.elim
end Go.Proofs.Ytpaejfeojdoikaa
namespace Go.Proofs.Ytpaejfeojdoikaa
open Go.Sx
set_option maxRecDepth 100000
noncomputable def man3 : FuncId → Option Ctr := fun k => match k with
  | 80 => some cGcd
  | 81 => some cSize
  | 115 => some cBits
  | 157 => some cPlusL
  | 158 => some cCmpL
  | 159 => some cMinusL
  | 116 => some cMake
  | 114 => some cTimesL
  | 41 => some cMade
  | _ => none
theorem man3_ok (k : Nat) (c : Ctr) (h : man3 k = some c) : CtrOK Try.prog k c ∧ goodF Try.prog k = true := by
  unfold man3 at h
  split at h <;> first | (cases h; done) | (cases h)
  · exact ⟨cGcd_ok, by kernel_rfl⟩
  · exact ⟨cSize_ok, by kernel_rfl⟩
  · exact ⟨cBits_ok, by kernel_rfl⟩
  · exact ⟨cPlusL_ok, by kernel_rfl⟩
  · exact ⟨cCmpL_ok, by kernel_rfl⟩
  · exact ⟨cMinusL_ok, by kernel_rfl⟩
  · exact ⟨cMake_ok, by kernel_rfl⟩
  · exact ⟨cTimesL_ok, by kernel_rfl⟩
  · exact ⟨cMade_ok, by kernel_rfl⟩
noncomputable def C3 : Ctx := ctxN Try.prog man3 (fun _ => false) 200 .nil 6
theorem C3_ok : CtxOK Try.prog C3 := ctxN_ok mixed man3_ok 6
noncomputable def D3 : Dr := fun _ => drawn Try.prog C3
theorem D3_ok : DrOK Try.prog C3 D3 := drawn_ok C3_ok mixed
noncomputable def T3 (k : Nat) (args : List SV) : Tree SV := fnT Try.prog C3 D3 200 (fnOf Try.prog k) (bodyOf Try.prog k) args .nil
noncomputable def LProd (a b : Int) : Tree SV :=
 .need ((-9223372036854775807 : Int) ≤ a ∧ a ≤ (9223372036854775807 : Int))
 (.need ((0 : Int) ≤ (↑(Int.natAbs a) : Int) ∧ (↑(Int.natAbs a) : Int) ≤ (9223372036854775807 : Int))
 (.need ((-9223372036854775807 : Int) ≤ b ∧ b ≤ (9223372036854775807 : Int))
 (.need ((0 : Int) ≤ (↑(Int.natAbs b) : Int) ∧ (↑(Int.natAbs b) : Int) ≤ (9223372036854775807 : Int))
 (.need
 (blen (Int.toNat (↑(Int.natAbs a) : Int)) ≤ 1000 ∧
 blen (Int.toNat (↑(Int.natAbs b) : Int)) ≤ 1000 ∧
 (BitC (blen (Int.toNat (↑(Int.natAbs a) : Int))) fun i x => DV.x (.int .i64 ((fun i => (↑(bitN (Int.toNat (↑(Int.natAbs a) : Int)) i) : Int)) i))) ∧
 BitC (blen (Int.toNat (↑(Int.natAbs b) : Int))) fun i x => DV.x (.int .i64 ((fun i => (↑(bitN (Int.toNat (↑(Int.natAbs b) : Int)) i) : Int)) i)))
 (.ret
 (SV.agg
 [bv !decide (a < (0 : Int)) == decide (b < (0 : Int)),
 SV.d
 (DV.ro
 (blen
 (valN (fun i => (↑(bitN (Int.toNat (↑(Int.natAbs a) : Int)) i) : Int)) (blen (Int.toNat (↑(Int.natAbs a) : Int))) *
 valN (fun i => (↑(bitN (Int.toNat (↑(Int.natAbs b) : Int)) i) : Int)) (blen (Int.toNat (↑(Int.natAbs b) : Int)))))
 1 fun i x =>
 DV.x
 (.int .i64
 (↑(bitN
 (valN (fun i => (↑(bitN (Int.toNat (↑(Int.natAbs a) : Int)) i) : Int)) (blen (Int.toNat (↑(Int.natAbs a) : Int))) *
 valN (fun i => (↑(bitN (Int.toNat (↑(Int.natAbs b) : Int)) i) : Int)) (blen (Int.toNat (↑(Int.natAbs b) : Int))))
 i) :
 Int)))]))))))
theorem LProd_eq (a b : Int) : T3 111 [iv a, iv b] = LProd a b := by kernel_rfl
noncomputable def LSum (s : Bool) (n : Nat) (a : Nat → Int) (t : Bool) (m : Nat) (b : Nat → Int) : Tree SV :=
  .ite (s == t)
  (.need (n ≤ 500000 ∧ m ≤ 500000 ∧ (BitC n fun i x => DV.x (.int .i64 (a i))) ∧ BitC m fun i x => DV.x (.int .i64 (b i)))
    (.ret (SV.agg [bv s, SV.d (DV.ro (blen (valN (fun i => a i) n + valN (fun i => b i) m)) 1 fun i x => DV.x (.int .i64 (↑(bitN (valN (fun i => a i) n + valN (fun i => b i) m) i) : Int)))])))
  (.need (n ≤ 1000000 ∧ m ≤ 1000000 ∧ (BitC n fun i x => DV.x (.int .i64 (a i))) ∧ BitC m fun i x => DV.x (.int .i64 (b i)))
    (.ite (decide (sgnN (valN (fun i => a i) n) (valN (fun i => b i) m) ≥ (0 : Int)))
      (.need (n ≤ 500000 ∧ (BitC n fun i x => DV.x (.int .i64 (a i))) ∧ (BitC m fun i x => DV.x (.int .i64 (b i))) ∧ valN (fun i => b i) m ≤ valN (fun i => a i) n)
        (.ret (SV.agg [bv s, SV.d (DV.ro (blen (valN (fun i => a i) n - valN (fun i => b i) m)) 1 fun i x => DV.x (.int .i64 (↑(bitN (valN (fun i => a i) n - valN (fun i => b i) m) i) : Int)))])))
      (.need (m ≤ 500000 ∧ (BitC m fun i x => DV.x (.int .i64 (b i))) ∧ (BitC n fun i x => DV.x (.int .i64 (a i))) ∧ valN (fun i => a i) n ≤ valN (fun i => b i) m)
        (.ret (SV.agg [bv t, SV.d (DV.ro (blen (valN (fun i => b i) m - valN (fun i => a i) n)) 1 fun i x => DV.x (.int .i64 (↑(bitN (valN (fun i => b i) m - valN (fun i => a i) n) i) : Int)))])))))
theorem LSum_eq (s : Bool) (n : Nat) (a : Nat → Int) (t : Bool) (m : Nat) (b : Nat → Int) : T3 110 [.agg [bv s, ro64 n a], .agg [bv t, ro64 m b]] = LSum s n a t m b := by kernel_rfl
end Go.Proofs.Ytpaejfeojdoikaa
namespace Go.Proofs.Ytpaejfeojdoikaa
open Go.Sx
set_option maxRecDepth 100000
theorem blen63 {v : Nat} (h : v ≤ 9223372036854775807) : blen v ≤ 63 := blen_le.2 (by omega)
theorem bitC_bits (v n : Nat) : BitC n fun i x => .x (.int .i64 (bitN v i : Int)) := fun i _ => bitN_cell v i
noncomputable def cProd : Ctr := fun ss => match ss with
  | [.d (.x (.int .i64 a)), .d (.x (.int .i64 b))] => .need ((-9223372036854775807 ≤ a ∧ a ≤ 9223372036854775807) ∧ (-9223372036854775807 ≤ b ∧ b ≤ 9223372036854775807)) (.ret (.agg [bv (!(decide (a < 0) == decide (b < 0))), bitsSV (a.natAbs * b.natAbs)]))
  | _ => .fail
theorem cProd_ok : CtrOK Try.prog 111 cProd := by
  refine ctrOK_leS C3_ok D3_ok (by kernel_rfl) (by kernel_rfl) fun ss r h => ?_
  unfold cProd at h
  split at h
  · rename_i a b
    obtain ⟨⟨h1, h2⟩, rfl⟩ := h
    refine ⟨[iv a, iv b], 200, .nil, by simp [leSVs, leSV, iv, leD], Sat.of_eq (LProd_eq a b) ⟨?_⟩⟩
    unfold LProd
    have b1 := blen63 (v := (a.natAbs : Int).toNat) (by omega)
    have b2 := blen63 (v := (b.natAbs : Int).toNat) (by omega)
    refine ⟨h1, by omega, h2, by omega, ⟨by omega, by omega, bitC_bits _ _, bitC_bits _ _⟩, ?_⟩
    rw [valN_bits, valN_bits, Int.toNat_natCast, Int.toNat_natCast]
    exact rfl
  · exact h.elim
def sN (s : Bool) (x : Nat) (t : Bool) (y : Nat) : Bool := if s = t then s else if y ≤ x then s else t
def sV (s : Bool) (x : Nat) (t : Bool) (y : Nat) : Nat := if s = t then x + y else if y ≤ x then x - y else y - x
def sg (s : Bool) (x : Nat) : Int := if s = true then -(x : Int) else x
theorem sum_sg (s : Bool) (x : Nat) (t : Bool) (y : Nat) : sV s x t y = (sg s x + sg t y).natAbs ∧ (sV s x t y ≠ 0 → sN s x t y = decide (sg s x + sg t y < 0)) ∧ sg (sN s x t y) (sV s x t y) = sg s x + sg t y := by
  unfold sN sV sg
  by_cases h : y ≤ x <;> cases s <;> cases t <;> simp [h] <;> omega
theorem sgn_ge {x y : Nat} : y ≤ x ↔ sgnN x y ≥ 0 := by
  unfold sgnN
  split
  · omega
  · split <;> omega
noncomputable def cSum : Ctr := fun ss => match ss with
  | [.agg [.d (.x (.bool s)), .d (.ro n 1 cell)], .agg [.d (.x (.bool t)), .d (.ro m 1 cel2)]] => .need (n ≤ 500000 ∧ m ≤ 500000 ∧ BitC n cell ∧ BitC m cel2) (.ret (.agg [bv (sN s (valN (intCell cell) n) t (valN (intCell cel2) m)), bitsSV (sV s (valN (intCell cell) n) t (valN (intCell cel2) m))]))
  | _ => .fail
theorem cSum_ok : CtrOK Try.prog 110 cSum := by
  refine ctrOK_leS C3_ok D3_ok (by kernel_rfl) (by kernel_rfl) fun ss r h => ?_
  unfold cSum at h
  split at h
  · rename_i s n cell t m cel2
    obtain ⟨⟨h1, h2, h3, h4⟩, rfl⟩ := h
    refine ⟨[.agg [bv s, ro64 n (intCell cell)], .agg [bv t, ro64 m (intCell cel2)]], 200, .nil, ?_, Sat.of_eq (LSum_eq s n (intCell cell) t m (intCell cel2)) ⟨?_⟩⟩
    · simp only [leSVs, leSV, ro64, bv, leD, and_true, true_and]
      exact ⟨h3.le, h4.le⟩
    have c1 := bitC_of h3.bits
    have c2 := bitC_of h4.bits
    unfold LSum
    refine ⟨fun hc => ⟨⟨h1, h2, c1, c2⟩, ?_⟩, fun hc => ⟨⟨by omega, by omega, c1, c2⟩, fun hs => ?_, fun hs => ?_⟩⟩
    · have hc : s = t := by simpa using hc
      simp only [Tree.sat, sN, sV, hc, if_true]; exact rfl
    · have hc : s ≠ t := by simpa using hc
      have hs : valN (intCell cel2) m ≤ valN (intCell cell) n := sgn_ge.2 (of_decide_eq_true hs)
      refine ⟨⟨h1, c1, c2, hs⟩, ?_⟩
      simp only [Tree.sat, sN, sV, if_neg hc, if_pos hs]; exact rfl
    · have hc : s ≠ t := by simpa using hc
      have hs : ¬ valN (intCell cel2) m ≤ valN (intCell cell) n := fun h => of_decide_eq_false hs (sgn_ge.1 h)
      refine ⟨⟨h2, c2, c1, Nat.le_of_lt (Nat.lt_of_not_le hs)⟩, ?_⟩
      simp only [Tree.sat, sN, sV, if_neg hc, if_neg hs]; exact rfl
  · exact h.elim
def finN (s : Bool) (x y : Nat) : Int := if x ≤ 4611686018427387904 ∧ y ≤ 4611686018427387904 then sg s x else 0
def finD (x y : Nat) : Int := if x ≤ 4611686018427387904 ∧ y ≤ 4611686018427387904 then (y : Int) else 0
def finE (x y : Nat) : Int := if x ≤ 4611686018427387904 ∧ y ≤ 4611686018427387904 then 0 else 2
end Go.Proofs.Ytpaejfeojdoikaa
namespace Go.Proofs.Ytpaejfeojdoikaa
open Go.Sx
set_option maxRecDepth 100000
noncomputable def man4 : FuncId → Option Ctr := fun k => match k with
  | 80 => some cGcd
  | 81 => some cSize
  | 115 => some cBits
  | 114 => some cTimesL
  | 111 => some cProd
  | 110 => some cSum
  | _ => none
theorem man4_ok (k : Nat) (c : Ctr) (h : man4 k = some c) : CtrOK Try.prog k c ∧ goodF Try.prog k = true := by
  unfold man4 at h
  split at h <;> first | (cases h; done) | (cases h)
  · exact ⟨cGcd_ok, by kernel_rfl⟩
  · exact ⟨cSize_ok, by kernel_rfl⟩
  · exact ⟨cBits_ok, by kernel_rfl⟩
  · exact ⟨cTimesL_ok, by kernel_rfl⟩
  · exact ⟨cProd_ok, by kernel_rfl⟩
  · exact ⟨cSum_ok, by kernel_rfl⟩
noncomputable def C4 : Ctx := ctxN Try.prog man4 (fun _ => false) 200 .nil 6
theorem C4_ok : CtxOK Try.prog C4 := ctxN_ok mixed man4_ok 6
noncomputable def D4 : Dr := fun _ => drawn Try.prog C4
theorem D4_ok : DrOK Try.prog C4 D4 := drawn_ok C4_ok mixed
noncomputable def T4 (k : Nat) (args : List SV) : Tree SV := fnT Try.prog C4 D4 200 (fnOf Try.prog k) (bodyOf Try.prog k) args .nil
noncomputable def LCmpR (a b c d : Int) : Tree SV :=
 .need (((-9223372036854775807 : Int) ≤ a ∧ a ≤ (9223372036854775807 : Int)) ∧ (-9223372036854775807 : Int) ≤ d ∧ d ≤ (9223372036854775807 : Int))
 (.need (((-9223372036854775807 : Int) ≤ c ∧ c ≤ (9223372036854775807 : Int)) ∧ (-9223372036854775807 : Int) ≤ b ∧ b ≤ (9223372036854775807 : Int))
 (.need
 (blen (Int.natAbs a * Int.natAbs d) ≤ 500000 ∧
 blen (Int.natAbs c * Int.natAbs b) ≤ 500000 ∧
 (BitC (blen (Int.natAbs a * Int.natAbs d)) fun i x => DV.x (.int .i64 ((fun i => (↑(bitN (Int.natAbs a * Int.natAbs d) i) : Int)) i))) ∧
 BitC (blen (Int.natAbs c * Int.natAbs b)) fun i x => DV.x (.int .i64 ((fun i => (↑(bitN (Int.natAbs c * Int.natAbs b) i) : Int)) i)))
 (.ite
 ((↑(blen
 (sV (!decide (a < (0 : Int)) == decide (d < (0 : Int))) (valN (fun i => (↑(bitN (Int.natAbs a * Int.natAbs d) i) : Int)) (blen (Int.natAbs a * Int.natAbs d))) (!!decide (c < (0 : Int)) == decide (b < (0 : Int)))
 (valN (fun i => (↑(bitN (Int.natAbs c * Int.natAbs b) i) : Int)) (blen (Int.natAbs c * Int.natAbs b))))) :
 Int) ==
 (0 : Int))
 (.ret (iv (0 : Int)))
 (.ite
 (sN (!decide (a < (0 : Int)) == decide (d < (0 : Int))) (valN (fun i => (↑(bitN (Int.natAbs a * Int.natAbs d) i) : Int)) (blen (Int.natAbs a * Int.natAbs d))) (!!decide (c < (0 : Int)) == decide (b < (0 : Int)))
 (valN (fun i => (↑(bitN (Int.natAbs c * Int.natAbs b) i) : Int)) (blen (Int.natAbs c * Int.natAbs b))))
 (.ret (iv (-1 : Int))) (.ret (iv (1 : Int)))))))
theorem LCmpR_eq (a b c d : Int) : T4 78 [.agg [iv a, iv b], .agg [iv c, iv d]] = LCmpR a b c d := by kernel_rfl
end Go.Proofs.Ytpaejfeojdoikaa
namespace Go.Proofs.Ytpaejfeojdoikaa
open Go.Sx
set_option maxRecDepth 100000
theorem valN_cell (v : Nat) : valN (intCell fun i x => .x (.int .i64 (bitN v i : Int))) (blen v) = v := valN_bits v
theorem nat_neg (x : Nat) : decide ((x : Int) < 0) = false := by simp
theorem natAbs_cast (x : Nat) : Int.natAbs (x : Int) = x := rfl
theorem blen_two {x y : Nat} (hx : x ≤ 4611686018427387904) (hy : y ≤ 4611686018427387904) : blen (x * y) ≤ 500000 := by
  have h1 : x * y ≤ 4611686018427387904 * 4611686018427387904 := Nat.mul_le_mul hx hy
  have : blen (x * y) ≤ 130 := blen_le.2 (by omega)
  omega
theorem blen0 {v : Nat} : (((blen v : Nat) : Int) == 0) = decide (v = 0) := by
  by_cases h : v = 0
  · subst h; simp [blen_zero]
  · have : blen v ≠ 0 := by rw [blen_pos h]; omega
    rw [decide_eq_false h]; simp; omega
def fitsR (r : Rat) : Prop := r.num.natAbs ≤ 4611686018427387904 ∧ r.den ≤ 4611686018427387904
instance (r : Rat) : Decidable (fitsR r) := by unfold fitsR; infer_instance
def rN (r : Rat) : Int := if fitsR r then r.num else 0
def rD (r : Rat) : Int := if fitsR r then r.den else 0
def rE (r : Rat) : Int := if fitsR r then 0 else 2
def cmpR (p q : Rat) : Int := if p < q then -1 else if p = q then 0 else 1
theorem sg_prod (a : Int) (m : Nat) : sg (!(decide (a < 0) == false)) (a.natAbs * m) = a * m := by
  unfold sg
  by_cases h : a < 0
  · have : a = -(a.natAbs : Int) := by omega
    simp only [h, decide_true]
    rw [if_pos (by rfl), Int.natCast_mul]
    conv => rhs; rw [this]
    rw [Int.neg_mul]
  · have : a = (a.natAbs : Int) := by omega
    simp only [h, decide_false]
    rw [if_neg (by decide), Int.natCast_mul, ← this]
theorem sg_neg (s : Bool) (x : Nat) : sg (!s) x = - sg s x := by cases s <;> simp [sg]
theorem sg_prod2 (a : Int) (m : Nat) : sg (!!(decide (a < 0) == false)) (a.natAbs * m) = -(a * m) := by rw [sg_neg, sg_prod]
theorem cmpR_sat (p q : Rat) (hp : fitsR p) (hq : fitsR q) : Sat Try.prog (T4 78 [.agg [iv p.num, iv p.den], .agg [iv q.num, iv q.den]]) (· = iv (cmpR p q)) := by
  obtain ⟨p1, p2⟩ := hp
  obtain ⟨q1, q2⟩ := hq
  constructor
  rw [LCmpR_eq]; unfold LCmpR
  simp only [valN_bits, valN_cell, nat_neg, natAbs_cast, blen0]
  obtain ⟨s1, s2, s3⟩ := sum_sg (!(decide (p.num < 0) == false)) (p.num.natAbs * q.den) (!!(decide (q.num < 0) == false)) (q.num.natAbs * p.den)
  rw [sg_prod2, sg_prod] at s1 s2
  obtain ⟨hlt, heq⟩ := rat_cmp p q
  refine ⟨by omega, by omega, ⟨blen_two p1 q2, blen_two q1 p2, bitC_bits _ _, bitC_bits _ _⟩, fun hc => ?_, fun hc => ⟨fun hs => ?_, fun hs => ?_⟩⟩
  · have hc := of_decide_eq_true hc
    rw [hc] at s1
    have : p = q := heq.2 (by omega)
    rw [cmpR, if_neg (by rw [this]; exact Rat.lt_irrefl), if_pos this]; exact rfl
  · have hc := of_decide_eq_false hc
    rw [s2 hc] at hs
    have hs := of_decide_eq_true hs
    rw [cmpR, if_pos (hlt.2 (by omega))]; exact rfl
  · have hc := of_decide_eq_false hc
    rw [s2 hc] at hs
    have hs := of_decide_eq_false hs
    rw [s1] at hc
    rw [cmpR, if_neg (fun h => hs (by have := hlt.1 h; omega)), if_neg (fun h => hc (by have := heq.1 h; omega))]; exact rfl
end Go.Proofs.Ytpaejfeojdoikaa
namespace Go.Proofs.Ytpaejfeojdoikaa
open Go.Sx
set_option maxRecDepth 100000
theorem r_zero : rN 0 = 0 ∧ rD 0 = 1 ∧ rE 0 = 0 := by
  have : fitsR 0 := by unfold fitsR; decide
  unfold rN rD rE
  rw [if_pos this, if_pos this, if_pos this]; exact ⟨rfl, rfl, rfl⟩
structure VF (n d : Int) : Prop where
  low : Low n d
  n : n.natAbs ≤ 4611686018427387904
  d : d ≤ 4611686018427387904
theorem VF.fits {n d : Int} (h : VF n d) : fitsR (ratOf n d) := by
  have h1 := h.low.num
  have h2 := h.low.den
  have := h.n
  have := h.d
  exact ⟨by rw [h1]; exact h.n, by omega⟩
theorem VF.of {q : Rat} (h : fitsR q) : VF q.num q.den := ⟨low_rat q, h.1, by have := h.2; omega⟩
noncomputable def cCmpR : Ctr := fun ss => match ss with
  | [.agg [.d (.x (.int .i64 a)), .d (.x (.int .i64 b))], .agg [.d (.x (.int .i64 c)), .d (.x (.int .i64 d))]] => .need (VF a b ∧ VF c d) (.ret (iv (cmpR (ratOf a b) (ratOf c d))))
  | _ => .fail
theorem cCmpR_ok : CtrOK Try.prog 78 cCmpR := by
  refine ctrOK_leS C4_ok D4_ok (by kernel_rfl) (by kernel_rfl) fun ss r h => ?_
  unfold cCmpR at h
  split at h
  · rename_i a b c d
    obtain ⟨⟨h1, h2⟩, rfl⟩ := h
    have := cmpR_sat _ _ h1.fits h2.fits
    rw [h1.low.num, h1.low.den, h2.low.num, h2.low.den] at this
    exact ⟨[.agg [iv a, iv b], .agg [iv c, iv d]], 200, .nil, by simp [leSVs, leSV, iv, leD], this⟩
  · exact h.elim
def vB (a b : Int) : Bool := decide (1 ≤ b) && decide (b ≤ 4611686018427387904) && decide (a.natAbs ≤ 4611686018427387904) && decide (a.natAbs.gcd b.toNat = 1)
theorem vB_iff {a b : Int} : vB a b = true ↔ VF a b := by
  unfold vB
  simp only [Bool.and_eq_true, decide_eq_true_eq]
  constructor
  · rintro ⟨⟨⟨h1, h2⟩, h3⟩, h4⟩; exact ⟨⟨h1, h4⟩, h3, h2⟩
  · rintro ⟨⟨h1, h4⟩, h3, h2⟩; exact ⟨⟨⟨h1, h2⟩, h3⟩, h4⟩
end Go.Proofs.Ytpaejfeojdoikaa
namespace Go.Proofs.Ytpaejfeojdoikaa
open Go.Sx
set_option maxRecDepth 100000
def u6 (n : Int) : SV := .d (.x (.int .u64 n))
noncomputable def rou (n : Nat) (c : Nat → Int) : SV := .d (.ro n 1 fun i _ => .x (.int .u64 (c i)))
noncomputable def tG (c : Nat → Int) : Tree SV := T0 87 [rou 2 c]
noncomputable def LG (c : Nat → Int) : Tree SV :=
  .need ((0 : Int) ≤ (0 : Int) ∧ (0 : Int) < (2 : Int))
  (.need (True ∧ (0 : Int) ≤ (1 : Int) ∧ 1 ≤ 2) (.code (codeC (sub [(0 : Nat), (0 : Nat)] (tG c))) (codeS (sub [(0 : Nat), (0 : Nat)] (tG c))) (codeK (sub [(0 : Nat), (0 : Nat)] (tG c)))))
theorem LG_eq (c : Nat → Int) : tG c = LG c := by kernel_rfl
noncomputable def LAbs (n : Int) : Tree SV :=
  .ite (decide (n < (0 : Int))) (.ret (SV.d (DV.x (.int .u64 (IntKind.wrap .u64 ((0 : Int) - IntKind.wrap .u64 n)))))) (.ret (SV.d (DV.x (.int .u64 (IntKind.wrap .u64 n)))))
theorem LAbs_eq (n : Int) : T0 118 [iv n] = LAbs n := by kernel_rfl
noncomputable def invG1 (x : Int) (c : Nat → Int) (k : Int) : AS := ⟨[.unk, .unk, .unk, .ok (u6 x), .unk, .unk, .unk, .unk, .unk, .unk, .ok (rou 1 c), .ok (iv 1), .ok (iv k)] ++ List.replicate 11 .unk, [], 0, .nil⟩
noncomputable def invG2 (x y : Int) (c : Nat → Int) (k : Int) : AS := ⟨[.unk, .unk, .unk, .ok (u6 x), .unk, .ok (u6 y), .unk, .unk, .unk, .unk, .ok (rou 1 c), .ok (iv 1), .ok (iv k)] ++ List.replicate 11 .unk, [], 0, .nil⟩
noncomputable def bodyG1 : Code := loopN (bodyOf Try.prog 87) 0
noncomputable def bodyG2 : Code := loopN (bodyOf Try.prog 87) 1
noncomputable def bG1 (x : Int) (c : Nat → Int) (k : Int) : Tree (Ex × AS) := cutT 0 [] [3, 10, 11, 12] [] 0 .nil (exec Try.prog C0 D0 200 bodyG1 (invG1 x c k))
noncomputable def BG1 (x : Int) (c : Nat → Int) (k : Int) : Tree (Ex × AS) :=
  .ite (decide (k < (1 : Int))) (.need ((0 : Int) ≤ k ∧ k < (1 : Int)) (.code (codeC (sub [(0 : Nat), (0 : Nat)] (bG1 x c k))) (codeS (sub [(0 : Nat), (0 : Nat)] (bG1 x c k))) (codeK (sub [(0 : Nat), (0 : Nat)] (bG1 x c k)))))
  (.ret
    (.exit 0,
      {
        tm :=
          [.unk, .unk, .unk, .ok (SV.d (DV.x (.int .u64 x))), .unk, .unk, .unk, .unk, .unk, .unk, .ok (SV.d (DV.ro 1 1 fun i x => DV.x (.int .u64 (c i)))),
            .ok (iv (1 : Int)), .ok (iv k), .unk, .unk, .unk, .unk, .unk, .unk, .unk, .unk, .unk, .unk, .unk],
        hp := [], next := 0, hint := .nil }))
theorem BG1_eq (x : Int) (c : Nat → Int) (k : Int) : bG1 x c k = BG1 x c k := by kernel_rfl
noncomputable def BG2 (x y : Int) (c : Nat → Int) (k : Int) : Tree (Ex × AS) :=
  .ite (decide (y > (0 : Int)))
  (.need (y ≠ (0 : Int))
    (.ret
      (.normal,
        {
          tm :=
            [.unk, .unk, .unk, .ok (SV.d (DV.x (.int .u64 y))), .unk, .ok (SV.d (DV.x (.int .u64 (Int.tmod x y)))), .unk, .unk, .unk, .unk,
              .ok (SV.d (DV.ro 1 1 fun i x => DV.x (.int .u64 (c i)))), .ok (iv (1 : Int)), .ok (iv k), .unk, .unk, .unk, .unk, .unk, .unk, .unk, .unk, .unk, .unk, .unk],
          hp := [], next := 0, hint := .nil })))
  (.ret
    (.exit 2,
      {
        tm :=
          [.unk, .unk, .unk, .ok (SV.d (DV.x (.int .u64 x))), .unk, .ok (SV.d (DV.x (.int .u64 y))), .unk, .unk, .unk, .unk,
            .ok (SV.d (DV.ro 1 1 fun i x => DV.x (.int .u64 (c i)))), .ok (iv (1 : Int)), .ok (iv k), .unk, .unk, .unk, .unk, .unk, .unk, .unk, .unk, .unk, .unk, .unk],
        hp := [], next := 0, hint := .nil }))
theorem BG2_eq (x y : Int) (c : Nat → Int) (k : Int) : cutT 0 [] [3, 5, 10, 11, 12] [] 0 .nil (exec Try.prog C0 D0 200 bodyG2 (invG2 x y c k)) = BG2 x y c k := by kernel_rfl
noncomputable def KG (d : Nat → Int) (x : Int) (c : Nat → Int) (k : Int) : Tree SV :=
  .ret (SV.d (DV.x (.int .u64 x)))
theorem KG_eq (d : Nat → Int) (x : Int) (c : Nat → Int) (k : Int) : codeK (sub [0, 0] (tG d)) (.exit 0) (invG1 x c k) = KG d x c k := by kernel_rfl
noncomputable def KG2 (x : Int) (c : Nat → Int) (k : Int) (x2 y2 : Int) : Tree (Ex × AS) :=
  .ret
  (.normal,
    {
      tm :=
        [.unk, .unk, .unk, .ok (SV.d (DV.x (.int .u64 x2))), .unk, .unk, .unk, .unk, .unk, .unk, .ok (SV.d (DV.ro 1 1 fun i x => DV.x (.int .u64 (c i)))),
          .ok (iv (1 : Int)), .ok (iv (w64 (k + (1 : Int)))), .unk, .unk, .unk, .unk, .unk, .unk, .unk, .unk, .unk, .unk, .unk],
      hp := [], next := 0, hint := .nil })
theorem KG2_eq (x : Int) (c : Nat → Int) (k : Int) (x2 y2 : Int) : codeK (sub [0, 0] (bG1 x c k)) (.exit 2) (invG2 x2 y2 c k) = KG2 x c k x2 y2 := by kernel_rfl
end Go.Proofs.Ytpaejfeojdoikaa
namespace Go.Proofs.Ytpaejfeojdoikaa
open Go.Sx
set_option maxRecDepth 100000
theorem wu (n : Int) : IntKind.wrap .u64 n = n % 18446744073709551616 := by
  unfold IntKind.wrap
  simp [IntKind.signed, IntKind.bits]
theorem wu_of {n : Int} (h1 : 0 ≤ n) (h2 : n < 18446744073709551616) : IntKind.wrap .u64 n = n := by rw [wu]; omega
noncomputable def cAbsU : Ctr := fun ss => match ss with
  | [.d (.x (.int .i64 n))] => .need (-9223372036854775808 ≤ n ∧ n ≤ 9223372036854775807) (.ret (u6 n.natAbs))
  | _ => .fail
theorem cAbsU_ok : CtrOK Try.prog 118 cAbsU := by
  refine ctrOK_leS C0_ok D0_ok (by kernel_rfl) (by kernel_rfl) fun ss r h => ?_
  unfold cAbsU at h
  split at h
  · rename_i n
    obtain ⟨⟨h1, h2⟩, rfl⟩ := h
    refine ⟨[iv n], 200, .nil, by simp [leSVs, leSV, iv, leD], Sat.of_eq (LAbs_eq n) ⟨?_⟩⟩
    unfold LAbs
    refine ⟨fun hc => ?_, fun hc => ?_⟩
    · have hc : n < 0 := by simpa using hc
      rw [wu, wu, show (0 - n % 18446744073709551616) % 18446744073709551616 = (n.natAbs : Int) by omega]; exact rfl
    · have hc : ¬ n < 0 := by simpa using hc
      rw [wu, show n % 18446744073709551616 = (n.natAbs : Int) by omega]; exact rfl
  · exact h.elim
theorem gcdU_sat {c : Nat → Int} (h0 : 0 ≤ c 0) (h1 : 0 ≤ c 1) : Sat Try.prog (tG c) (· = u6 (Int.gcd (c 0) (c 1))) := by
  constructor
  rw [LG_eq]; unfold LG
  refine ⟨by omega, ⟨trivial, by omega, by omega⟩, ?_⟩
  refine code_satS C0_ok D0_ok (n := 200) (n0 := 0) (nx := 0) (roots := []) (keep := [3, 10, 11, 12]) (drop := []) (h := .nil) (c := codeC (sub [0, 0] (tG c))) (st := codeS (sub [0, 0] (tG c))) (k := codeK (sub [0, 0] (tG c))) (body := bodyG1) (by kernel_rfl) (by kernel_rfl)
    (fun q s => (q = 1 ∧ s = invG1 (c 0) (fun i => c (1 + i)) 0) ∨ (q = 0 ∧ s = invG1 (Int.gcd (c 0) (c 1)) (fun i => c (1 + i)) 1))
    (fun e s => e = .exit 0 ∧ s = invG1 (Int.gcd (c 0) (c 1)) (fun i => c (1 + i)) 1)
    ⟨1, _, .inl ⟨rfl, rfl⟩, ?_⟩ ?_ ?_
  · exact entA_sound (roots := []) (keep := [3, 10, 11, 12]) (drop := []) (nx := 0) (h := .nil) (by kernel_rfl)
  · rintro q s (⟨rfl, rfl⟩ | ⟨rfl, rfl⟩)
    · refine Sat.of_eq (BG1_eq (c 0) _ 0) ?_
      constructor
      unfold BG1
      refine ⟨fun hc => ?_, fun hc => by simp at hc⟩
      refine ⟨by omega, ?_⟩
      refine code_satS C0_ok D0_ok (n := 200) (n0 := 0) (nx := 0) (roots := []) (keep := [3, 5, 10, 11, 12]) (drop := []) (h := .nil) (c := codeC (sub [0, 0] (bG1 (c 0) (fun i => c (1 + i)) 0))) (st := codeS (sub [0, 0] (bG1 (c 0) (fun i => c (1 + i)) 0))) (k := codeK (sub [0, 0] (bG1 (c 0) (fun i => c (1 + i)) 0))) (body := bodyG2) (by kernel_rfl) (by kernel_rfl)
        (fun q s => ∃ x y : Int, q = y.toNat ∧ 0 ≤ x ∧ 0 ≤ y ∧ Int.gcd x y = Int.gcd (c 0) (c 1) ∧ s = invG2 x y (fun i => c (1 + i)) 0)
        (fun e s => e = .exit 2 ∧ s = invG2 (Int.gcd (c 0) (c 1)) 0 (fun i => c (1 + i)) 0)
        ⟨(c 1).toNat, invG2 (c 0) (c 1) (fun i => c (1 + i)) 0, ⟨c 0, c 1, rfl, h0, h1, rfl, rfl⟩, ?_⟩ ?_ ?_
      · exact entA_sound (roots := []) (keep := [3, 5, 10, 11, 12]) (drop := []) (nx := 0) (h := .nil) (by kernel_rfl)
      · rintro q s ⟨x, y, hq, hx, hy, hg, rfl⟩
        refine Sat.of_eq (BG2_eq x y _ 0) ?_
        constructor
        unfold BG2
        refine ⟨fun hc => ?_, fun hc => ?_⟩
        · have hc : 0 < y := by simpa using hc
          have e1 : Int.tmod x y = x % y := tmod_lit hx y
          have e2 := Int.emod_nonneg x (show y ≠ 0 by omega)
          have e3 := Int.emod_lt_of_pos x hc
          refine ⟨by omega, (Int.tmod x y).toNat, _, by omega, ⟨y, Int.tmod x y, rfl, hy, by omega, ?_, rfl⟩, Gc.refl _ _⟩
          rw [e1, ← hg]; exact (gcd_emod hx hy).symm
        · have hc : y = 0 := by simp at hc; omega
          subst hc
          have : x = (Int.gcd (c 0) (c 1) : Int) := by rw [← hg, Int.gcd_zero_right]; omega
          exact ⟨_, ⟨rfl, rfl⟩, by rw [this]; exact Gc.refl _ _⟩
      · rintro e s ⟨rfl, rfl⟩
        refine Sat.of_eq (KG2_eq (c 0) (fun i => c (1 + i)) 0 _ 0) ⟨?_⟩
        exact ⟨0, _, by omega, .inr ⟨rfl, rfl⟩, by rw [show w64 ((0 : Int) + 1) = 1 by rw [w64_of (by omega) (by omega)]; rfl]; exact Gc.refl _ _⟩
    · refine Sat.of_eq (BG1_eq _ _ 1) ?_
      constructor
      unfold BG1
      refine ⟨fun hc => by simp at hc, fun hc => ?_⟩
      exact ⟨_, ⟨rfl, rfl⟩, Gc.refl _ _⟩
  · rintro e s ⟨rfl, rfl⟩
    exact Sat.of_eq (KG_eq c _ _ _) ⟨rfl⟩
noncomputable def cGcdU : Ctr := fun ss => match ss with
  | [.d (.ro 2 1 cell)] => .need (∃ a b : Int, cell 0 0 = .x (.int .u64 a) ∧ cell 1 0 = .x (.int .u64 b) ∧ 0 ≤ a ∧ 0 ≤ b) (.ret (u6 (Int.gcd (intCell cell 0) (intCell cell 1))))
  | _ => .fail
theorem cGcdU_ok : CtrOK Try.prog 87 cGcdU := by
  refine ctrOK_leS C0_ok D0_ok (by kernel_rfl) (by kernel_rfl) fun ss r h => ?_
  unfold cGcdU at h
  split at h
  · rename_i cell
    obtain ⟨⟨a, b, h1, h2, h3, h4⟩, rfl⟩ := h
    have e1 : intCell cell 0 = a := by simp [intCell, h1, intOf1]
    have e2 : intCell cell 1 = b := by simp [intCell, h2, intOf1]
    refine ⟨[rou 2 (intCell cell)], 200, .nil, ?_, gcdU_sat (by omega) (by omega)⟩
    simp only [leSVs, leSV, rou, leD, and_true, true_and]
    intro i j hi hj
    obtain rfl : j = 0 := by omega
    have : i = 0 ∨ i = 1 := by omega
    rcases this with rfl | rfl
    · rw [h1, e1]
    · rw [h2, e2]
  · exact h.elim
end Go.Proofs.Ytpaejfeojdoikaa
namespace Go.Proofs.Ytpaejfeojdoikaa
open Go.Sx
set_option maxRecDepth 100000
noncomputable def LM64 (x y : Int) : Tree SV :=
 .need ((0 : Int) ≤ (32 : Int))
 (.need ((0 : Int) ≤ (32 : Int))
 (.need ((0 : Int) ≤ (32 : Int))
 (.need ((0 : Int) ≤ (32 : Int))
 (.need ((0 : Int) ≤ (32 : Int))
 (.ret
 (SV.tup
 [SV.d
 (DV.x
 (.int .u64
 (IntKind.wrap .u64
 (IntKind.wrap .u64
 (IntKind.wrap .u64 (Int.fdiv x (4294967296 : Int) * Int.fdiv y (4294967296 : Int)) +
 Int.fdiv
 (IntKind.wrap .u64
 (IntKind.wrap .u64 (Int.fdiv x (4294967296 : Int) * IntKind.wrap .u64 (↑(BitVec.toNat (BitVec.ofInt 64 y &&& BitVec.ofInt 64 (4294967295 : Int))) : Int)) +
 Int.fdiv
 (IntKind.wrap .u64
 (IntKind.wrap .u64 (↑(BitVec.toNat (BitVec.ofInt 64 x &&& BitVec.ofInt 64 (4294967295 : Int))) : Int) *
 IntKind.wrap .u64 (↑(BitVec.toNat (BitVec.ofInt 64 y &&& BitVec.ofInt 64 (4294967295 : Int))) : Int)))
 (4294967296 : Int)))
 (4294967296 : Int)) +
 Int.fdiv
 (IntKind.wrap .u64
 (IntKind.wrap .u64
 (↑(BitVec.toNat
 (BitVec.ofInt 64
 (IntKind.wrap .u64
 (IntKind.wrap .u64 (Int.fdiv x (4294967296 : Int) * IntKind.wrap .u64 (↑(BitVec.toNat (BitVec.ofInt 64 y &&& BitVec.ofInt 64 (4294967295 : Int))) : Int)) +
 Int.fdiv
 (IntKind.wrap .u64
 (IntKind.wrap .u64 (↑(BitVec.toNat (BitVec.ofInt 64 x &&& BitVec.ofInt 64 (4294967295 : Int))) : Int) *
 IntKind.wrap .u64 (↑(BitVec.toNat (BitVec.ofInt 64 y &&& BitVec.ofInt 64 (4294967295 : Int))) : Int)))
 (4294967296 : Int))) &&&
 BitVec.ofInt 64 (4294967295 : Int))) :
 Int) +
 IntKind.wrap .u64 (IntKind.wrap .u64 (↑(BitVec.toNat (BitVec.ofInt 64 x &&& BitVec.ofInt 64 (4294967295 : Int))) : Int) * Int.fdiv y (4294967296 : Int))))
 (4294967296 : Int))))),
 SV.d (DV.x (.int .u64 (IntKind.wrap .u64 (x * y))))]))))))
theorem LM64_eq (x y : Int) : T0 141 [u6 x, u6 y] = LM64 x y := by kernel_rfl
end Go.Proofs.Ytpaejfeojdoikaa
namespace Go.Proofs.Ytpaejfeojdoikaa
open Go.Sx
set_option maxRecDepth 100000
theorem mask32 {x : Int} (h1 : 0 ≤ x) (h2 : x < 18446744073709551616) : ((BitVec.toNat (BitVec.ofInt 64 x &&& BitVec.ofInt 64 4294967295) : Nat) : Int) = x % 4294967296 := by
  rw [BitVec.toNat_and, BitVec.toNat_ofInt, BitVec.toNat_ofInt]
  have e1 : (x % ((2 ^ 64 : Nat) : Int)).toNat = x.toNat := by
    rw [show ((2 ^ 64 : Nat) : Int) = 18446744073709551616 by decide]; omega
  have e2 : ((4294967295 : Int) % ((2 ^ 64 : Nat) : Int)).toNat = 2 ^ 32 - 1 := by decide
  rw [e1, e2, Nat.and_two_pow_sub_one_eq_mod]
  omega
theorem mul_split {x y x0 x1 y0 y1 p00 p10 p01 p11 : Int} (hx : x = x1 * 4294967296 + x0) (hy : y = y1 * 4294967296 + y0) (h00 : p00 = x0 * y0) (h10 : p10 = x1 * y0) (h01 : p01 = x0 * y1) (h11 : p11 = x1 * y1) :
    x * y = p11 * 18446744073709551616 + (p10 + p01) * 4294967296 + p00 := by
  subst hx; subst hy; subst h00; subst h10; subst h01; subst h11
  simp only [Int.add_mul, Int.mul_add]
  have e1 : x1 * 4294967296 * (y1 * 4294967296) = x1 * y1 * 18446744073709551616 := by
    rw [Int.mul_assoc, Int.mul_left_comm 4294967296, ← Int.mul_assoc]; rfl
  have e2 : x1 * 4294967296 * y0 = x1 * y0 * 4294967296 := by rw [Int.mul_assoc, Int.mul_comm 4294967296, ← Int.mul_assoc]
  have e3 : x0 * (y1 * 4294967296) = x0 * y1 * 4294967296 := by rw [← Int.mul_assoc]
  rw [e1, e2, e3]; omega
theorem mul_bd {a b : Int} (ha : 0 ≤ a ∧ a ≤ 4294967295) (hb : 0 ≤ b ∧ b ≤ 4294967295) : 0 ≤ a * b ∧ a * b ≤ 18446744065119617025 := by
  refine ⟨Int.mul_nonneg ha.1 hb.1, ?_⟩
  have := Int.mul_le_mul ha.2 hb.2 hb.1 (by omega)
  omega
noncomputable def cMul64 : Ctr := fun ss => match ss with
  | [.d (.x (.int .u64 x)), .d (.x (.int .u64 y))] => .need ((0 ≤ x ∧ x < 18446744073709551616) ∧ (0 ≤ y ∧ y < 18446744073709551616)) (.ret (.tup [u6 (x * y / 18446744073709551616), u6 (x * y % 18446744073709551616)]))
  | _ => .fail
theorem cMul64_ok : CtrOK Try.prog 141 cMul64 := by
  refine ctrOK_leS C0_ok D0_ok (by kernel_rfl) (by kernel_rfl) fun ss r h => ?_
  unfold cMul64 at h
  split at h
  · rename_i x y
    obtain ⟨⟨⟨hx0, hx1⟩, ⟨hy0, hy1⟩⟩, rfl⟩ := h
    refine ⟨[u6 x, u6 y], 200, .nil, by simp [leSVs, leSV, u6, leD], Sat.of_eq (LM64_eq x y) ⟨?_⟩⟩
    unfold LM64
    rw [mask32 hx0 hx1, mask32 hy0 hy1, Int.fdiv_eq_ediv_of_nonneg (x) (by decide), Int.fdiv_eq_ediv_of_nonneg (y) (by decide)]
    have hm := mul_split (x := x) (y := y) (x0 := x % 4294967296) (x1 := x / 4294967296) (y0 := y % 4294967296) (y1 := y / 4294967296) (by omega) (by omega) rfl rfl rfl rfl
    have b00 := mul_bd (a := x % 4294967296) (b := y % 4294967296) (by omega) (by omega)
    have b10 := mul_bd (a := x / 4294967296) (b := y % 4294967296) (by omega) (by omega)
    have b01 := mul_bd (a := x % 4294967296) (b := y / 4294967296) (by omega) (by omega)
    have b11 := mul_bd (a := x / 4294967296) (b := y / 4294967296) (by omega) (by omega)
    rw [wu_of (n := x % 4294967296) (by omega) (by omega), wu_of (n := y % 4294967296) (by omega) (by omega)]
    generalize x % 4294967296 * (y % 4294967296) = p00 at *
    generalize x / 4294967296 * (y % 4294967296) = p10 at *
    generalize x % 4294967296 * (y / 4294967296) = p01 at *
    generalize x / 4294967296 * (y / 4294967296) = p11 at *
    rw [wu_of (n := p00) (by omega) (by omega), wu_of (n := p10) (by omega) (by omega), wu_of (n := p01) (by omega) (by omega), wu_of (n := p11) (by omega) (by omega)]
    rw [Int.fdiv_eq_ediv_of_nonneg (p00) (by decide)]
    rw [wu_of (n := p10 + p00 / 4294967296) (by omega) (by omega), mask32 (x := p10 + p00 / 4294967296) (by omega) (by omega)]
    rw [Int.fdiv_eq_ediv_of_nonneg (p10 + p00 / 4294967296) (by decide)]
    rw [wu_of (n := (p10 + p00 / 4294967296) % 4294967296 ) (by omega) (by omega)]
    rw [wu_of (n := (p10 + p00 / 4294967296) % 4294967296 + p01) (by omega) (by omega), Int.fdiv_eq_ediv_of_nonneg ((p10 + p00 / 4294967296) % 4294967296 + p01) (by decide)]
    rw [wu_of (n := p11 + (p10 + p00 / 4294967296) / 4294967296) (by omega) (by omega), wu_of (n := p11 + (p10 + p00 / 4294967296) / 4294967296 + ((p10 + p00 / 4294967296) % 4294967296 + p01) / 4294967296) (by omega) (by omega)]
    rw [wu, show p11 + (p10 + p00 / 4294967296) / 4294967296 + ((p10 + p00 / 4294967296) % 4294967296 + p01) / 4294967296 = x * y / 18446744073709551616 by omega]
    exact ⟨by decide, by decide, by decide, by decide, by decide, rfl⟩
  · exact h.elim
end Go.Proofs.Ytpaejfeojdoikaa
namespace Go.Proofs.Ytpaejfeojdoikaa
open Go.Sx
set_option maxRecDepth 100000
noncomputable def man6 : FuncId → Option Ctr := fun k => match k with
  | 118 => some cAbsU
  | 87 => some cGcdU
  | 141 => some cMul64
  | _ => none
theorem man6_ok (k : Nat) (c : Ctr) (h : man6 k = some c) : CtrOK Try.prog k c ∧ goodF Try.prog k = true := by
  unfold man6 at h
  split at h <;> first | (cases h; done) | (cases h)
  · exact ⟨cAbsU_ok, by kernel_rfl⟩
  · exact ⟨cGcdU_ok, by kernel_rfl⟩
  · exact ⟨cMul64_ok, by kernel_rfl⟩
noncomputable def C6 : Ctx := ctxN Try.prog man6 (fun _ => false) 200 .nil 6
theorem C6_ok : CtxOK Try.prog C6 := ctxN_ok mixed man6_ok 6
noncomputable def D6 : Dr := fun _ => drawn Try.prog C6
theorem D6_ok : DrOK Try.prog C6 D6 := drawn_ok C6_ok mixed
noncomputable def T6 (k : Nat) (args : List SV) : Tree SV := fnT Try.prog C6 D6 200 (fnOf Try.prog k) (bodyOf Try.prog k) args .nil
noncomputable def LTm (a b : Int) : Tree SV :=
  .need ((-9223372036854775808 : Int) ≤ a ∧ a ≤ (9223372036854775807 : Int))
  (.need ((-9223372036854775808 : Int) ≤ b ∧ b ≤ (9223372036854775807 : Int))
    (.need (((0 : Int) ≤ (↑(Int.natAbs a) : Int) ∧ (↑(Int.natAbs a) : Int) < (18446744073709551616 : Int)) ∧ (0 : Int) ≤ (↑(Int.natAbs b) : Int) ∧ (↑(Int.natAbs b) : Int) < (18446744073709551616 : Int))
      (.ret
        (SV.agg
          [bv !decide (a < (0 : Int)) == decide (b < (0 : Int)), SV.d (DV.x (.int .u64 ((↑(Int.natAbs a) : Int) * (↑(Int.natAbs b) : Int) / (18446744073709551616 : Int)))),
            SV.d (DV.x (.int .u64 ((↑(Int.natAbs a) : Int) * (↑(Int.natAbs b) : Int) % (18446744073709551616 : Int))))]))))
theorem LTm_eq (a b : Int) : T6 88 [iv a, iv b] = LTm a b := by kernel_rfl
noncomputable def LPl (s : Bool) (h1 l1 : Int) (t : Bool) (h2 l2 : Int) : Tree SV :=
 .ite (s == t)
 (.need ((0 : Int) ≤ l1 ∧ (0 : Int) ≤ l2 ∧ (0 : Int) ≤ (0 : Int) ∧ (0 : Int) ≤ (1 : Int))
 (.need ((0 : Int) ≤ h1 ∧ (0 : Int) ≤ h2 ∧ (0 : Int) ≤ (l1 + l2 + (0 : Int)) / (18446744073709551616 : Int) ∧ (l1 + l2 + (0 : Int)) / (18446744073709551616 : Int) ≤ (1 : Int))
 (.ret
 (SV.agg
 [bv s, SV.d (DV.x (.int .u64 ((h1 + h2 + (l1 + l2 + (0 : Int)) / (18446744073709551616 : Int)) % (18446744073709551616 : Int)))),
 SV.d (DV.x (.int .u64 ((l1 + l2 + (0 : Int)) % (18446744073709551616 : Int))))]))))
 (.ite (!(decide (h1 > h2) || h1 == h2 && decide (l1 ≥ l2)))
 (.need ((0 : Int) ≤ l2 ∧ (0 : Int) ≤ l1 ∧ l1 < (18446744073709551616 : Int) ∧ (0 : Int) ≤ (0 : Int) ∧ (0 : Int) ≤ (1 : Int))
 (.need ((0 : Int) ≤ h2 ∧ (0 : Int) ≤ h1 ∧ h1 < (18446744073709551616 : Int) ∧ ((0 : Int) ≤ if l2 < l1 + (0 : Int) then (1 : Int) else (0 : Int)) ∧ (if l2 < l1 + (0 : Int) then (1 : Int) else (0 : Int)) ≤ (1 : Int))
 (.ret
 (SV.agg
 [bv t, SV.d (DV.x (.int .u64 ((h2 + (18446744073709551616 : Int) - h1 - if l2 < l1 + (0 : Int) then (1 : Int) else (0 : Int)) % (18446744073709551616 : Int)))),
 SV.d (DV.x (.int .u64 ((l2 + (18446744073709551616 : Int) - l1 - (0 : Int)) % (18446744073709551616 : Int))))]))))
 (.need ((0 : Int) ≤ l1 ∧ (0 : Int) ≤ l2 ∧ l2 < (18446744073709551616 : Int) ∧ (0 : Int) ≤ (0 : Int) ∧ (0 : Int) ≤ (1 : Int))
 (.need ((0 : Int) ≤ h1 ∧ (0 : Int) ≤ h2 ∧ h2 < (18446744073709551616 : Int) ∧ ((0 : Int) ≤ if l1 < l2 + (0 : Int) then (1 : Int) else (0 : Int)) ∧ (if l1 < l2 + (0 : Int) then (1 : Int) else (0 : Int)) ≤ (1 : Int))
 (.ret
 (SV.agg
 [bv s, SV.d (DV.x (.int .u64 ((h1 + (18446744073709551616 : Int) - h2 - if l1 < l2 + (0 : Int) then (1 : Int) else (0 : Int)) % (18446744073709551616 : Int)))),
 SV.d (DV.x (.int .u64 ((l1 + (18446744073709551616 : Int) - l2 - (0 : Int)) % (18446744073709551616 : Int))))])))))
theorem LPl_eq (s : Bool) (h1 l1 : Int) (t : Bool) (h2 l2 : Int) : T6 89 [.agg [bv s, u6 h1, u6 l1], .agg [bv t, u6 h2, u6 l2]] = LPl s h1 l1 t h2 l2 := by kernel_rfl
noncomputable def LMd (s : Bool) (h l : Int) (t : Bool) (h2 l2 : Int) : Tree SV :=
 .ite (decide (h > (0 : Int)) || decide (l > (4611686018427387904 : Int)))
 (.ite (decide (h2 > (0 : Int)) || decide (l2 > (4611686018427387904 : Int)))
 (.ite true (.ret (SV.tup [SV.agg [iv (0 : Int), iv (0 : Int)], iv (2 : Int)])) (.ret (SV.tup [SV.agg [iv (0 : Int), iv (0 : Int)], iv (0 : Int)])))
 (.ite t (.ite true (.ret (SV.tup [SV.agg [iv (0 : Int), iv (0 : Int)], iv (2 : Int)])) (.ret (SV.tup [SV.agg [iv (0 : Int), iv (w64 ((0 : Int) - w64 l2))], iv (0 : Int)])))
 (.ite true (.ret (SV.tup [SV.agg [iv (0 : Int), iv (0 : Int)], iv (2 : Int)])) (.ret (SV.tup [SV.agg [iv (0 : Int), iv (w64 l2)], iv (0 : Int)])))))
 (.ite s
 (.ite (decide (h2 > (0 : Int)) || decide (l2 > (4611686018427387904 : Int)))
 (.ite true (.ret (SV.tup [SV.agg [iv (0 : Int), iv (0 : Int)], iv (2 : Int)])) (.ret (SV.tup [SV.agg [iv (w64 ((0 : Int) - w64 l)), iv (0 : Int)], iv (0 : Int)])))
 (.ite t (.ite false (.ret (SV.tup [SV.agg [iv (0 : Int), iv (0 : Int)], iv (2 : Int)])) (.ret (SV.tup [SV.agg [iv (w64 ((0 : Int) - w64 l)), iv (w64 ((0 : Int) - w64 l2))], iv (0 : Int)])))
 (.ite false (.ret (SV.tup [SV.agg [iv (0 : Int), iv (0 : Int)], iv (2 : Int)])) (.ret (SV.tup [SV.agg [iv (w64 ((0 : Int) - w64 l)), iv (w64 l2)], iv (0 : Int)])))))
 (.ite (decide (h2 > (0 : Int)) || decide (l2 > (4611686018427387904 : Int)))
 (.ite true (.ret (SV.tup [SV.agg [iv (0 : Int), iv (0 : Int)], iv (2 : Int)])) (.ret (SV.tup [SV.agg [iv (w64 l), iv (0 : Int)], iv (0 : Int)])))
 (.ite t (.ite false (.ret (SV.tup [SV.agg [iv (0 : Int), iv (0 : Int)], iv (2 : Int)])) (.ret (SV.tup [SV.agg [iv (w64 l), iv (w64 ((0 : Int) - w64 l2))], iv (0 : Int)])))
 (.ite false (.ret (SV.tup [SV.agg [iv (0 : Int), iv (0 : Int)], iv (2 : Int)])) (.ret (SV.tup [SV.agg [iv (w64 l), iv (w64 l2)], iv (0 : Int)]))))))
theorem LMd_eq (s : Bool) (h l : Int) (t : Bool) (h2 l2 : Int) : T6 93 [.agg [bv s, u6 h, u6 l], .agg [bv t, u6 h2, u6 l2]] = LMd s h l t h2 l2 := by kernel_rfl
end Go.Proofs.Ytpaejfeojdoikaa
namespace Go.Proofs.Ytpaejfeojdoikaa
open Go.Sx
set_option maxRecDepth 100000
noncomputable def wSV (s : Bool) (T : Nat) : SV := .agg [bv s, u6 (T / 18446744073709551616 : Nat), u6 (T % 18446744073709551616 : Nat)]
def wN (h l : Int) : Nat := h.toNat * 18446744073709551616 + l.toNat
noncomputable def cTm : Ctr := fun ss => match ss with
  | [.d (.x (.int .i64 a)), .d (.x (.int .i64 b))] => .need ((-9223372036854775808 ≤ a ∧ a ≤ 9223372036854775807) ∧ (-9223372036854775808 ≤ b ∧ b ≤ 9223372036854775807)) (.ret (wSV (!(decide (a < 0) == decide (b < 0))) (a.natAbs * b.natAbs)))
  | _ => .fail
theorem cTm_ok : CtrOK Try.prog 88 cTm := by
  refine ctrOK_leS C6_ok D6_ok (by kernel_rfl) (by kernel_rfl) fun ss r h => ?_
  unfold cTm at h
  split at h
  · rename_i a b
    obtain ⟨⟨h1, h2⟩, rfl⟩ := h
    refine ⟨[iv a, iv b], 200, .nil, by simp [leSVs, leSV, iv, leD], Sat.of_eq (LTm_eq a b) ⟨?_⟩⟩
    unfold LTm
    refine ⟨h1, h2, ⟨by omega, by omega⟩, ?_⟩
    rw [← Int.natCast_mul]
    exact rfl
  · exact h.elim
noncomputable def cPl : Ctr := fun ss => match ss with
  | [.agg [.d (.x (.bool s)), .d (.x (.int .u64 h1)), .d (.x (.int .u64 l1))], .agg [.d (.x (.bool t)), .d (.x (.int .u64 h2)), .d (.x (.int .u64 l2))]] =>
    .need ((0 ≤ h1 ∧ h1 < 9223372036854775808) ∧ (0 ≤ l1 ∧ l1 < 18446744073709551616) ∧ (0 ≤ h2 ∧ h2 < 9223372036854775808) ∧ (0 ≤ l2 ∧ l2 < 18446744073709551616)) (.ret (wSV (sN s (wN h1 l1) t (wN h2 l2)) (sV s (wN h1 l1) t (wN h2 l2))))
  | _ => .fail
theorem cPl_ok : CtrOK Try.prog 89 cPl := by
  refine ctrOK_leS C6_ok D6_ok (by kernel_rfl) (by kernel_rfl) fun ss r h => ?_
  unfold cPl at h
  split at h
  · rename_i s h1 l1 t h2 l2
    obtain ⟨⟨a1, a2, a3, a4⟩, rfl⟩ := h
    refine ⟨[.agg [bv s, u6 h1, u6 l1], .agg [bv t, u6 h2, u6 l2]], 200, .nil, by simp [leSVs, leSV, u6, bv, leD], Sat.of_eq (LPl_eq s h1 l1 t h2 l2) ⟨?_⟩⟩
    unfold LPl
    have key : ∀ (S : Bool) (T : Nat) (x y : Int), x = (T / 18446744073709551616 : Nat) → y = (T % 18446744073709551616 : Nat) → SV.agg [bv S, .d (.x (.int .u64 x)), .d (.x (.int .u64 y))] = wSV S T := fun S T x y hx hy => by rw [hx, hy]; rfl
    refine ⟨fun hc => ⟨by omega, by omega, ?_⟩, fun hc => ⟨fun hs => ?_, fun hs => ?_⟩⟩
    · have hc : s = t := by simpa using hc
      simp only [Tree.sat, sN, sV, if_pos hc]
      refine key _ _ _ _ ?_ ?_
      · unfold wN; omega
      · unfold wN; omega
    · have hc : s ≠ t := by simpa using hc
      have hs : ¬ wN h2 l2 ≤ wN h1 l1 := by
        simp only [Bool.not_eq_true', Bool.or_eq_false_iff, Bool.and_eq_false_iff, decide_eq_false_iff_not, beq_eq_false_iff_ne] at hs
        unfold wN; omega
      refine ⟨by omega, ⟨by omega, by omega, by omega, by split <;> omega, by split <;> omega⟩, ?_⟩
      simp only [Tree.sat, sN, sV, if_neg hc, if_neg hs]
      refine key _ _ _ _ ?_ ?_
      · unfold wN at *; split <;> omega
      · unfold wN at *; omega
    · have hc : s ≠ t := by simpa using hc
      have hs : wN h2 l2 ≤ wN h1 l1 := by
        simp only [Bool.not_eq_false', Bool.or_eq_true, Bool.and_eq_true, decide_eq_true_eq, beq_iff_eq] at hs
        unfold wN; omega
      refine ⟨by omega, ⟨by omega, by omega, by omega, by split <;> omega, by split <;> omega⟩, ?_⟩
      simp only [Tree.sat, sN, sV, if_neg hc, if_pos hs]
      refine key _ _ _ _ ?_ ?_
      · unfold wN at *; split <;> omega
      · unfold wN at *; omega
  · exact h.elim
end Go.Proofs.Ytpaejfeojdoikaa
namespace Go.Proofs.Ytpaejfeojdoikaa
open Go.Sx
set_option maxRecDepth 100000
noncomputable def cMd : Ctr := fun ss => match ss with
  | [.agg [.d (.x (.bool s)), .d (.x (.int .u64 h1)), .d (.x (.int .u64 l1))], .agg [.d (.x (.bool t)), .d (.x (.int .u64 h2)), .d (.x (.int .u64 l2))]] =>
    .need ((0 ≤ h1 ∧ 0 ≤ l1 ∧ l1 < 18446744073709551616) ∧ (0 ≤ h2 ∧ 0 ≤ l2 ∧ l2 < 18446744073709551616) ∧ t = false) (.ret (.tup [.agg [iv (finN s (wN h1 l1) (wN h2 l2)), iv (finD (wN h1 l1) (wN h2 l2))], iv (finE (wN h1 l1) (wN h2 l2))]))
  | _ => .fail
theorem cMd_ok : CtrOK Try.prog 93 cMd := by
  refine ctrOK_leS C6_ok D6_ok (by kernel_rfl) (by kernel_rfl) fun ss r h => ?_
  unfold cMd at h
  split at h
  · rename_i s h1 l1 t h2 l2
    obtain ⟨⟨a1, a2, rfl⟩, rfl⟩ := h
    refine ⟨[.agg [bv s, u6 h1, u6 l1], .agg [bv false, u6 h2, u6 l2]], 200, .nil, by simp [leSVs, leSV, u6, bv, leD], Sat.of_eq (LMd_eq s h1 l1 false h2 l2) ⟨?_⟩⟩
    unfold LMd
    have k1 : (decide (h1 > 0) || decide (l1 > 4611686018427387904)) = decide (¬ wN h1 l1 ≤ 4611686018427387904) := by
      rw [← Bool.decide_or, decide_eq_decide]; unfold wN; omega
    have k2 : (decide (h2 > 0) || decide (l2 > 4611686018427387904)) = decide (¬ wN h2 l2 ≤ 4611686018427387904) := by
      rw [← Bool.decide_or, decide_eq_decide]; unfold wN; omega
    rw [k1, k2]
    refine ⟨fun hc => ?_, fun hc => ?_⟩
    · have hc := of_decide_eq_true hc
      have hf : ¬ (wN h1 l1 ≤ 4611686018427387904 ∧ wN h2 l2 ≤ 4611686018427387904) := fun h => hc h.1
      simp only [finN, finD, finE, if_neg hf]
      exact ⟨fun _ => ⟨fun _ => rfl, fun h => by cases h⟩, fun _ => ⟨fun h => (by cases h), fun _ => ⟨fun _ => rfl, fun h => by cases h⟩⟩⟩
    · have hc := Decidable.not_not.1 (of_decide_eq_false hc)
      refine ⟨fun hs => ⟨fun hd => ?_, fun hd => ?_⟩, fun hs => ⟨fun hd => ?_, fun hd => ?_⟩⟩
      · have hd := of_decide_eq_true hd
        have hf : ¬ (wN h1 l1 ≤ 4611686018427387904 ∧ wN h2 l2 ≤ 4611686018427387904) := fun h => hd h.2
        simp only [finN, finD, finE, if_neg hf]
        exact ⟨fun _ => rfl, fun h => by cases h⟩
      · have hd := Decidable.not_not.1 (of_decide_eq_false hd)
        simp only [finN, finD, finE, if_pos (And.intro hc hd)]
        refine ⟨fun h => (by cases h), fun _ => ⟨fun h => (by cases h), fun _ => ?_⟩⟩
        have e1 : (wN h1 l1 : Int) = l1 := by clear k1 k2 hs; unfold wN at hc ⊢; omega
        have e2 : (wN h2 l2 : Int) = l2 := by clear k1 k2 hs; unfold wN at hd ⊢; omega
        rw [w64_of (n := l1) (by omega) (by omega), w64_of (n := l2) (by omega) (by omega), w64_of (n := 0 - l1) (by omega) (by omega), e2, show sg s (wN h1 l1) = 0 - l1 by rw [sg, if_pos hs, e1, Int.zero_sub]]
        exact rfl
      · have hd := of_decide_eq_true hd
        have hf : ¬ (wN h1 l1 ≤ 4611686018427387904 ∧ wN h2 l2 ≤ 4611686018427387904) := fun h => hd h.2
        simp only [finN, finD, finE, if_neg hf]
        exact ⟨fun _ => rfl, fun h => by cases h⟩
      · have hd := Decidable.not_not.1 (of_decide_eq_false hd)
        simp only [finN, finD, finE, if_pos (And.intro hc hd)]
        refine ⟨fun h => (by cases h), fun _ => ⟨fun h => (by cases h), fun _ => ?_⟩⟩
        have e1 : (wN h1 l1 : Int) = l1 := by clear k1 k2 hs; unfold wN at hc ⊢; omega
        have e2 : (wN h2 l2 : Int) = l2 := by clear k1 k2 hs; unfold wN at hd ⊢; omega
        rw [w64_of (n := l1) (by omega) (by omega), w64_of (n := l2) (by omega) (by omega), e2, show sg s (wN h1 l1) = l1 by rw [sg, hs, e1]; rfl]
        exact rfl
  · exact h.elim
end Go.Proofs.Ytpaejfeojdoikaa
namespace Go.Sx
end Go.Sx
namespace Go.Proofs.Ytpaejfeojdoikaa
open Go.Sx
set_option maxRecDepth 100000
end Go.Proofs.Ytpaejfeojdoikaa
namespace Go.Proofs.Ytpaejfeojdoikaa
open Go.Sx
set_option maxRecDepth 100000
end Go.Proofs.Ytpaejfeojdoikaa
namespace Go.Proofs.Ytpaejfeojdoikaa
open Go.Sx
set_option maxRecDepth 100000
end Go.Proofs.Ytpaejfeojdoikaa
namespace Go.Proofs.Ytpaejfeojdoikaa
open Go.Sx
set_option maxRecDepth 100000
theorem wu_nonneg (n : Int) : 0 ≤ IntKind.wrap .u64 n := by rw [wu]; omega
end Go.Proofs.Ytpaejfeojdoikaa
namespace Go.Proofs.Ytpaejfeojdoikaa
open Go.Sx
set_option maxRecDepth 100000
noncomputable def gcd2 : DV → DV → Tr SV := fun p q => match p, q with
  | .x (.int .u64 a), .x (.int .u64 b) => .need (0 ≤ a ∧ 0 ≤ b) (.ret (u6 (Int.gcd a b)))
  | _, _ => .fail
noncomputable def cGcdV : Ctr := fun ss => match ss with
  | [.d (.ro 2 1 cell)] => gcd2 (cell 0 0) (cell 1 0)
  | _ => .fail
theorem cGcdV_ok : CtrOK Try.prog 87 cGcdV := cGcdU_ok.mono fun ss r h => by
  unfold cGcdV at h
  split at h
  · rename_i cell
    unfold gcd2 at h
    split at h
    · rename_i a b e1 e2
      obtain ⟨⟨h1, h2⟩, rfl⟩ := h
      have f1 : intCell cell 0 = a := by simp [intCell, e1, intOf1]
      have f2 : intCell cell 1 = b := by simp [intCell, e2, intOf1]
      refine ⟨⟨a, b, e1, e2, h1, h2⟩, ?_⟩
      rw [f1, f2]; exact rfl
    · exact h.elim
  · exact h.elim
noncomputable def man7 : FuncId → Option Ctr := fun k => match k with
  | 118 => some cAbsU
  | 87 => some cGcdV
  | 141 => some cMul64
  | 88 => some cTm
  | 89 => some cPl
  | _ => none
theorem man7_ok (k : Nat) (c : Ctr) (h : man7 k = some c) : CtrOK Try.prog k c ∧ goodF Try.prog k = true := by
  unfold man7 at h
  split at h <;> first | (cases h; done) | (cases h)
  · exact ⟨cAbsU_ok, by kernel_rfl⟩
  · exact ⟨cGcdV_ok, by kernel_rfl⟩
  · exact ⟨cMul64_ok, by kernel_rfl⟩
  · exact ⟨cTm_ok, by kernel_rfl⟩
  · exact ⟨cPl_ok, by kernel_rfl⟩
noncomputable def C7 : Ctx := ctxN Try.prog man7 (fun _ => false) 200 .nil 6
theorem C7_ok : CtxOK Try.prog C7 := ctxN_ok mixed man7_ok 6
noncomputable def D7 : Dr := fun _ => drawn Try.prog C7
theorem D7_ok : DrOK Try.prog C7 D7 := drawn_ok C7_ok mixed
noncomputable def T7 (k : Nat) (args : List SV) : Tree SV := fnT Try.prog C7 D7 200 (fnOf Try.prog k) (bodyOf Try.prog k) args .nil
noncomputable def LCp (a b c d : Int) : Tree SV :=
 .ite (a == c && (b == d && true)) (.ret (iv (0 : Int)))
 (.need (((-9223372036854775808 : Int) ≤ c ∧ c ≤ (9223372036854775807 : Int)) ∧ (-9223372036854775808 : Int) ≤ b ∧ b ≤ (9223372036854775807 : Int))
 (.need (((-9223372036854775808 : Int) ≤ a ∧ a ≤ (9223372036854775807 : Int)) ∧ (-9223372036854775808 : Int) ≤ d ∧ d ≤ (9223372036854775807 : Int))
 (.need
 (((0 : Int) ≤ (↑(Int.natAbs a * Int.natAbs d / 18446744073709551616) : Int) ∧ (↑(Int.natAbs a * Int.natAbs d / 18446744073709551616) : Int) < (9223372036854775808 : Int)) ∧
 ((0 : Int) ≤ (↑(Int.natAbs a * Int.natAbs d % 18446744073709551616) : Int) ∧ (↑(Int.natAbs a * Int.natAbs d % 18446744073709551616) : Int) < (18446744073709551616 : Int)) ∧
 ((0 : Int) ≤ (↑(Int.natAbs c * Int.natAbs b / 18446744073709551616) : Int) ∧ (↑(Int.natAbs c * Int.natAbs b / 18446744073709551616) : Int) < (9223372036854775808 : Int)) ∧
 (0 : Int) ≤ (↑(Int.natAbs c * Int.natAbs b % 18446744073709551616) : Int) ∧ (↑(Int.natAbs c * Int.natAbs b % 18446744073709551616) : Int) < (18446744073709551616 : Int))
 (.ite
 (sN (!decide (a < (0 : Int)) == decide (d < (0 : Int))) (wN (↑(Int.natAbs a * Int.natAbs d / 18446744073709551616) : Int) (↑(Int.natAbs a * Int.natAbs d % 18446744073709551616) : Int))
 (!!decide (c < (0 : Int)) == decide (b < (0 : Int))) (wN (↑(Int.natAbs c * Int.natAbs b / 18446744073709551616) : Int) (↑(Int.natAbs c * Int.natAbs b % 18446744073709551616) : Int)))
 (.ret (iv (-1 : Int))) (.ret (iv (1 : Int)))))))
theorem LCp_eq (a b c d : Int) : T7 82 [.agg [iv a, iv b], .agg [iv c, iv d]] = LCp a b c d := by kernel_rfl
noncomputable def LVd (a b : Int) : Tree SV :=
  .ite (decide (b ≥ (1 : Int)) && decide (b ≤ (4611686018427387904 : Int)) && decide (a ≥ (-4611686018427387904 : Int)) && decide (a ≤ (4611686018427387904 : Int)))
  (.need ((-9223372036854775808 : Int) ≤ a ∧ a ≤ (9223372036854775807 : Int))
    (.need (2 ≤ List.length [SV.d (DV.x (.int .u64 (↑(Int.natAbs a) : Int))), SV.d (DV.x (.int .u64 (IntKind.wrap .u64 b)))])
      (.need ((0 : Int) ≤ (↑(Int.natAbs a) : Int) ∧ (0 : Int) ≤ IntKind.wrap .u64 b) (.ret (bv ((↑(Int.gcd (↑(Int.natAbs a) : Int) (IntKind.wrap .u64 b)) : Int) == (1 : Int)))))))
  (.ret (bv false))
theorem LVd_eq (a b : Int) : T7 97 [.agg [iv a, iv b]] = LVd a b := by kernel_rfl
end Go.Proofs.Ytpaejfeojdoikaa
namespace Go.Proofs.Ytpaejfeojdoikaa
open Go.Sx
set_option maxRecDepth 100000
end Go.Proofs.Ytpaejfeojdoikaa
namespace Go.Proofs.Ytpaejfeojdoikaa
open Go.Sx
set_option maxRecDepth 100000
theorem wN_parts (T : Nat) : wN ((T / 18446744073709551616 : Nat) : Int) ((T % 18446744073709551616 : Nat) : Int) = T := by unfold wN; omega
theorem len2 (a b : SV) : 2 ≤ [a, b].length := by simp
theorem parts_b {T : Nat} (h : T ≤ 42535295865117307932921825928971026432) : (0 ≤ ((T / 18446744073709551616 : Nat) : Int) ∧ ((T / 18446744073709551616 : Nat) : Int) < 9223372036854775808) ∧ 0 ≤ ((T % 18446744073709551616 : Nat) : Int) ∧ ((T % 18446744073709551616 : Nat) : Int) < 18446744073709551616 := by omega
theorem mul_b {x y : Nat} (hx : x ≤ 4611686018427387904) (hy : y ≤ 4611686018427387904) : x * y ≤ 21267647932558653966460912964485513216 := by
  have := Nat.mul_le_mul hx hy; omega
theorem cmpU_sat (p q : Rat) (hp : fitsR p) (hq : fitsR q) : Sat Try.prog (T7 82 [.agg [iv p.num, iv p.den], .agg [iv q.num, iv q.den]]) (· = iv (cmpR p q)) := by
  obtain ⟨p1, p2⟩ := hp
  obtain ⟨q1, q2⟩ := hq
  constructor
  rw [LCp_eq]; unfold LCp
  simp only [wN_parts, nat_neg, natAbs_cast]
  obtain ⟨s1, s2, s3⟩ := sum_sg (!(decide (p.num < 0) == false)) (p.num.natAbs * q.den) (!!(decide (q.num < 0) == false)) (q.num.natAbs * p.den)
  rw [sg_prod2, sg_prod] at s1 s2
  obtain ⟨hlt, heq⟩ := rat_cmp p q
  have b1 := parts_b (T := p.num.natAbs * q.den) (Nat.le_trans (mul_b p1 q2) (by decide))
  have b2 := parts_b (T := q.num.natAbs * p.den) (Nat.le_trans (mul_b q1 p2) (by decide))
  refine ⟨fun hc => ?_, fun hc => ⟨by omega, by omega, ⟨b1.1, b1.2, b2.1, b2.2⟩, ?_⟩⟩
  · have hc : p.num = q.num ∧ p.den = q.den := by
      simp only [Bool.and_true, Bool.and_eq_true, beq_iff_eq] at hc; exact ⟨hc.1, by omega⟩
    have : p = q := Rat.ext hc.1 hc.2
    rw [cmpR, if_neg (by rw [this]; exact Rat.lt_irrefl), if_pos this]; exact rfl
  · have hne : p.num * ↑q.den + -(q.num * ↑p.den) ≠ 0 := by
      intro h
      have : p = q := heq.2 (by omega)
      subst this
      simp at hc
    have hs0 : sV (!(decide (p.num < 0) == false)) (p.num.natAbs * q.den) (!!(decide (q.num < 0) == false)) (q.num.natAbs * p.den) ≠ 0 := by rw [s1]; omega
    rw [s2 hs0]
    refine ⟨fun hs => ?_, fun hs => ?_⟩
    · have hs := of_decide_eq_true hs
      rw [cmpR, if_pos (hlt.2 (by omega))]; exact rfl
    · have hs := of_decide_eq_false hs
      rw [cmpR, if_neg (fun h => hs (by have := hlt.1 h; omega)), if_neg (fun h => hne (by have := heq.1 h; omega))]; exact rfl
noncomputable def cCmpU : Ctr := fun ss => match ss with
  | [.agg [.d (.x (.int .i64 a)), .d (.x (.int .i64 b))], .agg [.d (.x (.int .i64 c)), .d (.x (.int .i64 d))]] => .need (VF a b ∧ VF c d) (.ret (iv (cmpR (ratOf a b) (ratOf c d))))
  | _ => .fail
theorem cCmpU_ok : CtrOK Try.prog 82 cCmpU := by
  refine ctrOK_leS C7_ok D7_ok (by kernel_rfl) (by kernel_rfl) fun ss r h => ?_
  unfold cCmpU at h
  split at h
  · rename_i a b c d
    obtain ⟨⟨h1, h2⟩, rfl⟩ := h
    have := cmpU_sat _ _ h1.fits h2.fits
    rw [h1.low.num, h1.low.den, h2.low.num, h2.low.den] at this
    exact ⟨[.agg [iv a, iv b], .agg [iv c, iv d]], 200, .nil, by simp [leSVs, leSV, iv, leD], this⟩
  · exact h.elim
noncomputable def cValU : Ctr := fun ss => match ss with
  | [.agg [.d (.x (.int .i64 a)), .d (.x (.int .i64 b))]] => .ret (bv (vB a b))
  | _ => .fail
theorem cValU_ok : CtrOK Try.prog 97 cValU := by
  refine ctrOK_leS C7_ok D7_ok (by kernel_rfl) (by kernel_rfl) fun ss r h => ?_
  unfold cValU at h
  split at h
  · rename_i a b
    obtain rfl := h
    refine ⟨[.agg [iv a, iv b]], 200, .nil, by simp [leSVs, leSV, iv, leD], Sat.of_eq (LVd_eq a b) ⟨?_⟩⟩
    unfold LVd
    refine ⟨fun h => ⟨?_, len2 _ _, ?_, ?_⟩, fun h => ?_⟩
    · simp only [Bool.and_eq_true, decide_eq_true_eq] at h; omega
    · have := wu_nonneg b; omega
    · show bv _ = bv _
      refine congrArg bv ?_
      rw [Bool.eq_iff_iff]
      unfold vB
      simp only [Bool.and_eq_true, decide_eq_true_eq, beq_iff_eq] at h ⊢
      rw [wu_of (n := b) (by omega) (by omega)]
      have : Int.gcd (a.natAbs : Int) b = a.natAbs.gcd b.toNat := by rw [Int.gcd]; congr 1; omega
      constructor
      · intro h5; exact ⟨⟨⟨by omega, by omega⟩, by omega⟩, by omega⟩
      · rintro ⟨_, h5⟩; omega
    · show bv _ = bv _
      refine congrArg bv ?_
      symm
      rw [Bool.eq_false_iff]
      unfold vB
      intro h2
      simp only [Bool.and_eq_true, decide_eq_true_eq] at h2
      rw [Bool.eq_false_iff] at h
      refine h ?_
      simp only [Bool.and_eq_true, decide_eq_true_eq]
      omega
  · exact h.elim
end Go.Proofs.Ytpaejfeojdoikaa
namespace Go.Proofs.Ytpaejfeojdoikaa
open Go.Sx
set_option maxRecDepth 100000
noncomputable def man9 : FuncId → Option Ctr := fun k => match k with
  | 82 => some cCmpU
  | 97 => some cValU
  | 78 => some cCmpR
  | 41 => some cMade
  | 116 => some cMake
  | _ => none
theorem man9_ok (k : Nat) (c : Ctr) (h : man9 k = some c) : CtrOK Try.prog k c ∧ goodF Try.prog k = true := by
  unfold man9 at h
  split at h <;> first | (cases h; done) | (cases h)
  · exact ⟨cCmpU_ok, by kernel_rfl⟩
  · exact ⟨cValU_ok, by kernel_rfl⟩
  · exact ⟨cCmpR_ok, by kernel_rfl⟩
  · exact ⟨cMade_ok, by kernel_rfl⟩
  · exact ⟨cMake_ok, by kernel_rfl⟩
noncomputable def C9 : Ctx := ctxN Try.prog man9 (fun _ => false) 200 .nil 6
theorem C9_ok : CtxOK Try.prog C9 := ctxN_ok mixed man9_ok 6
noncomputable def D9 : Dr := fun _ => drawn Try.prog C9
theorem D9_ok : DrOK Try.prog C9 D9 := drawn_ok C9_ok mixed
noncomputable def T9 (h : Hint) (k : Nat) (args : List SV) : Tree SV := fnT Try.prog C9 D9 200 (fnOf Try.prog k) (bodyOf Try.prog k) args h
def uN : Nat → Hint → Hint
  | 0, h => .u (.f h)
  | n + 1, h => .u (.t (uN n h))
noncomputable def LMinR (a b c d : Int) : Tree SV :=
  .need (VF c d ∧ VF a b) (.ite (decide (cmpR (ratOf c d) (ratOf a b) < (0 : Int))) (.ret (SV.agg [iv c, iv d])) (.ret (SV.agg [iv a, iv b])))
theorem LMinR_eq (a b c d : Int) : T9 .nil 83 [.agg [iv a, iv b], .agg [iv c, iv d]] = LMinR a b c d := by kernel_rfl
noncomputable def LMaxR (a b c d : Int) : Tree SV :=
  .need (VF c d ∧ VF a b) (.ite (decide (cmpR (ratOf c d) (ratOf a b) > (0 : Int))) (.ret (SV.agg [iv c, iv d])) (.ret (SV.agg [iv a, iv b])))
theorem LMaxR_eq (a b c d : Int) : T9 .nil 84 [.agg [iv a, iv b], .agg [iv c, iv d]] = LMaxR a b c d := by kernel_rfl
noncomputable def LFrac (a b : Int) : Tree SV :=
  .need ((41 : Int) ≠ (0 : Int))
  (.need ((6 : Int) ≠ (0 : Int))
    (.need
      (((-4611686018427387904 : Int) ≤ w64 (Int.tmod a (41 : Int) - (20 : Int)) ∧ w64 (Int.tmod a (41 : Int) - (20 : Int)) ≤ (4611686018427387904 : Int)) ∧
        (1 : Int) ≤ w64 ((1 : Int) + Int.tmod b (6 : Int)) ∧ w64 ((1 : Int) + Int.tmod b (6 : Int)) ≤ (4611686018427387904 : Int))
      (.ret
        (SV.agg
          [iv (Rat.num (ratOf (w64 (Int.tmod a (41 : Int) - (20 : Int))) (w64 ((1 : Int) + Int.tmod b (6 : Int))))), iv (↑(Rat.den (ratOf (w64 (Int.tmod a (41 : Int) - (20 : Int))) (w64 ((1 : Int) + Int.tmod b (6 : Int))))) : Int)]))))
theorem LFrac_eq (a b : Int) : T9 .nil 73 [iv a, iv b] = LFrac a b := by kernel_rfl
noncomputable def LAt8 (n : Nat) (c : Nat → Int) (i : Int) : Tree SV :=
  .ite ((↑n : Int) == (0 : Int)) (.ret (iv (0 : Int)))
  (.need ((↑n : Int) ≠ (0 : Int)) (.need ((0 : Int) ≤ Int.tmod i (↑n : Int) ∧ Int.tmod i (↑n : Int) < (↑n : Int)) (.ret (iv (w64 (c (Int.toNat (Int.tmod i (↑n : Int)))))))))
theorem LAt8_eq (n : Nat) (c : Nat → Int) (i : Int) : T9 .nil 74 [ro8 n c, iv i] = LAt8 n c i := by kernel_rfl
end Go.Proofs.Ytpaejfeojdoikaa
