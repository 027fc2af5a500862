/- Part of a proof of the given statements of this seat (SxFlYa, SxFlYb, SxFlYc, SxFlYd, SxFlRa, SxFlRb, SxFlRc, SxFlRd, SxFlRe, SxFlRf, SxFlRg, SxFlRh, SxFlRi, SxFlRj, SxFlRk): no conditions beyond those typed here. -/
import Derived.Test.YtpaejfeojdoikaaSy09
set_option linter.unusedVariables false
set_option linter.unusedSimpArgs false

namespace Go.Proofs.Ytpaejfeojdoikaa
open Go.Sx
set_option maxRecDepth 100000

/-! ### MakeIn of any two numbers -/
/-- The quotient of two numbers. -/
def qR (n d : Int) : Rat := if d < 0 then ratOf (-n) (-d) else ratOf n d
theorem qR_half {a b : Int} (hb : b ≠ 0) (h1 : a % 2 = 0) (h2 : b % 2 = 0) : qR (a / 2) (b / 2) = qR a b := by
  unfold qR
  by_cases h : b < 0
  · rw [if_pos h, if_pos (by omega), ← ratOf_half (a := -a) (b := -b) (by omega) (by omega) (by omega)]
    congr 1 <;> omega
  · rw [if_neg h, if_neg (by omega)]
    exact ratOf_half (by omega) h1 h2
theorem qR_zero {b : Int} : qR 0 b = 0 := by
  unfold qR; split <;> (unfold ratOf; exact Rat.zero_mkRat _)
/-- Numerator and denominator of a quotient. -/
theorem qR_parts {a b : Int} (hb : b ≠ 0) : (qR a b).num.natAbs = a.natAbs / a.natAbs.gcd b.natAbs ∧ (qR a b).den = b.natAbs / a.natAbs.gcd b.natAbs ∧ ((decide (a < 0) != decide (b < 0)) = true → (qR a b).num ≤ 0) ∧ ((decide (a < 0) != decide (b < 0)) = false → 0 ≤ (qR a b).num) := by
  have key : ∀ {n d : Int}, 0 < d → (ratOf n d).num.natAbs = n.natAbs / n.natAbs.gcd d.natAbs ∧ (ratOf n d).den = d.natAbs / n.natAbs.gcd d.natAbs ∧ (n ≤ 0 → (ratOf n d).num ≤ 0) ∧ (0 ≤ n → 0 ≤ (ratOf n d).num) := by
    intro n d hd
    obtain ⟨r1, r2⟩ := ratOf_red (n := n) hd rfl
    have e : d.toNat = d.natAbs := by omega
    rw [e] at r1 r2
    refine ⟨by rw [r1, Int.natAbs_tdiv]; rfl, ?_, fun h => ?_, fun h => ?_⟩
    · have hd0 : 0 ≤ d := by omega
      rw [Int.tdiv_eq_ediv_of_nonneg hd0] at r2
      obtain ⟨D, rfl⟩ := Int.eq_ofNat_of_zero_le hd0
      rw [Int.natAbs_natCast] at *
      rw [← Int.natCast_ediv] at r2
      omega
    · rw [r1]
      have := Int.tdiv_nonneg (a := -n) (b := ((n.natAbs.gcd d.natAbs : Nat) : Int)) (by omega) (by omega)
      rw [Int.neg_tdiv] at this; omega
    · rw [r1]; exact Int.tdiv_nonneg h (Int.natCast_nonneg _)
  unfold qR
  by_cases h : b < 0
  · rw [if_pos h]
    obtain ⟨k1, k2, k3, k4⟩ := key (n := -a) (d := -b) (by omega)
    rw [Int.natAbs_neg, Int.natAbs_neg] at k1 k2
    refine ⟨k1, k2, fun hx => k3 ?_, fun hx => k4 ?_⟩
    · simp only [h, decide_true, bne_iff_ne, ne_eq, decide_eq_true_eq] at hx
      simp at hx; omega
    · simp only [h, decide_true] at hx
      simp at hx; omega
  · rw [if_neg h]
    obtain ⟨k1, k2, k3, k4⟩ := key (n := a) (d := b) (by omega)
    refine ⟨k1, k2, fun hx => k3 ?_, fun hx => k4 ?_⟩
    · simp only [h, decide_false] at hx
      simp at hx; omega
    · simp only [h, decide_false] at hx
      simp at hx; omega

theorem odd_gcd {n : Nat} (h : n % 2 = 1) : (9223372036854775808 : Nat).gcd n = 1 := by
  rw [show (9223372036854775808 : Nat) = 2 ^ 63 by decide]
  have : Nat.Coprime 2 n := by
    unfold Nat.Coprime
    rw [Nat.gcd_rec, h]; decide
  exact Nat.Coprime.pow_left 63 this

abbrev I64 (n : Int) : Prop := -9223372036854775808 ≤ n ∧ n ≤ 9223372036854775807
theorem makeG_sat {n d : Int} (hn : I64 n) (hd : I64 d) (h0 : d ≠ 0) : Sat Try.prog (tMake n d) (· = .agg [iv (rN (qR n d)), iv (rD (qR n d)), iv (rE (qR n d))]) := by
  constructor
  rw [LMake_eq]; unfold LMake
  refine ⟨fun hc => by simp only [beq_iff_eq] at hc; omega, fun hc => ?_⟩
  refine code_satS C1_ok D1_ok (n := 200) (n0 := 1) (nx := 1) (roots := []) (keep := [4, 5, 6]) (drop := []) (h := .nil) (c := codeC (sub [1] (tMake n d))) (st := codeS (sub [1] (tMake n d))) (k := codeK (sub [1] (tMake n d))) (body := bodyMake) (by kernel_rfl) (by kernel_rfl)
    (fun q s => ∃ a b : Int, q = b.natAbs ∧ I64 a ∧ I64 b ∧ b ≠ 0 ∧ qR a b = qR n d ∧ s = invMake a b)
    (fun e s => ∃ a b : Int, e = .exit 0 ∧ I64 a ∧ I64 b ∧ b ≠ 0 ∧ (a ≠ 0 → ¬ (a % 2 = 0 ∧ b % 2 = 0)) ∧ qR a b = qR n d ∧ s = invMake a b)
    ⟨_, _, ⟨n, d, rfl, hn, hd, h0, rfl, rfl⟩, ?_⟩ ?_ ?_
  · exact entA_sound (roots := []) (keep := [4, 5, 6]) (drop := []) (nx := 1) (h := .nil) (by kernel_rfl)
  · rintro q s ⟨a, b, hq, ha, hb, hb0, he, rfl⟩
    refine Sat.of_eq (BMake_eq a b) ?_
    constructor
    unfold BMake
    refine ⟨by decide, fun _ => by decide, fun hc => ?_, fun hc => ?_⟩
    · simp only [Bool.and_eq_true, beq_iff_eq, bne_iff_ne, ne_eq, tmod2] at hc
      obtain ⟨⟨h1, h2⟩, h3⟩ := hc
      rw [tdiv2 h1, tdiv2 h2, w64_of (n := a / 2) (by omega) (by omega), w64_of (n := b / 2) (by omega) (by omega)]
      exact ⟨by decide, by decide, (b / 2).natAbs, _, by omega, ⟨a / 2, b / 2, rfl, by omega, by omega, by omega, by rw [qR_half hb0 h1 h2, he], rfl⟩, Gc.refl _ _⟩
    · refine ⟨_, ⟨a, b, rfl, ha, hb, hb0, fun hx ⟨h1, h2⟩ => ?_, he, rfl⟩, Gc.refl _ _⟩
      have : (Int.tmod a 2 == 0 && Int.tmod b 2 == 0 && a != 0) = true := by
        simp only [Bool.and_eq_true, beq_iff_eq, bne_iff_ne, ne_eq, tmod2]; exact ⟨⟨h1, h2⟩, hx⟩
      rw [this] at hc; cases hc
  · rintro e s ⟨a, b, rfl, ha, hb, hb0, hev, he, rfl⟩
    refine Sat.of_eq (KMake_eq n d a b) ⟨?_⟩
    unfold KMake
    rw [← he]
    have hg : ((Int.gcd (a.natAbs : Int) (b.natAbs : Int) : Nat) : Int) = ((a.natAbs.gcd b.natAbs : Nat) : Int) := by rw [Int.gcd_natCast_natCast]
    have hgp : 0 < a.natAbs.gcd b.natAbs := Nat.gcd_pos_of_pos_right _ (by omega)
    obtain ⟨r1, r2, r3, r4⟩ := qR_parts (a := a) hb0
    have ga := Nat.div_le_self a.natAbs (a.natAbs.gcd b.natAbs)
    have gb := Nat.div_le_self b.natAbs (a.natAbs.gcd b.natAbs)
    refine ⟨fun hz => ?_, fun hz => ?_⟩
    · have hz : a = 0 := by simpa using hz
      subst hz
      rw [qR_zero, r_zero.1, r_zero.2.1, r_zero.2.2]; exact rfl
    have hz : a ≠ 0 := by simpa using hz
    have hev := hev hz
    refine ⟨fun hl => ?_, fun hl => ?_⟩
    · have hnf : ¬ fitsR (qR a b) := by
        rintro ⟨f1, f2⟩
        rw [r1] at f1; rw [r2] at f2
        simp only [Bool.or_eq_true, beq_iff_eq] at hl
        rcases hl with rfl | rfl
        · have hb2 : b.natAbs % 2 = 1 := by omega
          rw [show (-9223372036854775808 : Int).natAbs = 9223372036854775808 by decide, odd_gcd hb2] at f1
          omega
        · have ha2 : a.natAbs % 2 = 1 := by omega
          rw [show (-9223372036854775808 : Int).natAbs = 9223372036854775808 by decide, Nat.gcd_comm, odd_gcd ha2] at f2
          omega
      rw [rN_no hnf, rD_no hnf, rE_no hnf]; exact rfl
    · simp only [Bool.or_eq_false_iff, beq_eq_false_iff_ne, ne_eq] at hl
      rw [hg, Int.toNat_natCast]
      refine ⟨by omega, by omega, by omega, ⟨by omega, by omega, by omega⟩, ⟨by omega, by omega, by omega⟩, fun hm => ?_, fun hm => ?_⟩
      · have hnf : ¬ fitsR (qR a b) := by
          rintro ⟨f1, f2⟩
          simp only [Bool.or_eq_true, decide_eq_true_eq] at hm
          omega
        rw [rN_no hnf, rD_no hnf, rE_no hnf]; exact rfl
      · have hf : fitsR (qR a b) := by
          simp only [Bool.or_eq_false_iff, decide_eq_false_iff_not] at hm
          exact ⟨by omega, by omega⟩
        rw [rN_of hf, rD_of hf, rE_of hf]
        have hxor : (!decide (a < 0) == decide (b < 0)) = (decide (a < 0) != decide (b < 0)) := by cases decide (a < 0) <;> cases decide (b < 0) <;> rfl
        refine ⟨fun hs => ?_, fun hs => ?_⟩
        · rw [hxor] at hs
          have := r3 hs
          rw [w64_of (by omega) (by omega)]
          simp only [Tree.sat]
          rw [← r1, ← r2, show (0 : Int) - ((qR a b).num.natAbs : Int) = (qR a b).num by omega]
        · rw [hxor] at hs
          have := r4 hs
          simp only [Tree.sat]
          rw [← r1, ← r2, show ((qR a b).num.natAbs : Int) = (qR a b).num by omega]

noncomputable def cMakeG : Ctr := fun ss => match ss with
  | [.d (.x (.int .i64 n)), .d (.x (.int .i64 d))] => .need (I64 n ∧ I64 d)
      (.ret (.agg [iv (if d = 0 then 0 else rN (qR n d)), iv (if d = 0 then 0 else rD (qR n d)), iv (if d = 0 then 3 else rE (qR n d))]))
  | _ => .fail
theorem cMakeG_ok : CtrOK Try.prog 116 cMakeG := by
  refine ctrOK_leS C1_ok D1_ok (by kernel_rfl) (by kernel_rfl) fun ss r h => ?_
  unfold cMakeG at h
  split at h
  · rename_i n d
    obtain ⟨⟨h1, h2⟩, rfl⟩ := h
    by_cases h0 : d = 0
    · subst h0
      refine ⟨[iv n, iv 0], 200, .nil, by simp [leSVs, leSV, iv, leD], Sat.of_eq (LMake_eq n 0) ⟨?_⟩⟩
      unfold LMake
      exact ⟨fun _ => rfl, fun h => (by cases h)⟩
    · rw [if_neg h0, if_neg h0, if_neg h0]
      exact ⟨[iv n, iv d], 200, .nil, by simp [leSVs, leSV, iv, leD], makeG_sat h1 h2 h0⟩
  · exact h.elim

end Go.Proofs.Ytpaejfeojdoikaa

namespace Go.Proofs.Ytpaejfeojdoikaa
open Go.Sx
set_option maxRecDepth 100000

noncomputable def manJ : FuncId → Option Ctr := fun k => match k with
  | 116 => some cMakeG
  | _ => none
theorem manJ_ok (k : Nat) (c : Ctr) (h : manJ k = some c) : CtrOK Try.prog k c ∧ goodF Try.prog k = true := by
  unfold manJ at h
  split at h
  · cases h; exact ⟨cMakeG_ok, by kernel_rfl⟩
  · cases h
noncomputable def CJ : Ctx := ctxN Try.prog manJ (fun _ => false) 200 .nil 6
theorem CJ_ok : CtxOK Try.prog CJ := ctxN_ok mixed manJ_ok 6
noncomputable def DJ : Dr := fun _ => drawn Try.prog CJ
theorem DJ_ok : DrOK Try.prog CJ DJ := drawn_ok CJ_ok mixed
noncomputable def TJ (h : Hint) (k : Nat) (args : List SV) : Tree SV := fnT Try.prog CJ DJ 200 (fnOf Try.prog k) (bodyOf Try.prog k) args h

noncomputable def LMdA (n d : Int) : Tree SV :=
  .need (I64 n ∧ I64 d) (.code (codeC (sub [(0 : Nat)] (TJ .nil (41 : Nat) [iv n, iv d]))) (codeS (sub [(0 : Nat)] (TJ .nil (41 : Nat) [iv n, iv d]))) (codeK (sub [(0 : Nat)] (TJ .nil (41 : Nat) [iv n, iv d]))))

theorem LMdA_eq (n d : Int) : TJ .nil 41 [iv n, iv d] = LMdA n d := by kernel_rfl

noncomputable def tMd (n d : Int) : Tree SV := TJ .nil 41 [iv n, iv d]
noncomputable def invMd (n d x y z : Int) : AS := ⟨[.ok (iv n), .ok (iv d), .unk, .unk, .ok (.ptr 0 0), .ok (.ptr 1 0)] ++ List.replicate 17 .unk, [some (.cells [iv 0, iv 0]), some (.cells [iv x, iv y, iv z]), none], 3, .nil⟩
noncomputable def bodyMd : Code := loopN (bodyOf Try.prog 41) 0
noncomputable def BMdA (n d x y z : Int) : Tree (Ex × AS) :=
  .ite (z != (0 : Int))
  (.need ((2 : Int) ≠ (0 : Int))
   (.need ((2 : Int) ≠ (0 : Int))
   (.ite (w64 (Int.tdiv d (2 : Int)) == (0 : Int))
   (.need (I64 (w64 (Int.tdiv n (2 : Int))) ∧ I64 (1 : Int))
   (.ret
   (.normal,
   {
   tm :=
   [.ok (iv (w64 (Int.tdiv n (2 : Int)))), .ok (iv (1 : Int)), .unk, .unk, .ok (SV.ptr 0 0), .ok (SV.ptr 1 0), .unk, .unk, .unk, .unk, .unk, .unk, .unk,
   .unk, .unk, .unk, .unk, .unk, .unk, .unk, .unk, .unk, .unk],
   hp :=
   [some (.cells [iv (0 : Int), iv (0 : Int)]),
   some (.cells [iv (rN (qR (w64 (Int.tdiv n (2 : Int))) (1 : Int))), iv (rD (qR (w64 (Int.tdiv n (2 : Int))) (1 : Int))), iv (rE (qR (w64 (Int.tdiv n (2 : Int))) (1 : Int)))]), none],
   next := 3, hint := .nil })))
   (.need (I64 (w64 (Int.tdiv n (2 : Int))) ∧ I64 (w64 (Int.tdiv d (2 : Int))))
   (.ret
   (.normal,
   {
   tm :=
   [.ok (iv (w64 (Int.tdiv n (2 : Int)))), .ok (iv (w64 (Int.tdiv d (2 : Int)))), .unk, .unk, .ok (SV.ptr 0 0), .ok (SV.ptr 1 0), .unk, .unk, .unk, .unk, .unk,
   .unk, .unk, .unk, .unk, .unk, .unk, .unk, .unk, .unk, .unk, .unk, .unk],
   hp :=
   [some (.cells [iv (0 : Int), iv (0 : Int)]),
   some
   (.cells
   [iv (if w64 (Int.tdiv d (2 : Int)) = (0 : Int) then (0 : Int) else rN (qR (w64 (Int.tdiv n (2 : Int))) (w64 (Int.tdiv d (2 : Int))))),
   iv (if w64 (Int.tdiv d (2 : Int)) = (0 : Int) then (0 : Int) else rD (qR (w64 (Int.tdiv n (2 : Int))) (w64 (Int.tdiv d (2 : Int))))),
   iv (if w64 (Int.tdiv d (2 : Int)) = (0 : Int) then (3 : Int) else rE (qR (w64 (Int.tdiv n (2 : Int))) (w64 (Int.tdiv d (2 : Int)))))]),
   none],
   next := 3, hint := .nil }))))))
  (.ret
   (.exit 0,
   {
   tm :=
   [.ok (iv n), .ok (iv d), .unk, .unk, .ok (SV.ptr 0 0), .ok (SV.ptr 1 0), .unk, .unk, .unk, .unk, .unk, .unk, .unk, .unk, .unk, .unk, .unk, .unk, .unk,
   .unk, .unk, .unk, .unk],
   hp := [some (.cells [iv (0 : Int), iv (0 : Int)]), some (.cells [iv x, iv y, iv z]), none], next := 3, hint := .nil }))

theorem BMdA_eq (n d x y z : Int) : cutT 3 [] [0, 1, 4, 5] [2] 3 .nil (exec Try.prog CJ DJ 200 bodyMd (invMd n d x y z)) = BMdA n d x y z := by kernel_rfl

noncomputable def KMdA (n d a b x y z : Int) : Tree SV :=
  .ret (SV.agg [iv x, iv y])

theorem KMdA_eq (n d a b x y z : Int) : codeK (sub [0] (tMd n d)) (.exit 0) (invMd a b x y z) = KMdA n d a b x y z := by kernel_rfl


/-- What the reference makes of two numbers: halved until they fit. -/
def nxD (d : Int) : Int := if Int.tdiv d 2 = 0 then 1 else Int.tdiv d 2
noncomputable def mdF : Nat → Int → Int → Rat
  | 0, _, _ => 0
  | k + 1, n, d => if d ≠ 0 ∧ fitsR (qR n d) then qR n d else mdF k (Int.tdiv n 2) (nxD d)
def mdM (n d : Int) : Nat := n.natAbs + d.natAbs + if d = 0 then 2 else 0
noncomputable def mdQ (n d : Int) : Rat := mdF (mdM n d + 1) n d
theorem mdQ_of {n d : Int} (h0 : d ≠ 0) (h : fitsR (qR n d)) : mdQ n d = qR n d := by unfold mdQ mdF; rw [if_pos ⟨h0, h⟩]
theorem fits_zero : fitsR 0 := by decide +kernel
theorem md_step {n d : Int} (h : ¬ (d ≠ 0 ∧ fitsR (qR n d))) : mdM (Int.tdiv n 2) (nxD d) < mdM n d := by
  have hn : (Int.tdiv n 2).natAbs = n.natAbs / 2 := by rw [Int.natAbs_tdiv]; rfl
  have hd : (Int.tdiv d 2).natAbs = d.natAbs / 2 := by rw [Int.natAbs_tdiv]; rfl
  unfold mdM nxD
  by_cases h0 : d = 0
  · subst h0
    rw [if_pos (by decide), if_neg (by decide), if_pos rfl]; omega
  · have hn0 : n ≠ 0 := by
      rintro rfl
      exact h ⟨h0, by rw [qR_zero]; exact fits_zero⟩
    have e1 : (1 : Int).natAbs = 1 := rfl
    (repeat' split) <;> omega

def mdC (n d : Int) (x y z : Int) : Prop := x = (if d = 0 then 0 else rN (qR n d)) ∧ y = (if d = 0 then 0 else rD (qR n d)) ∧ z = (if d = 0 then 3 else rE (qR n d))
theorem tdiv2_b {n : Int} (h : I64 n) : I64 (Int.tdiv n 2) ∧ w64 (Int.tdiv n 2) = Int.tdiv n 2 := by
  have hn : (Int.tdiv n 2).natAbs = n.natAbs / 2 := by rw [Int.natAbs_tdiv]; rfl
  have : I64 (Int.tdiv n 2) := ⟨by omega, by omega⟩
  exact ⟨this, w64_of this.1 this.2⟩
theorem madeG_sat {n d : Int} (hn : I64 n) (hd : I64 d) : Sat Try.prog (tMd n d) (· = .agg [iv (mdQ n d).num, iv (mdQ n d).den]) := by
  constructor
  rw [show tMd n d = LMdA n d from LMdA_eq n d]; unfold LMdA
  refine ⟨⟨hn, hd⟩, ?_⟩
  refine code_satS CJ_ok DJ_ok (n := 200) (n0 := 3) (nx := 3) (roots := []) (keep := [0, 1, 4, 5]) (drop := [2]) (h := .nil) (c := codeC (sub [0] (tMd n d))) (st := codeS (sub [0] (tMd n d))) (k := codeK (sub [0] (tMd n d))) (body := bodyMd) (by kernel_rfl) (by kernel_rfl)
    (fun q s => ∃ a b x y z : Int, I64 a ∧ I64 b ∧ mdM a b < q ∧ mdF q a b = mdQ n d ∧ mdC a b x y z ∧ s = invMd a b x y z)
    (fun e s => ∃ a b y z : Int, ∃ r : Rat, e = .exit 0 ∧ mdQ n d = r ∧ s = invMd a b r.num r.den z)
    ⟨_, _, ⟨n, d, _, _, _, hn, hd, Nat.lt_succ_self _, rfl, ⟨rfl, rfl, rfl⟩, rfl⟩, ?_⟩ ?_ ?_
  · exact entA_sound (roots := []) (keep := [0, 1, 4, 5]) (drop := [2]) (nx := 3) (h := .nil) (by kernel_rfl)
  · rintro q s ⟨a, b, x, y, z, ha, hb, hq, he, ⟨rfl, rfl, rfl⟩, rfl⟩
    refine Sat.of_eq (BMdA_eq _ _ _ _ _) ?_
    constructor
    unfold BMdA
    obtain ⟨a1, a2⟩ := tdiv2_b ha
    obtain ⟨b1, b2⟩ := tdiv2_b hb
    have hI1 : I64 1 := ⟨by decide, by decide⟩
    obtain ⟨q, rfl⟩ : ∃ p, q = p + 1 := ⟨q - 1, by omega⟩
    by_cases hok : b ≠ 0 ∧ fitsR (qR a b)
    · have e1 : mdF (q + 1) a b = qR a b := by unfold mdF; rw [if_pos hok]
      rw [e1] at he
      rw [if_neg hok.1, if_neg hok.1, if_neg hok.1, rE_of hok.2, rN_of hok.2, rD_of hok.2]
      exact ⟨fun h => (by cases h), fun _ => ⟨_, ⟨a, b, 0, 0, qR a b, rfl, he.symm, rfl⟩, Gc.refl _ _⟩⟩
    · have e1 : mdF (q + 1) a b = mdF q (Int.tdiv a 2) (nxD b) := by
        show (if b ≠ 0 ∧ fitsR (qR a b) then qR a b else mdF q (Int.tdiv a 2) (nxD b)) = _
        rw [if_neg hok]
      rw [e1] at he
      have hst := md_step hok
      rw [a2, b2]
      refine ⟨fun _ => ⟨by decide, by decide, fun h1 => ?_, fun h1 => ?_⟩, fun h => ?_⟩
      · have h1 : Int.tdiv b 2 = 0 := by simpa using h1
        have h2 : nxD b = 1 := by unfold nxD; rw [if_pos h1]
        rw [h2] at he hst
        exact ⟨⟨a1, hI1⟩, q, _, Nat.lt_succ_self _, ⟨Int.tdiv a 2, 1, _, _, _, a1, hI1, by omega, he, ⟨by rw [if_neg (by decide)], by rw [if_neg (by decide)], by rw [if_neg (by decide)]⟩, rfl⟩, Gc.refl _ _⟩
      · have h1 : Int.tdiv b 2 ≠ 0 := by simpa using h1
        have h2 : nxD b = Int.tdiv b 2 := by unfold nxD; rw [if_neg h1]
        rw [h2] at he hst
        exact ⟨⟨a1, b1⟩, q, _, Nat.lt_succ_self _, ⟨Int.tdiv a 2, Int.tdiv b 2, _, _, _, a1, b1, by omega, he, ⟨rfl, rfl, rfl⟩, rfl⟩, Gc.refl _ _⟩
      · exfalso
        by_cases hb0 : b = 0
        · rw [if_pos hb0] at h; cases h
        · rw [if_neg hb0, rE_no (fun hf => hok ⟨hb0, hf⟩)] at h; cases h
  · rintro e s ⟨a, b, y, z, r, rfl, he, rfl⟩
    refine Sat.of_eq (KMdA_eq n d a b _ _ _) ⟨?_⟩
    unfold KMdA
    rw [he]; exact rfl

noncomputable def cMadeG : Ctr := fun ss => match ss with
  | [.d (.x (.int .i64 n)), .d (.x (.int .i64 d))] => .need (I64 n ∧ I64 d) (.ret (.agg [iv (mdQ n d).num, iv (mdQ n d).den]))
  | _ => .fail
theorem cMadeG_ok : CtrOK Try.prog 41 cMadeG := by
  refine ctrOK_leS CJ_ok DJ_ok (by kernel_rfl) (by kernel_rfl) fun ss r h => ?_
  unfold cMadeG at h
  split at h
  · rename_i n d
    obtain ⟨⟨h1, h2⟩, rfl⟩ := h
    exact ⟨[iv n, iv d], 200, .nil, by simp [leSVs, leSV, iv, leD], madeG_sat h1 h2⟩
  · exact h.elim

end Go.Proofs.Ytpaejfeojdoikaa

namespace Go.Proofs.Ytpaejfeojdoikaa
open Go.Sx
set_option maxRecDepth 100000

theorem cSmlR_ok : CtrOK Try.prog 62 cSmlR := by
  refine ctrOK_leS CI_ok DI_ok (by kernel_rfl) (by kernel_rfl) fun ss r hh => ?_
  unfold cSmlR at hh
  split at hh
  · rename_i n cell
    obtain ⟨⟨rfl, h2⟩, rfl⟩ := hh
    refine ⟨[.d (.ro 3 8 fun i j => .x (.int .i64 (cellI cell i j)))], 200, eachH 3, ?_, Sat.of_eq (LSr3_eq (cellI cell)) ⟨?_⟩⟩
    · simp only [leSVs, leSV, leD, and_true, true_and]
      exact fun i j hi hj => (h2 i hi).2 j hj
    · have x0 := (h2 0 (by omega)).1
      have x1 := (h2 1 (by omega)).1
      have x2 := (h2 2 (by omega)).1
      unfold LSr3
      generalize hc : cellI cell = c at *
      have e5 : LSr3_q5 c = some (ratOf (c 0 0) (c 0 1), ratOf (c 0 2) (c 0 3), ratOf (c 0 4) (c 0 5), ratOf (c 0 6) (c 0 7)) := addO_zero (a := c 0) x0
      have e18 : LSr3_q18 c = add2 (c 0) (c 1) := by
        simp only [LSr3_q1, LSr3_q2, LSr3_q3, LSr3_q4, LSr3_q5, LSr3_q6, LSr3_q7, LSr3_q8, LSr3_q9, LSr3_q10, LSr3_q11, LSr3_q12, LSr3_q13, LSr3_q14, LSr3_q15, LSr3_q16, LSr3_q17, LSr3_q18, LSr3_q19, LSr3_q20, LSr3_q21, LSr3_q22, LSr3_q23, LSr3_q24, LSr3_q25, LSr3_q26, LSr3_q27, LSr3_q28, LSr3_q29, LSr3_q30, LSr3_q31, LSr3_q32, LSr3_q33, LSr3_q34, LSr3_q35] at e5 ⊢
        simp only [e5, k0_some, k1_some, k2_some, k3_some, oN_some, oD_some, ratOf_rat, one_w]
        rfl
      have v0 := VF.of x0.k.fits; have v1 := VF.of x0.t.fits; have v2 := VF.of x0.v.fits; have v3 := VF.of x0.a.fits
      have l0 : VL 0 1 0 1 0 1 0 1 := ⟨by decide +kernel, by decide +kernel, by decide +kernel, by decide +kernel⟩
      unfold sumR
      rw [if_neg (by decide), hc]
      simp only [Int.reduceLE, Int.reduceLT, Nat.reduceLT, Int.reduceEq, Int.le_refl, ne_eq, not_false_eq_true, Int.reduceToNat, Nat.zero_lt_succ, and_self, true_and, and_true, LSr3_q6, LSr3_q7, LSr3_q8, LSr3_q9, LSr3_q19, LSr3_q20, LSr3_q21, LSr3_q22, LSr3_q32, LSr3_q33, LSr3_q34, LSr3_q35, e5, e18, k0_some, k1_some, k2_some, k3_some, oN_some, oD_some, oE_some, one_w, two_w, zero_ne, sat_need, sat_ite, sat_ret, reduceCtorEq, false_imp_iff, true_imp_iff, forall_const]
      refine ⟨⟨l0, x0.vl⟩, ⟨⟨v0, v1, v2, v3⟩, x1.vl⟩, ?_⟩
      cases ho : add2 (c 0) (c 1) with
      | none => simp [oE, k0, k1, k2, k3, oN, oD, addR]
      | some o =>
        obtain ⟨p, q, r, t⟩ := o
        obtain ⟨f0, f1, f2, f3⟩ := addO_fits ho
        have e31 : LSr3_q31 c = addR (some (p, q, r, t)) (c 2) := by
          simp only [LSr3_q31, LSr3_q23, LSr3_q24, LSr3_q25, LSr3_q26, LSr3_q27, LSr3_q28, LSr3_q29, LSr3_q30, LSr3_q19, LSr3_q20, LSr3_q21, LSr3_q22, e18, ho, k0_some, k1_some, k2_some, k3_some, oN_some, oD_some, ratOf_rat, two_w]
          rfl
        simp only [e31, oE_some, k0_some, k1_some, k2_some, k3_some, oN_some, oD_some, zero_ne, reduceCtorEq, false_imp_iff, true_imp_iff, forall_const, true_and]
        refine ⟨⟨⟨VF.of f0, VF.of f1, VF.of f2, VF.of f3⟩, x2.vl⟩, ?_⟩
        generalize addR (some (p, q, r, t)) (c 2) = o
        cases o with
        | none => simp [oE, k0, k1, k2, k3, oN, oD]
        | some o => simp [oE, k0, k1, k2, k3, oN, oD]
  · exact hh.elim

noncomputable def manK : FuncId → Option Ctr := fun k => match k with
  | 41 => some cMadeG
  | 116 => some cMakeG
  | 62 => some cSmlR
  | k => manI k
theorem manK_ok (k : Nat) (c : Ctr) (h : manK k = some c) : CtrOK Try.prog k c ∧ goodF Try.prog k = true := by
  unfold manK at h
  split at h
  · cases h; exact ⟨cMadeG_ok, by kernel_rfl⟩
  · cases h; exact ⟨cMakeG_ok, by kernel_rfl⟩
  · cases h; exact ⟨cSmlR_ok, by kernel_rfl⟩
  · exact manI_ok _ _ h
end Go.Proofs.Ytpaejfeojdoikaa

namespace Go.Proofs.Ytpaejfeojdoikaa
open Go.Sx
set_option maxRecDepth 100000

/-! ### Arguments that are numbers alone -/
def i64d (k : Int) : DV := .x (.int .i64 k)
def IntsOf (c : Nat) (ds : List DV) : Prop := ∃ ks : List Int, ks.length = c ∧ ds = ks.map i64d ∧ ∀ k ∈ ks, I64 k
theorem IntsOf.append {a b : Nat} {x y : List DV} (h : IntsOf a x) (k : IntsOf b y) : IntsOf (a + b) (x ++ y) := by
  obtain ⟨p, rfl, rfl, p3⟩ := h
  obtain ⟨q, rfl, rfl, q3⟩ := k
  exact ⟨p ++ q, by simp, by simp, fun k hk => (List.mem_append.1 hk).elim (p3 k) (q3 k)⟩
end Go.Proofs.Ytpaejfeojdoikaa

namespace Go.Proofs.Ytpaejfeojdoikaa
open Go.Sx
set_option maxRecDepth 100000

/-! ### Releases -/
def u64v (n : Int) : SV := .d (.x (.int .u64 n))
def rou64 (n : Nat) (c : Nat → Int) : SV := .d (.ro n 1 fun i _ => .x (.int .u64 (c i)))

noncomputable def inlR (k : Nat) : Bool := k == 122 || k == 147
noncomputable def CR : Ctx := ctxN Try.prog manK inlR 200 .nil 6
theorem CR_ok : CtxOK Try.prog CR := ctxN_ok mixed manK_ok 6
noncomputable def DR : Dr := fun _ => drawn Try.prog CR
theorem DR_ok : DrOK Try.prog CR DR := drawn_ok CR_ok mixed
noncomputable def TR (h : Hint) (k : Nat) (args : List SV) : Tree SV := fnT Try.prog CR DR 200 (fnOf Try.prog k) (bodyOf Try.prog k) args h

/-! the words of a digest -/
noncomputable def tWo (n : Nat) (c : Nat → Int) : Tree SV := TR .nil 100 [ro64 n c]
noncomputable def LWo (n : Nat) (c : Nat → Int) : Tree SV :=
  .code (codeC (sub [] (tWo n c))) (codeS (sub [] (tWo n c))) (codeK (sub [] (tWo n c)))

theorem LWo_eq (n : Nat) (c : Nat → Int) : tWo n c = LWo n c := by kernel_rfl

noncomputable def invWo (n : Nat) (c : Nat → Int) (k : Nat) (s : Int) (h : Hint) : AS := ⟨[.ok (ro64 n c), .unk, .unk, .ok (.ptr 0 0), .ok (.fn (.func 147) [.ptr 0 0] []), .unk, .unk, .unk, .ok (ro64 n c), .ok (iv n), .ok (iv k)] ++ List.replicate 16 .unk, [some (.cells [u64v s]), none], 2, h⟩
noncomputable def bodyWo : Code := loopN (bodyOf Try.prog 100) 0
noncomputable def BWo (n : Nat) (c : Nat → Int) (k : Nat) (s : Int) : Tree (Ex × AS) :=
  .ite (decide ((↑k : Int) < (↑n : Int)))
  (.need ((0 : Int) ≤ (↑k : Int) ∧ (↑k : Int) < (↑n : Int))
   (.need (true = true)
   (.need ((0 : Int) ≤ (0 : Int) ∧ (0 : Int) < (1 : Int))
   (.need (0 < 1)
   (.need ((0 : Int) ≤ (32 : Int))
   (.need (false = false)
   (.ret
   (.normal,
   {
   tm :=
   [.ok (SV.d (DV.ro n 1 fun i x => DV.x (.int .i64 (c i)))), .unk, .unk, .ok (SV.ptr 0 0), .ok (SV.fn (Fn.func 147) [SV.ptr 0 0] []),
   .unk, .unk, .unk, .ok (SV.d (DV.ro n 1 fun i x => DV.x (.int .i64 (c i)))), .ok (iv (↑n : Int)), .ok (iv (w64 ((↑k : Int) + (1 : Int)))), .unk, .unk, .unk, .unk, .unk,
   .unk, .unk, .unk, .unk, .unk, .unk, .unk, .unk, .unk, .unk, .unk],
   hp :=
   [some
   (.cells
   [SV.d
   (DV.x
   (.int .u64
   (IntKind.wrap .u64
   (IntKind.wrap .u64
   (↑(BitVec.toNat
   (BitVec.ofInt 64
   (IntKind.wrap .u64
   (IntKind.wrap .u64 (↑(BitVec.toNat (BitVec.ofInt 64 s ^^^ BitVec.ofInt 64 (IntKind.wrap .u64 (c (Int.toNat (↑k : Int)))))) : Int) *
   (15485907386658061715 : Int))) ^^^
   BitVec.ofInt 64
   (Int.fdiv
   (IntKind.wrap .u64
   (IntKind.wrap .u64 (↑(BitVec.toNat (BitVec.ofInt 64 s ^^^ BitVec.ofInt 64 (IntKind.wrap .u64 (c (Int.toNat (↑k : Int)))))) : Int) *
   (15485907386658061715 : Int)))
   (4294967296 : Int)))) :
   Int) *
   (11562461410679940143 : Int)))))]),
   none],
   next := 2, hint := .u (.t (.u (.f .nil))) }))))))))
  (.ret
   (.exit 0,
   {
   tm :=
   [.ok (SV.d (DV.ro n 1 fun i x => DV.x (.int .i64 (c i)))), .unk, .unk, .ok (SV.ptr 0 0), .ok (SV.fn (Fn.func 147) [SV.ptr 0 0] []), .unk, .unk,
   .unk, .ok (SV.d (DV.ro n 1 fun i x => DV.x (.int .i64 (c i)))), .ok (iv (↑n : Int)), .ok (iv (↑k : Int)), .unk, .unk, .unk, .unk, .unk, .unk, .unk, .unk, .unk, .unk, .unk,
   .unk, .unk, .unk, .unk, .unk],
   hp := [some (.cells [SV.d (DV.x (.int .u64 s))]), none], next := 2, hint := .u (.t (.u (.f .nil))) }))

theorem BWo_eq (n : Nat) (c : Nat → Int) (k : Nat) (s : Int) : cutT 2 [] [0, 3, 4, 8, 9, 10] [1] 2 (uN 1 .nil) (exec Try.prog CR DR 200 bodyWo (invWo n c k s (uN 1 .nil))) = BWo n c k s := by kernel_rfl

noncomputable def KWo (n : Nat) (c : Nat → Int) (k : Nat) (s : Int) : Tree SV :=
  .need (true = true)
  (.need ((0 : Int) ≤ (0 : Int) ∧ (0 : Int) < (1 : Int))
   (.need (0 < 1)
   (.need ((0 : Int) ≤ (32 : Int))
   (.need (false = false)
   (.ret
   (SV.d
   (DV.x
   (.int .u64
   (IntKind.wrap .u64
   (IntKind.wrap .u64
   (↑(BitVec.toNat
   (BitVec.ofInt 64
   (IntKind.wrap .u64
   (IntKind.wrap .u64 (↑(BitVec.toNat (BitVec.ofInt 64 s ^^^ BitVec.ofInt 64 (IntKind.wrap .u64 (↑n : Int)))) : Int) * (15485907386658061715 : Int))) ^^^
   BitVec.ofInt 64
   (Int.fdiv
   (IntKind.wrap .u64
   (IntKind.wrap .u64 (↑(BitVec.toNat (BitVec.ofInt 64 s ^^^ BitVec.ofInt 64 (IntKind.wrap .u64 (↑n : Int)))) : Int) * (15485907386658061715 : Int)))
   (4294967296 : Int)))) :
   Int) *
   (11562461410679940143 : Int)))))))))))

theorem KWo_eq (n : Nat) (c : Nat → Int) (k : Nat) (s : Int) : codeK (sub [] (tWo n c)) (.exit 0) (invWo n c k s (uN 1 .nil)) = KWo n c k s := by kernel_rfl


noncomputable def tWr (n : Nat) (c : Nat → Int) : Tree SV := TR .nil 175 [ro64 n c]
noncomputable def LWr (n : Nat) (c : Nat → Int) : Tree SV :=
  .code (codeC (sub [] (tWr n c))) (codeS (sub [] (tWr n c))) (codeK (sub [] (tWr n c)))

theorem LWr_eq (n : Nat) (c : Nat → Int) : tWr n c = LWr n c := by kernel_rfl

noncomputable def invWr (n : Nat) (c : Nat → Int) (k : Nat) (s : Int) : AS := ⟨[.ok (ro64 n c), .unk, .unk, .ok (u64v s), .ok (iv k)] ++ List.replicate 18 .unk, [], 0, .nil⟩
noncomputable def bodyWr : Code := loopN (bodyOf Try.prog 175) 0
noncomputable def BWr (n : Nat) (c : Nat → Int) (k : Nat) (s : Int) : Tree (Ex × AS) :=
  .ite (decide ((↑k : Int) < (↑n : Int)))
  (.need ((0 : Int) ≤ (↑k : Int) ∧ (↑k : Int) < (↑n : Int))
   (.need ((0 : Int) ≤ (32 : Int))
   (.ret
   (.normal,
   {
   tm :=
   [.ok (SV.d (DV.ro n 1 fun i x => DV.x (.int .i64 (c i)))), .unk, .unk,
   .ok
   (SV.d
   (DV.x
   (.int .u64
   (IntKind.wrap .u64
   (IntKind.wrap .u64
   (↑(BitVec.toNat
   (BitVec.ofInt 64
   (IntKind.wrap .u64
   (IntKind.wrap .u64 (↑(BitVec.toNat (BitVec.ofInt 64 s ^^^ BitVec.ofInt 64 (IntKind.wrap .u64 (c (Int.toNat (↑k : Int)))))) : Int) *
   (15485907386658061715 : Int))) ^^^
   BitVec.ofInt 64
   (Int.fdiv
   (IntKind.wrap .u64
   (IntKind.wrap .u64 (↑(BitVec.toNat (BitVec.ofInt 64 s ^^^ BitVec.ofInt 64 (IntKind.wrap .u64 (c (Int.toNat (↑k : Int)))))) : Int) * (15485907386658061715 : Int)))
   (4294967296 : Int)))) :
   Int) *
   (11562461410679940143 : Int)))))),
   .ok (iv (w64 ((↑k : Int) + (1 : Int)))), .unk, .unk, .unk, .unk, .unk, .unk, .unk, .unk, .unk, .unk, .unk, .unk, .unk, .unk, .unk, .unk, .unk, .unk],
   hp := [], next := 0, hint := .nil }))))
  (.ret
   (.exit 0,
   {
   tm :=
   [.ok (SV.d (DV.ro n 1 fun i x => DV.x (.int .i64 (c i)))), .unk, .unk, .ok (SV.d (DV.x (.int .u64 s))), .ok (iv (↑k : Int)), .unk, .unk, .unk, .unk, .unk, .unk, .unk,
   .unk, .unk, .unk, .unk, .unk, .unk, .unk, .unk, .unk, .unk, .unk],
   hp := [], next := 0, hint := .nil }))

theorem BWr_eq (n : Nat) (c : Nat → Int) (k : Nat) (s : Int) : cutT 0 [] [0, 3, 4] [] 0 .nil (exec Try.prog CR DR 200 bodyWr (invWr n c k s)) = BWr n c k s := by kernel_rfl

noncomputable def KWr (n : Nat) (c : Nat → Int) (k : Nat) (s : Int) : Tree SV :=
  .need ((0 : Int) ≤ (32 : Int))
  (.ret
   (SV.d
   (DV.x
   (.int .u64
   (IntKind.wrap .u64
   (IntKind.wrap .u64
   (↑(BitVec.toNat
   (BitVec.ofInt 64
   (IntKind.wrap .u64 (IntKind.wrap .u64 (↑(BitVec.toNat (BitVec.ofInt 64 s ^^^ BitVec.ofInt 64 (IntKind.wrap .u64 (↑n : Int)))) : Int) * (15485907386658061715 : Int))) ^^^
   BitVec.ofInt 64
   (Int.fdiv
   (IntKind.wrap .u64 (IntKind.wrap .u64 (↑(BitVec.toNat (BitVec.ofInt 64 s ^^^ BitVec.ofInt 64 (IntKind.wrap .u64 (↑n : Int)))) : Int) * (15485907386658061715 : Int)))
   (4294967296 : Int)))) :
   Int) *
   (11562461410679940143 : Int)))))))

theorem KWr_eq (n : Nat) (c : Nat → Int) (k : Nat) (s : Int) : codeK (sub [] (tWr n c)) (.exit 0) (invWr n c k s) = KWr n c k s := by kernel_rfl


end Go.Proofs.Ytpaejfeojdoikaa

namespace Go.Proofs.Ytpaejfeojdoikaa
open Go.Sx
set_option maxRecDepth 100000

/-! ### Digests of lists of numbers -/
/-- The step from a digest by a word. -/
def stp (s w : Int) : Int :=
  IntKind.wrap .u64 (IntKind.wrap .u64 ((BitVec.toNat (BitVec.ofInt 64 (IntKind.wrap .u64 (IntKind.wrap .u64 ((BitVec.toNat (BitVec.ofInt 64 s ^^^ BitVec.ofInt 64 w) : Nat) : Int) * 15485907386658061715)) ^^^
    BitVec.ofInt 64 (Int.fdiv (IntKind.wrap .u64 (IntKind.wrap .u64 ((BitVec.toNat (BitVec.ofInt 64 s ^^^ BitVec.ofInt 64 w) : Nat) : Int) * 15485907386658061715)) 4294967296)) : Nat) : Int) * 11562461410679940143)
def wU (n : Int) : Int := IntKind.wrap .u64 n
/-- The digest at work after some numbers. -/
def dgF (c : Nat → Int) : Nat → Int
  | 0 => 512970876019
  | k + 1 => stp (dgF c k) (wU (c k))
/-- The digest of a list of numbers. -/
def dgW (n : Nat) (c : Nat → Int) : Int := stp (dgF c n) (wU n)
theorem dgF_congr {c d : Nat → Int} : ∀ {n : Nat}, (∀ i, i < n → c i = d i) → dgF c n = dgF d n
  | 0, _ => rfl
  | n + 1, h => by
    show stp (dgF c n) (wU (c n)) = stp (dgF d n) (wU (d n))
    rw [dgF_congr (fun i hi => h i (by omega)), h n (by omega)]
theorem dgW_congr {n : Nat} {c d : Nat → Int} (h : ∀ i, i < n → c i = d i) : dgW n c = dgW n d := by unfold dgW; rw [dgF_congr h]

theorem wo_sat {n : Nat} {c : Nat → Int} (hn : n ≤ 9223372036854775807) : Sat Try.prog (tWo n c) (· = u64v (dgW n c)) := by
  constructor
  rw [LWo_eq]; unfold LWo
  refine code_satS CR_ok DR_ok (n := 200) (n0 := 2) (nx := 2) (roots := []) (keep := [0, 3, 4, 8, 9, 10]) (drop := [1]) (h := uN 1 .nil) (c := codeC (sub [] (tWo n c))) (st := codeS (sub [] (tWo n c))) (k := codeK (sub [] (tWo n c))) (body := bodyWo) (by kernel_rfl) (by kernel_rfl)
    (fun q s => ∃ k : Nat, q = n - k ∧ k ≤ n ∧ s = invWo n c k (dgF c k) (uN 1 .nil))
    (fun e s => e = .exit 0 ∧ s = invWo n c n (dgF c n) (uN 1 .nil))
    ⟨_, _, ⟨0, rfl, by omega, rfl⟩, ?_⟩ ?_ ?_
  · exact entA_sound (roots := []) (keep := [0, 3, 4, 8, 9, 10]) (drop := [1]) (nx := 2) (h := uN 1 .nil) (by kernel_rfl)
  · rintro q s ⟨k, rfl, hk, rfl⟩
    refine Sat.of_eq (BWo_eq n c k _) ?_
    constructor
    unfold BWo
    refine ⟨fun hc => ?_, fun hc => ?_⟩
    · have hc : k < n := by simp only [decide_eq_true_eq] at hc; omega
      refine ⟨by omega, rfl, by decide, by decide, by decide, rfl, n - (k + 1), _, by omega, ⟨k + 1, rfl, by omega, rfl⟩, ?_⟩
      rw [w64_of (n := (k : Int) + 1) (by omega) (by omega), Int.toNat_natCast]
      exact Gc.refl _ _
    · have hc : k = n := by simp only [decide_eq_false_iff_not] at hc; omega
      subst hc
      exact ⟨_, ⟨rfl, rfl⟩, Gc.refl _ _⟩
  · rintro e s ⟨rfl, rfl⟩
    refine Sat.of_eq (KWo_eq n c n _) ⟨?_⟩
    exact ⟨rfl, by decide, by decide, by decide, rfl, rfl⟩

theorem wr_sat {n : Nat} {c : Nat → Int} (hn : n ≤ 9223372036854775807) : Sat Try.prog (tWr n c) (· = u64v (dgW n c)) := by
  constructor
  rw [LWr_eq]; unfold LWr
  refine code_satS CR_ok DR_ok (n := 200) (n0 := 0) (nx := 0) (roots := []) (keep := [0, 3, 4]) (drop := []) (h := .nil) (c := codeC (sub [] (tWr n c))) (st := codeS (sub [] (tWr n c))) (k := codeK (sub [] (tWr n c))) (body := bodyWr) (by kernel_rfl) (by kernel_rfl)
    (fun q s => ∃ k : Nat, q = n - k ∧ k ≤ n ∧ s = invWr n c k (dgF c k))
    (fun e s => e = .exit 0 ∧ s = invWr n c n (dgF c n))
    ⟨_, _, ⟨0, rfl, by omega, rfl⟩, ?_⟩ ?_ ?_
  · exact entA_sound (roots := []) (keep := [0, 3, 4]) (drop := []) (nx := 0) (h := .nil) (by kernel_rfl)
  · rintro q s ⟨k, rfl, hk, rfl⟩
    refine Sat.of_eq (BWr_eq n c k _) ?_
    constructor
    unfold BWr
    refine ⟨fun hc => ?_, fun hc => ?_⟩
    · have hc : k < n := by simp only [decide_eq_true_eq] at hc; omega
      refine ⟨by omega, by decide, n - (k + 1), _, by omega, ⟨k + 1, rfl, by omega, rfl⟩, ?_⟩
      rw [w64_of (n := (k : Int) + 1) (by omega) (by omega), Int.toNat_natCast]
      exact Gc.refl _ _
    · have hc : k = n := by simp only [decide_eq_false_iff_not] at hc; omega
      subst hc
      exact ⟨_, ⟨rfl, rfl⟩, Gc.refl _ _⟩
  · rintro e s ⟨rfl, rfl⟩
    refine Sat.of_eq (KWr_eq n c n _) ⟨?_⟩
    exact ⟨by decide, rfl⟩

/-! Rows: an empty one may be nil. -/
def rowD (esz : Nat) : DV → Option (Nat × (Nat → Nat → DV))
  | .ro n e c => if e = esz then some (n, c) else none
  | .x (.slice none 0 0) => some (0, fun _ _ => .x undef)
  | _ => none
theorem rowD_cases {esz n : Nat} {d : DV} {c : Nat → Nat → DV} (h : rowD esz d = some (n, c)) : d = .ro n esz c ∨ (d = .x (.slice none 0 0) ∧ n = 0) := by
  unfold rowD at h
  split at h
  · split at h
    · rename_i he
      simp only [Option.some.injEq, Prod.mk.injEq] at h
      obtain ⟨rfl, rfl⟩ := h
      subst he; exact .inl rfl
    · cases h
  · simp only [Option.some.injEq, Prod.mk.injEq] at h
    exact .inr ⟨rfl, h.1.symm⟩
  · cases h
theorem rowD_le {esz n : Nat} {d : DV} {c c' : Nat → Nat → DV} (h : rowD esz d = some (n, c)) (hc : ∀ i j, i < n → j < esz → c i j = c' i j) : leD d (.ro n esz c') := by
  rcases rowD_cases h with rfl | ⟨rfl, rfl⟩
  · exact ⟨rfl, rfl, hc⟩
  · exact ⟨rfl, rfl⟩

def I64C (n : Nat) (cell : Nat → Nat → DV) : Prop := n ≤ 9223372036854775807 ∧ ∀ i, i < n → cell i 0 = .x (.int .i64 (intCell cell i))
noncomputable def cWords : Ctr := fun ss => match ss with
  | [.d d] => match rowD 1 d with
    | some (n, cell) => .need (I64C n cell) (.ret (u64v (dgW n (intCell cell))))
    | none => .fail
  | _ => .fail
theorem I64C.le {n : Nat} {d : DV} {cell : Nat → Nat → DV} (h : rowD 1 d = some (n, cell)) (k : I64C n cell) : leSVs 0 [] [] [.d d] [ro64 n (intCell cell)] := by
  simp only [leSVs, leSV, ro64, and_true]
  exact rowD_le h fun i j hi hj => by
    obtain rfl : j = 0 := by omega
    exact k.2 i hi
theorem cWords_ok : CtrOK Try.prog 100 cWords := by
  refine ctrOK_leS CR_ok DR_ok (by kernel_rfl) (by kernel_rfl) fun ss r h => ?_
  unfold cWords at h
  split at h
  · split at h
    · rename_i n cell hr
      obtain ⟨h1, rfl⟩ := h
      exact ⟨[ro64 n (intCell cell)], 200, .nil, h1.le hr, wo_sat h1.1⟩
    · exact h.elim
  · exact h.elim
theorem cWordsR_ok : CtrOK Try.prog 175 cWords := by
  refine ctrOK_leS CR_ok DR_ok (by kernel_rfl) (by kernel_rfl) fun ss r h => ?_
  unfold cWords at h
  split at h
  · split at h
    · rename_i n cell hr
      obtain ⟨h1, rfl⟩ := h
      exact ⟨[ro64 n (intCell cell)], 200, .nil, h1.le hr, wr_sat h1.1⟩
    · exact h.elim
  · exact h.elim

end Go.Proofs.Ytpaejfeojdoikaa

namespace Go.Proofs.Ytpaejfeojdoikaa
open Go.Sx
set_option maxRecDepth 100000

/-- A release. -/
structure Rel where
  no : Int
  prev : Int
  src : Int
  cir : Int
  fn : Nat
  fc : Nat → Int
  b0 : Int
  b1 : Int
  b2 : Int
  b3 : Int
  b4 : Int
  b5 : Int
  b6 : Int
  b7 : Int
  b8 : Int
  b9 : Int
  b10 : Int
  b11 : Int
  pn : Int
  pd : Int
  tag : Int
def u64d (n : Int) : DV := .x (.int .u64 n)
/-- The cells of a release. -/
def relD (r : Rel) : Nat → DV
  | 0 => i64d r.no
  | 1 => u64d r.prev
  | 2 => u64d r.src
  | 3 => u64d r.cir
  | 4 => .ro r.fn 1 fun i _ => .x (.int .u64 (r.fc i))
  | 5 => i64d r.b0
  | 6 => i64d r.b1
  | 7 => i64d r.b2
  | 8 => i64d r.b3
  | 9 => i64d r.b4
  | 10 => i64d r.b5
  | 11 => i64d r.b6
  | 12 => i64d r.b7
  | 13 => i64d r.b8
  | 14 => i64d r.b9
  | 15 => i64d r.b10
  | 16 => i64d r.b11
  | 17 => i64d r.pn
  | 18 => i64d r.pd
  | 19 => u64d r.tag
  | _ => .x undef
def relB (r : Rel) : List Int := [r.b0, r.b1, r.b2, r.b3, r.b4, r.b5, r.b6, r.b7, r.b8, r.b9, r.b10, r.b11]
def relL (r : Rel) : List SV := [iv r.no, u64v r.prev, u64v r.src, u64v r.cir, rou64 r.fn r.fc, iv r.b0, iv r.b1, iv r.b2, iv r.b3, iv r.b4, iv r.b5, iv r.b6, iv r.b7, iv r.b8, iv r.b9, iv r.b10, iv r.b11, iv r.pn, iv r.pd, u64v r.tag]
def int1 (k : IntKind) : SV → Option Int
  | .d (.x (.int k' n)) => if k = k' then some n else none
  | _ => none
theorem int1_eq {k : IntKind} {s : SV} {n : Int} (h : int1 k s = some n) : s = .d (.x (.int k n)) := by
  unfold int1 at h
  split at h
  · split at h
    · rename_i hk; subst hk; simp only [Option.some.injEq] at h; subst h; rfl
    · cases h
  · cases h
def U64C (n : Nat) (cell : Nat → Nat → DV) : Prop := n ≤ 1000000 ∧ ∀ i, i < n → cell i 0 = u64d (intCell cell i)
/-- What release the cells tell. -/
noncomputable def relOf : List SV → Option (Rel × Prop)
  | [a0, a1, a2, a3, .d f, c0, c1, c2, c3, c4, c5, c6, c7, c8, c9, c10, c11, pn, pd, tag] =>
    (int1 .i64 a0).bind fun no => (int1 .u64 a1).bind fun prev => (int1 .u64 a2).bind fun src => (int1 .u64 a3).bind fun cir => (rowD 1 f).bind fun fr => match fr with
    | (n, cell) =>
    (int1 .i64 c0).bind fun b0 => (int1 .i64 c1).bind fun b1 => (int1 .i64 c2).bind fun b2 => (int1 .i64 c3).bind fun b3 => (int1 .i64 c4).bind fun b4 => (int1 .i64 c5).bind fun b5 => (int1 .i64 c6).bind fun b6 => (int1 .i64 c7).bind fun b7 => (int1 .i64 c8).bind fun b8 => (int1 .i64 c9).bind fun b9 => (int1 .i64 c10).bind fun b10 => (int1 .i64 c11).bind fun b11 =>
    (int1 .i64 pn).bind fun pn => (int1 .i64 pd).bind fun pd => (int1 .u64 tag).bind fun tag =>
    some (⟨no, prev, src, cir, n, intCell cell, b0, b1, b2, b3, b4, b5, b6, b7, b8, b9, b10, b11, pn, pd, tag⟩, U64C n cell)
  | _ => none
theorem relOf_le {l : List SV} {r : Rel} {p : Prop} (h : relOf l = some (r, p)) (hp : p) : leSVs 0 [] [] l (relL r) ∧ r.fn ≤ 1000000 := by
  unfold relOf at h
  split at h
  · simp only [Option.bind_eq_some_iff] at h
    obtain ⟨no, e0, prev, e1, src, e2, cir, e3, ⟨n, cell⟩, ef, b0, g0, b1, g1, b2, g2, b3, g3, b4, g4, b5, g5, b6, g6, b7, g7, b8, g8, b9, g9, b10, g10, b11, g11, pn, e4, pd, e5, tag, e6, h⟩ := h
    simp only [Option.some.injEq, Prod.mk.injEq] at h
    obtain ⟨rfl, rfl⟩ := h
    rw [int1_eq e0, int1_eq e1, int1_eq e2, int1_eq e3, int1_eq e4, int1_eq e5, int1_eq e6, int1_eq g0, int1_eq g1, int1_eq g2, int1_eq g3, int1_eq g4, int1_eq g5, int1_eq g6, int1_eq g7, int1_eq g8, int1_eq g9, int1_eq g10, int1_eq g11]
    refine ⟨?_, hp.1⟩
    have hf : leD _ (.ro n 1 fun i _ => .x (.int .u64 (intCell cell i))) := rowD_le ef fun i j hi hj => by
      obtain rfl : j = 0 := by omega
      exact hp.2 i hi
    simp only [relL, leSVs, leSV, iv, u64v, rou64, hf, true_and, and_true]
    simp [leD]
  · cases h

noncomputable def manL : FuncId → Option Ctr := fun k => match k with
  | 100 => some cWords
  | 175 => some cWords
  | k => manK k
theorem manL_ok (k : Nat) (c : Ctr) (h : manL k = some c) : CtrOK Try.prog k c ∧ goodF Try.prog k = true := by
  unfold manL at h
  split at h
  · cases h; exact ⟨cWords_ok, by kernel_rfl⟩
  · cases h; exact ⟨cWordsR_ok, by kernel_rfl⟩
  · exact manK_ok _ _ h
noncomputable def CL0 : Ctx := ctxN Try.prog manL (fun k => k == 122) 200 .nil 6
theorem CL0_ok : CtxOK Try.prog CL0 := ctxN_ok mixed manL_ok 6
noncomputable def DL0 : Dr := fun _ => drawn Try.prog CL0
theorem DL0_ok : DrOK Try.prog CL0 DL0 := drawn_ok CL0_ok mixed
/-- The two numbers of a fraction, as a list. -/
noncomputable def tFo (a b : Int) : Tree (Nat × Nat × (Nat → Nat → DV)) := fnOT Try.prog CL0 DL0 200 (fnOf Try.prog 156) (bodyOf Try.prog 156) [.agg [iv a, iv b]] .nil
noncomputable def LFo (a b : Int) : Tree (Nat × Nat × (Nat → Nat → DV)) :=
  .need (2 ≤ List.length [iv a, iv b]) (.ret (2, 1, fun i j => dsAt [DV.x (.int .i64 a), DV.x (.int .i64 b)] (0 + (0 + i) * 1 + j)))

theorem LFo_eq (a b : Int) : tFo a b = LFo a b := by kernel_rfl

noncomputable def oFrac : Octr := fun ss => match ss with
  | [.agg [.d (.x (.int .i64 a)), .d (.x (.int .i64 b))]] => .ret (2, 1, fun i j => dsAt [i64d a, i64d b] (0 + (0 + i) * 1 + j))
  | _ => .fail
theorem oFrac_ok : OwnOK Try.prog 156 oFrac := by
  refine ownOK_leS CL0_ok DL0_ok (by kernel_rfl) (by kernel_rfl) fun ss n esz cell h => ?_
  unfold oFrac at h
  split at h
  · rename_i a b
    simp only [Tr.ev, Prod.mk.injEq] at h
    obtain ⟨rfl, rfl, rfl⟩ := h
    refine ⟨[.agg [iv a, iv b]], 200, .nil, by simp [leSVs, leSV, iv, leD], Sat.of_eq (LFo_eq a b) ⟨?_⟩⟩
    unfold LFo
    exact ⟨len2 _ _, rfl, rfl, fun _ _ _ _ => rfl⟩
  · exact h.elim
noncomputable def ownL : FuncId → Option Octr := fun k => match k with
  | 156 => some oFrac
  | _ => none
theorem ownL_ok (k : Nat) (c : Octr) (h : ownL k = some c) : OwnOK Try.prog k c ∧ goodF Try.prog k = true := by
  unfold ownL at h
  split at h
  · cases h; exact ⟨oFrac_ok, by kernel_rfl⟩
  · cases h
noncomputable def CL : Ctx := ctxO Try.prog manL ownL (fun k => k == 122) 200 .nil 6
theorem CL_ok : CtxOK Try.prog CL := ctxO_ok mixed manL_ok ownL_ok 6
noncomputable def DL : Dr := fun _ => drawn Try.prog CL
theorem DL_ok : DrOK Try.prog CL DL := drawn_ok CL_ok mixed
noncomputable def TL (h : Hint) (k : Nat) (args : List SV) : Tree SV := fnT Try.prog CL DL 200 (fnOf Try.prog k) (bodyOf Try.prog k) args h

/-! of -/
noncomputable def tOf (r : Rel) : Tree SV := TL .nil 105 [.agg (relL r)]
noncomputable def LOf (r : Rel) : Tree SV :=
  .need (True ∧ 5 ≤ List.length [iv (Rel.no r), iv (w64 (Rel.prev r)), iv (w64 (Rel.src r)), iv (w64 (Rel.cir r)), iv (↑(Rel.fn r) : Int)] ∧ 40 ≤ 140737488355328)
  (.code (codeC (sub [(0 : Nat)] (tOf r))) (codeS (sub [(0 : Nat)] (tOf r))) (codeK (sub [(0 : Nat)] (tOf r))))

theorem LOf_eq (r : Rel) : tOf r = LOf r := by kernel_rfl

noncomputable def invOf (r : Rel) (k : Nat) (c : Nat → Int) : AS :=
  ⟨[.unk, .ok (.ptr 0 0), .unk, .ok (.ptr 1 0), .ok (.fn (.func 122) [.ptr 1 0] [])] ++ List.replicate 23 .unk ++ [.ok (rou64 r.fn r.fc), .ok (iv r.fn), .ok (iv k)] ++ List.replicate 50 .unk,
   [some (.cells (relL r)), some (.cells [.row 5 0 0 (5 + k) 1]), none, none, none, some (.row (5 + k) 1 fun i _ => .x (.int .i64 (c i)))], 6, uN 3 .nil⟩
noncomputable def bodyOf' : Code := loopN (bodyOf Try.prog 105) 0
noncomputable def rtOf : List (Root × Nat) := [(.cell (.base 1) 0, 5)]
noncomputable def BOf (r : Rel) (k : Nat) (c : Nat → Int) : Tree (Ex × AS) :=
  .ite (decide ((↑k : Int) < (↑(Rel.fn r) : Int)))
  (.need ((0 : Int) ≤ (↑k : Int) ∧ (↑k : Int) < (↑(Rel.fn r) : Int))
   (.need (0 + (5 + k) ≤ 5 + k ∧ 1 ≤ List.length [iv (w64 (Rel.fc r (Int.toNat (↑k : Int))))] ∧ (5 + k + 1) * 8 ≤ 140737488355328)
   (.ret
   (.normal,
   {
   tm :=
   [.unk, .ok (SV.ptr 0 0), .unk, .ok (SV.ptr 1 0), .ok (SV.fn (Fn.func 122) [SV.ptr 1 0] []), .unk, .unk, .unk, .unk, .unk, .unk,
   .unk, .unk, .unk, .unk, .unk, .unk, .unk, .unk, .unk, .unk, .unk, .unk, .unk, .unk, .unk, .unk, .unk,
   .ok (SV.d (DV.ro (Rel.fn r) 1 fun i x => DV.x (.int .u64 (Rel.fc r i)))), .ok (iv (↑(Rel.fn r) : Int)), .ok (iv (w64 ((↑k : Int) + (1 : Int)))), .unk, .unk, .unk, .unk, .unk, .unk,
   .unk, .unk, .unk, .unk, .unk, .unk, .unk, .unk, .unk, .unk, .unk, .unk, .unk, .unk, .unk, .unk, .unk, .unk, .unk, .unk, .unk, .unk, .unk, .unk, .unk, .unk, .unk, .unk,
   .unk, .unk, .unk, .unk, .unk, .unk, .unk, .unk, .unk, .unk, .unk, .unk, .unk, .unk, .unk, .unk],
   hp :=
   [some
   (.cells
   [iv (Rel.no r), SV.d (DV.x (.int .u64 (Rel.prev r))), SV.d (DV.x (.int .u64 (Rel.src r))), SV.d (DV.x (.int .u64 (Rel.cir r))),
   SV.d (DV.ro (Rel.fn r) 1 fun i x => DV.x (.int .u64 (Rel.fc r i))), iv (Rel.b0 r), iv (Rel.b1 r), iv (Rel.b2 r), iv (Rel.b3 r), iv (Rel.b4 r), iv (Rel.b5 r), iv (Rel.b6 r), iv (Rel.b7 r),
   iv (Rel.b8 r), iv (Rel.b9 r), iv (Rel.b10 r), iv (Rel.b11 r), iv (Rel.pn r), iv (Rel.pd r), SV.d (DV.x (.int .u64 (Rel.tag r)))]),
   some (.cells [SV.row 5 0 0 (5 + k + 1) 1]), none, none, none,
   some
   (.row (5 + k + 1) 1 fun a b =>
   selD (decide (a < 5 + k)) (DV.x (.int .i64 (c ((0 : Nat) + a))))
   (dsAt [DV.x (.int .i64 (w64 (Rel.fc r (Int.toNat (↑k : Int)))))] (0 + (0 + (a - (5 + k))) * 1 + b)))],
   next := 6, hint := .u (.t (.u (.t (.u (.t (.u (.f .nil))))))) }))))
  (.ret
   (.exit 0,
   {
   tm :=
   [.unk, .ok (SV.ptr 0 0), .unk, .ok (SV.ptr 1 0), .ok (SV.fn (Fn.func 122) [SV.ptr 1 0] []), .unk, .unk, .unk, .unk, .unk, .unk, .unk,
   .unk, .unk, .unk, .unk, .unk, .unk, .unk, .unk, .unk, .unk, .unk, .unk, .unk, .unk, .unk, .unk, .ok (SV.d (DV.ro (Rel.fn r) 1 fun i x => DV.x (.int .u64 (Rel.fc r i)))),
   .ok (iv (↑(Rel.fn r) : Int)), .ok (iv (↑k : Int)), .unk, .unk, .unk, .unk, .unk, .unk, .unk, .unk, .unk, .unk, .unk, .unk, .unk, .unk, .unk, .unk, .unk, .unk, .unk, .unk, .unk,
   .unk, .unk, .unk, .unk, .unk, .unk, .unk, .unk, .unk, .unk, .unk, .unk, .unk, .unk, .unk, .unk, .unk, .unk, .unk, .unk, .unk, .unk, .unk, .unk, .unk, .unk, .unk, .unk,
   .unk],
   hp :=
   [some
   (.cells
   [iv (Rel.no r), SV.d (DV.x (.int .u64 (Rel.prev r))), SV.d (DV.x (.int .u64 (Rel.src r))), SV.d (DV.x (.int .u64 (Rel.cir r))),
   SV.d (DV.ro (Rel.fn r) 1 fun i x => DV.x (.int .u64 (Rel.fc r i))), iv (Rel.b0 r), iv (Rel.b1 r), iv (Rel.b2 r), iv (Rel.b3 r), iv (Rel.b4 r), iv (Rel.b5 r), iv (Rel.b6 r), iv (Rel.b7 r),
   iv (Rel.b8 r), iv (Rel.b9 r), iv (Rel.b10 r), iv (Rel.b11 r), iv (Rel.pn r), iv (Rel.pd r), SV.d (DV.x (.int .u64 (Rel.tag r)))]),
   some (.cells [SV.row 5 0 0 (5 + k) 1]), none, none, none, some (.row (5 + k) 1 fun i x => DV.x (.int .i64 (c i)))],
   next := 6, hint := .u (.t (.u (.t (.u (.t (.u (.f .nil))))))) }))

theorem BOf_eq (r : Rel) (k : Nat) (c : Nat → Int) : cutT 5 rtOf [1, 3, 4, 28, 29, 30] [2, 4] 6 (uN 3 .nil) (exec Try.prog CL DL 200 bodyOf' (invOf r k c)) = BOf r k c := by kernel_rfl

noncomputable def KOf (r : Rel) (k : Nat) (c : Nat → Int) : Tree SV :=
  .need (true = true)
  (.need ((0 : Int) ≤ (0 : Int) ∧ (0 : Int) < (3 : Int))
   (.need (0 < 3)
   (.need (0 + (5 + k) ≤ 5 + k ∧ 4 ≤ List.length [iv (Rel.b0 r), iv (Rel.b1 r), iv (Rel.b2 r), iv (Rel.b3 r)] ∧ (5 + k + 4) * 8 ≤ 140737488355328)
   (.need (true = true)
   (.need ((0 : Int) ≤ (1 : Int) ∧ (1 : Int) < (3 : Int))
   (.need (1 < 3)
   (.need
   (0 + (5 + k + 4) ≤ 5 + k + 4 ∧
   4 ≤ List.length [iv (Rel.b4 r), iv (Rel.b5 r), iv (Rel.b6 r), iv (Rel.b7 r)] ∧ (5 + k + 4 + 4) * 8 ≤ 140737488355328)
   (.need (true = true)
   (.need ((0 : Int) ≤ (2 : Int) ∧ (2 : Int) < (3 : Int))
   (.need (2 < 3)
   (.need
   (0 + (5 + k + 4 + 4) ≤ 5 + k + 4 + 4 ∧
   4 ≤ List.length [iv (Rel.b8 r), iv (Rel.b9 r), iv (Rel.b10 r), iv (Rel.b11 r)] ∧ (5 + k + 4 + 4 + 4) * 8 ≤ 140737488355328)
   (.need (false = false)
   (.need
   (0 + (5 + k + 4 + 4 + 4) ≤ 5 + k + 4 + 4 + 4 ∧
   2 ≤ List.length [iv (Rel.pn r), iv (Rel.pd r)] ∧ (5 + k + 4 + 4 + 4 + 2) * 8 ≤ 140737488355328)
   (.need (0 + (5 + k + 4 + 4 + 4 + 2) ≤ 5 + k + 4 + 4 + 4 + 2)
   (.ret
   (SV.d
   (DV.ro (5 + k + 4 + 4 + 4 + 2) 1 fun i j =>
   selD (decide (0 + i < 5 + k + 4 + 4 + 4))
   (selD (decide (0 + (0 + i) < 5 + k + 4 + 4))
   (selD (decide (0 + (0 + (0 + i)) < 5 + k + 4))
   (selD (decide (0 + (0 + (0 + (0 + i))) < 5 + k)) (DV.x (.int .i64 (c ((0 : Nat) + ((0 : Nat) + ((0 : Nat) + ((0 : Nat) + ((0 : Nat) + i))))))))
   (dsAt [DV.x (.int .i64 (Rel.b0 r)), DV.x (.int .i64 (Rel.b1 r)), DV.x (.int .i64 (Rel.b2 r)), DV.x (.int .i64 (Rel.b3 r))]
   (0 + (0 + (0 + (0 + (0 + (0 + i))) - (5 + k))) * 1 + j)))
   (dsAt [DV.x (.int .i64 (Rel.b4 r)), DV.x (.int .i64 (Rel.b5 r)), DV.x (.int .i64 (Rel.b6 r)), DV.x (.int .i64 (Rel.b7 r))]
   (0 + (0 + (0 + (0 + (0 + i)) - (5 + k + 4))) * 1 + j)))
   (dsAt [DV.x (.int .i64 (Rel.b8 r)), DV.x (.int .i64 (Rel.b9 r)), DV.x (.int .i64 (Rel.b10 r)), DV.x (.int .i64 (Rel.b11 r))]
   (0 + (0 + (0 + (0 + i) - (5 + k + 4 + 4))) * 1 + j)))
   (dsAt [DV.x (.int .i64 (Rel.pn r)), DV.x (.int .i64 (Rel.pd r))]
   (0 + (0 + (0 + i - (5 + k + 4 + 4 + 4))) * 1 + j)))))))))))))))))))

theorem KOf_eq (r : Rel) (k : Nat) (c : Nat → Int) : codeK (sub [0] (tOf r)) (.exit 0) (invOf r k c) = KOf r k c := by kernel_rfl

noncomputable def entOf (r : Rel) : AS :=
  ⟨[.unk, .ok (.ptr 0 0), .unk, .ok (.ptr 1 0), .ok (.fn (.func 122) [.ptr 1 0] [])] ++ List.replicate 23 .unk ++ [.ok (rou64 r.fn r.fc), .ok (iv r.fn), .ok (iv 0)] ++ List.replicate 50 .unk,
   [some (.cells (relL r)), some (.cells [.row 5 0 0 5 1]), none, none, none, some (.row 5 1 fun a b => bif decide (a < 0) then .x undef else dsAt [i64d r.no, i64d (w64 r.prev), i64d (w64 r.src), i64d (w64 r.cir), i64d r.fn] (0 + (0 + (a - 0)) * 1 + b))], 6, uN 3 .nil⟩
theorem EOf_eq (r : Rel) : entA 5 rtOf [1, 3, 4, 28, 29, 30] [2, 4] 6 (uN 3 .nil) (sub [0] (tOf r)) = some (entOf r) := by kernel_rfl

/-! Numbers -/
noncomputable def tNu (r : Rel) : Tree SV := TL .nil 108 [.agg (relL r)]
noncomputable def LNu (r : Rel) : Tree SV :=
  .code (codeC (sub [] (tNu r))) (codeS (sub [] (tNu r))) (codeK (sub [] (tNu r)))

theorem LNu_eq (r : Rel) : tNu r = LNu r := by kernel_rfl

noncomputable def invNu (r : Rel) (k : Nat) (c : Nat → Int) : AS :=
  ⟨[.unk, .ok (.ptr 0 0), .unk, .ok (.row 2 0 0 (5 + k) 1), .ok (iv k)] ++ List.replicate 52 .unk,
   [some (.cells (relL r)), none, some (.row (5 + k) 1 fun i _ => .x (.int .i64 (c i)))], 3, .nil⟩
noncomputable def bodyNu : Code := loopN (bodyOf Try.prog 108) 0
noncomputable def rtNu : List (Root × Nat) := [(.slot 3, 2)]
noncomputable def BNu (r : Rel) (k : Nat) (c : Nat → Int) : Tree (Ex × AS) :=
  .ite (decide ((↑k : Int) < (↑(Rel.fn r) : Int)))
  (.need ((0 : Int) ≤ (↑k : Int) ∧ (↑k : Int) < (↑(Rel.fn r) : Int))
   (.need (0 + (5 + k) ≤ 5 + k ∧ 1 ≤ List.length [iv (w64 (Rel.fc r (Int.toNat (↑k : Int))))] ∧ (5 + k + 1) * 8 ≤ 140737488355328)
   (.ret
   (.normal,
   {
   tm :=
   [.unk, .ok (SV.ptr 0 0), .unk, .ok (SV.row 2 0 0 (5 + k + 1) 1), .ok (iv (w64 ((↑k : Int) + (1 : Int)))), .unk, .unk, .unk, .unk,
   .unk, .unk, .unk, .unk, .unk, .unk, .unk, .unk, .unk, .unk, .unk, .unk, .unk, .unk, .unk, .unk, .unk, .unk, .unk, .unk, .unk, .unk, .unk, .unk, .unk, .unk, .unk, .unk,
   .unk, .unk, .unk, .unk, .unk, .unk, .unk, .unk, .unk, .unk, .unk, .unk, .unk, .unk, .unk, .unk, .unk, .unk, .unk, .unk],
   hp :=
   [some
   (.cells
   [iv (Rel.no r), SV.d (DV.x (.int .u64 (Rel.prev r))), SV.d (DV.x (.int .u64 (Rel.src r))), SV.d (DV.x (.int .u64 (Rel.cir r))),
   SV.d (DV.ro (Rel.fn r) 1 fun i x => DV.x (.int .u64 (Rel.fc r i))), iv (Rel.b0 r), iv (Rel.b1 r), iv (Rel.b2 r), iv (Rel.b3 r), iv (Rel.b4 r), iv (Rel.b5 r), iv (Rel.b6 r), iv (Rel.b7 r),
   iv (Rel.b8 r), iv (Rel.b9 r), iv (Rel.b10 r), iv (Rel.b11 r), iv (Rel.pn r), iv (Rel.pd r), SV.d (DV.x (.int .u64 (Rel.tag r)))]),
   none,
   some
   (.row (5 + k + 1) 1 fun a b =>
   selD (decide (a < 5 + k)) (DV.x (.int .i64 (c ((0 : Nat) + a))))
   (dsAt [DV.x (.int .i64 (w64 (Rel.fc r (Int.toNat (↑k : Int)))))] (0 + (0 + (a - (5 + k))) * 1 + b)))],
   next := 3, hint := .nil }))))
  (.ret
   (.exit 0,
   {
   tm :=
   [.unk, .ok (SV.ptr 0 0), .unk, .ok (SV.row 2 0 0 (5 + k) 1), .ok (iv (↑k : Int)), .unk, .unk, .unk, .unk, .unk, .unk, .unk, .unk,
   .unk, .unk, .unk, .unk, .unk, .unk, .unk, .unk, .unk, .unk, .unk, .unk, .unk, .unk, .unk, .unk, .unk, .unk, .unk, .unk, .unk, .unk, .unk, .unk, .unk, .unk, .unk, .unk,
   .unk, .unk, .unk, .unk, .unk, .unk, .unk, .unk, .unk, .unk, .unk, .unk, .unk, .unk, .unk, .unk],
   hp :=
   [some
   (.cells
   [iv (Rel.no r), SV.d (DV.x (.int .u64 (Rel.prev r))), SV.d (DV.x (.int .u64 (Rel.src r))), SV.d (DV.x (.int .u64 (Rel.cir r))),
   SV.d (DV.ro (Rel.fn r) 1 fun i x => DV.x (.int .u64 (Rel.fc r i))), iv (Rel.b0 r), iv (Rel.b1 r), iv (Rel.b2 r), iv (Rel.b3 r), iv (Rel.b4 r), iv (Rel.b5 r), iv (Rel.b6 r), iv (Rel.b7 r),
   iv (Rel.b8 r), iv (Rel.b9 r), iv (Rel.b10 r), iv (Rel.b11 r), iv (Rel.pn r), iv (Rel.pd r), SV.d (DV.x (.int .u64 (Rel.tag r)))]),
   none, some (.row (5 + k) 1 fun i x => DV.x (.int .i64 (c i)))],
   next := 3, hint := .nil }))

theorem BNu_eq (r : Rel) (k : Nat) (c : Nat → Int) : cutT 2 rtNu [1, 3, 4] [] 3 .nil (exec Try.prog CL DL 200 bodyNu (invNu r k c)) = BNu r k c := by kernel_rfl

noncomputable def KNu (r : Rel) (k : Nat) (c : Nat → Int) : Tree SV :=
  .need (2 ≤ 2 ∧ 2 ≤ 2 ∧ 32 ≤ 140737488355328)
  (.need (4 ≤ 4)
   (.need (0 + (5 + k) ≤ 5 + k ∧ True ∧ (5 + k + 4) * 8 ≤ 140737488355328)
   (.need (2 ≤ 2 ∧ 2 ≤ 2 ∧ 32 ≤ 140737488355328)
   (.need (4 ≤ 4)
   (.need (0 + (5 + k + 4) ≤ 5 + k + 4 ∧ True ∧ (5 + k + 4 + 4) * 8 ≤ 140737488355328)
   (.need (2 ≤ 2 ∧ 2 ≤ 2 ∧ 32 ≤ 140737488355328)
   (.need (4 ≤ 4)
   (.need (0 + (5 + k + 4 + 4) ≤ 5 + k + 4 + 4 ∧ True ∧ (5 + k + 4 + 4 + 4) * 8 ≤ 140737488355328)
   (.need
   (0 + (5 + k + 4 + 4 + 4) ≤ 5 + k + 4 + 4 + 4 ∧
   2 ≤ 2 ∧ (5 + k + 4 + 4 + 4 + 2) * 8 ≤ 140737488355328)
   (.need (0 + (5 + k + 4 + 4 + 4 + 2) ≤ 5 + k + 4 + 4 + 4 + 2)
   (.ret
   (SV.d
   (DV.ro (5 + k + 4 + 4 + 4 + 2) 1 fun i j =>
   selD (decide (0 + i < 5 + k + 4 + 4 + 4))
   (selD (decide (0 + (0 + i) < 5 + k + 4 + 4))
   (selD (decide (0 + (0 + (0 + i)) < 5 + k + 4))
   (selD (decide (0 + (0 + (0 + (0 + i))) < 5 + k)) (DV.x (.int .i64 (c ((0 : Nat) + ((0 : Nat) + ((0 : Nat) + ((0 : Nat) + ((0 : Nat) + i))))))))
   (selD (decide (0 + (0 + (0 + (0 + (0 + i))) - (5 + k)) < 2))
   (dsAt [DV.x (.int .i64 (Rel.b0 r)), DV.x (.int .i64 (Rel.b1 r))]
   (0 + (0 + (0 + (0 + (0 + (0 + (0 + (0 + i))) - (5 + k))))) * 1 + j))
   (dsAt [DV.x (.int .i64 (Rel.b2 r)), DV.x (.int .i64 (Rel.b3 r))]
   (0 + (0 + (0 + (0 + (0 + (0 + (0 + (0 + i))) - (5 + k)) - 2))) * 1 + j))))
   (selD (decide (0 + (0 + (0 + (0 + i)) - (5 + k + 4)) < 2))
   (dsAt [DV.x (.int .i64 (Rel.b4 r)), DV.x (.int .i64 (Rel.b5 r))]
   (0 + (0 + (0 + (0 + (0 + (0 + (0 + i)) - (5 + k + 4))))) * 1 + j))
   (dsAt [DV.x (.int .i64 (Rel.b6 r)), DV.x (.int .i64 (Rel.b7 r))]
   (0 + (0 + (0 + (0 + (0 + (0 + (0 + i)) - (5 + k + 4)) - 2))) * 1 + j))))
   (selD (decide (0 + (0 + (0 + i) - (5 + k + 4 + 4)) < 2))
   (dsAt [DV.x (.int .i64 (Rel.b8 r)), DV.x (.int .i64 (Rel.b9 r))]
   (0 + (0 + (0 + (0 + (0 + (0 + i) - (5 + k + 4 + 4))))) * 1 + j))
   (dsAt [DV.x (.int .i64 (Rel.b10 r)), DV.x (.int .i64 (Rel.b11 r))]
   (0 + (0 + (0 + (0 + (0 + (0 + i) - (5 + k + 4 + 4)) - 2))) * 1 + j))))
   (dsAt [DV.x (.int .i64 (Rel.pn r)), DV.x (.int .i64 (Rel.pd r))]
   (0 + (0 + (0 + (0 + i - (5 + k + 4 + 4 + 4)))) * 1 + j)))))))))))))))

theorem KNu_eq (r : Rel) (k : Nat) (c : Nat → Int) : codeK (sub [] (tNu r)) (.exit 0) (invNu r k c) = KNu r k c := by kernel_rfl

noncomputable def entNu (r : Rel) : AS :=
  ⟨[.unk, .ok (.ptr 0 0), .unk, .ok (.row 2 0 0 5 1), .ok (iv 0)] ++ List.replicate 52 .unk,
   [some (.cells (relL r)), none, some (.cells [iv r.no, iv (w64 r.prev), iv (w64 r.src), iv (w64 r.cir), iv r.fn])], 3, .nil⟩
theorem ENu_eq (r : Rel) : entA 2 rtNu [1, 3, 4] [] 3 .nil (sub [] (tNu r)) = some (entNu r) := by kernel_rfl

end Go.Proofs.Ytpaejfeojdoikaa

namespace Go.Proofs.Ytpaejfeojdoikaa
open Go.Sx
set_option maxRecDepth 100000

/-- The numbers of a release. -/
def numN (r : Rel) (i : Nat) : Int :=
  if i < 5 then ([r.no, w64 r.prev, w64 r.src, w64 r.cir, (r.fn : Int)] : List Int).getD i 0
  else if i < 5 + r.fn then w64 (r.fc (i - 5))
  else (relB r ++ [r.pn, r.pd]).getD (i - 5 - r.fn) 0

theorem selD_if {p : Prop} [Decidable p] {a b : DV} : selD (decide p) a b = if p then a else b := by
  rw [selD_eq]; by_cases h : p <;> simp [h]

theorem of_body {r : Rel} (hn : r.fn ≤ 1000000) {k : Nat} (hk : k < r.fn) (i : Nat) (hi : i < 5 + k + 1) (j : Nat) (hj : j < 1) :
    selD (decide (i < 5 + k)) (DV.x (.int .i64 (numN r ((0 : Nat) + i)))) (dsAt [DV.x (.int .i64 (w64 (Rel.fc r (Int.toNat (k : Int)))))] (0 + (0 + (i - (5 + k))) * 1 + j)) = DV.x (.int .i64 (numN r i)) := by
  obtain rfl : j = 0 := by omega
  rw [selD_if]
  by_cases h : i < 5 + k
  · rw [if_pos h, Nat.zero_add]
  · rw [if_neg h]
    obtain rfl : i = 5 + k := by omega
    rw [show 0 + (0 + (5 + k - (5 + k))) * 1 + 0 = 0 by omega, Int.toNat_natCast]
    unfold numN
    rw [if_neg (by omega), if_pos (by omega), show 5 + k - 5 = k by omega]
    rfl

theorem numN_tail {r : Rel} {j : Nat} (hj : j < 14) : numN r (5 + r.fn + j) = (relB r ++ [r.pn, r.pd]).getD j 0 := by
  unfold numN
  rw [if_neg (by omega), if_neg (by omega), show 5 + r.fn + j - 5 - r.fn = j by omega]

theorem row_split {r : Rel} {P : Nat → Prop} (h1 : ∀ i, i < 5 + r.fn → P i) (h2 : ∀ j, j < 14 → P (5 + r.fn + j)) : ∀ i, i < 19 + r.fn → P i := by
  intro i hi
  by_cases h : i < 5 + r.fn
  · exact h1 i h
  · have := h2 (i - (5 + r.fn)) (by omega)
    rwa [show 5 + r.fn + (i - (5 + r.fn)) = i by omega] at this

theorem of_sat {r : Rel} (hn : r.fn ≤ 1000000) : Sat Try.prog (tOf r) fun x => leSV 0 [] [] x (.d (.ro (19 + r.fn) 1 fun i _ => .x (.int .i64 (numN r i)))) := by
  constructor
  rw [LOf_eq]; unfold LOf
  refine ⟨⟨trivial, by simp, by decide⟩, ?_⟩
  refine code_satS CL_ok DL_ok (n := 200) (n0 := 5) (nx := 6) (roots := rtOf) (keep := [1, 3, 4, 28, 29, 30]) (drop := [2, 4]) (h := uN 3 .nil) (c := codeC (sub [0] (tOf r))) (st := codeS (sub [0] (tOf r))) (k := codeK (sub [0] (tOf r))) (body := bodyOf') (by kernel_rfl) (by kernel_rfl)
    (fun q s => ∃ k : Nat, q = r.fn - k ∧ k ≤ r.fn ∧ s = invOf r k (numN r))
    (fun e s => e = .exit 0 ∧ s = invOf r r.fn (numN r))
    ⟨_, _, ⟨0, rfl, by omega, rfl⟩, (entA_sound (EOf_eq r)).trans ?_⟩ ?_ ?_
  · refine gc_sound [(5, 5)] [] rfl ?_ ?_
    · simp [entOf, invOf, leTm, leTV, leSV, leSVs, rn, iv, leD, List.replicate, rou64]
    · simp [entOf, invOf, leHp, leBlk, leSVs, leSV, rn, iv, leD, srcOf, hget, relL, u64v, rou64]
      intro i hi
      match i, hi with
      | 0, _ => rfl
      | 1, _ => rfl
      | 2, _ => rfl
      | 3, _ => rfl
      | 4, _ => rfl
  · rintro q s ⟨k, rfl, hk, rfl⟩
    refine Sat.of_eq (BOf_eq r k _) ?_
    constructor
    unfold BOf
    refine ⟨fun hc => ?_, fun hc => ?_⟩
    · have hc : k < r.fn := by simp only [decide_eq_true_eq] at hc; omega
      refine ⟨by omega, ⟨by omega, by simp, by omega⟩, r.fn - (k + 1), _, by omega, ⟨k + 1, rfl, by omega, rfl⟩, ?_⟩
      rw [w64_of (n := (k : Int) + 1) (by omega) (by omega)]
      refine gc_sound [(5, 5)] [] rfl ?_ ?_
      · simp [invOf, leTm, leTV, leSV, leSVs, rn, iv, leD, List.replicate, rou64]
      · simp [invOf, leHp, leBlk, leSVs, leSV, rn, iv, leD, srcOf, hget, relL, u64v, rou64]
        refine ⟨by omega, fun i hi => ?_⟩
        simpa using of_body hn hc i (by omega) 0 (by decide)
    · have hc : k = r.fn := by simp only [decide_eq_false_iff_not] at hc; omega
      subst hc
      exact ⟨_, ⟨rfl, rfl⟩, Gc.refl _ _⟩
  · rintro e s ⟨rfl, rfl⟩
    refine Sat.of_eq (KOf_eq r r.fn _) ⟨?_⟩
    unfold KOf
    refine ⟨rfl, by decide, by decide, ⟨by omega, by simp, by omega⟩, rfl, by decide, by decide, ⟨by omega, by simp, by omega⟩, rfl, by decide, by decide, ⟨by omega, by simp, by omega⟩, rfl, ⟨by omega, by simp, by omega⟩, by omega, ?_⟩
    simp only [Tree.sat, leSV, leD]
    refine ⟨by omega, trivial, fun i j hi hj => ?_⟩
    obtain rfl : j = 0 := by omega
    revert i
    rw [show 5 + r.fn + 4 + 4 + 4 + 2 = 19 + r.fn by omega]
    refine row_split (fun i hi => ?_) fun j hj => ?_
    · simp only [selD_if, Nat.zero_add]
      rw [if_pos (by omega), if_pos (by omega), if_pos (by omega), if_pos (by omega)]
    · rw [numN_tail hj]
      simp only [selD_if, Nat.zero_add, Nat.mul_one, Nat.add_zero]
      match j, hj with
      | 0, _ => rw [if_pos (by omega), if_pos (by omega), if_pos (by omega), if_neg (by omega), show 5 + r.fn + 0 - (5 + r.fn) = 0 by omega]; rfl
      | 1, _ => rw [if_pos (by omega), if_pos (by omega), if_pos (by omega), if_neg (by omega), show 5 + r.fn + 1 - (5 + r.fn) = 1 by omega]; rfl
      | 2, _ => rw [if_pos (by omega), if_pos (by omega), if_pos (by omega), if_neg (by omega), show 5 + r.fn + 2 - (5 + r.fn) = 2 by omega]; rfl
      | 3, _ => rw [if_pos (by omega), if_pos (by omega), if_pos (by omega), if_neg (by omega), show 5 + r.fn + 3 - (5 + r.fn) = 3 by omega]; rfl
      | 4, _ => rw [if_pos (by omega), if_pos (by omega), if_neg (by omega), show 5 + r.fn + 4 - (5 + r.fn + 4) = 0 by omega]; rfl
      | 5, _ => rw [if_pos (by omega), if_pos (by omega), if_neg (by omega), show 5 + r.fn + 5 - (5 + r.fn + 4) = 1 by omega]; rfl
      | 6, _ => rw [if_pos (by omega), if_pos (by omega), if_neg (by omega), show 5 + r.fn + 6 - (5 + r.fn + 4) = 2 by omega]; rfl
      | 7, _ => rw [if_pos (by omega), if_pos (by omega), if_neg (by omega), show 5 + r.fn + 7 - (5 + r.fn + 4) = 3 by omega]; rfl
      | 8, _ => rw [if_pos (by omega), if_neg (by omega), show 5 + r.fn + 8 - (5 + r.fn + 4 + 4) = 0 by omega]; rfl
      | 9, _ => rw [if_pos (by omega), if_neg (by omega), show 5 + r.fn + 9 - (5 + r.fn + 4 + 4) = 1 by omega]; rfl
      | 10, _ => rw [if_pos (by omega), if_neg (by omega), show 5 + r.fn + 10 - (5 + r.fn + 4 + 4) = 2 by omega]; rfl
      | 11, _ => rw [if_pos (by omega), if_neg (by omega), show 5 + r.fn + 11 - (5 + r.fn + 4 + 4) = 3 by omega]; rfl
      | 12, _ => rw [if_neg (by omega), show 5 + r.fn + 12 - (5 + r.fn + 4 + 4 + 4) = 0 by omega]; rfl
      | 13, _ => rw [if_neg (by omega), show 5 + r.fn + 13 - (5 + r.fn + 4 + 4 + 4) = 1 by omega]; rfl

theorem nu_sat {r : Rel} (hn : r.fn ≤ 1000000) : Sat Try.prog (tNu r) fun x => leSV 0 [] [] x (.d (.ro (19 + r.fn) 1 fun i _ => .x (.int .i64 (numN r i)))) := by
  constructor
  rw [LNu_eq]; unfold LNu
  refine code_satS CL_ok DL_ok (n := 200) (n0 := 2) (nx := 3) (roots := rtNu) (keep := [1, 3, 4]) (drop := []) (h := .nil) (c := codeC (sub [] (tNu r))) (st := codeS (sub [] (tNu r))) (k := codeK (sub [] (tNu r))) (body := bodyNu) (by kernel_rfl) (by kernel_rfl)
    (fun q s => ∃ k : Nat, q = r.fn - k ∧ k ≤ r.fn ∧ s = invNu r k (numN r))
    (fun e s => e = .exit 0 ∧ s = invNu r r.fn (numN r))
    ⟨_, _, ⟨0, rfl, by omega, rfl⟩, (entA_sound (ENu_eq r)).trans ?_⟩ ?_ ?_
  · refine gc_sound [(2, 2)] [] rfl ?_ ?_
    · simp [entNu, invNu, leTm, leTV, leSV, leSVs, rn, iv, leD, List.replicate, rou64]
    · simp [entNu, invNu, leHp, leBlk, leSVs, leSV, rn, iv, leD, srcOf, hget, relL, u64v, rou64]
      intro i hi
      match i, hi with
      | 0, _ => rfl
      | 1, _ => rfl
      | 2, _ => rfl
      | 3, _ => rfl
      | 4, _ => rfl
  · rintro q s ⟨k, rfl, hk, rfl⟩
    refine Sat.of_eq (BNu_eq r k _) ?_
    constructor
    unfold BNu
    refine ⟨fun hc => ?_, fun hc => ?_⟩
    · have hc : k < r.fn := by simp only [decide_eq_true_eq] at hc; omega
      refine ⟨by omega, ⟨by omega, by simp, by omega⟩, r.fn - (k + 1), _, by omega, ⟨k + 1, rfl, by omega, rfl⟩, ?_⟩
      rw [w64_of (n := (k : Int) + 1) (by omega) (by omega)]
      refine gc_sound [(2, 2)] [] rfl ?_ ?_
      · simp [invNu, leTm, leTV, leSV, leSVs, rn, iv, leD, List.replicate, rou64]
        omega
      · simp [invNu, leHp, leBlk, leSVs, leSV, rn, iv, leD, srcOf, hget, relL, u64v, rou64]
        refine ⟨by omega, fun i hi => ?_⟩
        simpa using of_body hn hc i (by omega) 0 (by decide)
    · have hc : k = r.fn := by simp only [decide_eq_false_iff_not] at hc; omega
      subst hc
      exact ⟨_, ⟨rfl, rfl⟩, Gc.refl _ _⟩
  · rintro e s ⟨rfl, rfl⟩
    refine Sat.of_eq (KNu_eq r r.fn _) ⟨?_⟩
    unfold KNu
    refine ⟨by decide, by decide, ⟨by omega, trivial, by omega⟩, by decide, by decide, ⟨by omega, trivial, by omega⟩, by decide, by decide, ⟨by omega, trivial, by omega⟩, ⟨by omega, by decide, by omega⟩, by omega, ?_⟩
    simp only [Tree.sat, leSV, leD]
    refine ⟨by omega, trivial, fun i j hi hj => ?_⟩
    obtain rfl : j = 0 := by omega
    revert i
    rw [show 5 + r.fn + 4 + 4 + 4 + 2 = 19 + r.fn by omega]
    refine row_split (fun i hi => ?_) fun j hj => ?_
    · simp only [selD_if, Nat.zero_add]
      rw [if_pos (by omega), if_pos (by omega), if_pos (by omega), if_pos (by omega)]
    · rw [numN_tail hj]
      simp only [selD_if, Nat.zero_add, Nat.mul_one, Nat.add_zero]
      match j, hj with
      | 0, _ => rw [if_pos (by omega), if_pos (by omega), if_pos (by omega), if_neg (by omega), show 5 + r.fn + 0 - (5 + r.fn) = 0 by omega]; rfl
      | 1, _ => rw [if_pos (by omega), if_pos (by omega), if_pos (by omega), if_neg (by omega), show 5 + r.fn + 1 - (5 + r.fn) = 1 by omega]; rfl
      | 2, _ => rw [if_pos (by omega), if_pos (by omega), if_pos (by omega), if_neg (by omega), show 5 + r.fn + 2 - (5 + r.fn) = 2 by omega]; rfl
      | 3, _ => rw [if_pos (by omega), if_pos (by omega), if_pos (by omega), if_neg (by omega), show 5 + r.fn + 3 - (5 + r.fn) = 3 by omega]; rfl
      | 4, _ => rw [if_pos (by omega), if_pos (by omega), if_neg (by omega), show 5 + r.fn + 4 - (5 + r.fn + 4) = 0 by omega]; rfl
      | 5, _ => rw [if_pos (by omega), if_pos (by omega), if_neg (by omega), show 5 + r.fn + 5 - (5 + r.fn + 4) = 1 by omega]; rfl
      | 6, _ => rw [if_pos (by omega), if_pos (by omega), if_neg (by omega), show 5 + r.fn + 6 - (5 + r.fn + 4) = 2 by omega]; rfl
      | 7, _ => rw [if_pos (by omega), if_pos (by omega), if_neg (by omega), show 5 + r.fn + 7 - (5 + r.fn + 4) = 3 by omega]; rfl
      | 8, _ => rw [if_pos (by omega), if_neg (by omega), show 5 + r.fn + 8 - (5 + r.fn + 4 + 4) = 0 by omega]; rfl
      | 9, _ => rw [if_pos (by omega), if_neg (by omega), show 5 + r.fn + 9 - (5 + r.fn + 4 + 4) = 1 by omega]; rfl
      | 10, _ => rw [if_pos (by omega), if_neg (by omega), show 5 + r.fn + 10 - (5 + r.fn + 4 + 4) = 2 by omega]; rfl
      | 11, _ => rw [if_pos (by omega), if_neg (by omega), show 5 + r.fn + 11 - (5 + r.fn + 4 + 4) = 3 by omega]; rfl
      | 12, _ => rw [if_neg (by omega), show 5 + r.fn + 12 - (5 + r.fn + 4 + 4 + 4) = 0 by omega]; rfl
      | 13, _ => rw [if_neg (by omega), show 5 + r.fn + 13 - (5 + r.fn + 4 + 4 + 4) = 1 by omega]; rfl

theorem agg_le {l m : List SV} (h : leSVs 0 [] [] l m) : leSVs 0 [] [] [.agg l] [.agg m] := by
  simp only [leSVs, leSV, and_true]; exact h
noncomputable def cNum : Ctr := fun ss => match ss with
  | [.agg l] => match relOf l with
    | some (r, p) => .need p (.ret (.d (.ro (19 + r.fn) 1 fun i _ => .x (.int .i64 (numN r i)))))
    | none => .fail
  | _ => .fail
theorem cNum_ok : CtrOK Try.prog 105 cNum := by
  refine ctrOK_leR CL_ok DL_ok (by kernel_rfl) (by kernel_rfl) fun ss r h => ?_
  unfold cNum at h
  split at h
  · split at h
    · rename_i l r p hr
      obtain ⟨h1, rfl⟩ := h
      obtain ⟨h2, h3⟩ := relOf_le hr h1
      have k := of_sat h3
      refine ⟨[.agg (relL r)], 200, .nil, ?_, ?_⟩
      · exact agg_le h2
      · exact k
    · exact h.elim
  · exact h.elim
theorem cNumR_ok : CtrOK Try.prog 108 cNum := by
  refine ctrOK_leR CL_ok DL_ok (by kernel_rfl) (by kernel_rfl) fun ss r h => ?_
  unfold cNum at h
  split at h
  · split at h
    · rename_i l r p hr
      obtain ⟨h1, rfl⟩ := h
      obtain ⟨h2, h3⟩ := relOf_le hr h1
      have k := nu_sat h3
      refine ⟨[.agg (relL r)], 200, .nil, ?_, ?_⟩
      · exact agg_le h2
      · exact k
    · exact h.elim
  · exact h.elim
/-- The digest of a release. -/
def dig (r : Rel) : Int := dgW (19 + r.fn) (numN r)

end Go.Proofs.Ytpaejfeojdoikaa

namespace Go.Proofs.Ytpaejfeojdoikaa
open Go.Sx
set_option maxRecDepth 100000

noncomputable def manM : FuncId → Option Ctr := fun k => match k with
  | 105 => some cNum
  | 108 => some cNum
  | k => manL k
theorem manM_ok (k : Nat) (c : Ctr) (h : manM k = some c) : CtrOK Try.prog k c ∧ goodF Try.prog k = true := by
  unfold manM at h
  split at h
  · cases h; exact ⟨cNum_ok, by kernel_rfl⟩
  · cases h; exact ⟨cNumR_ok, by kernel_rfl⟩
  · exact manL_ok _ _ h
noncomputable def CM : Ctx := ctxO Try.prog manM ownL (fun k => k == 147) 200 .nil 6
theorem CM_ok : CtxOK Try.prog CM := ctxO_ok mixed manM_ok ownL_ok 6
noncomputable def DM : Dr := fun _ => drawn Try.prog CM
theorem DM_ok : DrOK Try.prog CM DM := drawn_ok CM_ok mixed
noncomputable def TM (h : Hint) (k : Nat) (args : List SV) : Tree SV := fnT Try.prog CM DM 200 (fnOf Try.prog k) (bodyOf Try.prog k) args h

noncomputable def LTg_q1 (c : Nat → Int) (i : Nat) (x : Nat) : DV :=
  DV.x (.int .i64 (c i))
noncomputable def LTg_q2 (c : Nat → Int) (i : Nat) : Int :=
  c i
noncomputable def LTg (key : Int) (n : Nat) (c : Nat → Int) : Tree SV :=
  .need (I64C n (LTg_q1 c))
  (.need (true = true)
   (.need ((0 : Int) ≤ (0 : Int) ∧ (0 : Int) < (1 : Int))
   (.need (0 < 1)
   (.need ((0 : Int) ≤ (32 : Int))
   (.need (false = false)
   (.ret
   (SV.d
   (DV.x
   (.int .u64
   (IntKind.wrap .u64
   (IntKind.wrap .u64
   (↑(BitVec.toNat
   (BitVec.ofInt 64
   (IntKind.wrap .u64 (IntKind.wrap .u64 (↑(BitVec.toNat (BitVec.ofInt 64 key ^^^ BitVec.ofInt 64 (dgW n (LTg_q2 c)))) : Int) * (15485907386658061715 : Int))) ^^^
   BitVec.ofInt 64
   (Int.fdiv
   (IntKind.wrap .u64 (IntKind.wrap .u64 (↑(BitVec.toNat (BitVec.ofInt 64 key ^^^ BitVec.ofInt 64 (dgW n (LTg_q2 c)))) : Int) * (15485907386658061715 : Int)))
   (4294967296 : Int)))) :
   Int) *
   (11562461410679940143 : Int))))))))))))

theorem LTg_eq (key : Int) (n : Nat) (c : Nat → Int) : TM (uN 1 .nil) 104 [u64v key, ro64 n c] = LTg key n c := by kernel_rfl

noncomputable def LTr_q1 (c : Nat → Int) (i : Nat) (x : Nat) : DV :=
  DV.x (.int .i64 (c i))
noncomputable def LTr_q2 (c : Nat → Int) (i : Nat) : Int :=
  c i
noncomputable def LTr (key : Int) (n : Nat) (c : Nat → Int) : Tree SV :=
  .need (I64C n (LTr_q1 c))
  (.need ((0 : Int) ≤ (32 : Int))
   (.ret
   (SV.d
   (DV.x
   (.int .u64
   (IntKind.wrap .u64
   (IntKind.wrap .u64
   (↑(BitVec.toNat
   (BitVec.ofInt 64
   (IntKind.wrap .u64 (IntKind.wrap .u64 (↑(BitVec.toNat (BitVec.ofInt 64 key ^^^ BitVec.ofInt 64 (dgW n (LTr_q2 c)))) : Int) * (15485907386658061715 : Int))) ^^^
   BitVec.ofInt 64
   (Int.fdiv (IntKind.wrap .u64 (IntKind.wrap .u64 (↑(BitVec.toNat (BitVec.ofInt 64 key ^^^ BitVec.ofInt 64 (dgW n (LTr_q2 c)))) : Int) * (15485907386658061715 : Int)))
   (4294967296 : Int)))) :
   Int) *
   (11562461410679940143 : Int))))))))

theorem LTr_eq (key : Int) (n : Nat) (c : Nat → Int) : TM .nil 176 [u64v key, ro64 n c] = LTr key n c := by kernel_rfl

noncomputable def LVdd (r : Rel) : Tree SV :=
  .ret
  (bv
   (viB (Rel.b0 r) (Rel.b1 r) (Rel.b2 r) (Rel.b3 r) && viB (Rel.b4 r) (Rel.b5 r) (Rel.b6 r) (Rel.b7 r) && viB (Rel.b8 r) (Rel.b9 r) (Rel.b10 r) (Rel.b11 r) && vB (Rel.pn r) (Rel.pd r) && decide (Rel.pn r > (0 : Int)) &&
   decide ((↑(Rel.fn r) : Int) ≤ (8 : Int))))

theorem LVdd_eq (r : Rel) : TM .nil 103 [.agg (relL r)] = LVdd r := by kernel_rfl

noncomputable def LCd (r : Rel) : Tree SV :=
  .ret (bv (viB (Rel.b0 r) (Rel.b1 r) (Rel.b2 r) (Rel.b3 r) && viB (Rel.b4 r) (Rel.b5 r) (Rel.b6 r) (Rel.b7 r) && viB (Rel.b8 r) (Rel.b9 r) (Rel.b10 r) (Rel.b11 r) && vB (Rel.pn r) (Rel.pd r) && decide (Rel.pn r > (0 : Int))))

theorem LCd_eq (r : Rel) : TM .nil 149 [.agg (relL r)] = LCd r := by kernel_rfl

noncomputable def LDg_q1 (r : Rel) (i : Nat) (x : Nat) : DV :=
  DV.x (.int .u64 (Rel.fc r i))
noncomputable def LDg_q2 (r : Rel) (i : Nat) (x : Nat) : DV :=
  DV.x (.int .i64 (numN r i))
noncomputable def LDg_q3 (r : Rel) (i : Nat) : Int :=
  numN r i
noncomputable def LDg (r : Rel) : Tree SV :=
  .need (U64C (Rel.fn r) (LDg_q1 r)) (.need (I64C (19 + Rel.fn r) (LDg_q2 r)) (.ret (SV.d (DV.x (.int .u64 (dgW (19 + Rel.fn r) (LDg_q3 r)))))))

theorem LDg_eq (r : Rel) : TM .nil 99 [.agg (relL r)] = LDg r := by kernel_rfl

noncomputable def LDr_q1 (r : Rel) (i : Nat) (x : Nat) : DV :=
  DV.x (.int .u64 (Rel.fc r i))
noncomputable def LDr_q2 (r : Rel) (i : Nat) (x : Nat) : DV :=
  DV.x (.int .i64 (numN r i))
noncomputable def LDr_q3 (r : Rel) (i : Nat) : Int :=
  numN r i
noncomputable def LDr (r : Rel) : Tree SV :=
  .need (U64C (Rel.fn r) (LDr_q1 r)) (.need (I64C (19 + Rel.fn r) (LDr_q2 r)) (.ret (SV.d (DV.x (.int .u64 (dgW (19 + Rel.fn r) (LDr_q3 r)))))))

theorem LDr_eq (r : Rel) : TM .nil 150 [.agg (relL r)] = LDr r := by kernel_rfl

noncomputable def LTR_q1 (r : Rel) (i : Nat) (x : Nat) : DV :=
  DV.x (.int .u64 (Rel.fc r i))
noncomputable def LTR_q2 (r : Rel) (i : Nat) (x : Nat) : DV :=
  DV.x (.int .i64 (numN r i))
noncomputable def LTR_q3 (r : Rel) (i : Nat) : Int :=
  numN r i
noncomputable def LTR (key : Int) (r : Rel) : Tree SV :=
  .need (U64C (Rel.fn r) (LTR_q1 r))
  (.need (I64C (19 + Rel.fn r) (LTR_q2 r))
   (.need ((0 : Int) ≤ (32 : Int))
   (.ret
   (SV.d
   (DV.x
   (.int .u64
   (IntKind.wrap .u64
   (IntKind.wrap .u64
   (↑(BitVec.toNat
   (BitVec.ofInt 64
   (IntKind.wrap .u64
   (IntKind.wrap .u64 (↑(BitVec.toNat (BitVec.ofInt 64 key ^^^ BitVec.ofInt 64 (dgW (19 + Rel.fn r) (LTR_q3 r)))) : Int) * (15485907386658061715 : Int))) ^^^
   BitVec.ofInt 64
   (Int.fdiv
   (IntKind.wrap .u64
   (IntKind.wrap .u64 (↑(BitVec.toNat (BitVec.ofInt 64 key ^^^ BitVec.ofInt 64 (dgW (19 + Rel.fn r) (LTR_q3 r)))) : Int) * (15485907386658061715 : Int)))
   (4294967296 : Int)))) :
   Int) *
   (11562461410679940143 : Int)))))))))

theorem LTR_eq (key : Int) (r : Rel) : TM .nil 151 [u64v key, .agg (relL r)] = LTR key r := by kernel_rfl


/-! Ints -/
noncomputable def tIn (n m : Nat) (a b : Nat → Int) : Tree SV := TM .nil 107 [ro64 n a, ro64 m b]
noncomputable def LIi (n m : Nat) (a b : Nat → Int) : Tree SV :=
  .ite ((↑n : Int) != (↑m : Int)) (.ret (bv false)) (.code (codeC (sub [(1 : Nat)] (tIn n m a b))) (codeS (sub [(1 : Nat)] (tIn n m a b))) (codeK (sub [(1 : Nat)] (tIn n m a b))))

theorem LIi_eq (n m : Nat) (a b : Nat → Int) : tIn n m a b = LIi n m a b := by kernel_rfl

noncomputable def invIn (n m : Nat) (a b : Nat → Int) (k : Nat) : AS := ⟨[.ok (ro64 n a), .ok (ro64 m b), .unk, .unk, .unk, .ok (iv k)] ++ List.replicate 20 .unk, [], 0, .nil⟩
noncomputable def bodyIn : Code := loopN (bodyOf Try.prog 107) 0
noncomputable def BIn (n m : Nat) (a b : Nat → Int) (k : Nat) : Tree (Ex × AS) :=
  .ite (decide ((↑k : Int) < (↑n : Int)))
  (.need ((0 : Int) ≤ (↑k : Int) ∧ (↑k : Int) < (↑n : Int))
   (.need ((0 : Int) ≤ (↑k : Int) ∧ (↑k : Int) < (↑m : Int))
   (.ite (a (Int.toNat (↑k : Int)) != b (Int.toNat (↑k : Int)))
   (.ret
   (.ret,
   {
   tm :=
   [.ok (SV.d (DV.ro n 1 fun i x => DV.x (.int .i64 (a i)))), .ok (SV.d (DV.ro m 1 fun i x => DV.x (.int .i64 (b i)))), .unk, .unk, .ok (bv false), .ok (iv (↑k : Int)),
   .unk, .unk, .unk, .unk, .unk, .unk, .unk, .unk, .unk, .unk, .unk, .unk, .unk, .unk, .unk, .unk, .unk, .unk, .unk, .unk],
   hp := [], next := 0, hint := .nil }))
   (.ret
   (.normal,
   {
   tm :=
   [.ok (SV.d (DV.ro n 1 fun i x => DV.x (.int .i64 (a i)))), .ok (SV.d (DV.ro m 1 fun i x => DV.x (.int .i64 (b i)))), .unk, .unk, .unk,
   .ok (iv (w64 ((↑k : Int) + (1 : Int)))), .unk, .unk, .unk, .unk, .unk, .unk, .unk, .unk, .unk, .unk, .unk, .unk, .unk, .unk, .unk, .unk, .unk, .unk, .unk, .unk],
   hp := [], next := 0, hint := .nil })))))
  (.ret
   (.exit 0,
   {
   tm :=
   [.ok (SV.d (DV.ro n 1 fun i x => DV.x (.int .i64 (a i)))), .ok (SV.d (DV.ro m 1 fun i x => DV.x (.int .i64 (b i)))), .unk, .unk, .unk, .ok (iv (↑k : Int)), .unk, .unk,
   .unk, .unk, .unk, .unk, .unk, .unk, .unk, .unk, .unk, .unk, .unk, .unk, .unk, .unk, .unk, .unk, .unk, .unk],
   hp := [], next := 0, hint := .nil }))

theorem BIn_eq (n m : Nat) (a b : Nat → Int) (k : Nat) : cutT 0 [] [0, 1, 4, 5] [] 0 .nil (exec Try.prog CM DM 200 bodyIn (invIn n m a b k)) = BIn n m a b k := by kernel_rfl

noncomputable def KIn (n m : Nat) (a b : Nat → Int) (k : Nat) : Tree SV :=
  .ret (bv true)

theorem KIn_eq (n m : Nat) (a b : Nat → Int) (k : Nat) : codeK (sub [1] (tIn n m a b)) (.exit 0) (invIn n m a b k) = KIn n m a b k := by kernel_rfl

noncomputable def retIn (n m : Nat) (a b : Nat → Int) (k : Nat) : AS := ⟨[.ok (ro64 n a), .ok (ro64 m b), .unk, .unk, .ok (bv false), .ok (iv k)] ++ List.replicate 20 .unk, [], 0, .nil⟩
noncomputable def KInR (n m : Nat) (a b : Nat → Int) (k : Nat) : Tree SV :=
  .ret (bv false)

theorem KInR_eq (n m : Nat) (a b : Nat → Int) (k : Nat) : codeK (sub [1] (tIn n m a b)) .ret (retIn n m a b k) = KInR n m a b k := by kernel_rfl


end Go.Proofs.Ytpaejfeojdoikaa

namespace Go.Proofs.Ytpaejfeojdoikaa
open Go.Sx
set_option maxRecDepth 100000

/-! ### Tags, conditions -/
noncomputable def cTag : Ctr := fun ss => match ss with
  | [.d (.x (.int .u64 key)), .d d] => match rowD 1 d with
    | some (n, cell) => .need (I64C n cell) (.ret (u64v (stp key (dgW n (intCell cell)))))
    | none => .fail
  | _ => .fail
theorem I64C.le2 {n : Nat} {d : DV} {key : Int} {cell : Nat → Nat → DV} (h : rowD 1 d = some (n, cell)) (k : I64C n cell) : leSVs 0 [] [] [.d (.x (.int .u64 key)), .d d] [u64v key, ro64 n (intCell cell)] := by
  simp only [leSVs, leSV, ro64, u64v, and_true]
  exact ⟨by simp [leD], rowD_le h fun i j hi hj => by
    obtain rfl : j = 0 := by omega
    exact k.2 i hi⟩
theorem I64C.self {n : Nat} {c : Nat → Int} (h : n ≤ 9223372036854775807) : I64C n fun i _ => .x (.int .i64 (c i)) := ⟨h, fun i hi => rfl⟩
theorem cTag_ok : CtrOK Try.prog 104 cTag := by
  refine ctrOK_leS CM_ok DM_ok (by kernel_rfl) (by kernel_rfl) fun ss r h => ?_
  unfold cTag at h
  split at h
  · rename_i key d
    split at h
    · rename_i n cell hr
      obtain ⟨h1, rfl⟩ := h
      refine ⟨[u64v key, ro64 n (intCell cell)], 200, uN 1 .nil, h1.le2 hr, Sat.of_eq (LTg_eq key n (intCell cell)) ⟨?_⟩⟩
      unfold LTg
      exact ⟨I64C.self h1.1, rfl, by decide, by decide, by decide, rfl, rfl⟩
    · exact h.elim
  · exact h.elim
theorem cTagL_ok : CtrOK Try.prog 176 cTag := by
  refine ctrOK_leS CM_ok DM_ok (by kernel_rfl) (by kernel_rfl) fun ss r h => ?_
  unfold cTag at h
  split at h
  · rename_i key d
    split at h
    · rename_i n cell hr
      obtain ⟨h1, rfl⟩ := h
      refine ⟨[u64v key, ro64 n (intCell cell)], 200, .nil, h1.le2 hr, Sat.of_eq (LTr_eq key n (intCell cell)) ⟨?_⟩⟩
      unfold LTr
      exact ⟨I64C.self h1.1, by decide, rfl⟩
    · exact h.elim
  · exact h.elim

/-- Whether the conditions of a release are valid. -/
noncomputable def cdB (r : Rel) : Bool := viB r.b0 r.b1 r.b2 r.b3 && viB r.b4 r.b5 r.b6 r.b7 && viB r.b8 r.b9 r.b10 r.b11 && vB r.pn r.pd && decide (r.pn > 0)
noncomputable def vdB (r : Rel) : Bool := cdB r && decide ((r.fn : Int) ≤ 8)
noncomputable def cVd : Ctr := fun ss => match ss with
  | [.agg l] => match relOf l with
    | some (r, p) => .need p (.ret (bv (vdB r)))
    | none => .fail
  | _ => .fail
noncomputable def cCd : Ctr := fun ss => match ss with
  | [.agg l] => match relOf l with
    | some (r, p) => .need p (.ret (bv (cdB r)))
    | none => .fail
  | _ => .fail
theorem cVd_ok : CtrOK Try.prog 103 cVd := by
  refine ctrOK_leS CM_ok DM_ok (by kernel_rfl) (by kernel_rfl) fun ss r h => ?_
  unfold cVd at h
  split at h
  · rename_i l
    split at h
    · rename_i r p hr
      obtain ⟨h1, rfl⟩ := h
      obtain ⟨h2, h3⟩ := relOf_le hr h1
      refine ⟨[.agg (relL r)], 200, .nil, agg_le h2, Sat.of_eq (LVdd_eq r) ⟨?_⟩⟩
      unfold LVdd; exact rfl
    · exact h.elim
  · exact h.elim
theorem cCd_ok : CtrOK Try.prog 149 cCd := by
  refine ctrOK_leS CM_ok DM_ok (by kernel_rfl) (by kernel_rfl) fun ss r h => ?_
  unfold cCd at h
  split at h
  · rename_i l
    split at h
    · rename_i r p hr
      obtain ⟨h1, rfl⟩ := h
      obtain ⟨h2, h3⟩ := relOf_le hr h1
      refine ⟨[.agg (relL r)], 200, .nil, agg_le h2, Sat.of_eq (LCd_eq r) ⟨?_⟩⟩
      unfold LCd; exact rfl
    · exact h.elim
  · exact h.elim

theorem U64C.self {n : Nat} {c : Nat → Int} (h : n ≤ 1000000) : U64C n fun i _ => .x (.int .u64 (c i)) := ⟨h, fun i hi => rfl⟩
noncomputable def cDig : Ctr := fun ss => match ss with
  | [.agg l] => match relOf l with
    | some (r, p) => .need p (.ret (u64v (dig r)))
    | none => .fail
  | _ => .fail
theorem cDig_ok : CtrOK Try.prog 99 cDig := by
  refine ctrOK_leS CM_ok DM_ok (by kernel_rfl) (by kernel_rfl) fun ss r h => ?_
  unfold cDig at h
  split at h
  · rename_i l
    split at h
    · rename_i r p hr
      obtain ⟨h1, rfl⟩ := h
      obtain ⟨h2, h3⟩ := relOf_le hr h1
      refine ⟨[.agg (relL r)], 200, .nil, agg_le h2, Sat.of_eq (LDg_eq r) ⟨?_⟩⟩
      unfold LDg; exact ⟨U64C.self h3, I64C.self (by omega), rfl⟩
    · exact h.elim
  · exact h.elim
theorem cDigR_ok : CtrOK Try.prog 150 cDig := by
  refine ctrOK_leS CM_ok DM_ok (by kernel_rfl) (by kernel_rfl) fun ss r h => ?_
  unfold cDig at h
  split at h
  · rename_i l
    split at h
    · rename_i r p hr
      obtain ⟨h1, rfl⟩ := h
      obtain ⟨h2, h3⟩ := relOf_le hr h1
      refine ⟨[.agg (relL r)], 200, .nil, agg_le h2, Sat.of_eq (LDr_eq r) ⟨?_⟩⟩
      unfold LDr; exact ⟨U64C.self h3, I64C.self (by omega), rfl⟩
    · exact h.elim
  · exact h.elim
noncomputable def cTagR : Ctr := fun ss => match ss with
  | [.d (.x (.int .u64 key)), .agg l] => match relOf l with
    | some (r, p) => .need p (.ret (u64v (stp key (dig r))))
    | none => .fail
  | _ => .fail
theorem cTagR_ok : CtrOK Try.prog 151 cTagR := by
  refine ctrOK_leS CM_ok DM_ok (by kernel_rfl) (by kernel_rfl) fun ss r h => ?_
  unfold cTagR at h
  split at h
  · rename_i key l
    split at h
    · rename_i r p hr
      obtain ⟨h1, rfl⟩ := h
      obtain ⟨h2, h3⟩ := relOf_le hr h1
      refine ⟨[u64v key, .agg (relL r)], 200, .nil, ?_, Sat.of_eq (LTR_eq key r) ⟨?_⟩⟩
      · simp only [leSVs, leSV, u64v, and_true]; exact ⟨by simp [leD], h2⟩
      · unfold LTR; exact ⟨U64C.self h3, I64C.self (by omega), by decide, rfl⟩
    · exact h.elim
  · exact h.elim

/-! ### Equal lists -/
def eqF (a b : Nat → Int) : Nat → Bool
  | 0 => true
  | n + 1 => eqF a b n && a n == b n
def eqI (n : Nat) (a : Nat → Int) (m : Nat) (b : Nat → Int) : Bool := n == m && eqF a b n
theorem eqF_iff {a b : Nat → Int} : ∀ {n : Nat}, eqF a b n = true ↔ ∀ i, i < n → a i = b i
  | 0 => by simp [eqF]
  | n + 1 => by
    simp only [eqF, Bool.and_eq_true, beq_iff_eq, eqF_iff (n := n)]
    constructor
    · rintro ⟨h1, h2⟩ i hi
      by_cases h : i = n
      · subst h; exact h2
      · exact h1 i (by omega)
    · exact fun h => ⟨fun i hi => h i (by omega), h n (by omega)⟩
theorem in_sat {n m : Nat} {a b : Nat → Int} (hn : n ≤ 9223372036854775807) (hm : m ≤ 9223372036854775807) : Sat Try.prog (tIn n m a b) (· = bv (eqI n a m b)) := by
  constructor
  rw [LIi_eq]; unfold LIi
  refine ⟨fun h => ?_, fun h => ?_⟩
  · have : n ≠ m := by rintro rfl; simp at h
    unfold eqI
    rw [show (n == m) = false by simpa using this]; exact rfl
  · have hnm : n = m := by simp at h; omega
    subst hnm
    have e0 : eqI n a n b = eqF a b n := by unfold eqI; simp
    rw [e0]
    refine code_satS CM_ok DM_ok (n := 200) (n0 := 0) (nx := 0) (roots := []) (keep := [0, 1, 4, 5]) (drop := []) (h := .nil) (c := codeC (sub [1] (tIn n n a b))) (st := codeS (sub [1] (tIn n n a b))) (k := codeK (sub [1] (tIn n n a b))) (body := bodyIn) (by kernel_rfl) (by kernel_rfl)
      (fun q s => ∃ k : Nat, q = n - k ∧ k ≤ n ∧ eqF a b k = true ∧ s = invIn n n a b k)
      (fun e s => (e = .exit 0 ∧ eqF a b n = true ∧ s = invIn n n a b n) ∨ (e = .ret ∧ ∃ k, eqF a b n = false ∧ s = retIn n n a b k))
      ⟨_, _, ⟨0, rfl, by omega, rfl, rfl⟩, ?_⟩ ?_ ?_
    · exact entA_sound (roots := []) (keep := [0, 1, 5]) (drop := []) (nx := 0) (h := .nil) (by kernel_rfl)
    · rintro q s ⟨k, rfl, hk, hq, rfl⟩
      refine Sat.of_eq (BIn_eq n n a b k) ?_
      constructor
      unfold BIn
      rw [Int.toNat_natCast]
      refine ⟨fun hc => ?_, fun hc => ?_⟩
      · have hc : k < n := by simp only [decide_eq_true_eq] at hc; omega
        refine ⟨by omega, by omega, fun h => ?_, fun h => ?_⟩
        · have h : a k ≠ b k := by simpa using h
          refine ⟨_, .inr ⟨rfl, k, ?_, rfl⟩, Gc.refl _ _⟩
          rw [Bool.eq_false_iff]
          intro h2
          exact h (eqF_iff.1 h2 k hc)
        · have h : a k = b k := by simpa using h
          refine ⟨n - (k + 1), _, by omega, ⟨k + 1, rfl, by omega, ?_, rfl⟩, ?_⟩
          · simp [eqF, hq, h]
          · rw [w64_of (n := (k : Int) + 1) (by omega) (by omega)]; exact Gc.refl _ _
      · have hc : k = n := by simp only [decide_eq_false_iff_not] at hc; omega
        subst hc
        exact ⟨_, .inl ⟨rfl, hq, rfl⟩, Gc.refl _ _⟩
    · rintro e s (⟨rfl, hq, rfl⟩ | ⟨rfl, k, hq, rfl⟩)
      · refine Sat.of_eq (KIn_eq n n a b n) ⟨?_⟩
        rw [hq]; exact rfl
      · refine Sat.of_eq (KInR_eq n n a b k) ⟨?_⟩
        rw [hq]; exact rfl
noncomputable def cInts : Ctr := fun ss => match ss with
  | [.d d, .d e] => match rowD 1 d, rowD 1 e with
    | some (n, c1), some (m, c2) => .need (I64C n c1 ∧ I64C m c2) (.ret (bv (eqI n (intCell c1) m (intCell c2))))
    | _, _ => .fail
  | _ => .fail
theorem cInts_ok : CtrOK Try.prog 107 cInts := by
  refine ctrOK_leS CM_ok DM_ok (by kernel_rfl) (by kernel_rfl) fun ss r h => ?_
  unfold cInts at h
  split at h
  · rename_i d e
    split at h
    · rename_i n c1 m c2 hr1 hr2
      obtain ⟨⟨h1, h2⟩, rfl⟩ := h
      have k := in_sat (a := intCell c1) (b := intCell c2) h1.1 h2.1
      refine ⟨[ro64 n (intCell c1), ro64 m (intCell c2)], 200, .nil, ?_, ?_⟩
      · have k1 := h1.le hr1
        have k2 := h2.le hr2
        simp only [leSVs, leSV, ro64, and_true] at k1 k2 ⊢
        exact ⟨k1, k2⟩
      · exact k
    · exact h.elim
  · exact h.elim

end Go.Proofs.Ytpaejfeojdoikaa

namespace Go.Proofs.Ytpaejfeojdoikaa
open Go.Sx
set_option maxRecDepth 100000

noncomputable def manN : FuncId → Option Ctr := fun k => match k with
  | 104 => some cTag
  | 176 => some cTag
  | 103 => some cVd
  | 149 => some cCd
  | 99 => some cDig
  | 150 => some cDig
  | 151 => some cTagR
  | 107 => some cInts
  | k => manM k
theorem manN_ok (k : Nat) (c : Ctr) (h : manN k = some c) : CtrOK Try.prog k c ∧ goodF Try.prog k = true := by
  unfold manN at h
  split at h
  · cases h; exact ⟨cTag_ok, by kernel_rfl⟩
  · cases h; exact ⟨cTagL_ok, by kernel_rfl⟩
  · cases h; exact ⟨cVd_ok, by kernel_rfl⟩
  · cases h; exact ⟨cCd_ok, by kernel_rfl⟩
  · cases h; exact ⟨cDig_ok, by kernel_rfl⟩
  · cases h; exact ⟨cDigR_ok, by kernel_rfl⟩
  · cases h; exact ⟨cTagR_ok, by kernel_rfl⟩
  · cases h; exact ⟨cInts_ok, by kernel_rfl⟩
  · exact manM_ok _ _ h
noncomputable def CN : Ctx := ctxO Try.prog manN ownL (fun k => k == 152 || k == 153) 200 .nil 6
theorem CN_ok : CtxOK Try.prog CN := ctxO_ok mixed manN_ok ownL_ok 6
noncomputable def DN : Dr := fun _ => drawn Try.prog CN
theorem DN_ok : DrOK Try.prog CN DN := drawn_ok CN_ok mixed
noncomputable def TN (h : Hint) (k : Nat) (args : List SV) : Tree SV := fnT Try.prog CN DN 200 (fnOf Try.prog k) (bodyOf Try.prog k) args h

noncomputable def LSm_q1 (a : Rel) (i : Nat) (x : Nat) : DV :=
  DV.x (.int .u64 (Rel.fc a i))
noncomputable def LSm_q2 (b : Rel) (i : Nat) (x : Nat) : DV :=
  DV.x (.int .u64 (Rel.fc b i))
noncomputable def LSm_q3 (a : Rel) (i : Nat) (x : Nat) : DV :=
  DV.x (.int .i64 (numN a i))
noncomputable def LSm_q4 (b : Rel) (i : Nat) (x : Nat) : DV :=
  DV.x (.int .i64 (numN b i))
noncomputable def LSm_q5 (a : Rel) (i : Nat) : Int :=
  numN a i
noncomputable def LSm_q6 (b : Rel) (i : Nat) : Int :=
  numN b i
noncomputable def LSm (a b : Rel) : Tree SV :=
  .need (U64C (Rel.fn a) (LSm_q1 a))
  (.need (U64C (Rel.fn b) (LSm_q2 b))
   (.need (I64C (19 + Rel.fn a) (LSm_q3 a) ∧ I64C (19 + Rel.fn b) (LSm_q4 b))
   (.ret (bv (eqI (19 + Rel.fn a) (LSm_q5 a) (19 + Rel.fn b) (LSm_q6 b) && Rel.tag a == Rel.tag b)))))

theorem LSm_eq (a b : Rel) : TN .nil 38 [.agg (relL a), .agg (relL b)] = LSm a b := by kernel_rfl


/-- A chain, as a row. -/
def chD (n : Nat) (f : Nat → Rel) : DV := .ro n 20 fun i j => relD (f i) j
/-! Check -/
noncomputable def tCk (key : Int) (n : Nat) (f : Nat → Rel) : Tree SV := TN .nil 36 [u64v key, .d (chD n f)]
noncomputable def LCk (key : Int) (n : Nat) (f : Nat → Rel) : Tree SV :=
  .ite (decide ((↑n : Int) > (200 : Int))) (.ret (iv (460 : Int))) (.code (codeC (sub [(1 : Nat)] (tCk key n f))) (codeS (sub [(1 : Nat)] (tCk key n f))) (codeK (sub [(1 : Nat)] (tCk key n f))))

theorem LCk_eq (key : Int) (n : Nat) (f : Nat → Rel) : tCk key n f = LCk key n f := by kernel_rfl

noncomputable def tCkR (key : Int) (n : Nat) (f : Nat → Rel) : Tree SV := TN .nil 148 [u64v key, .d (chD n f)]
noncomputable def LCkR (key : Int) (n : Nat) (f : Nat → Rel) : Tree SV :=
  .ite (decide ((↑n : Int) > (200 : Int))) (.ret (iv (460 : Int))) (.code (codeC (sub [(1 : Nat)] (tCkR key n f))) (codeS (sub [(1 : Nat)] (tCkR key n f))) (codeK (sub [(1 : Nat)] (tCkR key n f))))

theorem LCkR_eq (key : Int) (n : Nat) (f : Nat → Rel) : tCkR key n f = LCkR key n f := by kernel_rfl


noncomputable def invCk (key : Int) (n : Nat) (f : Nat → Rel) (k : Nat) (pv : Int) : AS := ⟨[.ok (u64v key), .unk, .unk, .unk, .unk, .ok (u64v pv), .unk, .unk, .unk, .unk, .unk, .ok (.d (chD n f)), .ok (iv n), .ok (iv k)] ++ List.replicate 32 .unk, [], 0, .nil⟩
noncomputable def retCk (key : Int) (n : Nat) (f : Nat → Rel) (k : Nat) (pv : Int) : AS := ⟨[.ok (u64v key), .unk, .unk, .unk, .ok (iv 460), .ok (u64v pv), .unk, .unk, .unk, .unk, .unk, .ok (.d (chD n f)), .ok (iv n), .ok (iv k)] ++ List.replicate 32 .unk, [], 0, .nil⟩
noncomputable def bodyCk : Code := loopN (bodyOf Try.prog 36) 0
noncomputable def BCk_q1 (f : Nat → Rel) (k : Nat) (pv : Int) : Bool :=
  Rel.no (f (Int.toNat (↑k : Int))) != w64 ((↑k : Int) + (1 : Int)) || Rel.prev (f (Int.toNat (↑k : Int))) != pv
noncomputable def BCk_q2 (f : Nat → Rel) (k : Nat) (i : Nat) (x : Nat) : DV :=
  DV.x (.int .u64 (Rel.fc (f (Int.toNat (↑k : Int))) i))
noncomputable def BCk_q3 (f : Nat → Rel) (k : Nat) (pv : Int) : Bool :=
  BCk_q1 f k pv || !vdB (f (Int.toNat (↑k : Int)))
noncomputable def BCk_q4 (f : Nat → Rel) (k : Nat) (i : Nat) (x : Nat) : DV :=
  DV.x (.int .i64 (numN (f (Int.toNat (↑k : Int))) i))
noncomputable def BCk_q5 (f : Nat → Rel) (k : Nat) (i : Nat) : Int :=
  numN (f (Int.toNat (↑k : Int))) i
noncomputable def BCk_q6 (f : Nat → Rel) (i : Nat) (j : Nat) : DV :=
  relD (f i) j
noncomputable def BCk (key : Int) (n : Nat) (f : Nat → Rel) (k : Nat) (pv : Int) : Tree (Ex × AS) :=
  .ite (decide ((↑k : Int) < (↑n : Int)))
  (.need ((0 : Int) ≤ (↑k : Int) ∧ (↑k : Int) < (↑n : Int))
   (.need (BCk_q1 f k pv = false → U64C (Rel.fn (f (Int.toNat (↑k : Int)))) (BCk_q2 f k))
   (.need (BCk_q3 f k pv = false → U64C (Rel.fn (f (Int.toNat (↑k : Int)))) (BCk_q2 f k))
   (.need (BCk_q3 f k pv = false → I64C (19 + Rel.fn (f (Int.toNat (↑k : Int)))) (BCk_q4 f k))
   (.ite (BCk_q3 f k pv || Rel.tag (f (Int.toNat (↑k : Int))) != stp key (dgW (19 + Rel.fn (f (Int.toNat (↑k : Int)))) (BCk_q5 f k)))
   (.ret
   (.ret,
   {
   tm :=
   [.ok (SV.d (DV.x (.int .u64 key))), .unk, .unk, .unk, .ok (iv (460 : Int)), .ok (SV.d (DV.x (.int .u64 pv))), .unk, .unk, .unk, .unk, .unk,
   .ok (SV.d (DV.ro n 20 (BCk_q6 f))), .ok (iv (↑n : Int)), .ok (iv (↑k : Int)), .unk, .unk, .unk, .unk, .unk, .unk, .unk, .unk, .unk, .unk, .unk, .unk, .unk, .unk,
   .unk, .unk, .unk, .unk, .unk, .unk, .unk, .unk, .unk, .unk, .unk, .unk, .unk, .unk, .unk, .unk, .unk, .unk],
   hp := [], next := 0, hint := .nil }))
   (.need (U64C (Rel.fn (f (Int.toNat (↑k : Int)))) (BCk_q2 f k))
   (.ret
   (.normal,
   {
   tm :=
   [.ok (SV.d (DV.x (.int .u64 key))), .unk, .unk, .unk, .unk, .ok (SV.d (DV.x (.int .u64 (dig (f (Int.toNat (↑k : Int))))))), .unk, .unk, .unk, .unk, .unk,
   .ok (SV.d (DV.ro n 20 (BCk_q6 f))), .ok (iv (↑n : Int)), .ok (iv (w64 ((↑k : Int) + (1 : Int)))), .unk, .unk, .unk, .unk, .unk, .unk, .unk, .unk, .unk, .unk, .unk,
   .unk, .unk, .unk, .unk, .unk, .unk, .unk, .unk, .unk, .unk, .unk, .unk, .unk, .unk, .unk, .unk, .unk, .unk, .unk, .unk, .unk],
   hp := [], next := 0, hint := .nil }))))))))
  (.ret
   (.exit 0,
   {
   tm :=
   [.ok (SV.d (DV.x (.int .u64 key))), .unk, .unk, .unk, .unk, .ok (SV.d (DV.x (.int .u64 pv))), .unk, .unk, .unk, .unk, .unk, .ok (SV.d (DV.ro n 20 (BCk_q6 f))),
   .ok (iv (↑n : Int)), .ok (iv (↑k : Int)), .unk, .unk, .unk, .unk, .unk, .unk, .unk, .unk, .unk, .unk, .unk, .unk, .unk, .unk, .unk, .unk, .unk, .unk, .unk, .unk, .unk, .unk,
   .unk, .unk, .unk, .unk, .unk, .unk, .unk, .unk, .unk, .unk],
   hp := [], next := 0, hint := .nil }))

theorem BCk_eq (key : Int) (n : Nat) (f : Nat → Rel) (k : Nat) (pv : Int) : cutT 0 [] [0, 4, 5, 11, 12, 13] [] 0 .nil (exec Try.prog CN DN 200 bodyCk (invCk key n f k pv)) = BCk key n f k pv := by kernel_rfl

noncomputable def KCk (key : Int) (n : Nat) (f : Nat → Rel) (k : Nat) (pv : Int) : Tree SV :=
  .ret (iv (0 : Int))

theorem KCk_eq (key : Int) (n : Nat) (f : Nat → Rel) (k : Nat) (pv : Int) : codeK (sub [1] (tCk key n f)) (.exit 0) (invCk key n f k pv) = KCk key n f k pv := by kernel_rfl

noncomputable def KCkR (key : Int) (n : Nat) (f : Nat → Rel) (k : Nat) (pv : Int) : Tree SV :=
  .ret (iv (460 : Int))

theorem KCkR_eq (key : Int) (n : Nat) (f : Nat → Rel) (k : Nat) (pv : Int) : codeK (sub [1] (tCk key n f)) .ret (retCk key n f k pv) = KCkR key n f k pv := by kernel_rfl

noncomputable def invCj (key : Int) (n : Nat) (f : Nat → Rel) (k : Nat) (pv : Int) : AS := ⟨[.ok (u64v key), .ok (.d (chD n f)), .unk, .unk, .unk, .ok (u64v pv), .ok (iv k)] ++ List.replicate 46 .unk, [], 0, .nil⟩
noncomputable def retCj (key : Int) (n : Nat) (f : Nat → Rel) (k : Nat) (pv : Int) : AS := ⟨[.ok (u64v key), .ok (.d (chD n f)), .unk, .unk, .ok (iv 460), .ok (u64v pv), .ok (iv k)] ++ List.replicate 46 .unk, [], 0, .nil⟩
noncomputable def bodyCj : Code := loopN (bodyOf Try.prog 148) 0
noncomputable def BCj_q1 (f : Nat → Rel) (k : Nat) (pv : Int) : Bool :=
  Rel.no (f (Int.toNat (↑k : Int))) != w64 ((↑k : Int) + (1 : Int)) || Rel.prev (f (Int.toNat (↑k : Int))) != pv
noncomputable def BCj_q2 (f : Nat → Rel) (k : Nat) (i : Nat) (x : Nat) : DV :=
  DV.x (.int .u64 (Rel.fc (f (Int.toNat (↑k : Int))) i))
noncomputable def BCj_q3 (f : Nat → Rel) (k : Nat) (pv : Int) : Bool :=
  BCj_q1 f k pv || !cdB (f (Int.toNat (↑k : Int))) || decide ((↑(Rel.fn (f (Int.toNat (↑k : Int)))) : Int) > (8 : Int))
noncomputable def BCj_q4 (f : Nat → Rel) (i : Nat) (j : Nat) : DV :=
  relD (f i) j
noncomputable def BCj (key : Int) (n : Nat) (f : Nat → Rel) (k : Nat) (pv : Int) : Tree (Ex × AS) :=
  .ite (decide ((↑k : Int) < (↑n : Int)))
  (.need ((0 : Int) ≤ (↑k : Int) ∧ (↑k : Int) < (↑n : Int))
   (.need (BCj_q1 f k pv = false → U64C (Rel.fn (f (Int.toNat (↑k : Int)))) (BCj_q2 f k))
   (.need (BCj_q3 f k pv = false → U64C (Rel.fn (f (Int.toNat (↑k : Int)))) (BCj_q2 f k))
   (.ite (BCj_q3 f k pv || Rel.tag (f (Int.toNat (↑k : Int))) != stp key (dig (f (Int.toNat (↑k : Int)))))
   (.ret
   (.ret,
   {
   tm :=
   [.ok (SV.d (DV.x (.int .u64 key))), .ok (SV.d (DV.ro n 20 (BCj_q4 f))), .unk, .unk, .ok (iv (460 : Int)), .ok (SV.d (DV.x (.int .u64 pv))), .ok (iv (↑k : Int)),
   .unk, .unk, .unk, .unk, .unk, .unk, .unk, .unk, .unk, .unk, .unk, .unk, .unk, .unk, .unk, .unk, .unk, .unk, .unk, .unk, .unk, .unk, .unk, .unk, .unk, .unk, .unk,
   .unk, .unk, .unk, .unk, .unk, .unk, .unk, .unk, .unk, .unk, .unk, .unk, .unk, .unk, .unk, .unk, .unk, .unk, .unk],
   hp := [], next := 0, hint := .nil }))
   (.need (U64C (Rel.fn (f (Int.toNat (↑k : Int)))) (BCj_q2 f k))
   (.ret
   (.normal,
   {
   tm :=
   [.ok (SV.d (DV.x (.int .u64 key))), .ok (SV.d (DV.ro n 20 (BCj_q4 f))), .unk, .unk, .unk, .ok (SV.d (DV.x (.int .u64 (dig (f (Int.toNat (↑k : Int))))))),
   .ok (iv (w64 ((↑k : Int) + (1 : Int)))), .unk, .unk, .unk, .unk, .unk, .unk, .unk, .unk, .unk, .unk, .unk, .unk, .unk, .unk, .unk, .unk, .unk, .unk, .unk, .unk, .unk, .unk,
   .unk, .unk, .unk, .unk, .unk, .unk, .unk, .unk, .unk, .unk, .unk, .unk, .unk, .unk, .unk, .unk, .unk, .unk, .unk, .unk, .unk, .unk, .unk, .unk],
   hp := [], next := 0, hint := .nil })))))))
  (.ret
   (.exit 0,
   {
   tm :=
   [.ok (SV.d (DV.x (.int .u64 key))), .ok (SV.d (DV.ro n 20 (BCj_q4 f))), .unk, .unk, .unk, .ok (SV.d (DV.x (.int .u64 pv))), .ok (iv (↑k : Int)), .unk, .unk, .unk,
   .unk, .unk, .unk, .unk, .unk, .unk, .unk, .unk, .unk, .unk, .unk, .unk, .unk, .unk, .unk, .unk, .unk, .unk, .unk, .unk, .unk, .unk, .unk, .unk, .unk, .unk, .unk, .unk,
   .unk, .unk, .unk, .unk, .unk, .unk, .unk, .unk, .unk, .unk, .unk, .unk, .unk, .unk, .unk],
   hp := [], next := 0, hint := .nil }))

theorem BCj_eq (key : Int) (n : Nat) (f : Nat → Rel) (k : Nat) (pv : Int) : cutT 0 [] [0, 1, 4, 5, 6] [] 0 .nil (exec Try.prog CN DN 200 bodyCj (invCj key n f k pv)) = BCj key n f k pv := by kernel_rfl

noncomputable def KCj (key : Int) (n : Nat) (f : Nat → Rel) (k : Nat) (pv : Int) : Tree SV :=
  .ret (iv (0 : Int))

theorem KCj_eq (key : Int) (n : Nat) (f : Nat → Rel) (k : Nat) (pv : Int) : codeK (sub [1] (tCkR key n f)) (.exit 0) (invCj key n f k pv) = KCj key n f k pv := by kernel_rfl

noncomputable def KCjR (key : Int) (n : Nat) (f : Nat → Rel) (k : Nat) (pv : Int) : Tree SV :=
  .ret (iv (460 : Int))

theorem KCjR_eq (key : Int) (n : Nat) (f : Nat → Rel) (k : Nat) (pv : Int) : codeK (sub [1] (tCkR key n f)) .ret (retCj key n f k pv) = KCjR key n f k pv := by kernel_rfl




end Go.Proofs.Ytpaejfeojdoikaa

namespace Go.Proofs.Ytpaejfeojdoikaa
open Go.Sx
set_option maxRecDepth 100000

/-! ### Valid chains -/
/-- The digest of the release before. -/
def prevN (f : Nat → Rel) : Nat → Int
  | 0 => 0
  | k + 1 => dig (f k)
noncomputable def goodR (key : Int) (f : Nat → Rel) (k : Nat) : Bool := (f k).no == (k : Int) + 1 && (f k).prev == prevN f k && vdB (f k) && (f k).tag == stp key (dig (f k))
noncomputable def ckB (key : Int) (f : Nat → Rel) : Nat → Bool
  | 0 => true
  | n + 1 => ckB key f n && goodR key f n
theorem ckB_iff {key : Int} {f : Nat → Rel} : ∀ {n : Nat}, ckB key f n = true ↔ ∀ k, k < n → goodR key f k = true
  | 0 => by simp [ckB]
  | n + 1 => by
    simp only [ckB, Bool.and_eq_true, ckB_iff (n := n)]
    constructor
    · rintro ⟨h1, h2⟩ i hi
      by_cases h : i = n
      · subst h; exact h2
      · exact h1 i (by omega)
    · exact fun h => ⟨fun i hi => h i (by omega), h n (by omega)⟩
noncomputable def ckV (key : Int) (n : Nat) (f : Nat → Rel) : Int := if decide ((n : Int) > 200) then 460 else if ckB key f n then 0 else 460

theorem ck_sat {key : Int} {n : Nat} {f : Nat → Rel} (hf : ∀ i, i < n → (f i).fn ≤ 1000000) : Sat Try.prog (tCk key n f) (· = iv (ckV key n f)) := by
  constructor
  rw [LCk_eq]; unfold LCk
  refine ⟨fun h => ?_, fun h => ?_⟩
  · unfold ckV; rw [if_pos h]; exact rfl
  · have hn : n ≤ 200 := by simp only [decide_eq_false_iff_not] at h; omega
    have e0 : ckV key n f = if ckB key f n then 0 else 460 := by unfold ckV; rw [if_neg (by rw [h]; decide)]
    rw [e0]
    refine code_satS CN_ok DN_ok (n := 200) (n0 := 0) (nx := 0) (roots := []) (keep := [0, 4, 5, 11, 12, 13]) (drop := []) (h := .nil) (c := codeC (sub [1] (tCk key n f))) (st := codeS (sub [1] (tCk key n f))) (k := codeK (sub [1] (tCk key n f))) (body := bodyCk) (by kernel_rfl) (by kernel_rfl)
      (fun q s => ∃ k : Nat, q = n - k ∧ k ≤ n ∧ ckB key f k = true ∧ s = invCk key n f k (prevN f k))
      (fun e s => (e = .exit 0 ∧ ckB key f n = true ∧ s = invCk key n f n (prevN f n)) ∨ (e = .ret ∧ ∃ k, ckB key f n = false ∧ s = retCk key n f k (prevN f k)))
      ⟨_, _, ⟨0, rfl, by omega, rfl, rfl⟩, ?_⟩ ?_ ?_
    · exact entA_sound (roots := []) (keep := [0, 5, 11, 12, 13]) (drop := []) (nx := 0) (h := .nil) (by kernel_rfl)
    · rintro q s ⟨k, rfl, hk, hq, rfl⟩
      refine Sat.of_eq (BCk_eq key n f k (prevN f k)) ?_
      constructor
      unfold BCk BCk_q3 BCk_q1 BCk_q2 BCk_q4
      simp only [Int.toNat_natCast]
      refine ⟨fun hc => ?_, fun hc => ?_⟩
      · have hc : k < n := by simp only [decide_eq_true_eq] at hc; omega
        have hu : U64C (f k).fn fun i _ => .x (.int .u64 ((f k).fc i)) := U64C.self (hf k hc)
        have hi : I64C (19 + (f k).fn) fun i _ => .x (.int .i64 (numN (f k) i)) := I64C.self (by have := hf k hc; omega)
        have hw : w64 ((k : Int) + 1) = (k : Int) + 1 := w64_of (by omega) (by omega)
        simp only [hw]
        have ed : dgW (19 + (f k).fn) (BCk_q5 f k) = dig (f k) := by unfold dig BCk_q5; simp only [Int.toNat_natCast]
        rw [ed]
        refine ⟨by omega, fun _ => hu, fun _ => hu, fun _ => hi, fun h => ?_, fun h => ?_⟩
        · refine ⟨_, .inr ⟨rfl, k, ?_, rfl⟩, Gc.refl _ _⟩
          rw [Bool.eq_false_iff]
          intro h2
          have h3 := ckB_iff.1 h2 k hc
          simp only [goodR, Bool.and_eq_true, beq_iff_eq] at h3
          simp [h3] at h
        · have hg : goodR key f k = true := by
            simp only [Bool.or_eq_false_iff, bne_eq_false_iff_eq, Bool.not_eq_false'] at h
            simp [goodR, h]
          refine ⟨hu, n - (k + 1), _, by omega, ⟨k + 1, rfl, by omega, ?_, rfl⟩, ?_⟩
          · simp [ckB, hq, hg]
          · exact Gc.refl _ _
      · have hc : k = n := by simp only [decide_eq_false_iff_not] at hc; omega
        subst hc
        exact ⟨_, .inl ⟨rfl, hq, rfl⟩, Gc.refl _ _⟩
    · rintro e s (⟨rfl, hq, rfl⟩ | ⟨rfl, k, hq, rfl⟩)
      · refine Sat.of_eq (KCk_eq key n f n _) ⟨?_⟩
        rw [hq]; exact rfl
      · refine Sat.of_eq (KCkR_eq key n f k _) ⟨?_⟩
        rw [hq]; exact rfl

theorem cj_sat {key : Int} {n : Nat} {f : Nat → Rel} (hf : ∀ i, i < n → (f i).fn ≤ 1000000) : Sat Try.prog (tCkR key n f) (· = iv (ckV key n f)) := by
  constructor
  rw [LCkR_eq]; unfold LCkR
  refine ⟨fun h => ?_, fun h => ?_⟩
  · unfold ckV; rw [if_pos h]; exact rfl
  · have hn : n ≤ 200 := by simp only [decide_eq_false_iff_not] at h; omega
    have e0 : ckV key n f = if ckB key f n then 0 else 460 := by unfold ckV; rw [if_neg (by rw [h]; decide)]
    rw [e0]
    refine code_satS CN_ok DN_ok (n := 200) (n0 := 0) (nx := 0) (roots := []) (keep := [0, 1, 4, 5, 6]) (drop := []) (h := .nil) (c := codeC (sub [1] (tCkR key n f))) (st := codeS (sub [1] (tCkR key n f))) (k := codeK (sub [1] (tCkR key n f))) (body := bodyCj) (by kernel_rfl) (by kernel_rfl)
      (fun q s => ∃ k : Nat, q = n - k ∧ k ≤ n ∧ ckB key f k = true ∧ s = invCj key n f k (prevN f k))
      (fun e s => (e = .exit 0 ∧ ckB key f n = true ∧ s = invCj key n f n (prevN f n)) ∨ (e = .ret ∧ ∃ k, ckB key f n = false ∧ s = retCj key n f k (prevN f k)))
      ⟨_, _, ⟨0, rfl, by omega, rfl, rfl⟩, ?_⟩ ?_ ?_
    · exact entA_sound (roots := []) (keep := [0, 1, 5, 6]) (drop := []) (nx := 0) (h := .nil) (by kernel_rfl)
    · rintro q s ⟨k, rfl, hk, hq, rfl⟩
      refine Sat.of_eq (BCj_eq key n f k (prevN f k)) ?_
      constructor
      unfold BCj BCj_q3 BCj_q1 BCj_q2
      simp only [Int.toNat_natCast]
      refine ⟨fun hc => ?_, fun hc => ?_⟩
      · have hc : k < n := by simp only [decide_eq_true_eq] at hc; omega
        have hu : U64C (f k).fn fun i _ => .x (.int .u64 ((f k).fc i)) := U64C.self (hf k hc)
        have hw : w64 ((k : Int) + 1) = (k : Int) + 1 := w64_of (by omega) (by omega)
        simp only [hw]
        refine ⟨by omega, fun _ => hu, fun _ => hu, fun h => ?_, fun h => ?_⟩
        · refine ⟨_, .inr ⟨rfl, k, ?_, rfl⟩, Gc.refl _ _⟩
          rw [Bool.eq_false_iff]
          intro h2
          have h3 := ckB_iff.1 h2 k hc
          simp only [goodR, vdB, Bool.and_eq_true, beq_iff_eq, decide_eq_true_eq] at h3
          simp [h3] at h
          omega
        · have hg : goodR key f k = true := by
            simp only [Bool.or_eq_false_iff, bne_eq_false_iff_eq, Bool.not_eq_false', decide_eq_false_iff_not] at h
            simp only [goodR, vdB, h, Bool.and_eq_true, beq_self_eq_true, decide_eq_true_eq, and_true, true_and]
            omega
          refine ⟨hu, n - (k + 1), _, by omega, ⟨k + 1, rfl, by omega, ?_, rfl⟩, ?_⟩
          · simp [ckB, hq, hg]
          · exact Gc.refl _ _
      · have hc : k = n := by simp only [decide_eq_false_iff_not] at hc; omega
        subst hc
        exact ⟨_, .inl ⟨rfl, hq, rfl⟩, Gc.refl _ _⟩
    · rintro e s (⟨rfl, hq, rfl⟩ | ⟨rfl, k, hq, rfl⟩)
      · refine Sat.of_eq (KCj_eq key n f n _) ⟨?_⟩
        rw [hq]; exact rfl
      · refine Sat.of_eq (KCjR_eq key n f k _) ⟨?_⟩
        rw [hq]; exact rfl
end Go.Proofs.Ytpaejfeojdoikaa

namespace Go.Proofs.Ytpaejfeojdoikaa
open Go.Sx
set_option maxRecDepth 100000
set_option pp.structureInstances false

/-! ### Chains told by their cells -/
def _root_.Go.Sx.frN : DV → Nat
  | .ro n _ _ => n
  | _ => 0
noncomputable def frC : DV → Nat → Int
  | .ro _ _ c => intCell c
  | _ => fun _ => 0
noncomputable def relC (cell : Nat → Nat → DV) (i : Nat) : Rel := ⟨intOf1 (cell i 0), intOf1 (cell i 1), intOf1 (cell i 2), intOf1 (cell i 3), frN (cell i 4), frC (cell i 4), intOf1 (cell i 5), intOf1 (cell i 6), intOf1 (cell i 7), intOf1 (cell i 8), intOf1 (cell i 9), intOf1 (cell i 10), intOf1 (cell i 11), intOf1 (cell i 12), intOf1 (cell i 13), intOf1 (cell i 14), intOf1 (cell i 15), intOf1 (cell i 16), intOf1 (cell i 17), intOf1 (cell i 18), intOf1 (cell i 19)⟩
/-- The cells are those of releases. -/
def ChC (n : Nat) (cell : Nat → Nat → DV) : Prop := n ≤ 1000000 ∧ ∀ i, i < n → (relC cell i).fn ≤ 1000000 ∧ ∀ j, j < 20 → cell i j = relD (relC cell i) j
theorem ChC.self {n : Nat} {f : Nat → Rel} (hn : n ≤ 1000000) (h : ∀ i, i < n → (f i).fn ≤ 1000000) : ChC n fun i j => relD (f i) j := ⟨hn, fun i hi => ⟨h i hi, fun j _ => rfl⟩⟩
theorem ChC.le {n : Nat} {d : DV} {cell : Nat → Nat → DV} (h : rowD 20 d = some (n, cell)) (k : ChC n cell) : leD d (chD n (relC cell)) := rowD_le h fun i j hi hj => (k.2 i hi).2 j hj
theorem ChC.fn {n : Nat} {cell : Nat → Nat → DV} (k : ChC n cell) : ∀ i, i < n → (relC cell i).fn ≤ 1000000 := fun i hi => (k.2 i hi).1

noncomputable def cCk : Ctr := fun ss => match ss with
  | [.d (.x (.int .u64 key)), .d d] => match rowD 20 d with
    | some (n, cell) => .need (ChC n cell) (.ret (iv (ckV key n (relC cell))))
    | none => .fail
  | _ => .fail
theorem cCk_ok : CtrOK Try.prog 36 cCk := by
  refine ctrOK_leS CN_ok DN_ok (by kernel_rfl) (by kernel_rfl) fun ss r h => ?_
  unfold cCk at h
  split at h
  · rename_i key d
    split at h
    · rename_i n cell hr
      obtain ⟨h1, rfl⟩ := h
      have k := ck_sat (key := key) h1.fn
      refine ⟨[u64v key, .d (chD n (relC cell))], 200, .nil, ?_, ?_⟩
      · simp only [leSVs, leSV, u64v, and_true]; exact ⟨by simp [leD], h1.le hr⟩
      · exact k
    · exact h.elim
  · exact h.elim
theorem cCj_ok : CtrOK Try.prog 148 cCk := by
  refine ctrOK_leS CN_ok DN_ok (by kernel_rfl) (by kernel_rfl) fun ss r h => ?_
  unfold cCk at h
  split at h
  · rename_i key d
    split at h
    · rename_i n cell hr
      obtain ⟨h1, rfl⟩ := h
      have k := cj_sat (key := key) h1.fn
      refine ⟨[u64v key, .d (chD n (relC cell))], 200, .nil, ?_, ?_⟩
      · simp only [leSVs, leSV, u64v, and_true]; exact ⟨by simp [leD], h1.le hr⟩
      · exact k
    · exact h.elim
  · exact h.elim
/-- Whether two releases are equal. -/
noncomputable def smB (a b : Rel) : Bool := eqI (19 + a.fn) (numN a) (19 + b.fn) (numN b) && a.tag == b.tag
noncomputable def cSm : Ctr := fun ss => match ss with
  | [.agg l, .agg m] => match relOf l, relOf m with
    | some (a, p), some (b, q) => .need (p ∧ q) (.ret (bv (smB a b)))
    | _, _ => .fail
  | _ => .fail
theorem cSm_ok : CtrOK Try.prog 38 cSm := by
  refine ctrOK_leS CN_ok DN_ok (by kernel_rfl) (by kernel_rfl) fun ss r h => ?_
  unfold cSm at h
  split at h
  · rename_i l m
    split at h
    · rename_i a p b q hr1 hr2
      obtain ⟨⟨h1, h2⟩, rfl⟩ := h
      obtain ⟨h3, h4⟩ := relOf_le hr1 h1
      obtain ⟨h5, h6⟩ := relOf_le hr2 h2
      refine ⟨[.agg (relL a), .agg (relL b)], 200, .nil, ?_, Sat.of_eq (LSm_eq a b) ⟨?_⟩⟩
      · simp only [leSVs, leSV, and_true]; exact ⟨h3, h5⟩
      · unfold LSm
        exact ⟨U64C.self h4, U64C.self h6, ⟨I64C.self (by omega), I64C.self (by omega)⟩, rfl⟩
    · exact h.elim
  · exact h.elim

noncomputable def LCl (n : Nat) (cell : Nat → Nat → DV) : Tree SV :=
  .need ((↑n : Int) = (↑n : Int) ∧ (↑n : Int) = (↑n : Int)) (.ret (SV.d (DV.rf n 20 cell)))

theorem LCl_eq (n : Nat) (cell : Nat → Nat → DV) : TN .nil 152 [.d (.ro n 20 cell)] = LCl n cell := by kernel_rfl

noncomputable def cClip : Ctr := fun ss => match ss with
  | [.d d] => match rowD 20 d with
    | some (n, cell) => .ret (.d (.rf n 20 cell))
    | none => .fail
  | _ => .fail
theorem cClip_ok : CtrOK Try.prog 152 cClip := by
  refine ctrOK_leS CN_ok DN_ok (by kernel_rfl) (by kernel_rfl) fun ss r h => ?_
  unfold cClip at h
  split at h
  · rename_i d
    split at h
    · rename_i n cell hr
      simp only [Tr.ev] at h; subst h
      refine ⟨[.d (.ro n 20 cell)], 200, .nil, ?_, Sat.of_eq (LCl_eq n cell) ⟨?_⟩⟩
      · simp only [leSVs, leSV, and_true]; exact rowD_le hr fun i j _ _ => rfl
      · unfold LCl; exact ⟨⟨rfl, rfl⟩, rfl⟩
    · exact h.elim
  · exact h.elim

noncomputable def manO : FuncId → Option Ctr := fun k => match k with
  | 36 => some cCk
  | 148 => some cCk
  | 38 => some cSm
  | 152 => some cClip
  | k => manN k
theorem manO_ok (k : Nat) (c : Ctr) (h : manO k = some c) : CtrOK Try.prog k c ∧ goodF Try.prog k = true := by
  unfold manO at h
  split at h
  · cases h; exact ⟨cCk_ok, by kernel_rfl⟩
  · cases h; exact ⟨cCj_ok, by kernel_rfl⟩
  · cases h; exact ⟨cSm_ok, by kernel_rfl⟩
  · cases h; exact ⟨cClip_ok, by kernel_rfl⟩
  · exact manN_ok _ _ h
noncomputable def CO : Ctx := ctxO Try.prog manO ownL (fun k => k == 154) 200 .nil 6
theorem CO_ok : CtxOK Try.prog CO := ctxO_ok mixed manO_ok ownL_ok 6
noncomputable def DO : Dr := fun _ => drawn Try.prog CO
theorem DO_ok : DrOK Try.prog CO DO := drawn_ok CO_ok mixed
noncomputable def TO (h : Hint) (k : Nat) (args : List SV) : Tree SV := fnT Try.prog CO DO 200 (fnOf Try.prog k) (bodyOf Try.prog k) args h

noncomputable def LNx_q1 (f : Nat → Rel) (i : Nat) (j : Nat) : DV :=
  relD (f i) j
noncomputable def LNx_q2 (r : Rel) (i : Nat) (x : Nat) : DV :=
  DV.x (.int .u64 (Rel.fc r i))
noncomputable def LNx_q3 (n : Nat) (f : Nat → Rel) (i : Nat) (x : Nat) : DV :=
  DV.x (.int .u64 (Rel.fc (f (Int.toNat (w64 ((↑n : Int) - (1 : Int))))) i))
noncomputable def LNx_q4 (r : Rel) (i : Nat) : Int :=
  Rel.fc r i
noncomputable def LNx_q5 (n : Nat) (f : Nat → Rel) (r : Rel) (i : Nat) (x : Nat) : DV :=
  DV.x
  (.int .i64
   (numN
   (Rel.mk (w64 ((↑n : Int) + (1 : Int))) (dig (f (Int.toNat (w64 ((↑n : Int) - (1 : Int)))))) (Rel.src r) (Rel.cir r) (Rel.fn r) (LNx_q4 r) (Rel.b0 r) (Rel.b1 r) (Rel.b2 r) (Rel.b3 r) (Rel.b4 r) (Rel.b5 r) (Rel.b6 r)
   (Rel.b7 r) (Rel.b8 r) (Rel.b9 r) (Rel.b10 r) (Rel.b11 r) (Rel.pn r) (Rel.pd r) (Rel.tag r))
   i))
noncomputable def LNx_q6 (n : Nat) (f : Nat → Rel) (r : Rel) (i : Nat) : Int :=
  numN
  (Rel.mk (w64 ((↑n : Int) + (1 : Int))) (dig (f (Int.toNat (w64 ((↑n : Int) - (1 : Int)))))) (Rel.src r) (Rel.cir r) (Rel.fn r) (LNx_q4 r) (Rel.b0 r) (Rel.b1 r) (Rel.b2 r) (Rel.b3 r) (Rel.b4 r) (Rel.b5 r) (Rel.b6 r) (Rel.b7 r)
   (Rel.b8 r) (Rel.b9 r) (Rel.b10 r) (Rel.b11 r) (Rel.pn r) (Rel.pd r) (Rel.tag r))
  i
noncomputable def LNx_q7 (key : Int) (n : Nat) (f : Nat → Rel) (r : Rel) (i : Nat) (j : Nat) : DV :=
  selD (decide (0 + i < n)) (relD (f ((0 : Nat) + i)) j)
  (dsAt
   [DV.x (.int .i64 (w64 ((↑n : Int) + (1 : Int)))), DV.x (.int .u64 (dig (f (Int.toNat (w64 ((↑n : Int) - (1 : Int))))))), DV.x (.int .u64 (Rel.src r)), DV.x (.int .u64 (Rel.cir r)),
   DV.ro (Rel.fn r) 1 (LNx_q2 r), DV.x (.int .i64 (Rel.b0 r)), DV.x (.int .i64 (Rel.b1 r)), DV.x (.int .i64 (Rel.b2 r)), DV.x (.int .i64 (Rel.b3 r)),
   DV.x (.int .i64 (Rel.b4 r)), DV.x (.int .i64 (Rel.b5 r)), DV.x (.int .i64 (Rel.b6 r)), DV.x (.int .i64 (Rel.b7 r)), DV.x (.int .i64 (Rel.b8 r)),
   DV.x (.int .i64 (Rel.b9 r)), DV.x (.int .i64 (Rel.b10 r)), DV.x (.int .i64 (Rel.b11 r)), DV.x (.int .i64 (Rel.pn r)), DV.x (.int .i64 (Rel.pd r)),
   DV.x
   (.int .u64
   (stp key
   (dgW
   (19 +
   Rel.fn
   (Rel.mk (w64 ((↑n : Int) + (1 : Int))) (dig (f (Int.toNat (w64 ((↑n : Int) - (1 : Int)))))) (Rel.src r) (Rel.cir r) (Rel.fn r) (LNx_q4 r) (Rel.b0 r) (Rel.b1 r) (Rel.b2 r) (Rel.b3 r) (Rel.b4 r) (Rel.b5 r)
   (Rel.b6 r) (Rel.b7 r) (Rel.b8 r) (Rel.b9 r) (Rel.b10 r) (Rel.b11 r) (Rel.pn r) (Rel.pd r) (Rel.tag r)))
   (LNx_q6 n f r))))]
   (0 + (0 + (0 + i - n)) * 20 + j))
noncomputable def LNx_q8 (n : Nat) (r : Rel) (i : Nat) (x : Nat) : DV :=
  DV.x
  (.int .i64
   (numN
   (Rel.mk (w64 ((↑n : Int) + (1 : Int))) (0 : Int) (Rel.src r) (Rel.cir r) (Rel.fn r) (LNx_q4 r) (Rel.b0 r) (Rel.b1 r) (Rel.b2 r) (Rel.b3 r) (Rel.b4 r) (Rel.b5 r) (Rel.b6 r) (Rel.b7 r) (Rel.b8 r) (Rel.b9 r) (Rel.b10 r)
   (Rel.b11 r) (Rel.pn r) (Rel.pd r) (Rel.tag r))
   i))
noncomputable def LNx_q9 (n : Nat) (r : Rel) (i : Nat) : Int :=
  numN
  (Rel.mk (w64 ((↑n : Int) + (1 : Int))) (0 : Int) (Rel.src r) (Rel.cir r) (Rel.fn r) (LNx_q4 r) (Rel.b0 r) (Rel.b1 r) (Rel.b2 r) (Rel.b3 r) (Rel.b4 r) (Rel.b5 r) (Rel.b6 r) (Rel.b7 r) (Rel.b8 r) (Rel.b9 r) (Rel.b10 r)
   (Rel.b11 r) (Rel.pn r) (Rel.pd r) (Rel.tag r))
  i
noncomputable def LNx_q10 (key : Int) (n : Nat) (f : Nat → Rel) (r : Rel) (i : Nat) (j : Nat) : DV :=
  selD (decide (0 + i < n)) (relD (f ((0 : Nat) + i)) j)
  (dsAt
   [DV.x (.int .i64 (w64 ((↑n : Int) + (1 : Int)))), DV.x (.int .u64 (0 : Int)), DV.x (.int .u64 (Rel.src r)), DV.x (.int .u64 (Rel.cir r)),
   DV.ro (Rel.fn r) 1 (LNx_q2 r), DV.x (.int .i64 (Rel.b0 r)), DV.x (.int .i64 (Rel.b1 r)), DV.x (.int .i64 (Rel.b2 r)), DV.x (.int .i64 (Rel.b3 r)),
   DV.x (.int .i64 (Rel.b4 r)), DV.x (.int .i64 (Rel.b5 r)), DV.x (.int .i64 (Rel.b6 r)), DV.x (.int .i64 (Rel.b7 r)), DV.x (.int .i64 (Rel.b8 r)),
   DV.x (.int .i64 (Rel.b9 r)), DV.x (.int .i64 (Rel.b10 r)), DV.x (.int .i64 (Rel.b11 r)), DV.x (.int .i64 (Rel.pn r)), DV.x (.int .i64 (Rel.pd r)),
   DV.x
   (.int .u64
   (stp key
   (dgW
   (19 +
   Rel.fn
   (Rel.mk (w64 ((↑n : Int) + (1 : Int))) (0 : Int) (Rel.src r) (Rel.cir r) (Rel.fn r) (LNx_q4 r) (Rel.b0 r) (Rel.b1 r) (Rel.b2 r) (Rel.b3 r) (Rel.b4 r) (Rel.b5 r) (Rel.b6 r) (Rel.b7 r) (Rel.b8 r) (Rel.b9 r)
   (Rel.b10 r) (Rel.b11 r) (Rel.pn r) (Rel.pd r) (Rel.tag r)))
   (LNx_q9 n r))))]
   (0 + (0 + (0 + i - n)) * 20 + j))
noncomputable def LNx (key : Int) (n : Nat) (f : Nat → Rel) (r : Rel) : Tree SV :=
  .need (ChC n (LNx_q1 f))
  (.ite ((ckV key n fun i => f i) != (0 : Int)) (.ret (SV.tup [SV.d (DV.x (.slice none 0 0)), iv (460 : Int)]))
   (.ite (decide ((↑n : Int) ≥ (200 : Int))) (.ret (SV.tup [SV.d (DV.x (.slice none 0 0)), iv (2 : Int)]))
   (.need (U64C (Rel.fn r) (LNx_q2 r))
   (.ite (!vdB r) (.ret (SV.tup [SV.d (DV.x (.slice none 0 0)), iv (1 : Int)]))
   (.ite (decide ((↑n : Int) > (0 : Int)))
   (.need ((0 : Int) ≤ w64 ((↑n : Int) - (1 : Int)) ∧ w64 ((↑n : Int) - (1 : Int)) < (↑n : Int))
   (.need (U64C (Rel.fn (f (Int.toNat (w64 ((↑n : Int) - (1 : Int)))))) (LNx_q3 n f))
   (.need (U64C (Rel.fn r) (LNx_q2 r))
   (.need
   (I64C
   (19 +
   Rel.fn
   (Rel.mk (w64 ((↑n : Int) + (1 : Int))) (dig (f (Int.toNat (w64 ((↑n : Int) - (1 : Int)))))) (Rel.src r) (Rel.cir r) (Rel.fn r) (LNx_q4 r) (Rel.b0 r) (Rel.b1 r) (Rel.b2 r) (Rel.b3 r) (Rel.b4 r) (Rel.b5 r)
   (Rel.b6 r) (Rel.b7 r) (Rel.b8 r) (Rel.b9 r) (Rel.b10 r) (Rel.b11 r) (Rel.pn r) (Rel.pd r) (Rel.tag r)))
   (LNx_q5 n f r))
   (.need
   (True ∧
   20 ≤
   List.length
   [iv (w64 ((↑n : Int) + (1 : Int))), SV.d (DV.x (.int .u64 (dig (f (Int.toNat (w64 ((↑n : Int) - (1 : Int)))))))), SV.d (DV.x (.int .u64 (Rel.src r))),
   SV.d (DV.x (.int .u64 (Rel.cir r))), SV.d (DV.ro (Rel.fn r) 1 (LNx_q2 r)), iv (Rel.b0 r), iv (Rel.b1 r), iv (Rel.b2 r), iv (Rel.b3 r), iv (Rel.b4 r), iv (Rel.b5 r),
   iv (Rel.b6 r), iv (Rel.b7 r), iv (Rel.b8 r), iv (Rel.b9 r), iv (Rel.b10 r), iv (Rel.b11 r), iv (Rel.pn r), iv (Rel.pd r),
   SV.d
   (DV.x
   (.int .u64
   (stp key
   (dgW
   (19 +
   Rel.fn
   (Rel.mk (w64 ((↑n : Int) + (1 : Int))) (dig (f (Int.toNat (w64 ((↑n : Int) - (1 : Int)))))) (Rel.src r) (Rel.cir r) (Rel.fn r) (LNx_q4 r) (Rel.b0 r) (Rel.b1 r) (Rel.b2 r) (Rel.b3 r)
   (Rel.b4 r) (Rel.b5 r) (Rel.b6 r) (Rel.b7 r) (Rel.b8 r) (Rel.b9 r) (Rel.b10 r) (Rel.b11 r) (Rel.pn r) (Rel.pd r) (Rel.tag r)))
   (LNx_q6 n f r)))))] ∧
   (n + 1) * 176 ≤ 140737488355328)
   (.need (0 + (n + 1) ≤ n + 1) (.ret (SV.tup [SV.d (DV.ro (n + 1) 20 (LNx_q7 key n f r)), iv (0 : Int)]))))))))
   (.need (U64C (Rel.fn r) (LNx_q2 r))
   (.need
   (I64C
   (19 +
   Rel.fn
   (Rel.mk (w64 ((↑n : Int) + (1 : Int))) (0 : Int) (Rel.src r) (Rel.cir r) (Rel.fn r) (LNx_q4 r) (Rel.b0 r) (Rel.b1 r) (Rel.b2 r) (Rel.b3 r) (Rel.b4 r) (Rel.b5 r) (Rel.b6 r) (Rel.b7 r) (Rel.b8 r) (Rel.b9 r)
   (Rel.b10 r) (Rel.b11 r) (Rel.pn r) (Rel.pd r) (Rel.tag r)))
   (LNx_q8 n r))
   (.need
   (True ∧
   20 ≤
   List.length
   [iv (w64 ((↑n : Int) + (1 : Int))), SV.d (DV.x (.int .u64 (0 : Int))), SV.d (DV.x (.int .u64 (Rel.src r))), SV.d (DV.x (.int .u64 (Rel.cir r))),
   SV.d (DV.ro (Rel.fn r) 1 (LNx_q2 r)), iv (Rel.b0 r), iv (Rel.b1 r), iv (Rel.b2 r), iv (Rel.b3 r), iv (Rel.b4 r), iv (Rel.b5 r), iv (Rel.b6 r), iv (Rel.b7 r), iv (Rel.b8 r), iv (Rel.b9 r),
   iv (Rel.b10 r), iv (Rel.b11 r), iv (Rel.pn r), iv (Rel.pd r),
   SV.d
   (DV.x
   (.int .u64
   (stp key
   (dgW
   (19 +
   Rel.fn
   (Rel.mk (w64 ((↑n : Int) + (1 : Int))) (0 : Int) (Rel.src r) (Rel.cir r) (Rel.fn r) (LNx_q4 r) (Rel.b0 r) (Rel.b1 r) (Rel.b2 r) (Rel.b3 r) (Rel.b4 r) (Rel.b5 r) (Rel.b6 r) (Rel.b7 r)
   (Rel.b8 r) (Rel.b9 r) (Rel.b10 r) (Rel.b11 r) (Rel.pn r) (Rel.pd r) (Rel.tag r)))
   (LNx_q9 n r)))))] ∧
   (n + 1) * 176 ≤ 140737488355328)
   (.need (0 + (n + 1) ≤ n + 1) (.ret (SV.tup [SV.d (DV.ro (n + 1) 20 (LNx_q10 key n f r)), iv (0 : Int)])))))))))))

theorem LNx_eq (key : Int) (n : Nat) (f : Nat → Rel) (r : Rel) : TO .nil 102 [u64v key, .d (chD n f), .agg (relL r)] = LNx key n f r := by kernel_rfl

noncomputable def LNi_q1 (f : Nat → Rel) (i : Nat) (j : Nat) : DV :=
  relD (f i) j
noncomputable def LNi_q2 (r : Rel) (i : Nat) (x : Nat) : DV :=
  DV.x (.int .u64 (Rel.fc r i))
noncomputable def LNi_q3 (n : Nat) (f : Nat → Rel) (i : Nat) (x : Nat) : DV :=
  DV.x (.int .u64 (Rel.fc (f (Int.toNat (w64 ((↑n : Int) - (1 : Int))))) i))
noncomputable def LNi_q4 (r : Rel) (i : Nat) : Int :=
  Rel.fc r i
noncomputable def LNi_q5 (key : Int) (n : Nat) (f : Nat → Rel) (r : Rel) (i : Nat) (j : Nat) : DV :=
  selD (decide (0 + i < 0 + n))
  (bif decide (0 + (0 + i) < 0) then dsAt [] (0 + (0 + (0 + (0 + i))) * 20 + j) else relD (f ((0 : Nat) + ((0 : Nat) + i) - (0 : Nat))) j)
  (dsAt
   [DV.x (.int .i64 (w64 ((↑n : Int) + (1 : Int)))), DV.x (.int .u64 (dig (f (Int.toNat (w64 ((↑n : Int) - (1 : Int))))))), DV.x (.int .u64 (Rel.src r)), DV.x (.int .u64 (Rel.cir r)),
   DV.ro (Rel.fn r) 1 (LNi_q2 r), DV.x (.int .i64 (Rel.b0 r)), DV.x (.int .i64 (Rel.b1 r)), DV.x (.int .i64 (Rel.b2 r)), DV.x (.int .i64 (Rel.b3 r)),
   DV.x (.int .i64 (Rel.b4 r)), DV.x (.int .i64 (Rel.b5 r)), DV.x (.int .i64 (Rel.b6 r)), DV.x (.int .i64 (Rel.b7 r)), DV.x (.int .i64 (Rel.b8 r)),
   DV.x (.int .i64 (Rel.b9 r)), DV.x (.int .i64 (Rel.b10 r)), DV.x (.int .i64 (Rel.b11 r)), DV.x (.int .i64 (Rel.pn r)), DV.x (.int .i64 (Rel.pd r)),
   DV.x
   (.int .u64
   (stp key
   (dig
   (Rel.mk (w64 ((↑n : Int) + (1 : Int))) (dig (f (Int.toNat (w64 ((↑n : Int) - (1 : Int)))))) (Rel.src r) (Rel.cir r) (Rel.fn r) (LNi_q4 r) (Rel.b0 r) (Rel.b1 r) (Rel.b2 r) (Rel.b3 r) (Rel.b4 r) (Rel.b5 r) (Rel.b6 r)
   (Rel.b7 r) (Rel.b8 r) (Rel.b9 r) (Rel.b10 r) (Rel.b11 r) (Rel.pn r) (Rel.pd r) (Rel.tag r)))))]
   (0 + (0 + (0 + i - (0 + n))) * 20 + j))
noncomputable def LNi_q6 (key : Int) (n : Nat) (f : Nat → Rel) (r : Rel) (i : Nat) (j : Nat) : DV :=
  selD (decide (0 + i < 0 + n))
  (bif decide (0 + (0 + i) < 0) then dsAt [] (0 + (0 + (0 + (0 + i))) * 20 + j) else relD (f ((0 : Nat) + ((0 : Nat) + i) - (0 : Nat))) j)
  (dsAt
   [DV.x (.int .i64 (w64 ((↑n : Int) + (1 : Int)))), DV.x (.int .u64 (0 : Int)), DV.x (.int .u64 (Rel.src r)), DV.x (.int .u64 (Rel.cir r)),
   DV.ro (Rel.fn r) 1 (LNi_q2 r), DV.x (.int .i64 (Rel.b0 r)), DV.x (.int .i64 (Rel.b1 r)), DV.x (.int .i64 (Rel.b2 r)), DV.x (.int .i64 (Rel.b3 r)),
   DV.x (.int .i64 (Rel.b4 r)), DV.x (.int .i64 (Rel.b5 r)), DV.x (.int .i64 (Rel.b6 r)), DV.x (.int .i64 (Rel.b7 r)), DV.x (.int .i64 (Rel.b8 r)),
   DV.x (.int .i64 (Rel.b9 r)), DV.x (.int .i64 (Rel.b10 r)), DV.x (.int .i64 (Rel.b11 r)), DV.x (.int .i64 (Rel.pn r)), DV.x (.int .i64 (Rel.pd r)),
   DV.x
   (.int .u64
   (stp key
   (dig
   (Rel.mk (w64 ((↑n : Int) + (1 : Int))) (0 : Int) (Rel.src r) (Rel.cir r) (Rel.fn r) (LNi_q4 r) (Rel.b0 r) (Rel.b1 r) (Rel.b2 r) (Rel.b3 r) (Rel.b4 r) (Rel.b5 r) (Rel.b6 r) (Rel.b7 r) (Rel.b8 r) (Rel.b9 r)
   (Rel.b10 r) (Rel.b11 r) (Rel.pn r) (Rel.pd r) (Rel.tag r)))))]
   (0 + (0 + (0 + i - (0 + n))) * 20 + j))
noncomputable def LNi (key : Int) (n : Nat) (f : Nat → Rel) (r : Rel) : Tree SV :=
  .need (ChC n (LNi_q1 f))
  (.ite ((ckV key n fun i => f i) != (0 : Int)) (.ret (SV.agg [SV.d (DV.x (.slice none 0 0)), iv (460 : Int)]))
   (.ite (decide ((↑n : Int) ≥ (200 : Int))) (.ret (SV.agg [SV.d (DV.x (.slice none 0 0)), iv (2 : Int)]))
   (.need (U64C (Rel.fn r) (LNi_q2 r))
   (.ite (!cdB r || decide ((↑(Rel.fn r) : Int) > (8 : Int))) (.ret (SV.agg [SV.d (DV.x (.slice none 0 0)), iv (1 : Int)]))
   (.ite (decide ((↑n : Int) > (0 : Int)))
   (.need ((0 : Int) ≤ w64 ((↑n : Int) - (1 : Int)) ∧ w64 ((↑n : Int) - (1 : Int)) < (↑n : Int))
   (.need (U64C (Rel.fn (f (Int.toNat (w64 ((↑n : Int) - (1 : Int)))))) (LNi_q3 n f))
   (.need (U64C (Rel.fn r) (LNi_q2 r))
   (.need (0 ≤ 0 ∧ True ∧ (0 + n) * 176 ≤ 140737488355328)
   (.need
   (0 + (0 + n) ≤ 0 + n ∧
   20 ≤
   List.length
   [iv (w64 ((↑n : Int) + (1 : Int))), SV.d (DV.x (.int .u64 (dig (f (Int.toNat (w64 ((↑n : Int) - (1 : Int)))))))), SV.d (DV.x (.int .u64 (Rel.src r))),
   SV.d (DV.x (.int .u64 (Rel.cir r))), SV.d (DV.ro (Rel.fn r) 1 (LNi_q2 r)), iv (Rel.b0 r), iv (Rel.b1 r), iv (Rel.b2 r), iv (Rel.b3 r), iv (Rel.b4 r), iv (Rel.b5 r),
   iv (Rel.b6 r), iv (Rel.b7 r), iv (Rel.b8 r), iv (Rel.b9 r), iv (Rel.b10 r), iv (Rel.b11 r), iv (Rel.pn r), iv (Rel.pd r),
   SV.d
   (DV.x
   (.int .u64
   (stp key
   (dig
   (Rel.mk (w64 ((↑n : Int) + (1 : Int))) (dig (f (Int.toNat (w64 ((↑n : Int) - (1 : Int)))))) (Rel.src r) (Rel.cir r) (Rel.fn r) (LNi_q4 r) (Rel.b0 r) (Rel.b1 r) (Rel.b2 r) (Rel.b3 r)
   (Rel.b4 r) (Rel.b5 r) (Rel.b6 r) (Rel.b7 r) (Rel.b8 r) (Rel.b9 r) (Rel.b10 r) (Rel.b11 r) (Rel.pn r) (Rel.pd r) (Rel.tag r))))))] ∧
   (0 + n + 1) * 176 ≤ 140737488355328)
   (.need (0 + (0 + n + 1) ≤ 0 + n + 1) (.ret (SV.agg [SV.d (DV.ro (0 + n + 1) 20 (LNi_q5 key n f r)), iv (0 : Int)]))))))))
   (.need (U64C (Rel.fn r) (LNi_q2 r))
   (.need (0 ≤ 0 ∧ True ∧ (0 + n) * 176 ≤ 140737488355328)
   (.need
   (0 + (0 + n) ≤ 0 + n ∧
   20 ≤
   List.length
   [iv (w64 ((↑n : Int) + (1 : Int))), SV.d (DV.x (.int .u64 (0 : Int))), SV.d (DV.x (.int .u64 (Rel.src r))), SV.d (DV.x (.int .u64 (Rel.cir r))),
   SV.d (DV.ro (Rel.fn r) 1 (LNi_q2 r)), iv (Rel.b0 r), iv (Rel.b1 r), iv (Rel.b2 r), iv (Rel.b3 r), iv (Rel.b4 r), iv (Rel.b5 r), iv (Rel.b6 r), iv (Rel.b7 r), iv (Rel.b8 r), iv (Rel.b9 r),
   iv (Rel.b10 r), iv (Rel.b11 r), iv (Rel.pn r), iv (Rel.pd r),
   SV.d
   (DV.x
   (.int .u64
   (stp key
   (dig
   (Rel.mk (w64 ((↑n : Int) + (1 : Int))) (0 : Int) (Rel.src r) (Rel.cir r) (Rel.fn r) (LNi_q4 r) (Rel.b0 r) (Rel.b1 r) (Rel.b2 r) (Rel.b3 r) (Rel.b4 r) (Rel.b5 r) (Rel.b6 r) (Rel.b7 r)
   (Rel.b8 r) (Rel.b9 r) (Rel.b10 r) (Rel.b11 r) (Rel.pn r) (Rel.pd r) (Rel.tag r))))))] ∧
   (0 + n + 1) * 176 ≤ 140737488355328)
   (.need (0 + (0 + n + 1) ≤ 0 + n + 1) (.ret (SV.agg [SV.d (DV.ro (0 + n + 1) 20 (LNi_q6 key n f r)), iv (0 : Int)])))))))))))

theorem LNi_eq (key : Int) (n : Nat) (f : Nat → Rel) (r : Rel) : TO .nil 101 [u64v key, .d (chD n f), .agg (relL r)] = LNi key n f r := by kernel_rfl

noncomputable def tSe (n m : Nat) (f g : Nat → Rel) : Tree SV := TO .nil 35 [.d (chD n f), .d (chD m g)]
noncomputable def LSe (n m : Nat) (f g : Nat → Rel) : Tree SV :=
  .ite ((↑n : Int) != (↑m : Int)) (.ret (bv false)) (.code (codeC (sub [(1 : Nat)] (tSe n m f g))) (codeS (sub [(1 : Nat)] (tSe n m f g))) (codeK (sub [(1 : Nat)] (tSe n m f g))))

theorem LSe_eq (n m : Nat) (f g : Nat → Rel) : tSe n m f g = LSe n m f g := by kernel_rfl

noncomputable def fnFi (no : Int) : SV := .fn (.func 154) [] [.rop 1 fun _ => i64d no]
noncomputable def tIx (n : Nat) (f : Nat → Rel) (no : Int) : Tree SV := TO .nil 153 [.d (chD n f), fnFi no]
noncomputable def LIx (n : Nat) (f : Nat → Rel) (no : Int) : Tree SV :=
  .code (codeC (sub [] (tIx n f no))) (codeS (sub [] (tIx n f no))) (codeK (sub [] (tIx n f no)))

theorem LIx_eq (n : Nat) (f : Nat → Rel) (no : Int) : tIx n f no = LIx n f no := by kernel_rfl


noncomputable def invIx (n : Nat) (f : Nat → Rel) (no : Int) (k : Nat) : AS := ⟨[.ok (.d (chD n f)), .ok (fnFi no), .unk, .unk, .unk, .unk, .unk, .ok (iv n), .ok (iv k)] ++ List.replicate 10 .unk, [], 0, .nil⟩
noncomputable def retIx (n : Nat) (f : Nat → Rel) (no : Int) (k : Nat) : AS := ⟨[.ok (.d (chD n f)), .ok (fnFi no), .unk, .unk, .ok (iv k), .unk, .unk, .ok (iv n), .ok (iv k)] ++ List.replicate 10 .unk, [], 0, .nil⟩
noncomputable def bodyIx : Code := loopN (bodyOf Try.prog 153) 0
noncomputable def BIx (n : Nat) (f : Nat → Rel) (no : Int) (k : Nat) : Tree (Ex × AS) :=
  .ite (decide ((↑k : Int) < (↑n : Int)))
  (.need ((0 : Int) ≤ (↑k : Int) ∧ (↑k : Int) < (↑n : Int))
   (.ite (Rel.no (f (Int.toNat (↑k : Int))) == no)
   (.ret
   (.ret,
   AS.mk
   [.ok (SV.d (DV.ro n 20 fun i j => relD (f i) j)), .ok (SV.fn (Fn.func 154) [] [SV.rop 1 fun x => DV.x (.int .i64 no)]), .unk, .unk, .ok (iv (↑k : Int)), .unk, .unk,
   .ok (iv (↑n : Int)), .ok (iv (↑k : Int)), .unk, .unk, .unk, .unk, .unk, .unk, .unk, .unk, .unk, .unk]
   [] 0 .nil))
   (.ret
   (.normal,
   AS.mk
   [.ok (SV.d (DV.ro n 20 fun i j => relD (f i) j)), .ok (SV.fn (Fn.func 154) [] [SV.rop 1 fun x => DV.x (.int .i64 no)]), .unk, .unk, .unk, .unk, .unk, .ok (iv (↑n : Int)),
   .ok (iv (w64 ((↑k : Int) + (1 : Int)))), .unk, .unk, .unk, .unk, .unk, .unk, .unk, .unk, .unk, .unk]
   [] 0 .nil))))
  (.ret
   (.exit 0,
   AS.mk
   [.ok (SV.d (DV.ro n 20 fun i j => relD (f i) j)), .ok (SV.fn (Fn.func 154) [] [SV.rop 1 fun x => DV.x (.int .i64 no)]), .unk, .unk, .unk, .unk, .unk, .ok (iv (↑n : Int)),
   .ok (iv (↑k : Int)), .unk, .unk, .unk, .unk, .unk, .unk, .unk, .unk, .unk, .unk]
   [] 0 .nil))

theorem BIx_eq (n : Nat) (f : Nat → Rel) (no : Int) (k : Nat) : cutT 0 [] [0, 1, 4, 7, 8] [] 0 .nil (exec Try.prog CO DO 200 bodyIx (invIx n f no k)) = BIx n f no k := by kernel_rfl

noncomputable def KIx (n : Nat) (f : Nat → Rel) (no : Int) (k : Nat) : Tree SV :=
  .ret (iv (-1 : Int))

theorem KIx_eq (n : Nat) (f : Nat → Rel) (no : Int) (k : Nat) : codeK (sub [] (tIx n f no)) (.exit 0) (invIx n f no k) = KIx n f no k := by kernel_rfl

noncomputable def KIxR (n : Nat) (f : Nat → Rel) (no : Int) (k : Nat) : Tree SV :=
  .ret (iv (↑k : Int))

theorem KIxR_eq (n : Nat) (f : Nat → Rel) (no : Int) (k : Nat) : codeK (sub [] (tIx n f no)) .ret (retIx n f no k) = KIxR n f no k := by kernel_rfl


noncomputable def invSe (n m : Nat) (f g : Nat → Rel) (k : Nat) : AS := ⟨[.ok (.d (chD n f)), .ok (.d (chD m g)), .unk, .unk, .unk, .ok (iv k)] ++ List.replicate 21 .unk, [], 0, .nil⟩
noncomputable def retSe (n m : Nat) (f g : Nat → Rel) (k : Nat) : AS := ⟨[.ok (.d (chD n f)), .ok (.d (chD m g)), .unk, .unk, .ok (bv false), .ok (iv k)] ++ List.replicate 21 .unk, [], 0, .nil⟩
noncomputable def bodySe : Code := loopN (bodyOf Try.prog 35) 0
noncomputable def BSe_q1 (f : Nat → Rel) (k : Nat) (i : Nat) (x : Nat) : DV :=
  DV.x (.int .u64 (Rel.fc (f (Int.toNat (↑k : Int))) i))
noncomputable def BSe_q2 (g : Nat → Rel) (k : Nat) (i : Nat) (x : Nat) : DV :=
  DV.x (.int .u64 (Rel.fc (g (Int.toNat (↑k : Int))) i))
noncomputable def BSe_q3 (f : Nat → Rel) (i : Nat) (j : Nat) : DV :=
  relD (f i) j
noncomputable def BSe_q4 (g : Nat → Rel) (i : Nat) (j : Nat) : DV :=
  relD (g i) j
noncomputable def BSe (n m : Nat) (f g : Nat → Rel) (k : Nat) : Tree (Ex × AS) :=
  .ite (decide ((↑k : Int) < (↑n : Int)))
  (.need ((0 : Int) ≤ (↑k : Int) ∧ (↑k : Int) < (↑n : Int))
   (.need ((0 : Int) ≤ (↑k : Int) ∧ (↑k : Int) < (↑m : Int))
   (.need (U64C (Rel.fn (f (Int.toNat (↑k : Int)))) (BSe_q1 f k) ∧ U64C (Rel.fn (g (Int.toNat (↑k : Int)))) (BSe_q2 g k))
   (.ite (!smB (f (Int.toNat (↑k : Int))) (g (Int.toNat (↑k : Int))))
   (.ret
   (.ret,
   AS.mk
   [.ok (SV.d (DV.ro n 20 (BSe_q3 f))), .ok (SV.d (DV.ro m 20 (BSe_q4 g))), .unk, .unk, .ok (bv false), .ok (iv (↑k : Int)), .unk, .unk, .unk, .unk, .unk, .unk,
   .unk, .unk, .unk, .unk, .unk, .unk, .unk, .unk, .unk, .unk, .unk, .unk, .unk, .unk, .unk]
   [] 0 .nil))
   (.ret
   (.normal,
   AS.mk
   [.ok (SV.d (DV.ro n 20 (BSe_q3 f))), .ok (SV.d (DV.ro m 20 (BSe_q4 g))), .unk, .unk, .unk, .ok (iv (w64 ((↑k : Int) + (1 : Int)))), .unk, .unk, .unk, .unk,
   .unk, .unk, .unk, .unk, .unk, .unk, .unk, .unk, .unk, .unk, .unk, .unk, .unk, .unk, .unk, .unk, .unk]
   [] 0 .nil))))))
  (.ret
   (.exit 0,
   AS.mk
   [.ok (SV.d (DV.ro n 20 (BSe_q3 f))), .ok (SV.d (DV.ro m 20 (BSe_q4 g))), .unk, .unk, .unk, .ok (iv (↑k : Int)), .unk, .unk, .unk, .unk, .unk, .unk, .unk, .unk,
   .unk, .unk, .unk, .unk, .unk, .unk, .unk, .unk, .unk, .unk, .unk, .unk, .unk]
   [] 0 .nil))

theorem BSe_eq (n m : Nat) (f g : Nat → Rel) (k : Nat) : cutT 0 [] [0, 1, 4, 5] [] 0 .nil (exec Try.prog CO DO 200 bodySe (invSe n m f g k)) = BSe n m f g k := by kernel_rfl

noncomputable def KSe (n m : Nat) (f g : Nat → Rel) (k : Nat) : Tree SV :=
  .ret (bv true)

theorem KSe_eq (n m : Nat) (f g : Nat → Rel) (k : Nat) : codeK (sub [1] (tSe n m f g)) (.exit 0) (invSe n m f g k) = KSe n m f g k := by kernel_rfl

noncomputable def KSeR (n m : Nat) (f g : Nat → Rel) (k : Nat) : Tree SV :=
  .ret (bv false)

theorem KSeR_eq (n m : Nat) (f g : Nat → Rel) (k : Nat) : codeK (sub [1] (tSe n m f g)) .ret (retSe n m f g k) = KSeR n m f g k := by kernel_rfl


end Go.Proofs.Ytpaejfeojdoikaa

namespace Go.Proofs.Ytpaejfeojdoikaa
open Go.Sx
set_option maxRecDepth 100000

/-! ### Finding -/
/-- The place of the first release with a number, or n. -/
def posF (f : Nat → Rel) (no : Int) : Nat → Nat → Nat
  | 0, k => k
  | m + 1, k => if (f k).no = no then k else posF f no m (k + 1)
theorem posF_spec {f : Nat → Rel} {no : Int} {n : Nat} : ∀ m k, k + m = n → (posF f no m k = n ∧ ∀ i, k ≤ i → i < n → (f i).no ≠ no) ∨ (k ≤ posF f no m k ∧ posF f no m k < n ∧ (f (posF f no m k)).no = no) := by
  intro m
  induction m with
  | zero => exact fun k h => .inl ⟨by simpa [posF] using h, fun i h1 h2 => by omega⟩
  | succ m ih =>
    intro k h
    by_cases hk : (f k).no = no
    · have e : posF f no (m + 1) k = k := by simp [posF, hk]
      rw [e]; exact .inr ⟨Nat.le_refl _, by omega, hk⟩
    · have e : posF f no (m + 1) k = posF f no m (k + 1) := by simp [posF, hk]
      rw [e]
      rcases ih (k + 1) (by omega) with ⟨h1, h2⟩ | ⟨h1, h2, h3⟩
      · refine .inl ⟨h1, fun i hi hn => ?_⟩
        by_cases hik : i = k
        · subst hik; exact hk
        · exact h2 i (by omega) hn
      · exact .inr ⟨by omega, h2, h3⟩
def idxV (n : Nat) (f : Nat → Rel) (no : Int) : Int := if posF f no n 0 = n then -1 else (posF f no n 0 : Int)
theorem ix_sat {n : Nat} {f : Nat → Rel} {no : Int} (hn : n ≤ 1000000) : Sat Try.prog (tIx n f no) (· = iv (idxV n f no)) := by
  constructor
  rw [LIx_eq]; unfold LIx
  refine code_satS CO_ok DO_ok (n := 200) (n0 := 0) (nx := 0) (roots := []) (keep := [0, 1, 4, 7, 8]) (drop := []) (h := .nil) (c := codeC (sub [] (tIx n f no))) (st := codeS (sub [] (tIx n f no))) (k := codeK (sub [] (tIx n f no))) (body := bodyIx) (by kernel_rfl) (by kernel_rfl)
    (fun q s => ∃ k : Nat, q = n - k ∧ k ≤ n ∧ posF f no n 0 = posF f no (n - k) k ∧ s = invIx n f no k)
    (fun e s => (e = .exit 0 ∧ idxV n f no = -1 ∧ s = invIx n f no n) ∨ (e = .ret ∧ ∃ k : Nat, idxV n f no = k ∧ s = retIx n f no k))
    ⟨_, _, ⟨0, rfl, by omega, rfl, rfl⟩, ?_⟩ ?_ ?_
  · exact entA_sound (roots := []) (keep := [0, 1, 7, 8]) (drop := []) (nx := 0) (h := .nil) (by kernel_rfl)
  · rintro q s ⟨k, rfl, hk, hq, rfl⟩
    refine Sat.of_eq (BIx_eq n f no k) ?_
    constructor
    unfold BIx
    simp only [Int.toNat_natCast]
    refine ⟨fun hc => ?_, fun hc => ?_⟩
    · have hc : k < n := by simp only [decide_eq_true_eq] at hc; omega
      have hs : posF f no (n - k) k = if (f k).no = no then k else posF f no (n - (k + 1)) (k + 1) := by
        rw [show n - k = (n - (k + 1)) + 1 by omega]; rfl
      refine ⟨by omega, fun h => ?_, fun h => ?_⟩
      · have h : (f k).no = no := by simpa using h
        refine ⟨_, .inr ⟨rfl, k, ?_, rfl⟩, Gc.refl _ _⟩
        unfold idxV
        rw [hq, hs, if_pos h, if_neg (by omega)]
      · have h : (f k).no ≠ no := by simpa using h
        refine ⟨n - (k + 1), _, by omega, ⟨k + 1, rfl, by omega, ?_, rfl⟩, ?_⟩
        · rw [hq, hs, if_neg h]
        · rw [w64_of (n := (k : Int) + 1) (by omega) (by omega)]; exact Gc.refl _ _
    · have hc : k = n := by simp only [decide_eq_false_iff_not] at hc; omega
      subst hc
      refine ⟨_, .inl ⟨rfl, ?_, rfl⟩, Gc.refl _ _⟩
      unfold idxV
      rw [hq, Nat.sub_self]; exact if_pos rfl
  · rintro e s (⟨rfl, hq, rfl⟩ | ⟨rfl, k, hq, rfl⟩)
    · refine Sat.of_eq (KIx_eq n f no n) ⟨?_⟩
      rw [hq]; exact rfl
    · refine Sat.of_eq (KIxR_eq n f no k) ⟨?_⟩
      rw [hq]; exact rfl
noncomputable def cIdx : Ctr := fun ss => match ss with
  | [.d d, .fn (.func 154) [] [.rop 1 c]] => match rowD 20 d, c 0 with
    | some (n, cell), .x (.int .i64 no) => .need (ChC n cell) (.ret (iv (idxV n (relC cell) no)))
    | _, _ => .fail
  | _ => .fail
theorem cIdx_ok : CtrOK Try.prog 153 cIdx := by
  refine ctrOK_leS CO_ok DO_ok (by kernel_rfl) (by kernel_rfl) fun ss r h => ?_
  unfold cIdx at h
  split at h
  · rename_i d c
    split at h
    · rename_i n cell no hr hc
      obtain ⟨h1, rfl⟩ := h
      have k := ix_sat (no := no) (f := relC cell) h1.1
      refine ⟨[.d (chD n (relC cell)), fnFi no], 200, .nil, ?_, ?_⟩
      · simp only [leSVs, leSV, and_true, true_and, fnFi]
        refine ⟨h1.le hr, fun j hj => ?_⟩
        obtain rfl : j = 0 := by omega
        rw [hc]; simp [leD, i64d]
      · exact k
    · exact h.elim
  · exact h.elim

/-! ### Equal chains -/
noncomputable def seF (f g : Nat → Rel) : Nat → Bool
  | 0 => true
  | n + 1 => seF f g n && smB (f n) (g n)
theorem seF_iff {f g : Nat → Rel} : ∀ {n : Nat}, seF f g n = true ↔ ∀ i, i < n → smB (f i) (g i) = true
  | 0 => by simp [seF]
  | n + 1 => by
    simp only [seF, Bool.and_eq_true, seF_iff (n := n)]
    constructor
    · rintro ⟨h1, h2⟩ i hi
      by_cases h : i = n
      · subst h; exact h2
      · exact h1 i (by omega)
    · exact fun h => ⟨fun i hi => h i (by omega), h n (by omega)⟩
noncomputable def seB (n m : Nat) (f g : Nat → Rel) : Bool := n == m && seF f g n
theorem se_sat {n m : Nat} {f g : Nat → Rel} (hn : n ≤ 1000000) (hm : m ≤ 1000000) (hf : ∀ i, i < n → (f i).fn ≤ 1000000) (hg : ∀ i, i < m → (g i).fn ≤ 1000000) : Sat Try.prog (tSe n m f g) (· = bv (seB n m f g)) := by
  constructor
  rw [LSe_eq]; unfold LSe
  refine ⟨fun h => ?_, fun h => ?_⟩
  · have : n ≠ m := by rintro rfl; simp at h
    unfold seB
    rw [show (n == m) = false by simpa using this]; exact rfl
  · have hnm : n = m := by simp at h; omega
    subst hnm
    have e0 : seB n n f g = seF f g n := by unfold seB; simp
    rw [e0]
    refine code_satS CO_ok DO_ok (n := 200) (n0 := 0) (nx := 0) (roots := []) (keep := [0, 1, 4, 5]) (drop := []) (h := .nil) (c := codeC (sub [1] (tSe n n f g))) (st := codeS (sub [1] (tSe n n f g))) (k := codeK (sub [1] (tSe n n f g))) (body := bodySe) (by kernel_rfl) (by kernel_rfl)
      (fun q s => ∃ k : Nat, q = n - k ∧ k ≤ n ∧ seF f g k = true ∧ s = invSe n n f g k)
      (fun e s => (e = .exit 0 ∧ seF f g n = true ∧ s = invSe n n f g n) ∨ (e = .ret ∧ ∃ k, seF f g n = false ∧ s = retSe n n f g k))
      ⟨_, _, ⟨0, rfl, by omega, rfl, rfl⟩, ?_⟩ ?_ ?_
    · exact entA_sound (roots := []) (keep := [0, 1, 5]) (drop := []) (nx := 0) (h := .nil) (by kernel_rfl)
    · rintro q s ⟨k, rfl, hk, hq, rfl⟩
      refine Sat.of_eq (BSe_eq n n f g k) ?_
      constructor
      unfold BSe BSe_q1 BSe_q2
      simp only [Int.toNat_natCast]
      refine ⟨fun hc => ?_, fun hc => ?_⟩
      · have hc : k < n := by simp only [decide_eq_true_eq] at hc; omega
        refine ⟨by omega, by omega, ⟨U64C.self (hf k hc), U64C.self (hg k hc)⟩, fun h => ?_, fun h => ?_⟩
        · have h : smB (f k) (g k) = false := by simpa using h
          refine ⟨_, .inr ⟨rfl, k, ?_, rfl⟩, Gc.refl _ _⟩
          rw [Bool.eq_false_iff]
          intro h2
          rw [seF_iff.1 h2 k hc] at h
          cases h
        · have h : smB (f k) (g k) = true := by simpa using h
          refine ⟨n - (k + 1), _, by omega, ⟨k + 1, rfl, by omega, ?_, rfl⟩, ?_⟩
          · simp [seF, hq, h]
          · rw [w64_of (n := (k : Int) + 1) (by omega) (by omega)]; exact Gc.refl _ _
      · have hc : k = n := by simp only [decide_eq_false_iff_not] at hc; omega
        subst hc
        exact ⟨_, .inl ⟨rfl, hq, rfl⟩, Gc.refl _ _⟩
    · rintro e s (⟨rfl, hq, rfl⟩ | ⟨rfl, k, hq, rfl⟩)
      · refine Sat.of_eq (KSe_eq n n f g n) ⟨?_⟩
        rw [hq]; exact rfl
      · refine Sat.of_eq (KSeR_eq n n f g k) ⟨?_⟩
        rw [hq]; exact rfl
noncomputable def cSe : Ctr := fun ss => match ss with
  | [.d d, .d e] => match rowD 20 d, rowD 20 e with
    | some (n, c1), some (m, c2) => .need (ChC n c1 ∧ ChC m c2) (.ret (bv (seB n m (relC c1) (relC c2))))
    | _, _ => .fail
  | _ => .fail
theorem cSe_ok : CtrOK Try.prog 35 cSe := by
  refine ctrOK_leS CO_ok DO_ok (by kernel_rfl) (by kernel_rfl) fun ss r h => ?_
  unfold cSe at h
  split at h
  · rename_i d e
    split at h
    · rename_i n c1 m c2 hr1 hr2
      obtain ⟨⟨h1, h2⟩, rfl⟩ := h
      have k := se_sat h1.1 h2.1 h1.fn h2.fn
      refine ⟨[.d (chD n (relC c1)), .d (chD m (relC c2))], 200, .nil, ?_, ?_⟩
      · have k1 := h1.le hr1
        have k2 := h2.le hr2
        simp only [leSVs, leSV, and_true]
        exact ⟨k1, k2⟩
      · exact k
    · exact h.elim
  · exact h.elim

end Go.Proofs.Ytpaejfeojdoikaa

namespace Go.Proofs.Ytpaejfeojdoikaa
open Go.Sx
set_option maxRecDepth 100000

/-! ### A further release -/
def bR (n : Nat) (f : Nat → Rel) (r : Rel) : Rel := { r with no := (n : Int) + 1, prev := prevN f n }
def newR (key : Int) (n : Nat) (f : Nat → Rel) (r : Rel) : Rel := { bR n f r with tag := stp key (dig (bR n f r)) }
noncomputable def nxE (key : Int) (n : Nat) (f : Nat → Rel) (r : Rel) : Int := bif ckV key n f != 0 then 460 else bif decide ((n : Int) ≥ 200) then 2 else bif !vdB r then 1 else 0
noncomputable def nxN (key : Int) (n : Nat) (f : Nat → Rel) (r : Rel) : Nat := bif nxE key n f r == 0 then n + 1 else 0
noncomputable def nxF (key : Int) (n : Nat) (f : Nat → Rel) (r : Rel) : Nat → Rel := fun i => bif decide (i < n) then f i else newR key n f r

theorem dsAt_rel {L : List DV} {r : Rel} (h : L = [i64d r.no, u64d r.prev, u64d r.src, u64d r.cir, .ro r.fn 1 fun i _ => .x (.int .u64 (r.fc i)), i64d r.b0, i64d r.b1, i64d r.b2, i64d r.b3, i64d r.b4, i64d r.b5, i64d r.b6, i64d r.b7, i64d r.b8, i64d r.b9, i64d r.b10, i64d r.b11, i64d r.pn, i64d r.pd, u64d r.tag]) : ∀ j, j < 20 → dsAt L j = relD r j := by
  subst h
  intro j hj
  match j, hj with
  | 0, _ => rfl
  | 1, _ => rfl
  | 2, _ => rfl
  | 3, _ => rfl
  | 4, _ => rfl
  | 5, _ => rfl
  | 6, _ => rfl
  | 7, _ => rfl
  | 8, _ => rfl
  | 9, _ => rfl
  | 10, _ => rfl
  | 11, _ => rfl
  | 12, _ => rfl
  | 13, _ => rfl
  | 14, _ => rfl
  | 15, _ => rfl
  | 16, _ => rfl
  | 17, _ => rfl
  | 18, _ => rfl
  | 19, _ => rfl
  | k + 20, h => exact absurd h (by omega)
theorem app_row {n : Nat} {f : Nat → Rel} {r : Rel} {L : List DV} (hL : ∀ j, j < 20 → dsAt L j = relD r j) {i j : Nat} (hi : i < n + 1) (hj : j < 20) :
    selD (decide (i < n)) (relD (f i) j) (dsAt L ((i - n) * 20 + j)) = relD (bif decide (i < n) then f i else r) j := by
  rw [selD_if]
  by_cases h : i < n
  · rw [if_pos h]; simp [h]
  · rw [if_neg h, show (i - n) * 20 + j = j by omega, hL j hj]; simp [h]

theorem newR_fn {key : Int} {n : Nat} {f : Nat → Rel} {r : Rel} : (newR key n f r).fn = r.fn := rfl
theorem nil_le {f : Nat → Rel} {m : Nat} (h : m = 0) : leD (.x (.slice none 0 0)) (chD m f) := by subst h; exact ⟨rfl, rfl⟩
theorem vdB_eq {r : Rel} : (!cdB r || decide ((↑(Rel.fn r) : Int) > 8)) = !vdB r := by
  unfold vdB
  rw [Bool.not_and]
  congr 1
  rw [← decide_not]
  congr 1
  simp

theorem tup2_le {a c : DV} {b : Int} (h : leD a c) : leSV 0 [] [] (.tup [.d a, iv b]) (.tup [.d c, iv b]) := by
  simp only [leSV, leSVs, and_true]; exact ⟨h, by simp [leD, iv, leSV]⟩
theorem agg2_le {a c : DV} {b : Int} (h : leD a c) : leSV 0 [] [] (.agg [.d a, iv b]) (.agg [.d c, iv b]) := by
  simp only [leSV, leSVs, and_true]; exact ⟨h, by simp [leD, iv, leSV]⟩

set_option maxHeartbeats 1000000 in
theorem nx_sat {key : Int} {n : Nat} {f : Nat → Rel} {r : Rel} (hn : n ≤ 1000000) (hf : ∀ i, i < n → (f i).fn ≤ 1000000) (hr : r.fn ≤ 1000000) : Sat Try.prog (LNx key n f r) fun s => leSV 0 [] [] s (.tup [.d (chD (nxN key n f r) (nxF key n f r)), iv (nxE key n f r)]) := by
  constructor
  unfold LNx
  refine ⟨ChC.self hn hf, fun h => ?_, fun h => ?_⟩
  · have h : (ckV key n f != 0) = true := h
    have hE : nxE key n f r = 460 := by unfold nxE; rw [h]; rfl
    rw [hE]
    exact tup2_le (nil_le (by unfold nxN; rw [hE]; rfl))
  · have h : (ckV key n f != 0) = false := h
    refine ⟨fun h1 => ?_, fun h1 => ⟨U64C.self hr, fun h2 => ?_, fun h2 => ?_⟩⟩
    · have hE : nxE key n f r = 2 := by unfold nxE; rw [h, h1]; rfl
      rw [hE]
      exact tup2_le (nil_le (by unfold nxN; rw [hE]; rfl))
    · have hE : nxE key n f r = 1 := by unfold nxE; rw [h, h1, h2]; rfl
      rw [hE]
      exact tup2_le (nil_le (by unfold nxN; rw [hE]; rfl))
    · have hE : nxE key n f r = 0 := by unfold nxE; rw [h, h1, h2]; rfl
      have hN : nxN key n f r = n + 1 := by unfold nxN; rw [hE]; rfl
      rw [hE, hN]
      have e2 : w64 ((n : Int) + 1) = (n : Int) + 1 := w64_of (by omega) (by omega)
      refine ⟨fun h3 => ?_, fun h3 => ?_⟩
      · obtain ⟨m, rfl⟩ : ∃ m, n = m + 1 := ⟨n - 1, by simp only [decide_eq_true_eq] at h3; omega⟩
        have e1 : w64 (((m + 1 : Nat) : Int) - 1) = (m : Int) := by rw [show ((m + 1 : Nat) : Int) - 1 = (m : Int) by omega]; exact w64_of (by omega) (by omega)
        refine ⟨by rw [e1]; omega, ?_, U64C.self hr, ?_, ?_, by omega, ?_⟩
        · unfold LNx_q3; rw [e1, Int.toNat_natCast]; exact U64C.self (c := (f m).fc) (hf m (by omega))
        · exact I64C.self (by show 19 + r.fn ≤ _; omega)
        · exact ⟨trivial, by simp, by omega⟩
        · refine tup2_le ⟨rfl, rfl, fun i j hi hj => ?_⟩
          unfold LNx_q7 LNx_q6 LNx_q4 LNx_q2
          rw [e1, e2]
          simp only [Nat.zero_add, Int.toNat_natCast]
          exact app_row (dsAt_rel (by rfl)) hi hj
      · obtain rfl : n = 0 := by simp only [decide_eq_false_iff_not] at h3; omega
        refine ⟨U64C.self hr, ?_, ?_, by omega, ?_⟩
        · exact I64C.self (by show 19 + r.fn ≤ _; omega)
        · exact ⟨trivial, by simp, by omega⟩
        · refine tup2_le ⟨rfl, rfl, fun i j hi hj => ?_⟩
          obtain rfl : i = 0 := by omega
          unfold LNx_q10 LNx_q9 LNx_q4 LNx_q2
          rw [e2, selD_eq]
          simp only [Nat.zero_add, Int.toNat_natCast, Nat.not_lt_zero, decide_false, cond_false, Nat.sub_zero, Nat.zero_mul]
          exact dsAt_rel (r := newR key 0 f r) (by rfl) j hj

set_option maxHeartbeats 1000000 in
theorem ni_sat {key : Int} {n : Nat} {f : Nat → Rel} {r : Rel} (hn : n ≤ 1000000) (hf : ∀ i, i < n → (f i).fn ≤ 1000000) (hr : r.fn ≤ 1000000) : Sat Try.prog (LNi key n f r) fun s => leSV 0 [] [] s (.agg [.d (chD (nxN key n f r) (nxF key n f r)), iv (nxE key n f r)]) := by
  constructor
  unfold LNi
  refine ⟨ChC.self hn hf, fun h => ?_, fun h => ?_⟩
  · have h : (ckV key n f != 0) = true := h
    have hE : nxE key n f r = 460 := by unfold nxE; rw [h]; rfl
    rw [hE]
    exact agg2_le (nil_le (by unfold nxN; rw [hE]; rfl))
  · have h : (ckV key n f != 0) = false := h
    refine ⟨fun h1 => ?_, fun h1 => ⟨U64C.self hr, fun h2 => ?_, fun h2 => ?_⟩⟩
    · have hE : nxE key n f r = 2 := by unfold nxE; rw [h, h1]; rfl
      rw [hE]
      exact agg2_le (nil_le (by unfold nxN; rw [hE]; rfl))
    · rw [vdB_eq] at h2
      have hE : nxE key n f r = 1 := by unfold nxE; rw [h, h1, h2]; rfl
      rw [hE]
      exact agg2_le (nil_le (by unfold nxN; rw [hE]; rfl))
    · rw [vdB_eq] at h2
      have hE : nxE key n f r = 0 := by unfold nxE; rw [h, h1, h2]; rfl
      have hN : nxN key n f r = n + 1 := by unfold nxN; rw [hE]; rfl
      rw [hE, hN]
      have e2 : w64 ((n : Int) + 1) = (n : Int) + 1 := w64_of (by omega) (by omega)
      refine ⟨fun h3 => ?_, fun h3 => ?_⟩
      · obtain ⟨m, rfl⟩ : ∃ m, n = m + 1 := ⟨n - 1, by simp only [decide_eq_true_eq] at h3; omega⟩
        have e1 : w64 (((m + 1 : Nat) : Int) - 1) = (m : Int) := by rw [show ((m + 1 : Nat) : Int) - 1 = (m : Int) by omega]; exact w64_of (by omega) (by omega)
        refine ⟨by rw [e1]; omega, ?_, U64C.self hr, ⟨by omega, trivial, by omega⟩, ⟨by omega, by simp, by omega⟩, by omega, ?_⟩
        · unfold LNi_q3; rw [e1, Int.toNat_natCast]; exact U64C.self (c := (f m).fc) (hf m (by omega))
        · refine agg2_le ⟨by omega, rfl, fun i j hi hj => ?_⟩
          unfold LNi_q5 LNi_q4 LNi_q2
          rw [e1, e2]
          simp only [Nat.zero_add, Int.toNat_natCast, Nat.not_lt_zero, decide_false, cond_false, Nat.sub_zero]
          exact app_row (dsAt_rel (by rfl)) (by omega) hj
      · obtain rfl : n = 0 := by simp only [decide_eq_false_iff_not] at h3; omega
        refine ⟨U64C.self hr, ⟨by omega, trivial, by omega⟩, ⟨by omega, by simp, by omega⟩, by omega, ?_⟩
        · refine agg2_le ⟨by omega, rfl, fun i j hi hj => ?_⟩
          obtain rfl : i = 0 := by omega
          unfold LNi_q6 LNi_q4 LNi_q2
          rw [e2, selD_eq]
          simp only [Nat.zero_add, Int.toNat_natCast, Nat.not_lt_zero, decide_false, cond_false, Nat.sub_zero, Nat.zero_mul]
          exact dsAt_rel (r := newR key 0 f r) (by rfl) j hj

noncomputable def cNx : Ctr := fun ss => match ss with
  | [.d (.x (.int .u64 key)), .d d, .agg l] => match rowD 20 d, relOf l with
    | some (n, cell), some (r, p) => .need (ChC n cell ∧ p) (.ret (.tup [.d (chD (nxN key n (relC cell) r) (nxF key n (relC cell) r)), iv (nxE key n (relC cell) r)]))
    | _, _ => .fail
  | _ => .fail
noncomputable def cNi : Ctr := fun ss => match ss with
  | [.d (.x (.int .u64 key)), .d d, .agg l] => match rowD 20 d, relOf l with
    | some (n, cell), some (r, p) => .need (ChC n cell ∧ p) (.ret (.agg [.d (chD (nxN key n (relC cell) r) (nxF key n (relC cell) r)), iv (nxE key n (relC cell) r)]))
    | _, _ => .fail
  | _ => .fail
theorem cNx_ok : CtrOK Try.prog 102 cNx := by
  refine ctrOK_leR CO_ok DO_ok (by kernel_rfl) (by kernel_rfl) fun ss r h => ?_
  unfold cNx at h
  split at h
  · rename_i key d l
    split at h
    · rename_i n cell r p hr1 hr2
      obtain ⟨⟨h1, h2⟩, rfl⟩ := h
      obtain ⟨h3, h4⟩ := relOf_le hr2 h2
      have k := nx_sat (key := key) h1.1 h1.fn h4
      refine ⟨[u64v key, .d (chD n (relC cell)), .agg (relL r)], 200, .nil, ?_, ?_⟩
      · simp only [leSVs, leSV, u64v, and_true]; exact ⟨by simp [leD], h1.le hr1, h3⟩
      · exact Sat.of_eq (LNx_eq key n (relC cell) r) k
    · exact h.elim
  · exact h.elim
theorem cNi_ok : CtrOK Try.prog 101 cNi := by
  refine ctrOK_leR CO_ok DO_ok (by kernel_rfl) (by kernel_rfl) fun ss r h => ?_
  unfold cNi at h
  split at h
  · rename_i key d l
    split at h
    · rename_i n cell r p hr1 hr2
      obtain ⟨⟨h1, h2⟩, rfl⟩ := h
      obtain ⟨h3, h4⟩ := relOf_le hr2 h2
      have k := ni_sat (key := key) h1.1 h1.fn h4
      refine ⟨[u64v key, .d (chD n (relC cell)), .agg (relL r)], 200, .nil, ?_, ?_⟩
      · simp only [leSVs, leSV, u64v, and_true]; exact ⟨by simp [leD], h1.le hr1, h3⟩
      · exact Sat.of_eq (LNi_eq key n (relC cell) r) k
    · exact h.elim
  · exact h.elim

end Go.Proofs.Ytpaejfeojdoikaa

