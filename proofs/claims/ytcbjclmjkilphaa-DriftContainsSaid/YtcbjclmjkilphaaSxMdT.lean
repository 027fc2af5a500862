/- Part of a proof of the given statements of this seat (SxMdT): no conditions beyond those typed here. -/
import Derived.Test.YtcbjclmjkilphaaSxMdS
set_option linter.unusedVariables false
set_option linter.unusedSimpArgs false
namespace Go.Proofs.Ytcbjclmjkilphaa
open Go.Sx
set_option maxRecDepth 100000

/-! ### What the intervals are -/

def cR (r : Int) : Int := min (max r (-2000000000)) 2000000000
def nL (st er x r : Int) : Int := max (max (x - st) (cR r - er)) 1
def nH (st er x r : Int) : Int := min (min (x + st) (cR r + er)) (2000000000 - er - 1)
def dL (lo st er : Int) (L : Nat → Int) : Nat → Int
  | 0 => lo
  | k + 1 => nL st er (dL lo st er L k) (L k)
def dH (hi st er : Int) (L : Nat → Int) : Nat → Int
  | 0 => hi
  | k + 1 => nH st er (dH hi st er L k) (L k)
/-- No interval up to k is empty. -/
def dB (lo hi st er : Int) (L : Nat → Int) : Nat → Bool
  | 0 => true
  | k + 1 => dB lo hi st er L k && decide (dL lo st er L (k + 1) ≤ dH hi st er L (k + 1))
def dCnt (lo hi st er : Int) (L : Nat → Int) : Nat → Nat
  | 0 => 0
  | k + 1 => bif dB lo hi st er L (k + 1) then k + 1 else dCnt lo hi st er L k
def dE (lo hi st er : Int) (L : Nat → Int) (n : Nat) : Int := bif dB lo hi st er L n then 0 else 440

structure dV (lo hi st er : Int) : Prop where
  l : 1 ≤ lo
  h : lo ≤ hi ∧ hi ≤ 1000000
  s : 0 ≤ st ∧ st ≤ 1000000
  e : 0 ≤ er ∧ er ≤ 1000000

variable {lo hi st er : Int} {L : Nat → Int} {n k : Nat}

theorem cR_b (r : Int) : -2000000000 ≤ cR r ∧ cR r ≤ 2000000000 := by unfold cR; omega
theorem dB_mono {j k : Nat} (h : j ≤ k) (hb : dB lo hi st er L k = true) : dB lo hi st er L j = true := by
  induction k with
  | zero => obtain rfl : j = 0 := by omega
            rfl
  | succ k ih =>
    rcases Nat.lt_or_ge j (k + 1) with h1 | h1
    · simp only [dB, Bool.and_eq_true] at hb; exact ih (by omega) hb.1
    · obtain rfl : j = k + 1 := by omega
      exact hb
theorem dB_le (hv : dV lo hi st er) (hb : dB lo hi st er L k = true) : dL lo st er L k ≤ dH hi st er L k := by
  cases k with
  | zero => exact hv.h.1
  | succ k => simp only [dB, Bool.and_eq_true, decide_eq_true_eq] at hb; exact hb.2
theorem dL_b (hv : dV lo hi st er) : ∀ k, 1 ≤ dL lo st er L k ∧ dL lo st er L k ≤ 2000000000
  | 0 => by have := hv.l; have := hv.h; simp only [dL]; omega
  | k + 1 => by
    have ih := dL_b hv k
    have := cR_b (L k); have := hv.s; have := hv.e
    simp only [dL, nL]; omega
theorem dH_b (hv : dV lo hi st er) : ∀ k, -2001000000 ≤ dH hi st er L k ∧ dH hi st er L k ≤ 2000000000
  | 0 => by have := hv.l; have := hv.h; simp only [dH]; omega
  | k + 1 => by
    have ih := dH_b hv k
    have := cR_b (L k); have := hv.s; have := hv.e
    simp only [dH, nH]; omega
theorem dCnt_all (h : dB lo hi st er L n = true) : dCnt lo hi st er L n = n := by
  cases n with
  | zero => rfl
  | succ n => simp only [dCnt, h, cond_true]
theorem dCnt_at (h1 : dB lo hi st er L k = true) (h2 : dB lo hi st er L (k + 1) = false) : ∀ n, k < n → dCnt lo hi st er L n = k
  | 0, h => by omega
  | n + 1, h => by
    have hn : dB lo hi st er L (n + 1) = false := by
      cases hb : dB lo hi st er L (n + 1) with
      | false => rfl
      | true => have := dB_mono (show k + 1 ≤ n + 1 by omega) hb; rw [h2] at this; cases this
    simp only [dCnt, hn, cond_false]
    rcases Nat.lt_or_ge k n with h3 | h3
    · exact dCnt_at h1 h2 n h3
    · obtain rfl : k = n := by omega
      exact dCnt_all h1
theorem dB_end (h2 : dB lo hi st er L (k + 1) = false) (h : k < n) : dB lo hi st er L n = false := by
  cases hb : dB lo hi st er L n with
  | false => rfl
  | true => have := dB_mono (show k + 1 ≤ n by omega) hb; rw [h2] at this; cases this

theorem lt_if {a b : Int} : (if a < b then a else b) = min b a := by omega
theorem gt_if {a b : Int} : (if a > b then a else b) = max b a := by omega

theorem scell_snoc {sl sh : Nat → Int} {m : Nat} (i j : Nat) (hi : i < m + 1) (hj : j < 2) :
    selD (decide (i < m)) (scell sl sh (0 + i) j) (dsAt [xi (sl m), xi (sh m)] (0 + (0 + (i - m)) * 2 + j)) = scell sl sh i j := by
  rw [selD_eq]
  by_cases h : i < m
  · simp [h]
  · obtain rfl : i = m := by omega
    simp only [h, decide_false, cond_false, Nat.sub_self]
    have : j = 0 ∨ j = 1 := by omega
    rcases this with rfl | rfl <;> rfl

noncomputable def spR (lo hi st er : Int) (n : Nat) (L : Nat → Int) : SV :=
  .tup [.agg [iv lo, iv hi, iv st, iv er], .d (.ro (dCnt lo hi st er L n + 1) 2 (scell (dL lo st er L) (dH hi st er L))), iv (dE lo hi st er L n)]

noncomputable def atS (lo hi st er : Int) (n : Nat) (L : Nat → Int) (k : Nat) : AS := invS lo hi st er n L 0 (dL lo st er L k) (dH hi st er L k) k (k + 1) (dL lo st er L) (dH hi st er L)
noncomputable def atE (lo hi st er : Int) (n : Nat) (L : Nat → Int) (k : Nat) : AS := invS lo hi st er n L 440 (dL lo st er L (k + 1)) (dH hi st er L (k + 1)) k (k + 1) (dL lo st er L) (dH hi st er L)

theorem invS_gc {e x1 x2 i : Int} {m : Nat} {sl sh : Nat → Int} {c : Nat → Nat → DV} (h : ∀ i j, i < m → j < 2 → c i j = scell sl sh i j) :
    Gc 11 ⟨[.unk, .unk, .ok (.fn (Fn.func 75) [] [.ptr 3 0]), .ok (.ptr 4 0), .unk, .unk, .ok (iv e), .ok (.ptr 5 0), .unk, .unk, .unk, .unk, .unk, .unk, .unk, .ok (ro64 n L), .ok (iv n), .ok (iv i)] ++ List.replicate 32 .unk,
   [some (.cells [iv 0, iv 0, iv 0, iv 0]), some (.cells [iv lo, iv hi, iv st, iv er]), none, some (.cells [.row 11 0 0 m 2]), some (.cells [iv lo, iv hi, iv st, iv er]), some (.cells [iv x1, iv x2]), none, none, none, none, none, some (.row m 2 c)], 12, .nil⟩
   (invS lo hi st er n L e x1 x2 i m sl sh) := by
  refine gc_sound [(11, 11)] [] rfl ?_ ?_
  · simp [invS, leTm, leTV, leSV, leSVs, rn, iv, ro64, leD, List.replicate]
  · simp [invS, leHp, leBlk, leSVs, leSV, rn, iv, leD, srcOf, hget, List.replicate]
    exact h

theorem sp_sat (hv : dV lo hi st er) (hn : n ≤ 1000) : Sat Try.prog (tS lo hi st er n L) (· = spR lo hi st er n L) := by
  constructor
  rw [LS_eq]; unfold LS
  have h1 := hv.l; have h2 := hv.h; have h3 := hv.s; have h4 := hv.e
  refine ⟨fun hc => ?_, fun _ => ⟨rfl, ⟨trivial, by simp, by omega⟩, ?_⟩⟩
  · simp only [Bool.or_eq_true, decide_eq_true_eq, lt_if, gt_if] at hc; omega
  refine code_satS C3_ok D3_ok (n := 200) (n0 := 11) (nx := 12) (roots := [(.cell (.base 3) 0, 11)]) (keep := [2, 3, 6, 7, 15, 16, 17]) (drop := [2, 6, 7, 8, 9, 10]) (h := .nil) (CS lo hi st er n L) (NS lo hi st er n L)
    (fun m s => ∃ k, m = n - k ∧ k ≤ n ∧ dB lo hi st er L k = true ∧ s = atS lo hi st er n L k)
    (fun e s => (e = .exit 0 ∧ dB lo hi st er L n = true ∧ s = atS lo hi st er n L n) ∨ ∃ k, k < n ∧ dB lo hi st er L k = true ∧ dB lo hi st er L (k + 1) = false ∧ e = .ret ∧ s = atE lo hi st er n L k) ⟨n, _, ⟨0, rfl, Nat.zero_le _, rfl, rfl⟩, ?_⟩ ?_ ?_
  · have hI := IS_eq lo hi st er n L
    unfold IS inS at hI
    refine (entA_sound hI).trans (invS_gc fun i j hi hj => ?_)
    obtain rfl : i = 0 := by omega
    have : j = 0 ∨ j = 1 := by omega
    rcases this with rfl | rfl <;> rfl
  · rintro m s ⟨k, rfl, hk, hb, rfl⟩
    have hbody : cutT 11 [(.cell (.base 3) 0, 11)] [2, 3, 6, 7, 15, 16, 17] [2, 6, 7, 8, 9, 10] 12 .nil (exec Try.prog C3 D3 200 bodyS (atS lo hi st er n L k)) = _ := BS_eq lo hi st er n L (dL lo st er L k) (dH hi st er L k) k (k + 1) (dL lo st er L) (dH hi st er L)
    constructor
    rw [hbody]; unfold BS
    have b1 := dL_b hv (L := L) k
    have b2 := dH_b hv (L := L) k
    have hle := dB_le hv hb
    have hc := cR_b (L k)
    simp only [show Int.toNat (k : Int) = k from rfl, lt_if, gt_if]
    rw [show min (max (L k) (-2000000000)) 2000000000 = cR (L k) from rfl]
    rw [w64_of (n := cR (L k) - er) (by omega) (by omega), w64_of (n := cR (L k) + er) (by omega) (by omega), w64_of (n := dL lo st er L k - st) (by omega) (by omega), w64_of (n := dH hi st er L k + st) (by omega) (by omega),
      w64_of (n := 2000000000 - er) (by omega) (by omega), w64_of (n := 2000000000 - er - 1) (by omega) (by omega), w64_of (n := (k : Int) + 1) (by omega) (by omega)]
    rw [show max (max (dL lo st er L k - st) (cR (L k) - er)) 1 = dL lo st er L (k + 1) from rfl, show min (min (dH hi st er L k + st) (cR (L k) + er)) (2000000000 - er - 1) = dH hi st er L (k + 1) from rfl]
    refine ⟨fun hlt => ?_, fun hlt => ?_⟩
    · have hlt : k < n := by simpa using hlt
      refine ⟨⟨by omega, by omega⟩, ?_⟩
      iterate 28 (refine ⟨by decide, ?_⟩)
      refine ⟨fun hc => ?_, fun hc => ⟨⟨by omega, by simp, by omega⟩, ?_⟩⟩
      · have hc : ¬ dL lo st er L (k + 1) ≤ dH hi st er L (k + 1) := by simp only [decide_eq_true_eq] at hc; omega
        have hb2 : dB lo hi st er L (k + 1) = false := by simp only [dB, hc, decide_false, Bool.and_false]
        exact ⟨atE lo hi st er n L k, .inr ⟨k, hlt, hb, hb2, rfl, rfl⟩, Gc.refl _ _⟩
      · have hc : dL lo st er L (k + 1) ≤ dH hi st er L (k + 1) := by simp only [decide_eq_false_iff_not] at hc; omega
        have hb2 : dB lo hi st er L (k + 1) = true := by simp only [dB, hb, hc, decide_true, Bool.and_self]
        refine ⟨n - (k + 1), atS lo hi st er n L (k + 1), by omega, ⟨k + 1, rfl, hlt, hb2, rfl⟩, ?_⟩
        unfold atS
        rw [show ((k + 1 : Nat) : Int) = (k : Int) + 1 by omega]
        exact invS_gc fun i j hi hj => scell_snoc i j hi hj
    · have hlt : ¬ k < n := by simpa using hlt
      obtain rfl : k = n := by omega
      exact ⟨_, .inl ⟨rfl, hb, rfl⟩, Gc.refl _ _⟩
  · intro e s hp
    rcases hp with ⟨h1, hb, h2⟩ | ⟨k, hk, hb, hb2, h1, h2⟩
    · have := KS_eq lo hi st er n L (dL lo st er L n) (dH hi st er L n) n (n + 1) (dL lo st er L) (dH hi st er L)
      rw [h1, h2]; unfold atS; constructor
      rw [this]; unfold KS
      refine ⟨by omega, ?_⟩
      simp only [Nat.zero_add]
      simp only [Tree.sat, spR, dCnt_all hb, dE, hb, cond_true]
    · have := KR_eq lo hi st er n L 440 (dL lo st er L (k + 1)) (dH hi st er L (k + 1)) k (k + 1) (dL lo st er L) (dH hi st er L)
      rw [h1, h2]; unfold atE; constructor
      rw [this]; unfold KR
      refine ⟨by omega, ?_⟩
      simp only [Nat.zero_add]
      simp only [Tree.sat, spR, dCnt_at hb hb2 n hk, dE, dB_end hb2 hk, cond_false]

def intOf1 : DV → Int | .x (.int _ n) => n | _ => 0
noncomputable def intCell (cell : Nat → Nat → DV) : Nat → Int := fun i => intOf1 (cell i 0)

/-- drift.spans. -/
noncomputable def cSpans : Ctr := fun ss => match ss with
  | [.d (.x (.int .i64 lo)), .d (.x (.int .i64 hi)), .d (.x (.int .i64 st)), .d (.x (.int .i64 er)), .d (.ro n 1 cell)] =>
    .need (dV lo hi st er ∧ n ≤ 1000 ∧ ∀ i, i < n → ∃ b, cell i 0 = .x (.int .i64 b)) (.ret (spR lo hi st er n (intCell cell)))
  | _ => .fail

theorem cSpans_ok : CtrOK Try.prog 57 cSpans := by
  refine ctrOK_leS C3_ok D3_ok (by kernel_rfl) (by kernel_rfl) fun ss r h => ?_
  unfold cSpans at h
  split at h
  · rename_i lo hi st er n cell
    obtain ⟨⟨hv, hn, hb⟩, rfl⟩ := h
    refine ⟨[iv lo, iv hi, iv st, iv er, ro64 n (intCell cell)], 200, (.f (.f .nil)), ?_, sp_sat hv hn⟩
    have : ∀ i j, i < n → j < 1 → cell i j = .x (.int .i64 (intCell cell i)) := by
      intro i j hi hj
      obtain rfl : j = 0 := by omega
      obtain ⟨b, e⟩ := hb i hi
      simp [intCell, e, intOf1]
    simp only [leSVs, leSV, iv, ro64, leD, and_true, true_and]
    exact this
  · exact h.elim

end Go.Proofs.Ytcbjclmjkilphaa
