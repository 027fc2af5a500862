/- Part of a proof of the given statements of this seat (SxMdT, SxMdU, SxMdV, SxMdR, SxMdW): no conditions beyond those typed here. -/
import Derived.Test.YtcbjclmjkilphaaSy07
set_option linter.unusedVariables false
set_option linter.unusedSimpArgs false

namespace Go.Proofs.Ytcbjclmjkilphaa
open Go.Sx
set_option maxRecDepth 100000

/-! ### What the intervals are -/

def cR (r : Int) : Int := min (max r (-2000000000)) 2000000000
def nL (st er x r : Int) : Int := max (max (x - st) (cR r - er)) 1
def nH (st er x r : Int) : Int := min (min (x + st) (cR r + er)) (2000000000 - er - 1)
def dL (lo st er : Int) (L : Nat → Int) : Nat → Int
  | 0 => lo
  | k + 1 => nL st er (dL lo st er L k) (L k)
def dH (hi st er : Int) (L : Nat → Int) : Nat → Int
  | 0 => hi
  | k + 1 => nH st er (dH hi st er L k) (L k)
/-- No interval up to k is empty. -/
def dB (lo hi st er : Int) (L : Nat → Int) : Nat → Bool
  | 0 => true
  | k + 1 => dB lo hi st er L k && decide (dL lo st er L (k + 1) ≤ dH hi st er L (k + 1))
def dCnt (lo hi st er : Int) (L : Nat → Int) : Nat → Nat
  | 0 => 0
  | k + 1 => bif dB lo hi st er L (k + 1) then k + 1 else dCnt lo hi st er L k
def dE (lo hi st er : Int) (L : Nat → Int) (n : Nat) : Int := bif dB lo hi st er L n then 0 else 440

structure dV (lo hi st er : Int) : Prop where
  l : 1 ≤ lo
  h : lo ≤ hi ∧ hi ≤ 1000000
  s : 0 ≤ st ∧ st ≤ 1000000
  e : 0 ≤ er ∧ er ≤ 1000000

variable {lo hi st er : Int} {L : Nat → Int} {n k : Nat}

theorem cR_b (r : Int) : -2000000000 ≤ cR r ∧ cR r ≤ 2000000000 := by unfold cR; omega
theorem dB_mono {j k : Nat} (h : j ≤ k) (hb : dB lo hi st er L k = true) : dB lo hi st er L j = true := by
  induction k with
  | zero => obtain rfl : j = 0 := by omega
            rfl
  | succ k ih =>
    rcases Nat.lt_or_ge j (k + 1) with h1 | h1
    · simp only [dB, Bool.and_eq_true] at hb; exact ih (by omega) hb.1
    · obtain rfl : j = k + 1 := by omega
      exact hb
theorem dB_le (hv : dV lo hi st er) (hb : dB lo hi st er L k = true) : dL lo st er L k ≤ dH hi st er L k := by
  cases k with
  | zero => exact hv.h.1
  | succ k => simp only [dB, Bool.and_eq_true, decide_eq_true_eq] at hb; exact hb.2
theorem dL_b (hv : dV lo hi st er) : ∀ k, 1 ≤ dL lo st er L k ∧ dL lo st er L k ≤ 2000000000
  | 0 => by have := hv.l; have := hv.h; simp only [dL]; omega
  | k + 1 => by
    have ih := dL_b hv k
    have := cR_b (L k); have := hv.s; have := hv.e
    simp only [dL, nL]; omega
theorem dH_b (hv : dV lo hi st er) : ∀ k, -2001000000 ≤ dH hi st er L k ∧ dH hi st er L k ≤ 2000000000
  | 0 => by have := hv.l; have := hv.h; simp only [dH]; omega
  | k + 1 => by
    have ih := dH_b hv k
    have := cR_b (L k); have := hv.s; have := hv.e
    simp only [dH, nH]; omega
theorem dCnt_all (h : dB lo hi st er L n = true) : dCnt lo hi st er L n = n := by
  cases n with
  | zero => rfl
  | succ n => simp only [dCnt, h, cond_true]
theorem dCnt_at (h1 : dB lo hi st er L k = true) (h2 : dB lo hi st er L (k + 1) = false) : ∀ n, k < n → dCnt lo hi st er L n = k
  | 0, h => by omega
  | n + 1, h => by
    have hn : dB lo hi st er L (n + 1) = false := by
      cases hb : dB lo hi st er L (n + 1) with
      | false => rfl
      | true => have := dB_mono (show k + 1 ≤ n + 1 by omega) hb; rw [h2] at this; cases this
    simp only [dCnt, hn, cond_false]
    rcases Nat.lt_or_ge k n with h3 | h3
    · exact dCnt_at h1 h2 n h3
    · obtain rfl : k = n := by omega
      exact dCnt_all h1
theorem dB_end (h2 : dB lo hi st er L (k + 1) = false) (h : k < n) : dB lo hi st er L n = false := by
  cases hb : dB lo hi st er L n with
  | false => rfl
  | true => have := dB_mono (show k + 1 ≤ n by omega) hb; rw [h2] at this; cases this

theorem lt_if {a b : Int} : (if a < b then a else b) = min b a := by omega
theorem gt_if {a b : Int} : (if a > b then a else b) = max b a := by omega

theorem scell_snoc {sl sh : Nat → Int} {m : Nat} (i j : Nat) (hi : i < m + 1) (hj : j < 2) :
    selD (decide (i < m)) (scell sl sh (0 + i) j) (dsAt [xi (sl m), xi (sh m)] (0 + (0 + (i - m)) * 2 + j)) = scell sl sh i j := by
  rw [selD_eq]
  by_cases h : i < m
  · simp [h]
  · obtain rfl : i = m := by omega
    simp only [h, decide_false, cond_false, Nat.sub_self]
    have : j = 0 ∨ j = 1 := by omega
    rcases this with rfl | rfl <;> rfl

noncomputable def spR (lo hi st er : Int) (n : Nat) (L : Nat → Int) : SV :=
  .tup [.agg [iv lo, iv hi, iv st, iv er], .d (.ro (dCnt lo hi st er L n + 1) 2 (scell (dL lo st er L) (dH hi st er L))), iv (dE lo hi st er L n)]

noncomputable def atS (lo hi st er : Int) (n : Nat) (L : Nat → Int) (k : Nat) : AS := invS lo hi st er n L 0 (dL lo st er L k) (dH hi st er L k) k (k + 1) (dL lo st er L) (dH hi st er L)
noncomputable def atE (lo hi st er : Int) (n : Nat) (L : Nat → Int) (k : Nat) : AS := invS lo hi st er n L 440 (dL lo st er L (k + 1)) (dH hi st er L (k + 1)) k (k + 1) (dL lo st er L) (dH hi st er L)

theorem invS_gc {e x1 x2 i : Int} {m : Nat} {sl sh : Nat → Int} {c : Nat → Nat → DV} (h : ∀ i j, i < m → j < 2 → c i j = scell sl sh i j) :
    Gc 11 ⟨[.unk, .unk, .ok (.fn (Fn.func 75) [] [.ptr 3 0]), .ok (.ptr 4 0), .unk, .unk, .ok (iv e), .ok (.ptr 5 0), .unk, .unk, .unk, .unk, .unk, .unk, .unk, .ok (ro64 n L), .ok (iv n), .ok (iv i)] ++ List.replicate 32 .unk,
   [some (.cells [iv 0, iv 0, iv 0, iv 0]), some (.cells [iv lo, iv hi, iv st, iv er]), none, some (.cells [.row 11 0 0 m 2]), some (.cells [iv lo, iv hi, iv st, iv er]), some (.cells [iv x1, iv x2]), none, none, none, none, none, some (.row m 2 c)], 12, .nil⟩
   (invS lo hi st er n L e x1 x2 i m sl sh) := by
  refine gc_sound [(11, 11)] [] rfl ?_ ?_
  · simp [invS, leTm, leTV, leSV, leSVs, rn, iv, ro64, leD, List.replicate]
  · simp [invS, leHp, leBlk, leSVs, leSV, rn, iv, leD, srcOf, hget, List.replicate]
    exact h

theorem sp_sat (hv : dV lo hi st er) (hn : n ≤ 1000) : Sat Try.prog (tS lo hi st er n L) (· = spR lo hi st er n L) := by
  constructor
  rw [LS_eq]; unfold LS
  have h1 := hv.l; have h2 := hv.h; have h3 := hv.s; have h4 := hv.e
  refine ⟨fun hc => ?_, fun _ => ⟨rfl, ⟨trivial, by simp, by omega⟩, ?_⟩⟩
  · simp only [Bool.or_eq_true, decide_eq_true_eq, lt_if, gt_if] at hc; omega
  refine code_satS C3_ok D3_ok (n := 200) (n0 := 11) (nx := 12) (roots := [(.cell (.base 3) 0, 11)]) (keep := [2, 3, 6, 7, 15, 16, 17]) (drop := [2, 6, 7, 8, 9, 10]) (h := .nil) (CS lo hi st er n L) (NS lo hi st er n L)
    (fun m s => ∃ k, m = n - k ∧ k ≤ n ∧ dB lo hi st er L k = true ∧ s = atS lo hi st er n L k)
    (fun e s => (e = .exit 0 ∧ dB lo hi st er L n = true ∧ s = atS lo hi st er n L n) ∨ ∃ k, k < n ∧ dB lo hi st er L k = true ∧ dB lo hi st er L (k + 1) = false ∧ e = .ret ∧ s = atE lo hi st er n L k) ⟨n, _, ⟨0, rfl, Nat.zero_le _, rfl, rfl⟩, ?_⟩ ?_ ?_
  · have hI := IS_eq lo hi st er n L
    unfold IS inS at hI
    refine (entA_sound hI).trans (invS_gc fun i j hi hj => ?_)
    obtain rfl : i = 0 := by omega
    have : j = 0 ∨ j = 1 := by omega
    rcases this with rfl | rfl <;> rfl
  · rintro m s ⟨k, rfl, hk, hb, rfl⟩
    have hbody : cutT 11 [(.cell (.base 3) 0, 11)] [2, 3, 6, 7, 15, 16, 17] [2, 6, 7, 8, 9, 10] 12 .nil (exec Try.prog C3 D3 200 bodyS (atS lo hi st er n L k)) = _ := BS_eq lo hi st er n L (dL lo st er L k) (dH hi st er L k) k (k + 1) (dL lo st er L) (dH hi st er L)
    constructor
    rw [hbody]; unfold BS
    have b1 := dL_b hv (L := L) k
    have b2 := dH_b hv (L := L) k
    have hle := dB_le hv hb
    have hc := cR_b (L k)
    simp only [show Int.toNat (k : Int) = k from rfl, lt_if, gt_if]
    rw [show min (max (L k) (-2000000000)) 2000000000 = cR (L k) from rfl]
    rw [w64_of (n := cR (L k) - er) (by omega) (by omega), w64_of (n := cR (L k) + er) (by omega) (by omega), w64_of (n := dL lo st er L k - st) (by omega) (by omega), w64_of (n := dH hi st er L k + st) (by omega) (by omega),
      w64_of (n := 2000000000 - er) (by omega) (by omega), w64_of (n := 2000000000 - er - 1) (by omega) (by omega), w64_of (n := (k : Int) + 1) (by omega) (by omega)]
    rw [show max (max (dL lo st er L k - st) (cR (L k) - er)) 1 = dL lo st er L (k + 1) from rfl, show min (min (dH hi st er L k + st) (cR (L k) + er)) (2000000000 - er - 1) = dH hi st er L (k + 1) from rfl]
    refine ⟨fun hlt => ?_, fun hlt => ?_⟩
    · have hlt : k < n := by simpa using hlt
      refine ⟨⟨by omega, by omega⟩, ?_⟩
      iterate 28 (refine ⟨by decide, ?_⟩)
      refine ⟨fun hc => ?_, fun hc => ⟨⟨by omega, by simp, by omega⟩, ?_⟩⟩
      · have hc : ¬ dL lo st er L (k + 1) ≤ dH hi st er L (k + 1) := by simp only [decide_eq_true_eq] at hc; omega
        have hb2 : dB lo hi st er L (k + 1) = false := by simp only [dB, hc, decide_false, Bool.and_false]
        exact ⟨atE lo hi st er n L k, .inr ⟨k, hlt, hb, hb2, rfl, rfl⟩, Gc.refl _ _⟩
      · have hc : dL lo st er L (k + 1) ≤ dH hi st er L (k + 1) := by simp only [decide_eq_false_iff_not] at hc; omega
        have hb2 : dB lo hi st er L (k + 1) = true := by simp only [dB, hb, hc, decide_true, Bool.and_self]
        refine ⟨n - (k + 1), atS lo hi st er n L (k + 1), by omega, ⟨k + 1, rfl, hlt, hb2, rfl⟩, ?_⟩
        unfold atS
        rw [show ((k + 1 : Nat) : Int) = (k : Int) + 1 by omega]
        exact invS_gc fun i j hi hj => scell_snoc i j hi hj
    · have hlt : ¬ k < n := by simpa using hlt
      obtain rfl : k = n := by omega
      exact ⟨_, .inl ⟨rfl, hb, rfl⟩, Gc.refl _ _⟩
  · intro e s hp
    rcases hp with ⟨h1, hb, h2⟩ | ⟨k, hk, hb, hb2, h1, h2⟩
    · have := KS_eq lo hi st er n L (dL lo st er L n) (dH hi st er L n) n (n + 1) (dL lo st er L) (dH hi st er L)
      rw [h1, h2]; unfold atS; constructor
      rw [this]; unfold KS
      refine ⟨by omega, ?_⟩
      simp only [Nat.zero_add]
      simp only [Tree.sat, spR, dCnt_all hb, dE, hb, cond_true]
    · have := KR_eq lo hi st er n L 440 (dL lo st er L (k + 1)) (dH hi st er L (k + 1)) k (k + 1) (dL lo st er L) (dH hi st er L)
      rw [h1, h2]; unfold atE; constructor
      rw [this]; unfold KR
      refine ⟨by omega, ?_⟩
      simp only [Nat.zero_add]
      simp only [Tree.sat, spR, dCnt_at hb hb2 n hk, dE, dB_end hb2 hk, cond_false]

def intOf1 : DV → Int | .x (.int _ n) => n | _ => 0
noncomputable def intCell (cell : Nat → Nat → DV) : Nat → Int := fun i => intOf1 (cell i 0)

/-- drift.spans. -/
noncomputable def cSpans : Ctr := fun ss => match ss with
  | [.d (.x (.int .i64 lo)), .d (.x (.int .i64 hi)), .d (.x (.int .i64 st)), .d (.x (.int .i64 er)), .d (.ro n 1 cell)] =>
    .need (dV lo hi st er ∧ n ≤ 1000 ∧ ∀ i, i < n → ∃ b, cell i 0 = .x (.int .i64 b)) (.ret (spR lo hi st er n (intCell cell)))
  | _ => .fail

theorem cSpans_ok : CtrOK Try.prog 57 cSpans := by
  refine ctrOK_leS C3_ok D3_ok (by kernel_rfl) (by kernel_rfl) fun ss r h => ?_
  unfold cSpans at h
  split at h
  · rename_i lo hi st er n cell
    obtain ⟨⟨hv, hn, hb⟩, rfl⟩ := h
    refine ⟨[iv lo, iv hi, iv st, iv er, ro64 n (intCell cell)], 200, (.f (.f .nil)), ?_, sp_sat hv hn⟩
    have : ∀ i j, i < n → j < 1 → cell i j = .x (.int .i64 (intCell cell i)) := by
      intro i j hi hj
      obtain rfl : j = 0 := by omega
      obtain ⟨b, e⟩ := hb i hi
      simp [intCell, e, intOf1]
    simp only [leSVs, leSV, iv, ro64, leD, and_true, true_and]
    exact this
  · exact h.elim

end Go.Proofs.Ytcbjclmjkilphaa

namespace Go.Proofs.Ytcbjclmjkilphaa
open Go.Sx
set_option maxRecDepth 100000

/-! ### drift.Bounds, drift.Possible -/

noncomputable def man4 : FuncId → Option Ctr := fun k => if k = 57 then some cSpans else none
noncomputable def C4x : Ctx := ctxN Try.prog man4 (fun _ => false) 200 .nil 4
theorem C4x_ok : CtxOK Try.prog C4x := ctxN_ok mixed (fun k c h => by
  unfold man4 at h
  split at h
  · rename_i e; cases h; subst e; exact ⟨cSpans_ok, by kernel_rfl⟩
  · cases h) 4
noncomputable def D4x : Dr := fun _ => drawn Try.prog C4x
theorem D4x_ok : DrOK Try.prog C4x D4x := drawn_ok C4x_ok mixed

noncomputable def tB (lo hi st er : Int) (n : Nat) (L : Nat → Int) : Tree SV := fnT Try.prog C4x D4x 200 (fnOf Try.prog 30) (bodyOf Try.prog 30) [iv lo, iv hi, iv st, iv er, ro64 n L] .nil
noncomputable def tP (lo hi st er : Int) (n : Nat) (L : Nat → Int) (m : Nat) (p : Nat → Int) : Tree SV := fnT Try.prog C4x D4x 200 (fnOf Try.prog 29) (bodyOf Try.prog 29) [iv lo, iv hi, iv st, iv er, ro64 n L, ro64 m p] .nil

noncomputable def LB (lo hi st er : Int) (n : Nat) (L : Nat → Int) : Tree SV :=
  .need (dV lo hi st er ∧ n ≤ 1000 ∧ ∀ (i : Nat), i < n → ∃ b, (fun i x => DV.x (.int .i64 (L i))) i (0 : Nat) = DV.x (.int .i64 b))
  (.ite (dE lo hi st er (fun i => intOf1 (DV.x (.int .i64 (L i)))) n != (0 : Int)) (.ret (.tup [iv (0 : Int), iv (0 : Int), iv (dE lo hi st er (fun i => intOf1 (DV.x (.int .i64 (L i)))) n)]))
    (.need
      ((0 : Int) ≤ w64 ((↑(dCnt lo hi st er (fun i => intOf1 (DV.x (.int .i64 (L i)))) n + 1) : Int) - (1 : Int)) ∧
        w64 ((↑(dCnt lo hi st er (fun i => intOf1 (DV.x (.int .i64 (L i)))) n + 1) : Int) - (1 : Int)) < (↑(dCnt lo hi st er (fun i => intOf1 (DV.x (.int .i64 (L i)))) n + 1) : Int))
      (.need ((0 : Int) ≤ (0 : Int) ∧ (0 : Int) < (2 : Int))
        (.need (0 < 2)
          (.need ((0 : Int) ≤ (1 : Int) ∧ (1 : Int) < (2 : Int))
            (.need (1 < 2)
              (.ret
                (.tup
                  [iv (dL lo st er (fun i => intOf1 (DV.x (.int .i64 (L i)))) (Int.toNat (w64 ((↑(dCnt lo hi st er (fun i => intOf1 (DV.x (.int .i64 (L i)))) n + 1) : Int) - (1 : Int))))),
                    iv (dH hi st er (fun i => intOf1 (DV.x (.int .i64 (L i)))) (Int.toNat (w64 ((↑(dCnt lo hi st er (fun i => intOf1 (DV.x (.int .i64 (L i)))) n + 1) : Int) - (1 : Int))))),
                    iv (0 : Int)]))))))))

theorem LB_eq (lo hi st er : Int) (n : Nat) (L : Nat → Int) : tB lo hi st er n L = LB lo hi st er n L := by kernel_rfl

noncomputable def LP (lo hi st er : Int) (n : Nat) (L : Nat → Int) (m : Nat) (p : Nat → Int) : Tree SV :=
  .ite (decide (lo < (1 : Int)) || decide (hi < lo) || decide (hi > (1000000 : Int)) || decide ((if er < st then er else st) < (0 : Int)) || decide ((if er > st then er else st) > (1000000 : Int)) || decide ((↑n : Int) > (1000 : Int)))
  (.ite (true || (↑m : Int) != w64 ((↑n : Int) + (1 : Int))) (.ret (bv false))
    (.code (codeC (sub [(0 : Nat), (1 : Nat)] (tP lo hi st er n L m p))) (codeS (sub [(0 : Nat), (1 : Nat)] (tP lo hi st er n L m p))) (codeK (sub [(0 : Nat), (1 : Nat)] (tP lo hi st er n L m p)))))
  (.ite (false || (↑m : Int) != w64 ((↑n : Int) + (1 : Int))) (.ret (bv false))
    (.code (codeC (sub [(1 : Nat), (1 : Nat)] (tP lo hi st er n L m p))) (codeS (sub [(1 : Nat), (1 : Nat)] (tP lo hi st er n L m p))) (codeK (sub [(1 : Nat), (1 : Nat)] (tP lo hi st er n L m p)))))

theorem LP_eq (lo hi st er : Int) (n : Nat) (L : Nat → Int) (m : Nat) (p : Nat → Int) : tP lo hi st er n L m p = LP lo hi st er n L m p := by kernel_rfl

noncomputable def invP (lo hi st er : Int) (n : Nat) (L : Nat → Int) (m : Nat) (p : Nat → Int) (i : Int) : AS :=
  ⟨[.unk, .unk, .unk, .unk, .ok (ro64 n L), .ok (ro64 m p), .unk, .unk, .unk, .unk, .unk, .unk, .ok (bv false), .ok (.ptr 0 0), .unk, .ok (.fn (Fn.func 55) [] [])] ++ List.replicate 21 .unk ++ [.ok (ro64 m p), .ok (iv m), .ok (iv i)] ++ List.replicate 57 .unk,
   [some (.cells [iv lo, iv hi, iv st, iv er]), none], 2, .nil⟩
noncomputable def inP (t : Tree SV) : Option AS := entA 2 [] [4, 5, 12, 13, 15, 37, 38, 39] [] 2 .nil t
noncomputable def IP (lo hi st er : Int) (n : Nat) (L : Nat → Int) (m : Nat) (p : Nat → Int) : Option AS :=
  some
  {
    tm :=
      [.unk, .unk, .unk, .unk, .ok (.d (DV.ro n 1 fun i x => DV.x (.int .i64 (L i)))), .ok (.d (DV.ro m 1 fun i x => DV.x (.int .i64 (p i)))), .unk, .unk, .unk, .unk,
        .unk, .unk, .ok (bv false), .ok (.ptr 0 0), .unk, .ok (.fn (Fn.func 55) [] []), .unk, .unk, .unk, .unk, .unk, .unk, .unk, .unk, .unk, .unk, .unk, .unk, .unk,
        .unk, .unk, .unk, .unk, .unk, .unk, .unk, .unk, .ok (.d (DV.ro m 1 fun i x => DV.x (.int .i64 (p i)))), .ok (iv (↑m : Int)), .ok (iv (0 : Int)), .unk, .unk, .unk, .unk, .unk,
        .unk, .unk, .unk, .unk, .unk, .unk, .unk, .unk, .unk, .unk, .unk, .unk, .unk, .unk, .unk, .unk, .unk, .unk, .unk, .unk, .unk, .unk, .unk, .unk, .unk, .unk, .unk, .unk, .unk,
        .unk, .unk, .unk, .unk, .unk, .unk, .unk, .unk, .unk, .unk, .unk, .unk, .unk, .unk, .unk, .unk, .unk, .unk, .unk, .unk, .unk, .unk, .unk],
    hp := [some (.cells [iv lo, iv hi, iv st, iv er]), none], next := 2, hint := .nil }

theorem IP_eq (lo hi st er : Int) (n : Nat) (L : Nat → Int) (m : Nat) (p : Nat → Int) : inP (sub [1, 1] (tP lo hi st er n L m p)) = IP lo hi st er n L m p := by kernel_rfl

noncomputable def BP (lo hi st er : Int) (n : Nat) (L : Nat → Int) (m : Nat) (p : Nat → Int) (i : Int) : Tree (Ex × AS) :=
  .ite (decide (i < (↑m : Int)))
  (.need ((0 : Int) ≤ i ∧ i < (↑m : Int))
   (.need ((i == (0 : Int)) = true → (0 : Int) ≤ (0 : Int) ∧ (0 : Int) < (2 : Int))
   (.need ((i == (0 : Int)) = true → 0 < 2)
   (.need ((i == (0 : Int)) = true → decide (p (Int.toNat i) ≥ lo) = true → (0 : Int) ≤ (1 : Int) ∧ (1 : Int) < (2 : Int))
   (.need ((i == (0 : Int)) = true → decide (p (Int.toNat i) ≥ lo) = true → 1 < 2)
   (.ite (i == (0 : Int) && !(decide (p (Int.toNat i) ≥ lo) && decide (p (Int.toNat i) ≤ hi)))
   (.ret
   (.ret,
   {
   tm :=
   [.unk, .unk, .unk, .unk, .ok (.d (DV.ro n 1 fun i x => DV.x (.int .i64 (L i)))), .ok (.d (DV.ro m 1 fun i x => DV.x (.int .i64 (p i)))), .unk, .unk,
   .unk, .unk, .unk, .unk, .ok (bv false), .ok (.ptr 0 0), .unk, .ok (.fn (Fn.func 55) [] []), .unk, .unk, .unk, .unk, .unk, .unk, .unk, .unk, .unk,
   .unk, .unk, .unk, .unk, .unk, .unk, .unk, .unk, .unk, .unk, .unk, .unk, .ok (.d (DV.ro m 1 fun i x => DV.x (.int .i64 (p i)))), .ok (iv (↑m : Int)), .ok (iv i),
   .unk, .unk, .unk, .unk, .unk, .unk, .unk, .unk, .unk, .unk, .unk, .unk, .unk, .unk, .unk, .unk, .unk, .unk, .unk, .unk, .unk, .unk, .unk, .unk, .unk, .unk, .unk,
   .unk, .unk, .unk, .unk, .unk, .unk, .unk, .unk, .unk, .unk, .unk, .unk, .unk, .unk, .unk, .unk, .unk, .unk, .unk, .unk, .unk, .unk, .unk, .unk, .unk, .unk, .unk,
   .unk, .unk, .unk],
   hp := [some (.cells [iv lo, iv hi, iv st, iv er]), none], next := 2, hint := .nil }))
   (.need (decide (i > (0 : Int)) = true ∧ decide (p (Int.toNat i) < (1 : Int)) = false → (0 : Int) ≤ w64 (i - (1 : Int)) ∧ w64 (i - (1 : Int)) < (↑m : Int))
   (.need (decide (i > (0 : Int)) = true ∧ decide (p (Int.toNat i) < (1 : Int)) = false → (0 : Int) ≤ w64 (i - (1 : Int)) ∧ w64 (i - (1 : Int)) < (↑m : Int))
   (.need (decide (i > (0 : Int)) = true ∧ decide (p (Int.toNat i) < (1 : Int)) = false → (0 : Int) ≤ (0 : Int) ∧ (0 : Int) < (2 : Int))
   (.need (decide (i > (0 : Int)) = true ∧ decide (p (Int.toNat i) < (1 : Int)) = false → 0 < 2)
   (.need (decide (i > (0 : Int)) = true ∧ decide (p (Int.toNat i) < (1 : Int)) = false → (0 : Int) ≤ (1 : Int) ∧ (1 : Int) < (2 : Int))
   (.need (decide (i > (0 : Int)) = true ∧ decide (p (Int.toNat i) < (1 : Int)) = false → 1 < 2)
   (.need (decide (i > (0 : Int)) = true ∧ decide (p (Int.toNat i) < (1 : Int)) = false → (0 : Int) ≤ (0 : Int) ∧ (0 : Int) < (2 : Int))
   (.need (decide (i > (0 : Int)) = true ∧ decide (p (Int.toNat i) < (1 : Int)) = false → 0 < 2)
   (.need
   (decide (i > (0 : Int)) = true ∧ decide (p (Int.toNat i) < (1 : Int)) = false →
   decide (p (Int.toNat i) ≥ w64 (p (Int.toNat (w64 (i - (1 : Int)))) - st)) = true → (0 : Int) ≤ (1 : Int) ∧ (1 : Int) < (2 : Int))
   (.need (decide (i > (0 : Int)) = true ∧ decide (p (Int.toNat i) < (1 : Int)) = false → decide (p (Int.toNat i) ≥ w64 (p (Int.toNat (w64 (i - (1 : Int)))) - st)) = true → 1 < 2)
   (.need
   (decide (i > (0 : Int)) = true ∧
   (decide (p (Int.toNat i) < (1 : Int)) || !(decide (p (Int.toNat i) ≥ w64 (p (Int.toNat (w64 (i - (1 : Int)))) - st)) && decide (p (Int.toNat i) ≤ w64 (p (Int.toNat (w64 (i - (1 : Int)))) + st)))) =
   false →
   (0 : Int) ≤ w64 (i - (1 : Int)) ∧ w64 (i - (1 : Int)) < (↑n : Int))
   (.need
   (decide (i > (0 : Int)) = true ∧
   (decide (p (Int.toNat i) < (1 : Int)) || !(decide (p (Int.toNat i) ≥ w64 (p (Int.toNat (w64 (i - (1 : Int)))) - st)) && decide (p (Int.toNat i) ≤ w64 (p (Int.toNat (w64 (i - (1 : Int)))) + st)))) =
   false →
   (0 : Int) ≤ (0 : Int) ∧ (0 : Int) < (2 : Int))
   (.need
   (decide (i > (0 : Int)) = true ∧
   (decide (p (Int.toNat i) < (1 : Int)) ||
   !(decide (p (Int.toNat i) ≥ w64 (p (Int.toNat (w64 (i - (1 : Int)))) - st)) && decide (p (Int.toNat i) ≤ w64 (p (Int.toNat (w64 (i - (1 : Int)))) + st)))) =
   false →
   0 < 2)
   (.need
   (decide (i > (0 : Int)) = true ∧
   (decide (p (Int.toNat i) < (1 : Int)) ||
   !(decide (p (Int.toNat i) ≥ w64 (p (Int.toNat (w64 (i - (1 : Int)))) - st)) && decide (p (Int.toNat i) ≤ w64 (p (Int.toNat (w64 (i - (1 : Int)))) + st)))) =
   false →
   (0 : Int) ≤ (1 : Int) ∧ (1 : Int) < (2 : Int))
   (.need
   (decide (i > (0 : Int)) = true ∧
   (decide (p (Int.toNat i) < (1 : Int)) ||
   !(decide (p (Int.toNat i) ≥ w64 (p (Int.toNat (w64 (i - (1 : Int)))) - st)) && decide (p (Int.toNat i) ≤ w64 (p (Int.toNat (w64 (i - (1 : Int)))) + st)))) =
   false →
   1 < 2)
   (.need
   (decide (i > (0 : Int)) = true ∧
   (decide (p (Int.toNat i) < (1 : Int)) ||
   !(decide (p (Int.toNat i) ≥ w64 (p (Int.toNat (w64 (i - (1 : Int)))) - st)) && decide (p (Int.toNat i) ≤ w64 (p (Int.toNat (w64 (i - (1 : Int)))) + st)))) =
   false →
   (0 : Int) ≤ (0 : Int) ∧ (0 : Int) < (2 : Int))
   (.need
   (decide (i > (0 : Int)) = true ∧
   (decide (p (Int.toNat i) < (1 : Int)) ||
   !(decide (p (Int.toNat i) ≥ w64 (p (Int.toNat (w64 (i - (1 : Int)))) - st)) && decide (p (Int.toNat i) ≤ w64 (p (Int.toNat (w64 (i - (1 : Int)))) + st)))) =
   false →
   0 < 2)
   (.need
   (decide (i > (0 : Int)) = true ∧
   (decide (p (Int.toNat i) < (1 : Int)) ||
   !(decide (p (Int.toNat i) ≥ w64 (p (Int.toNat (w64 (i - (1 : Int)))) - st)) && decide (p (Int.toNat i) ≤ w64 (p (Int.toNat (w64 (i - (1 : Int)))) + st)))) =
   false →
   decide (L (Int.toNat (w64 (i - (1 : Int)))) ≥ w64 (p (Int.toNat i) - er)) = true → (0 : Int) ≤ (1 : Int) ∧ (1 : Int) < (2 : Int))
   (.need
   (decide (i > (0 : Int)) = true ∧
   (decide (p (Int.toNat i) < (1 : Int)) ||
   !(decide (p (Int.toNat i) ≥ w64 (p (Int.toNat (w64 (i - (1 : Int)))) - st)) && decide (p (Int.toNat i) ≤ w64 (p (Int.toNat (w64 (i - (1 : Int)))) + st)))) =
   false →
   decide (L (Int.toNat (w64 (i - (1 : Int)))) ≥ w64 (p (Int.toNat i) - er)) = true → 1 < 2)
   (.ite
   (decide (i > (0 : Int)) &&
   (decide (p (Int.toNat i) < (1 : Int)) ||
   !(decide (p (Int.toNat i) ≥ w64 (p (Int.toNat (w64 (i - (1 : Int)))) - st)) && decide (p (Int.toNat i) ≤ w64 (p (Int.toNat (w64 (i - (1 : Int)))) + st))) ||
   !(decide (L (Int.toNat (w64 (i - (1 : Int)))) ≥ w64 (p (Int.toNat i) - er)) && decide (L (Int.toNat (w64 (i - (1 : Int)))) ≤ w64 (p (Int.toNat i) + er)))))
   (.ret
   (.ret,
   {
   tm :=
   [.unk, .unk, .unk, .unk, .ok (.d (DV.ro n 1 fun i x => DV.x (.int .i64 (L i)))),
   .ok (.d (DV.ro m 1 fun i x => DV.x (.int .i64 (p i)))), .unk, .unk, .unk, .unk, .unk, .unk, .ok (bv false),
   .ok (.ptr 0 0), .unk, .ok (.fn (Fn.func 55) [] []), .unk, .unk, .unk, .unk, .unk, .unk, .unk, .unk, .unk, .unk,
   .unk, .unk, .unk, .unk, .unk, .unk, .unk, .unk, .unk, .unk, .unk, .ok (.d (DV.ro m 1 fun i x => DV.x (.int .i64 (p i)))),
   .ok (iv (↑m : Int)), .ok (iv i), .unk, .unk, .unk, .unk, .unk, .unk, .unk, .unk, .unk, .unk, .unk, .unk, .unk, .unk, .unk, .unk, .unk,
   .unk, .unk, .unk, .unk, .unk, .unk, .unk, .unk, .unk, .unk, .unk, .unk, .unk, .unk, .unk, .unk, .unk, .unk, .unk, .unk, .unk, .unk,
   .unk, .unk, .unk, .unk, .unk, .unk, .unk, .unk, .unk, .unk, .unk, .unk, .unk, .unk, .unk, .unk, .unk, .unk],
   hp := [some (.cells [iv lo, iv hi, iv st, iv er]), none], next := 2, hint := .nil }))
   (.ret
   (.normal,
   {
   tm :=
   [.unk, .unk, .unk, .unk, .ok (.d (DV.ro n 1 fun i x => DV.x (.int .i64 (L i)))),
   .ok (.d (DV.ro m 1 fun i x => DV.x (.int .i64 (p i)))), .unk, .unk, .unk, .unk, .unk, .unk, .ok (bv false),
   .ok (.ptr 0 0), .unk, .ok (.fn (Fn.func 55) [] []), .unk, .unk, .unk, .unk, .unk, .unk, .unk, .unk, .unk, .unk,
   .unk, .unk, .unk, .unk, .unk, .unk, .unk, .unk, .unk, .unk, .unk, .ok (.d (DV.ro m 1 fun i x => DV.x (.int .i64 (p i)))),
   .ok (iv (↑m : Int)), .ok (iv (w64 (i + (1 : Int)))), .unk, .unk, .unk, .unk, .unk, .unk, .unk, .unk, .unk, .unk, .unk, .unk, .unk, .unk, .unk,
   .unk, .unk, .unk, .unk, .unk, .unk, .unk, .unk, .unk, .unk, .unk, .unk, .unk, .unk, .unk, .unk, .unk, .unk, .unk, .unk, .unk, .unk,
   .unk, .unk, .unk, .unk, .unk, .unk, .unk, .unk, .unk, .unk, .unk, .unk, .unk, .unk, .unk, .unk, .unk, .unk, .unk, .unk],
   hp := [some (.cells [iv lo, iv hi, iv st, iv er]), none], next := 2, hint := .nil }))))))))))))))))))))))))))))
  (.ret
   (.exit 0,
   {
   tm :=
   [.unk, .unk, .unk, .unk, .ok (.d (DV.ro n 1 fun i x => DV.x (.int .i64 (L i)))), .ok (.d (DV.ro m 1 fun i x => DV.x (.int .i64 (p i)))), .unk, .unk, .unk, .unk,
   .unk, .unk, .ok (bv false), .ok (.ptr 0 0), .unk, .ok (.fn (Fn.func 55) [] []), .unk, .unk, .unk, .unk, .unk, .unk, .unk, .unk, .unk, .unk, .unk, .unk,
   .unk, .unk, .unk, .unk, .unk, .unk, .unk, .unk, .unk, .ok (.d (DV.ro m 1 fun i x => DV.x (.int .i64 (p i)))), .ok (iv (↑m : Int)), .ok (iv i), .unk, .unk, .unk, .unk,
   .unk, .unk, .unk, .unk, .unk, .unk, .unk, .unk, .unk, .unk, .unk, .unk, .unk, .unk, .unk, .unk, .unk, .unk, .unk, .unk, .unk, .unk, .unk, .unk, .unk, .unk, .unk, .unk,
   .unk, .unk, .unk, .unk, .unk, .unk, .unk, .unk, .unk, .unk, .unk, .unk, .unk, .unk, .unk, .unk, .unk, .unk, .unk, .unk, .unk, .unk, .unk, .unk, .unk],
   hp := [some (.cells [iv lo, iv hi, iv st, iv er]), none], next := 2, hint := .nil }))

theorem BP_eq (lo hi st er : Int) (n : Nat) (L : Nat → Int) (m : Nat) (p : Nat → Int) (i : Int) : cutT 2 [] [4, 5, 12, 13, 15, 37, 38, 39] [] 2 .nil (exec Try.prog C4x D4x 200 (loopN (bodyOf Try.prog 29) 0) (invP lo hi st er n L m p i)) = BP lo hi st er n L m p i := by kernel_rfl

noncomputable def KP (lo hi st er : Int) (n : Nat) (L : Nat → Int) (m : Nat) (p : Nat → Int) (i : Int) : Tree SV :=
  .ret (bv true)

theorem KP_eq (lo hi st er : Int) (n : Nat) (L : Nat → Int) (m : Nat) (p : Nat → Int) (i : Int) : codeK (sub [1, 1] (tP lo hi st er n L m p)) (.exit 0) (invP lo hi st er n L m p i) = KP lo hi st er n L m p i := by kernel_rfl

noncomputable def KQ (lo hi st er : Int) (n : Nat) (L : Nat → Int) (m : Nat) (p : Nat → Int) (i : Int) : Tree SV :=
  .ret (bv false)

theorem KQ_eq (lo hi st er : Int) (n : Nat) (L : Nat → Int) (m : Nat) (p : Nat → Int) (i : Int) : codeK (sub [1, 1] (tP lo hi st er n L m p)) .ret (invP lo hi st er n L m p i) = KQ lo hi st er n L m p i := by kernel_rfl

noncomputable def bodyP : Code := loopN (bodyOf Try.prog 29) 0
theorem CP (lo hi st er : Int) (n : Nat) (L : Nat → Int) (m : Nat) (p : Nat → Int) : codeC (sub [1, 1] (tP lo hi st er n L m p)) = .loop bodyP := by kernel_rfl
theorem NP (lo hi st er : Int) (n : Nat) (L : Nat → Int) (m : Nat) (p : Nat → Int) : Nat.ble (codeS (sub [1, 1] (tP lo hi st er n L m p))).next 2 = true := by kernel_rfl

end Go.Proofs.Ytcbjclmjkilphaa

namespace Go.Proofs.Ytcbjclmjkilphaa
open Go.Sx
set_option maxRecDepth 100000
variable {lo hi st er : Int} {L p : Nat → Int} {n m k : Nat}

/-! ### drift.Bounds -/

noncomputable def bdR (lo hi st er : Int) (n : Nat) (L : Nat → Int) : SV := .tup [iv (zif (dB lo hi st er L n) (dL lo st er L n)), iv (zif (dB lo hi st er L n) (dH hi st er L n)), iv (dE lo hi st er L n)]

theorem bd_sat (hv : dV lo hi st er) (hn : n ≤ 1000) : Sat Try.prog (tB lo hi st er n L) (· = bdR lo hi st er n L) := by
  constructor
  rw [LB_eq]; unfold LB
  rw [show (fun i => intOf1 (DV.x (Value.int IntKind.i64 (L i)))) = L from rfl]
  refine ⟨⟨hv, hn, fun i hi => ⟨_, rfl⟩⟩, fun hc => ?_, fun hc => ?_⟩
  · have hb : dB lo hi st er L n = false := by
      cases h : dB lo hi st er L n with
      | false => rfl
      | true => simp [dE, h] at hc
    simp only [Tree.sat, bdR, hb, zif, cond_false]
  · have hb : dB lo hi st er L n = true := by
      cases h : dB lo hi st er L n with
      | true => rfl
      | false => simp [dE, h] at hc
    rw [dCnt_all hb]
    have e : w64 (((n + 1 : Nat) : Int) - 1) = n := by rw [w64_of (by omega) (by omega)]; omega
    rw [e]
    refine ⟨by omega, by decide, by decide, by decide, by decide, ?_⟩
    simp only [Tree.sat, bdR, hb, zif, cond_true, dE, Int.toNat_natCast]

noncomputable def cBounds : Ctr := fun ss => match ss with
  | [.d (.x (.int .i64 lo)), .d (.x (.int .i64 hi)), .d (.x (.int .i64 st)), .d (.x (.int .i64 er)), .d (.ro n 1 cell)] =>
    .need (dV lo hi st er ∧ n ≤ 1000 ∧ ∀ i, i < n → ∃ b, cell i 0 = .x (.int .i64 b)) (.ret (bdR lo hi st er n (intCell cell)))
  | _ => .fail

theorem le_ro64 {n : Nat} {cell : Nat → Nat → DV} (hb : ∀ i, i < n → ∃ b, cell i 0 = .x (.int .i64 b)) : ∀ i j, i < n → j < 1 → cell i j = .x (.int .i64 (intCell cell i)) := by
  intro i j hi hj
  obtain rfl : j = 0 := by omega
  obtain ⟨b, e⟩ := hb i hi
  simp [intCell, e, intOf1]

theorem cBounds_ok : CtrOK Try.prog 30 cBounds := by
  refine ctrOK_leS C4x_ok D4x_ok (by kernel_rfl) (by kernel_rfl) fun ss r h => ?_
  unfold cBounds at h
  split at h
  · rename_i lo hi st er n cell
    obtain ⟨⟨hv, hn, hb⟩, rfl⟩ := h
    refine ⟨[iv lo, iv hi, iv st, iv er, ro64 n (intCell cell)], 200, .nil, ?_, bd_sat hv hn⟩
    simp only [leSVs, leSV, iv, ro64, leD, and_true, true_and]
    exact le_ro64 hb
  · exact h.elim

/-! ### drift.Possible -/

/-- The k-th step of a path. -/
def stepB (st er : Int) (L p : Nat → Int) (k : Nat) : Bool := decide (1 ≤ p (k + 1)) && (decide (p k - st ≤ p (k + 1)) && decide (p (k + 1) ≤ p k + st)) && (decide (p (k + 1) - er ≤ L k) && decide (L k ≤ p (k + 1) + er))
def pthB (lo hi st er : Int) (L p : Nat → Int) : Nat → Bool
  | 0 => decide (lo ≤ p 0) && decide (p 0 ≤ hi)
  | k + 1 => pthB lo hi st er L p k && stepB st er L p k
def posB (lo hi st er : Int) (n : Nat) (L : Nat → Int) (m : Nat) (p : Nat → Int) : Bool := decide (m = n + 1) && pthB lo hi st er L p n

theorem pthB_mono {j k : Nat} (h : j ≤ k) (hb : pthB lo hi st er L p k = true) : pthB lo hi st er L p j = true := by
  induction k with
  | zero => obtain rfl : j = 0 := by omega
            exact hb
  | succ k ih =>
    rcases Nat.lt_or_ge j (k + 1) with h1 | h1
    · simp only [pthB, Bool.and_eq_true] at hb; exact ih (by omega) hb.1
    · obtain rfl : j = k + 1 := by omega
      exact hb

/-- What has been looked at before index i. -/
def preB (lo hi st er : Int) (L p : Nat → Int) : Nat → Bool
  | 0 => true
  | k + 1 => pthB lo hi st er L p k

theorem stepB_not : (decide (p (k + 1) < 1) || !(decide (p (k + 1) ≥ p k - st) && decide (p (k + 1) ≤ p k + st)) || !(decide (L k ≥ p (k + 1) - er) && decide (L k ≤ p (k + 1) + er))) = !stepB st er L p k := by
  unfold stepB
  rw [show decide (p (k + 1) < 1) = !decide (1 ≤ p (k + 1)) by rw [← decide_not]; congr 1; simp]
  simp only [Bool.not_and, ge_iff_le]

theorem pos_sat (hv : dV lo hi st er) (hn : n ≤ 1000) (hm : m ≤ maxLen) (hp : ∀ i, i < m → -4000000000000000000 ≤ p i ∧ p i ≤ 4000000000000000000) : Sat Try.prog (tP lo hi st er n L m p) (· = bv (posB lo hi st er n L m p)) := by
  constructor
  rw [LP_eq]; unfold LP
  have h1 := hv.l; have h2 := hv.h; have h3 := hv.s; have h4 := hv.e
  rw [w64_of (n := (n : Int) + 1) (by omega) (by omega)]
  refine ⟨fun hc => ?_, fun _ => ⟨fun hc => ?_, fun hc => ?_⟩⟩
  · simp only [Bool.or_eq_true, decide_eq_true_eq, lt_if, gt_if] at hc; omega
  · have : m ≠ n + 1 := by simp at hc; omega
    simp [Tree.sat, posB, this]
  have hmn : m = n + 1 := by simp at hc; omega
  subst hmn
  refine code_satS C4x_ok D4x_ok (n := 200) (n0 := 2) (nx := 2) (roots := []) (keep := [4, 5, 12, 13, 15, 37, 38, 39]) (drop := []) (h := .nil) (CP lo hi st er n L (n + 1) p) (NP lo hi st er n L (n + 1) p)
    (fun q s => ∃ k, q = n + 1 - k ∧ k ≤ n + 1 ∧ preB lo hi st er L p k = true ∧ s = invP lo hi st er n L (n + 1) p k)
    (fun e s => (e = .exit 0 ∧ pthB lo hi st er L p n = true ∧ s = invP lo hi st er n L (n + 1) p ((n + 1 : Nat) : Int)) ∨ ∃ k : Nat, e = .ret ∧ pthB lo hi st er L p n = false ∧ s = invP lo hi st er n L (n + 1) p k) ⟨n + 1, _, ⟨0, rfl, Nat.zero_le _, rfl, rfl⟩, ?_⟩ ?_ ?_
  · have hI := IP_eq lo hi st er n L (n + 1) p
    unfold IP inP at hI
    exact entA_sound hI
  · rintro q s ⟨k, rfl, hk, hb, rfl⟩
    have hbody : cutT 2 [] [4, 5, 12, 13, 15, 37, 38, 39] [] 2 .nil (exec Try.prog C4x D4x 200 bodyP (invP lo hi st er n L (n + 1) p k)) = _ := BP_eq lo hi st er n L (n + 1) p k
    constructor
    rw [hbody]; unfold BP
    simp only [show Int.toNat (k : Int) = k from rfl]
    refine ⟨fun hlt => ?_, fun hlt => ?_⟩
    · have hlt : k < n + 1 := by simp at hlt; omega
      have hpk := hp k hlt
      have e1 : w64 ((k : Int) + 1) = ((k + 1 : Nat) : Int) := by rw [w64_of (by omega) (by omega)]; omega
      rw [e1]
      cases k with
      | zero =>
        simp only [show ((0 : Nat) : Int) = 0 from rfl, show ((0 : Int) == 0) = true from rfl, show decide ((0 : Int) > 0) = false from rfl, Tree.sat, Bool.true_and, Bool.false_and, Bool.false_eq_true, false_and, false_implies, forall_const, true_and, Bool.not_eq_true', Int.toNat_zero, and_true, Bool.not_eq_false', Nat.lt_irrefl, show (0 : Nat) < 2 from by decide, show (1 : Nat) < 2 from by decide, show (0 : Int) ≤ 0 from by decide, show (0 : Int) < 2 from by decide, show (0 : Int) ≤ 1 from by decide, show (1 : Int) < 2 from by decide, implies_true]
        refine ⟨by omega, fun hc => ⟨_, .inr ⟨0, ?_, rfl⟩, Gc.refl _ _⟩, fun hc => ⟨n, _, by omega, ⟨1, by omega, by omega, hc, rfl⟩, Gc.refl _ _⟩⟩
        cases h : pthB lo hi st er L p n with
        | false => rfl
        | true => have h0 := pthB_mono (Nat.zero_le n) h; simp only [pthB] at h0; exact absurd (h0.symm.trans hc) (by decide)
      | succ j =>
        have hpj := hp j (by omega)
        rw [w64_of (n := ((j + 1 : Nat) : Int) - 1) (by omega) (by omega), show Int.toNat (((j + 1 : Nat) : Int) - 1) = j by omega]
        rw [w64_of (n := p j - st) (by omega) (by omega), w64_of (n := p j + st) (by omega) (by omega), w64_of (n := p (j + 1) - er) (by omega) (by omega), w64_of (n := p (j + 1) + er) (by omega) (by omega)]
        simp only [show (((j + 1 : Nat) : Int) == 0) = false by simp; omega, show decide (((j + 1 : Nat) : Int) > 0) = true from decide_eq_true (by omega), Tree.sat, Bool.true_and, Bool.false_and, Bool.false_eq_true, false_and, false_implies, forall_const, true_and, and_true, show (0 : Nat) < 2 from by decide, show (1 : Nat) < 2 from by decide, show (0 : Int) ≤ 0 from by decide, show (0 : Int) < 2 from by decide, show (0 : Int) ≤ 1 from by decide, show (1 : Int) < 2 from by decide, implies_true, and_self, imp_self, stepB_not]
        have hb' : pthB lo hi st er L p j = true := hb
        refine ⟨by omega, fun _ => by omega, fun _ => by omega, fun _ => by omega, fun hc => ⟨_, .inr ⟨j + 1, ?_, rfl⟩, Gc.refl _ _⟩, fun hc => ⟨n - (j + 1), _, by omega, ⟨j + 2, by omega, by omega, ?_, rfl⟩, Gc.refl _ _⟩⟩
        · cases h : pthB lo hi st er L p n with
          | false => rfl
          | true =>
            have h0 := pthB_mono (show j + 1 ≤ n by omega) h
            simp only [pthB, hb', Bool.true_and] at h0
            rw [h0] at hc; cases hc
        · have hc : stepB st er L p j = true := by simpa using hc
          simp only [preB, pthB, hb', hc, Bool.and_self]
    · have hlt : ¬ k < n + 1 := by simp at hlt; omega
      obtain rfl : k = n + 1 := by omega
      exact ⟨_, .inl ⟨rfl, hb, rfl⟩, Gc.refl _ _⟩
  · intro e s hq
    rcases hq with ⟨h1, hb, h2⟩ | ⟨k, h1, hb, h2⟩
    · have := KP_eq lo hi st er n L (n + 1) p ((n + 1 : Nat) : Int)
      rw [h1, h2, this]; unfold KP; constructor
      simp only [Tree.sat, posB, hb, decide_true, Bool.and_self]
    · have := KQ_eq lo hi st er n L (n + 1) p k
      rw [h1, h2, this]; unfold KQ; constructor
      simp only [Tree.sat, posB, hb, Bool.and_false]

noncomputable def cPoss : Ctr := fun ss => match ss with
  | [.d (.x (.int .i64 lo)), .d (.x (.int .i64 hi)), .d (.x (.int .i64 st)), .d (.x (.int .i64 er)), .d (.ro n 1 cell), .d (.ro m 1 cel2)] =>
    .need (dV lo hi st er ∧ n ≤ 1000 ∧ m ≤ maxLen ∧ (∀ i, i < n → ∃ b, cell i 0 = .x (.int .i64 b)) ∧ ∀ i, i < m → ∃ b, cel2 i 0 = .x (.int .i64 b) ∧ -4000000000000000000 ≤ b ∧ b ≤ 4000000000000000000) (.ret (bv (posB lo hi st er n (intCell cell) m (intCell cel2))))
  | _ => .fail

theorem cPoss_ok : CtrOK Try.prog 29 cPoss := by
  refine ctrOK_leS C4x_ok D4x_ok (by kernel_rfl) (by kernel_rfl) fun ss r h => ?_
  unfold cPoss at h
  split at h
  · rename_i lo hi st er n cell m cel2
    obtain ⟨⟨hv, hn, hm, hb, hb2⟩, rfl⟩ := h
    refine ⟨[iv lo, iv hi, iv st, iv er, ro64 n (intCell cell), ro64 m (intCell cel2)], 200, .nil, ?_, pos_sat hv hn hm fun i hi => ?_⟩
    · simp only [leSVs, leSV, iv, ro64, leD, and_true, true_and]
      exact ⟨le_ro64 hb, le_ro64 fun i hi => by obtain ⟨b, e, _⟩ := hb2 i hi; exact ⟨b, e⟩⟩
    · obtain ⟨b, e, h⟩ := hb2 i hi
      simpa [intCell, e, intOf1] using h
  · exact h.elim

end Go.Proofs.Ytcbjclmjkilphaa

namespace Go.Proofs.Ytcbjclmjkilphaa
open Go.Sx
set_option maxRecDepth 100000

/-- The facts of a description. -/
structure RawOK (lo wi st er be ov : Int) (n : Nat) (cell : Nat → Nat → DV) : Prop where
  hlo : 0 ≤ lo ∧ lo < 256
  hwi : 0 ≤ wi ∧ wi < 256
  hst : 0 ≤ st ∧ st < 256
  her : 0 ≤ er ∧ er < 256
  hn : n ≤ maxLen
  hcell : ∀ i, i < n → ∃ b, cell i 0 = .x (.int .u8 b) ∧ 0 ≤ b ∧ b < 256
  hbe : 0 ≤ be ∧ be < 256
  hov : 0 ≤ ov ∧ ov < 256

theorem RawOK.ok {lo wi st er be ov : Int} {n : Nat} {cell : Nat → Nat → DV} (h : RawOK lo wi st er be ov n cell) : okM (sLo lo) (sHi lo wi) (st % 6) (er % 6) (mLe lo be) (mMo lo wi ov) := by
  have := h.hlo; have := h.hwi; have := h.hst; have := h.her; have := h.hbe; have := h.hov
  refine ⟨?_, ?_, ?_, ?_⟩ <;> (try simp only [mLe, mMo, sHi, sLo]) <;> omega

theorem RawOK.v {lo wi st er be ov : Int} {n : Nat} {cell : Nat → Nat → DV} (h : RawOK lo wi st er be ov n cell) : vB (sLo lo) (sHi lo wi) (st % 6) (er % 6) (mLe lo be) (mMo lo wi ov) (!inR (sLo lo) (sHi lo wi) (st % 6) (mLe lo be) (mMo lo wi ov)) = true := by
  rw [vB_iff, ← inR_iff]
  refine ⟨h.ok, ?_⟩
  cases inR (sLo lo) (sHi lo wi) (st % 6) (mLe lo be) (mMo lo wi ov) <;> simp

end Go.Proofs.Ytcbjclmjkilphaa

namespace Go.Proofs.Ytcbjclmjkilphaa
open Go.Sx
set_option maxRecDepth 100000

noncomputable def man5 : FuncId → Option Ctr := fun k => match k with
  | 14 => some cEx
  | 15 => some cM45
  | 16 => some cValid
  | 17 => some cValid
  | 18 => some cNew
  | 19 => some cNew
  | 20 => some cSee
  | 21 => some cMiss
  | 22 => some cOut
  | 23 => some cOut
  | 24 => some cAgr
  | 25 => some cAgr
  | 26 => some cSee
  | 27 => some cMiss
  | 28 => some cMade
  | 29 => some cPoss
  | 30 => some cBounds
  | _ => none

theorem man5_ok (k : Nat) (c : Ctr) (h : man5 k = some c) : CtrOK Try.prog k c ∧ goodF Try.prog k = true := by
  unfold man5 at h
  split at h <;> first | (cases h; done) | (cases h)
  · exact ⟨cEx_ok, by kernel_rfl⟩
  · exact ⟨cM45_ok, by kernel_rfl⟩
  · exact ⟨c11, by kernel_rfl⟩
  · exact ⟨c12, by kernel_rfl⟩
  · exact ⟨c13, by kernel_rfl⟩
  · exact ⟨c14, by kernel_rfl⟩
  · exact ⟨c15, by kernel_rfl⟩
  · exact ⟨c16, by kernel_rfl⟩
  · exact ⟨c17, by kernel_rfl⟩
  · exact ⟨c18, by kernel_rfl⟩
  · exact ⟨c19, by kernel_rfl⟩
  · exact ⟨c20, by kernel_rfl⟩
  · exact ⟨c21, by kernel_rfl⟩
  · exact ⟨c22, by kernel_rfl⟩
  · exact ⟨cMade_ok, by kernel_rfl⟩
  · exact ⟨cPoss_ok, by kernel_rfl⟩
  · exact ⟨cBounds_ok, by kernel_rfl⟩

noncomputable def C5 : Ctx := ctxN Try.prog man5 (fun _ => false) 200 .nil 3
theorem C5_ok : CtxOK Try.prog C5 := ctxN_ok mixed man5_ok 3
noncomputable def D5 : Dr := fun _ => drawn Try.prog C5
theorem D5_ok : DrOK Try.prog C5 D5 := drawn_ok C5_ok mixed

noncomputable def T5 (k : Nat) (args : List SV) (h : Hint) : Tree SV := fnT Try.prog C5 D5 200 (fnOf Try.prog k) (bodyOf Try.prog k) args h
end Go.Proofs.Ytcbjclmjkilphaa

