/- Part of a proof of the given statements of this seat (SxMdB): no conditions beyond those typed here. -/
import Derived.Test.YtcbjclmjkilphaaSxMdA
set_option linter.unusedVariables false
set_option linter.unusedSimpArgs false
namespace Go.Proofs.Ytcbjclmjkilphaa
open Go.Sx
set_option maxRecDepth 100000

theorem w64_of {n : Int} (h1 : -9223372036854775808 ≤ n) (h2 : n ≤ 9223372036854775807) : w64 n = n := by
  unfold w64 IntKind.wrap
  simp [IntKind.signed, IntKind.bits]
  omega

def sLo (lo : Int) : Int := 1 + lo % 40
def sHi (lo wi : Int) : Int := sLo lo + wi % 8
def f0 (lo wi : Int) : Int := sLo lo + lo % (1 + wi % 8)
def fNx (f b s : Int) : Int := max 1 (f + b % (2 * s + 1) - s)
def lNx (f b s : Int) : Int := f + b % (2 * s + 1) - s
def fS (lo wi s : Int) (B : Nat → Int) : Nat → Int
  | 0 => f0 lo wi
  | k + 1 => fNx (fS lo wi s B k) (B (2 * k)) s
def lS (lo wi s e : Int) (B : Nat → Int) (k : Nat) : Int := lNx (fS lo wi s B (k + 1)) (B (2 * k + 1)) e
def kS (n : Nat) : Nat := min 12 (n / 2)

theorem f0_b {lo wi : Int} (h1 : 0 ≤ lo) (h2 : 0 ≤ wi) : 1 ≤ f0 lo wi ∧ f0 lo wi ≤ 47 := by
  unfold f0 sLo
  have := Int.emod_nonneg lo (show 1 + wi % 8 ≠ 0 by omega)
  have := Int.emod_lt_of_pos lo (show 0 < 1 + wi % 8 by omega)
  omega

theorem fNx_b {f b s : Int} (hs : 0 ≤ s ∧ s ≤ 5) : f - s ≤ fNx f b s ∧ 1 ≤ fNx f b s ∧ fNx f b s ≤ max 1 (f + s) := by
  unfold fNx
  have := Int.emod_nonneg b (show 2 * s + 1 ≠ 0 by omega)
  have := Int.emod_lt_of_pos b (show 0 < 2 * s + 1 by omega)
  omega

theorem fS_b {lo wi s : Int} {B : Nat → Int} (h1 : 0 ≤ lo) (h2 : 0 ≤ wi) (hs : 0 ≤ s ∧ s ≤ 5) : ∀ k, 1 ≤ fS lo wi s B k ∧ fS lo wi s B k ≤ 47 + 5 * k
  | 0 => by have := f0_b h1 h2; simp only [fS]; omega
  | k + 1 => by
    have ih := fS_b (B := B) h1 h2 hs k
    have := fNx_b (f := fS lo wi s B k) (b := B (2 * k)) hs
    simp only [fS]; omega

theorem tmod_lit {a : Int} (h : 0 ≤ a) (b : Int) : Int.tmod a b = a % b := Int.tmod_eq_emod_of_nonneg h

theorem fW_eq {f b s : Int} (hs : 0 ≤ s ∧ s ≤ 5) (hb : 0 ≤ b ∧ b < 256) (hf : 0 ≤ f ∧ f ≤ 1000) : fW f b s = f + b % (2 * s + 1) - s := by
  unfold fW
  have h1 := Int.emod_nonneg b (show 2 * s + 1 ≠ 0 by omega)
  have h2 := Int.emod_lt_of_pos b (show 0 < 2 * s + 1 by omega)
  rw [w64_of (n := b) (by omega) (by omega), w64_of (n := 2 * s) (by omega) (by omega), w64_of (n := 2 * s + 1) (by omega) (by omega), tmod_lit hb.1, w64_of (n := f + b % (2 * s + 1)) (by omega) (by omega), w64_of (by omega) (by omega)]

theorem fN_eq {f b s : Int} (hs : 0 ≤ s ∧ s ≤ 5) (hb : 0 ≤ b ∧ b < 256) (hf : 0 ≤ f ∧ f ≤ 1000) : fN f b s = fNx f b s := by
  unfold fN fNx
  rw [fW_eq hs hb hf]
  split <;> omega

theorem lN_eq {f b s : Int} (hs : 0 ≤ s ∧ s ≤ 5) (hb : 0 ≤ b ∧ b < 256) (hf : 0 ≤ f ∧ f ≤ 1000) : lN f b s = lNx f b s := fW_eq hs hb hf

theorem mInv_gc {lo wi st er : Int} {n : Nat} {B : Nat → Int} {dlo dhi dst der f i : Int} {np nl : Nat} {p l p' l' : Nat → Int} (hp : ∀ a, a < np → p a = p' a) (hl : ∀ a, a < nl → l a = l' a) :
    Gc 6 (mInv lo wi st er n B dlo dhi dst der f i np nl p l) (mInv lo wi st er n B dlo dhi dst der f i np nl p' l') := by
  refine gc_sound [(6, 6), (7, 7)] [] rfl ?_ ?_
  · simp [mInv, leTm, leTV, leSV, rn, iv, leD, List.replicate]
  · simp [mInv, leHp, leBlk, leSVs, leSV, rn, iv, u8, ro8, leD, srcOf, row64, hget]
    exact ⟨hp, hl⟩

noncomputable def madeR (lo wi st er : Int) (n : Nat) (B : Nat → Int) : SV :=
  .agg [iv (sLo lo), iv (sHi lo wi), iv (st % 6), iv (er % 6), ro64 (kS n + 1) (fS lo wi (st % 6) B), ro64 (kS n) (lS lo wi (st % 6) (er % 6) B)]

noncomputable def mAt (lo wi st er : Int) (n : Nat) (B : Nat → Int) (k : Nat) : AS :=
  mInv lo wi st er n B (sLo lo) (sHi lo wi) (st % 6) (er % 6) (fS lo wi (st % 6) B k) (2 * (k : Int)) (k + 1) k (fS lo wi (st % 6) B) (lS lo wi (st % 6) (er % 6) B)

theorem made_entry {lo wi st er : Int} {n : Nat} {B : Nat → Int} (h1 : 0 ≤ lo ∧ lo < 256) (h2 : 0 ≤ wi ∧ wi < 256) (h3 : 0 ≤ st ∧ st < 256) (h4 : 0 ≤ er ∧ er < 256) : Gc 6 (codeS (mT lo wi st er n B)) (mAt lo wi st er n B 0) := by
  refine (gcA_sound (mIn lo wi st er n B)).trans ?_
  have a1 := Int.emod_nonneg lo (show (40 : Int) ≠ 0 by omega)
  have e1 : w64 (1 + w64 (lo.tmod 40)) = sLo lo := by
    rw [tmod_lit h1.1, w64_of (n := lo % 40) (by omega) (by omega), w64_of (by omega) (by omega)]; rfl
  have e2 : w64 (wi.tmod 8) = wi % 8 := by rw [tmod_lit h2.1, w64_of (by omega) (by omega)]
  have e3 : w64 (st.tmod 6) = st % 6 := by rw [tmod_lit h3.1, w64_of (by omega) (by omega)]
  have e4 : w64 (er.tmod 6) = er % 6 := by rw [tmod_lit h4.1, w64_of (by omega) (by omega)]
  have hs : sLo lo = 1 + lo % 40 := rfl
  have e5 : w64 (sLo lo + wi % 8) = sHi lo wi := by rw [w64_of (by omega) (by omega)]; rfl
  have e6 : w64 (1 + wi % 8) = 1 + wi % 8 := w64_of (by omega) (by omega)
  have e7 : w64 (sLo lo + (w64 lo).tmod (1 + wi % 8)) = f0 lo wi := by
    have b1 := Int.emod_nonneg lo (show 1 + wi % 8 ≠ 0 by omega)
    have b2 := Int.emod_lt_of_pos lo (show 0 < 1 + wi % 8 by omega)
    rw [w64_of (n := lo) (by omega) (by omega), tmod_lit h1.1, w64_of (by omega) (by omega)]; rfl
  rw [e1, e2, e3, e4, e5, e6, e7]
  refine gc_sound [(6, 6)] [7] rfl ?_ ?_
  · simp [mAt, mInv, leTm, leTV, leSV, rn, iv, leD, List.replicate, fS]
  · simp [mAt, mInv, leHp, leBlk, leSVs, leSV, rn, iv, u8, ro8, leD, srcOf, row64, hget, fS]

theorem made_sat {lo wi st er : Int} {n : Nat} {B : Nat → Int} (h1 : 0 ≤ lo ∧ lo < 256) (h2 : 0 ≤ wi ∧ wi < 256) (h3 : 0 ≤ st ∧ st < 256) (h4 : 0 ≤ er ∧ er < 256) (hB : ∀ i, i < n → 0 ≤ B i ∧ B i < 256) (hn : n ≤ maxLen) :
    (mT lo wi st er n B).sat Try.prog (· = madeR lo wi st er n B) := by
  rw [mCut]
  have e2 : w64 (1 + w64 (wi.tmod 8)) = 1 + wi % 8 := by rw [tmod_lit h2.1, w64_of (n := wi % 8) (by omega) (by omega), w64_of (by omega) (by omega)]
  refine ⟨by decide, by decide, by decide, by decide, by decide, by rw [e2]; omega, fun e s => e = .exit 0 ∧ s = mAt lo wi st er n B (kS n), ?_, ?_⟩
  · refine loop_sat C0_ok D0_ok (n := 200) (n0 := 6) (nx := 8) (roots := mRoots) (keep := [1, 2, 4, 5, 6]) (drop := []) (h := .nil) (mNext lo wi st er n B) (fun m s => ∃ k, m = 12 - k ∧ k ≤ kS n ∧ s = mAt lo wi st er n B k) ⟨12, _, ⟨0, rfl, Nat.zero_le _, rfl⟩, made_entry h1 h2 h3 h4⟩ ?_
    rintro m s ⟨k, rfl, hk, rfl⟩
    have hbody : cutT 6 mRoots [1, 2, 4, 5, 6] [] 8 .nil (exec Try.prog C0 D0 200 mB (mAt lo wi st er n B k)) = _ := mBody lo wi st er n B (sLo lo) (sHi lo wi) (st % 6) (er % 6) (fS lo wi (st % 6) B k) (2 * (k : Int)) (k + 1) k (fS lo wi (st % 6) B) (lS lo wi (st % 6) (er % 6) B)
    have hkn : kS n ≤ 12 ∧ 2 * kS n ≤ n := by unfold kS; omega
    rw [hbody]
    have hml : (n : Int) ≤ 9223372036854775807 := by have : maxLen = 9223372036854775807 := rfl; omega
    have w1 : w64 (2 * (k : Int) + 1) = 2 * (k : Int) + 1 := w64_of (by omega) (by omega)
    have w2 : w64 (2 * (k : Int) + 2) = 2 * ((k + 1 : Nat) : Int) := by rw [w64_of (by omega) (by omega)]; omega
    have t1 : (2 * (k : Int)).toNat = 2 * k := by omega
    have t2 : (2 * (k : Int) + 1).toNat = 2 * k + 1 := by omega
    rw [w1, w2, t1, t2]
    have hs : 0 ≤ st % 6 ∧ st % 6 ≤ 5 := by omega
    have he : 0 ≤ er % 6 ∧ er % 6 ≤ 5 := by omega
    refine ⟨fun hc => ?_, fun hc => ?_⟩
    · simp only [Bool.and_eq_true, decide_eq_true_eq] at hc
      have hk1 : k + 1 ≤ kS n := by unfold kS; omega
      have b1 := hB (2 * k) (by omega)
      have b2 := hB (2 * k + 1) (by omega)
      have f1 := fS_b (B := B) h1.1 h2.1 hs k
      have f2 := fS_b (B := B) h1.1 h2.1 hs (k + 1)
      have g1 : fN (fS lo wi (st % 6) B k) (B (2 * k)) (st % 6) = fS lo wi (st % 6) B (k + 1) := fN_eq hs b1 (by omega)
      have g2 : lN (fS lo wi (st % 6) B (k + 1)) (B (2 * k + 1)) (er % 6) = lS lo wi (st % 6) (er % 6) B k := lN_eq he b2 (by omega)
      rw [g1, g2]
      refine ⟨by omega, ?_, ⟨by omega, by omega, by omega⟩, by omega, ?_, ⟨by omega, by omega, by omega⟩, _, mAt lo wi st er n B (k + 1), (?_ : 12 - (k + 1) < 12 - k), ⟨k + 1, rfl, hk1, rfl⟩, mInv_gc (fun a ha => ?_) (fun a ha => ?_)⟩
      · rw [w64_of (n := 2 * (st % 6)) (by omega) (by omega), w64_of (by omega) (by omega)]; omega
      · rw [w64_of (n := 2 * (er % 6)) (by omega) (by omega), w64_of (by omega) (by omega)]; omega
      · omega
      · simp only [Nat.zero_add]
        by_cases h : a < k + 1
        · simp [h]
        · have : a = k + 1 := by omega
          subst this; simp
      · simp only [Nat.zero_add]
        by_cases h : a < k
        · simp [h]
        · have : a = k := by omega
          subst this; simp
    · simp only [Bool.and_eq_false_iff, decide_eq_false_iff_not] at hc
      have : k = kS n := by unfold kS at hk ⊢; omega
      have hg : Gc 6 (mAt lo wi st er n B k) (mAt lo wi st er n B (kS n)) := by rw [this]; exact Gc.refl _ _
      exact ⟨mAt lo wi st er n B (kS n), ⟨rfl, rfl⟩, hg⟩
  · intro e s hp
    have hout := mOut lo wi st er n B (sLo lo) (sHi lo wi) (st % 6) (er % 6) (fS lo wi (st % 6) B (kS n)) (2 * ((kS n : Nat) : Int)) (kS n + 1) (kS n) (fS lo wi (st % 6) B) (lS lo wi (st % 6) (er % 6) B)
    have hk : codeK (mT lo wi st er n B) e s = codeK (mT lo wi st er n B) (.exit 0) (mAt lo wi st er n B (kS n)) := by rw [hp.1, hp.2]
    rw [hk]
    unfold mAt
    rw [hout]
    exact ⟨by omega, by omega, by simp only [Nat.zero_add, Tree.sat]; rfl⟩

end Go.Proofs.Ytcbjclmjkilphaa
