/- Part of a proof of the given statements of this seat (SxMdA, SxMdB, SxMdC, SxMdD, SxMdE, SxMdG, SxMdH, SxMdI, SxMdJ, SxMdS, SxMdT, SxMdU, SxMdV): no conditions beyond those typed here. -/
import Derived.Test.YtcbjclmjkilphaaProg
import Derived.Test.YtcbjclmjkilphaaSy03
set_option linter.unusedVariables false
set_option linter.unusedSimpArgs false

namespace Go.Proofs.Ytcbjclmjkilphaa
open Go.Sx
set_option maxRecDepth 100000

theorem mixed : Try.prog.follows .mixedOrders = true := by kernel_rfl

/-! ### R44.Made -/

noncomputable def C0 : Ctx := ctxN Try.prog (fun _ => none) (fun _ => false) 200 .nil 6
theorem C0_ok : CtxOK Try.prog C0 := ctxN_ok mixed (fun k c h => by cases h) 6
noncomputable def D0 : Dr := fun _ => drawn Try.prog C0
theorem D0_ok : DrOK Try.prog C0 D0 := drawn_ok C0_ok mixed

noncomputable def mRoots : List (Root × Nat) := [(.cell (.base 2) 4, 6), (.cell (.base 2) 5, 7)]

noncomputable def mInv (lo wi st er : Int) (n : Nat) (B : Nat → Int) (dlo dhi dst der f i : Int) (np nl : Nat) (p l : Nat → Int) : AS :=
  ⟨[.unk, .ok (.ptr 0 0), .ok (.ptr 1 0), .unk, .ok (.ptr 2 0), .ok (iv f), .ok (iv i)] ++ List.replicate 98 .unk,
   [some (.cells [u8 lo, u8 wi, u8 st, u8 er, ro8 n B]), some (.cells [iv 0, iv 0, iv 0, iv 0, .d (.x (.slice none 0 0)), .d (.x (.slice none 0 0))]), some (.cells [iv dlo, iv dhi, iv dst, iv der, .row 6 0 0 np 1, .row 7 0 0 nl 1]),
    none, none, none, some (row64 np p), some (row64 nl l)], 8, .nil⟩

noncomputable def mGc (st : AS) : Option AS := gcA 6 mRoots [1, 2, 4, 5, 6] [] 8 .nil st
noncomputable def mB : Code := loopN (bodyOf Try.prog 28) 0
noncomputable def mArgs (lo wi st er : Int) (n : Nat) (B : Nat → Int) : List SV := [.agg [u8 lo, u8 wi, u8 st, u8 er, ro8 n B]]
noncomputable def mT (lo wi st er : Int) (n : Nat) (B : Nat → Int) : Tree SV := fnT Try.prog C0 D0 200 (fnOf Try.prog 28) (bodyOf Try.prog 28) (mArgs lo wi st er n B) .nil

noncomputable def fW (f b s : Int) : Int := w64 (w64 (f + Int.tmod (w64 b) (w64 (w64 (2 * s) + 1))) - s)
noncomputable def fN (f b s : Int) : Int := if fW f b s > 1 then fW f b s else 1
noncomputable def lN (f b s : Int) : Int := w64 (w64 (f + Int.tmod (w64 b) (w64 (w64 (2 * s) + 1))) - s)

theorem mBody (lo wi st er : Int) (n : Nat) (B : Nat → Int) (dlo dhi dst der f i : Int) (np nl : Nat) (p l : Nat → Int) :
    cutT 6 mRoots [1, 2, 4, 5, 6] [] 8 .nil (exec Try.prog C0 D0 200 mB (mInv lo wi st er n B dlo dhi dst der f i np nl p l)) =
    .ite (decide (w64 (i + 1) < n) && decide (i < 24))
      (.need (0 ≤ i ∧ i < n) (.need (w64 (w64 (2 * dst) + 1) ≠ 0) (.need (0 + np ≤ np ∧ 0 + (0 + 1) * 1 ≤ 1 ∧ (np + 1) * 8 ≤ 140737488355328)
        (.need (0 ≤ w64 (i + 1) ∧ w64 (i + 1) < n) (.need (w64 (w64 (2 * der) + 1) ≠ 0) (.need (0 + nl ≤ nl ∧ 0 + (0 + 1) * 1 ≤ 1 ∧ (nl + 1) * 8 ≤ 140737488355328)
          (.ret (.normal, mInv lo wi st er n B dlo dhi dst der (fN f (B i.toNat) dst) (w64 (i + 2)) (np + 1) (nl + 1) (fun a => bif decide (a < np) then p (0 + a) else fN f (B i.toNat) dst)
            (fun a => bif decide (a < nl) then l (0 + a) else lN (fN f (B i.toNat) dst) (B (w64 (i + 1)).toNat) der)))))))))
      (.ret (.exit 0, mInv lo wi st er n B dlo dhi dst der f i np nl p l)) := by kernel_rfl

theorem mCut (lo wi st er : Int) (n : Nat) (B : Nat → Int) : mT lo wi st er n B =
    .need (40 ≠ (0 : Int)) (.need (8 ≠ (0 : Int)) (.need (6 ≠ (0 : Int)) (.need (6 ≠ (0 : Int)) (.need (8 ≠ (0 : Int)) (.need (w64 (1 + w64 (wi.tmod 8)) ≠ 0) (.code (.loop mB) (codeS (mT lo wi st er n B)) (codeK (mT lo wi st er n B)))))))) := by kernel_rfl

theorem mIn (lo wi st er : Int) (n : Nat) (B : Nat → Int) : mGc (codeS (mT lo wi st er n B)) = some
    ⟨[.unk, .ok (.ptr 0 0), .ok (.ptr 1 0), .unk, .ok (.ptr 2 0), .ok (iv (w64 (w64 (1 + w64 (lo.tmod 40)) + (w64 lo).tmod (w64 (1 + w64 (wi.tmod 8)))))), .ok (iv 0)] ++ List.replicate 98 .unk,
     [some (.cells [u8 lo, u8 wi, u8 st, u8 er, ro8 n B]), some (.cells [iv 0, iv 0, iv 0, iv 0, .d (.x (.slice none 0 0)), .d (.x (.slice none 0 0))]),
      some (.cells [iv (w64 (1 + w64 (lo.tmod 40))), iv (w64 (w64 (1 + w64 (lo.tmod 40)) + w64 (wi.tmod 8))), iv (w64 (st.tmod 6)), iv (w64 (er.tmod 6)), .row 6 0 0 1 1, .d (.x (.slice none 0 0))]),
      none, none, none, some (.cells [iv (w64 (w64 (1 + w64 (lo.tmod 40)) + (w64 lo).tmod (w64 (1 + w64 (wi.tmod 8)))))]), none], 8, .nil⟩ := by kernel_rfl

theorem mNext (lo wi st er : Int) (n : Nat) (B : Nat → Int) : (codeS (mT lo wi st er n B)).next = 6 := by kernel_rfl

theorem mOut (lo wi st er : Int) (n : Nat) (B : Nat → Int) (dlo dhi dst der f i : Int) (np nl : Nat) (p l : Nat → Int) : codeK (mT lo wi st er n B) (.exit 0) (mInv lo wi st er n B dlo dhi dst der f i np nl p l) =
    .need (0 + np ≤ np) (.need (0 + nl ≤ nl) (.ret (.agg [iv dlo, iv dhi, iv dst, iv der, ro64 np fun a => p (0 + a), ro64 nl fun a => l (0 + a)]))) := by kernel_rfl

end Go.Proofs.Ytcbjclmjkilphaa

namespace Go.Proofs.Ytcbjclmjkilphaa
open Go.Sx
set_option maxRecDepth 100000

theorem w64_of {n : Int} (h1 : -9223372036854775808 ≤ n) (h2 : n ≤ 9223372036854775807) : w64 n = n := by
  unfold w64 IntKind.wrap
  simp [IntKind.signed, IntKind.bits]
  omega

def sLo (lo : Int) : Int := 1 + lo % 40
def sHi (lo wi : Int) : Int := sLo lo + wi % 8
def f0 (lo wi : Int) : Int := sLo lo + lo % (1 + wi % 8)
def fNx (f b s : Int) : Int := max 1 (f + b % (2 * s + 1) - s)
def lNx (f b s : Int) : Int := f + b % (2 * s + 1) - s
def fS (lo wi s : Int) (B : Nat → Int) : Nat → Int
  | 0 => f0 lo wi
  | k + 1 => fNx (fS lo wi s B k) (B (2 * k)) s
def lS (lo wi s e : Int) (B : Nat → Int) (k : Nat) : Int := lNx (fS lo wi s B (k + 1)) (B (2 * k + 1)) e
def kS (n : Nat) : Nat := min 12 (n / 2)

theorem f0_b {lo wi : Int} (h1 : 0 ≤ lo) (h2 : 0 ≤ wi) : 1 ≤ f0 lo wi ∧ f0 lo wi ≤ 47 := by
  unfold f0 sLo
  have := Int.emod_nonneg lo (show 1 + wi % 8 ≠ 0 by omega)
  have := Int.emod_lt_of_pos lo (show 0 < 1 + wi % 8 by omega)
  omega

theorem fNx_b {f b s : Int} (hs : 0 ≤ s ∧ s ≤ 5) : f - s ≤ fNx f b s ∧ 1 ≤ fNx f b s ∧ fNx f b s ≤ max 1 (f + s) := by
  unfold fNx
  have := Int.emod_nonneg b (show 2 * s + 1 ≠ 0 by omega)
  have := Int.emod_lt_of_pos b (show 0 < 2 * s + 1 by omega)
  omega

theorem fS_b {lo wi s : Int} {B : Nat → Int} (h1 : 0 ≤ lo) (h2 : 0 ≤ wi) (hs : 0 ≤ s ∧ s ≤ 5) : ∀ k, 1 ≤ fS lo wi s B k ∧ fS lo wi s B k ≤ 47 + 5 * k
  | 0 => by have := f0_b h1 h2; simp only [fS]; omega
  | k + 1 => by
    have ih := fS_b (B := B) h1 h2 hs k
    have := fNx_b (f := fS lo wi s B k) (b := B (2 * k)) hs
    simp only [fS]; omega

theorem tmod_lit {a : Int} (h : 0 ≤ a) (b : Int) : Int.tmod a b = a % b := Int.tmod_eq_emod_of_nonneg h

theorem fW_eq {f b s : Int} (hs : 0 ≤ s ∧ s ≤ 5) (hb : 0 ≤ b ∧ b < 256) (hf : 0 ≤ f ∧ f ≤ 1000) : fW f b s = f + b % (2 * s + 1) - s := by
  unfold fW
  have h1 := Int.emod_nonneg b (show 2 * s + 1 ≠ 0 by omega)
  have h2 := Int.emod_lt_of_pos b (show 0 < 2 * s + 1 by omega)
  rw [w64_of (n := b) (by omega) (by omega), w64_of (n := 2 * s) (by omega) (by omega), w64_of (n := 2 * s + 1) (by omega) (by omega), tmod_lit hb.1, w64_of (n := f + b % (2 * s + 1)) (by omega) (by omega), w64_of (by omega) (by omega)]

theorem fN_eq {f b s : Int} (hs : 0 ≤ s ∧ s ≤ 5) (hb : 0 ≤ b ∧ b < 256) (hf : 0 ≤ f ∧ f ≤ 1000) : fN f b s = fNx f b s := by
  unfold fN fNx
  rw [fW_eq hs hb hf]
  split <;> omega

theorem lN_eq {f b s : Int} (hs : 0 ≤ s ∧ s ≤ 5) (hb : 0 ≤ b ∧ b < 256) (hf : 0 ≤ f ∧ f ≤ 1000) : lN f b s = lNx f b s := fW_eq hs hb hf

theorem mInv_gc {lo wi st er : Int} {n : Nat} {B : Nat → Int} {dlo dhi dst der f i : Int} {np nl : Nat} {p l p' l' : Nat → Int} (hp : ∀ a, a < np → p a = p' a) (hl : ∀ a, a < nl → l a = l' a) :
    Gc 6 (mInv lo wi st er n B dlo dhi dst der f i np nl p l) (mInv lo wi st er n B dlo dhi dst der f i np nl p' l') := by
  refine gc_sound [(6, 6), (7, 7)] [] rfl ?_ ?_
  · simp [mInv, leTm, leTV, leSV, rn, iv, leD, List.replicate]
  · simp [mInv, leHp, leBlk, leSVs, leSV, rn, iv, u8, ro8, leD, srcOf, row64, hget]
    exact ⟨hp, hl⟩

noncomputable def madeR (lo wi st er : Int) (n : Nat) (B : Nat → Int) : SV :=
  .agg [iv (sLo lo), iv (sHi lo wi), iv (st % 6), iv (er % 6), ro64 (kS n + 1) (fS lo wi (st % 6) B), ro64 (kS n) (lS lo wi (st % 6) (er % 6) B)]

noncomputable def mAt (lo wi st er : Int) (n : Nat) (B : Nat → Int) (k : Nat) : AS :=
  mInv lo wi st er n B (sLo lo) (sHi lo wi) (st % 6) (er % 6) (fS lo wi (st % 6) B k) (2 * (k : Int)) (k + 1) k (fS lo wi (st % 6) B) (lS lo wi (st % 6) (er % 6) B)

theorem made_entry {lo wi st er : Int} {n : Nat} {B : Nat → Int} (h1 : 0 ≤ lo ∧ lo < 256) (h2 : 0 ≤ wi ∧ wi < 256) (h3 : 0 ≤ st ∧ st < 256) (h4 : 0 ≤ er ∧ er < 256) : Gc 6 (codeS (mT lo wi st er n B)) (mAt lo wi st er n B 0) := by
  refine (gcA_sound (mIn lo wi st er n B)).trans ?_
  have a1 := Int.emod_nonneg lo (show (40 : Int) ≠ 0 by omega)
  have e1 : w64 (1 + w64 (lo.tmod 40)) = sLo lo := by
    rw [tmod_lit h1.1, w64_of (n := lo % 40) (by omega) (by omega), w64_of (by omega) (by omega)]; rfl
  have e2 : w64 (wi.tmod 8) = wi % 8 := by rw [tmod_lit h2.1, w64_of (by omega) (by omega)]
  have e3 : w64 (st.tmod 6) = st % 6 := by rw [tmod_lit h3.1, w64_of (by omega) (by omega)]
  have e4 : w64 (er.tmod 6) = er % 6 := by rw [tmod_lit h4.1, w64_of (by omega) (by omega)]
  have hs : sLo lo = 1 + lo % 40 := rfl
  have e5 : w64 (sLo lo + wi % 8) = sHi lo wi := by rw [w64_of (by omega) (by omega)]; rfl
  have e6 : w64 (1 + wi % 8) = 1 + wi % 8 := w64_of (by omega) (by omega)
  have e7 : w64 (sLo lo + (w64 lo).tmod (1 + wi % 8)) = f0 lo wi := by
    have b1 := Int.emod_nonneg lo (show 1 + wi % 8 ≠ 0 by omega)
    have b2 := Int.emod_lt_of_pos lo (show 0 < 1 + wi % 8 by omega)
    rw [w64_of (n := lo) (by omega) (by omega), tmod_lit h1.1, w64_of (by omega) (by omega)]; rfl
  rw [e1, e2, e3, e4, e5, e6, e7]
  refine gc_sound [(6, 6)] [7] rfl ?_ ?_
  · simp [mAt, mInv, leTm, leTV, leSV, rn, iv, leD, List.replicate, fS]
  · simp [mAt, mInv, leHp, leBlk, leSVs, leSV, rn, iv, u8, ro8, leD, srcOf, row64, hget, fS]

theorem made_sat {lo wi st er : Int} {n : Nat} {B : Nat → Int} (h1 : 0 ≤ lo ∧ lo < 256) (h2 : 0 ≤ wi ∧ wi < 256) (h3 : 0 ≤ st ∧ st < 256) (h4 : 0 ≤ er ∧ er < 256) (hB : ∀ i, i < n → 0 ≤ B i ∧ B i < 256) (hn : n ≤ maxLen) :
    (mT lo wi st er n B).sat Try.prog (· = madeR lo wi st er n B) := by
  rw [mCut]
  have e2 : w64 (1 + w64 (wi.tmod 8)) = 1 + wi % 8 := by rw [tmod_lit h2.1, w64_of (n := wi % 8) (by omega) (by omega), w64_of (by omega) (by omega)]
  refine ⟨by decide, by decide, by decide, by decide, by decide, by rw [e2]; omega, fun e s => e = .exit 0 ∧ s = mAt lo wi st er n B (kS n), ?_, ?_⟩
  · refine loop_sat C0_ok D0_ok (n := 200) (n0 := 6) (nx := 8) (roots := mRoots) (keep := [1, 2, 4, 5, 6]) (drop := []) (h := .nil) (mNext lo wi st er n B) (fun m s => ∃ k, m = 12 - k ∧ k ≤ kS n ∧ s = mAt lo wi st er n B k) ⟨12, _, ⟨0, rfl, Nat.zero_le _, rfl⟩, made_entry h1 h2 h3 h4⟩ ?_
    rintro m s ⟨k, rfl, hk, rfl⟩
    have hbody : cutT 6 mRoots [1, 2, 4, 5, 6] [] 8 .nil (exec Try.prog C0 D0 200 mB (mAt lo wi st er n B k)) = _ := mBody lo wi st er n B (sLo lo) (sHi lo wi) (st % 6) (er % 6) (fS lo wi (st % 6) B k) (2 * (k : Int)) (k + 1) k (fS lo wi (st % 6) B) (lS lo wi (st % 6) (er % 6) B)
    have hkn : kS n ≤ 12 ∧ 2 * kS n ≤ n := by unfold kS; omega
    rw [hbody]
    have hml : (n : Int) ≤ 9223372036854775807 := by have : maxLen = 9223372036854775807 := rfl; omega
    have w1 : w64 (2 * (k : Int) + 1) = 2 * (k : Int) + 1 := w64_of (by omega) (by omega)
    have w2 : w64 (2 * (k : Int) + 2) = 2 * ((k + 1 : Nat) : Int) := by rw [w64_of (by omega) (by omega)]; omega
    have t1 : (2 * (k : Int)).toNat = 2 * k := by omega
    have t2 : (2 * (k : Int) + 1).toNat = 2 * k + 1 := by omega
    rw [w1, w2, t1, t2]
    have hs : 0 ≤ st % 6 ∧ st % 6 ≤ 5 := by omega
    have he : 0 ≤ er % 6 ∧ er % 6 ≤ 5 := by omega
    refine ⟨fun hc => ?_, fun hc => ?_⟩
    · simp only [Bool.and_eq_true, decide_eq_true_eq] at hc
      have hk1 : k + 1 ≤ kS n := by unfold kS; omega
      have b1 := hB (2 * k) (by omega)
      have b2 := hB (2 * k + 1) (by omega)
      have f1 := fS_b (B := B) h1.1 h2.1 hs k
      have f2 := fS_b (B := B) h1.1 h2.1 hs (k + 1)
      have g1 : fN (fS lo wi (st % 6) B k) (B (2 * k)) (st % 6) = fS lo wi (st % 6) B (k + 1) := fN_eq hs b1 (by omega)
      have g2 : lN (fS lo wi (st % 6) B (k + 1)) (B (2 * k + 1)) (er % 6) = lS lo wi (st % 6) (er % 6) B k := lN_eq he b2 (by omega)
      rw [g1, g2]
      refine ⟨by omega, ?_, ⟨by omega, by omega, by omega⟩, by omega, ?_, ⟨by omega, by omega, by omega⟩, _, mAt lo wi st er n B (k + 1), (?_ : 12 - (k + 1) < 12 - k), ⟨k + 1, rfl, hk1, rfl⟩, mInv_gc (fun a ha => ?_) (fun a ha => ?_)⟩
      · rw [w64_of (n := 2 * (st % 6)) (by omega) (by omega), w64_of (by omega) (by omega)]; omega
      · rw [w64_of (n := 2 * (er % 6)) (by omega) (by omega), w64_of (by omega) (by omega)]; omega
      · omega
      · simp only [Nat.zero_add]
        by_cases h : a < k + 1
        · simp [h]
        · have : a = k + 1 := by omega
          subst this; simp
      · simp only [Nat.zero_add]
        by_cases h : a < k
        · simp [h]
        · have : a = k := by omega
          subst this; simp
    · simp only [Bool.and_eq_false_iff, decide_eq_false_iff_not] at hc
      have : k = kS n := by unfold kS at hk ⊢; omega
      have hg : Gc 6 (mAt lo wi st er n B k) (mAt lo wi st er n B (kS n)) := by rw [this]; exact Gc.refl _ _
      exact ⟨mAt lo wi st er n B (kS n), ⟨rfl, rfl⟩, hg⟩
  · intro e s hp
    have hout := mOut lo wi st er n B (sLo lo) (sHi lo wi) (st % 6) (er % 6) (fS lo wi (st % 6) B (kS n)) (2 * ((kS n : Nat) : Int)) (kS n + 1) (kS n) (fS lo wi (st % 6) B) (lS lo wi (st % 6) (er % 6) B)
    have hk : codeK (mT lo wi st er n B) e s = codeK (mT lo wi st er n B) (.exit 0) (mAt lo wi st er n B (kS n)) := by rw [hp.1, hp.2]
    rw [hk]
    unfold mAt
    rw [hout]
    exact ⟨by omega, by omega, by simp only [Nat.zero_add, Tree.sat]; rfl⟩

end Go.Proofs.Ytcbjclmjkilphaa

namespace Go.Proofs.Ytcbjclmjkilphaa
open Go.Sx
set_option maxRecDepth 100000

/-- The number in a cell. -/
def numOf : DV → Int | .x (.int _ n) => n | _ => 0

noncomputable def byteCell (cell : Nat → Nat → DV) : Nat → Int := fun i => numOf (cell i 0)

/-- R44.Made. -/
noncomputable def cMade : Ctr := fun ss => match ss with
  | [.agg [.d (.x (.int .u8 lo)), .d (.x (.int .u8 wi)), .d (.x (.int .u8 st)), .d (.x (.int .u8 er)), .d (.ro n 1 cell)]] =>
    .need ((0 ≤ lo ∧ lo < 256) ∧ (0 ≤ wi ∧ wi < 256) ∧ (0 ≤ st ∧ st < 256) ∧ (0 ≤ er ∧ er < 256) ∧ n ≤ maxLen ∧ ∀ i, i < n → ∃ b, cell i 0 = .x (.int .u8 b) ∧ 0 ≤ b ∧ b < 256) (.ret (madeR lo wi st er n (byteCell cell)))
  | _ => .fail

theorem cMade_ok : CtrOK Try.prog 28 cMade := by
  refine ctrOK_le C0_ok D0_ok (by kernel_rfl) (by kernel_rfl) fun ss r h => ?_
  unfold cMade at h
  split at h
  · rename_i lo wi st er n cell
    obtain ⟨⟨h1, h2, h3, h4, hn, hb⟩, rfl⟩ := h
    refine ⟨mArgs lo wi st er n (byteCell cell), 200, .nil, ?_, made_sat h1 h2 h3 h4 (fun i hi => ?_) hn⟩
    · have : ∀ i j, i < n → j < 1 → cell i j = .x (.int .u8 (byteCell cell i)) := by
        intro i j hi hj
        obtain rfl : j = 0 := by omega
        obtain ⟨b, e, _⟩ := hb i hi
        simp [byteCell, e, numOf]
      simp only [mArgs, leSVs, leSV, u8, ro8, leD, and_true, true_and]
      exact this
    · obtain ⟨b, e, h⟩ := hb i hi
      simpa [byteCell, e, numOf] using h
  · exact h.elim

end Go.Proofs.Ytcbjclmjkilphaa

namespace Go.Proofs.Ytcbjclmjkilphaa
open Go.Sx
set_option maxRecDepth 100000

noncomputable def mon (lo hi st er le mo : Int) (sp : Bool) : SV := .agg [iv lo, iv hi, iv st, iv er, iv le, iv mo, bv sp]

/-! ### examples -/

noncomputable def cEx : Ctr := fun ss => match ss with
  | [] => .ret (bv true)
  | _ => .fail

noncomputable def CX : Ctx := ctxN Try.prog (fun _ => none) (fun _ => false) 200 .run 6
theorem CX_ok : CtxOK Try.prog CX := ctxN_ok mixed (fun k c h => by cases h) 6

theorem ex_run : autoC Try.prog CX 200 14 .run [] = .ret (bv true) := by kernel_rfl

theorem cEx_ok : CtrOK Try.prog 14 cEx := by
  refine (autoC_ok CX_ok mixed 200 14 .run).mono fun ss r h => ?_
  unfold cEx at h
  split at h
  · rw [ex_run]; exact h
  · exact h.elim

/-! ### R45.Made -/

noncomputable def man1 : FuncId → Option Ctr := fun k => if k = 28 then some cMade else none
noncomputable def C1 : Ctx := ctxN Try.prog man1 (fun _ => false) 200 .nil 6
theorem C1_ok : CtxOK Try.prog C1 := ctxN_ok mixed (fun k c h => by
  unfold man1 at h
  split at h
  · rename_i e; cases h; subst e; exact ⟨cMade_ok, by kernel_rfl⟩
  · cases h) 6
noncomputable def D1 : Dr := fun _ => drawn Try.prog C1
theorem D1_ok : DrOK Try.prog C1 D1 := drawn_ok C1_ok mixed

def oLo (lo st : Int) : Int := max 1 (lo - st)
def inR (lo hi st le mo : Int) : Bool := decide (le ≤ oLo lo st) && decide (hi + st ≤ mo)
noncomputable def mLe (lo be : Int) : Int := max 1 (sLo lo - be % 30)
noncomputable def mMo (lo wi ov : Int) : Int := sHi lo wi + ov % 30
noncomputable def monR (lo wi st er be ov : Int) : SV := mon (sLo lo) (sHi lo wi) (st % 6) (er % 6) (mLe lo be) (mMo lo wi ov) (!inR (sLo lo) (sHi lo wi) (st % 6) (mLe lo be) (mMo lo wi ov))

noncomputable def m5T (lo wi st er be ov : Int) (n : Nat) (cell : Nat → Nat → DV) : Tree SV := fnT Try.prog C1 D1 200 (fnOf Try.prog 15) (bodyOf Try.prog 15) [.agg [u8 lo, u8 wi, u8 st, u8 er, .d (.ro n 1 cell), u8 be, u8 ov]] .nil

noncomputable def m5X (lo wi st er be ov : Int) (n : Nat) (cell : Nat → Nat → DV) : Tree SV :=
  .need ((0 ≤ lo ∧ lo < 256) ∧ (0 ≤ wi ∧ wi < 256) ∧ (0 ≤ st ∧ st < 256) ∧ (0 ≤ er ∧ er < 256) ∧ n ≤ 9223372036854775807 ∧ ∀ (i : Nat), i < n → ∃ b, cell i 0 = .x (Value.int IntKind.u8 b) ∧ 0 ≤ b ∧ b < 256)
  (.need (30 ≠ (0 : Int))
    (.need (30 ≠ (0 : Int))
      (.ite
        (decide ((if w64 (sLo lo - w64 (Int.tmod be 30)) > 1 then w64 (sLo lo - w64 (Int.tmod be 30)) else 1) < 1) ||
                  decide (w64 (sHi lo wi + w64 (Int.tmod ov 30)) < if w64 (sLo lo - w64 (Int.tmod be 30)) > 1 then w64 (sLo lo - w64 (Int.tmod be 30)) else 1) ||
                decide (w64 (sHi lo wi + w64 (Int.tmod ov 30)) > 1000000) ||
              decide (sLo lo < 1) ||
            decide (sHi lo wi < sLo lo) ||
          decide (sHi lo wi > 1000000))
        (.ite true (.ret (.agg [iv 0, iv 0, iv 0, iv 0, iv 0, iv 0, bv false]))
          (.ret
            (.agg
              [iv (sLo lo), iv (sHi lo wi), iv (st % 6), iv (er % 6), iv (if w64 (sLo lo - w64 (Int.tmod be 30)) > 1 then w64 (sLo lo - w64 (Int.tmod be 30)) else 1), iv (w64 (sHi lo wi + w64 (Int.tmod ov 30))),
                bv
                  !(decide ((if w64 (sLo lo - st % 6) > 1 then w64 (sLo lo - st % 6) else 1) ≥ if w64 (sLo lo - w64 (Int.tmod be 30)) > 1 then w64 (sLo lo - w64 (Int.tmod be 30)) else 1) &&
                      decide (w64 (sHi lo wi + st % 6) ≤ w64 (sHi lo wi + w64 (Int.tmod ov 30))))])))
        (.ite (decide (st % 6 < 0) || decide (st % 6 > 1000000) || decide (er % 6 < 0) || decide (er % 6 > 1000000))
          (.ite true (.ret (.agg [iv 0, iv 0, iv 0, iv 0, iv 0, iv 0, bv false]))
            (.ret
              (.agg
                [iv (sLo lo), iv (sHi lo wi), iv (st % 6), iv (er % 6), iv (if w64 (sLo lo - w64 (Int.tmod be 30)) > 1 then w64 (sLo lo - w64 (Int.tmod be 30)) else 1), iv (w64 (sHi lo wi + w64 (Int.tmod ov 30))),
                  bv
                    !(decide ((if w64 (sLo lo - st % 6) > 1 then w64 (sLo lo - st % 6) else 1) ≥ if w64 (sLo lo - w64 (Int.tmod be 30)) > 1 then w64 (sLo lo - w64 (Int.tmod be 30)) else 1) &&
                        decide (w64 (sHi lo wi + st % 6) ≤ w64 (sHi lo wi + w64 (Int.tmod ov 30))))])))
          (.ite
            (!(true ||
                decide ((if w64 (sLo lo - st % 6) > 1 then w64 (sLo lo - st % 6) else 1) ≥ if w64 (sLo lo - w64 (Int.tmod be 30)) > 1 then w64 (sLo lo - w64 (Int.tmod be 30)) else 1) &&
                  decide (w64 (sHi lo wi + st % 6) ≤ w64 (sHi lo wi + w64 (Int.tmod ov 30)))))
            (.ret (.agg [iv 0, iv 0, iv 0, iv 0, iv 0, iv 0, bv false]))
            (.ret
              (.agg
                [iv (sLo lo), iv (sHi lo wi), iv (st % 6), iv (er % 6), iv (if w64 (sLo lo - w64 (Int.tmod be 30)) > 1 then w64 (sLo lo - w64 (Int.tmod be 30)) else 1), iv (w64 (sHi lo wi + w64 (Int.tmod ov 30))),
                  bv
                    !(decide ((if w64 (sLo lo - st % 6) > 1 then w64 (sLo lo - st % 6) else 1) ≥ if w64 (sLo lo - w64 (Int.tmod be 30)) > 1 then w64 (sLo lo - w64 (Int.tmod be 30)) else 1) &&
                        decide (w64 (sHi lo wi + st % 6) ≤ w64 (sHi lo wi + w64 (Int.tmod ov 30))))])))))))

theorem m5X_eq (lo wi st er be ov : Int) (n : Nat) (cell : Nat → Nat → DV) : m5T lo wi st er be ov n cell = m5X lo wi st er be ov n cell := by kernel_rfl

theorem mx {a : Int} : (if a > 1 then a else 1) = max 1 a := by omega

theorem m5_sat {lo wi st er be ov : Int} {n : Nat} {cell : Nat → Nat → DV} (h1 : 0 ≤ lo ∧ lo < 256) (h2 : 0 ≤ wi ∧ wi < 256) (h3 : 0 ≤ st ∧ st < 256) (h4 : 0 ≤ er ∧ er < 256) (hn : n ≤ maxLen) (hB : ∀ i, i < n → ∃ b, cell i 0 = .x (.int .u8 b) ∧ 0 ≤ b ∧ b < 256)
    (h5 : 0 ≤ be ∧ be < 256) (h6 : 0 ≤ ov ∧ ov < 256) :
    (m5T lo wi st er be ov n cell).sat Try.prog (· = monR lo wi st er be ov) := by
  have a1 : 1 ≤ sLo lo ∧ sLo lo ≤ 40 := by unfold sLo; omega
  have a2 : sLo lo ≤ sHi lo wi ∧ sHi lo wi ≤ 47 := by unfold sHi; omega
  have e1 : w64 (Int.tmod be 30) = be % 30 := by rw [tmod_lit h5.1, w64_of (by omega) (by omega)]
  have e2 : w64 (Int.tmod ov 30) = ov % 30 := by rw [tmod_lit h6.1, w64_of (by omega) (by omega)]
  have e3 : w64 (sLo lo - be % 30) = sLo lo - be % 30 := w64_of (by omega) (by omega)
  have e4 : w64 (sHi lo wi + ov % 30) = sHi lo wi + ov % 30 := w64_of (by omega) (by omega)
  have e5 : w64 (sLo lo - st % 6) = sLo lo - st % 6 := w64_of (by omega) (by omega)
  have e6 : w64 (sHi lo wi + st % 6) = sHi lo wi + st % 6 := w64_of (by omega) (by omega)
  rw [m5X_eq]
  unfold m5X
  simp only [e1, e2, e3, e4, e5, e6, mx]
  refine ⟨⟨h1, h2, h3, h4, hn, hB⟩, by decide, by decide, ?_⟩
  rw [show (decide (max 1 (sLo lo - be % 30) < 1) || decide (sHi lo wi + ov % 30 < max 1 (sLo lo - be % 30)) || decide (sHi lo wi + ov % 30 > 1000000) || decide (sLo lo < 1) || decide (sHi lo wi < sLo lo) || decide (sHi lo wi > 1000000)) = false by simp; omega,
    show (decide (st % 6 < 0) || decide (st % 6 > 1000000) || decide (er % 6 < 0) || decide (er % 6 > 1000000)) = false by simp; omega]
  simp [Tree.sat, monR, mon, mLe, mMo, inR, oLo]
  rfl

/-- R45.Made. -/
noncomputable def cM45 : Ctr := fun ss => match ss with
  | [.agg [.d (.x (.int .u8 lo)), .d (.x (.int .u8 wi)), .d (.x (.int .u8 st)), .d (.x (.int .u8 er)), .d (.ro n 1 cell), .d (.x (.int .u8 be)), .d (.x (.int .u8 ov))]] =>
    .need ((0 ≤ lo ∧ lo < 256) ∧ (0 ≤ wi ∧ wi < 256) ∧ (0 ≤ st ∧ st < 256) ∧ (0 ≤ er ∧ er < 256) ∧ n ≤ maxLen ∧ (∀ i, i < n → ∃ b, cell i 0 = .x (.int .u8 b) ∧ 0 ≤ b ∧ b < 256) ∧ (0 ≤ be ∧ be < 256) ∧ (0 ≤ ov ∧ ov < 256)) (.ret (monR lo wi st er be ov))
  | _ => .fail

theorem cM45_ok : CtrOK Try.prog 15 cM45 := by
  refine ctrOK_of C1_ok D1_ok (fn := fnOf Try.prog 15) (body := bodyOf Try.prog 15) (by kernel_rfl) (by kernel_rfl) fun ss r h => ?_
  unfold cM45 at h
  split at h
  · rename_i lo wi st er n cell be ov
    obtain ⟨⟨h1, h2, h3, h4, hn, hb, h5, h6⟩, rfl⟩ := h
    exact ⟨200, .nil, m5_sat h1 h2 h3 h4 hn hb h5 h6⟩
  · exact h.elim

end Go.Proofs.Ytcbjclmjkilphaa

namespace Go.Proofs.Ytcbjclmjkilphaa
open Go.Sx
set_option maxRecDepth 100000

noncomputable def T1 (k : Nat) (args : List SV) : Tree SV := fnT Try.prog C1 D1 200 (fnOf Try.prog k) (bodyOf Try.prog k) args .nil

structure okM (lo hi st er le mo : Int) : Prop where
  le : 1 ≤ le ∧ le ≤ mo ∧ mo ≤ 1000000
  lo : 1 ≤ lo ∧ lo ≤ hi ∧ hi ≤ 1000000
  st : 0 ≤ st ∧ st ≤ 1000000
  er : 0 ≤ er ∧ er ≤ 1000000

def okB (lo hi st er le mo : Int) : Bool := decide ((1 ≤ le ∧ le ≤ mo ∧ mo ≤ 1000000) ∧ (1 ≤ lo ∧ lo ≤ hi ∧ hi ≤ 1000000) ∧ (0 ≤ st ∧ st ≤ 1000000) ∧ 0 ≤ er ∧ er ≤ 1000000)
theorem okB_iff {lo hi st er le mo : Int} : okB lo hi st er le mo = true ↔ okM lo hi st er le mo := by
  unfold okB; rw [decide_eq_true_eq]
  exact ⟨fun ⟨a, b, c, d⟩ => ⟨a, b, c, d⟩, fun ⟨a, b, c, d⟩ => ⟨a, b, c, d⟩⟩

def vB (lo hi st er le mo : Int) (sp : Bool) : Bool := okB lo hi st er le mo && (sp || inR lo hi st le mo)

def okV (lo hi st er le mo : Int) (sp : Bool) : Prop := vB lo hi st er le mo sp = true
theorem okV.m {lo hi st er le mo : Int} {sp : Bool} (h : okV lo hi st er le mo sp) : okM lo hi st er le mo := by
  unfold okV vB at h; rw [Bool.and_eq_true] at h; exact okB_iff.1 h.1
theorem inR_iff {lo hi st le mo : Int} : inR lo hi st le mo = true ↔ le ≤ oLo lo st ∧ hi + st ≤ mo := by simp [inR]
theorem okV.r {lo hi st er le mo : Int} (h : okV lo hi st er le mo false) : le ≤ oLo lo st ∧ hi + st ≤ mo := by
  unfold okV vB at h; rw [Bool.and_eq_true] at h; exact inR_iff.1 (by simpa using h.2)

/-- Whether a reading agrees, and what a reading and a missing one make. -/
def gB (lo hi st er r : Int) : Bool := decide (-4000000 ≤ r ∧ r ≤ 4000000 ∧ max (oLo lo st) (r - er) ≤ min (hi + st) (r + er))
def vLo (lo hi st er : Int) (sp : Bool) (r : Int) : Int := if sp = false ∧ gB lo hi st er r = true then max (oLo lo st) (r - er) else lo
def vHi (lo hi st er : Int) (sp : Bool) (r : Int) : Int := if sp = false ∧ gB lo hi st er r = true then min (hi + st) (r + er) else hi
def vSp (lo hi st er le mo : Int) (sp : Bool) (r : Int) : Bool := sp || !gB lo hi st er r || !inR (max (oLo lo st) (r - er)) (min (hi + st) (r + er)) st le mo
def uLo (lo st : Int) (sp : Bool) : Int := if sp = false then oLo lo st else lo
def uHi (hi st : Int) (sp : Bool) : Int := if sp = false then hi + st else hi
def uSp (lo hi st le mo : Int) (sp : Bool) : Bool := sp || !inR (oLo lo st) (hi + st) st le mo

theorem mon_ext {a b c d e f a' b' : Int} {g g' : Bool} (h1 : a = a') (h2 : b = b') (h3 : g = g') : mon a b c d e f g = mon a' b' c d e f g' := by rw [h1, h2, h3]

noncomputable def X11 (lo hi st er le mo : Int) (sp : Bool) : Tree SV :=
  .ret
  (bv
    (decide (1 ≤ le) && decide (le ≤ mo) && decide (mo ≤ 1000000) && decide (1 ≤ lo) && decide (lo ≤ hi) && decide (hi ≤ 1000000) && (decide (0 ≤ st) && decide (st ≤ 1000000) && decide (0 ≤ er) && decide (er ≤ 1000000)) &&
      (sp || decide ((if w64 (lo - st) > 1 then w64 (lo - st) else 1) ≥ le) && decide (w64 (hi + st) ≤ mo))))

theorem X11_eq (lo hi st er le mo : Int) (sp : Bool) : T1 16 [mon lo hi st er le mo sp] = X11 lo hi st er le mo sp := by kernel_rfl

noncomputable def X12 (lo hi st er le mo : Int) (sp : Bool) : Tree SV :=
  .ite (decide (le < 1) || decide (mo < le) || decide (mo > 1000000) || decide (lo < 1) || decide (hi < lo) || decide (hi > 1000000)) (.ret (bv false))
  (.ite (decide (st < 0) || decide (st > 1000000) || decide (er < 0) || decide (er > 1000000)) (.ret (bv false)) (.ret (bv (sp || decide ((if w64 (lo - st) > 1 then w64 (lo - st) else 1) ≥ le) && decide (w64 (hi + st) ≤ mo)))))

theorem X12_eq (lo hi st er le mo : Int) (sp : Bool) : T1 17 [mon lo hi st er le mo sp] = X12 lo hi st er le mo sp := by kernel_rfl

noncomputable def X13 (lo hi st er le mo : Int) (sp : Bool) : Tree SV :=
  .ite
  (!(decide (1 ≤ le) && decide (le ≤ mo) && decide (mo ≤ 1000000) && decide (1 ≤ lo) && decide (lo ≤ hi) && decide (hi ≤ 1000000) && (decide (0 ≤ st) && decide (st ≤ 1000000) && decide (0 ≤ er) && decide (er ≤ 1000000)) &&
      (true || decide ((if w64 (lo - st) > 1 then w64 (lo - st) else 1) ≥ le) && decide (w64 (hi + st) ≤ mo))))
  (.ret (.agg [iv 0, iv 0, iv 0, iv 0, iv 0, iv 0, bv false, iv 1]))
  (.ret (.agg [iv lo, iv hi, iv st, iv er, iv le, iv mo, bv !(decide ((if w64 (lo - st) > 1 then w64 (lo - st) else 1) ≥ le) && decide (w64 (hi + st) ≤ mo)), iv 0]))

theorem X13_eq (lo hi st er le mo : Int) (sp : Bool) : T1 18 [mon lo hi st er le mo sp] = X13 lo hi st er le mo sp := by kernel_rfl

noncomputable def X14 (lo hi st er le mo : Int) (sp : Bool) : Tree SV :=
  .ite (decide (le < 1) || decide (mo < le) || decide (mo > 1000000) || decide (lo < 1) || decide (hi < lo) || decide (hi > 1000000))
  (.ite true (.ret (.agg [iv 0, iv 0, iv 0, iv 0, iv 0, iv 0, bv false, iv 1]))
    (.ret (.agg [iv lo, iv hi, iv st, iv er, iv le, iv mo, bv !(decide ((if w64 (lo - st) > 1 then w64 (lo - st) else 1) ≥ le) && decide (w64 (hi + st) ≤ mo)), iv 0])))
  (.ite (decide (st < 0) || decide (st > 1000000) || decide (er < 0) || decide (er > 1000000))
    (.ite true (.ret (.agg [iv 0, iv 0, iv 0, iv 0, iv 0, iv 0, bv false, iv 1]))
      (.ret (.agg [iv lo, iv hi, iv st, iv er, iv le, iv mo, bv !(decide ((if w64 (lo - st) > 1 then w64 (lo - st) else 1) ≥ le) && decide (w64 (hi + st) ≤ mo)), iv 0])))
    (.ite (!(true || decide ((if w64 (lo - st) > 1 then w64 (lo - st) else 1) ≥ le) && decide (w64 (hi + st) ≤ mo))) (.ret (.agg [iv 0, iv 0, iv 0, iv 0, iv 0, iv 0, bv false, iv 1]))
      (.ret (.agg [iv lo, iv hi, iv st, iv er, iv le, iv mo, bv !(decide ((if w64 (lo - st) > 1 then w64 (lo - st) else 1) ≥ le) && decide (w64 (hi + st) ≤ mo)), iv 0]))))

theorem X14_eq (lo hi st er le mo : Int) (sp : Bool) : T1 19 [mon lo hi st er le mo sp] = X14 lo hi st er le mo sp := by kernel_rfl

noncomputable def X16 (lo hi st er le mo : Int) (sp : Bool) : Tree SV :=
  .ite sp (.ret (.agg [iv lo, iv hi, iv st, iv er, iv le, iv mo, bv sp]))
  (.ret
    (.agg
      [iv (if w64 (lo - st) > 1 then w64 (lo - st) else 1), iv (w64 (hi + st)), iv st, iv er, iv le, iv mo,
        bv !(decide ((if w64 ((if w64 (lo - st) > 1 then w64 (lo - st) else 1) - st) > 1 then w64 ((if w64 (lo - st) > 1 then w64 (lo - st) else 1) - st) else 1) ≥ le) && decide (w64 (w64 (hi + st) + st) ≤ mo))]))

theorem X16_eq (lo hi st er le mo : Int) (sp : Bool) : T1 21 [mon lo hi st er le mo sp] = X16 lo hi st er le mo sp := by kernel_rfl

noncomputable def X17 (lo hi st er le mo : Int) (sp : Bool) : Tree SV :=
  .ret (.agg [iv (if w64 (lo - st) > 1 then w64 (lo - st) else 1), iv (w64 (hi + st))])

theorem X17_eq (lo hi st er le mo : Int) (sp : Bool) : T1 22 [mon lo hi st er le mo sp] = X17 lo hi st er le mo sp := by kernel_rfl

noncomputable def X18 (lo hi st er le mo : Int) (sp : Bool) : Tree SV :=
  .ret (.agg [iv (if w64 (lo - st) > 1 then w64 (lo - st) else 1), iv (w64 (hi + st))])

theorem X18_eq (lo hi st er le mo : Int) (sp : Bool) : T1 23 [mon lo hi st er le mo sp] = X18 lo hi st er le mo sp := by kernel_rfl

noncomputable def X22 (lo hi st er le mo : Int) (sp : Bool) : Tree SV :=
  .ite sp (.ret (.agg [iv lo, iv hi, iv st, iv er, iv le, iv mo, bv sp]))
  (.ite (decide ((if w64 (lo - st) > 1 then w64 (lo - st) else 1) > w64 (hi + st))) (.ret (.agg [iv lo, iv hi, iv st, iv er, iv le, iv mo, bv true]))
    (.ret
      (.agg
        [iv (if w64 (lo - st) > 1 then w64 (lo - st) else 1), iv (w64 (hi + st)), iv st, iv er, iv le, iv mo,
          bv !(decide ((if w64 ((if w64 (lo - st) > 1 then w64 (lo - st) else 1) - st) > 1 then w64 ((if w64 (lo - st) > 1 then w64 (lo - st) else 1) - st) else 1) ≥ le) && decide (w64 (w64 (hi + st) + st) ≤ mo))])))

theorem X22_eq (lo hi st er le mo : Int) (sp : Bool) : T1 27 [mon lo hi st er le mo sp] = X22 lo hi st er le mo sp := by kernel_rfl

noncomputable def X15 (lo hi st er le mo : Int) (sp : Bool) (r : Int) : Tree SV :=
  .ite sp (.ret (.agg [iv lo, iv hi, iv st, iv er, iv le, iv mo, bv sp]))
  (.ite (decide (r < -4000000) || decide (r > 4000000))
    (.ite true (.ret (.agg [iv lo, iv hi, iv st, iv er, iv le, iv mo, bv true]))
      (.ret (.agg [iv 0, iv 0, iv st, iv er, iv le, iv mo, bv !(decide ((if w64 (0 - st) > 1 then w64 (0 - st) else 1) ≥ le) && decide (w64 (0 + st) ≤ mo))])))
    (.ite (!decide ((if w64 (r - er) > if w64 (lo - st) > 1 then w64 (lo - st) else 1 then w64 (r - er) else if w64 (lo - st) > 1 then w64 (lo - st) else 1) ≤ if w64 (r + er) < w64 (hi + st) then w64 (r + er) else w64 (hi + st)))
      (.ret (.agg [iv lo, iv hi, iv st, iv er, iv le, iv mo, bv true]))
      (.ret
        (.agg
          [iv (if w64 (r - er) > if w64 (lo - st) > 1 then w64 (lo - st) else 1 then w64 (r - er) else if w64 (lo - st) > 1 then w64 (lo - st) else 1), iv (if w64 (r + er) < w64 (hi + st) then w64 (r + er) else w64 (hi + st)), iv st, iv er,
            iv le, iv mo,
            bv
              !(decide
                    ((if w64 ((if w64 (r - er) > if w64 (lo - st) > 1 then w64 (lo - st) else 1 then w64 (r - er) else if w64 (lo - st) > 1 then w64 (lo - st) else 1) - st) > 1 then
                        w64 ((if w64 (r - er) > if w64 (lo - st) > 1 then w64 (lo - st) else 1 then w64 (r - er) else if w64 (lo - st) > 1 then w64 (lo - st) else 1) - st)
                      else 1) ≥
                      le) &&
                  decide (w64 ((if w64 (r + er) < w64 (hi + st) then w64 (r + er) else w64 (hi + st)) + st) ≤ mo))]))))

theorem X15_eq (lo hi st er le mo : Int) (sp : Bool) (r : Int) : T1 20 [mon lo hi st er le mo sp, iv r] = X15 lo hi st er le mo sp r := by kernel_rfl

noncomputable def X19 (lo hi st er le mo : Int) (sp : Bool) (r : Int) : Tree SV :=
  .ite (decide (r < -4000000) || decide (r > 4000000)) (.ret (bv false))
  (.ret
    (bv
      (!((if w64 (r - er) > if w64 (lo - st) > 1 then w64 (lo - st) else 1 then w64 (r - er) else if w64 (lo - st) > 1 then w64 (lo - st) else 1) == 1 &&
            ((if w64 (r + er) < w64 (hi + st) then w64 (r + er) else w64 (hi + st)) == 0 && true)) &&
        decide ((if w64 (r - er) > if w64 (lo - st) > 1 then w64 (lo - st) else 1 then w64 (r - er) else if w64 (lo - st) > 1 then w64 (lo - st) else 1) ≤ if w64 (r + er) < w64 (hi + st) then w64 (r + er) else w64 (hi + st)))))

theorem X19_eq (lo hi st er le mo : Int) (sp : Bool) (r : Int) : T1 24 [mon lo hi st er le mo sp, iv r] = X19 lo hi st er le mo sp r := by kernel_rfl

noncomputable def X20 (lo hi st er le mo : Int) (sp : Bool) (r : Int) : Tree SV :=
  .ite (decide (r < -4000000) || decide (r > 4000000)) (.ret (bv false))
  (.ret (bv (decide ((if w64 (r - er) > if w64 (lo - st) > 1 then w64 (lo - st) else 1 then w64 (r - er) else if w64 (lo - st) > 1 then w64 (lo - st) else 1) ≤ if w64 (r + er) < w64 (hi + st) then w64 (r + er) else w64 (hi + st)))))

theorem X20_eq (lo hi st er le mo : Int) (sp : Bool) (r : Int) : T1 25 [mon lo hi st er le mo sp, iv r] = X20 lo hi st er le mo sp r := by kernel_rfl

noncomputable def X21 (lo hi st er le mo : Int) (sp : Bool) (r : Int) : Tree SV :=
  .ite sp (.ret (.agg [iv lo, iv hi, iv st, iv er, iv le, iv mo, bv sp]))
  (.ite (decide (r < -4000000) || decide (r > 4000000))
    (.ite true (.ret (.agg [iv lo, iv hi, iv st, iv er, iv le, iv mo, bv true]))
      (.ret (.agg [iv 1, iv 0, iv st, iv er, iv le, iv mo, bv !(decide ((if w64 (1 - st) > 1 then w64 (1 - st) else 1) ≥ le) && decide (w64 (0 + st) ≤ mo))])))
    (.ite (decide ((if w64 (r - er) > if w64 (lo - st) > 1 then w64 (lo - st) else 1 then w64 (r - er) else if w64 (lo - st) > 1 then w64 (lo - st) else 1) > if w64 (r + er) < w64 (hi + st) then w64 (r + er) else w64 (hi + st)))
      (.ret (.agg [iv lo, iv hi, iv st, iv er, iv le, iv mo, bv true]))
      (.ret
        (.agg
          [iv (if w64 (r - er) > if w64 (lo - st) > 1 then w64 (lo - st) else 1 then w64 (r - er) else if w64 (lo - st) > 1 then w64 (lo - st) else 1), iv (if w64 (r + er) < w64 (hi + st) then w64 (r + er) else w64 (hi + st)), iv st, iv er,
            iv le, iv mo,
            bv
              !(decide
                    ((if w64 ((if w64 (r - er) > if w64 (lo - st) > 1 then w64 (lo - st) else 1 then w64 (r - er) else if w64 (lo - st) > 1 then w64 (lo - st) else 1) - st) > 1 then
                        w64 ((if w64 (r - er) > if w64 (lo - st) > 1 then w64 (lo - st) else 1 then w64 (r - er) else if w64 (lo - st) > 1 then w64 (lo - st) else 1) - st)
                      else 1) ≥
                      le) &&
                  decide (w64 ((if w64 (r + er) < w64 (hi + st) then w64 (r + er) else w64 (hi + st)) + st) ≤ mo))]))))

theorem X21_eq (lo hi st er le mo : Int) (sp : Bool) (r : Int) : T1 26 [mon lo hi st er le mo sp, iv r] = X21 lo hi st er le mo sp r := by kernel_rfl


end Go.Proofs.Ytcbjclmjkilphaa

namespace Go.Proofs.Ytcbjclmjkilphaa
open Go.Sx
set_option maxRecDepth 100000
variable {lo hi st er le mo r : Int} {sp : Bool}

/-- What a function returns: kept behind a word, for the elaborator looks through all others. -/
structure Says (k : Nat) (ss : List SV) (r : SV) : Prop where
  ok : (T1 k ss).sat Try.prog (· = r)

/-- From a told tree to a contract. -/
theorem ctr_of {k : Nat} {c : Ctr} (hf : (Try.prog.funcs[k]?).isSome = true) (hb : (fnOf Try.prog k).body.isSome = true) (h : ∀ ss r, (c ss).ev r → Says k ss r) : CtrOK Try.prog k c :=
  ctrOK_of C1_ok D1_ok (fn := fnOf Try.prog k) (body := bodyOf Try.prog k) (by
    unfold fnOf
    cases hk : Try.prog.funcs[k]? with
    | none => rw [hk] at hf; cases hf
    | some f => rfl) (by
    unfold bodyOf
    cases hk : (fnOf Try.prog k).body with
    | none => rw [hk] at hb; cases hb
    | some f => rfl) fun ss r hr => ⟨200, .nil, (h ss r hr).ok⟩

theorem inR_w (h : okM lo hi st er le mo) : (decide ((if w64 (lo - st) > 1 then w64 (lo - st) else 1) ≥ le) && decide (w64 (hi + st) ≤ mo)) = inR lo hi st le mo := by
  have h1 := h.lo; have h2 := h.st
  rw [w64_of (n := lo - st) (by omega) (by omega), w64_of (n := hi + st) (by omega) (by omega), mx]
  rfl

theorem s11 : Says 16 [mon lo hi st er le mo sp] (bv (vB lo hi st er le mo sp)) := by
  constructor
  rw [X11_eq]; unfold X11
  show bv _ = bv _
  congr 1
  by_cases h : okM lo hi st er le mo
  · rw [inR_w h]
    have := h.lo; have := h.st; have := h.er; have := h.le
    unfold vB
    rw [okB_iff.2 h, show (decide (1 ≤ le) && decide (le ≤ mo) && decide (mo ≤ 1000000) && decide (1 ≤ lo) && decide (lo ≤ hi) && decide (hi ≤ 1000000) && (decide (0 ≤ st) && decide (st ≤ 1000000) && decide (0 ≤ er) && decide (er ≤ 1000000))) = true by simp; omega]
  · have h' : okB lo hi st er le mo = false := by rw [← Bool.not_eq_true, okB_iff]; exact h
    unfold vB
    rw [h', Bool.false_and, Bool.and_eq_false_iff]
    refine .inl ?_
    rw [← Bool.not_eq_true]
    intro hc
    simp only [Bool.and_eq_true, decide_eq_true_eq] at hc
    exact h ⟨by omega, by omega, by omega, by omega⟩

theorem s12 : Says 17 [mon lo hi st er le mo sp] (bv (vB lo hi st er le mo sp)) := by
  constructor
  rw [X12_eq]; unfold X12
  by_cases h : okM lo hi st er le mo
  · rw [inR_w h]
    have := h.lo; have := h.st; have := h.er; have := h.le
    unfold vB
    rw [okB_iff.2 h]
    refine ⟨fun hc => ?_, fun hc => ⟨fun hd => ?_, fun hd => rfl⟩⟩
    · simp only [Bool.or_eq_true, decide_eq_true_eq] at hc; omega
    · simp only [Bool.or_eq_true, decide_eq_true_eq] at hd; omega
  · have h' : okB lo hi st er le mo = false := by rw [← Bool.not_eq_true, okB_iff]; exact h
    unfold vB
    rw [h', Bool.false_and]
    refine ⟨fun hc => rfl, fun hc => ⟨fun hd => rfl, fun hd => ?_⟩⟩
    simp only [Bool.or_eq_false_iff, decide_eq_false_iff_not] at hc hd
    exact (h ⟨by omega, by omega, by omega, by omega⟩).elim

def zif (c : Bool) (x : Int) : Int := bif c then x else 0
def zerr (c : Bool) : Int := bif c then 0 else 1
noncomputable def newR (lo hi st er le mo : Int) : SV := .agg [iv (zif (okB lo hi st er le mo) lo), iv (zif (okB lo hi st er le mo) hi), iv (zif (okB lo hi st er le mo) st), iv (zif (okB lo hi st er le mo) er), iv (zif (okB lo hi st er le mo) le), iv (zif (okB lo hi st er le mo) mo), bv (okB lo hi st er le mo && !inR lo hi st le mo), iv (zerr (okB lo hi st er le mo))]

theorem s13 : Says 18 [mon lo hi st er le mo sp] (newR lo hi st er le mo) := by
  constructor
  rw [X13_eq]; unfold X13
  by_cases h : okM lo hi st er le mo
  · rw [inR_w h]
    have := h.lo; have := h.st; have := h.er; have := h.le
    unfold newR
    rw [okB_iff.2 h]
    rw [show (decide (1 ≤ le) && decide (le ≤ mo) && decide (mo ≤ 1000000) && decide (1 ≤ lo) && decide (lo ≤ hi) && decide (hi ≤ 1000000) && (decide (0 ≤ st) && decide (st ≤ 1000000) && decide (0 ≤ er) && decide (er ≤ 1000000))) = true by simp; omega]
    exact ⟨fun hc => by simp at hc, fun _ => rfl⟩
  · have h' : okB lo hi st er le mo = false := by rw [← Bool.not_eq_true, okB_iff]; exact h
    unfold newR
    rw [h']
    refine ⟨fun hc => rfl, fun hc => ?_⟩
    simp at hc
    exact (h ⟨by omega, by omega, by omega, by omega⟩).elim

theorem s14 : Says 19 [mon lo hi st er le mo sp] (newR lo hi st er le mo) := by
  constructor
  rw [X14_eq]; unfold X14
  by_cases h : okM lo hi st er le mo
  · rw [inR_w h]
    have := h.lo; have := h.st; have := h.er; have := h.le
    unfold newR
    rw [okB_iff.2 h]
    refine ⟨fun hc => ?_, fun hc => ⟨fun hd => ?_, fun hd => ⟨fun he => by simp at he, fun he => rfl⟩⟩⟩
    · simp only [Bool.or_eq_true, decide_eq_true_eq] at hc; omega
    · simp only [Bool.or_eq_true, decide_eq_true_eq] at hd; omega
  · have h' : okB lo hi st er le mo = false := by rw [← Bool.not_eq_true, okB_iff]; exact h
    unfold newR
    rw [h']
    refine ⟨fun hc => ⟨fun _ => rfl, fun h => by cases h⟩, fun hc => ⟨fun hd => ⟨fun _ => rfl, fun h => by cases h⟩, fun hd => ?_⟩⟩
    simp only [Bool.or_eq_false_iff, decide_eq_false_iff_not] at hc hd
    exact (h ⟨by omega, by omega, by omega, by omega⟩).elim

noncomputable def outR (lo hi st : Int) : SV := .agg [iv (oLo lo st), iv (hi + st)]
theorem s17 (h : okM lo hi st er le mo) : Says 22 [mon lo hi st er le mo sp] (outR lo hi st) := by
  constructor
  have := h.lo; have := h.st
  rw [X17_eq]; unfold X17
  rw [w64_of (n := lo - st) (by omega) (by omega), w64_of (n := hi + st) (by omega) (by omega), mx]
  rfl
theorem s18 (h : okM lo hi st er le mo) : Says 23 [mon lo hi st er le mo sp] (outR lo hi st) := by
  constructor
  have := h.lo; have := h.st
  rw [X18_eq]; unfold X18
  rw [w64_of (n := lo - st) (by omega) (by omega), w64_of (n := hi + st) (by omega) (by omega), mx]
  rfl

noncomputable def missR (lo hi st er le mo : Int) (sp : Bool) : SV := mon (uLo lo st sp) (uHi hi st sp) st er le mo (uSp lo hi st le mo sp)

theorem s16 (h : okM lo hi st er le mo) : Says 21 [mon lo hi st er le mo sp] (missR lo hi st er le mo sp) := by
  constructor
  have := h.lo; have := h.st
  rw [X16_eq]; unfold X16
  refine ⟨fun hs => ?_, fun hs => ?_⟩
  · subst hs; simp [missR, uLo, uHi, uSp, mon, Tree.sat]
  · subst hs
    simp (disch := omega) only [w64_of, mx]
    simp [missR, uLo, uHi, uSp, mon, Tree.sat, oLo, inR]
    rfl
theorem s22 (h : okM lo hi st er le mo) : Says 27 [mon lo hi st er le mo sp] (missR lo hi st er le mo sp) := by
  constructor
  have := h.lo; have := h.st
  rw [X22_eq]; unfold X22
  refine ⟨fun hs => ?_, fun hs => ⟨fun hc => ?_, fun hc => ?_⟩⟩
  · subst hs; simp [missR, uLo, uHi, uSp, mon, Tree.sat]
  · simp (disch := omega) only [w64_of, mx] at hc
    simp at hc; omega
  · subst hs
    simp (disch := omega) only [w64_of, mx]
    simp [missR, uLo, uHi, uSp, mon, Tree.sat, oLo, inR]
    rfl
theorem mxx {a b : Int} : (if a > b then a else b) = max b a := by omega
theorem mnn {a b : Int} : (if a < b then a else b) = min b a := by omega
theorem gB_iff : gB lo hi st er r = true ↔ -4000000 ≤ r ∧ r ≤ 4000000 ∧ max (oLo lo st) (r - er) ≤ min (hi + st) (r + er) := by unfold gB; rw [decide_eq_true_eq]
theorem gB_not : gB lo hi st er r = false ↔ ¬ (-4000000 ≤ r ∧ r ≤ 4000000 ∧ max (oLo lo st) (r - er) ≤ min (hi + st) (r + er)) := by unfold gB; rw [decide_eq_false_iff_not]

theorem s20 (h : okM lo hi st er le mo) : Says 25 [mon lo hi st er le mo sp, iv r] (bv (gB lo hi st er r)) := by
  constructor
  have := h.lo; have := h.st; have := h.er
  rw [X20_eq]; unfold X20
  refine ⟨fun hc => ?_, fun hc => ?_⟩
  · rw [show gB lo hi st er r = false by rw [gB_not]; simp at hc; omega]; rfl
  · simp at hc
    simp (disch := omega) only [w64_of, mxx, mnn]
    show bv _ = bv _
    congr 1
    rw [Bool.eq_iff_iff, gB_iff, decide_eq_true_eq]
    unfold oLo; omega
theorem s19 (h : okM lo hi st er le mo) : Says 24 [mon lo hi st er le mo sp, iv r] (bv (gB lo hi st er r)) := by
  constructor
  have := h.lo; have := h.st; have := h.er
  rw [X19_eq]; unfold X19
  refine ⟨fun hc => ?_, fun hc => ?_⟩
  · rw [show gB lo hi st er r = false by rw [gB_not]; simp at hc; omega]; rfl
  · simp at hc
    simp (disch := omega) only [w64_of, mxx, mnn]
    show bv _ = bv _
    congr 1
    rw [Bool.eq_iff_iff, gB_iff]
    simp only [Bool.and_eq_true, Bool.not_eq_true', decide_eq_true_eq, Bool.and_true, Bool.and_eq_false_iff, beq_eq_false_iff_ne]
    unfold oLo; omega

noncomputable def seeR (lo hi st er le mo : Int) (sp : Bool) (r : Int) : SV := mon (vLo lo hi st er sp r) (vHi lo hi st er sp r) st er le mo (vSp lo hi st er le mo sp r)

theorem see_fin (h : okM lo hi st er le mo) (hr : -4000000 ≤ r ∧ r ≤ 4000000) (hg : gB lo hi st er r = true) : 
    seeR lo hi st er le mo false r = mon (max (oLo lo st) (r - er)) (min (hi + st) (r + er)) st er le mo (!inR (max (oLo lo st) (r - er)) (min (hi + st) (r + er)) st le mo) := by
  simp [seeR, vLo, vHi, vSp, hg]
theorem see_no (hg : gB lo hi st er r = false) : seeR lo hi st er le mo false r = mon lo hi st er le mo true := by
  simp [seeR, vLo, vHi, vSp, hg]
theorem see_sp : seeR lo hi st er le mo true r = mon lo hi st er le mo true := by
  simp [seeR, vLo, vHi, vSp]

theorem s15 (h : okM lo hi st er le mo) : Says 20 [mon lo hi st er le mo sp, iv r] (seeR lo hi st er le mo sp r) := by
  constructor
  have := h.lo; have := h.st; have := h.er
  rw [X15_eq]; unfold X15
  refine ⟨fun hs => ?_, fun hs => ⟨fun hc => ⟨fun _ => ?_, fun h => by cases h⟩, fun hc => ⟨fun hd => ?_, fun hd => ?_⟩⟩⟩
  · subst hs; rw [see_sp]; rfl
  · subst hs
    rw [see_no]; · rfl
    rw [gB_not]; simp at hc; omega
  · subst hs
    simp at hc
    simp (disch := omega) only [w64_of, mxx, mnn] at hd
    rw [see_no]; · rfl
    rw [gB_not]; simp at hd; unfold oLo; omega
  · subst hs
    simp at hc
    simp (disch := omega) only [w64_of, mxx, mnn] at hd ⊢
    have hg : gB lo hi st er r = true := by rw [gB_iff]; simp at hd; unfold oLo; omega
    rw [see_fin h (by omega) hg]
    exact mon_ext rfl rfl rfl

theorem s21 (h : okM lo hi st er le mo) : Says 26 [mon lo hi st er le mo sp, iv r] (seeR lo hi st er le mo sp r) := by
  constructor
  have := h.lo; have := h.st; have := h.er
  rw [X21_eq]; unfold X21
  refine ⟨fun hs => ?_, fun hs => ⟨fun hc => ⟨fun _ => ?_, fun h => by cases h⟩, fun hc => ⟨fun hd => ?_, fun hd => ?_⟩⟩⟩
  · subst hs; rw [see_sp]; rfl
  · subst hs
    rw [see_no]; · rfl
    rw [gB_not]; simp at hc; omega
  · subst hs
    simp at hc
    simp (disch := omega) only [w64_of, mxx, mnn] at hd
    rw [see_no]; · rfl
    rw [gB_not]; simp at hd; unfold oLo; omega
  · subst hs
    simp at hc
    simp (disch := omega) only [w64_of, mxx, mnn] at hd ⊢
    have hg : gB lo hi st er r = true := by rw [gB_iff]; simp at hd; unfold oLo; omega
    rw [see_fin h (by omega) hg]
    exact mon_ext rfl rfl rfl

/-! ### As contracts -/

noncomputable def cMon (f : Int → Int → Int → Int → Int → Int → Bool → Tr SV) : Ctr := fun ss => match ss with
  | [.agg [.d (.x (.int .i64 lo)), .d (.x (.int .i64 hi)), .d (.x (.int .i64 st)), .d (.x (.int .i64 er)), .d (.x (.int .i64 le)), .d (.x (.int .i64 mo)), .d (.x (.bool sp))]] => f lo hi st er le mo sp
  | _ => .fail
noncomputable def cMonR (f : Int → Int → Int → Int → Int → Int → Bool → Int → Tr SV) : Ctr := fun ss => match ss with
  | [.agg [.d (.x (.int .i64 lo)), .d (.x (.int .i64 hi)), .d (.x (.int .i64 st)), .d (.x (.int .i64 er)), .d (.x (.int .i64 le)), .d (.x (.int .i64 mo)), .d (.x (.bool sp))], .d (.x (.int .i64 r))] => f lo hi st er le mo sp r
  | _ => .fail

theorem cMon_ok {k : Nat} {f : Int → Int → Int → Int → Int → Int → Bool → Tr SV} (hf : (Try.prog.funcs[k]?).isSome = true) (hb : (fnOf Try.prog k).body.isSome = true)
    (h : ∀ lo hi st er le mo sp r, (f lo hi st er le mo sp).ev r → Says k [mon lo hi st er le mo sp] r) : CtrOK Try.prog k (cMon f) := by
  refine ctr_of hf hb fun ss r hr => ?_
  unfold cMon at hr
  split at hr
  · exact h _ _ _ _ _ _ _ _ hr
  · exact hr.elim
theorem cMonR_ok {k : Nat} {f : Int → Int → Int → Int → Int → Int → Bool → Int → Tr SV} (hf : (Try.prog.funcs[k]?).isSome = true) (hb : (fnOf Try.prog k).body.isSome = true)
    (h : ∀ lo hi st er le mo sp q r, (f lo hi st er le mo sp q).ev r → Says k [mon lo hi st er le mo sp, iv q] r) : CtrOK Try.prog k (cMonR f) := by
  refine ctr_of hf hb fun ss r hr => ?_
  unfold cMonR at hr
  split at hr
  · exact h _ _ _ _ _ _ _ _ _ hr
  · exact hr.elim

noncomputable def cValid : Ctr := cMon fun lo hi st er le mo sp => .ret (bv (vB lo hi st er le mo sp))
noncomputable def cNew : Ctr := cMon fun lo hi st er le mo sp => .ret (newR lo hi st er le mo)
noncomputable def cOut : Ctr := cMon fun lo hi st er le mo sp => .need (okM lo hi st er le mo) (.ret (outR lo hi st))
noncomputable def cMiss : Ctr := cMon fun lo hi st er le mo sp => .need (okM lo hi st er le mo) (.ret (missR lo hi st er le mo sp))
noncomputable def cSee : Ctr := cMonR fun lo hi st er le mo sp r => .need (okM lo hi st er le mo) (.ret (seeR lo hi st er le mo sp r))
noncomputable def cAgr : Ctr := cMonR fun lo hi st er le mo sp r => .need (okM lo hi st er le mo) (.ret (bv (gB lo hi st er r)))


end Go.Proofs.Ytcbjclmjkilphaa

namespace Go.Proofs.Ytcbjclmjkilphaa
open Go.Sx
set_option maxRecDepth 100000

theorem f11s : (Try.prog.funcs[16]?).isSome = true := by kernel_rfl
theorem f11b : (fnOf Try.prog 16).body.isSome = true := by kernel_rfl
theorem c11 : CtrOK Try.prog 16 cValid := by
  refine cMon_ok f11s f11b ?_
  intro lo hi st er le mo sp r h
  cases h; exact s11
theorem f12s : (Try.prog.funcs[17]?).isSome = true := by kernel_rfl
theorem f12b : (fnOf Try.prog 17).body.isSome = true := by kernel_rfl
theorem c12 : CtrOK Try.prog 17 cValid := by
  refine cMon_ok f12s f12b ?_
  intro lo hi st er le mo sp r h
  cases h; exact s12
theorem f13s : (Try.prog.funcs[18]?).isSome = true := by kernel_rfl
theorem f13b : (fnOf Try.prog 18).body.isSome = true := by kernel_rfl
theorem c13 : CtrOK Try.prog 18 cNew := by
  refine cMon_ok f13s f13b ?_
  intro lo hi st er le mo sp r h
  cases h; exact s13
theorem f14s : (Try.prog.funcs[19]?).isSome = true := by kernel_rfl
theorem f14b : (fnOf Try.prog 19).body.isSome = true := by kernel_rfl
theorem c14 : CtrOK Try.prog 19 cNew := by
  refine cMon_ok f14s f14b ?_
  intro lo hi st er le mo sp r h
  cases h; exact s14
theorem f17s : (Try.prog.funcs[22]?).isSome = true := by kernel_rfl
theorem f17b : (fnOf Try.prog 22).body.isSome = true := by kernel_rfl
theorem c17 : CtrOK Try.prog 22 cOut := by
  refine cMon_ok f17s f17b ?_
  intro lo hi st er le mo sp r h
  obtain ⟨h, rfl⟩ := h; exact s17 h
theorem f18s : (Try.prog.funcs[23]?).isSome = true := by kernel_rfl
theorem f18b : (fnOf Try.prog 23).body.isSome = true := by kernel_rfl
theorem c18 : CtrOK Try.prog 23 cOut := by
  refine cMon_ok f18s f18b ?_
  intro lo hi st er le mo sp r h
  obtain ⟨h, rfl⟩ := h; exact s18 h
theorem f16s : (Try.prog.funcs[21]?).isSome = true := by kernel_rfl
theorem f16b : (fnOf Try.prog 21).body.isSome = true := by kernel_rfl
theorem c16 : CtrOK Try.prog 21 cMiss := by
  refine cMon_ok f16s f16b ?_
  intro lo hi st er le mo sp r h
  obtain ⟨h, rfl⟩ := h; exact s16 h
theorem f22s : (Try.prog.funcs[27]?).isSome = true := by kernel_rfl
theorem f22b : (fnOf Try.prog 27).body.isSome = true := by kernel_rfl
theorem c22 : CtrOK Try.prog 27 cMiss := by
  refine cMon_ok f22s f22b ?_
  intro lo hi st er le mo sp r h
  obtain ⟨h, rfl⟩ := h; exact s22 h
theorem f19s : (Try.prog.funcs[24]?).isSome = true := by kernel_rfl
theorem f19b : (fnOf Try.prog 24).body.isSome = true := by kernel_rfl
theorem c19 : CtrOK Try.prog 24 cAgr := by
  refine cMonR_ok f19s f19b ?_
  intro lo hi st er le mo sp q r h
  obtain ⟨h, rfl⟩ := h; exact s19 h
theorem f20s : (Try.prog.funcs[25]?).isSome = true := by kernel_rfl
theorem f20b : (fnOf Try.prog 25).body.isSome = true := by kernel_rfl
theorem c20 : CtrOK Try.prog 25 cAgr := by
  refine cMonR_ok f20s f20b ?_
  intro lo hi st er le mo sp q r h
  obtain ⟨h, rfl⟩ := h; exact s20 h
theorem f15s : (Try.prog.funcs[20]?).isSome = true := by kernel_rfl
theorem f15b : (fnOf Try.prog 20).body.isSome = true := by kernel_rfl
theorem c15 : CtrOK Try.prog 20 cSee := by
  refine cMonR_ok f15s f15b ?_
  intro lo hi st er le mo sp q r h
  obtain ⟨h, rfl⟩ := h; exact s15 h
theorem f21s : (Try.prog.funcs[26]?).isSome = true := by kernel_rfl
theorem f21b : (fnOf Try.prog 26).body.isSome = true := by kernel_rfl
theorem c21 : CtrOK Try.prog 26 cSee := by
  refine cMonR_ok f21s f21b ?_
  intro lo hi st er le mo sp q r h
  obtain ⟨h, rfl⟩ := h; exact s21 h

end Go.Proofs.Ytcbjclmjkilphaa

namespace Go.Proofs.Ytcbjclmjkilphaa
open Go.Sx
set_option maxRecDepth 100000

noncomputable def man2 : FuncId → Option Ctr := fun k => match k with
  | 14 => some cEx
  | 15 => some cM45
  | 16 => some cValid
  | 17 => some cValid
  | 18 => some cNew
  | 19 => some cNew
  | 20 => some cSee
  | 21 => some cMiss
  | 22 => some cOut
  | 23 => some cOut
  | 24 => some cAgr
  | 25 => some cAgr
  | 26 => some cSee
  | 27 => some cMiss
  | 28 => some cMade
  | _ => none

theorem man2_ok (k : Nat) (c : Ctr) (h : man2 k = some c) : CtrOK Try.prog k c ∧ goodF Try.prog k = true := by
  unfold man2 at h
  split at h <;> first | (cases h; done) | (cases h)
  · exact ⟨cEx_ok, by kernel_rfl⟩
  · exact ⟨cM45_ok, by kernel_rfl⟩
  · exact ⟨c11, by kernel_rfl⟩
  · exact ⟨c12, by kernel_rfl⟩
  · exact ⟨c13, by kernel_rfl⟩
  · exact ⟨c14, by kernel_rfl⟩
  · exact ⟨c15, by kernel_rfl⟩
  · exact ⟨c16, by kernel_rfl⟩
  · exact ⟨c17, by kernel_rfl⟩
  · exact ⟨c18, by kernel_rfl⟩
  · exact ⟨c19, by kernel_rfl⟩
  · exact ⟨c20, by kernel_rfl⟩
  · exact ⟨c21, by kernel_rfl⟩
  · exact ⟨c22, by kernel_rfl⟩
  · exact ⟨cMade_ok, by kernel_rfl⟩

noncomputable def C2 : Ctx := ctxN Try.prog man2 (fun _ => false) 200 .nil 3
theorem C2_ok : CtxOK Try.prog C2 := ctxN_ok mixed man2_ok 3
noncomputable def D2 : Dr := fun _ => drawn Try.prog C2
theorem D2_ok : DrOK Try.prog C2 D2 := drawn_ok C2_ok mixed

noncomputable def T2 (k : Nat) (args : List SV) (h : Hint) : Tree SV := fnT Try.prog C2 D2 200 (fnOf Try.prog k) (bodyOf Try.prog k) args h
/-- What a law answers: kept behind a word, for the elaborator looks through all others. -/
structure Law (k : Nat) (ss : List SV) : Prop where
  ok : ∃ h, (T2 k ss h).sat Try.prog (· = bv true)

theorem law_ctr {k : Nat} {okA : List SV → Prop} (hf : (Try.prog.funcs[k]?).isSome = true) (hb : (fnOf Try.prog k).body.isSome = true) (h : ∀ ss, okA ss → Law k ss) :
    ∃ c : Ctr, CtrOK Try.prog k c ∧ ∀ ss, okA ss → (c ss).ev (bv true) := by
  refine ⟨fun ss => .need (okA ss) (.ret (bv true)), ?_, fun ss hs => ⟨hs, rfl⟩⟩
  refine ctrOK_of C2_ok D2_ok (fn := fnOf Try.prog k) (body := bodyOf Try.prog k) (by
    unfold fnOf
    cases hk : Try.prog.funcs[k]? with
    | none => rw [hk] at hf; cases hf
    | some f => rfl) (by
    unfold bodyOf
    cases hk : (fnOf Try.prog k).body with
    | none => rw [hk] at hb; cases hb
    | some f => rfl) fun ss r hr => ?_
  obtain ⟨h1, rfl⟩ := hr
  obtain ⟨hint, h2⟩ := (h ss h1).ok
  exact ⟨200, hint, h2⟩

end Go.Proofs.Ytcbjclmjkilphaa

namespace Go.Proofs.Ytcbjclmjkilphaa
open Go.Sx
variable {lo hi st er le mo r : Int} {sp : Bool}

theorem vB_iff : vB lo hi st er le mo sp = true ↔ okM lo hi st er le mo ∧ (sp = true ∨ (le ≤ oLo lo st ∧ hi + st ≤ mo)) := by
  unfold vB
  rw [Bool.and_eq_true, okB_iff, Bool.or_eq_true, inR_iff]

theorem see_vB (h : vB lo hi st er le mo sp = true) : vB (vLo lo hi st er sp r) (vHi lo hi st er sp r) st er le mo (vSp lo hi st er le mo sp r) = true := by
  obtain ⟨h1, h2⟩ := vB_iff.1 h
  cases sp with
  | true => simpa [vLo, vHi, vSp] using h
  | false =>
    have h2 := h2.resolve_left (by simp)
    cases hg : gB lo hi st er r with
    | false =>
      rw [vB_iff]
      simp only [vLo, vHi, vSp, hg]
      exact ⟨by simpa using h1, .inl (by simp)⟩
    | true =>
      rw [gB_iff] at hg
      have hg' : gB lo hi st er r = true := gB_iff.2 hg
      have := h1.le; have := h1.lo; have := h1.st; have := h1.er
      rw [vB_iff]
      simp only [vLo, vHi, vSp, hg']
      refine ⟨⟨by omega, ?_, by omega, by omega⟩, ?_⟩
      · simp; unfold oLo at *; omega
      · simp only [Bool.false_or, Bool.not_true, Bool.not_eq_true', and_self, if_true]
        rw [← inR_iff]
        cases inR (max (oLo lo st) (r - er)) (min (hi + st) (r + er)) st le mo <;> simp

theorem miss_vB (h : vB lo hi st er le mo sp = true) : vB (uLo lo st sp) (uHi hi st sp) st er le mo (uSp lo hi st le mo sp) = true := by
  obtain ⟨h1, h2⟩ := vB_iff.1 h
  cases sp with
  | true => simpa [uLo, uHi, uSp] using h
  | false =>
    have h2 := h2.resolve_left (by simp)
    have := h1.le; have := h1.lo; have := h1.st; have := h1.er
    rw [vB_iff]
    simp only [uLo, uHi, uSp]
    refine ⟨⟨by omega, ?_, by omega, by omega⟩, ?_⟩
    · simp; unfold oLo at *; omega
    · simp only [Bool.false_or, if_true]
      rw [← inR_iff]
      cases inR (oLo lo st) (hi + st) st le mo <;> simp

end Go.Proofs.Ytcbjclmjkilphaa

namespace Go.Proofs.Ytcbjclmjkilphaa
open Go.Sx
set_option maxRecDepth 100000

/-! ### drift.spans -/

noncomputable def inl3 : FuncId → Bool := fun k => k == 74 || k == 75
noncomputable def C3 : Ctx := ctxN Try.prog (fun _ => none) inl3 200 .nil 4
theorem C3_ok : CtxOK Try.prog C3 := ctxN_ok mixed (fun k c h => by cases h) 4
noncomputable def D3 : Dr := fun _ => drawn Try.prog C3
theorem D3_ok : DrOK Try.prog C3 D3 := drawn_ok C3_ok mixed

noncomputable def tS (lo hi st er : Int) (n : Nat) (L : Nat → Int) : Tree SV := fnT Try.prog C3 D3 200 (fnOf Try.prog 57) (bodyOf Try.prog 57) [iv lo, iv hi, iv st, iv er, ro64 n L] (.f (.f .nil))
noncomputable def scell (sl sh : Nat → Int) : Nat → Nat → DV := fun a b => match b with
  | 0 => xi (sl a)
  | _ => xi (sh a)
noncomputable def inS (t : Tree SV) : Option AS := entA 11 [(.cell (.base 3) 0, 11)] [2, 3, 6, 7, 15, 16, 17] [2, 6, 7, 8, 9, 10] 12 .nil t
noncomputable def invS (lo hi st er : Int) (n : Nat) (L : Nat → Int) (e x1 x2 i : Int) (m : Nat) (sl sh : Nat → Int) : AS :=
  ⟨[.unk, .unk, .ok (.fn (Fn.func 75) [] [.ptr 3 0]), .ok (.ptr 4 0), .unk, .unk, .ok (iv e), .ok (.ptr 5 0), .unk, .unk, .unk, .unk, .unk, .unk, .unk, .ok (ro64 n L), .ok (iv n), .ok (iv i)] ++ List.replicate 32 .unk,
   [some (.cells [iv 0, iv 0, iv 0, iv 0]), some (.cells [iv lo, iv hi, iv st, iv er]), none, some (.cells [.row 11 0 0 m 2]), some (.cells [iv lo, iv hi, iv st, iv er]), some (.cells [iv x1, iv x2]), none, none, none, none, none, some (.row m 2 (scell sl sh))], 12, .nil⟩

noncomputable def LS (lo hi st er : Int) (n : Nat) (L : Nat → Int) : Tree SV :=
  .ite (decide (lo < (1 : Int)) || decide (hi < lo) || decide (hi > (1000000 : Int)) || decide ((if er < st then er else st) < (0 : Int)) || decide ((if er > st then er else st) > (1000000 : Int)) || decide ((↑n : Int) > (1000 : Int)))
  (.need (true = false)
    (.need (True ∧ 2 ≤ 2 ∧ 16 ≤ 140737488355328)
      (.code (codeC (sub [(0 : Nat), (0 : Nat), (0 : Nat)] (tS lo hi st er n L))) (codeS (sub [(0 : Nat), (0 : Nat), (0 : Nat)] (tS lo hi st er n L))) (codeK (sub [(0 : Nat), (0 : Nat), (0 : Nat)] (tS lo hi st er n L))))))
  (.need (false = false)
    (.need (True ∧ 2 ≤ List.length [iv lo, iv hi] ∧ 16 ≤ 140737488355328)
      (.code (codeC (sub [(1 : Nat), (0 : Nat), (0 : Nat)] (tS lo hi st er n L))) (codeS (sub [(1 : Nat), (0 : Nat), (0 : Nat)] (tS lo hi st er n L))) (codeK (sub [(1 : Nat), (0 : Nat), (0 : Nat)] (tS lo hi st er n L))))))

theorem LS_eq (lo hi st er : Int) (n : Nat) (L : Nat → Int) : tS lo hi st er n L = LS lo hi st er n L := by kernel_rfl

noncomputable def IS (lo hi st er : Int) (n : Nat) (L : Nat → Int) : Option AS :=
  some
  {
    tm :=
      [.unk, .unk, .ok (.fn (Fn.func 75) [] [.ptr 3 0]), .ok (.ptr 4 0), .unk, .unk, .ok (iv (0 : Int)), .ok (.ptr 5 0), .unk, .unk, .unk,
        .unk, .unk, .unk, .unk, .ok (.d (.ro n 1 fun i x => .x (.int .i64 (L i)))), .ok (iv (↑n : Int)), .ok (iv (0 : Int)), .unk, .unk, .unk, .unk, .unk, .unk, .unk, .unk, .unk,
        .unk, .unk, .unk, .unk, .unk, .unk, .unk, .unk, .unk, .unk, .unk, .unk, .unk, .unk, .unk, .unk, .unk, .unk, .unk, .unk, .unk, .unk, .unk],
    hp :=
      [some (.cells [iv (0 : Int), iv (0 : Int), iv (0 : Int), iv (0 : Int)]), some (.cells [iv lo, iv hi, iv st, iv er]), none, some (.cells [.row 11 0 0 1 2]),
        some (.cells [iv lo, iv hi, iv st, iv er]), some (.cells [iv lo, iv hi]), none, none, none, none, none,
        some
          (.row 1 2 fun a b =>
            bif decide (a < 0) then .x (.tuple { toList := [] }) else dsAt [.x (.int .i64 lo), .x (.int .i64 hi)] (0 + (0 + (a - 0)) * 2 + b))],
    next := 12, hint := .nil }

theorem IS_eq (lo hi st er : Int) (n : Nat) (L : Nat → Int) : inS (sub [1, 0, 0] (tS lo hi st er n L)) = IS lo hi st er n L := by kernel_rfl

noncomputable def BS (lo hi st er : Int) (n : Nat) (L : Nat → Int) (x1 x2 i : Int) (m : Nat) (sl sh : Nat → Int) : Tree (Ex × AS) :=
  .ite (decide (i < (↑n : Int)))
  (.need ((0 : Int) ≤ i ∧ i < (↑n : Int))
    (.need ((0 : Int) ≤ (0 : Int) ∧ (0 : Int) < (2 : Int))
      (.need (0 < 2)
        (.need ((0 : Int) ≤ (1 : Int) ∧ (1 : Int) < (2 : Int))
          (.need (1 < 2)
            (.need ((0 : Int) ≤ (0 : Int) ∧ (0 : Int) < (2 : Int))
              (.need (0 < 2)
                (.need ((0 : Int) ≤ (1 : Int) ∧ (1 : Int) < (2 : Int))
                  (.need (1 < 2)
                    (.need ((0 : Int) ≤ (0 : Int) ∧ (0 : Int) < (2 : Int))
                      (.need (0 < 2)
                        (.need ((0 : Int) ≤ (0 : Int) ∧ (0 : Int) < (2 : Int))
                          (.need (0 < 2)
                            (.need ((0 : Int) ≤ (1 : Int) ∧ (1 : Int) < (2 : Int))
                              (.need (1 < 2)
                                (.need ((0 : Int) ≤ (1 : Int) ∧ (1 : Int) < (2 : Int))
                                  (.need (1 < 2)
                                    (.need ((0 : Int) ≤ (0 : Int) ∧ (0 : Int) < (2 : Int))
                                      (.need (0 < 2)
                                        (.need ((0 : Int) ≤ (0 : Int) ∧ (0 : Int) < (2 : Int))
                                          (.need (0 < 2)
                                            (.need ((0 : Int) ≤ (1 : Int) ∧ (1 : Int) < (2 : Int))
                                              (.need (1 < 2)
                                                (.need ((0 : Int) ≤ (1 : Int) ∧ (1 : Int) < (2 : Int))
                                                  (.need (1 < 2)
                                                    (.need ((0 : Int) ≤ (0 : Int) ∧ (0 : Int) < (2 : Int))
                                                      (.need (0 < 2)
                                                        (.need ((0 : Int) ≤ (1 : Int) ∧ (1 : Int) < (2 : Int))
                                                          (.need (1 < 2)
                                                            (.ite
                                                              (decide
                                                                ((if
                                                                      (1 : Int) >
                                                                        if
                                                                            w64
                                                                                ((if (2000000000 : Int) < if (-2000000000 : Int) > L (Int.toNat i) then (-2000000000 : Int) else L (Int.toNat i) then (2000000000 : Int)
                                                                                  else if (-2000000000 : Int) > L (Int.toNat i) then (-2000000000 : Int) else L (Int.toNat i)) -
                                                                                  er) >
                                                                              w64 (x1 - st) then
                                                                          w64
                                                                            ((if (2000000000 : Int) < if (-2000000000 : Int) > L (Int.toNat i) then (-2000000000 : Int) else L (Int.toNat i) then (2000000000 : Int)
                                                                              else if (-2000000000 : Int) > L (Int.toNat i) then (-2000000000 : Int) else L (Int.toNat i)) -
                                                                              er)
                                                                        else w64 (x1 - st) then
                                                                    (1 : Int)
                                                                  else
                                                                    if
                                                                        w64
                                                                            ((if (2000000000 : Int) < if (-2000000000 : Int) > L (Int.toNat i) then (-2000000000 : Int) else L (Int.toNat i) then (2000000000 : Int)
                                                                              else if (-2000000000 : Int) > L (Int.toNat i) then (-2000000000 : Int) else L (Int.toNat i)) -
                                                                              er) >
                                                                          w64 (x1 - st) then
                                                                      w64
                                                                        ((if (2000000000 : Int) < if (-2000000000 : Int) > L (Int.toNat i) then (-2000000000 : Int) else L (Int.toNat i) then (2000000000 : Int)
                                                                          else if (-2000000000 : Int) > L (Int.toNat i) then (-2000000000 : Int) else L (Int.toNat i)) -
                                                                          er)
                                                                    else w64 (x1 - st)) >
                                                                  if
                                                                      w64 (w64 ((2000000000 : Int) - er) - (1 : Int)) <
                                                                        if
                                                                            w64
                                                                                ((if (2000000000 : Int) < if (-2000000000 : Int) > L (Int.toNat i) then (-2000000000 : Int) else L (Int.toNat i) then (2000000000 : Int)
                                                                                  else if (-2000000000 : Int) > L (Int.toNat i) then (-2000000000 : Int) else L (Int.toNat i)) +
                                                                                  er) <
                                                                              w64 (x2 + st) then
                                                                          w64
                                                                            ((if (2000000000 : Int) < if (-2000000000 : Int) > L (Int.toNat i) then (-2000000000 : Int) else L (Int.toNat i) then (2000000000 : Int)
                                                                              else if (-2000000000 : Int) > L (Int.toNat i) then (-2000000000 : Int) else L (Int.toNat i)) +
                                                                              er)
                                                                        else w64 (x2 + st) then
                                                                    w64 (w64 ((2000000000 : Int) - er) - (1 : Int))
                                                                  else
                                                                    if
                                                                        w64
                                                                            ((if (2000000000 : Int) < if (-2000000000 : Int) > L (Int.toNat i) then (-2000000000 : Int) else L (Int.toNat i) then (2000000000 : Int)
                                                                              else if (-2000000000 : Int) > L (Int.toNat i) then (-2000000000 : Int) else L (Int.toNat i)) +
                                                                              er) <
                                                                          w64 (x2 + st) then
                                                                      w64
                                                                        ((if (2000000000 : Int) < if (-2000000000 : Int) > L (Int.toNat i) then (-2000000000 : Int) else L (Int.toNat i) then (2000000000 : Int)
                                                                          else if (-2000000000 : Int) > L (Int.toNat i) then (-2000000000 : Int) else L (Int.toNat i)) +
                                                                          er)
                                                                    else w64 (x2 + st)))
                                                              (.ret
                                                                (.ret,
                                                                  {
                                                                    tm :=
                                                                      [.unk, .unk, .ok (.fn (Fn.func 75) [] [.ptr 3 0]), .ok (.ptr 4 0), .unk, .unk, .ok (iv (440 : Int)),
                                                                        .ok (.ptr 5 0), .unk, .unk, .unk, .unk, .unk, .unk, .unk,
                                                                        .ok (.d (.ro n 1 fun i x => .x (.int .i64 (L i)))), .ok (iv (↑n : Int)), .ok (iv i), .unk, .unk, .unk, .unk, .unk, .unk,
                                                                        .unk, .unk, .unk, .unk, .unk, .unk, .unk, .unk, .unk, .unk, .unk, .unk, .unk, .unk, .unk, .unk, .unk, .unk, .unk, .unk, .unk,
                                                                        .unk, .unk, .unk, .unk, .unk],
                                                                    hp :=
                                                                      [some (.cells [iv (0 : Int), iv (0 : Int), iv (0 : Int), iv (0 : Int)]), some (.cells [iv lo, iv hi, iv st, iv er]), none,
                                                                        some (.cells [.row 11 0 0 m 2]), some (.cells [iv lo, iv hi, iv st, iv er]),
                                                                        some
                                                                          (.cells
                                                                            [iv
                                                                                (if
                                                                                    (1 : Int) >
                                                                                      if
                                                                                          w64
                                                                                              ((if (2000000000 : Int) < if (-2000000000 : Int) > L (Int.toNat i) then (-2000000000 : Int) else L (Int.toNat i) then (2000000000 : Int)
                                                                                                else if (-2000000000 : Int) > L (Int.toNat i) then (-2000000000 : Int) else L (Int.toNat i)) -
                                                                                                er) >
                                                                                            w64 (x1 - st) then
                                                                                        w64
                                                                                          ((if (2000000000 : Int) < if (-2000000000 : Int) > L (Int.toNat i) then (-2000000000 : Int) else L (Int.toNat i) then (2000000000 : Int)
                                                                                            else if (-2000000000 : Int) > L (Int.toNat i) then (-2000000000 : Int) else L (Int.toNat i)) -
                                                                                            er)
                                                                                      else w64 (x1 - st) then
                                                                                  (1 : Int)
                                                                                else
                                                                                  if
                                                                                      w64
                                                                                          ((if (2000000000 : Int) < if (-2000000000 : Int) > L (Int.toNat i) then (-2000000000 : Int) else L (Int.toNat i) then (2000000000 : Int)
                                                                                            else if (-2000000000 : Int) > L (Int.toNat i) then (-2000000000 : Int) else L (Int.toNat i)) -
                                                                                            er) >
                                                                                        w64 (x1 - st) then
                                                                                    w64
                                                                                      ((if (2000000000 : Int) < if (-2000000000 : Int) > L (Int.toNat i) then (-2000000000 : Int) else L (Int.toNat i) then (2000000000 : Int)
                                                                                        else if (-2000000000 : Int) > L (Int.toNat i) then (-2000000000 : Int) else L (Int.toNat i)) -
                                                                                        er)
                                                                                  else w64 (x1 - st)),
                                                                              iv
                                                                                (if
                                                                                    w64 (w64 ((2000000000 : Int) - er) - (1 : Int)) <
                                                                                      if
                                                                                          w64
                                                                                              ((if (2000000000 : Int) < if (-2000000000 : Int) > L (Int.toNat i) then (-2000000000 : Int) else L (Int.toNat i) then (2000000000 : Int)
                                                                                                else if (-2000000000 : Int) > L (Int.toNat i) then (-2000000000 : Int) else L (Int.toNat i)) +
                                                                                                er) <
                                                                                            w64 (x2 + st) then
                                                                                        w64
                                                                                          ((if (2000000000 : Int) < if (-2000000000 : Int) > L (Int.toNat i) then (-2000000000 : Int) else L (Int.toNat i) then (2000000000 : Int)
                                                                                            else if (-2000000000 : Int) > L (Int.toNat i) then (-2000000000 : Int) else L (Int.toNat i)) +
                                                                                            er)
                                                                                      else w64 (x2 + st) then
                                                                                  w64 (w64 ((2000000000 : Int) - er) - (1 : Int))
                                                                                else
                                                                                  if
                                                                                      w64
                                                                                          ((if (2000000000 : Int) < if (-2000000000 : Int) > L (Int.toNat i) then (-2000000000 : Int) else L (Int.toNat i) then (2000000000 : Int)
                                                                                            else if (-2000000000 : Int) > L (Int.toNat i) then (-2000000000 : Int) else L (Int.toNat i)) +
                                                                                            er) <
                                                                                        w64 (x2 + st) then
                                                                                    w64
                                                                                      ((if (2000000000 : Int) < if (-2000000000 : Int) > L (Int.toNat i) then (-2000000000 : Int) else L (Int.toNat i) then (2000000000 : Int)
                                                                                        else if (-2000000000 : Int) > L (Int.toNat i) then (-2000000000 : Int) else L (Int.toNat i)) +
                                                                                        er)
                                                                                  else w64 (x2 + st))]),
                                                                        none, none, none, none, none,
                                                                        some
                                                                          (.row m 2 fun a b =>
                                                                            match b with
                                                                            | (0 : Nat) => .x (.int .i64 (sl a))
                                                                            | x => .x (.int .i64 (sh a)))],
                                                                    next := 12, hint := .nil }))
                                                              (.need
                                                                (0 + m ≤ m ∧
                                                                  2 ≤
                                                                      List.length
                                                                        [iv
                                                                            (if
                                                                                (1 : Int) >
                                                                                  if
                                                                                      w64
                                                                                          ((if (2000000000 : Int) < if (-2000000000 : Int) > L (Int.toNat i) then (-2000000000 : Int) else L (Int.toNat i) then (2000000000 : Int)
                                                                                            else if (-2000000000 : Int) > L (Int.toNat i) then (-2000000000 : Int) else L (Int.toNat i)) -
                                                                                            er) >
                                                                                        w64 (x1 - st) then
                                                                                    w64
                                                                                      ((if (2000000000 : Int) < if (-2000000000 : Int) > L (Int.toNat i) then (-2000000000 : Int) else L (Int.toNat i) then (2000000000 : Int)
                                                                                        else if (-2000000000 : Int) > L (Int.toNat i) then (-2000000000 : Int) else L (Int.toNat i)) -
                                                                                        er)
                                                                                  else w64 (x1 - st) then
                                                                              (1 : Int)
                                                                            else
                                                                              if
                                                                                  w64
                                                                                      ((if (2000000000 : Int) < if (-2000000000 : Int) > L (Int.toNat i) then (-2000000000 : Int) else L (Int.toNat i) then (2000000000 : Int)
                                                                                        else if (-2000000000 : Int) > L (Int.toNat i) then (-2000000000 : Int) else L (Int.toNat i)) -
                                                                                        er) >
                                                                                    w64 (x1 - st) then
                                                                                w64
                                                                                  ((if (2000000000 : Int) < if (-2000000000 : Int) > L (Int.toNat i) then (-2000000000 : Int) else L (Int.toNat i) then (2000000000 : Int)
                                                                                    else if (-2000000000 : Int) > L (Int.toNat i) then (-2000000000 : Int) else L (Int.toNat i)) -
                                                                                    er)
                                                                              else w64 (x1 - st)),
                                                                          iv
                                                                            (if
                                                                                w64 (w64 ((2000000000 : Int) - er) - (1 : Int)) <
                                                                                  if
                                                                                      w64
                                                                                          ((if (2000000000 : Int) < if (-2000000000 : Int) > L (Int.toNat i) then (-2000000000 : Int) else L (Int.toNat i) then (2000000000 : Int)
                                                                                            else if (-2000000000 : Int) > L (Int.toNat i) then (-2000000000 : Int) else L (Int.toNat i)) +
                                                                                            er) <
                                                                                        w64 (x2 + st) then
                                                                                    w64
                                                                                      ((if (2000000000 : Int) < if (-2000000000 : Int) > L (Int.toNat i) then (-2000000000 : Int) else L (Int.toNat i) then (2000000000 : Int)
                                                                                        else if (-2000000000 : Int) > L (Int.toNat i) then (-2000000000 : Int) else L (Int.toNat i)) +
                                                                                        er)
                                                                                  else w64 (x2 + st) then
                                                                              w64 (w64 ((2000000000 : Int) - er) - (1 : Int))
                                                                            else
                                                                              if
                                                                                  w64
                                                                                      ((if (2000000000 : Int) < if (-2000000000 : Int) > L (Int.toNat i) then (-2000000000 : Int) else L (Int.toNat i) then (2000000000 : Int)
                                                                                        else if (-2000000000 : Int) > L (Int.toNat i) then (-2000000000 : Int) else L (Int.toNat i)) +
                                                                                        er) <
                                                                                    w64 (x2 + st) then
                                                                                w64
                                                                                  ((if (2000000000 : Int) < if (-2000000000 : Int) > L (Int.toNat i) then (-2000000000 : Int) else L (Int.toNat i) then (2000000000 : Int)
                                                                                    else if (-2000000000 : Int) > L (Int.toNat i) then (-2000000000 : Int) else L (Int.toNat i)) +
                                                                                    er)
                                                                              else w64 (x2 + st))] ∧
                                                                    (m + 1) * 16 ≤ 140737488355328)
                                                                (.ret
                                                                  (.normal,
                                                                    {
                                                                      tm :=
                                                                        [.unk, .unk, .ok (.fn (Fn.func 75) [] [.ptr 3 0]), .ok (.ptr 4 0), .unk, .unk, .ok (iv (0 : Int)),
                                                                          .ok (.ptr 5 0), .unk, .unk, .unk, .unk, .unk, .unk, .unk,
                                                                          .ok (.d (.ro n 1 fun i x => .x (.int .i64 (L i)))), .ok (iv (↑n : Int)), .ok (iv (w64 (i + (1 : Int)))), .unk, .unk, .unk,
                                                                          .unk, .unk, .unk, .unk, .unk, .unk, .unk, .unk, .unk, .unk, .unk, .unk, .unk, .unk, .unk, .unk, .unk, .unk, .unk, .unk,
                                                                          .unk, .unk, .unk, .unk, .unk, .unk, .unk, .unk, .unk],
                                                                      hp :=
                                                                        [some (.cells [iv (0 : Int), iv (0 : Int), iv (0 : Int), iv (0 : Int)]), some (.cells [iv lo, iv hi, iv st, iv er]), none,
                                                                          some (.cells [.row 11 0 0 (m + 1) 2]), some (.cells [iv lo, iv hi, iv st, iv er]),
                                                                          some
                                                                            (.cells
                                                                              [iv
                                                                                  (if
                                                                                      (1 : Int) >
                                                                                        if
                                                                                            w64
                                                                                                ((if (2000000000 : Int) < if (-2000000000 : Int) > L (Int.toNat i) then (-2000000000 : Int) else L (Int.toNat i) then (2000000000 : Int)
                                                                                                  else if (-2000000000 : Int) > L (Int.toNat i) then (-2000000000 : Int) else L (Int.toNat i)) -
                                                                                                  er) >
                                                                                              w64 (x1 - st) then
                                                                                          w64
                                                                                            ((if (2000000000 : Int) < if (-2000000000 : Int) > L (Int.toNat i) then (-2000000000 : Int) else L (Int.toNat i) then (2000000000 : Int)
                                                                                              else if (-2000000000 : Int) > L (Int.toNat i) then (-2000000000 : Int) else L (Int.toNat i)) -
                                                                                              er)
                                                                                        else w64 (x1 - st) then
                                                                                    (1 : Int)
                                                                                  else
                                                                                    if
                                                                                        w64
                                                                                            ((if (2000000000 : Int) < if (-2000000000 : Int) > L (Int.toNat i) then (-2000000000 : Int) else L (Int.toNat i) then (2000000000 : Int)
                                                                                              else if (-2000000000 : Int) > L (Int.toNat i) then (-2000000000 : Int) else L (Int.toNat i)) -
                                                                                              er) >
                                                                                          w64 (x1 - st) then
                                                                                      w64
                                                                                        ((if (2000000000 : Int) < if (-2000000000 : Int) > L (Int.toNat i) then (-2000000000 : Int) else L (Int.toNat i) then (2000000000 : Int)
                                                                                          else if (-2000000000 : Int) > L (Int.toNat i) then (-2000000000 : Int) else L (Int.toNat i)) -
                                                                                          er)
                                                                                    else w64 (x1 - st)),
                                                                                iv
                                                                                  (if
                                                                                      w64 (w64 ((2000000000 : Int) - er) - (1 : Int)) <
                                                                                        if
                                                                                            w64
                                                                                                ((if (2000000000 : Int) < if (-2000000000 : Int) > L (Int.toNat i) then (-2000000000 : Int) else L (Int.toNat i) then (2000000000 : Int)
                                                                                                  else if (-2000000000 : Int) > L (Int.toNat i) then (-2000000000 : Int) else L (Int.toNat i)) +
                                                                                                  er) <
                                                                                              w64 (x2 + st) then
                                                                                          w64
                                                                                            ((if (2000000000 : Int) < if (-2000000000 : Int) > L (Int.toNat i) then (-2000000000 : Int) else L (Int.toNat i) then (2000000000 : Int)
                                                                                              else if (-2000000000 : Int) > L (Int.toNat i) then (-2000000000 : Int) else L (Int.toNat i)) +
                                                                                              er)
                                                                                        else w64 (x2 + st) then
                                                                                    w64 (w64 ((2000000000 : Int) - er) - (1 : Int))
                                                                                  else
                                                                                    if
                                                                                        w64
                                                                                            ((if (2000000000 : Int) < if (-2000000000 : Int) > L (Int.toNat i) then (-2000000000 : Int) else L (Int.toNat i) then (2000000000 : Int)
                                                                                              else if (-2000000000 : Int) > L (Int.toNat i) then (-2000000000 : Int) else L (Int.toNat i)) +
                                                                                              er) <
                                                                                          w64 (x2 + st) then
                                                                                      w64
                                                                                        ((if (2000000000 : Int) < if (-2000000000 : Int) > L (Int.toNat i) then (-2000000000 : Int) else L (Int.toNat i) then (2000000000 : Int)
                                                                                          else if (-2000000000 : Int) > L (Int.toNat i) then (-2000000000 : Int) else L (Int.toNat i)) +
                                                                                          er)
                                                                                    else w64 (x2 + st))]),
                                                                          none, none, none, none, none,
                                                                          some
                                                                            (.row (m + 1) 2 fun a b =>
                                                                              selD (decide (a < m)) (scell sl sh (0 + a) b)
                                                                                (dsAt
                                                                                  [.x
                                                                                      (.int .i64
                                                                                        (if
                                                                                            (1 : Int) >
                                                                                              if
                                                                                                  w64
                                                                                                      ((if (2000000000 : Int) < if (-2000000000 : Int) > L (Int.toNat i) then (-2000000000 : Int) else L (Int.toNat i) then (2000000000 : Int)
                                                                                                        else if (-2000000000 : Int) > L (Int.toNat i) then (-2000000000 : Int) else L (Int.toNat i)) -
                                                                                                        er) >
                                                                                                    w64 (x1 - st) then
                                                                                                w64
                                                                                                  ((if (2000000000 : Int) < if (-2000000000 : Int) > L (Int.toNat i) then (-2000000000 : Int) else L (Int.toNat i) then (2000000000 : Int)
                                                                                                    else if (-2000000000 : Int) > L (Int.toNat i) then (-2000000000 : Int) else L (Int.toNat i)) -
                                                                                                    er)
                                                                                              else w64 (x1 - st) then
                                                                                          (1 : Int)
                                                                                        else
                                                                                          if
                                                                                              w64
                                                                                                  ((if (2000000000 : Int) < if (-2000000000 : Int) > L (Int.toNat i) then (-2000000000 : Int) else L (Int.toNat i) then (2000000000 : Int)
                                                                                                    else if (-2000000000 : Int) > L (Int.toNat i) then (-2000000000 : Int) else L (Int.toNat i)) -
                                                                                                    er) >
                                                                                                w64 (x1 - st) then
                                                                                            w64
                                                                                              ((if (2000000000 : Int) < if (-2000000000 : Int) > L (Int.toNat i) then (-2000000000 : Int) else L (Int.toNat i) then (2000000000 : Int)
                                                                                                else if (-2000000000 : Int) > L (Int.toNat i) then (-2000000000 : Int) else L (Int.toNat i)) -
                                                                                                er)
                                                                                          else w64 (x1 - st))),
                                                                                    .x
                                                                                      (.int .i64
                                                                                        (if
                                                                                            w64 (w64 ((2000000000 : Int) - er) - (1 : Int)) <
                                                                                              if
                                                                                                  w64
                                                                                                      ((if (2000000000 : Int) < if (-2000000000 : Int) > L (Int.toNat i) then (-2000000000 : Int) else L (Int.toNat i) then (2000000000 : Int)
                                                                                                        else if (-2000000000 : Int) > L (Int.toNat i) then (-2000000000 : Int) else L (Int.toNat i)) +
                                                                                                        er) <
                                                                                                    w64 (x2 + st) then
                                                                                                w64
                                                                                                  ((if (2000000000 : Int) < if (-2000000000 : Int) > L (Int.toNat i) then (-2000000000 : Int) else L (Int.toNat i) then (2000000000 : Int)
                                                                                                    else if (-2000000000 : Int) > L (Int.toNat i) then (-2000000000 : Int) else L (Int.toNat i)) +
                                                                                                    er)
                                                                                              else w64 (x2 + st) then
                                                                                          w64 (w64 ((2000000000 : Int) - er) - (1 : Int))
                                                                                        else
                                                                                          if
                                                                                              w64
                                                                                                  ((if (2000000000 : Int) < if (-2000000000 : Int) > L (Int.toNat i) then (-2000000000 : Int) else L (Int.toNat i) then (2000000000 : Int)
                                                                                                    else if (-2000000000 : Int) > L (Int.toNat i) then (-2000000000 : Int) else L (Int.toNat i)) +
                                                                                                    er) <
                                                                                                w64 (x2 + st) then
                                                                                            w64
                                                                                              ((if (2000000000 : Int) < if (-2000000000 : Int) > L (Int.toNat i) then (-2000000000 : Int) else L (Int.toNat i) then (2000000000 : Int)
                                                                                                else if (-2000000000 : Int) > L (Int.toNat i) then (-2000000000 : Int) else L (Int.toNat i)) +
                                                                                                er)
                                                                                          else w64 (x2 + st)))]
                                                                                  (0 + (0 + (a - m)) * 2 + b)))],
                                                                      next := 12, hint := .nil })))))))))))))))))))))))))))))))))
  (.ret
    (.exit 0,
      {
        tm :=
          [.unk, .unk, .ok (.fn (Fn.func 75) [] [.ptr 3 0]), .ok (.ptr 4 0), .unk, .unk, .ok (iv (0 : Int)), .ok (.ptr 5 0), .unk, .unk,
            .unk, .unk, .unk, .unk, .unk, .ok (.d (.ro n 1 fun i x => .x (.int .i64 (L i)))), .ok (iv (↑n : Int)), .ok (iv i), .unk, .unk, .unk, .unk, .unk, .unk, .unk, .unk,
            .unk, .unk, .unk, .unk, .unk, .unk, .unk, .unk, .unk, .unk, .unk, .unk, .unk, .unk, .unk, .unk, .unk, .unk, .unk, .unk, .unk, .unk, .unk, .unk],
        hp :=
          [some (.cells [iv (0 : Int), iv (0 : Int), iv (0 : Int), iv (0 : Int)]), some (.cells [iv lo, iv hi, iv st, iv er]), none, some (.cells [.row 11 0 0 m 2]),
            some (.cells [iv lo, iv hi, iv st, iv er]), some (.cells [iv x1, iv x2]), none, none, none, none, none,
            some
              (.row m 2 fun a b =>
                match b with
                | (0 : Nat) => .x (.int .i64 (sl a))
                | x => .x (.int .i64 (sh a)))],
        next := 12, hint := .nil }))

theorem BS_eq (lo hi st er : Int) (n : Nat) (L : Nat → Int) (x1 x2 i : Int) (m : Nat) (sl sh : Nat → Int) : cutT 11 [(.cell (.base 3) 0, 11)] [2, 3, 6, 7, 15, 16, 17] [2, 6, 7, 8, 9, 10] 12 .nil (exec Try.prog C3 D3 200 (loopN (bodyOf Try.prog 74) 0) (invS lo hi st er n L 0 x1 x2 i m sl sh)) = BS lo hi st er n L x1 x2 i m sl sh := by kernel_rfl

noncomputable def KS (lo hi st er : Int) (n : Nat) (L : Nat → Int) (x1 x2 i : Int) (m : Nat) (sl sh : Nat → Int) : Tree SV :=
  .need (0 + m ≤ m) (.ret (.tup [.agg [iv lo, iv hi, iv st, iv er], .d (.ro m 2 fun i j => scell sl sh (0 + i) j), iv (0 : Int)]))

theorem KS_eq (lo hi st er : Int) (n : Nat) (L : Nat → Int) (x1 x2 i : Int) (m : Nat) (sl sh : Nat → Int) : codeK (sub [1, 0, 0] (tS lo hi st er n L)) (.exit 0) (invS lo hi st er n L 0 x1 x2 i m sl sh) = KS lo hi st er n L x1 x2 i m sl sh := by kernel_rfl

noncomputable def KR (lo hi st er : Int) (n : Nat) (L : Nat → Int) (e x1 x2 i : Int) (m : Nat) (sl sh : Nat → Int) : Tree SV :=
  .need (0 + m ≤ m) (.ret (.tup [.agg [iv lo, iv hi, iv st, iv er], .d (.ro m 2 fun i j => scell sl sh (0 + i) j), iv e]))

theorem KR_eq (lo hi st er : Int) (n : Nat) (L : Nat → Int) (e x1 x2 i : Int) (m : Nat) (sl sh : Nat → Int) : codeK (sub [1, 0, 0] (tS lo hi st er n L)) .ret (invS lo hi st er n L e x1 x2 i m sl sh) = KR lo hi st er n L e x1 x2 i m sl sh := by kernel_rfl


noncomputable def bodyS : Code := loopN (bodyOf Try.prog 74) 0
theorem CS (lo hi st er : Int) (n : Nat) (L : Nat → Int) : codeC (sub [1, 0, 0] (tS lo hi st er n L)) = .loop bodyS := by kernel_rfl
theorem NS (lo hi st er : Int) (n : Nat) (L : Nat → Int) : Nat.ble (codeS (sub [1, 0, 0] (tS lo hi st er n L))).next 11 = true := by kernel_rfl

end Go.Proofs.Ytcbjclmjkilphaa

namespace Go.Proofs.Ytcbjclmjkilphaa
open Go.Sx
set_option maxRecDepth 100000

/-! ### What the intervals are -/

def cR (r : Int) : Int := min (max r (-2000000000)) 2000000000
def nL (st er x r : Int) : Int := max (max (x - st) (cR r - er)) 1
def nH (st er x r : Int) : Int := min (min (x + st) (cR r + er)) (2000000000 - er - 1)
def dL (lo st er : Int) (L : Nat → Int) : Nat → Int
  | 0 => lo
  | k + 1 => nL st er (dL lo st er L k) (L k)
def dH (hi st er : Int) (L : Nat → Int) : Nat → Int
  | 0 => hi
  | k + 1 => nH st er (dH hi st er L k) (L k)
/-- No interval up to k is empty. -/
def dB (lo hi st er : Int) (L : Nat → Int) : Nat → Bool
  | 0 => true
  | k + 1 => dB lo hi st er L k && decide (dL lo st er L (k + 1) ≤ dH hi st er L (k + 1))
def dCnt (lo hi st er : Int) (L : Nat → Int) : Nat → Nat
  | 0 => 0
  | k + 1 => bif dB lo hi st er L (k + 1) then k + 1 else dCnt lo hi st er L k
def dE (lo hi st er : Int) (L : Nat → Int) (n : Nat) : Int := bif dB lo hi st er L n then 0 else 440

structure dV (lo hi st er : Int) : Prop where
  l : 1 ≤ lo
  h : lo ≤ hi ∧ hi ≤ 1000000
  s : 0 ≤ st ∧ st ≤ 1000000
  e : 0 ≤ er ∧ er ≤ 1000000

variable {lo hi st er : Int} {L : Nat → Int} {n k : Nat}

theorem cR_b (r : Int) : -2000000000 ≤ cR r ∧ cR r ≤ 2000000000 := by unfold cR; omega
theorem dB_mono {j k : Nat} (h : j ≤ k) (hb : dB lo hi st er L k = true) : dB lo hi st er L j = true := by
  induction k with
  | zero => obtain rfl : j = 0 := by omega
            rfl
  | succ k ih =>
    rcases Nat.lt_or_ge j (k + 1) with h1 | h1
    · simp only [dB, Bool.and_eq_true] at hb; exact ih (by omega) hb.1
    · obtain rfl : j = k + 1 := by omega
      exact hb
theorem dB_le (hv : dV lo hi st er) (hb : dB lo hi st er L k = true) : dL lo st er L k ≤ dH hi st er L k := by
  cases k with
  | zero => exact hv.h.1
  | succ k => simp only [dB, Bool.and_eq_true, decide_eq_true_eq] at hb; exact hb.2
theorem dL_b (hv : dV lo hi st er) : ∀ k, 1 ≤ dL lo st er L k ∧ dL lo st er L k ≤ 2000000000
  | 0 => by have := hv.l; have := hv.h; simp only [dL]; omega
  | k + 1 => by
    have ih := dL_b hv k
    have := cR_b (L k); have := hv.s; have := hv.e
    simp only [dL, nL]; omega
theorem dH_b (hv : dV lo hi st er) : ∀ k, -2001000000 ≤ dH hi st er L k ∧ dH hi st er L k ≤ 2000000000
  | 0 => by have := hv.l; have := hv.h; simp only [dH]; omega
  | k + 1 => by
    have ih := dH_b hv k
    have := cR_b (L k); have := hv.s; have := hv.e
    simp only [dH, nH]; omega
theorem dCnt_all (h : dB lo hi st er L n = true) : dCnt lo hi st er L n = n := by
  cases n with
  | zero => rfl
  | succ n => simp only [dCnt, h, cond_true]
theorem dCnt_at (h1 : dB lo hi st er L k = true) (h2 : dB lo hi st er L (k + 1) = false) : ∀ n, k < n → dCnt lo hi st er L n = k
  | 0, h => by omega
  | n + 1, h => by
    have hn : dB lo hi st er L (n + 1) = false := by
      cases hb : dB lo hi st er L (n + 1) with
      | false => rfl
      | true => have := dB_mono (show k + 1 ≤ n + 1 by omega) hb; rw [h2] at this; cases this
    simp only [dCnt, hn, cond_false]
    rcases Nat.lt_or_ge k n with h3 | h3
    · exact dCnt_at h1 h2 n h3
    · obtain rfl : k = n := by omega
      exact dCnt_all h1
theorem dB_end (h2 : dB lo hi st er L (k + 1) = false) (h : k < n) : dB lo hi st er L n = false := by
  cases hb : dB lo hi st er L n with
  | false => rfl
  | true => have := dB_mono (show k + 1 ≤ n by omega) hb; rw [h2] at this; cases this

theorem lt_if {a b : Int} : (if a < b then a else b) = min b a := by omega
theorem gt_if {a b : Int} : (if a > b then a else b) = max b a := by omega

theorem scell_snoc {sl sh : Nat → Int} {m : Nat} (i j : Nat) (hi : i < m + 1) (hj : j < 2) :
    selD (decide (i < m)) (scell sl sh (0 + i) j) (dsAt [xi (sl m), xi (sh m)] (0 + (0 + (i - m)) * 2 + j)) = scell sl sh i j := by
  rw [selD_eq]
  by_cases h : i < m
  · simp [h]
  · obtain rfl : i = m := by omega
    simp only [h, decide_false, cond_false, Nat.sub_self]
    have : j = 0 ∨ j = 1 := by omega
    rcases this with rfl | rfl <;> rfl

noncomputable def spR (lo hi st er : Int) (n : Nat) (L : Nat → Int) : SV :=
  .tup [.agg [iv lo, iv hi, iv st, iv er], .d (.ro (dCnt lo hi st er L n + 1) 2 (scell (dL lo st er L) (dH hi st er L))), iv (dE lo hi st er L n)]

noncomputable def atS (lo hi st er : Int) (n : Nat) (L : Nat → Int) (k : Nat) : AS := invS lo hi st er n L 0 (dL lo st er L k) (dH hi st er L k) k (k + 1) (dL lo st er L) (dH hi st er L)
noncomputable def atE (lo hi st er : Int) (n : Nat) (L : Nat → Int) (k : Nat) : AS := invS lo hi st er n L 440 (dL lo st er L (k + 1)) (dH hi st er L (k + 1)) k (k + 1) (dL lo st er L) (dH hi st er L)

theorem invS_gc {e x1 x2 i : Int} {m : Nat} {sl sh : Nat → Int} {c : Nat → Nat → DV} (h : ∀ i j, i < m → j < 2 → c i j = scell sl sh i j) :
    Gc 11 ⟨[.unk, .unk, .ok (.fn (Fn.func 75) [] [.ptr 3 0]), .ok (.ptr 4 0), .unk, .unk, .ok (iv e), .ok (.ptr 5 0), .unk, .unk, .unk, .unk, .unk, .unk, .unk, .ok (ro64 n L), .ok (iv n), .ok (iv i)] ++ List.replicate 32 .unk,
   [some (.cells [iv 0, iv 0, iv 0, iv 0]), some (.cells [iv lo, iv hi, iv st, iv er]), none, some (.cells [.row 11 0 0 m 2]), some (.cells [iv lo, iv hi, iv st, iv er]), some (.cells [iv x1, iv x2]), none, none, none, none, none, some (.row m 2 c)], 12, .nil⟩
   (invS lo hi st er n L e x1 x2 i m sl sh) := by
  refine gc_sound [(11, 11)] [] rfl ?_ ?_
  · simp [invS, leTm, leTV, leSV, leSVs, rn, iv, ro64, leD, List.replicate]
  · simp [invS, leHp, leBlk, leSVs, leSV, rn, iv, leD, srcOf, hget, List.replicate]
    exact h

theorem sp_sat (hv : dV lo hi st er) (hn : n ≤ 1000) : Sat Try.prog (tS lo hi st er n L) (· = spR lo hi st er n L) := by
  constructor
  rw [LS_eq]; unfold LS
  have h1 := hv.l; have h2 := hv.h; have h3 := hv.s; have h4 := hv.e
  refine ⟨fun hc => ?_, fun _ => ⟨rfl, ⟨trivial, by simp, by omega⟩, ?_⟩⟩
  · simp only [Bool.or_eq_true, decide_eq_true_eq, lt_if, gt_if] at hc; omega
  refine code_satS C3_ok D3_ok (n := 200) (n0 := 11) (nx := 12) (roots := [(.cell (.base 3) 0, 11)]) (keep := [2, 3, 6, 7, 15, 16, 17]) (drop := [2, 6, 7, 8, 9, 10]) (h := .nil) (CS lo hi st er n L) (NS lo hi st er n L)
    (fun m s => ∃ k, m = n - k ∧ k ≤ n ∧ dB lo hi st er L k = true ∧ s = atS lo hi st er n L k)
    (fun e s => (e = .exit 0 ∧ dB lo hi st er L n = true ∧ s = atS lo hi st er n L n) ∨ ∃ k, k < n ∧ dB lo hi st er L k = true ∧ dB lo hi st er L (k + 1) = false ∧ e = .ret ∧ s = atE lo hi st er n L k) ⟨n, _, ⟨0, rfl, Nat.zero_le _, rfl, rfl⟩, ?_⟩ ?_ ?_
  · have hI := IS_eq lo hi st er n L
    unfold IS inS at hI
    refine (entA_sound hI).trans (invS_gc fun i j hi hj => ?_)
    obtain rfl : i = 0 := by omega
    have : j = 0 ∨ j = 1 := by omega
    rcases this with rfl | rfl <;> rfl
  · rintro m s ⟨k, rfl, hk, hb, rfl⟩
    have hbody : cutT 11 [(.cell (.base 3) 0, 11)] [2, 3, 6, 7, 15, 16, 17] [2, 6, 7, 8, 9, 10] 12 .nil (exec Try.prog C3 D3 200 bodyS (atS lo hi st er n L k)) = _ := BS_eq lo hi st er n L (dL lo st er L k) (dH hi st er L k) k (k + 1) (dL lo st er L) (dH hi st er L)
    constructor
    rw [hbody]; unfold BS
    have b1 := dL_b hv (L := L) k
    have b2 := dH_b hv (L := L) k
    have hle := dB_le hv hb
    have hc := cR_b (L k)
    simp only [show Int.toNat (k : Int) = k from rfl, lt_if, gt_if]
    rw [show min (max (L k) (-2000000000)) 2000000000 = cR (L k) from rfl]
    rw [w64_of (n := cR (L k) - er) (by omega) (by omega), w64_of (n := cR (L k) + er) (by omega) (by omega), w64_of (n := dL lo st er L k - st) (by omega) (by omega), w64_of (n := dH hi st er L k + st) (by omega) (by omega),
      w64_of (n := 2000000000 - er) (by omega) (by omega), w64_of (n := 2000000000 - er - 1) (by omega) (by omega), w64_of (n := (k : Int) + 1) (by omega) (by omega)]
    rw [show max (max (dL lo st er L k - st) (cR (L k) - er)) 1 = dL lo st er L (k + 1) from rfl, show min (min (dH hi st er L k + st) (cR (L k) + er)) (2000000000 - er - 1) = dH hi st er L (k + 1) from rfl]
    refine ⟨fun hlt => ?_, fun hlt => ?_⟩
    · have hlt : k < n := by simpa using hlt
      refine ⟨⟨by omega, by omega⟩, ?_⟩
      iterate 28 (refine ⟨by decide, ?_⟩)
      refine ⟨fun hc => ?_, fun hc => ⟨⟨by omega, by simp, by omega⟩, ?_⟩⟩
      · have hc : ¬ dL lo st er L (k + 1) ≤ dH hi st er L (k + 1) := by simp only [decide_eq_true_eq] at hc; omega
        have hb2 : dB lo hi st er L (k + 1) = false := by simp only [dB, hc, decide_false, Bool.and_false]
        exact ⟨atE lo hi st er n L k, .inr ⟨k, hlt, hb, hb2, rfl, rfl⟩, Gc.refl _ _⟩
      · have hc : dL lo st er L (k + 1) ≤ dH hi st er L (k + 1) := by simp only [decide_eq_false_iff_not] at hc; omega
        have hb2 : dB lo hi st er L (k + 1) = true := by simp only [dB, hb, hc, decide_true, Bool.and_self]
        refine ⟨n - (k + 1), atS lo hi st er n L (k + 1), by omega, ⟨k + 1, rfl, hlt, hb2, rfl⟩, ?_⟩
        unfold atS
        rw [show ((k + 1 : Nat) : Int) = (k : Int) + 1 by omega]
        exact invS_gc fun i j hi hj => scell_snoc i j hi hj
    · have hlt : ¬ k < n := by simpa using hlt
      obtain rfl : k = n := by omega
      exact ⟨_, .inl ⟨rfl, hb, rfl⟩, Gc.refl _ _⟩
  · intro e s hp
    rcases hp with ⟨h1, hb, h2⟩ | ⟨k, hk, hb, hb2, h1, h2⟩
    · have := KS_eq lo hi st er n L (dL lo st er L n) (dH hi st er L n) n (n + 1) (dL lo st er L) (dH hi st er L)
      rw [h1, h2]; unfold atS; constructor
      rw [this]; unfold KS
      refine ⟨by omega, ?_⟩
      simp only [Nat.zero_add]
      simp only [Tree.sat, spR, dCnt_all hb, dE, hb, cond_true]
    · have := KR_eq lo hi st er n L 440 (dL lo st er L (k + 1)) (dH hi st er L (k + 1)) k (k + 1) (dL lo st er L) (dH hi st er L)
      rw [h1, h2]; unfold atE; constructor
      rw [this]; unfold KR
      refine ⟨by omega, ?_⟩
      simp only [Nat.zero_add]
      simp only [Tree.sat, spR, dCnt_at hb hb2 n hk, dE, dB_end hb2 hk, cond_false]

def intOf1 : DV → Int | .x (.int _ n) => n | _ => 0
noncomputable def intCell (cell : Nat → Nat → DV) : Nat → Int := fun i => intOf1 (cell i 0)

/-- drift.spans. -/
noncomputable def cSpans : Ctr := fun ss => match ss with
  | [.d (.x (.int .i64 lo)), .d (.x (.int .i64 hi)), .d (.x (.int .i64 st)), .d (.x (.int .i64 er)), .d (.ro n 1 cell)] =>
    .need (dV lo hi st er ∧ n ≤ 1000 ∧ ∀ i, i < n → ∃ b, cell i 0 = .x (.int .i64 b)) (.ret (spR lo hi st er n (intCell cell)))
  | _ => .fail

theorem cSpans_ok : CtrOK Try.prog 57 cSpans := by
  refine ctrOK_leS C3_ok D3_ok (by kernel_rfl) (by kernel_rfl) fun ss r h => ?_
  unfold cSpans at h
  split at h
  · rename_i lo hi st er n cell
    obtain ⟨⟨hv, hn, hb⟩, rfl⟩ := h
    refine ⟨[iv lo, iv hi, iv st, iv er, ro64 n (intCell cell)], 200, (.f (.f .nil)), ?_, sp_sat hv hn⟩
    have : ∀ i j, i < n → j < 1 → cell i j = .x (.int .i64 (intCell cell i)) := by
      intro i j hi hj
      obtain rfl : j = 0 := by omega
      obtain ⟨b, e⟩ := hb i hi
      simp [intCell, e, intOf1]
    simp only [leSVs, leSV, iv, ro64, leD, and_true, true_and]
    exact this
  · exact h.elim

end Go.Proofs.Ytcbjclmjkilphaa

namespace Go.Proofs.Ytcbjclmjkilphaa
open Go.Sx
set_option maxRecDepth 100000

/-! ### drift.Bounds, drift.Possible -/

noncomputable def man4 : FuncId → Option Ctr := fun k => if k = 57 then some cSpans else none
noncomputable def C4x : Ctx := ctxN Try.prog man4 (fun _ => false) 200 .nil 4
theorem C4x_ok : CtxOK Try.prog C4x := ctxN_ok mixed (fun k c h => by
  unfold man4 at h
  split at h
  · rename_i e; cases h; subst e; exact ⟨cSpans_ok, by kernel_rfl⟩
  · cases h) 4
noncomputable def D4x : Dr := fun _ => drawn Try.prog C4x
theorem D4x_ok : DrOK Try.prog C4x D4x := drawn_ok C4x_ok mixed

noncomputable def tB (lo hi st er : Int) (n : Nat) (L : Nat → Int) : Tree SV := fnT Try.prog C4x D4x 200 (fnOf Try.prog 30) (bodyOf Try.prog 30) [iv lo, iv hi, iv st, iv er, ro64 n L] .nil
noncomputable def tP (lo hi st er : Int) (n : Nat) (L : Nat → Int) (m : Nat) (p : Nat → Int) : Tree SV := fnT Try.prog C4x D4x 200 (fnOf Try.prog 29) (bodyOf Try.prog 29) [iv lo, iv hi, iv st, iv er, ro64 n L, ro64 m p] .nil

noncomputable def LB (lo hi st er : Int) (n : Nat) (L : Nat → Int) : Tree SV :=
  .need (dV lo hi st er ∧ n ≤ 1000 ∧ ∀ (i : Nat), i < n → ∃ b, (fun i x => DV.x (.int .i64 (L i))) i (0 : Nat) = DV.x (.int .i64 b))
  (.ite (dE lo hi st er (fun i => intOf1 (DV.x (.int .i64 (L i)))) n != (0 : Int)) (.ret (.tup [iv (0 : Int), iv (0 : Int), iv (dE lo hi st er (fun i => intOf1 (DV.x (.int .i64 (L i)))) n)]))
    (.need
      ((0 : Int) ≤ w64 ((↑(dCnt lo hi st er (fun i => intOf1 (DV.x (.int .i64 (L i)))) n + 1) : Int) - (1 : Int)) ∧
        w64 ((↑(dCnt lo hi st er (fun i => intOf1 (DV.x (.int .i64 (L i)))) n + 1) : Int) - (1 : Int)) < (↑(dCnt lo hi st er (fun i => intOf1 (DV.x (.int .i64 (L i)))) n + 1) : Int))
      (.need ((0 : Int) ≤ (0 : Int) ∧ (0 : Int) < (2 : Int))
        (.need (0 < 2)
          (.need ((0 : Int) ≤ (1 : Int) ∧ (1 : Int) < (2 : Int))
            (.need (1 < 2)
              (.ret
                (.tup
                  [iv (dL lo st er (fun i => intOf1 (DV.x (.int .i64 (L i)))) (Int.toNat (w64 ((↑(dCnt lo hi st er (fun i => intOf1 (DV.x (.int .i64 (L i)))) n + 1) : Int) - (1 : Int))))),
                    iv (dH hi st er (fun i => intOf1 (DV.x (.int .i64 (L i)))) (Int.toNat (w64 ((↑(dCnt lo hi st er (fun i => intOf1 (DV.x (.int .i64 (L i)))) n + 1) : Int) - (1 : Int))))),
                    iv (0 : Int)]))))))))

theorem LB_eq (lo hi st er : Int) (n : Nat) (L : Nat → Int) : tB lo hi st er n L = LB lo hi st er n L := by kernel_rfl

noncomputable def LP (lo hi st er : Int) (n : Nat) (L : Nat → Int) (m : Nat) (p : Nat → Int) : Tree SV :=
  .ite (decide (lo < (1 : Int)) || decide (hi < lo) || decide (hi > (1000000 : Int)) || decide ((if er < st then er else st) < (0 : Int)) || decide ((if er > st then er else st) > (1000000 : Int)) || decide ((↑n : Int) > (1000 : Int)))
  (.ite (true || (↑m : Int) != w64 ((↑n : Int) + (1 : Int))) (.ret (bv false))
    (.code (codeC (sub [(0 : Nat), (1 : Nat)] (tP lo hi st er n L m p))) (codeS (sub [(0 : Nat), (1 : Nat)] (tP lo hi st er n L m p))) (codeK (sub [(0 : Nat), (1 : Nat)] (tP lo hi st er n L m p)))))
  (.ite (false || (↑m : Int) != w64 ((↑n : Int) + (1 : Int))) (.ret (bv false))
    (.code (codeC (sub [(1 : Nat), (1 : Nat)] (tP lo hi st er n L m p))) (codeS (sub [(1 : Nat), (1 : Nat)] (tP lo hi st er n L m p))) (codeK (sub [(1 : Nat), (1 : Nat)] (tP lo hi st er n L m p)))))

theorem LP_eq (lo hi st er : Int) (n : Nat) (L : Nat → Int) (m : Nat) (p : Nat → Int) : tP lo hi st er n L m p = LP lo hi st er n L m p := by kernel_rfl

noncomputable def invP (lo hi st er : Int) (n : Nat) (L : Nat → Int) (m : Nat) (p : Nat → Int) (i : Int) : AS :=
  ⟨[.unk, .unk, .unk, .unk, .ok (ro64 n L), .ok (ro64 m p), .unk, .unk, .unk, .unk, .unk, .unk, .ok (bv false), .ok (.ptr 0 0), .unk, .ok (.fn (Fn.func 55) [] [])] ++ List.replicate 21 .unk ++ [.ok (ro64 m p), .ok (iv m), .ok (iv i)] ++ List.replicate 57 .unk,
   [some (.cells [iv lo, iv hi, iv st, iv er]), none], 2, .nil⟩
noncomputable def inP (t : Tree SV) : Option AS := entA 2 [] [4, 5, 12, 13, 15, 37, 38, 39] [] 2 .nil t
noncomputable def IP (lo hi st er : Int) (n : Nat) (L : Nat → Int) (m : Nat) (p : Nat → Int) : Option AS :=
  some
  {
    tm :=
      [.unk, .unk, .unk, .unk, .ok (.d (DV.ro n 1 fun i x => DV.x (.int .i64 (L i)))), .ok (.d (DV.ro m 1 fun i x => DV.x (.int .i64 (p i)))), .unk, .unk, .unk, .unk,
        .unk, .unk, .ok (bv false), .ok (.ptr 0 0), .unk, .ok (.fn (Fn.func 55) [] []), .unk, .unk, .unk, .unk, .unk, .unk, .unk, .unk, .unk, .unk, .unk, .unk, .unk,
        .unk, .unk, .unk, .unk, .unk, .unk, .unk, .unk, .ok (.d (DV.ro m 1 fun i x => DV.x (.int .i64 (p i)))), .ok (iv (↑m : Int)), .ok (iv (0 : Int)), .unk, .unk, .unk, .unk, .unk,
        .unk, .unk, .unk, .unk, .unk, .unk, .unk, .unk, .unk, .unk, .unk, .unk, .unk, .unk, .unk, .unk, .unk, .unk, .unk, .unk, .unk, .unk, .unk, .unk, .unk, .unk, .unk, .unk, .unk,
        .unk, .unk, .unk, .unk, .unk, .unk, .unk, .unk, .unk, .unk, .unk, .unk, .unk, .unk, .unk, .unk, .unk, .unk, .unk, .unk, .unk, .unk, .unk],
    hp := [some (.cells [iv lo, iv hi, iv st, iv er]), none], next := 2, hint := .nil }

theorem IP_eq (lo hi st er : Int) (n : Nat) (L : Nat → Int) (m : Nat) (p : Nat → Int) : inP (sub [1, 1] (tP lo hi st er n L m p)) = IP lo hi st er n L m p := by kernel_rfl

noncomputable def BP (lo hi st er : Int) (n : Nat) (L : Nat → Int) (m : Nat) (p : Nat → Int) (i : Int) : Tree (Ex × AS) :=
  .ite (decide (i < (↑m : Int)))
  (.need ((0 : Int) ≤ i ∧ i < (↑m : Int))
    (.need ((i == (0 : Int)) = true → (0 : Int) ≤ (0 : Int) ∧ (0 : Int) < (2 : Int))
      (.need ((i == (0 : Int)) = true → 0 < 2)
        (.need ((i == (0 : Int)) = true → decide (p (Int.toNat i) ≥ lo) = true → (0 : Int) ≤ (1 : Int) ∧ (1 : Int) < (2 : Int))
          (.need ((i == (0 : Int)) = true → decide (p (Int.toNat i) ≥ lo) = true → 1 < 2)
            (.ite (i == (0 : Int) && !(decide (p (Int.toNat i) ≥ lo) && decide (p (Int.toNat i) ≤ hi)))
              (.ret
                (.ret,
                  {
                    tm :=
                      [.unk, .unk, .unk, .unk, .ok (.d (DV.ro n 1 fun i x => DV.x (.int .i64 (L i)))), .ok (.d (DV.ro m 1 fun i x => DV.x (.int .i64 (p i)))), .unk, .unk,
                        .unk, .unk, .unk, .unk, .ok (bv false), .ok (.ptr 0 0), .unk, .ok (.fn (Fn.func 55) [] []), .unk, .unk, .unk, .unk, .unk, .unk, .unk, .unk, .unk,
                        .unk, .unk, .unk, .unk, .unk, .unk, .unk, .unk, .unk, .unk, .unk, .unk, .ok (.d (DV.ro m 1 fun i x => DV.x (.int .i64 (p i)))), .ok (iv (↑m : Int)), .ok (iv i),
                        .unk, .unk, .unk, .unk, .unk, .unk, .unk, .unk, .unk, .unk, .unk, .unk, .unk, .unk, .unk, .unk, .unk, .unk, .unk, .unk, .unk, .unk, .unk, .unk, .unk, .unk, .unk,
                        .unk, .unk, .unk, .unk, .unk, .unk, .unk, .unk, .unk, .unk, .unk, .unk, .unk, .unk, .unk, .unk, .unk, .unk, .unk, .unk, .unk, .unk, .unk, .unk, .unk, .unk, .unk,
                        .unk, .unk, .unk],
                    hp := [some (.cells [iv lo, iv hi, iv st, iv er]), none], next := 2, hint := .nil }))
              (.need (decide (i > (0 : Int)) = true ∧ decide (p (Int.toNat i) < (1 : Int)) = false → (0 : Int) ≤ w64 (i - (1 : Int)) ∧ w64 (i - (1 : Int)) < (↑m : Int))
                (.need (decide (i > (0 : Int)) = true ∧ decide (p (Int.toNat i) < (1 : Int)) = false → (0 : Int) ≤ w64 (i - (1 : Int)) ∧ w64 (i - (1 : Int)) < (↑m : Int))
                  (.need (decide (i > (0 : Int)) = true ∧ decide (p (Int.toNat i) < (1 : Int)) = false → (0 : Int) ≤ (0 : Int) ∧ (0 : Int) < (2 : Int))
                    (.need (decide (i > (0 : Int)) = true ∧ decide (p (Int.toNat i) < (1 : Int)) = false → 0 < 2)
                      (.need (decide (i > (0 : Int)) = true ∧ decide (p (Int.toNat i) < (1 : Int)) = false → (0 : Int) ≤ (1 : Int) ∧ (1 : Int) < (2 : Int))
                        (.need (decide (i > (0 : Int)) = true ∧ decide (p (Int.toNat i) < (1 : Int)) = false → 1 < 2)
                          (.need (decide (i > (0 : Int)) = true ∧ decide (p (Int.toNat i) < (1 : Int)) = false → (0 : Int) ≤ (0 : Int) ∧ (0 : Int) < (2 : Int))
                            (.need (decide (i > (0 : Int)) = true ∧ decide (p (Int.toNat i) < (1 : Int)) = false → 0 < 2)
                              (.need
                                (decide (i > (0 : Int)) = true ∧ decide (p (Int.toNat i) < (1 : Int)) = false →
                                  decide (p (Int.toNat i) ≥ w64 (p (Int.toNat (w64 (i - (1 : Int)))) - st)) = true → (0 : Int) ≤ (1 : Int) ∧ (1 : Int) < (2 : Int))
                                (.need (decide (i > (0 : Int)) = true ∧ decide (p (Int.toNat i) < (1 : Int)) = false → decide (p (Int.toNat i) ≥ w64 (p (Int.toNat (w64 (i - (1 : Int)))) - st)) = true → 1 < 2)
                                  (.need
                                    (decide (i > (0 : Int)) = true ∧
                                        (decide (p (Int.toNat i) < (1 : Int)) || !(decide (p (Int.toNat i) ≥ w64 (p (Int.toNat (w64 (i - (1 : Int)))) - st)) && decide (p (Int.toNat i) ≤ w64 (p (Int.toNat (w64 (i - (1 : Int)))) + st)))) =
                                          false →
                                      (0 : Int) ≤ w64 (i - (1 : Int)) ∧ w64 (i - (1 : Int)) < (↑n : Int))
                                    (.need
                                      (decide (i > (0 : Int)) = true ∧
                                          (decide (p (Int.toNat i) < (1 : Int)) || !(decide (p (Int.toNat i) ≥ w64 (p (Int.toNat (w64 (i - (1 : Int)))) - st)) && decide (p (Int.toNat i) ≤ w64 (p (Int.toNat (w64 (i - (1 : Int)))) + st)))) =
                                            false →
                                        (0 : Int) ≤ (0 : Int) ∧ (0 : Int) < (2 : Int))
                                      (.need
                                        (decide (i > (0 : Int)) = true ∧
                                            (decide (p (Int.toNat i) < (1 : Int)) ||
                                                !(decide (p (Int.toNat i) ≥ w64 (p (Int.toNat (w64 (i - (1 : Int)))) - st)) && decide (p (Int.toNat i) ≤ w64 (p (Int.toNat (w64 (i - (1 : Int)))) + st)))) =
                                              false →
                                          0 < 2)
                                        (.need
                                          (decide (i > (0 : Int)) = true ∧
                                              (decide (p (Int.toNat i) < (1 : Int)) ||
                                                  !(decide (p (Int.toNat i) ≥ w64 (p (Int.toNat (w64 (i - (1 : Int)))) - st)) && decide (p (Int.toNat i) ≤ w64 (p (Int.toNat (w64 (i - (1 : Int)))) + st)))) =
                                                false →
                                            (0 : Int) ≤ (1 : Int) ∧ (1 : Int) < (2 : Int))
                                          (.need
                                            (decide (i > (0 : Int)) = true ∧
                                                (decide (p (Int.toNat i) < (1 : Int)) ||
                                                    !(decide (p (Int.toNat i) ≥ w64 (p (Int.toNat (w64 (i - (1 : Int)))) - st)) && decide (p (Int.toNat i) ≤ w64 (p (Int.toNat (w64 (i - (1 : Int)))) + st)))) =
                                                  false →
                                              1 < 2)
                                            (.need
                                              (decide (i > (0 : Int)) = true ∧
                                                  (decide (p (Int.toNat i) < (1 : Int)) ||
                                                      !(decide (p (Int.toNat i) ≥ w64 (p (Int.toNat (w64 (i - (1 : Int)))) - st)) && decide (p (Int.toNat i) ≤ w64 (p (Int.toNat (w64 (i - (1 : Int)))) + st)))) =
                                                    false →
                                                (0 : Int) ≤ (0 : Int) ∧ (0 : Int) < (2 : Int))
                                              (.need
                                                (decide (i > (0 : Int)) = true ∧
                                                    (decide (p (Int.toNat i) < (1 : Int)) ||
                                                        !(decide (p (Int.toNat i) ≥ w64 (p (Int.toNat (w64 (i - (1 : Int)))) - st)) && decide (p (Int.toNat i) ≤ w64 (p (Int.toNat (w64 (i - (1 : Int)))) + st)))) =
                                                      false →
                                                  0 < 2)
                                                (.need
                                                  (decide (i > (0 : Int)) = true ∧
                                                      (decide (p (Int.toNat i) < (1 : Int)) ||
                                                          !(decide (p (Int.toNat i) ≥ w64 (p (Int.toNat (w64 (i - (1 : Int)))) - st)) && decide (p (Int.toNat i) ≤ w64 (p (Int.toNat (w64 (i - (1 : Int)))) + st)))) =
                                                        false →
                                                    decide (L (Int.toNat (w64 (i - (1 : Int)))) ≥ w64 (p (Int.toNat i) - er)) = true → (0 : Int) ≤ (1 : Int) ∧ (1 : Int) < (2 : Int))
                                                  (.need
                                                    (decide (i > (0 : Int)) = true ∧
                                                        (decide (p (Int.toNat i) < (1 : Int)) ||
                                                            !(decide (p (Int.toNat i) ≥ w64 (p (Int.toNat (w64 (i - (1 : Int)))) - st)) && decide (p (Int.toNat i) ≤ w64 (p (Int.toNat (w64 (i - (1 : Int)))) + st)))) =
                                                          false →
                                                      decide (L (Int.toNat (w64 (i - (1 : Int)))) ≥ w64 (p (Int.toNat i) - er)) = true → 1 < 2)
                                                    (.ite
                                                      (decide (i > (0 : Int)) &&
                                                        (decide (p (Int.toNat i) < (1 : Int)) ||
                                                            !(decide (p (Int.toNat i) ≥ w64 (p (Int.toNat (w64 (i - (1 : Int)))) - st)) && decide (p (Int.toNat i) ≤ w64 (p (Int.toNat (w64 (i - (1 : Int)))) + st))) ||
                                                          !(decide (L (Int.toNat (w64 (i - (1 : Int)))) ≥ w64 (p (Int.toNat i) - er)) && decide (L (Int.toNat (w64 (i - (1 : Int)))) ≤ w64 (p (Int.toNat i) + er)))))
                                                      (.ret
                                                        (.ret,
                                                          {
                                                            tm :=
                                                              [.unk, .unk, .unk, .unk, .ok (.d (DV.ro n 1 fun i x => DV.x (.int .i64 (L i)))),
                                                                .ok (.d (DV.ro m 1 fun i x => DV.x (.int .i64 (p i)))), .unk, .unk, .unk, .unk, .unk, .unk, .ok (bv false),
                                                                .ok (.ptr 0 0), .unk, .ok (.fn (Fn.func 55) [] []), .unk, .unk, .unk, .unk, .unk, .unk, .unk, .unk, .unk, .unk,
                                                                .unk, .unk, .unk, .unk, .unk, .unk, .unk, .unk, .unk, .unk, .unk, .ok (.d (DV.ro m 1 fun i x => DV.x (.int .i64 (p i)))),
                                                                .ok (iv (↑m : Int)), .ok (iv i), .unk, .unk, .unk, .unk, .unk, .unk, .unk, .unk, .unk, .unk, .unk, .unk, .unk, .unk, .unk, .unk, .unk,
                                                                .unk, .unk, .unk, .unk, .unk, .unk, .unk, .unk, .unk, .unk, .unk, .unk, .unk, .unk, .unk, .unk, .unk, .unk, .unk, .unk, .unk, .unk,
                                                                .unk, .unk, .unk, .unk, .unk, .unk, .unk, .unk, .unk, .unk, .unk, .unk, .unk, .unk, .unk, .unk, .unk, .unk],
                                                            hp := [some (.cells [iv lo, iv hi, iv st, iv er]), none], next := 2, hint := .nil }))
                                                      (.ret
                                                        (.normal,
                                                          {
                                                            tm :=
                                                              [.unk, .unk, .unk, .unk, .ok (.d (DV.ro n 1 fun i x => DV.x (.int .i64 (L i)))),
                                                                .ok (.d (DV.ro m 1 fun i x => DV.x (.int .i64 (p i)))), .unk, .unk, .unk, .unk, .unk, .unk, .ok (bv false),
                                                                .ok (.ptr 0 0), .unk, .ok (.fn (Fn.func 55) [] []), .unk, .unk, .unk, .unk, .unk, .unk, .unk, .unk, .unk, .unk,
                                                                .unk, .unk, .unk, .unk, .unk, .unk, .unk, .unk, .unk, .unk, .unk, .ok (.d (DV.ro m 1 fun i x => DV.x (.int .i64 (p i)))),
                                                                .ok (iv (↑m : Int)), .ok (iv (w64 (i + (1 : Int)))), .unk, .unk, .unk, .unk, .unk, .unk, .unk, .unk, .unk, .unk, .unk, .unk, .unk, .unk, .unk,
                                                                .unk, .unk, .unk, .unk, .unk, .unk, .unk, .unk, .unk, .unk, .unk, .unk, .unk, .unk, .unk, .unk, .unk, .unk, .unk, .unk, .unk, .unk,
                                                                .unk, .unk, .unk, .unk, .unk, .unk, .unk, .unk, .unk, .unk, .unk, .unk, .unk, .unk, .unk, .unk, .unk, .unk, .unk, .unk],
                                                            hp := [some (.cells [iv lo, iv hi, iv st, iv er]), none], next := 2, hint := .nil }))))))))))))))))))))))))))))
  (.ret
    (.exit 0,
      {
        tm :=
          [.unk, .unk, .unk, .unk, .ok (.d (DV.ro n 1 fun i x => DV.x (.int .i64 (L i)))), .ok (.d (DV.ro m 1 fun i x => DV.x (.int .i64 (p i)))), .unk, .unk, .unk, .unk,
            .unk, .unk, .ok (bv false), .ok (.ptr 0 0), .unk, .ok (.fn (Fn.func 55) [] []), .unk, .unk, .unk, .unk, .unk, .unk, .unk, .unk, .unk, .unk, .unk, .unk,
            .unk, .unk, .unk, .unk, .unk, .unk, .unk, .unk, .unk, .ok (.d (DV.ro m 1 fun i x => DV.x (.int .i64 (p i)))), .ok (iv (↑m : Int)), .ok (iv i), .unk, .unk, .unk, .unk,
            .unk, .unk, .unk, .unk, .unk, .unk, .unk, .unk, .unk, .unk, .unk, .unk, .unk, .unk, .unk, .unk, .unk, .unk, .unk, .unk, .unk, .unk, .unk, .unk, .unk, .unk, .unk, .unk,
            .unk, .unk, .unk, .unk, .unk, .unk, .unk, .unk, .unk, .unk, .unk, .unk, .unk, .unk, .unk, .unk, .unk, .unk, .unk, .unk, .unk, .unk, .unk, .unk, .unk],
        hp := [some (.cells [iv lo, iv hi, iv st, iv er]), none], next := 2, hint := .nil }))

theorem BP_eq (lo hi st er : Int) (n : Nat) (L : Nat → Int) (m : Nat) (p : Nat → Int) (i : Int) : cutT 2 [] [4, 5, 12, 13, 15, 37, 38, 39] [] 2 .nil (exec Try.prog C4x D4x 200 (loopN (bodyOf Try.prog 29) 0) (invP lo hi st er n L m p i)) = BP lo hi st er n L m p i := by kernel_rfl

noncomputable def KP (lo hi st er : Int) (n : Nat) (L : Nat → Int) (m : Nat) (p : Nat → Int) (i : Int) : Tree SV :=
  .ret (bv true)

theorem KP_eq (lo hi st er : Int) (n : Nat) (L : Nat → Int) (m : Nat) (p : Nat → Int) (i : Int) : codeK (sub [1, 1] (tP lo hi st er n L m p)) (.exit 0) (invP lo hi st er n L m p i) = KP lo hi st er n L m p i := by kernel_rfl

noncomputable def KQ (lo hi st er : Int) (n : Nat) (L : Nat → Int) (m : Nat) (p : Nat → Int) (i : Int) : Tree SV :=
  .ret (bv false)

theorem KQ_eq (lo hi st er : Int) (n : Nat) (L : Nat → Int) (m : Nat) (p : Nat → Int) (i : Int) : codeK (sub [1, 1] (tP lo hi st er n L m p)) .ret (invP lo hi st er n L m p i) = KQ lo hi st er n L m p i := by kernel_rfl

noncomputable def bodyP : Code := loopN (bodyOf Try.prog 29) 0
theorem CP (lo hi st er : Int) (n : Nat) (L : Nat → Int) (m : Nat) (p : Nat → Int) : codeC (sub [1, 1] (tP lo hi st er n L m p)) = .loop bodyP := by kernel_rfl
theorem NP (lo hi st er : Int) (n : Nat) (L : Nat → Int) (m : Nat) (p : Nat → Int) : Nat.ble (codeS (sub [1, 1] (tP lo hi st er n L m p))).next 2 = true := by kernel_rfl

end Go.Proofs.Ytcbjclmjkilphaa

namespace Go.Proofs.Ytcbjclmjkilphaa
open Go.Sx
set_option maxRecDepth 100000
variable {lo hi st er : Int} {L p : Nat → Int} {n m k : Nat}

/-! ### drift.Bounds -/

noncomputable def bdR (lo hi st er : Int) (n : Nat) (L : Nat → Int) : SV := .tup [iv (zif (dB lo hi st er L n) (dL lo st er L n)), iv (zif (dB lo hi st er L n) (dH hi st er L n)), iv (dE lo hi st er L n)]

theorem bd_sat (hv : dV lo hi st er) (hn : n ≤ 1000) : Sat Try.prog (tB lo hi st er n L) (· = bdR lo hi st er n L) := by
  constructor
  rw [LB_eq]; unfold LB
  rw [show (fun i => intOf1 (DV.x (Value.int IntKind.i64 (L i)))) = L from rfl]
  refine ⟨⟨hv, hn, fun i hi => ⟨_, rfl⟩⟩, fun hc => ?_, fun hc => ?_⟩
  · have hb : dB lo hi st er L n = false := by
      cases h : dB lo hi st er L n with
      | false => rfl
      | true => simp [dE, h] at hc
    simp only [Tree.sat, bdR, hb, zif, cond_false]
  · have hb : dB lo hi st er L n = true := by
      cases h : dB lo hi st er L n with
      | true => rfl
      | false => simp [dE, h] at hc
    rw [dCnt_all hb]
    have e : w64 (((n + 1 : Nat) : Int) - 1) = n := by rw [w64_of (by omega) (by omega)]; omega
    rw [e]
    refine ⟨by omega, by decide, by decide, by decide, by decide, ?_⟩
    simp only [Tree.sat, bdR, hb, zif, cond_true, dE, Int.toNat_natCast]

noncomputable def cBounds : Ctr := fun ss => match ss with
  | [.d (.x (.int .i64 lo)), .d (.x (.int .i64 hi)), .d (.x (.int .i64 st)), .d (.x (.int .i64 er)), .d (.ro n 1 cell)] =>
    .need (dV lo hi st er ∧ n ≤ 1000 ∧ ∀ i, i < n → ∃ b, cell i 0 = .x (.int .i64 b)) (.ret (bdR lo hi st er n (intCell cell)))
  | _ => .fail

theorem le_ro64 {n : Nat} {cell : Nat → Nat → DV} (hb : ∀ i, i < n → ∃ b, cell i 0 = .x (.int .i64 b)) : ∀ i j, i < n → j < 1 → cell i j = .x (.int .i64 (intCell cell i)) := by
  intro i j hi hj
  obtain rfl : j = 0 := by omega
  obtain ⟨b, e⟩ := hb i hi
  simp [intCell, e, intOf1]

theorem cBounds_ok : CtrOK Try.prog 30 cBounds := by
  refine ctrOK_leS C4x_ok D4x_ok (by kernel_rfl) (by kernel_rfl) fun ss r h => ?_
  unfold cBounds at h
  split at h
  · rename_i lo hi st er n cell
    obtain ⟨⟨hv, hn, hb⟩, rfl⟩ := h
    refine ⟨[iv lo, iv hi, iv st, iv er, ro64 n (intCell cell)], 200, .nil, ?_, bd_sat hv hn⟩
    simp only [leSVs, leSV, iv, ro64, leD, and_true, true_and]
    exact le_ro64 hb
  · exact h.elim

/-! ### drift.Possible -/

/-- The k-th step of a path. -/
def stepB (st er : Int) (L p : Nat → Int) (k : Nat) : Bool := decide (1 ≤ p (k + 1)) && (decide (p k - st ≤ p (k + 1)) && decide (p (k + 1) ≤ p k + st)) && (decide (p (k + 1) - er ≤ L k) && decide (L k ≤ p (k + 1) + er))
def pthB (lo hi st er : Int) (L p : Nat → Int) : Nat → Bool
  | 0 => decide (lo ≤ p 0) && decide (p 0 ≤ hi)
  | k + 1 => pthB lo hi st er L p k && stepB st er L p k
def posB (lo hi st er : Int) (n : Nat) (L : Nat → Int) (m : Nat) (p : Nat → Int) : Bool := decide (m = n + 1) && pthB lo hi st er L p n

theorem pthB_mono {j k : Nat} (h : j ≤ k) (hb : pthB lo hi st er L p k = true) : pthB lo hi st er L p j = true := by
  induction k with
  | zero => obtain rfl : j = 0 := by omega
            exact hb
  | succ k ih =>
    rcases Nat.lt_or_ge j (k + 1) with h1 | h1
    · simp only [pthB, Bool.and_eq_true] at hb; exact ih (by omega) hb.1
    · obtain rfl : j = k + 1 := by omega
      exact hb

/-- What has been looked at before index i. -/
def preB (lo hi st er : Int) (L p : Nat → Int) : Nat → Bool
  | 0 => true
  | k + 1 => pthB lo hi st er L p k

theorem stepB_not : (decide (p (k + 1) < 1) || !(decide (p (k + 1) ≥ p k - st) && decide (p (k + 1) ≤ p k + st)) || !(decide (L k ≥ p (k + 1) - er) && decide (L k ≤ p (k + 1) + er))) = !stepB st er L p k := by
  unfold stepB
  rw [show decide (p (k + 1) < 1) = !decide (1 ≤ p (k + 1)) by rw [← decide_not]; congr 1; simp]
  simp only [Bool.not_and, ge_iff_le]

theorem pos_sat (hv : dV lo hi st er) (hn : n ≤ 1000) (hm : m ≤ maxLen) (hp : ∀ i, i < m → -4000000000000000000 ≤ p i ∧ p i ≤ 4000000000000000000) : Sat Try.prog (tP lo hi st er n L m p) (· = bv (posB lo hi st er n L m p)) := by
  constructor
  rw [LP_eq]; unfold LP
  have h1 := hv.l; have h2 := hv.h; have h3 := hv.s; have h4 := hv.e
  rw [w64_of (n := (n : Int) + 1) (by omega) (by omega)]
  refine ⟨fun hc => ?_, fun _ => ⟨fun hc => ?_, fun hc => ?_⟩⟩
  · simp only [Bool.or_eq_true, decide_eq_true_eq, lt_if, gt_if] at hc; omega
  · have : m ≠ n + 1 := by simp at hc; omega
    simp [Tree.sat, posB, this]
  have hmn : m = n + 1 := by simp at hc; omega
  subst hmn
  refine code_satS C4x_ok D4x_ok (n := 200) (n0 := 2) (nx := 2) (roots := []) (keep := [4, 5, 12, 13, 15, 37, 38, 39]) (drop := []) (h := .nil) (CP lo hi st er n L (n + 1) p) (NP lo hi st er n L (n + 1) p)
    (fun q s => ∃ k, q = n + 1 - k ∧ k ≤ n + 1 ∧ preB lo hi st er L p k = true ∧ s = invP lo hi st er n L (n + 1) p k)
    (fun e s => (e = .exit 0 ∧ pthB lo hi st er L p n = true ∧ s = invP lo hi st er n L (n + 1) p ((n + 1 : Nat) : Int)) ∨ ∃ k : Nat, e = .ret ∧ pthB lo hi st er L p n = false ∧ s = invP lo hi st er n L (n + 1) p k) ⟨n + 1, _, ⟨0, rfl, Nat.zero_le _, rfl, rfl⟩, ?_⟩ ?_ ?_
  · have hI := IP_eq lo hi st er n L (n + 1) p
    unfold IP inP at hI
    exact entA_sound hI
  · rintro q s ⟨k, rfl, hk, hb, rfl⟩
    have hbody : cutT 2 [] [4, 5, 12, 13, 15, 37, 38, 39] [] 2 .nil (exec Try.prog C4x D4x 200 bodyP (invP lo hi st er n L (n + 1) p k)) = _ := BP_eq lo hi st er n L (n + 1) p k
    constructor
    rw [hbody]; unfold BP
    simp only [show Int.toNat (k : Int) = k from rfl]
    refine ⟨fun hlt => ?_, fun hlt => ?_⟩
    · have hlt : k < n + 1 := by simp at hlt; omega
      have hpk := hp k hlt
      have e1 : w64 ((k : Int) + 1) = ((k + 1 : Nat) : Int) := by rw [w64_of (by omega) (by omega)]; omega
      rw [e1]
      cases k with
      | zero =>
        simp only [show ((0 : Nat) : Int) = 0 from rfl, show ((0 : Int) == 0) = true from rfl, show decide ((0 : Int) > 0) = false from rfl, Tree.sat, Bool.true_and, Bool.false_and, Bool.false_eq_true, false_and, false_implies, forall_const, true_and, Bool.not_eq_true', Int.toNat_zero, and_true, Bool.not_eq_false', Nat.lt_irrefl, show (0 : Nat) < 2 from by decide, show (1 : Nat) < 2 from by decide, show (0 : Int) ≤ 0 from by decide, show (0 : Int) < 2 from by decide, show (0 : Int) ≤ 1 from by decide, show (1 : Int) < 2 from by decide, implies_true]
        refine ⟨by omega, fun hc => ⟨_, .inr ⟨0, ?_, rfl⟩, Gc.refl _ _⟩, fun hc => ⟨n, _, by omega, ⟨1, by omega, by omega, hc, rfl⟩, Gc.refl _ _⟩⟩
        cases h : pthB lo hi st er L p n with
        | false => rfl
        | true => have h0 := pthB_mono (Nat.zero_le n) h; simp only [pthB] at h0; exact absurd (h0.symm.trans hc) (by decide)
      | succ j =>
        have hpj := hp j (by omega)
        rw [w64_of (n := ((j + 1 : Nat) : Int) - 1) (by omega) (by omega), show Int.toNat (((j + 1 : Nat) : Int) - 1) = j by omega]
        rw [w64_of (n := p j - st) (by omega) (by omega), w64_of (n := p j + st) (by omega) (by omega), w64_of (n := p (j + 1) - er) (by omega) (by omega), w64_of (n := p (j + 1) + er) (by omega) (by omega)]
        simp only [show (((j + 1 : Nat) : Int) == 0) = false by simp; omega, show decide (((j + 1 : Nat) : Int) > 0) = true from decide_eq_true (by omega), Tree.sat, Bool.true_and, Bool.false_and, Bool.false_eq_true, false_and, false_implies, forall_const, true_and, and_true, show (0 : Nat) < 2 from by decide, show (1 : Nat) < 2 from by decide, show (0 : Int) ≤ 0 from by decide, show (0 : Int) < 2 from by decide, show (0 : Int) ≤ 1 from by decide, show (1 : Int) < 2 from by decide, implies_true, and_self, imp_self, stepB_not]
        have hb' : pthB lo hi st er L p j = true := hb
        refine ⟨by omega, fun _ => by omega, fun _ => by omega, fun _ => by omega, fun hc => ⟨_, .inr ⟨j + 1, ?_, rfl⟩, Gc.refl _ _⟩, fun hc => ⟨n - (j + 1), _, by omega, ⟨j + 2, by omega, by omega, ?_, rfl⟩, Gc.refl _ _⟩⟩
        · cases h : pthB lo hi st er L p n with
          | false => rfl
          | true =>
            have h0 := pthB_mono (show j + 1 ≤ n by omega) h
            simp only [pthB, hb', Bool.true_and] at h0
            rw [h0] at hc; cases hc
        · have hc : stepB st er L p j = true := by simpa using hc
          simp only [preB, pthB, hb', hc, Bool.and_self]
    · have hlt : ¬ k < n + 1 := by simp at hlt; omega
      obtain rfl : k = n + 1 := by omega
      exact ⟨_, .inl ⟨rfl, hb, rfl⟩, Gc.refl _ _⟩
  · intro e s hq
    rcases hq with ⟨h1, hb, h2⟩ | ⟨k, h1, hb, h2⟩
    · have := KP_eq lo hi st er n L (n + 1) p ((n + 1 : Nat) : Int)
      rw [h1, h2, this]; unfold KP; constructor
      simp only [Tree.sat, posB, hb, decide_true, Bool.and_self]
    · have := KQ_eq lo hi st er n L (n + 1) p k
      rw [h1, h2, this]; unfold KQ; constructor
      simp only [Tree.sat, posB, hb, Bool.and_false]

noncomputable def cPoss : Ctr := fun ss => match ss with
  | [.d (.x (.int .i64 lo)), .d (.x (.int .i64 hi)), .d (.x (.int .i64 st)), .d (.x (.int .i64 er)), .d (.ro n 1 cell), .d (.ro m 1 cel2)] =>
    .need (dV lo hi st er ∧ n ≤ 1000 ∧ m ≤ maxLen ∧ (∀ i, i < n → ∃ b, cell i 0 = .x (.int .i64 b)) ∧ ∀ i, i < m → ∃ b, cel2 i 0 = .x (.int .i64 b) ∧ -4000000000000000000 ≤ b ∧ b ≤ 4000000000000000000) (.ret (bv (posB lo hi st er n (intCell cell) m (intCell cel2))))
  | _ => .fail

theorem cPoss_ok : CtrOK Try.prog 29 cPoss := by
  refine ctrOK_leS C4x_ok D4x_ok (by kernel_rfl) (by kernel_rfl) fun ss r h => ?_
  unfold cPoss at h
  split at h
  · rename_i lo hi st er n cell m cel2
    obtain ⟨⟨hv, hn, hm, hb, hb2⟩, rfl⟩ := h
    refine ⟨[iv lo, iv hi, iv st, iv er, ro64 n (intCell cell), ro64 m (intCell cel2)], 200, .nil, ?_, pos_sat hv hn hm fun i hi => ?_⟩
    · simp only [leSVs, leSV, iv, ro64, leD, and_true, true_and]
      exact ⟨le_ro64 hb, le_ro64 fun i hi => by obtain ⟨b, e, _⟩ := hb2 i hi; exact ⟨b, e⟩⟩
    · obtain ⟨b, e, h⟩ := hb2 i hi
      simpa [intCell, e, intOf1] using h
  · exact h.elim

end Go.Proofs.Ytcbjclmjkilphaa

