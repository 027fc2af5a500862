/- Part of a proof of the given statements of this seat (SxMdM5): no conditions beyond those typed here. -/
import Derived.Test.YtcbjclmjkilphaaSxMdL5
import Derived.Test.YtcbjclmjkilphaaSxMdM4
set_option linter.unusedVariables false
set_option linter.unusedSimpArgs false
namespace Go.Proofs.Ytcbjclmjkilphaa
open Go.Sx
set_option maxRecDepth 100000

/-! ### A walk is possible -/

theorem walk_pos {lo wi s e : Int} {B : Nat → Int} (h1 : 0 ≤ lo) (h2 : 0 ≤ wi) (hs : 0 ≤ s ∧ s ≤ 5) (he : 0 ≤ e ∧ e ≤ 5) : ∀ k, pthB (sLo lo) (sHi lo wi) s e (lS lo wi s e B) (fS lo wi s B) k = true
  | 0 => by
    have := Int.emod_nonneg lo (show 1 + wi % 8 ≠ 0 by omega)
    have := Int.emod_lt_of_pos lo (show 0 < 1 + wi % 8 by omega)
    have e0 : fS lo wi s B 0 = sLo lo + lo % (1 + wi % 8) := rfl
    have e1 : sHi lo wi = sLo lo + wi % 8 := rfl
    show (decide (sLo lo ≤ fS lo wi s B 0) && decide (fS lo wi s B 0 ≤ sHi lo wi)) = true
    rw [e0, e1, Bool.and_eq_true, decide_eq_true_eq, decide_eq_true_eq]; omega
  | k + 1 => by
    have ih := walk_pos h1 h2 hs he (B := B) k
    have f1 := (fS_b (B := B) h1 h2 hs k).1
    simp only [pthB, ih, Bool.true_and]
    unfold stepB
    have n1 := fNx_b (f := fS lo wi s B k) (b := B (2 * k)) hs
    have e1 : fS lo wi s B (k + 1) = fNx (fS lo wi s B k) (B (2 * k)) s := rfl
    have := Int.emod_nonneg (B (2 * k + 1)) (show 2 * e + 1 ≠ 0 by omega)
    have := Int.emod_lt_of_pos (B (2 * k + 1)) (show 0 < 2 * e + 1 by omega)
    have e2 : lS lo wi s e B k = fS lo wi s B (k + 1) + B (2 * k + 1) % (2 * e + 1) - e := rfl
    rw [← e1] at n1
    simp only [Bool.and_eq_true, decide_eq_true_eq]
    omega

structure J5 (f lo hi st er le mo : Int) (sp : Bool) : Prop where
  v : vB lo hi st er le mo sp = true
  f : sp = false → lo ≤ f ∧ f ≤ hi

variable {f g r lo hi st er le mo : Int} {sp : Bool}

theorem J5.agree (h : J5 f lo hi st er le mo sp) (hf : 1 ≤ f) (hg : f - st ≤ g ∧ g ≤ f + st ∧ 1 ≤ g) (hr : g - er ≤ r ∧ r ≤ g + er) (hb : -4000000 ≤ r ∧ r ≤ 4000000) (hs : sp = false) : gB lo hi st er r = true := by
  have := h.f hs; have := (vB_iff.1 h.v).1
  rw [gB_iff]; unfold oLo; have := this.er; omega
theorem J5.see (h : J5 f lo hi st er le mo sp) (hf : 1 ≤ f) (hg : f - st ≤ g ∧ g ≤ f + st ∧ 1 ≤ g) (hr : g - er ≤ r ∧ r ≤ g + er) : J5 g (vLo lo hi st er sp r) (vHi lo hi st er sp r) st er le mo (vSp lo hi st er le mo sp r) := by
  refine ⟨see_vB h.v, fun hs => ?_⟩
  obtain ⟨h1, h2, h3⟩ := vSp_no hs
  have := h.f h1
  subst h1
  simp only [vLo, vHi, h2, and_self, if_true]
  unfold oLo; omega
theorem J5.miss (h : J5 f lo hi st er le mo sp) (hf : 1 ≤ f) (hg : f - st ≤ g ∧ g ≤ f + st ∧ 1 ≤ g) : J5 g (uLo lo st sp) (uHi hi st sp) st er le mo (uSp lo hi st le mo sp) := by
  refine ⟨miss_vB h.v, fun hs => ?_⟩
  have h1 : sp = false := by cases sp with
    | false => rfl
    | true => simp [uSp] at hs
  have := h.f h1
  subst h1
  simp only [uLo, uHi, if_true]
  unfold oLo; omega
theorem J5.safe (h : J5 f lo hi st er le mo sp) (hf : 1 ≤ f) : (!sp && (decide (f < le) || decide (f + st > mo) || decide (max 1 (f - st) < le) || decide (f < lo) || decide (f > hi))) = false := by
  cases sp with
  | true => rfl
  | false =>
    have h1 := h.f rfl
    obtain ⟨hok, h2⟩ := vB_iff.1 h.v
    have h2 := h2.resolve_left (by simp)
    have := hok.st
    simp only [Bool.not_false, Bool.true_and, Bool.or_eq_false_iff, decide_eq_false_iff_not]
    unfold oLo at h2; omega

theorem max_1 {a : Int} : (if a > 1 then a else 1) = max 1 a := by omega

theorem stop_see (h : vB lo hi st er le mo sp = true) : (sp && !(vLo lo hi st er sp r == lo && (vHi lo hi st er sp r == hi && (st == st && (er == er && (le == le && (mo == mo && (vSp lo hi st er le mo sp r == sp && true)))))))) = false := by
  cases sp <;> simp [vLo, vHi, vSp]
theorem stop_miss (h : vB lo hi st er le mo sp = true) : (sp && !(uLo lo st sp == lo && (uHi hi st sp == hi && (st == st && (er == er && (le == le && (mo == mo && (uSp lo hi st le mo sp == sp && true)))))))) = false := by
  cases sp <;> simp [uLo, uHi, uSp]

theorem loop5 {ms dlo dhi dst der : Int} {kn : Nat} {p l : Nat → Int} (hkn : kn ≤ 100) (hst : 0 ≤ st ∧ st ≤ 5) (h1 : ∀ k, k ≤ kn → 1 ≤ p k ∧ p k ≤ 1000) (h2 : ∀ k, k < kn → stepB st er l p k = true) (h3 : ∀ k, k < kn → -4000000 ≤ l k ∧ l k ≤ 4000000)
    (hJ : J5 (p 0) lo hi st er le mo sp) {t : Tree SV} (hc : codeC t = .loop body5) (hn : Nat.ble (codeS t).next 10 = true) (h0 : Gc 10 (ups (codeS t) 10) (inv5 (.ok (bv false)) ms dlo dhi dst der kn p l lo hi st er le mo sp 0))
    (hk : ∀ lo hi sp i, codeK t .ret (inv5 (.ok (bv true)) ms dlo dhi dst der kn p l lo hi st er le mo sp i) = .ret (bv true)) : (Tree.code (codeC t) (codeS t) (codeK t)).sat Try.prog (· = bv true) := by
  refine code_satS C5_ok D5_ok (n := 200) (n0 := 10) (nx := 12) (roots := [(.slot 6, 10), (.slot 7, 11)]) (keep := [1, 4, 5, 6, 7, 8]) (drop := List.range 10) (h := .nil) hc hn
    (fun m s => ∃ (k : Nat) (lo hi : Int) (sp : Bool), m = kn + 1 - k ∧ k ≤ kn ∧ J5 (p k) lo hi st er le mo sp ∧ s = inv5 (.ok (bv false)) ms dlo dhi dst der kn p l lo hi st er le mo sp k)
    (fun e s => ∃ (lo hi : Int) (sp : Bool) (i : Int), e = .ret ∧ s = inv5 (.ok (bv true)) ms dlo dhi dst der kn p l lo hi st er le mo sp i)
    ⟨kn + 1, _, ⟨0, _, _, _, rfl, Nat.zero_le _, hJ, rfl⟩, h0⟩ ?_ ?_
  · rintro m s ⟨k, lo, hi, sp, rfl, hk, J, rfl⟩
    have hb : cutT 10 [(.slot 6, 10), (.slot 7, 11)] [1, 4, 5, 6, 7, 8] (List.range 10) 12 .nil (exec Try.prog C5 D5 200 body5 (inv5 (.ok (bv false)) ms dlo dhi dst der kn p l lo hi st er le mo sp k)) = _ := B5_eq ms dlo dhi dst der kn p l lo hi st er le mo sp k
    constructor
    rw [hb]; unfold B5
    have hok := (vB_iff.1 J.v).1
    have hp := h1 k hk
    have eK : IntKind.wrap .u64 (Int.tmod (k : Int) 16) = (k : Int) % 16 := by
      rw [tmod_lit (by omega)]
      unfold IntKind.wrap; simp [IntKind.signed, IntKind.bits]; omega
    simp only [show Int.toNat (k : Int) = k from rfl, max_1, eK]
    rw [w64_of (n := p k + st) (by omega) (by omega), w64_of (n := p k - st) (by omega) (by omega), w64_of (n := (k : Int) + 1) (by omega) (by omega), J.safe hp.1]
    refine ⟨fun _ => ⟨by omega, fun hc => by (cases hc), fun _ => ⟨fun _ => ?_, fun hc => ?_⟩⟩, fun hlt => by simp at hlt; omega⟩
    · exact ⟨_, ⟨lo, hi, sp, k, rfl, rfl⟩, Gc.refl _ _⟩
    have hlt : k < kn := by simp at hc; omega
    have hi' : (0 : Int) ≤ k ∧ (k : Int) < kn := by omega
    have s1 := h2 k hlt
    simp only [stepB, Bool.and_eq_true, decide_eq_true_eq] at s1
    have Js := J.see (g := p (k + 1)) (r := l k) hp.1 (by omega) (by omega)
    have Jm := J.miss (g := p (k + 1)) hp.1 (by omega)
    refine ⟨hi', hok, by decide, by omega, fun _ => ⟨hok, fun hc => ?_, fun _ => ⟨kn + 1 - (k + 1), _, by omega, ⟨k + 1, _, _, _, rfl, hlt, Jm, rfl⟩, Gc.refl _ _⟩⟩,
      fun _ => ⟨hi', hok, fun hc => ?_, fun _ => ⟨fun hc => ?_, fun _ => ⟨kn + 1 - (k + 1), _, by omega, ⟨k + 1, _, _, _, rfl, hlt, Js, rfl⟩, Gc.refl _ _⟩⟩⟩⟩
    · rw [Jm.v, stop_miss J.v] at hc; cases hc
    · exfalso
      cases hs : sp with
      | true => rw [hs] at hc; simp at hc
      | false => rw [J.agree (g := p (k + 1)) hp.1 (by omega) (by omega) (h3 k hlt) hs] at hc; cases hc
    · rw [Js.v, stop_see J.v] at hc; cases hc
  · intro e s hq
    obtain ⟨lo, hi, sp, i, e1, e2⟩ := hq
    rw [e1, e2, hk]; exact ⟨rfl⟩

theorem RawOK.dv {lo wi st er be ov : Int} {n : Nat} {cell : Nat → Nat → DV} (h : RawOK lo wi st er be ov n cell) : dV (sLo lo) (sHi lo wi) (st % 6) (er % 6) := by
  have := h.ok.lo; have := h.hst; have := h.her
  have : sLo lo ≤ 40 := by unfold sLo; omega
  have : sHi lo wi ≤ 47 := by unfold sHi sLo; omega
  exact ⟨by omega, by omega, by omega, by omega⟩

theorem lS_b {lo wi s e : Int} {B : Nat → Int} (h1 : 0 ≤ lo) (h2 : 0 ≤ wi) (hs : 0 ≤ s ∧ s ≤ 5) (he : 0 ≤ e ∧ e ≤ 5) (k : Nat) : -5 ≤ lS lo wi s e B k ∧ lS lo wi s e B k ≤ 57 + 5 * (k + 1) := by
  have := (fS_b (B := B) h1 h2 hs (k + 1))
  have := Int.emod_nonneg (B (2 * k + 1)) (show 2 * e + 1 ≠ 0 by omega)
  have := Int.emod_lt_of_pos (B (2 * k + 1)) (show 0 < 2 * e + 1 by omega)
  have e2 : lS lo wi s e B k = fS lo wi s B (k + 1) + B (2 * k + 1) % (2 * e + 1) - e := rfl
  omega

theorem law5 {lo wi st er be ov ms : Int} {n : Nat} {cell : Nat → Nat → DV} (h : RawOK lo wi st er be ov n cell) : Law5 5 [.agg [u8 lo, u8 wi, u8 st, u8 er, .d (.ro n 1 cell), u8 be, u8 ov], .d (.x (.int .u16 ms))] := by
  refine ⟨⟨.nil, ?_⟩⟩
  show (t5 lo wi st er be ov n cell ms).sat Try.prog (· = bv true)
  have hr := h
  obtain ⟨h1, h2, h3, h4, h5, h6, h7, h8⟩ := hr
  have hn : n ≤ 9223372036854775807 := h5
  have hok := h.ok
  have hv := h.v
  have hI := I5_eq lo wi st er be ov n cell ms
  have c1 := C5e lo wi st er be ov n cell ms
  have c2 := N5e lo wi st er be ov n cell ms
  have c3 := K5_eq lo wi st er be ov n cell ms
  unfold I5 in5 at hI
  rw [L5_eq]; unfold L5
  have hs : 0 ≤ st % 6 ∧ st % 6 ≤ 5 := by omega
  have he : 0 ≤ er % 6 ∧ er % 6 ≤ 5 := by omega
  have hkn : kS n ≤ 12 := by unfold kS; omega
  have hw := walk_pos (B := byteCell cell) h1.1 h2.1 hs he (kS n)
  have hpos : posB (sLo lo) (sHi lo wi) (st % 6) (er % 6) (kS n) (lS lo wi (st % 6) (er % 6) (byteCell cell)) (kS n + 1) (fS lo wi (st % 6) (byteCell cell)) = true := by unfold posB; rw [hw]; simp
  refine ⟨fun h => by (cases h), fun _ => ⟨⟨h1, h2, h3, h4, hn, h6⟩, ⟨h1, h2, h3, h4, hn, h6, h7, h8⟩, ⟨h.dv, by omega, by omega, fun i _ => ⟨_, rfl⟩, fun i hi => ?_⟩, fun hc => ?_, fun _ => ?_⟩⟩
  · have := fS_b (B := byteCell cell) h1.1 h2.1 hs i
    exact ⟨_, rfl, by omega, by omega⟩
  · exact absurd (hpos.symm.trans (Bool.not_eq_true' _ |>.mp hc)) (by decide)
  · refine loop5 (dlo := sLo lo) (dhi := sHi lo wi) (dst := st % 6) (der := er % 6) (p := fS lo wi (st % 6) (byteCell cell)) (l := lS lo wi (st % 6) (er % 6) (byteCell cell)) (kn := kS n) (st := st % 6) (er := er % 6) (le := mLe lo be) (mo := mMo lo wi ov) (by omega) hs (fun k hk => ?_) (fun k hk => ?_) (fun k hk => ?_) ⟨hv, fun _ => ?_⟩ c1 c2 ((entA_sound hI).trans (Gc.refl _ _)) (fun lo' hi' sp' i => ?_)
    · have := fS_b (B := byteCell cell) h1.1 h2.1 hs k; omega
    · have := pthB_mono (show k + 1 ≤ kS n by omega) hw
      simp only [pthB, Bool.and_eq_true] at this; exact this.2
    · have := lS_b (B := byteCell cell) h1.1 h2.1 hs he k; omega
    · have := pthB_mono (Nat.zero_le _) hw
      have : (decide (sLo lo ≤ fS lo wi (st % 6) (byteCell cell) 0) && decide (fS lo wi (st % 6) (byteCell cell) 0 ≤ sHi lo wi)) = true := this
      simpa only [Bool.and_eq_true, decide_eq_true_eq] using this
    · have := c3 (sLo lo) (sHi lo wi) (st % 6) (er % 6) (kS n) (fS lo wi (st % 6) (byteCell cell)) (lS lo wi (st % 6) (er % 6) (byteCell cell)) lo' hi' (st % 6) (er % 6) (mLe lo be) (mMo lo wi ov) sp' i true
      rw [K5] at this
      exact this

end Go.Proofs.Ytcbjclmjkilphaa
