/- Part of a proof of the given statements of this seat (SxMdM4): no conditions beyond those typed here. -/
import Derived.Test.YtcbjclmjkilphaaSxMdL4
import Derived.Test.YtcbjclmjkilphaaSxMdR
set_option linter.unusedVariables false
set_option linter.unusedSimpArgs false
namespace Go.Proofs.Ytcbjclmjkilphaa
open Go.Sx
set_option maxRecDepth 100000

theorem vSp_no {lo hi st er le mo r : Int} {sp : Bool} (h : vSp lo hi st er le mo sp r = false) : sp = false ∧ gB lo hi st er r = true ∧ inR (max (oLo lo st) (r - er)) (min (hi + st) (r + er)) st le mo = true := by
  unfold vSp at h
  simp only [Bool.or_eq_false_iff, Bool.not_eq_false'] at h
  exact ⟨h.1.1, h.1.2, h.2⟩

/-- What is kept from reading to reading. -/
structure J4 (st er : Int) (alo ahi ale amo : Int) (asp : Bool) (blo bhi ble bmo : Int) (bsp : Bool) (clo chi cle cmo : Int) (csp : Bool) (g : Bool) : Prop where
  va : vB alo ahi st er ale amo asp = true
  vb : vB blo bhi st er ble bmo bsp = true
  vc : vB clo chi st er cle cmo csp = true
  ble : ble ≤ ale
  bmo : amo ≤ bmo
  cle : cle = ale
  cmo : cmo = amo
  b : asp = false → bsp = false ∧ blo = alo ∧ bhi = ahi
  c : asp = false → g = true → csp = false ∧ alo ≤ clo ∧ chi ≤ ahi

theorem J4.step {st er alo ahi ale amo blo bhi ble bmo clo chi cle cmo : Int} {asp bsp csp g : Bool} (h : J4 st er alo ahi ale amo asp blo bhi ble bmo bsp clo chi cle cmo csp g) (r : Int) :
    J4 st er (vLo alo ahi st er asp r) (vHi alo ahi st er asp r) ale amo (vSp alo ahi st er ale amo asp r) (vLo blo bhi st er bsp r) (vHi blo bhi st er bsp r) ble bmo (vSp blo bhi st er ble bmo bsp r)
      (vLo clo chi st er csp r) (vHi clo chi st er csp r) cle cmo (vSp clo chi st er cle cmo csp r) (g && gB clo chi st er r) := by
  refine ⟨see_vB h.va, see_vB h.vb, see_vB h.vc, h.ble, h.bmo, h.cle, h.cmo, fun hs => ?_, fun hs hg => ?_⟩
  · obtain ⟨h1, h2, h3⟩ := vSp_no hs
    obtain ⟨e1, e2, e3⟩ := h.b h1
    have hi := inR_iff.1 h3
    have hb : inR (max (oLo alo st) (r - er)) (min (ahi + st) (r + er)) st ble bmo = true := by
      rw [inR_iff]; have := h.ble; have := h.bmo; omega
    subst h1; subst e1; subst e2; subst e3
    simp [vSp, vLo, vHi, h2, hb]
  · obtain ⟨h1, h2, h3⟩ := vSp_no hs
    simp only [Bool.and_eq_true] at hg
    obtain ⟨e1, e2, e3⟩ := h.c h1 hg.1
    have hi := inR_iff.1 h3
    have hst := (vB_iff.1 h.va).1.st
    have hb : inR (max (oLo clo st) (r - er)) (min (chi + st) (r + er)) st cle cmo = true := by
      rw [inR_iff]; have := h.cle; have := h.cmo; unfold oLo at *; omega
    subst h1; subst e1
    simp only [vSp, vLo, vHi, h2, hg.2, hb]
    refine ⟨rfl, ?_, ?_⟩
    · simp; unfold oLo; omega
    · simp; omega

theorem J4.ok {st er alo ahi ale amo blo bhi ble bmo clo chi cle cmo : Int} {asp bsp csp g : Bool} (h : J4 st er alo ahi ale amo asp blo bhi ble bmo bsp clo chi cle cmo csp g) : (asp || !bsp && (!g || !csp)) = true := by
  cases asp with
  | true => rfl
  | false =>
    obtain ⟨e1, _⟩ := h.b rfl
    subst e1
    cases g with
    | false => rfl
    | true => obtain ⟨e2, _⟩ := h.c rfl rfl; subst e2; rfl

theorem loop4 {st er dlo dhi dst der : Int} {kn : Nat} {p l : Nat → Int} (hkn : kn ≤ 100) {alo ahi ale amo : Int} {asp : Bool} {blo bhi ble bmo : Int} {bsp : Bool} {clo chi cle cmo : Int} {csp : Bool} (h : J4 st er alo ahi ale amo asp blo bhi ble bmo bsp clo chi cle cmo csp true)
    {t : Tree SV} (hc : codeC t = .loop body4) (hn : Nat.ble (codeS t).next 40 = true) (h0 : Gc 40 (ups (codeS t) 40) (inv4 dlo dhi dst der kn p l (goM alo ahi st er ale amo asp) (goM blo bhi st er ble bmo bsp) (goM clo chi st er cle cmo csp) true 0))
    (hk : ∀ alo ahi ast aer ale amo asp blo bhi ble bmo bsp clo chi cle cmo csp g i, codeK t (.exit 0) (inv4 dlo dhi dst der kn p l (goM alo ahi ast aer ale amo asp) (goM blo bhi ast aer ble bmo bsp) (goM clo chi ast aer cle cmo csp) g i) = .ret (bv ((asp || !bsp && (!g || !csp)) && true))) :
    (Tree.code (codeC t) (codeS t) (codeK t)).sat Try.prog (· = bv true) := by
  refine code_sat C2_ok D2_ok (n := 200) (n0 := 40) (nx := 44) (roots := [(.slot 6, 40), (.slot 10, 41), (.slot 11, 42), (.slot 12, 43)]) (keep := [4, 5, 6, 10, 11, 12, 13, 14]) (drop := List.range 40) (h := .nil) hc hn
    (fun m s => ∃ (k : Nat) (alo ahi : Int) (asp : Bool) (blo bhi : Int) (bsp : Bool) (clo chi : Int) (csp g : Bool), m = kn - k ∧ J4 st er alo ahi ale amo asp blo bhi ble bmo bsp clo chi cle cmo csp g ∧ s = inv4 dlo dhi dst der kn p l (goM alo ahi st er ale amo asp) (goM blo bhi st er ble bmo bsp) (goM clo chi st er cle cmo csp) g k)
    (fun e s => ∃ (alo ahi : Int) (asp : Bool) (blo bhi : Int) (bsp : Bool) (clo chi : Int) (csp g : Bool) (i : Int), J4 st er alo ahi ale amo asp blo bhi ble bmo bsp clo chi cle cmo csp g ∧ e = .exit 0 ∧ s = inv4 dlo dhi dst der kn p l (goM alo ahi st er ale amo asp) (goM blo bhi st er ble bmo bsp) (goM clo chi st er cle cmo csp) g i)
    ⟨kn, _, ⟨0, _, _, _, _, _, _, _, _, _, _, rfl, h, rfl⟩, h0⟩ ?_ ?_
  · rintro m s ⟨k, alo, ahi, asp, blo, bhi, bsp, clo, chi, csp, g, rfl, J, rfl⟩
    have hb : cutT 40 [(.slot 6, 40), (.slot 10, 41), (.slot 11, 42), (.slot 12, 43)] [4, 5, 6, 10, 11, 12, 13, 14] (List.range 40) 44 .nil (exec Try.prog C2 D2 200 body4 (inv4 dlo dhi dst der kn p l (goM alo ahi st er ale amo asp) (goM blo bhi st er ble bmo bsp) (goM clo chi st er cle cmo csp) g k)) = _ :=
      B4_eq dlo dhi dst der kn p l alo ahi st er ale amo asp blo bhi ble bmo bsp clo chi cle cmo csp g k
    rw [hb]; unfold B4
    simp only [show Int.toNat (k : Int) = k from rfl]
    have oka := (vB_iff.1 J.va).1
    have okb := (vB_iff.1 J.vb).1
    have okc := (vB_iff.1 J.vc).1
    have J' := J.step (l k)
    refine ⟨fun hlt => ?_, fun _ => ⟨_, ⟨_, _, _, _, _, _, _, _, _, _, _, J, rfl, rfl⟩, Gc.refl _ _⟩⟩
    have hlt : k < kn := by simpa using hlt
    have hi : (0 : Int) ≤ k ∧ (k : Int) < kn := by omega
    refine ⟨fun hc => ?_, fun _ => ⟨fun _ => hi, fun _ => okc, hi, oka, hi, okb, hi, okc, fun hc => ?_, fun _ => ?_⟩⟩
    · have := J.ok
      simp only [Bool.and_eq_true, Bool.or_eq_true, Bool.not_eq_true'] at hc this
      rcases hc.2 with h1 | h1 <;> simp_all
    · rw [J'.va, J'.vb, J'.vc] at hc; simp at hc
    · rw [w64_of (n := (k : Int) + 1) (by omega) (by omega)]
      exact ⟨kn - (k + 1), _, by omega, ⟨k + 1, _, _, _, _, _, _, _, _, _, _, rfl, J', rfl⟩, Gc.refl _ _⟩
  · rintro e s ⟨alo, ahi, asp, blo, bhi, bsp, clo, chi, csp, g, i, J, rfl, rfl⟩
    rw [hk, J.ok]; rfl

theorem lt_if {a b : Int} : (if a < b then a else b) = min b a := by omega
theorem gt_if {a b : Int} : (if a > b then a else b) = max b a := by omega

theorem law4 {lo wi st er be ov k0 k1 k2 k3 : Int} {n : Nat} {cell : Nat → Nat → DV} (h : RawOK lo wi st er be ov n cell) (g0 : 0 ≤ k0 ∧ k0 < 256) (g1 : 0 ≤ k1 ∧ k1 < 256) (g2 : 0 ≤ k2 ∧ k2 < 256) (g3 : 0 ≤ k3 ∧ k3 < 256) :
    Law 4 [.agg [u8 lo, u8 wi, u8 st, u8 er, .d (.ro n 1 cell), u8 be, u8 ov], .agg [u8 k0, u8 k1, u8 k2, u8 k3]] := by
  refine ⟨⟨.nil, ?_⟩⟩
  show (t4 lo wi st er be ov n cell k0 k1 k2 k3).sat Try.prog (· = bv true)
  have hr := h
  obtain ⟨h1, h2, h3, h4, h5, h6, h7, h8⟩ := hr
  have hn : n ≤ 9223372036854775807 := h5
  have hok := h.ok
  have hv := h.v
  have hI := I4_eq lo wi st er be ov n cell k0 k1 k2 k3
  have c1 := C4 lo wi st er be ov n cell k0 k1 k2 k3
  have c2 := N4 lo wi st er be ov n cell k0 k1 k2 k3
  have c3 := K4_eq lo wi st er be ov n cell k0 k1 k2 k3
  have hL := L4_eq lo wi st er be ov n cell k0 k1 k2 k3
  have b1 : 1 ≤ sLo lo ∧ sLo lo ≤ sHi lo wi ∧ sHi lo wi ≤ 47 := by unfold sHi sLo; omega
  have b2 : 1 ≤ mLe lo be ∧ mLe lo be ≤ 40 := by unfold mLe sLo; omega
  have b3 : 1 ≤ mMo lo wi ov ∧ mMo lo wi ov ≤ 76 := by unfold mMo; omega
  have e0 : w64 (Int.tmod k0 9) = k0 % 9 := by rw [tmod_lit g0.1, w64_of (by omega) (by omega)]
  have e1 : w64 (Int.tmod k1 9) = k1 % 9 := by rw [tmod_lit g1.1, w64_of (by omega) (by omega)]
  have e2 : w64 (Int.tmod k2 9) = k2 % 9 := by rw [tmod_lit g2.1, w64_of (by omega) (by omega)]
  have e3 : w64 (Int.tmod k3 9) = k3 % 9 := by rw [tmod_lit g3.1, w64_of (by omega) (by omega)]
  have e4 : w64 (mLe lo be - k0 % 9) = mLe lo be - k0 % 9 := w64_of (by omega) (by omega)
  have e5 : w64 (mMo lo wi ov + k1 % 9) = mMo lo wi ov + k1 % 9 := w64_of (by omega) (by omega)
  have e6 : w64 (sLo lo + k2 % 9) = sLo lo + k2 % 9 := w64_of (by omega) (by omega)
  have e7 : w64 (sHi lo wi - k3 % 9) = sHi lo wi - k3 % 9 := w64_of (by omega) (by omega)
  unfold I4 in4 at hI
  unfold L4 at hL
  simp only [e0, e1, e2, e3, e4, e5, e6, e7, lt_if, gt_if] at hI hL
  have okA : okB (sLo lo) (sHi lo wi) (st % 6) (er % 6) (mLe lo be) (mMo lo wi ov) = true := okB_iff.2 hok
  have okW : okB (sLo lo) (sHi lo wi) (st % 6) (er % 6) (max 1 (mLe lo be - k0 % 9)) (mMo lo wi ov + k1 % 9) = true := okB_iff.2 ⟨by have := hok.le; omega, hok.lo, hok.st, hok.er⟩
  have okN : okB (min (sHi lo wi) (sLo lo + k2 % 9)) (max (min (sHi lo wi) (sLo lo + k2 % 9)) (sHi lo wi - k3 % 9)) (st % 6) (er % 6) (mLe lo be) (mMo lo wi ov) = true := okB_iff.2 ⟨hok.le, by have := hok.lo; omega, hok.st, hok.er⟩
  simp only [okA, okW, okN, zif, zerr, cond_true, Bool.true_and] at hI hL
  have vA : vB (sLo lo) (sHi lo wi) (st % 6) (er % 6) (mLe lo be) (mMo lo wi ov) (!inR (sLo lo) (sHi lo wi) (st % 6) (mLe lo be) (mMo lo wi ov)) = true := hv
  have vW : vB (sLo lo) (sHi lo wi) (st % 6) (er % 6) (max 1 (mLe lo be - k0 % 9)) (mMo lo wi ov + k1 % 9) (!inR (sLo lo) (sHi lo wi) (st % 6) (max 1 (mLe lo be - k0 % 9)) (mMo lo wi ov + k1 % 9)) = true := by
    unfold vB; rw [okW]; cases inR (sLo lo) (sHi lo wi) (st % 6) (max 1 (mLe lo be - k0 % 9)) (mMo lo wi ov + k1 % 9) <;> rfl
  have vN : vB (min (sHi lo wi) (sLo lo + k2 % 9)) (max (min (sHi lo wi) (sLo lo + k2 % 9)) (sHi lo wi - k3 % 9)) (st % 6) (er % 6) (mLe lo be) (mMo lo wi ov) (!inR (min (sHi lo wi) (sLo lo + k2 % 9)) (max (min (sHi lo wi) (sLo lo + k2 % 9)) (sHi lo wi - k3 % 9)) (st % 6) (mLe lo be) (mMo lo wi ov)) = true := by
    unfold vB; rw [okN]; cases inR (min (sHi lo wi) (sLo lo + k2 % 9)) (max (min (sHi lo wi) (sLo lo + k2 % 9)) (sHi lo wi - k3 % 9)) (st % 6) (mLe lo be) (mMo lo wi ov) <;> rfl
  rw [hL]
  refine ⟨fun h => by (cases h), fun _ => ⟨⟨h1, h2, h3, h4, hn, h6⟩, ⟨h1, h2, h3, h4, hn, h6, h7, h8⟩, by decide, by decide, by decide, by decide, by decide, by decide, by decide, by decide, by decide, by decide, by decide, by decide, fun hc => ?_, fun _ => ?_⟩⟩
  · rw [vW, vN] at hc; simp at hc
  · have hJ : J4 (st % 6) (er % 6) (sLo lo) (sHi lo wi) (mLe lo be) (mMo lo wi ov) (!inR (sLo lo) (sHi lo wi) (st % 6) (mLe lo be) (mMo lo wi ov)) (sLo lo) (sHi lo wi) (max 1 (mLe lo be - k0 % 9)) (mMo lo wi ov + k1 % 9)
        (!inR (sLo lo) (sHi lo wi) (st % 6) (max 1 (mLe lo be - k0 % 9)) (mMo lo wi ov + k1 % 9)) (min (sHi lo wi) (sLo lo + k2 % 9)) (max (min (sHi lo wi) (sLo lo + k2 % 9)) (sHi lo wi - k3 % 9)) (mLe lo be) (mMo lo wi ov)
        (!inR (min (sHi lo wi) (sLo lo + k2 % 9)) (max (min (sHi lo wi) (sLo lo + k2 % 9)) (sHi lo wi - k3 % 9)) (st % 6) (mLe lo be) (mMo lo wi ov)) true := by
      refine ⟨vA, vW, vN, by omega, by omega, rfl, rfl, fun hs => ⟨?_, rfl, rfl⟩, fun hs _ => ⟨?_, by omega, by omega⟩⟩
      · simp only [Bool.not_eq_false'] at hs ⊢
        rw [inR_iff] at hs ⊢; omega
      · simp only [Bool.not_eq_false'] at hs ⊢
        rw [inR_iff] at hs ⊢
        have := hok.st; unfold oLo at *; omega
    refine loop4 (dlo := sLo lo) (dhi := sHi lo wi) (dst := st % 6) (der := er % 6) (kn := kS n) (p := fS lo wi (st % 6) fun i => numOf (cell i 0)) (l := lS lo wi (st % 6) (er % 6) fun i => numOf (cell i 0)) (by unfold kS; omega) hJ c1 c2 ((entA_sound hI).trans (gc_sound [(40, 40), (41, 41), (42, 42), (43, 43)] [] rfl ?_ ?_)) (fun alo ahi ast aer ale amo asp blo bhi ble bmo bsp clo chi cle cmo csp g i => ?_)
    · simp [inv4, leTm, leTV, leSV, rn, iv, bv, leD, List.replicate]
    · simp [inv4, goM, leHp, leBlk, leSVs, leSV, rn, iv, bv, leD, srcOf, hget, List.replicate, ro64]
    · have := c3 (sLo lo) (sHi lo wi) (st % 6) (er % 6) (kS n) (fS lo wi (st % 6) fun i => numOf (cell i 0)) (lS lo wi (st % 6) (er % 6) fun i => numOf (cell i 0)) alo ahi ast aer ale amo asp blo bhi ble bmo bsp clo chi cle cmo csp g i
      rw [K4] at this
      exact this

end Go.Proofs.Ytcbjclmjkilphaa
