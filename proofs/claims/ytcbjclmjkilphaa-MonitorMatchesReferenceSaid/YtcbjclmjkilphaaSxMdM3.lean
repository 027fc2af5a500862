/- Part of a proof of the given statements of this seat (SxMdM3): no conditions beyond those typed here. -/
import Derived.Test.YtcbjclmjkilphaaSxMdL3
import Derived.Test.YtcbjclmjkilphaaSxMdR
set_option linter.unusedVariables false
set_option linter.unusedSimpArgs false
namespace Go.Proofs.Ytcbjclmjkilphaa
open Go.Sx
set_option maxRecDepth 100000

theorem loop3 {r : Int} {N : Nat} {lo hi st er le mo : Nat → Int} {sp : Nat → Bool} (hN : N ≤ 100) (hv : ∀ a, a < N → vB (lo a) (hi a) (st a) (er a) (le a) (mo a) (sp a) = true) {t : Tree SV} (hc : codeC t = .loop body3) (hn : Nat.ble (codeS t).next 31 = true)
    (h0 : Gc 31 (ups (codeS t) 31) (inv3 r N 0 lo hi st er le mo sp)) (hk : ∀ i, codeK t (.exit 0) (inv3 r N i lo hi st er le mo sp) = .ret (bv true)) : (Tree.code (codeC t) (codeS t) (codeK t)).sat Try.prog (· = bv true) := by
  refine code_sat C2_ok D2_ok (n := 200) (n0 := 31) (nx := 32) (roots := [(.slot 9, 31)]) (keep := [2, 6, 7, 9, 10]) (drop := List.range 31) (h := .nil) hc hn
    (fun m s => ∃ k : Nat, m = N - k ∧ s = inv3 r N k lo hi st er le mo sp) (fun e s => ∃ i, e = .exit 0 ∧ s = inv3 r N i lo hi st er le mo sp) ⟨N, _, ⟨0, rfl, rfl⟩, h0⟩ ?_ ?_
  · rintro m s ⟨k, rfl, rfl⟩
    have hb : cutT 31 [(.slot 9, 31)] [2, 6, 7, 9, 10] (List.range 31) 32 .nil (exec Try.prog C2 D2 200 body3 (inv3 r N k lo hi st er le mo sp)) = _ := B3_eq r N k lo hi st er le mo sp
    rw [hb]; unfold B3
    simp only [show Int.toNat (k : Int) = k from rfl, Nat.zero_add]
    refine ⟨fun hlt => ?_, fun _ => ⟨_, ⟨_, rfl, rfl⟩, Gc.refl _ _⟩⟩
    have hlt : k < N := by simpa using hlt
    have h := hv k hlt
    have hok := (vB_iff.1 h).1
    have sv := see_vB (r := r) h
    have mv := miss_vB h
    rw [w64_of (n := (k : Int) + 1) (by omega) (by omega)]
    simp only [beq_self_eq_true, Bool.and_self, Bool.and_true, Bool.not_true, Bool.or_self, Bool.or_false, hok, sv, mv, Tree.sat, implies_true, true_and, Bool.false_eq_true, false_implies, forall_const, and_true]
    exact ⟨⟨by omega, by omega⟩, hlt, N - (k + 1), inv3 r N ((k + 1 : Nat) : Int) lo hi st er le mo sp, by omega, ⟨k + 1, rfl, rfl⟩, Gc.refl _ _⟩
  · rintro e s ⟨i, rfl, rfl⟩
    rw [hk]; rfl

def pick4 {α : Type} (a b c d : α) : Nat → α
  | 0 => a
  | 1 => b
  | 2 => c
  | _ => d

theorem lt4 {i : Nat} (h : i < 4) : i = 0 ∨ i = 1 ∨ i = 2 ∨ i = 3 := by omega
theorem lt7 {i : Nat} (h : i < 7) : i = 0 ∨ i = 1 ∨ i = 2 ∨ i = 3 ∨ i = 4 ∨ i = 5 ∨ i = 6 := by omega

theorem law3 {lo wi st er be ov r a b c d e f : Int} {s : Bool} {n : Nat} {cell : Nat → Nat → DV} (h : RawOK lo wi st er be ov n cell) : Law 3 [.agg [u8 lo, u8 wi, u8 st, u8 er, .d (.ro n 1 cell), u8 be, u8 ov], mon a b c d e f s, iv r] := by
  refine ⟨⟨(.br .nil (.br .nil .nil)), ?_⟩⟩
  show (t3 lo wi st er be ov r n cell a b c d e f s).sat Try.prog (· = bv true)
  rw [L3_eq]; unfold L3
  have hv := h.v
  have hr := h
  obtain ⟨h1, h2, h3, h4, h5, h6, h7, h8⟩ := hr
  have hn : n ≤ 9223372036854775807 := h5
  have hok := (vB_iff.1 hv).1
  have sv := see_vB (r := r) hv
  have mv := miss_vB hv
  refine ⟨fun h => by (cases h), fun _ => ⟨⟨h1, h2, h3, h4, hn, h6, h7, h8⟩, fun hc => ?_, fun _ => ⟨hok, hok, fun hz => ⟨⟨by simp, by simp, by omega⟩, ?_⟩, fun hz => ?_⟩⟩⟩
  · rw [hv] at hc; simp at hc
  · refine loop3 (N := 4) (lo := pick4 (sLo lo) (vLo (sLo lo) (sHi lo wi) (st % 6) (er % 6) (!inR (sLo lo) (sHi lo wi) (st % 6) (mLe lo be) (mMo lo wi ov)) r) (uLo (sLo lo) (st % 6) (!inR (sLo lo) (sHi lo wi) (st % 6) (mLe lo be) (mMo lo wi ov))) a)
      (hi := pick4 (sHi lo wi) (vHi (sLo lo) (sHi lo wi) (st % 6) (er % 6) (!inR (sLo lo) (sHi lo wi) (st % 6) (mLe lo be) (mMo lo wi ov)) r) (uHi (sHi lo wi) (st % 6) (!inR (sLo lo) (sHi lo wi) (st % 6) (mLe lo be) (mMo lo wi ov))) b)
      (st := pick4 (st % 6) (st % 6) (st % 6) c) (er := pick4 (er % 6) (er % 6) (er % 6) d) (le := pick4 (mLe lo be) (mLe lo be) (mLe lo be) e) (mo := pick4 (mMo lo wi ov) (mMo lo wi ov) (mMo lo wi ov) f)
      (sp := pick4 (!inR (sLo lo) (sHi lo wi) (st % 6) (mLe lo be) (mMo lo wi ov)) (vSp (sLo lo) (sHi lo wi) (st % 6) (er % 6) (mLe lo be) (mMo lo wi ov) (!inR (sLo lo) (sHi lo wi) (st % 6) (mLe lo be) (mMo lo wi ov)) r) (uSp (sLo lo) (sHi lo wi) (st % 6) (mLe lo be) (mMo lo wi ov) (!inR (sLo lo) (sHi lo wi) (st % 6) (mLe lo be) (mMo lo wi ov))) s)
      (by omega) (fun a ha => ?_) (C3a ..) (N3a ..) ?_ (fun i => K3a ..)
    · rcases lt4 ha with rfl | rfl | rfl | rfl
      · exact hv
      · exact sv
      · exact mv
      · exact hz
    · have := I3a_eq lo wi st er be ov r n cell a b c d e f s
      unfold I3a in3 at this
      refine (entA_sound this).trans (gc_sound [(31, 31)] [] rfl ?_ ?_)
      · simp [inv3, leTm, leTV, leSV, rn, iv, bv, leD, List.replicate]
      · simp only [inv3, leHp, leBlk, srcOf, hget, List.replicate, List.cons_append, List.nil_append]
        refine ⟨⟨rfl, rfl, fun i j hi hj => ?_⟩, trivial⟩
        rcases lt4 hi with rfl | rfl | rfl | rfl <;> rcases lt7 hj with rfl | rfl | rfl | rfl | rfl | rfl | rfl <;> rfl
  · refine loop3 (N := 3) (lo := pick4 (sLo lo) (vLo (sLo lo) (sHi lo wi) (st % 6) (er % 6) (!inR (sLo lo) (sHi lo wi) (st % 6) (mLe lo be) (mMo lo wi ov)) r) (uLo (sLo lo) (st % 6) (!inR (sLo lo) (sHi lo wi) (st % 6) (mLe lo be) (mMo lo wi ov))) a)
      (hi := pick4 (sHi lo wi) (vHi (sLo lo) (sHi lo wi) (st % 6) (er % 6) (!inR (sLo lo) (sHi lo wi) (st % 6) (mLe lo be) (mMo lo wi ov)) r) (uHi (sHi lo wi) (st % 6) (!inR (sLo lo) (sHi lo wi) (st % 6) (mLe lo be) (mMo lo wi ov))) b)
      (st := pick4 (st % 6) (st % 6) (st % 6) c) (er := pick4 (er % 6) (er % 6) (er % 6) d) (le := pick4 (mLe lo be) (mLe lo be) (mLe lo be) e) (mo := pick4 (mMo lo wi ov) (mMo lo wi ov) (mMo lo wi ov) f)
      (sp := pick4 (!inR (sLo lo) (sHi lo wi) (st % 6) (mLe lo be) (mMo lo wi ov)) (vSp (sLo lo) (sHi lo wi) (st % 6) (er % 6) (mLe lo be) (mMo lo wi ov) (!inR (sLo lo) (sHi lo wi) (st % 6) (mLe lo be) (mMo lo wi ov)) r) (uSp (sLo lo) (sHi lo wi) (st % 6) (mLe lo be) (mMo lo wi ov) (!inR (sLo lo) (sHi lo wi) (st % 6) (mLe lo be) (mMo lo wi ov))) s)
      (by omega) (fun a ha => ?_) (C3b ..) (N3b ..) ?_ (fun i => K3b ..)
    · rcases lt4 (i := a) (by omega) with rfl | rfl | rfl | rfl
      · exact hv
      · exact sv
      · exact mv
      · omega
    · have := I3b_eq lo wi st er be ov r n cell a b c d e f s
      unfold I3b in3 at this
      refine (entA_sound this).trans (gc_sound [(31, 31)] [] rfl ?_ ?_)
      · simp [inv3, leTm, leTV, leSV, rn, iv, bv, leD, List.replicate]
      · simp only [inv3, leHp, leBlk, srcOf, hget, List.replicate, List.cons_append, List.nil_append]
        refine ⟨⟨rfl, fun i j hi hj => ?_⟩, trivial⟩
        rcases lt4 (i := i) (by omega) with rfl | rfl | rfl | rfl <;> rcases lt7 hj with rfl | rfl | rfl | rfl | rfl | rfl | rfl <;> first | rfl | omega

end Go.Proofs.Ytcbjclmjkilphaa
