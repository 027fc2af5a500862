/- Part of a proof of the given statements of this seat (SxRoB, SxRoC, SxRoD, SxRoE, SxRpA, SxRpB, SxRpC, SxRpD, SxRpE, SxRpF, SxRpG, SxRpH, SxFmRc, SxFmRd, SxFmRe, SxFmRf, SxFmRg, SxFmRh, SxFmRi, SxFmRj, SxFmRk, SxFmRl): no conditions beyond those typed here. -/
import Derived.Test.YtpaejfeojdoikaaSw08
import Derived.Test.YtpaejfeojdoikaaSw04
import Derived.Test.YtpaejfeojdoikaaSw06
set_option linter.unusedVariables false
set_option linter.unusedSimpArgs false
set_option linter.unusedSectionVars false
set_option linter.constructorNameAsVariable false

namespace Go.Sx
def shR (a b : FsT) : Prop := a.n = b.n ∧ ∀ k, k < a.n → (a.f k).n = (b.f k).n
def shQ (n : Nat) (x : Nat → FsT) (m : Nat) (y : Nat → FsT) : Prop := n = m ∧ ∀ i, i < n → shR (x i) (y i)
end Go.Sx
namespace Go.Proofs.Ytpaejfeojdoikaa.Rm
open Go.Sx
set_option maxRecDepth 100000
section
variable {n : Nat} {x : Nat → FsT} {y : Nat → FsT}
theorem sh2_sat (hn : n ≤ 1000000000) (hx : ∀ i, i < n → (x i).n ≤ 4) {i : Nat} (hi : i < n) (h0 : (x i).n = (y i).n) (T : Tree (Ex × AS)) (hT : T = atCode (sub [0, 0, 0, 1] (bH1 n x n y false i))) :
    Sat Try.prog T fun r => (shR (x i) (y i) ∧ r.1 = .normal ∧ r.2 = stH1 n x n y false ((i + 1 : Nat) : Int)) ∨ (¬shR (x i) (y i) ∧ r.1 = .ret ∧ r.2 = stH1 n x n y false i) := by
  refine Sat.of_eq hT ⟨?_⟩
  refine code_satS C00_ok D00_ok (n := 200) (n0 := 11) (nx := 11) (roots := []) (keep := [0, 1, 4, 5, 6]) (drop := [0, 1, 2, 3, 4, 5, 6, 7, 8, 9, 10]) (h := .nil) (c := codeC (sub [0, 0, 0, 1] (bH1 n x n y false i))) (st := codeS (sub [0, 0, 0, 1] (bH1 n x n y false i))) (k := codeK (sub [0, 0, 0, 1] (bH1 n x n y false i))) (body := bodyH2) (by kernel_rfl) (by kernel_rfl)
    (fun q t => ∃ k : Nat, q = (x i).n - k ∧ k ≤ (x i).n ∧ (∀ j, j < k → ((x i).f j).n = ((y i).f j).n) ∧ t = stH2 n x n y false i k)
    (fun e t => (e = .exit 2 ∧ shR (x i) (y i) ∧ ∃ k, t = stH2 n x n y false i k) ∨ (e = .ret ∧ ¬shR (x i) (y i) ∧ ∃ k, t = stH2 n x n y false i k))
    ⟨_, _, ⟨0, rfl, by omega, fun k hk => by omega, rfl⟩, ?_⟩ ?_ ?_
  · exact entA_sound (s' := stH2 n x n y false i 0) (roots := []) (keep := [0, 1, 4, 5, 6]) (drop := [0, 1, 2, 3, 4, 5, 6, 7, 8, 9, 10]) (nx := 11) (h := .nil) (by kernel_rfl)
  · rintro q t ⟨k, rfl, hk, hj, rfl⟩
    have h4 := hx i hi
    refine Sat.of_eq (BH2_eq n x n y false i k) ⟨?_⟩
    unfold BH2
    rw [Int.toNat_natCast, Int.toNat_natCast]
    refine ⟨by omega, fun h1 => ?_, fun h1 => ?_⟩
    · simp only [decide_eq_true_eq] at h1
      rw [w64_of (n := (k : Int) + 1) (by omega) (by omega)]
      refine ⟨by omega, by omega, by omega, by omega, fun h2 => ?_, fun h2 => ?_⟩
      · rw [bne_iff_ne] at h2
        exact ⟨_, .inr ⟨rfl, fun h3 => h2 (by rw [h3.2 k (by omega)]), _, rfl⟩, Gc.refl _ _⟩
      · rw [bne_eq_false_iff_eq] at h2
        refine ⟨(x i).n - (k + 1), _, by omega, ⟨k + 1, rfl, by omega, fun j hj' => ?_, rfl⟩, Gc.refl _ _⟩
        by_cases hki : j = k
        · subst hki; omega
        · exact hj j (by omega)
    · simp only [decide_eq_false_iff_not] at h1
      exact ⟨_, .inl ⟨rfl, ⟨h0, fun j hj' => hj j (by omega)⟩, _, rfl⟩, Gc.refl _ _⟩
  · rintro e t (⟨rfl, he, k, rfl⟩ | ⟨rfl, he, k, rfl⟩)
    · refine Sat.of_eq (KH2a_eq n x n y false false i i k) ⟨.inl ⟨he, rfl, ?_⟩⟩
      rw [w64_of (n := (i : Int) + 1) (by omega) (by omega)]; rfl
    · exact Sat.of_eq (KH2b_eq n x n y false false i i k) ⟨.inr ⟨he, rfl, rfl⟩⟩
open Classical in
theorem sh_sat {m : Nat} (hn : n ≤ 1000000000) (hx : ∀ i, i < n → (x i).n ≤ 4) : Sat Try.prog (tSh n x m y) (· = bv (decide (shQ n x m y))) := by
  refine Sat.of_eq (LSh_eq n x m y) ⟨?_⟩
  unfold LSh
  refine ⟨fun h => ?_, fun h => ?_⟩
  · rw [bne_iff_ne] at h
    rw [decide_eq_false (fun h2 => h (by rw [h2.1]))]
    rfl
  rw [bne_eq_false_iff_eq] at h
  obtain rfl : n = m := by omega
  refine code_satS C00_ok D00_ok (n := 200) (n0 := 0) (nx := 0) (roots := []) (keep := [0, 1, 4, 5]) (drop := []) (h := .nil) (c := codeC (sub [1] (tSh n x n y))) (st := codeS (sub [1] (tSh n x n y))) (k := codeK (sub [1] (tSh n x n y))) (body := bodyH1) (by kernel_rfl) (by kernel_rfl)
    (fun q t => ∃ i : Nat, q = n - i ∧ i ≤ n ∧ (∀ k, k < i → shR (x k) (y k)) ∧ t = stH1 n x n y false i)
    (fun e t => (e = .exit 0 ∧ decide (shQ n x n y) = true ∧ ∃ i, t = stH1 n x n y false i) ∨ (e = .ret ∧ decide (shQ n x n y) = false ∧ ∃ i, t = stH1 n x n y false i))
    ⟨_, _, ⟨0, rfl, by omega, fun k hk => by omega, rfl⟩, ?_⟩ ?_ ?_
  · exact entA_sound (s' := stH1 n x n y false 0) (roots := []) (keep := [0, 1, 4, 5]) (drop := []) (nx := 0) (h := .nil) (by kernel_rfl)
  · rintro q t ⟨i, rfl, hi, hk, rfl⟩
    refine Sat.of_eq (BH1_eq n x n y false i) ⟨?_⟩
    unfold BH1
    rw [Int.toNat_natCast]
    refine ⟨fun h1 => ?_, fun h1 => ?_⟩
    · simp only [decide_eq_true_eq] at h1
      have hlt : i < n := by omega
      refine ⟨by omega, by omega, fun h2 => ?_, fun h2 => ?_⟩
      · rw [bne_iff_ne] at h2
        exact ⟨_, .inr ⟨rfl, decide_eq_false (fun h3 => h2 (by rw [(h3.2 i hlt).1])), _, rfl⟩, Gc.refl _ _⟩
      · rw [bne_eq_false_iff_eq] at h2
        have k0 := sh2_sat (x := x) (y := y) hn hx hlt (by omega) _ rfl
        generalize atCode (sub [0, 0, 0, 1] (bH1 n x n y false i)) = T at k0 ⊢
        refine Tree.sat_mono (fun r hr => ?_) k0.ok
        obtain ⟨ex, st⟩ := r
        rcases hr with ⟨e5, e6, e7⟩ | ⟨e5, e6, e7⟩
        · obtain rfl : ex = .normal := e6
          obtain rfl : st = stH1 n x n y false ((i + 1 : Nat) : Int) := e7
          refine ⟨n - (i + 1), _, by omega, ⟨i + 1, rfl, by omega, fun k hk' => ?_, rfl⟩, Gc.refl _ _⟩
          by_cases hki : k = i
          · subst hki; exact e5
          · exact hk k (by omega)
        · obtain rfl : ex = .ret := e6
          obtain rfl : st = stH1 n x n y false i := e7
          exact ⟨_, .inr ⟨rfl, decide_eq_false (fun h3 => e5 (h3.2 i hlt)), _, rfl⟩, Gc.refl _ _⟩
    · simp only [decide_eq_false_iff_not] at h1
      obtain rfl : i = n := by omega
      exact ⟨_, .inl ⟨rfl, decide_eq_true ⟨rfl, hk⟩, _, rfl⟩, Gc.refl _ _⟩
  · rintro e t (⟨rfl, he, i, rfl⟩ | ⟨rfl, he, i, rfl⟩)
    · exact Sat.of_eq (KH1a_eq n x n y false i) ⟨by rw [he]; rfl⟩
    · exact Sat.of_eq (KH1b_eq n x n y false i) ⟨by rw [he]; rfl⟩
end
end Go.Proofs.Ytpaejfeojdoikaa.Rm
namespace Go.Proofs.Ytpaejfeojdoikaa.Rm
open Go.Sx
set_option maxRecDepth 100000
open Classical in
noncomputable def cSh : Ctr := fun ss => match ss with
  | [.d (.ro n 1 A), .d (.ro m 1 B)] => .need ((n ≤ 1000000000 ∧ SsD n A) ∧ SsD m B) (.ret (bv (decide (shQ n (fun i => fsOf (A i)) m (fun i => fsOf (B i))))))
  | _ => .fail
theorem cSh_ok : CtrOK Try.prog 129 cSh := ctrOK_leS C00_ok D00_ok (by kernel_rfl) (by kernel_rfl) fun ss r h => by
  unfold cSh at h
  split at h
  · rename_i n A m B
    obtain ⟨⟨⟨hn, h1⟩, h2⟩, rfl⟩ := h
    refine ⟨[ssS n fun i => fsOf (A i), ssS m fun i => fsOf (B i)], 200, .nil, ?_, sh_sat hn fun i hi => (h1 i hi).1.n⟩
    unfold ssS
    simp only [leSVs, leSV, leD, and_true, true_and]
    refine ⟨fun i j hi hj => ?_, fun i j hi hj => ?_⟩
    · obtain rfl : j = 0 := by omega
      exact (h1 i hi).2
    · obtain rfl : j = 0 := by omega
      exact (h2 i hi).2
  · exact h.elim
noncomputable def manE : FuncId → Option Ctr := fun k => match k with
  | 129 => some cSh
  | 130 => some cSq
  | _ => none
theorem manE_ok (k : Nat) (c : Ctr) (hk : manE k = some c) : CtrOK Try.prog k c ∧ goodF Try.prog k = true := by
  unfold manE at hk
  split at hk
  · cases hk; exact ⟨cSh_ok, by kernel_rfl⟩
  · cases hk; exact ⟨cSq_ok, by kernel_rfl⟩
  · cases hk
noncomputable def CEq : Ctx := ctxN Try.prog manE (fun _ => false) 200 .nil 6
theorem CEq_ok : CtxOK Try.prog CEq := ctxN_ok mixed manE_ok 6
noncomputable def DEq : Dr := drawnL Try.prog CEq
theorem DEq_ok : DrOK Try.prog CEq DEq := drawnL_ok CEq_ok mixed
section
variable (n : Nat) (x : Nat → FsT) (m : Nat) (y : Nat → FsT)
noncomputable def tEl : Tree SV := fnT Try.prog CEq DEq 200 (fnOf Try.prog 54) (bodyOf Try.prog 54) [ssS n x, ssS m y] .nil
theorem LEl_eq : tEl n x m y = .need ((n ≤ 1000000000 ∧ SsD n fun i j => fsC (x i) j) ∧ SsD m fun i j => fsC (y i) j) (.ite (!(@decide (shQ n x m y) (Classical.propDecidable _))) (.ret (bv false)) (atCode (sub [0, 1] (tEl n x m y)))) := by kernel_rfl
end
end Go.Proofs.Ytpaejfeojdoikaa.Rm
namespace Go.Proofs.Ytpaejfeojdoikaa.Rm
open Go.Sx
set_option maxRecDepth 100000
section
variable (n : Nat) (x : Nat → FsT) (m : Nat) (y : Nat → FsT)
noncomputable def slK (l : List (Nat × SV)) : List TV := (List.range 44).map fun k => match l.find? (fun e => Nat.beq e.1 k) with | some e => .ok e.2 | none => .unk
noncomputable def stK1 (r : Bool) (i : Int) : AS := ⟨slK [(0, ssS n x), (1, ssS m y), (4, bv r), (5, iv i)], [], 0, .nil⟩
noncomputable def bodyK1 : Code := loopN (bodyOf Try.prog 54) 0
noncomputable def bodyK2 : Code := loopN (bodyOf Try.prog 54) 1
noncomputable def bK1 (r : Bool) (i : Int) : Tree (Ex × AS) := cutT 0 [] [0, 1, 4, 5] [] 0 .nil (exec Try.prog CEq DEq 200 bodyK1 (stK1 n x m y r i))
noncomputable def stK2 (r : Bool) (i k : Int) : AS := ⟨slK [(0, ssS n x), (1, ssS m y), (4, bv r), (5, iv i), (6, iv k)], [], 0, .nil⟩
theorem BK1_eq (r : Bool) (i : Int) : bK1 n x m y r i = .ite (decide (i < (n : Int))) (atCode (sub [0] (bK1 n x m y r i))) (.ret (.exit 0, stK1 n x m y r i)) := by kernel_rfl
noncomputable def wR (f : FrT) : Nat → Nat → Sx.DV := fun j _ => .x (.int .u64 (f.w j))
noncomputable def BK2 (r : Bool) (i k : Int) : Tree (Ex × AS) :=
  .need (0 ≤ i ∧ i < (n : Int)) (.ite (decide (k < ((x i.toNat).n : Int)))
    (.need (0 ≤ i ∧ i < (n : Int)) (.need (0 ≤ k ∧ k < ((x i.toNat).n : Int)) (.need (0 ≤ i ∧ i < (m : Int)) (.need (0 ≤ k ∧ k < ((y i.toNat).n : Int))
      (.need (UrD ((x i.toNat).f k.toNat).n (wR ((x i.toNat).f k.toNat)) ∧ UrD ((y i.toNat).f k.toNat).n (wR ((y i.toNat).f k.toNat)))
      (.ite (!(@decide (smQ ((x i.toNat).f k.toNat).n ((x i.toNat).f k.toNat).w ((y i.toNat).f k.toNat).n ((y i.toNat).f k.toNat).w) (Classical.propDecidable _))) (.ret (.ret, stK2 n x m y false i k)) (.ret (.normal, stK2 n x m y r i (w64 (k + 1))))))))))
    (.ret (.exit 2, stK2 n x m y r i k)))
theorem BK2_eq (r : Bool) (i k : Int) : cutT 0 [] [0, 1, 4, 5, 6] [] 0 .nil (exec Try.prog CEq DEq 200 bodyK2 (stK2 n x m y r i k)) = BK2 n x m y r i k := by kernel_rfl
theorem KK2a_eq (r0 r : Bool) (i0 i k : Int) : codeK (sub [0] (bK1 n x m y r0 i0)) (.exit 2) (stK2 n x m y r i k) = .ret (.normal, stK1 n x m y r (w64 (i + 1))) := by kernel_rfl
theorem KK2b_eq (r0 r : Bool) (i0 i k : Int) : codeK (sub [0] (bK1 n x m y r0 i0)) .ret (stK2 n x m y r i k) = .ret (.ret, stK1 n x m y r i) := by kernel_rfl
theorem KK1a_eq (r : Bool) (i : Int) : codeK (sub [0, 1] (tEl n x m y)) (.exit 0) (stK1 n x m y r i) = .ret (bv true) := by kernel_rfl
theorem KK1b_eq (r : Bool) (i : Int) : codeK (sub [0, 1] (tEl n x m y)) .ret (stK1 n x m y r i) = .ret (bv r) := by kernel_rfl
end
end Go.Proofs.Ytpaejfeojdoikaa.Rm
namespace Go.Sx
def elR (a b : FsT) : Prop := ∀ k, k < a.n → smQ (a.f k).n (a.f k).w (b.f k).n (b.f k).w
def elQ (n : Nat) (x : Nat → FsT) (m : Nat) (y : Nat → FsT) : Prop := shQ n x m y ∧ ∀ i, i < n → elR (x i) (y i)
end Go.Sx
namespace Go.Proofs.Ytpaejfeojdoikaa.Rm
open Go.Sx
set_option maxRecDepth 100000
section
variable {n : Nat} {x : Nat → FsT} {y : Nat → FsT}
theorem urD_w {f : FrT} (h : f.n ≤ 1000000000) : UrD f.n (wR f) := ⟨h, fun i hi => rfl⟩
open Classical in
theorem el2_sat (hn : n ≤ 1000000000) (hx : ∀ i, i < n → FsOK (x i)) (hy : ∀ i, i < n → FsOK (y i)) {i : Nat} (hi : i < n) (h0 : shR (x i) (y i)) (T : Tree (Ex × AS)) (hT : T = atCode (sub [0] (bK1 n x n y false i))) :
    Sat Try.prog T fun r => (elR (x i) (y i) ∧ r.1 = .normal ∧ r.2 = stK1 n x n y false ((i + 1 : Nat) : Int)) ∨ (¬elR (x i) (y i) ∧ r.1 = .ret ∧ r.2 = stK1 n x n y false i) := by
  refine Sat.of_eq hT ⟨?_⟩
  refine code_satS CEq_ok DEq_ok (n := 200) (n0 := 0) (nx := 0) (roots := []) (keep := [0, 1, 4, 5, 6]) (drop := []) (h := .nil) (c := codeC (sub [0] (bK1 n x n y false i))) (st := codeS (sub [0] (bK1 n x n y false i))) (k := codeK (sub [0] (bK1 n x n y false i))) (body := bodyK2) (by kernel_rfl) (by kernel_rfl)
    (fun q t => ∃ k : Nat, q = (x i).n - k ∧ k ≤ (x i).n ∧ (∀ j, j < k → smQ ((x i).f j).n ((x i).f j).w ((y i).f j).n ((y i).f j).w) ∧ t = stK2 n x n y false i k)
    (fun e t => (e = .exit 2 ∧ elR (x i) (y i) ∧ ∃ k, t = stK2 n x n y false i k) ∨ (e = .ret ∧ ¬elR (x i) (y i) ∧ ∃ k, t = stK2 n x n y false i k))
    ⟨_, _, ⟨0, rfl, by omega, fun k hk => by omega, rfl⟩, ?_⟩ ?_ ?_
  · exact entA_sound (s' := stK2 n x n y false i 0) (roots := []) (keep := [0, 1, 4, 5, 6]) (drop := []) (nx := 0) (h := .nil) (by kernel_rfl)
  · rintro q t ⟨k, rfl, hk, hj, rfl⟩
    have h4 := (hx i hi).n
    have h5 := h0.1
    refine Sat.of_eq (BK2_eq n x n y false i k) ⟨?_⟩
    unfold BK2
    rw [Int.toNat_natCast, Int.toNat_natCast]
    refine ⟨by omega, fun h1 => ?_, fun h1 => ?_⟩
    · simp only [decide_eq_true_eq] at h1
      rw [w64_of (n := (k : Int) + 1) (by omega) (by omega)]
      refine ⟨by omega, by omega, by omega, by omega, ⟨urD_w ((hx i hi).w k (by omega)), urD_w ((hy i hi).w k (by omega))⟩, fun h2 => ?_, fun h2 => ?_⟩
      · rw [Bool.not_eq_true', decide_eq_false_iff_not] at h2
        exact ⟨_, .inr ⟨rfl, fun h3 => h2 (h3 k (by omega)), _, rfl⟩, Gc.refl _ _⟩
      · rw [Bool.not_eq_false', decide_eq_true_eq] at h2
        refine ⟨(x i).n - (k + 1), _, by omega, ⟨k + 1, rfl, by omega, fun j hj' => ?_, rfl⟩, Gc.refl _ _⟩
        by_cases hki : j = k
        · subst hki; exact h2
        · exact hj j (by omega)
    · simp only [decide_eq_false_iff_not] at h1
      exact ⟨_, .inl ⟨rfl, fun j hj' => hj j (by omega), _, rfl⟩, Gc.refl _ _⟩
  · rintro e t (⟨rfl, he, k, rfl⟩ | ⟨rfl, he, k, rfl⟩)
    · refine Sat.of_eq (KK2a_eq n x n y false false i i k) ⟨.inl ⟨he, rfl, ?_⟩⟩
      rw [w64_of (n := (i : Int) + 1) (by omega) (by omega)]; rfl
    · exact Sat.of_eq (KK2b_eq n x n y false false i i k) ⟨.inr ⟨he, rfl, rfl⟩⟩
open Classical in
theorem el_sat {m : Nat} (hn : n ≤ 1000000000) (hx : ∀ i, i < n → FsOK (x i)) (hy : ∀ i, i < m → FsOK (y i)) : Sat Try.prog (tEl n x m y) (· = bv (decide (elQ n x m y))) := by
  refine Sat.of_eq (LEl_eq n x m y) ⟨?_⟩
  refine ⟨⟨⟨hn, fun i hi => ⟨hx i hi, rfl⟩⟩, fun i hi => ⟨hy i hi, rfl⟩⟩, fun h => ?_, fun h => ?_⟩
  · rw [Bool.not_eq_true', decide_eq_false_iff_not] at h
    rw [decide_eq_false (fun h2 => h h2.1)]
    rfl
  rw [Bool.not_eq_false', decide_eq_true_eq] at h
  have hnm := h.1
  subst hnm
  refine code_satS CEq_ok DEq_ok (n := 200) (n0 := 0) (nx := 0) (roots := []) (keep := [0, 1, 4, 5]) (drop := []) (h := .nil) (c := codeC (sub [0, 1] (tEl n x n y))) (st := codeS (sub [0, 1] (tEl n x n y))) (k := codeK (sub [0, 1] (tEl n x n y))) (body := bodyK1) (by kernel_rfl) (by kernel_rfl)
    (fun q t => ∃ i : Nat, q = n - i ∧ i ≤ n ∧ (∀ k, k < i → elR (x k) (y k)) ∧ t = stK1 n x n y false i)
    (fun e t => (e = .exit 0 ∧ decide (elQ n x n y) = true ∧ ∃ i, t = stK1 n x n y false i) ∨ (e = .ret ∧ decide (elQ n x n y) = false ∧ ∃ i, t = stK1 n x n y false i))
    ⟨_, _, ⟨0, rfl, by omega, fun k hk => by omega, rfl⟩, ?_⟩ ?_ ?_
  · exact entA_sound (s' := stK1 n x n y false 0) (roots := []) (keep := [0, 1, 4, 5]) (drop := []) (nx := 0) (h := .nil) (by kernel_rfl)
  · rintro q t ⟨i, rfl, hi, hk, rfl⟩
    refine Sat.of_eq (BK1_eq n x n y false i) ⟨?_⟩
    refine ⟨fun h1 => ?_, fun h1 => ?_⟩
    · simp only [decide_eq_true_eq] at h1
      have hlt : i < n := by omega
      have k0 := el2_sat (x := x) (y := y) hn hx hy hlt (h.2 i hlt) _ rfl
      generalize atCode (sub [0] (bK1 n x n y false i)) = T at k0 ⊢
      refine Tree.sat_mono (fun r hr => ?_) k0.ok
      obtain ⟨ex, st⟩ := r
      rcases hr with ⟨e5, e6, e7⟩ | ⟨e5, e6, e7⟩
      · obtain rfl : ex = .normal := e6
        obtain rfl : st = stK1 n x n y false ((i + 1 : Nat) : Int) := e7
        refine ⟨n - (i + 1), _, by omega, ⟨i + 1, rfl, by omega, fun k hk' => ?_, rfl⟩, Gc.refl _ _⟩
        by_cases hki : k = i
        · subst hki; exact e5
        · exact hk k (by omega)
      · obtain rfl : ex = .ret := e6
        obtain rfl : st = stK1 n x n y false i := e7
        exact ⟨_, .inr ⟨rfl, decide_eq_false (fun h3 => e5 (h3.2 i hlt)), _, rfl⟩, Gc.refl _ _⟩
    · simp only [decide_eq_false_iff_not] at h1
      obtain rfl : i = n := by omega
      exact ⟨_, .inl ⟨rfl, decide_eq_true ⟨h, hk⟩, _, rfl⟩, Gc.refl _ _⟩
  · rintro e t (⟨rfl, he, i, rfl⟩ | ⟨rfl, he, i, rfl⟩)
    · exact Sat.of_eq (KK1a_eq n x n y false i) ⟨by rw [he]; rfl⟩
    · exact Sat.of_eq (KK1b_eq n x n y false i) ⟨by rw [he]; rfl⟩
end
open Classical in
noncomputable def cEl : Ctr := fun ss => match ss with
  | [.d (.ro n 1 A), .d (.ro m 1 B)] => .need ((n ≤ 1000000000 ∧ SsD n A) ∧ SsD m B) (.ret (bv (decide (elQ n (fun i => fsOf (A i)) m (fun i => fsOf (B i))))))
  | _ => .fail
theorem cEl_ok : CtrOK Try.prog 54 cEl := ctrOK_leS CEq_ok DEq_ok (by kernel_rfl) (by kernel_rfl) fun ss r h => by
  unfold cEl at h
  split at h
  · rename_i n A m B
    obtain ⟨⟨⟨hn, h1⟩, h2⟩, rfl⟩ := h
    refine ⟨[ssS n fun i => fsOf (A i), ssS m fun i => fsOf (B i)], 200, .nil, ?_, el_sat hn (fun i hi => (h1 i hi).1) fun i hi => (h2 i hi).1⟩
    unfold ssS
    simp only [leSVs, leSV, leD, and_true, true_and]
    refine ⟨fun i j hi hj => ?_, fun i j hi hj => ?_⟩
    · obtain rfl : j = 0 := by omega
      exact (h1 i hi).2
    · obtain rfl : j = 0 := by omega
      exact (h2 i hi).2
  · exact h.elim
end Go.Proofs.Ytpaejfeojdoikaa.Rm
namespace Go.Sx
def stopAt (k : Nat) : Nat → Bool := fun id => Nat.beq id k
def leafS : Tree AS → AS
  | .ret s => s
  | .need _ t => leafS t
  | _ => ⟨[], [], 0, .nil⟩
def exF (n : Nat → Nat) (a : Nat → Option Addr) (c : Nat → Nat) : Nat → Nat → DV := fun k _ => .x (.slice (a k) (n k) (c k))
def exS (m : Nat → Nat) (n : Nat → Nat → Nat) (A : Nat → Nat → Option Addr) (C : Nat → Nat → Nat) : Nat → Nat → DV := fun p _ => .ro (m p) 1 (exF (n p) (A p) (C p))
def opsOf : Code → Array Oper
  | .region _ ops _ => ops
  | _ => #[]
def regIn (id : Nat) : Code → List Code
  | .seq a b => regIn id a ++ regIn id b
  | .cond _ a b => regIn id a ++ regIn id b
  | .block _ a => regIn id a
  | .loop a => regIn id a
  | .scope a => regIn id a
  | .region k ops d => if Nat.beq k id then [.region k ops d] else []
  | _ => []
def regAt (id : Nat) (c : Code) : Code := (regIn id c).headD .skip
end Go.Sx
namespace Go.Proofs.Ytpaejfeojdoikaa.Rw
open Go.Proofs.Ytpaejfeojdoikaa.Rm
open Go.Sx
set_option maxRecDepth 100000
theorem d00_drawn : DrOK Try.prog C00 (fun _ => drawn Try.prog C00) := drawn_ok C00_ok mixed
noncomputable def tCp (n : Nat) (x : Nat → FsT) : Tree SV := fnTG Try.prog C00 (stopAt 9) 200 (fnOf Try.prog 128) (bodyOf Try.prog 128) [ssS n x] .nil
noncomputable def bodyP1 : Code := loopN (bodyOf Try.prog 128) 0
noncomputable def bodyP2 : Code := loopN (bodyOf Try.prog 128) 1
noncomputable def slY (l : List (Nat × SV)) : List TV := (List.range 43).map fun k => match l.find? (fun e => Nat.beq e.1 k) with | some e => .ok e.2 | none => .unk
section
variable (n : Nat) (x : Nat → FsT) (m : Nat) (c : Nat → Nat → Sx.DV) (i : Int)
noncomputable def stP1 : AS := ⟨slY [(0, ssS n x), (3, .row 1 0 0 m 1), (4, iv i)], [none, some (.row m 1 c)], 2, .nil⟩
noncomputable def bP1 : Tree (Ex × AS) := cutT 1 [(.slot 3, 1)] [0, 3, 4] [0] 2 .nil (execG Try.prog C00 (stopAt 9) 200 bodyP1 (stP1 n x m c i))
noncomputable def BP1 : Tree (Ex × AS) := .ite (decide (i < (n : Int))) (atCode (sub [0] (bP1 n x m c i))) (.ret (.exit 0, stP1 n x m c i))
theorem BP1_eq : bP1 n x m c i = BP1 n x m c i := by kernel_rfl
theorem LCp_eq : tCp n x = atCode (sub [] (tCp n x)) := by kernel_rfl
variable (q : Nat) (d : Nat → Nat → Sx.DV) (k : Int)
noncomputable def stP2 : AS := ⟨slY [(0, ssS n x), (3, .row 1 0 0 m 1), (4, iv i), (5, .row 3 0 0 q 1), (6, iv k)], [none, some (.row m 1 c), none, some (.row q 1 d)], 4, .nil⟩
noncomputable def bP2 : Tree (Ex × AS) := cutT 3 [(.slot 5, 3)] [0, 3, 4, 5, 6] [2] 4 .nil (execG Try.prog C00 (stopAt 9) 200 bodyP2 (stP2 n x m c i q d k))
noncomputable def BP2 : Tree (Ex × AS) := .need (0 ≤ i ∧ i < (n : Int)) (.ite (decide (k < ((x i.toNat).n : Int))) (atCode (sub [0, 0] (bP2 n x m c i q d k))) (.ret (.exit 2, stP2 n x m c i q d k)))
theorem BP2_eq : bP2 n x m c i q d k = BP2 n x m c i q d k := by kernel_rfl
noncomputable def rg9 : Code := regAt 9 (bodyOf Try.prog 128)
noncomputable def pre9 : List Oper := (opsOf rg9).toList.take 11
noncomputable def suf9 : List Oper := (opsOf rg9).toList.drop 11
theorem rg9_eq : codeC (sub [0, 0] (bP2 n x m c i q d k)) = rg9 := by kernel_rfl
noncomputable def sg9 : AS := codeS (sub [0, 0] (bP2 n x m c i q d k))
noncomputable def tp9 : Tree AS := runOps Try.prog C00 inlNo (opsOf rg9) pre9 (sg9 n x m c i q d k)
noncomputable def sh9 : AS := leafS (tp9 n x m c i q d k)
theorem TP9_eq : tp9 n x m c i q d k = .need (0 ≤ i ∧ i < (n : Int)) (.need (0 ≤ k ∧ k < ((x i.toNat).n : Int)) (.need ((0 : Nat) ≤ 0 ∧ True ∧ (0 + ((x i.toNat).f k.toNat).n) * 8 ≤ 140737488355328) (.ret (sh9 n x m c i q d k)))) := by kernel_rfl
theorem sh9_34 : tget (sh9 n x m c i q d k).tm 34 = .ok (.row 5 0 0 (0 + ((x i.toNat).f k.toNat).n) 1) := by kernel_rfl
theorem sh9_5 : hget (sh9 n x m c i q d k).hp 5 = some (.row (0 + ((x i.toNat).f k.toNat).n) 1 fun a b => .x (.int .u64 (((x i.toNat).f k.toNat).w (a - 0)))) := by kernel_rfl
variable (ad : Option Addr) (cap : Nat)
noncomputable def si9 : AS := { sh9 n x m c i q d k with tm := (sh9 n x m c i q d k).tm.set 34 (.ok (.d (.x (.slice ad (0 + ((x i.toNat).f k.toNat).n) cap)))), hp := hset (sh9 n x m c i q d k).hp 5 none }
noncomputable def tq9 : Tree AS := runOps Try.prog C00 inlNo (opsOf rg9) suf9 (si9 n x m c i q d k ad cap)
noncomputable def sj9 : AS := leafS (tq9 n x m c i q d k ad cap)
noncomputable def dN9 (a b : Nat) : Sx.DV := selD (decide (a < q)) (d (0 + a) b) (dsAt [.x (.slice ad (0 + ((x i.toNat).f k.toNat).n) cap)] (0 + (0 + (a - q)) * 1 + b))
theorem TQ9_eq : tq9 n x m c i q d k ad cap = .need (0 + q ≤ q ∧ 1 ≤ 1 ∧ (q + 1) * 24 ≤ 140737488355328) (.ret (sj9 n x m c i q d k ad cap)) := by kernel_rfl
theorem KP9_eq : codeK (sub [0, 0] (bP2 n x m c i q d k)) .normal (sj9 n x m c i q d k ad cap) = .ret (.normal, stP2 n x m c i (q + 1) (dN9 x i q d k ad cap) (w64 (k + 1))) := by kernel_rfl
noncomputable def cN9 (a b : Nat) : Sx.DV := selD (decide (a < m)) (c (0 + a) b) (dsAt [.ro q 1 fun i j => d (0 + i) j] (0 + (0 + (a - m)) * 1 + b))
theorem KP2_eq (c0 : Nat → Nat → Sx.DV) : codeK (sub [0] (bP1 n x m c0 i)) (.exit 2) (stP2 n x m c i q d k) = .need (0 + q ≤ q) (.need (0 + m ≤ m ∧ 1 ≤ 1 ∧ (m + 1) * 24 ≤ 140737488355328) (.ret (.normal, stP1 n x (m + 1) (cN9 m c q d) (w64 (i + 1))))) := by kernel_rfl
theorem KP1_eq : codeK (sub [] (tCp n x)) (.exit 0) (stP1 n x m c i) = .need (0 + m ≤ m) (.ret (.d (.ro m 1 fun i j => c (0 + i) j))) := by kernel_rfl
theorem EP1_eq : entA 1 [(.slot 3, 1)] [0, 3, 4] [0] 2 .nil (tCp n x) = some ⟨slY [(0, ssS n x), (3, .row 1 0 0 0 1), (4, iv 0)], [none, some (.cells [])], 2, .nil⟩ := by kernel_rfl
theorem EP2_eq : entA 3 [(.slot 5, 3)] [0, 3, 4, 5, 6] [2] 4 .nil (sub [0] (bP1 n x m c i)) = some ⟨slY [(0, ssS n x), (3, .row 1 0 0 m 1), (4, iv i), (5, .row 3 0 0 0 1), (6, iv 0)], [none, some (.row m 1 c), none, some (.cells [])], 4, .nil⟩ := by kernel_rfl
end
end Go.Proofs.Ytpaejfeojdoikaa.Rw
namespace Go.Proofs.Ytpaejfeojdoikaa.Rw
open Go.Proofs.Ytpaejfeojdoikaa.Rm
open Go.Sx
set_option maxRecDepth 100000
theorem rg9_reg : rg9 = .region 9 (opsOf rg9) false := by kernel_rfl
theorem rg9_ops : (opsOf rg9).toList = pre9 ++ suf9 := (List.take_append_drop 11 _).symm
theorem sat_n1 {P : Program} {p1 : Prop} {s : AS} (h1 : p1) : Sat P (Tree.need p1 (.ret s)) (· = s) := ⟨h1, rfl⟩
theorem sat_n3 {P : Program} {p1 p2 p3 : Prop} {s : AS} (h1 : p1) (h2 : p2) (h3 : p3) : Sat P (Tree.need p1 (.need p2 (.need p3 (.ret s)))) (· = s) := ⟨h1, h2, h3, rfl⟩
theorem concG_normal {p : Par} {μ0 : Mu} {Q : Ex → AS → Gh → Prop} {s : AS} {B : Gh} {a : Act} {w : World} (h : Q .normal s B) (hs : SimG p μ0 s B a w) : concG p μ0 Q .normal a w := ⟨s, B, h, hs⟩
section
variable (n : Nat) (x : Nat → FsT) (m : Nat) (c : Nat → Nat → Sx.DV) (i : Int) (q : Nat) (d : Nat → Nat → Sx.DV) (k : Int)
theorem hpre9 (h1 : 0 ≤ i ∧ i < (n : Int)) (h2 : 0 ≤ k ∧ k < ((x i.toNat).n : Int)) (h3 : (0 + ((x i.toNat).f k.toNat).n) * 8 ≤ 140737488355328) : Sat Try.prog (tp9 n x m c i q d k) (· = sh9 n x m c i q d k) := by
  rw [TP9_eq]
  exact sat_n3 h1 h2 ⟨Nat.le_refl _, trivial, h3⟩
theorem hsuf9 (ad : Option Addr) (cap : Nat) (h4 : (q + 1) * 24 ≤ 140737488355328) : Sat Try.prog (tq9 n x m c i q d k ad cap) (· = sj9 n x m c i q d k ad cap) := by
  rw [TQ9_eq]
  exact sat_n1 ⟨by omega, Nat.le_refl _, h4⟩
theorem rg9_G (B : Gh) (h1 : 0 ≤ i ∧ i < (n : Int)) (h2 : 0 ≤ k ∧ k < ((x i.toNat).n : Int)) (h3 : (0 + ((x i.toNat).f k.toNat).n) * 8 ≤ 140737488355328) (h4 : (q + 1) * 24 ≤ 140737488355328) : TripleG Try.prog rg9 (sg9 n x m c i q d k) B fun e s B' => e = .normal ∧ ∃ ad cap, s = sj9 n x m c i q d k ad cap ∧
    ((0 + ((x i.toNat).f k.toNat).n = 0 ∧ B' = B) ∨ ∃ b z, B b = none ∧ B' = ghSet B b z ∧ ∃ o, ad = some ⟨b, o, none⟩) ∧ Lies B' ad (0 + ((x i.toNat).f k.toNat).n) (fun j => .int .u64 (((x i.toNat).f k.toNat).w j)) ∧ CapOK ad (0 + ((x i.toNat).f k.toNat).n) cap := by
  have hpre := hpre9 n x m c i q d k h1 h2 h3
  have hsuf := fun ad cap => hsuf9 n x m c i q d k ad cap h4
  have e34 := sh9_34 n x m c i q d k
  have e5 := sh9_5 n x m c i q d k
  have esi : ∀ ad cap, si9 n x m c i q d k ad cap = { sh9 n x m c i q d k with tm := (sh9 n x m c i q d k).tm.set 34 (.ok (.d (.x (.slice ad (0 + ((x i.toNat).f k.toNat).n) cap)))), hp := hset (sh9 n x m c i q d k).hp 5 none } := fun _ _ => rfl
  unfold tp9 at hpre
  unfold tq9 at hsuf
  generalize sh9 n x m c i q d k = sh at hpre e34 e5 esi
  generalize sg9 n x m c i q d k = sg at hpre ⊢
  generalize sj9 n x m c i q d k = sj at hsuf ⊢
  generalize si9 n x m c i q d k = si at hsuf esi
  intro p μ0 a w hs
  rw [rg9_reg]
  intro r _
  refine wpIn_region_list ?_
  rw [rg9_ops]
  refine runOps_listG C00_ok (inlNo_ok _ _) hs hpre.ok fun st a w hq hs => ?_
  subst hq
  obtain ⟨ad, cap, B', hB, hL, hcp, hs⟩ := simG_detach hs e34 e5 (c := fun j => .int .u64 (((x i.toNat).f k.toNat).w (j - 0))) (fun j hj => rfl)
  rw [← esi] at hs
  rw [← List.append_nil suf9]
  refine runOps_listG C00_ok (inlNo_ok _ _) hs (hsuf ad cap).ok fun st a w hq hs => ?_
  subst hq
  exact concG_normal ⟨rfl, ad, cap, rfl, hB, hL, hcp⟩ hs
end
end Go.Proofs.Ytpaejfeojdoikaa.Rw
namespace Go.Sx
def mmF (x : Nat → FsT) (p : Nat) : Nat := (x p).n
def nnF (x : Nat → FsT) (p k : Nat) : Nat := ((x p).f k).n
def wwF (x : Nat → FsT) (p k j : Nat) : Int := ((x p).f k).w j
def Bef2 (x : Nat → FsT) (i k : Nat) (p k' : Nat) : Prop := (p < i ∧ k' < (x p).n) ∨ (p = i ∧ k' < k)
structure Sml (b n : Nat) (x : Nat → FsT) : Prop where
  le : n ≤ b
  m : ∀ p, p < n → (x p).n ≤ b
  k : ∀ p k, p < n → k < (x p).n → ((x p).f k).n ≤ b
end Go.Sx
namespace Go.Proofs.Ytpaejfeojdoikaa.Rw
open Go.Proofs.Ytpaejfeojdoikaa.Rm
open Go.Sx
set_option maxRecDepth 100000
theorem exS_upd (m : Nat → Nat) (n : Nat → Nat → Nat) (A : Nat → Nat → Option Addr) (C : Nat → Nat → Nat) (i k : Nat) (ad : Option Addr) (cap : Nat) (a b : Nat) (h : a < i) : exS m n A C a b = exS m n (fun p k' => if p = i ∧ k' = k then ad else A p k') (fun p k' => if p = i ∧ k' = k then cap else C p k') a b := by
  unfold exS exF
  congr 1
  funext k' j
  dsimp only
  rw [if_neg (by omega), if_neg (by omega)]
theorem dN9_eq (x : Nat → FsT) (i k : Nat) (A : Nat → Nat → Option Addr) (C : Nat → Nat → Nat) (ad : Option Addr) (cap : Nat) (a b : Nat) (ha : a < k + 1) (hb : b < 1) : dN9 x i k (exF (nnF x i) (A i) (C i)) k ad cap a b =
    exF (nnF x i) ((fun p k' => if p = i ∧ k' = k then ad else A p k') i) ((fun p k' => if p = i ∧ k' = k then cap else C p k') i) a b := by
  obtain rfl : b = 0 := by omega
  unfold dN9
  rw [selD_eq, Nat.zero_add, show 0 + (0 + (a - k)) * 1 + 0 = a - k by omega]
  unfold exF
  dsimp only
  by_cases h : a < k
  · rw [decide_eq_true h, if_neg (by omega), if_neg (by omega)]; rfl
  · obtain rfl : a = k := by omega
    rw [decide_eq_false (by omega), if_pos ⟨rfl, rfl⟩, if_pos ⟨rfl, rfl⟩, Nat.sub_self, Nat.zero_add]
    rfl
theorem cN9_eq (x : Nat → FsT) (i : Nat) (A : Nat → Nat → Option Addr) (C : Nat → Nat → Nat) (a b : Nat) (ha : a < i + 1) (hb : b < 1) : cN9 i (exS (mmF x) (nnF x) A C) (mmF x i) (exF (nnF x i) (A i) (C i)) a b = exS (mmF x) (nnF x) A C a b := by
  obtain rfl : b = 0 := by omega
  unfold cN9
  rw [selD_eq, Nat.zero_add, show 0 + (0 + (a - i)) * 1 + 0 = a - i by omega]
  by_cases h : a < i
  · rw [decide_eq_true h]; rfl
  · obtain rfl : a = i := by omega
    rw [decide_eq_false (by omega), Nat.sub_self]
    show DV.ro (mmF x a) 1 (fun i j => exF (nnF x a) (A a) (C a) (0 + i) j) = DV.ro (mmF x a) 1 (exF (nnF x a) (A a) (C a))
    congr 1
    funext i j
    rw [Nat.zero_add]
theorem satG_ret {α : Type} {P : Program} {a : α} {B : Gh} {Q : α → Gh → Prop} (h : Q a B) : SatG P (.ret a) B Q := ⟨h⟩
section
variable {n : Nat} {x : Nat → FsT}
theorem cp3_sat (hs : Sml 1000 n x) {i k : Nat} (hi : i < n) (hk : k ≤ mmF x i) {A : Nat → Nat → Option Addr} {C : Nat → Nat → Nat} {B : Gh} (hB : Nst B (nnF x) (wwF x) A C (Bef2 x i k)) :
    SatG Try.prog (bP2 n x i (exS (mmF x) (nnF x) A C) i k (exF (nnF x i) (A i) (C i)) k) B fun r B' => (k < mmF x i ∧ r.1 = .normal ∧ ∃ A' C', Nst B' (nnF x) (wwF x) A' C' (Bef2 x i (k + 1)) ∧ Gc 3 r.2 (stP2 n x i (exS (mmF x) (nnF x) A' C') i (k + 1) (exF (nnF x i) (A' i) (C' i)) ((k + 1 : Nat) : Int))) ∨
      (k = mmF x i ∧ r.1 = .exit 2 ∧ B' = B ∧ r.2 = stP2 n x i (exS (mmF x) (nnF x) A C) i k (exF (nnF x i) (A i) (C i)) k) := by
  have hm := hs.m i hi
  refine SatG.of_eq (BP2_eq _ _ _ _ _ _ _ _) ⟨?_⟩
  unfold BP2
  rw [Int.toNat_natCast]
  refine ⟨by omega, fun h1 => ?_, fun h1 => ?_⟩
  · simp only [decide_eq_true_eq] at h1
    have hlt : k < (x i).n := by omega
    have hn := hs.k i k hi hlt
    refine cut_satG _ (c := codeC (sub [0, 0] (bP2 n x i (exS (mmF x) (nnF x) A C) i k (exF (nnF x i) (A i) (C i)) k))) (by rw [rg9_eq]; exact rg9_G n x i (exS (mmF x) (nnF x) A C) i k (exF (nnF x i) (A i) (C i)) k B (by omega) (by rw [Int.toNat_natCast]; omega) (by rw [Int.toNat_natCast, Int.toNat_natCast]; omega) (by omega)) ?_
    intro e s B' h
    obtain ⟨he, ad, cap, hss, hb, hl, hcp⟩ := h
    subst he
    rw [hss]
    clear hss
    rw [Int.toNat_natCast, Int.toNat_natCast, Nat.zero_add] at hb hl hcp
    refine SatG.of_eq (KP9_eq n x i (exS (mmF x) (nnF x) A C) i k (exF (nnF x i) (A i) (C i)) k ad cap) (satG_ret (Or.inl ⟨hlt, rfl, (fun p k' => if p = i ∧ k' = k then ad else A p k'), (fun p k' => if p = i ∧ k' = k then cap else C p k'), ?_, ?_⟩))
    · refine hB.add hcp hb hl fun p k' h => ?_
      unfold Bef2 at h ⊢
      omega
    · rw [w64_of (n := (k : Int) + 1) (by omega) (by omega)]
      have e2 : ((k + 1 : Nat) : Int) = (k : Int) + 1 := by omega
      rw [e2]
      unfold stP2
      refine gc_hp rfl rfl ⟨.inl rfl, .inr ⟨_, _, rfl, rfl, .row fun a b ha hb => exS_upd _ _ _ _ _ _ _ _ _ _ ha⟩, .inl rfl, .inr ⟨_, _, rfl, rfl, .row fun a b ha hb => ?_⟩, trivial⟩
      have e3 : dN9 x (i : Int) k (exF (nnF x i) (A i) (C i)) (k : Int) ad cap a b = dN9 x (i : Nat) k (exF (nnF x i) (A i) (C i)) (k : Nat) ad cap a b := rfl
      exact dN9_eq x i k A C ad cap a b ha hb
  · simp only [decide_eq_false_iff_not] at h1
    obtain rfl : k = mmF x i := by unfold mmF at hk ⊢; omega
    exact .inr ⟨rfl, rfl, rfl, rfl⟩
theorem cp2_sat (hs : Sml 1000 n x) {i : Nat} (hi : i < n) {A : Nat → Nat → Option Addr} {C : Nat → Nat → Nat} {B : Gh} (hB : Nst B (nnF x) (wwF x) A C (Bef2 x i 0)) :
    SatG Try.prog (atCode (sub [0] (bP1 n x i (exS (mmF x) (nnF x) A C) i))) B fun r B' => r.1 = .normal ∧ ∃ A' C', Nst B' (nnF x) (wwF x) A' C' (Bef2 x (i + 1) 0) ∧ Gc 1 r.2 (stP1 n x (i + 1) (exS (mmF x) (nnF x) A' C') ((i + 1 : Nat) : Int)) := by
  have hn := hs.le
  have hm := hs.m i hi
  refine ⟨code_satG C00_ok d00_drawn (stop := stopAt 9) (n := 200) (n0 := 3) (nx := 4) (roots := [(.slot 5, 3)]) (keep := [0, 3, 4, 5, 6]) (drop := [2]) (h := .nil) (body := bodyP2) (by kernel_rfl) (by kernel_rfl)
    (fun q t B => ∃ (k : Nat) (A : Nat → Nat → Option Addr) (C : Nat → Nat → Nat), q = mmF x i - k ∧ k ≤ mmF x i ∧ Nst B (nnF x) (wwF x) A C (Bef2 x i k) ∧ t = stP2 n x i (exS (mmF x) (nnF x) A C) i k (exF (nnF x i) (A i) (C i)) k)
    (fun e t B => e = .exit 2 ∧ ∃ (A : Nat → Nat → Option Addr) (C : Nat → Nat → Nat), Nst B (nnF x) (wwF x) A C (Bef2 x i (mmF x i)) ∧ t = stP2 n x i (exS (mmF x) (nnF x) A C) i (mmF x i) (exF (nnF x i) (A i) (C i)) (mmF x i))
    ⟨_, _, ⟨0, A, C, rfl, Nat.zero_le _, hB, rfl⟩, ?_⟩ ?_ ?_⟩
  · refine (entA_sound (EP2_eq n x i (exS (mmF x) (nnF x) A C) i)).trans ?_
    unfold stP2
    exact gc_hp rfl rfl ⟨.inl rfl, .inr ⟨_, _, rfl, rfl, .refl _⟩, .inl rfl, .inr ⟨_, _, rfl, rfl, .cells rfl fun x y hx hy => absurd hx (Nat.not_lt_zero _)⟩, trivial⟩
  · rintro q t B ⟨k, A, C, rfl, hk, hB, rfl⟩
    refine (cp3_sat hs hi hk hB).mono fun r B' hr => ?_
    obtain ⟨ex, st⟩ := r
    rcases hr with ⟨h1, h2, A', C', h3, h4⟩ | ⟨h1, h2, h3, h4⟩
    · obtain rfl : ex = .normal := h2
      exact ⟨mmF x i - (k + 1), _, by omega, ⟨k + 1, A', C', rfl, h1, h3, rfl⟩, h4⟩
    · obtain rfl : ex = .exit 2 := h2
      obtain rfl : st = stP2 n x i (exS (mmF x) (nnF x) A C) i k (exF (nnF x i) (A i) (C i)) k := h4
      subst h1; subst h3
      exact ⟨_, ⟨rfl, A, C, hB, rfl⟩, Gc.refl _ _⟩
  · intro e t B' h
    obtain ⟨he, A1, C1, hB, ht⟩ := h
    subst he
    rw [ht]
    clear ht
    refine SatG.of_eq (KP2_eq n x i (exS (mmF x) (nnF x) A1 C1) i (mmF x i) (exF (nnF x i) (A1 i) (C1 i)) (mmF x i) (exS (mmF x) (nnF x) A C)) ⟨?_⟩
    have hmm : mmF x i ≤ 1000 := hm
    refine ⟨by omega, ⟨by omega, Nat.le_refl _, by omega⟩, rfl, A1, C1, hB.sub fun p k h => ?_, ?_⟩
    · unfold Bef2 at h ⊢; unfold mmF
      rcases h with h | h
      · by_cases e : p = i
        · subst e; exact .inr ⟨rfl, h.2⟩
        · exact .inl ⟨by omega, h.2⟩
      · omega
    · rw [w64_of (n := (i : Int) + 1) (by omega) (by omega)]
      have e2 : ((i + 1 : Nat) : Int) = (i : Int) + 1 := by omega
      rw [e2]
      unfold stP1
      exact gc_hp rfl rfl ⟨.inl rfl, .inr ⟨_, _, rfl, rfl, .row fun a b ha hb => cN9_eq x i A1 C1 a b ha hb⟩, trivial⟩
def cpP (n : Nat) (x : Nat → FsT) (d : Sx.DV) (B : Gh) : Prop := ∃ A C, d = .ro n 1 (exS (mmF x) (nnF x) A C) ∧ Nst B (nnF x) (wwF x) A C fun p k => p < n ∧ k < (x p).n
theorem cp_sat (hs : Sml 1000 n x) : SatG Try.prog (tCp n x) noGh fun a B => ∃ d, a = .d d ∧ cpP n x d B := by
  have hn := hs.le
  refine SatG.of_eq (LCp_eq n x) ⟨?_⟩
  refine code_satG C00_ok d00_drawn (stop := stopAt 9) (n := 200) (n0 := 1) (nx := 2) (roots := [(.slot 3, 1)]) (keep := [0, 3, 4]) (drop := [0]) (h := .nil) (body := bodyP1) (by kernel_rfl) (by kernel_rfl)
    (fun q t B => ∃ (i : Nat) (A : Nat → Nat → Option Addr) (C : Nat → Nat → Nat), q = n - i ∧ i ≤ n ∧ Nst B (nnF x) (wwF x) A C (Bef2 x i 0) ∧ t = stP1 n x i (exS (mmF x) (nnF x) A C) i)
    (fun e t B => e = .exit 0 ∧ ∃ (A : Nat → Nat → Option Addr) (C : Nat → Nat → Nat), Nst B (nnF x) (wwF x) A C (Bef2 x n 0) ∧ t = stP1 n x n (exS (mmF x) (nnF x) A C) n)
    ⟨_, _, ⟨0, fun _ _ => none, fun _ _ => 0, rfl, Nat.zero_le _, ⟨fun p k h => ?_, fun p k p' k' h => ?_, fun p k h => ?_⟩, rfl⟩, ?_⟩ ?_ ?_
  · unfold Bef2 at h; omega
  · unfold Bef2 at h; omega
  · unfold Bef2 at h; omega
  · refine (entA_sound (EP1_eq n x)).trans ?_
    unfold stP1
    exact gc_hp rfl rfl ⟨.inl rfl, .inr ⟨_, _, rfl, rfl, .cells rfl fun x y hx hy => absurd hx (Nat.not_lt_zero _)⟩, trivial⟩
  · rintro q t B ⟨i, A, C, rfl, hi, hB, rfl⟩
    refine SatG.of_eq (BP1_eq n x i (exS (mmF x) (nnF x) A C) i) ⟨?_⟩
    refine ⟨fun h1 => ?_, fun h1 => ?_⟩
    · simp only [decide_eq_true_eq] at h1
      have hlt : i < n := by omega
      refine Tree.satG_mono (fun r B' hr => ?_) (cp2_sat hs hlt hB).ok
      obtain ⟨ex, st⟩ := r
      obtain ⟨h2, A', C', h3, h4⟩ := hr
      obtain rfl : ex = .normal := h2
      exact ⟨n - (i + 1), _, by omega, ⟨i + 1, A', C', rfl, hlt, h3, rfl⟩, h4⟩
    · simp only [decide_eq_false_iff_not] at h1
      obtain rfl : i = n := by omega
      exact ⟨_, ⟨rfl, A, C, hB, rfl⟩, Gc.refl _ _⟩
  · intro e t B' h
    obtain ⟨he, A, C, hB, ht⟩ := h
    subst he
    rw [ht]
    clear ht
    refine SatG.of_eq (KP1_eq n x n (exS (mmF x) (nnF x) A C) n) ⟨?_⟩
    refine ⟨by omega, _, rfl, A, C, ?_, hB.sub fun p k h => .inl h⟩
    congr 1
    funext i j
    rw [Nat.zero_add]
theorem cp_ok (hs : Sml 1000 n x) : GCtr Try.prog 128 [ssS n x] (cpP n x) := gctr_of C00_ok d00_drawn (by kernel_rfl) (by kernel_rfl) (cp_sat hs)
end
end Go.Proofs.Ytpaejfeojdoikaa.Rw
namespace Go.Sx
def stopW : Nat → Bool := fun id => Nat.beq id 1 || Nat.beq id 17
end Go.Sx
namespace Go.Proofs.Ytpaejfeojdoikaa.Rw
open Go.Proofs.Ytpaejfeojdoikaa.Rm
open Go.Sx
set_option maxRecDepth 100000
noncomputable def lwS (lw : Nat → Nat → Int) : SV := .d (.ro 1 2 fun i j => .x (.int .u64 (lw i j)))
noncomputable def bodyW1 : Code := loopN (bodyOf Try.prog 53) 0
noncomputable def bodyW2 : Code := loopN (bodyOf Try.prog 53) 1
noncomputable def bodyW3 : Code := loopN (bodyOf Try.prog 53) 2
noncomputable def bodyW4 : Code := loopN (bodyOf Try.prog 53) 3
noncomputable def slW (l : List (Nat × SV)) : List TV := (List.range 76).map fun k => match l.find? (fun e => Nat.beq e.1 k) with | some e => .ok e.2 | none => .unk
section
variable (n : Nat) (x : Nat → FsT) (lw : Nat → Nat → Int)
noncomputable def tWd : Tree SV := fnTG Try.prog C00 stopW 200 (fnOf Try.prog 53) (bodyOf Try.prog 53) [ssS n x, lwS lw] .nil
theorem LWd_eq : tWd n x lw = atCode (sub [] (tWd n x lw)) := by kernel_rfl
noncomputable def rg1 : Code := regAt 1 (bodyOf Try.prog 53)
theorem rg1_eq : codeC (sub [] (tWd n x lw)) = rg1 := by kernel_rfl
noncomputable def sg1 : AS := codeS (sub [] (tWd n x lw))
noncomputable def tp1 : Tree AS := runOps Try.prog C00 inlNo (opsOf rg1) ((opsOf rg1).toList.take 1) (sg1 n x lw)
noncomputable def sh1 : AS := leafS (tp1 n x lw)
theorem TP1_eq : tp1 n x lw = .ret (sh1 n x lw) := by kernel_rfl
variable (m : Nat → Nat) (nn : Nat → Nat → Nat) (A : Nat → Nat → Option Addr) (C : Nat → Nat → Nat)
noncomputable def outS : SV := .d (.ro n 1 (exS m nn A C))
noncomputable def si1 : AS := { sh1 n x lw with tm := (sh1 n x lw).tm.set 13 (.ok (outS n m nn A C)) }
noncomputable def tq1 : Tree AS := runOps Try.prog C00 inlNo (opsOf rg1) ((opsOf rg1).toList.drop 2) (si1 n x lw m nn A C)
noncomputable def sj1 : AS := leafS (tq1 n x lw m nn A C)
theorem TQ1_eq : tq1 n x lw m nn A C = .ret (sj1 n x lw m nn A C) := by kernel_rfl
noncomputable def tW1 : Tree SV := codeK (sub [] (tWd n x lw)) .normal (sj1 n x lw m nn A C)
theorem KW0_eq : tW1 n x lw m nn A C = atCode (sub [] (tW1 n x lw m nn A C)) := by kernel_rfl
noncomputable def stW1 (i : Int) : AS := ⟨slW [(1, lwS lw), (5, outS n m nn A C), (6, iv i)], [], 0, .nil⟩
theorem EW1_eq : entA 0 [] [1, 5, 6] [] 0 .nil (tW1 n x lw m nn A C) = some (stW1 n lw m nn A C 0) := by kernel_rfl
noncomputable def bW1 (i : Int) : Tree (Ex × AS) := cutT 0 [] [1, 5, 6] [] 0 .nil (execG Try.prog C00 stopW 200 bodyW1 (stW1 n lw m nn A C i))
noncomputable def BW1 (i : Int) : Tree (Ex × AS) :=
  .ite (decide (i < ((1 : Nat) : Int))) (.need (0 ≤ i ∧ i < ((1 : Nat) : Int)) (.need ((0 : Int) ≤ 0 ∧ (0 : Int) < ((2 : Nat) : Int)) (.need ((64 : Int) ≠ 0) (atCode (sub [0, 0, 0, 0] (bW1 n lw m nn A C i)))))) (.ret (.exit 0, stW1 n lw m nn A C i))
theorem BW1_eq (i : Int) : bW1 n lw m nn A C i = BW1 n lw m nn A C i := by kernel_rfl
noncomputable def u64d (a : Int) : SV := .d (.x (.int .u64 a))
variable (i a c p : Int)
noncomputable def stW2 : AS := ⟨slW [(1, lwS lw), (5, outS n m nn A C), (6, iv i), (7, iv c), (8, u64d a), (9, iv p)], [], 0, .nil⟩
theorem EW2_eq : entA 0 [] [1, 5, 6, 7, 8, 9] [] 0 .nil (sub [0, 0, 0, 0] (bW1 n lw m nn A C i)) = some (stW2 n lw m nn A C i (Int.tmod (lw i.toNat 0) 64) 0 0) := by kernel_rfl
noncomputable def bW2 : Tree (Ex × AS) := cutT 0 [] [1, 5, 6, 7, 8, 9] [] 0 .nil (execG Try.prog C00 stopW 200 bodyW2 (stW2 n lw m nn A C i a c p))
theorem BW2_eq : bW2 n lw m nn A C i a c p = .ite (decide (p < (n : Int))) (atCode (sub [0] (bW2 n lw m nn A C i a c p))) (.ret (.exit 2, stW2 n lw m nn A C i a c p)) := by kernel_rfl
theorem KW1_eq (i0 : Int) : codeK (sub [0, 0, 0, 0] (bW1 n lw m nn A C i0)) (.exit 2) (stW2 n lw m nn A C i a c p) = .ret (.normal, stW1 n lw m nn A C (w64 (i + 1))) := by kernel_rfl
variable (k : Int)
noncomputable def stW3 : AS := ⟨slW [(1, lwS lw), (5, outS n m nn A C), (6, iv i), (7, iv c), (8, u64d a), (9, iv p), (10, iv k)], [], 0, .nil⟩
theorem EW3_eq : entA 0 [] [1, 5, 6, 7, 8, 9, 10] [] 0 .nil (sub [0] (bW2 n lw m nn A C i a c p)) = some (stW3 n lw m nn A C i a c p 0) := by kernel_rfl
noncomputable def bW3 : Tree (Ex × AS) := cutT 0 [] [1, 5, 6, 7, 8, 9, 10] [] 0 .nil (execG Try.prog C00 stopW 200 bodyW3 (stW3 n lw m nn A C i a c p k))
noncomputable def BW3 : Tree (Ex × AS) := .need (0 ≤ p ∧ p < (n : Int)) (.ite (decide (k < (m p.toNat : Int))) (atCode (sub [0, 0] (bW3 n lw m nn A C i a c p k))) (.ret (.exit 4, stW3 n lw m nn A C i a c p k)))
theorem BW3_eq : bW3 n lw m nn A C i a c p k = BW3 n lw m nn A C i a c p k := by kernel_rfl
theorem KW2_eq (c0 : Int) : codeK (sub [0] (bW2 n lw m nn A C i a c0 p)) (.exit 4) (stW3 n lw m nn A C i a c p k) = .ret (.normal, stW2 n lw m nn A C i a c (w64 (p + 1))) := by kernel_rfl
variable (w : Int)
noncomputable def stW4 : AS := ⟨slW [(1, lwS lw), (5, outS n m nn A C), (6, iv i), (7, iv c), (8, u64d a), (9, iv p), (10, iv k), (11, iv w)], [], 0, .nil⟩
theorem EW4_eq : entA 0 [] [1, 5, 6, 7, 8, 9, 10, 11] [] 0 .nil (sub [0, 0] (bW3 n lw m nn A C i a c p k)) = some (stW4 n lw m nn A C i a c p k 0) := by kernel_rfl
noncomputable def bW4 : Tree (Ex × AS) := cutT 0 [] [1, 5, 6, 7, 8, 9, 10, 11] [] 0 .nil (execG Try.prog C00 stopW 200 bodyW4 (stW4 n lw m nn A C i a c p k w))
noncomputable def BW4 : Tree (Ex × AS) := .need (0 ≤ p ∧ p < (n : Int)) (.need (0 ≤ k ∧ k < (m p.toNat : Int)) (.ite (decide (w < (nn p.toNat k.toNat : Int)))
  (.ite (IntKind.wrap .u64 c == a) (atCode (sub [0, 0, 0, 0] (bW4 n lw m nn A C i a c p k w))) (.ret (.normal, stW4 n lw m nn A C i a (w64 (c + 1)) p k (w64 (w + 1)))))
  (.ret (.exit 6, stW4 n lw m nn A C i a c p k w))))
theorem BW4_eq : bW4 n lw m nn A C i a c p k w = BW4 n lw m nn A C i a c p k w := by kernel_rfl
theorem KW3_eq (c0 : Int) : codeK (sub [0, 0] (bW3 n lw m nn A C i a c0 p k)) (.exit 6) (stW4 n lw m nn A C i a c p k w) = .ret (.normal, stW3 n lw m nn A C i a c p (w64 (k + 1))) := by kernel_rfl
noncomputable def rg17 : Code := regAt 17 (bodyOf Try.prog 53)
theorem rg17_eq : codeC (sub [0, 0, 0, 0] (bW4 n lw m nn A C i a c p k w)) = rg17 := by kernel_rfl
noncomputable def sg17 : AS := codeS (sub [0, 0, 0, 0] (bW4 n lw m nn A C i a c p k w))
noncomputable def pre17 : List Oper := (opsOf rg17).toList.take 15
noncomputable def op17 : Oper := (opsOf rg17).toList.getD 15 default
noncomputable def tp17 : Tree AS := dK Try.prog C00 (opsOf rg17) pre17 [] [] { sg17 n lw m nn A C i a c p k w with tm := Sx.untag (sg17 n lw m nn A C i a c p k w).tm }
noncomputable def sh17 : AS := leafS (tp17 n lw m nn A C i a c p k w)
noncomputable def TP17 : Tree AS := .need (0 ≤ p ∧ p < (n : Int)) (.need (0 ≤ k ∧ k < (m p.toNat : Int)) (.need (0 ≤ i ∧ i < ((1 : Nat) : Int)) (.need ((0 : Int) ≤ 1 ∧ (1 : Int) < ((2 : Nat) : Int)) (.need (∃ b o, A p.toNat k.toNat = some ⟨b, o, none⟩) (.need (0 ≤ w ∧ w < (nn p.toNat k.toNat : Int)) (.ret (sh17 n lw m nn A C i a c p k w)))))))
theorem TP17_eq : tp17 n lw m nn A C i a c p k w = TP17 n lw m nn A C i a c p k w := by kernel_rfl
theorem sh17_72 : tget (sh17 n lw m nn A C i a c p k w).tm 72 = .ok (.d (.x (.pointer ((A p.toNat k.toNat).map fun a => ⟨a.block, a.off + w.toNat * 1, none⟩)))) := by kernel_rfl
theorem sh17_71 : tget (sh17 n lw m nn A C i a c p k w).tm 71 = .ok (.d (.x (.int .u64 (lw i.toNat 1)))) := by kernel_rfl
theorem rg17_reg : rg17 = .region 17 (opsOf rg17) true := by kernel_rfl
theorem rg17_last : lastAll pre17 op17 = true := by kernel_rfl
theorem rg17_edge : edgesOK 0 (opsOf rg17).toList = true := by kernel_rfl
theorem op17_op : op17.op = .store 60 (.tmp 72) (.tmp 71) := by kernel_rfl
theorem op17_g : op17.guard = none := by kernel_rfl
theorem op17_d : op17.dst = none := by kernel_rfl
theorem KW4_eq : codeK (sub [0, 0, 0, 0] (bW4 n lw m nn A C i a c p k w)) .normal (sh17 n lw m nn A C i a c p k w) = .ret (.normal, stW4 n lw m nn A C i a (w64 (c + 1)) p k (w64 (w + 1))) := by kernel_rfl
theorem KW9_eq : codeK (sub [] (tW1 n x lw m nn A C)) (.exit 0) (stW1 n lw m nn A C i) = .ret (.d (.ro n 1 (exS m nn A C))) := by kernel_rfl
end
end Go.Proofs.Ytpaejfeojdoikaa.Rw
namespace Go.Proofs.Ytpaejfeojdoikaa.Rw
open Go.Proofs.Ytpaejfeojdoikaa.Rm
open Go.Sx
set_option maxRecDepth 100000
theorem sat_n0 {P : Program} {s : AS} : Sat P (Tree.ret s) (· = s) := ⟨rfl⟩
theorem sat_n6 {P : Program} {p1 p2 p3 p4 p5 p6 : Prop} {s : AS} (h1 : p1) (h2 : p2) (h3 : p3) (h4 : p4) (h5 : p5) (h6 : p6) : Sat P (Tree.need p1 (.need p2 (.need p3 (.need p4 (.need p5 (.need p6 (.ret s))))))) (· = s) := ⟨h1, h2, h3, h4, h5, h6, rfl⟩
noncomputable def op1 : Oper := (opsOf rg1).toList.getD 1 default
noncomputable def ca1 : Call := match op1.op with
  | .call c => c
  | _ => default
theorem op1_op : op1.op = .call ca1 := by kernel_rfl
theorem op1_g : op1.guard = none := by kernel_rfl
theorem op1_d : op1.dst = some 13 := by kernel_rfl
theorem rg1_reg : rg1 = .region 1 (opsOf rg1) false := by kernel_rfl
theorem rg1_ops : (opsOf rg1).toList = (opsOf rg1).toList.take 1 ++ (op1 :: (opsOf rg1).toList.drop 2) := by kernel_rfl
def AllF (n : Nat) (x : Nat → FsT) (p k : Nat) : Prop := p < n ∧ k < (x p).n
section
variable (n : Nat) (x : Nat → FsT) (lw : Nat → Nat → Int)
theorem hpre1 : Sat Try.prog (tp1 n x lw) (· = sh1 n x lw) := by rw [TP1_eq]; exact sat_n0
theorem hsuf1 (m : Nat → Nat) (nn : Nat → Nat → Nat) (A : Nat → Nat → Option Addr) (C : Nat → Nat → Nat) : Sat Try.prog (tq1 n x lw m nn A C) (· = sj1 n x lw m nn A C) := by rw [TQ1_eq]; exact sat_n0
theorem sh1_len : (sh1 n x lw).tm.length = 76 := by kernel_rfl
theorem sh1_tag : noTag (sh1 n x lw).tm 13 = true := by kernel_rfl
theorem sh1_cnd : cndsT (sh1 n x lw).tm (opSlots op1) = [] := by kernel_rfl
theorem sh1_cal : callee (rhoR (sh1 n x lw).tm none (opSlots op1)) ca1 = some (128, [ssS n x]) := by kernel_rfl
theorem rg1_G (hs : Sml 1000 n x) (B : Gh) : TripleG Try.prog rg1 (sg1 n x lw) B fun e s B' => e = .normal ∧ ∃ A C, s = sj1 n x lw (mmF x) (nnF x) A C ∧ Nst B' (nnF x) (wwF x) A C (AllF n x) := by
  have hpre := hpre1 n x lw
  have hsuf := fun A C => hsuf1 n x lw (mmF x) (nnF x) A C
  have e1 := sh1_len n x lw
  have e2 := sh1_tag n x lw
  have e3 := sh1_cnd n x lw
  have e4 := sh1_cal n x lw
  have esi : ∀ A C, si1 n x lw (mmF x) (nnF x) A C = { sh1 n x lw with tm := (sh1 n x lw).tm.set 13 (.ok (.d (.ro n 1 (exS (mmF x) (nnF x) A C)))) } := fun _ _ => rfl
  unfold tp1 at hpre
  unfold tq1 at hsuf
  generalize sh1 n x lw = sh at hpre e1 e2 e3 e4 esi
  generalize sg1 n x lw = sg at hpre ⊢
  obtain ⟨sj, hsj⟩ : ∃ sj, sj = fun A C => sj1 n x lw (mmF x) (nnF x) A C := ⟨_, rfl⟩
  have hsj' : ∀ A C, sj1 n x lw (mmF x) (nnF x) A C = sj A C := fun A C => by rw [hsj]
  simp only [hsj'] at hsuf ⊢
  obtain ⟨si, hsi⟩ : ∃ si, si = fun A C => si1 n x lw (mmF x) (nnF x) A C := ⟨_, rfl⟩
  have hsi' : ∀ A C, si1 n x lw (mmF x) (nnF x) A C = si A C := fun A C => by rw [hsi]
  simp only [hsi'] at hsuf esi
  clear hsj hsj' hsi hsi'
  intro p μ0 a w hss
  rw [rg1_reg]
  intro r _
  refine wpIn_region_list ?_
  rw [rg1_ops]
  refine runOps_listG C00_ok (inlNo_ok _ _) hss hpre.ok fun st a w hq hss => ?_
  subst hq
  refine gcall_op hss op1_op op1_g op1_d (by rw [e1]; omega) e2 (k := 128) (by kernel_rfl) (by rw [e3]; intro q hq; cases hq) e4 rfl (cp_ok hs) fun d B' v w' hd hss => ?_
  obtain ⟨A, C, rfl, hN⟩ := hd
  rw [← esi] at hss
  rw [← List.append_nil ((opsOf rg1).toList.drop 2)]
  refine runOps_listG C00_ok (inlNo_ok _ _) hss (hsuf A C).ok fun st a w hq hss => ?_
  subst hq
  exact concG_normal ⟨rfl, A, C, rfl, hN⟩ hss
end
section
variable (n : Nat) (lw : Nat → Nat → Int) (m : Nat → Nat) (nn : Nat → Nat → Nat) (A : Nat → Nat → Option Addr) (C : Nat → Nat → Nat) (i a c p k w : Int)
theorem hpre17 (h1 : 0 ≤ p ∧ p < (n : Int)) (h2 : 0 ≤ k ∧ k < (m p.toNat : Int)) (h3 : 0 ≤ i ∧ i < ((1 : Nat) : Int)) (h4 : ∃ b o, A p.toNat k.toNat = some ⟨b, o, none⟩) (h5 : 0 ≤ w ∧ w < (nn p.toNat k.toNat : Int)) : Sat Try.prog (tp17 n lw m nn A C i a c p k w) (· = sh17 n lw m nn A C i a c p k w) := by
  rw [TP17_eq]
  unfold TP17
  exact sat_n6 h1 h2 h3 (by omega) h4 h5
theorem rg17_split : (opsOf rg17).toList = pre17 ++ [op17] := by kernel_rfl
theorem rg17_G {S : Nat → Nat → Prop} {W : Nat → Nat → Nat → Int} (B : Gh) (hB : Nst B nn W A C S) {p k w : Nat} (h1 : p < n) (h2 : k < m p) (h3 : 0 ≤ i ∧ i < ((1 : Nat) : Int)) (hS : S p k) (h5 : w < nn p k) : TripleG Try.prog rg17 (sg17 n lw m nn A C i a c p k w) B fun e s B' => e = .normal ∧ s = sh17 n lw m nn A C i a c p k w ∧
    Nst B' nn (fun p' k' j' => if p' = p ∧ k' = k ∧ j' = w then lw i.toNat 1 else W p' k' j') A C S := by
  obtain ⟨b, o, cs, e, g1, g2, g3, g4⟩ := hB.store hS h5 (v := lw i.toNat 1)
  have hpre := hpre17 n lw m nn A C i a c p k w (by omega) (by rw [Int.toNat_natCast]; omega) h3 ⟨b, o, g1⟩ (by rw [Int.toNat_natCast, Int.toNat_natCast]; omega)
  have e72 := sh17_72 n lw m nn A C i a c p k w
  have e71 := sh17_71 n lw m nn A C i a c p k w
  rw [Int.toNat_natCast, Int.toNat_natCast, Int.toNat_natCast, g1, Nat.mul_one] at e72
  unfold tp17 at hpre
  generalize sh17 n lw m nn A C i a c p k w = sh at hpre e72 e71 ⊢
  generalize sg17 n lw m nn A C i a c p k w = sg at hpre ⊢
  intro q μ0 a' w' hss
  obtain ⟨q', k1, k2⟩ := simG_open hss
  rw [rg17_reg]
  refine drawn_last C00_ok mixed rg17_split rg17_last rg17_edge k1 hpre.ok fun r s a2 w2 hs2 k3 => ?_
  subst hs2
  have hss := k2 _ _ _ k3
  have hss0 := hss
  obtain ⟨μ, F, _, _, _, ht, _⟩ := hss0
  have v72 := ht 72
  have v71 := ht 71
  rw [e72] at v72
  rw [e71] at v71
  refine store_opG hss op17_op op17_g op17_d (b := b) (off := o + w) (v := .int .u64 (lw i.toNat 1)) (rep_x v72) (rep_x v71) rfl rfl (by kernel_rfl) g2 g3 fun w3 hs3 => concG_normal ⟨rfl, rfl, g4⟩ hs3
end
end Go.Proofs.Ytpaejfeojdoikaa.Rw
namespace Go.Sx
def offK (nn : Nat → Nat → Nat) (p : Nat) : Nat → Nat
  | 0 => 0
  | k + 1 => offK nn p k + nn p k
def offP (m : Nat → Nat) (nn : Nat → Nat → Nat) : Nat → Nat
  | 0 => 0
  | p + 1 => offP m nn p + offK nn p (m p)
def posW (m : Nat → Nat) (nn : Nat → Nat → Nat) (p k j : Nat) : Nat := offP m nn p + offK nn p k + j
theorem offK_mono (nn : Nat → Nat → Nat) (p : Nat) {k k' : Nat} (h : k ≤ k') : offK nn p k ≤ offK nn p k' := by
  induction h with
  | refl => exact Nat.le_refl _
  | step _ ih => exact Nat.le_trans ih (Nat.le_add_right _ _)
theorem offP_mono (m : Nat → Nat) (nn : Nat → Nat → Nat) {p p' : Nat} (h : p ≤ p') : offP m nn p ≤ offP m nn p' := by
  induction h with
  | refl => exact Nat.le_refl _
  | step _ ih => exact Nat.le_trans ih (Nat.le_add_right _ _)
theorem posW_lt {m : Nat → Nat} {nn : Nat → Nat → Nat} {p k j p' k' j' : Nat} (hk : k < m p) (hj : j < nn p k) (h : p < p' ∨ (p = p' ∧ (k < k' ∨ (k = k' ∧ j < j')))) : posW m nn p k j < posW m nn p' k' j' := by
  unfold posW
  have e1 : offK nn p (k + 1) = offK nn p k + nn p k := rfl
  have e2 : offP m nn (p + 1) = offP m nn p + offK nn p (m p) := rfl
  rcases h with h | ⟨rfl, h | ⟨rfl, h⟩⟩
  · have h1 := offK_mono nn p (show k + 1 ≤ m p from hk)
    have h2 := offP_mono m nn (show p + 1 ≤ p' from h)
    omega
  · have h1 := offK_mono nn p (show k + 1 ≤ k' from h)
    omega
  · omega
theorem posW_inj {m : Nat → Nat} {nn : Nat → Nat → Nat} {p k j p' k' j' : Nat} (hk : k < m p) (hj : j < nn p k) (hk' : k' < m p') (hj' : j' < nn p' k') (h : posW m nn p k j = posW m nn p' k' j') : p = p' ∧ k = k' ∧ j = j' := by
  rcases Nat.lt_trichotomy p p' with h1 | h1 | h1
  · have := posW_lt (j' := j') (k' := k') hk hj (.inl h1); omega
  · subst h1
    rcases Nat.lt_trichotomy k k' with h2 | h2 | h2
    · have := posW_lt (j' := j') hk hj (.inr ⟨rfl, .inl h2⟩); omega
    · subst h2
      refine ⟨rfl, rfl, ?_⟩
      unfold posW at h; omega
    · have := posW_lt (j' := j) hk' hj' (.inr ⟨rfl, .inl h2⟩); omega
  · have := posW_lt (j' := j) (k' := k) hk' hj' (.inl h1); omega
def wcF (m : Nat → Nat) (nn : Nat → Nat → Nat) (W : Nat → Nat → Nat → Int) (a : Nat) (v : Int) (c : Nat) (p k j : Nat) : Int := if posW m nn p k j = a ∧ a < c then v else W p k j
theorem wcF_step {m : Nat → Nat} {nn : Nat → Nat → Nat} {W : Nat → Nat → Nat → Int} {v : Int} {p k j p' k' j' : Nat} (hk : k < m p) (hj : j < nn p k) (hk' : k' < m p') (hj' : j' < nn p' k') :
    (if p' = p ∧ k' = k ∧ j' = j then v else wcF m nn W (posW m nn p k j) v (posW m nn p k j) p' k' j') = wcF m nn W (posW m nn p k j) v (posW m nn p k j + 1) p' k' j' := by
  unfold wcF
  by_cases h : p' = p ∧ k' = k ∧ j' = j
  · obtain ⟨rfl, rfl, rfl⟩ := h
    rw [if_pos ⟨rfl, rfl, rfl⟩, if_pos ⟨rfl, by omega⟩]
  · rw [if_neg h, if_neg (by omega), if_neg]
    intro h2
    obtain ⟨h3, h4, h5⟩ := posW_inj hk hj hk' hj' h2.1.symm
    exact h ⟨h3.symm, h4.symm, h5.symm⟩
theorem wcF_skip {m : Nat → Nat} {nn : Nat → Nat → Nat} {W : Nat → Nat → Nat → Int} {v : Int} {a c : Nat} (h : c ≠ a) : wcF m nn W a v c = wcF m nn W a v (c + 1) := by
  funext p k j
  unfold wcF
  by_cases h1 : posW m nn p k j = a ∧ a < c
  · rw [if_pos h1, if_pos ⟨h1.1, by omega⟩]
  · rw [if_neg h1, if_neg (by omega)]
theorem wcF_zero {m : Nat → Nat} {nn : Nat → Nat → Nat} {W : Nat → Nat → Nat → Int} {v : Int} {a : Nat} : wcF m nn W a v 0 = W := by
  funext p k j
  unfold wcF
  rw [if_neg (by omega)]
theorem posW_le {n : Nat} {x : Nat → FsT} (hs : Sml 4 n x) {p k j : Nat} (hp : p ≤ n) (hk : p < n → k ≤ (x p).n) (hk0 : p = n → k = 0) (hj : k < (x p).n → p < n → j ≤ ((x p).f k).n) (hj0 : (p = n ∨ k = (x p).n) → j = 0) : posW (mmF x) (nnF x) p k j ≤ 64 := by
  have hn := hs.le
  have h1 : ∀ p, p < n → ∀ k, k ≤ (x p).n → offK (nnF x) p k ≤ 4 * k := by
    intro p hp k
    induction k with
    | zero => intro _; exact Nat.le_refl _
    | succ k ih =>
      intro hk
      have := ih (by omega)
      have h2 := hs.k p k hp (by omega)
      show offK (nnF x) p k + ((x p).f k).n ≤ _
      omega
  have h2 : ∀ p, p ≤ n → offP (mmF x) (nnF x) p ≤ 16 * p := by
    intro p
    induction p with
    | zero => intro _; exact Nat.le_refl _
    | succ p ih =>
      intro hp
      have h3 := ih (by omega)
      have h4 := h1 p (by omega) (x p).n (Nat.le_refl _)
      have h5 := hs.m p (by omega)
      show offP (mmF x) (nnF x) p + offK (nnF x) p (x p).n ≤ _
      omega
  have h3 := h2 p hp
  unfold posW
  by_cases e : p = n
  · have := hj0 (.inl e)
    have := hk0 e
    subst k
    have : offK (nnF x) p 0 = 0 := rfl
    omega
  · have hp' : p < n := by omega
    have h4 := h1 p hp' k (hk hp')
    have h5 := hs.m p hp'
    have h6 := hk hp'
    by_cases e2 : k = (x p).n
    · have := hj0 (.inr e2); omega
    · have h7 := hj (by omega) hp'
      have h8 := hs.k p k hp' (by omega)
      omega
end Go.Sx
namespace Go.Proofs.Ytpaejfeojdoikaa.Rw
open Go.Proofs.Ytpaejfeojdoikaa.Rm
open Go.Sx
set_option maxRecDepth 100000
theorem wrap_u64 {c : Nat} (h : c ≤ 1000) : IntKind.wrap .u64 (c : Int) = c := by
  have : ∀ x : Int, IntKind.wrap .u64 x = x % 18446744073709551616 := fun x => by unfold IntKind.wrap; rfl
  rw [this]; omega
theorem atCode_satG {α : Type} {P : Program} {t : Tree α} {B : Gh} {Q : α → Gh → Prop} {c : Code} {st : AS} (hc : codeC t = c) (hst : codeS t = st) (post : Ex → AS → Gh → Prop) (h : TripleG P c st B post) (hk : ∀ e s B', post e s B' → SatG P (codeK t e s) B' Q) : SatG P (atCode t) B Q := by
  subst hc; subst hst
  exact ⟨post, h, fun e s B' hp => (hk e s B' hp).ok⟩
theorem sg17_def (n : Nat) (lw : Nat → Nat → Int) (m : Nat → Nat) (nn : Nat → Nat → Nat) (A : Nat → Nat → Option Addr) (C : Nat → Nat → Nat) (i a c p k w : Int) : codeS (sub [0, 0, 0, 0] (bW4 n lw m nn A C i a c p k w)) = sg17 n lw m nn A C i a c p k w := rfl
section
variable {n : Nat} {x : Nat → FsT} {lw : Nat → Nat → Int} {A : Nat → Nat → Option Addr} {C : Nat → Nat → Nat} {a : Nat}
def AtC (n : Nat) (x : Nat → FsT) (A : Nat → Nat → Option Addr) (C : Nat → Nat → Nat) (a : Nat) (v : Int) (c : Nat) (B : Gh) : Prop := Nst B (nnF x) (wcF (mmF x) (nnF x) (wwF x) a v c) A C (AllF n x)
theorem wd5_sat (hs : Sml 4 n x) {p k w c : Nat} (hp : p < n) (hk : k < mmF x p) (hw : w ≤ nnF x p k) (hc : c = posW (mmF x) (nnF x) p k w) {B : Gh} (hB : AtC n x A C a (lw 0 1) c B) :
    SatG Try.prog (bW4 n lw (mmF x) (nnF x) A C (0 : Nat) a c p k w) B fun r B' => (w < nnF x p k ∧ r.1 = .normal ∧ AtC n x A C a (lw 0 1) (c + 1) B' ∧ r.2 = stW4 n lw (mmF x) (nnF x) A C (0 : Nat) a (c + 1 : Nat) p k (w + 1 : Nat)) ∨
      (w = nnF x p k ∧ r.1 = .exit 6 ∧ B' = B ∧ r.2 = stW4 n lw (mmF x) (nnF x) A C (0 : Nat) a c p k w) := by
  have hc64 : c ≤ 64 := by rw [hc]; exact posW_le hs (by omega) (fun _ => by unfold mmF at hk; omega) (by omega) (fun _ _ => hw) (fun h => by unfold mmF at hk; omega)
  have hk' : k < (x p).n := hk
  have hn4 := hs.k p k hp hk'
  have hw4 : w ≤ 4 := Nat.le_trans hw hn4
  refine SatG.of_eq (BW4_eq n lw (mmF x) (nnF x) A C (0 : Nat) a c p k w) ⟨?_⟩
  unfold BW4
  rw [Int.toNat_natCast, Int.toNat_natCast]
  refine ⟨by omega, by omega, fun h1 => ?_, fun h1 => ?_⟩
  · simp only [decide_eq_true_eq] at h1
    have hlt : w < nnF x p k := by omega
    have e1 : w64 ((c : Int) + 1) = ((c + 1 : Nat) : Int) := by rw [w64_of (by omega) (by omega)]; omega
    have e2 : w64 ((w : Int) + 1) = ((w + 1 : Nat) : Int) := by rw [w64_of (by omega) (by omega)]; omega
    refine ⟨fun h2 => ?_, fun h2 => ?_⟩
    · rw [wrap_u64 (by omega), beq_iff_eq] at h2
      obtain rfl : a = c := by omega
      refine (atCode_satG (rg17_eq n lw (mmF x) (nnF x) A C (0 : Nat) a a p k w) (sg17_def n lw (mmF x) (nnF x) A C (0 : Nat) a a p k w) _ (rg17_G n lw (mmF x) (nnF x) A C (0 : Nat) a a B hB hp hk (by omega) ⟨hp, hk'⟩ hlt) ?_).ok
      intro e s B' h
      obtain ⟨he, hss, hN⟩ := h
      subst he
      rw [hss]
      clear hss
      refine SatG.of_eq (KW4_eq n lw (mmF x) (nnF x) A C (0 : Nat) a a p k w) (satG_ret (Or.inl ⟨hlt, rfl, ?_, ?_⟩))
      · refine hN.words fun p' k' j' h3 h4 => ?_
        rw [hc]
        exact wcF_step hk hlt h3.2 h4
      · show stW4 n lw (mmF x) (nnF x) A C (0 : Nat) a (w64 ((a : Int) + 1)) p k (w64 ((w : Int) + 1)) = _
        rw [e1, e2]
    · rw [wrap_u64 (by omega), beq_eq_false_iff_ne] at h2
      refine Or.inl ⟨hlt, rfl, ?_, ?_⟩
      · unfold AtC at hB ⊢
        rw [← wcF_skip (by omega)]
        exact hB
      · show stW4 n lw (mmF x) (nnF x) A C (0 : Nat) a (w64 ((c : Int) + 1)) p k (w64 ((w : Int) + 1)) = _
        rw [e1, e2]
  · simp only [decide_eq_false_iff_not] at h1
    obtain rfl : w = nnF x p k := by omega
    exact Or.inr ⟨rfl, rfl, rfl, rfl⟩
end
end Go.Proofs.Ytpaejfeojdoikaa.Rw
namespace Go.Proofs.Ytpaejfeojdoikaa.Rw
open Go.Proofs.Ytpaejfeojdoikaa.Rm
open Go.Sx
set_option maxRecDepth 100000
section
variable {n : Nat} {x : Nat → FsT} {lw : Nat → Nat → Int} {A : Nat → Nat → Option Addr} {C : Nat → Nat → Nat} {a : Nat}
theorem wd4_sat (hs : Sml 4 n x) {p k c : Nat} (hp : p < n) (hk : k < mmF x p) (hc : c = posW (mmF x) (nnF x) p k 0) {B : Gh} (hB : AtC n x A C a (lw 0 1) c B) (T : Tree (Ex × AS)) (hT : T = atCode (sub [0, 0] (bW3 n lw (mmF x) (nnF x) A C (0 : Nat) a c p k))) :
    SatG Try.prog T B fun r B' => r.1 = .normal ∧ AtC n x A C a (lw 0 1) (posW (mmF x) (nnF x) p (k + 1) 0) B' ∧ r.2 = stW3 n lw (mmF x) (nnF x) A C (0 : Nat) a (posW (mmF x) (nnF x) p (k + 1) 0 : Nat) p (k + 1 : Nat) := by
  subst hT
  have hk' : k < (x p).n := hk
  have hm4 := hs.m p hp
  have hend : posW (mmF x) (nnF x) p (k + 1) 0 = posW (mmF x) (nnF x) p k (nnF x p k) := by unfold posW; show _ + (_ + _) + 0 = _; omega
  refine ⟨code_satG C00_ok d00_drawn (stop := stopW) (n := 200) (n0 := 0) (nx := 0) (roots := []) (keep := [1, 5, 6, 7, 8, 9, 10, 11]) (drop := []) (h := .nil) (body := bodyW4) (by kernel_rfl) (by kernel_rfl)
    (fun q t B => ∃ w : Nat, q = nnF x p k - w ∧ w ≤ nnF x p k ∧ AtC n x A C a (lw 0 1) (posW (mmF x) (nnF x) p k w) B ∧ t = stW4 n lw (mmF x) (nnF x) A C (0 : Nat) a (posW (mmF x) (nnF x) p k w : Nat) p k w)
    (fun e t B => e = .exit 6 ∧ AtC n x A C a (lw 0 1) (posW (mmF x) (nnF x) p k (nnF x p k)) B ∧ t = stW4 n lw (mmF x) (nnF x) A C (0 : Nat) a (posW (mmF x) (nnF x) p k (nnF x p k) : Nat) p k (nnF x p k))
    ⟨_, _, ⟨0, rfl, Nat.zero_le _, hc ▸ hB, rfl⟩, ?_⟩ ?_ ?_⟩
  · rw [← hc]
    exact entA_sound (EW4_eq n lw (mmF x) (nnF x) A C (0 : Nat) a c p k)
  · rintro q t B ⟨w, rfl, hw, hB, rfl⟩
    refine (wd5_sat hs hp hk hw rfl hB).mono fun r B' hr => ?_
    obtain ⟨ex, st⟩ := r
    rcases hr with ⟨h1, h2, h3, h4⟩ | ⟨h1, h2, h3, h4⟩
    · obtain rfl : ex = .normal := h2
      exact ⟨nnF x p k - (w + 1), _, by omega, ⟨w + 1, rfl, h1, h3, rfl⟩, by rw [show st = _ from h4]; exact Gc.refl _ _⟩
    · obtain rfl : ex = .exit 6 := h2
      subst h3
      rw [h1] at hB h4
      exact ⟨_, ⟨rfl, hB, rfl⟩, by rw [show st = _ from h4]; exact Gc.refl _ _⟩
  · intro e t B' h
    obtain ⟨he, hB, ht⟩ := h
    subst he
    rw [ht]
    clear ht
    refine SatG.of_eq (KW3_eq n lw (mmF x) (nnF x) A C (0 : Nat) a (posW (mmF x) (nnF x) p k (nnF x p k) : Nat) p k (nnF x p k) c) (satG_ret ⟨rfl, by rw [hend]; exact hB, ?_⟩)
    have e2 : w64 ((k : Int) + 1) = ((k + 1 : Nat) : Int) := by rw [w64_of (by omega) (by omega)]; omega
    rw [hend, ← e2]
theorem wd3_sat (hs : Sml 4 n x) {p c : Nat} (hp : p < n) (hc : c = posW (mmF x) (nnF x) p 0 0) {B : Gh} (hB : AtC n x A C a (lw 0 1) c B) (T : Tree (Ex × AS)) (hT : T = atCode (sub [0] (bW2 n lw (mmF x) (nnF x) A C (0 : Nat) a c p))) :
    SatG Try.prog T B fun r B' => r.1 = .normal ∧ AtC n x A C a (lw 0 1) (posW (mmF x) (nnF x) (p + 1) 0 0) B' ∧ r.2 = stW2 n lw (mmF x) (nnF x) A C (0 : Nat) a (posW (mmF x) (nnF x) (p + 1) 0 0 : Nat) (p + 1 : Nat) := by
  subst hT
  have hn4 := hs.le
  have hm4 : mmF x p ≤ 4 := hs.m p hp
  have hend : posW (mmF x) (nnF x) (p + 1) 0 0 = posW (mmF x) (nnF x) p (mmF x p) 0 := by unfold posW; show _ + _ + 0 + 0 = _; omega
  refine ⟨code_satG C00_ok d00_drawn (stop := stopW) (n := 200) (n0 := 0) (nx := 0) (roots := []) (keep := [1, 5, 6, 7, 8, 9, 10]) (drop := []) (h := .nil) (body := bodyW3) (by kernel_rfl) (by kernel_rfl)
    (fun q t B => ∃ k : Nat, q = mmF x p - k ∧ k ≤ mmF x p ∧ AtC n x A C a (lw 0 1) (posW (mmF x) (nnF x) p k 0) B ∧ t = stW3 n lw (mmF x) (nnF x) A C (0 : Nat) a (posW (mmF x) (nnF x) p k 0 : Nat) p k)
    (fun e t B => e = .exit 4 ∧ AtC n x A C a (lw 0 1) (posW (mmF x) (nnF x) p (mmF x p) 0) B ∧ t = stW3 n lw (mmF x) (nnF x) A C (0 : Nat) a (posW (mmF x) (nnF x) p (mmF x p) 0 : Nat) p (mmF x p))
    ⟨_, _, ⟨0, rfl, Nat.zero_le _, hc ▸ hB, rfl⟩, ?_⟩ ?_ ?_⟩
  · rw [← hc]
    exact entA_sound (EW3_eq n lw (mmF x) (nnF x) A C (0 : Nat) a c p)
  · rintro q t B ⟨k, rfl, hk, hB, rfl⟩
    refine SatG.of_eq (BW3_eq n lw (mmF x) (nnF x) A C (0 : Nat) a (posW (mmF x) (nnF x) p k 0 : Nat) p k) ⟨?_⟩
    unfold BW3
    rw [Int.toNat_natCast]
    refine ⟨by omega, fun h1 => ?_, fun h1 => ?_⟩
    · simp only [decide_eq_true_eq] at h1
      have hlt : k < mmF x p := by omega
      refine Tree.satG_mono (fun r B' hr => ?_) (wd4_sat hs hp hlt rfl hB _ rfl).ok
      obtain ⟨ex, st⟩ := r
      obtain ⟨h2, h3, h4⟩ := hr
      obtain rfl : ex = .normal := h2
      exact ⟨mmF x p - (k + 1), _, by omega, ⟨k + 1, rfl, hlt, h3, rfl⟩, by rw [show st = _ from h4]; exact Gc.refl _ _⟩
    · simp only [decide_eq_false_iff_not] at h1
      obtain rfl : k = mmF x p := by omega
      exact ⟨_, ⟨rfl, hB, rfl⟩, Gc.refl _ _⟩
  · intro e t B' h
    obtain ⟨he, hB, ht⟩ := h
    subst he
    rw [ht]
    clear ht
    refine SatG.of_eq (KW2_eq n lw (mmF x) (nnF x) A C (0 : Nat) a (posW (mmF x) (nnF x) p (mmF x p) 0 : Nat) p (mmF x p) c) (satG_ret ⟨rfl, by rw [hend]; exact hB, ?_⟩)
    have e2 : w64 ((p : Int) + 1) = ((p + 1 : Nat) : Int) := by rw [w64_of (by omega) (by omega)]; omega
    rw [hend, ← e2]
theorem wd2_sat (hs : Sml 4 n x) (ha : Int.tmod (lw 0 0) 64 = a) {B : Gh} (hB : AtC n x A C a (lw 0 1) 0 B) (T : Tree (Ex × AS)) (hT : T = atCode (sub [0, 0, 0, 0] (bW1 n lw (mmF x) (nnF x) A C (0 : Nat)))) :
    SatG Try.prog T B fun r B' => r.1 = .normal ∧ AtC n x A C a (lw 0 1) (posW (mmF x) (nnF x) n 0 0) B' ∧ r.2 = stW1 n lw (mmF x) (nnF x) A C 1 := by
  subst hT
  have hn4 := hs.le
  refine ⟨code_satG C00_ok d00_drawn (stop := stopW) (n := 200) (n0 := 0) (nx := 0) (roots := []) (keep := [1, 5, 6, 7, 8, 9]) (drop := []) (h := .nil) (body := bodyW2) (by kernel_rfl) (by kernel_rfl)
    (fun q t B => ∃ p : Nat, q = n - p ∧ p ≤ n ∧ AtC n x A C a (lw 0 1) (posW (mmF x) (nnF x) p 0 0) B ∧ t = stW2 n lw (mmF x) (nnF x) A C (0 : Nat) a (posW (mmF x) (nnF x) p 0 0 : Nat) p)
    (fun e t B => e = .exit 2 ∧ AtC n x A C a (lw 0 1) (posW (mmF x) (nnF x) n 0 0) B ∧ t = stW2 n lw (mmF x) (nnF x) A C (0 : Nat) a (posW (mmF x) (nnF x) n 0 0 : Nat) n)
    ⟨_, _, ⟨0, rfl, Nat.zero_le _, hB, rfl⟩, ?_⟩ ?_ ?_⟩
  · rw [← ha]
    exact entA_sound (EW2_eq n lw (mmF x) (nnF x) A C (0 : Nat))
  · rintro q t B ⟨p, rfl, hp, hB, rfl⟩
    refine SatG.of_eq (BW2_eq n lw (mmF x) (nnF x) A C (0 : Nat) a (posW (mmF x) (nnF x) p 0 0 : Nat) p) ⟨?_⟩
    refine ⟨fun h1 => ?_, fun h1 => ?_⟩
    · simp only [decide_eq_true_eq] at h1
      have hlt : p < n := by omega
      refine Tree.satG_mono (fun r B' hr => ?_) (wd3_sat hs hlt rfl hB _ rfl).ok
      obtain ⟨ex, st⟩ := r
      obtain ⟨h2, h3, h4⟩ := hr
      obtain rfl : ex = .normal := h2
      exact ⟨n - (p + 1), _, by omega, ⟨p + 1, rfl, hlt, h3, rfl⟩, by rw [show st = _ from h4]; exact Gc.refl _ _⟩
    · simp only [decide_eq_false_iff_not] at h1
      obtain rfl : p = n := by omega
      exact ⟨_, ⟨rfl, hB, rfl⟩, Gc.refl _ _⟩
  · intro e t B' h
    obtain ⟨he, hB, ht⟩ := h
    subst he
    rw [ht]
    clear ht
    exact SatG.of_eq (KW1_eq n lw (mmF x) (nnF x) A C (0 : Nat) a (posW (mmF x) (nnF x) n 0 0 : Nat) n (0 : Nat)) (satG_ret ⟨rfl, hB, rfl⟩)
def wdP (n : Nat) (x : Nat → FsT) (a : Nat) (v : Int) (d : Sx.DV) (B : Gh) : Prop := ∃ A C, d = .ro n 1 (exS (mmF x) (nnF x) A C) ∧ AtC n x A C a v (posW (mmF x) (nnF x) n 0 0) B
theorem wd_sat (hs : Sml 4 n x) (ha : Int.tmod (lw 0 0) 64 = a) : SatG Try.prog (tWd n x lw) noGh fun s B => ∃ d, s = .d d ∧ wdP n x a (lw 0 1) d B := by
  have hn4 := hs.le
  refine SatG.of_eq (LWd_eq n x lw) ?_
  refine atCode_satG (rg1_eq n x lw) (st := sg1 n x lw) rfl _ (rg1_G n x lw ⟨by have := hs.le; omega, fun p hp => by have := hs.m p hp; omega, fun p k hp hk => by have := hs.k p k hp hk; omega⟩ noGh) ?_
  intro e s B h
  obtain ⟨he, A, C, hss, hB⟩ := h
  subst he
  rw [hss]
  clear hss
  refine SatG.of_eq (KW0_eq n x lw (mmF x) (nnF x) A C) ⟨?_⟩
  refine code_satG C00_ok d00_drawn (stop := stopW) (n := 200) (n0 := 0) (nx := 0) (roots := []) (keep := [1, 5, 6]) (drop := []) (h := .nil) (body := bodyW1) (by kernel_rfl) (by kernel_rfl)
    (fun q t B => (q = 1 ∧ AtC n x A C a (lw 0 1) 0 B ∧ t = stW1 n lw (mmF x) (nnF x) A C (0 : Nat)) ∨ (q = 0 ∧ AtC n x A C a (lw 0 1) (posW (mmF x) (nnF x) n 0 0) B ∧ t = stW1 n lw (mmF x) (nnF x) A C 1))
    (fun e t B => e = .exit 0 ∧ AtC n x A C a (lw 0 1) (posW (mmF x) (nnF x) n 0 0) B ∧ t = stW1 n lw (mmF x) (nnF x) A C 1)
    ⟨1, _, .inl ⟨rfl, by unfold AtC; rw [wcF_zero]; exact hB, rfl⟩, ?_⟩ ?_ ?_
  · exact entA_sound (EW1_eq n x lw (mmF x) (nnF x) A C)
  · rintro q t B (⟨rfl, hB, rfl⟩ | ⟨rfl, hB, rfl⟩)
    · refine SatG.of_eq (BW1_eq n lw (mmF x) (nnF x) A C (0 : Nat)) ⟨?_⟩
      unfold BW1
      refine ⟨fun h1 => ⟨by omega, by omega, by omega, ?_⟩, fun h1 => by simp at h1⟩
      refine Tree.satG_mono (fun r B' hr => ?_) (wd2_sat hs ha hB _ rfl).ok
      obtain ⟨ex, st⟩ := r
      obtain ⟨h2, h3, h4⟩ := hr
      obtain rfl : ex = .normal := h2
      exact ⟨0, _, by omega, .inr ⟨rfl, h3, rfl⟩, by rw [show st = _ from h4]; exact Gc.refl _ _⟩
    · refine SatG.of_eq (BW1_eq n lw (mmF x) (nnF x) A C 1) ⟨?_⟩
      unfold BW1
      refine ⟨fun h1 => by simp at h1, fun h1 => ?_⟩
      exact ⟨_, ⟨rfl, hB, rfl⟩, Gc.refl _ _⟩
  · intro e t B' h
    obtain ⟨he, hB, ht⟩ := h
    subst he
    rw [ht]
    clear ht
    exact SatG.of_eq (KW9_eq n x lw (mmF x) (nnF x) A C 1) (satG_ret ⟨_, rfl, A, C, rfl, hB⟩)
theorem wd_ok (hs : Sml 4 n x) (ha : Int.tmod (lw 0 0) 64 = a) : GCtr Try.prog 53 [ssS n x, lwS lw] (wdP n x a (lw 0 1)) := gctr_of C00_ok d00_drawn (by kernel_rfl) (by kernel_rfl) (wd_sat hs ha)
end
end Go.Proofs.Ytpaejfeojdoikaa.Rw
namespace Go.Sx
def wodF (x : Nat → FsT) (a : Nat) (v : Int) (p : Nat) : FsT := ⟨(x p).n, fun k => ⟨((x p).f k).n, fun j => if posW (mmF x) (nnF x) p k j = a then v else ((x p).f k).w j⟩⟩
def _root_.Go.Proofs.WdD (n : Nat) (F : Nat → Nat → DV) (L : Nat → Nat → DV) : Prop := Sml 4 n (fun p => fsOf (F p)) ∧ 0 ≤ numV (L 0 0) ∧ ∀ j, j < 2 → L 0 j = .x (.int .u64 (numV (L 0 j)))
end Go.Sx
namespace Go.Proofs.Ytpaejfeojdoikaa.Rw
open Go.Proofs.Ytpaejfeojdoikaa.Rm
open Go.Sx
set_option maxRecDepth 100000
theorem wd_melts {n : Nat} {x : Nat → FsT} {a : Nat} {v : Int} {d : Sx.DV} {B : Gh} (h : wdP n x a v d B) : Melts B d (.ro n 1 fun i j => fsC (wodF x a v i) j) := by
  obtain ⟨A, C, rfl, hN⟩ := h
  intro w F vv hrep hB
  have hfr : ∀ p k (u : Value), p < n → k < (x p).n → RepD w F u (.x (.slice (A p k) (nnF x p k) (C p k))) → RepD w F u (fmC ((wodF x a v p).f k) 0) := by
    intro p k u hp hk hu
    have := repd_x hu; subst this
    have hc := hN.2.2 p k ⟨hp, hk⟩
    have hl := hN.1 p k ⟨hp, hk⟩
    show RepD w F _ (.ro (nnF x p k) 1 fun j _ => .x (.int .u64 (if posW (mmF x) (nnF x) p k j = a then v else ((x p).f k).w j)))
    by_cases h0 : nnF x p k = 0
    · rw [h0]
      cases hA : A p k with
      | none => rw [hc.1 hA]; exact .nil _ _
      | some ad => exact .z ad _ _ _
    · rcases hl with hl | ⟨b, o, cs, e, h1, h2, h3, h4⟩
      · exact (h0 hl).elim
      obtain ⟨g1, g2⟩ := hB b _ h2
      rw [h1]
      refine .ro b o _ _ 1 _ (fun i j => cs.getD (o + (i * 1 + j)) undef) (fun _ => g2) hc.2 (fun i j hi hj => cell_of_heap g1 (by simp only; omega)) (fun i j hi hj => ?_) (fun i j hi hj => ?_)
      · have := h4 i hi
        rw [show o + (i * 1 + j) = o + i by omega, this]; rfl
      · have h5 := h4 i hi
        have : (fun j => Value.int .u64 (wcF (mmF x) (nnF x) (wwF x) a v (posW (mmF x) (nnF x) n 0 0) p k j)) i = .int .u64 (if posW (mmF x) (nnF x) p k i = a then v else ((x p).f k).w i) := by
          dsimp only
          unfold wcF
          have hlt : posW (mmF x) (nnF x) p k i < posW (mmF x) (nnF x) n 0 0 := posW_lt hk hi (.inl hp)
          by_cases h6 : posW (mmF x) (nnF x) p k i = a
          · rw [if_pos h6, if_pos ⟨h6, by omega⟩]
          · rw [if_neg h6, if_neg (fun h => h6 h.1)]; rfl
        rw [show o + (i * 1 + j) = o + i by omega, h5, this]
        exact .x _
  have hpr : ∀ p (u : Value), p < n → RepD w F u (.ro (mmF x p) 1 (exF (nnF x p) (A p) (C p))) → RepD w F u (fsC (wodF x a v p) 0) := by
    intro p u hp hu
    show RepD w F u (.ro (mmF x p) 1 fun k j => fmC ((wodF x a v p).f k) j)
    obtain ⟨q, hq⟩ : ∃ q, mmF x p = q := ⟨_, rfl⟩
    rw [hq] at hu ⊢
    generalize hd : DV.ro q 1 (exF (nnF x p) (A p) (C p)) = dd at hu
    cases hu with
    | x => cases hd
    | rf => cases hd
    | nil => cases hd; exact .nil _ _
    | z => cases hd; exact .z _ _ _ _
    | ro b o len cap esz cell f hF hc hcell hone hrep =>
      cases hd
      refine .ro b o _ cap 1 _ f hF hc hcell hone fun i j hi hj => ?_
      obtain rfl : j = 0 := by omega
      exact hfr p i _ hp (by have : mmF x p = (x p).n := rfl; omega) (hrep i 0 hi hj)
  generalize hd : DV.ro n 1 (exS (mmF x) (nnF x) A C) = dd at hrep
  cases hrep with
  | x => cases hd
  | rf => cases hd
  | nil => cases hd; exact .nil _ _
  | z => cases hd; exact .z _ _ _ _
  | ro b o len cap esz cell f hF hc hcell hone hrep =>
    cases hd
    refine .ro b o _ cap 1 _ f hF hc hcell hone fun i j hi hj => ?_
    obtain rfl : j = 0 := by omega
    exact hpr i _ hi (hrep i 0 hi hj)
noncomputable def cWo : Ctr := fun ss => match ss with
  | [.d (.ro n 1 F), .d (.ro 1 2 L)] => .need ((SsD n F) ∧ WdD n F L) (.ret (ssS n (wodF (fun p => fsOf (F p)) (numV (L 0 0) % 64).toNat (numV (L 0 1)))))
  | _ => .fail
theorem cWo_ok : CtrOK Try.prog 53 cWo := ctrOK_ofG fun ss r h => by
  unfold cWo at h
  split at h
  · rename_i n F L
    obtain ⟨⟨h1, hs, h0, h2⟩, rfl⟩ := h
    have ha : Int.tmod (numV (L 0 0)) 64 = ((numV (L 0 0) % 64).toNat : Int) := by rw [Int.tmod_eq_emod_of_nonneg h0]; omega
    refine ⟨[ssS n fun p => fsOf (F p), lwS fun i j => numV (L i j)], _, ?_, wd_ok hs ha, fun d B hd => ⟨_, rfl, wd_melts hd⟩⟩
    unfold ssS lwS
    simp only [leSVs, leSV, leD, and_true, true_and]
    refine ⟨fun i j hi hj => ?_, fun i j hi hj => ?_⟩
    · obtain rfl : j = 0 := by omega
      exact (h1 i hi).2
    · obtain rfl : i = 0 := by omega
      exact h2 j hj
  · exact h.elim
end Go.Proofs.Ytpaejfeojdoikaa.Rw
namespace Go.Proofs.Ytpaejfeojdoikaa
open Go.Sx
set_option maxRecDepth 100000
structure Rel where
  no : Int
  prev : Int
  src : Int
  cir : Int
  fn : Nat
  fc : Nat → Int
  b0 : Int
  b1 : Int
  b2 : Int
  b3 : Int
  b4 : Int
  b5 : Int
  b6 : Int
  b7 : Int
  b8 : Int
  b9 : Int
  b10 : Int
  b11 : Int
  pn : Int
  pd : Int
  tag : Int
def u64d (n : Int) : DV := .x (.int .u64 n)
def relD (r : Rel) : Nat → DV
  | 0 => i64d r.no
  | 1 => u64d r.prev
  | 2 => u64d r.src
  | 3 => u64d r.cir
  | 4 => .ro r.fn 1 fun i _ => .x (.int .u64 (r.fc i))
  | 5 => i64d r.b0
  | 6 => i64d r.b1
  | 7 => i64d r.b2
  | 8 => i64d r.b3
  | 9 => i64d r.b4
  | 10 => i64d r.b5
  | 11 => i64d r.b6
  | 12 => i64d r.b7
  | 13 => i64d r.b8
  | 14 => i64d r.b9
  | 15 => i64d r.b10
  | 16 => i64d r.b11
  | 17 => i64d r.pn
  | 18 => i64d r.pd
  | 19 => u64d r.tag
  | _ => .x undef
def relB (r : Rel) : List Int := [r.b0, r.b1, r.b2, r.b3, r.b4, r.b5, r.b6, r.b7, r.b8, r.b9, r.b10, r.b11]
def relL (r : Rel) : List SV := [iv r.no, u64v r.prev, u64v r.src, u64v r.cir, rou64 r.fn r.fc, iv r.b0, iv r.b1, iv r.b2, iv r.b3, iv r.b4, iv r.b5, iv r.b6, iv r.b7, iv r.b8, iv r.b9, iv r.b10, iv r.b11, iv r.pn, iv r.pd, u64v r.tag]
def int1 (k : IntKind) : SV → Option Int
  | .d (.x (.int k' n)) => if k = k' then some n else none
  | _ => none
theorem int1_eq {k : IntKind} {s : SV} {n : Int} (h : int1 k s = some n) : s = .d (.x (.int k n)) := by
  unfold int1 at h
  split at h
  · split at h
    · rename_i hk; subst hk; simp only [Option.some.injEq] at h; subst h; rfl
    · cases h
  · cases h
def U64C (n : Nat) (cell : Nat → Nat → DV) : Prop := n ≤ 1000000 ∧ ∀ i, i < n → cell i 0 = u64d (intCell cell i)
noncomputable def relOf : List SV → Option (Rel × Prop)
  | [a0, a1, a2, a3, .d f, c0, c1, c2, c3, c4, c5, c6, c7, c8, c9, c10, c11, pn, pd, tag] =>
    (int1 .i64 a0).bind fun no => (int1 .u64 a1).bind fun prev => (int1 .u64 a2).bind fun src => (int1 .u64 a3).bind fun cir => (rowD 1 f).bind fun fr => match fr with
    | (n, cell) =>
    (int1 .i64 c0).bind fun b0 => (int1 .i64 c1).bind fun b1 => (int1 .i64 c2).bind fun b2 => (int1 .i64 c3).bind fun b3 => (int1 .i64 c4).bind fun b4 => (int1 .i64 c5).bind fun b5 => (int1 .i64 c6).bind fun b6 => (int1 .i64 c7).bind fun b7 => (int1 .i64 c8).bind fun b8 => (int1 .i64 c9).bind fun b9 => (int1 .i64 c10).bind fun b10 => (int1 .i64 c11).bind fun b11 =>
    (int1 .i64 pn).bind fun pn => (int1 .i64 pd).bind fun pd => (int1 .u64 tag).bind fun tag =>
    some (⟨no, prev, src, cir, n, intCell cell, b0, b1, b2, b3, b4, b5, b6, b7, b8, b9, b10, b11, pn, pd, tag⟩, U64C n cell)
  | _ => none
theorem relOf_le {l : List SV} {r : Rel} {p : Prop} (h : relOf l = some (r, p)) (hp : p) : leSVs 0 [] [] l (relL r) ∧ r.fn ≤ 1000000 := by
  unfold relOf at h
  split at h
  · simp only [Option.bind_eq_some_iff] at h
    obtain ⟨no, e0, prev, e1, src, e2, cir, e3, ⟨n, cell⟩, ef, b0, g0, b1, g1, b2, g2, b3, g3, b4, g4, b5, g5, b6, g6, b7, g7, b8, g8, b9, g9, b10, g10, b11, g11, pn, e4, pd, e5, tag, e6, h⟩ := h
    simp only [Option.some.injEq, Prod.mk.injEq] at h
    obtain ⟨rfl, rfl⟩ := h
    rw [int1_eq e0, int1_eq e1, int1_eq e2, int1_eq e3, int1_eq e4, int1_eq e5, int1_eq e6, int1_eq g0, int1_eq g1, int1_eq g2, int1_eq g3, int1_eq g4, int1_eq g5, int1_eq g6, int1_eq g7, int1_eq g8, int1_eq g9, int1_eq g10, int1_eq g11]
    refine ⟨?_, hp.1⟩
    have hf : leD _ (.ro n 1 fun i _ => .x (.int .u64 (intCell cell i))) := rowD_le ef fun i j hi hj => by
      obtain rfl : j = 0 := by omega
      exact hp.2 i hi
    simp only [relL, leSVs, leSV, iv, u64v, rou64, hf, true_and, and_true]
    simp [leD]
  · cases h
noncomputable def manL : FuncId → Option Ctr := fun k => match k with
  | 100 => some cWords
  | k => manK k
theorem manL_ok (k : Nat) (c : Ctr) (h : manL k = some c) : CtrOK Try.prog k c ∧ goodF Try.prog k = true := by
  unfold manL at h
  split at h
  · cases h; exact ⟨cWords_ok, by kernel_rfl⟩
  · exact manK_ok _ _ h
noncomputable def CL0 : Ctx := ctxN Try.prog manL (fun k => k == 122) 200 .nil 6
theorem CL0_ok : CtxOK Try.prog CL0 := ctxN_ok mixed manL_ok 6
noncomputable def DL0 : Dr := fun _ => drawn Try.prog CL0
theorem DL0_ok : DrOK Try.prog CL0 DL0 := drawn_ok CL0_ok mixed
noncomputable def tFo (a b : Int) : Tree (Nat × Nat × (Nat → Nat → DV)) := fnOT Try.prog CL0 DL0 200 (fnOf Try.prog 156) (bodyOf Try.prog 156) [.agg [iv a, iv b]] .nil
noncomputable def LFo (a b : Int) : Tree (Nat × Nat × (Nat → Nat → DV)) :=
  .need (2 ≤ List.length [iv a, iv b]) (.ret (2, 1, fun i j => dsAt [DV.x (.int .i64 a), DV.x (.int .i64 b)] (0 + (0 + i) * 1 + j)))
theorem LFo_eq (a b : Int) : tFo a b = LFo a b := by kernel_rfl
noncomputable def oFrac : Octr := fun ss => match ss with
  | [.agg [.d (.x (.int .i64 a)), .d (.x (.int .i64 b))]] => .ret (2, 1, fun i j => dsAt [i64d a, i64d b] (0 + (0 + i) * 1 + j))
  | _ => .fail
theorem oFrac_ok : OwnOK Try.prog 156 oFrac := by
  refine ownOK_leS CL0_ok DL0_ok (by kernel_rfl) (by kernel_rfl) fun ss n esz cell h => ?_
  unfold oFrac at h
  split at h
  · rename_i a b
    simp only [Tr.ev, Prod.mk.injEq] at h
    obtain ⟨rfl, rfl, rfl⟩ := h
    refine ⟨[.agg [iv a, iv b]], 200, .nil, by simp [leSVs, leSV, iv, leD], Sat.of_eq (LFo_eq a b) ⟨?_⟩⟩
    unfold LFo
    exact ⟨len2 _ _, rfl, rfl, fun _ _ _ _ => rfl⟩
  · exact h.elim
noncomputable def ownL : FuncId → Option Octr := fun k => match k with
  | 156 => some oFrac
  | _ => none
theorem ownL_ok (k : Nat) (c : Octr) (h : ownL k = some c) : OwnOK Try.prog k c ∧ goodF Try.prog k = true := by
  unfold ownL at h
  split at h
  · cases h; exact ⟨oFrac_ok, by kernel_rfl⟩
  · cases h
noncomputable def CL : Ctx := ctxO Try.prog manL ownL (fun k => k == 122) 200 .nil 6
theorem CL_ok : CtxOK Try.prog CL := ctxO_ok mixed manL_ok ownL_ok 6
noncomputable def DL : Dr := fun _ => drawn Try.prog CL
theorem DL_ok : DrOK Try.prog CL DL := drawn_ok CL_ok mixed
noncomputable def TL (h : Hint) (k : Nat) (args : List SV) : Tree SV := fnT Try.prog CL DL 200 (fnOf Try.prog k) (bodyOf Try.prog k) args h
noncomputable def tOf (r : Rel) : Tree SV := TL .nil 105 [.agg (relL r)]
noncomputable def LOf (r : Rel) : Tree SV :=
  .need (True ∧ 5 ≤ List.length [iv (Rel.no r), iv (w64 (Rel.prev r)), iv (w64 (Rel.src r)), iv (w64 (Rel.cir r)), iv (↑(Rel.fn r) : Int)] ∧ 40 ≤ 140737488355328)
  (.code (codeC (sub [(0 : Nat)] (tOf r))) (codeS (sub [(0 : Nat)] (tOf r))) (codeK (sub [(0 : Nat)] (tOf r))))
theorem LOf_eq (r : Rel) : tOf r = LOf r := by kernel_rfl
noncomputable def invOf (r : Rel) (k : Nat) (c : Nat → Int) : AS :=
  ⟨[.unk, .ok (.ptr 0 0), .unk, .ok (.ptr 1 0), .ok (.fn (.func 122) [.ptr 1 0] [])] ++ List.replicate 23 .unk ++ [.ok (rou64 r.fn r.fc), .ok (iv r.fn), .ok (iv k)] ++ List.replicate 50 .unk,
   [some (.cells (relL r)), some (.cells [.row 5 0 0 (5 + k) 1]), none, none, none, some (.row (5 + k) 1 fun i _ => .x (.int .i64 (c i)))], 6, uN 3 .nil⟩
noncomputable def bodyOf' : Code := loopN (bodyOf Try.prog 105) 0
noncomputable def rtOf : List (Root × Nat) := [(.cell (.base 1) 0, 5)]
noncomputable def BOf (r : Rel) (k : Nat) (c : Nat → Int) : Tree (Ex × AS) :=
 .ite (decide ((↑k : Int) < (↑(Rel.fn r) : Int)))
 (.need ((0 : Int) ≤ (↑k : Int) ∧ (↑k : Int) < (↑(Rel.fn r) : Int))
 (.need (0 + (5 + k) ≤ 5 + k ∧ 1 ≤ List.length [iv (w64 (Rel.fc r (Int.toNat (↑k : Int))))] ∧ (5 + k + 1) * 8 ≤ 140737488355328)
 (.ret
 (.normal,
 {
 tm :=
 [.unk, .ok (SV.ptr 0 0), .unk, .ok (SV.ptr 1 0), .ok (SV.fn (Fn.func 122) [SV.ptr 1 0] []), .unk, .unk, .unk, .unk, .unk, .unk,
 .unk, .unk, .unk, .unk, .unk, .unk, .unk, .unk, .unk, .unk, .unk, .unk, .unk, .unk, .unk, .unk, .unk,
 .ok (SV.d (DV.ro (Rel.fn r) 1 fun i x => DV.x (.int .u64 (Rel.fc r i)))), .ok (iv (↑(Rel.fn r) : Int)), .ok (iv (w64 ((↑k : Int) + (1 : Int)))), .unk, .unk, .unk, .unk, .unk, .unk,
 .unk, .unk, .unk, .unk, .unk, .unk, .unk, .unk, .unk, .unk, .unk, .unk, .unk, .unk, .unk, .unk, .unk, .unk, .unk, .unk, .unk, .unk, .unk, .unk, .unk, .unk, .unk, .unk,
 .unk, .unk, .unk, .unk, .unk, .unk, .unk, .unk, .unk, .unk, .unk, .unk, .unk, .unk, .unk, .unk],
 hp :=
 [some
 (.cells
 [iv (Rel.no r), SV.d (DV.x (.int .u64 (Rel.prev r))), SV.d (DV.x (.int .u64 (Rel.src r))), SV.d (DV.x (.int .u64 (Rel.cir r))),
 SV.d (DV.ro (Rel.fn r) 1 fun i x => DV.x (.int .u64 (Rel.fc r i))), iv (Rel.b0 r), iv (Rel.b1 r), iv (Rel.b2 r), iv (Rel.b3 r), iv (Rel.b4 r), iv (Rel.b5 r), iv (Rel.b6 r), iv (Rel.b7 r),
 iv (Rel.b8 r), iv (Rel.b9 r), iv (Rel.b10 r), iv (Rel.b11 r), iv (Rel.pn r), iv (Rel.pd r), SV.d (DV.x (.int .u64 (Rel.tag r)))]),
 some (.cells [SV.row 5 0 0 (5 + k + 1) 1]), none, none, none,
 some
 (.row (5 + k + 1) 1 fun a b =>
 selD (decide (a < 5 + k)) (DV.x (.int .i64 (c ((0 : Nat) + a))))
 (dsAt [DV.x (.int .i64 (w64 (Rel.fc r (Int.toNat (↑k : Int)))))] (0 + (0 + (a - (5 + k))) * 1 + b)))],
 next := 6, hint := .u (.t (.u (.t (.u (.t (.u (.f .nil))))))) }))))
 (.ret
 (.exit 0,
 {
 tm :=
 [.unk, .ok (SV.ptr 0 0), .unk, .ok (SV.ptr 1 0), .ok (SV.fn (Fn.func 122) [SV.ptr 1 0] []), .unk, .unk, .unk, .unk, .unk, .unk, .unk,
 .unk, .unk, .unk, .unk, .unk, .unk, .unk, .unk, .unk, .unk, .unk, .unk, .unk, .unk, .unk, .unk, .ok (SV.d (DV.ro (Rel.fn r) 1 fun i x => DV.x (.int .u64 (Rel.fc r i)))),
 .ok (iv (↑(Rel.fn r) : Int)), .ok (iv (↑k : Int)), .unk, .unk, .unk, .unk, .unk, .unk, .unk, .unk, .unk, .unk, .unk, .unk, .unk, .unk, .unk, .unk, .unk, .unk, .unk, .unk, .unk,
 .unk, .unk, .unk, .unk, .unk, .unk, .unk, .unk, .unk, .unk, .unk, .unk, .unk, .unk, .unk, .unk, .unk, .unk, .unk, .unk, .unk, .unk, .unk, .unk, .unk, .unk, .unk, .unk,
 .unk],
 hp :=
 [some
 (.cells
 [iv (Rel.no r), SV.d (DV.x (.int .u64 (Rel.prev r))), SV.d (DV.x (.int .u64 (Rel.src r))), SV.d (DV.x (.int .u64 (Rel.cir r))),
 SV.d (DV.ro (Rel.fn r) 1 fun i x => DV.x (.int .u64 (Rel.fc r i))), iv (Rel.b0 r), iv (Rel.b1 r), iv (Rel.b2 r), iv (Rel.b3 r), iv (Rel.b4 r), iv (Rel.b5 r), iv (Rel.b6 r), iv (Rel.b7 r),
 iv (Rel.b8 r), iv (Rel.b9 r), iv (Rel.b10 r), iv (Rel.b11 r), iv (Rel.pn r), iv (Rel.pd r), SV.d (DV.x (.int .u64 (Rel.tag r)))]),
 some (.cells [SV.row 5 0 0 (5 + k) 1]), none, none, none, some (.row (5 + k) 1 fun i x => DV.x (.int .i64 (c i)))],
 next := 6, hint := .u (.t (.u (.t (.u (.t (.u (.f .nil))))))) }))
theorem BOf_eq (r : Rel) (k : Nat) (c : Nat → Int) : cutT 5 rtOf [1, 3, 4, 28, 29, 30] [2, 4] 6 (uN 3 .nil) (exec Try.prog CL DL 200 bodyOf' (invOf r k c)) = BOf r k c := by kernel_rfl
noncomputable def KOf (r : Rel) (k : Nat) (c : Nat → Int) : Tree SV :=
 .need (true = true)
 (.need ((0 : Int) ≤ (0 : Int) ∧ (0 : Int) < (3 : Int))
 (.need (0 < 3)
 (.need (0 + (5 + k) ≤ 5 + k ∧ 4 ≤ List.length [iv (Rel.b0 r), iv (Rel.b1 r), iv (Rel.b2 r), iv (Rel.b3 r)] ∧ (5 + k + 4) * 8 ≤ 140737488355328)
 (.need (true = true)
 (.need ((0 : Int) ≤ (1 : Int) ∧ (1 : Int) < (3 : Int))
 (.need (1 < 3)
 (.need
 (0 + (5 + k + 4) ≤ 5 + k + 4 ∧
 4 ≤ List.length [iv (Rel.b4 r), iv (Rel.b5 r), iv (Rel.b6 r), iv (Rel.b7 r)] ∧ (5 + k + 4 + 4) * 8 ≤ 140737488355328)
 (.need (true = true)
 (.need ((0 : Int) ≤ (2 : Int) ∧ (2 : Int) < (3 : Int))
 (.need (2 < 3)
 (.need
 (0 + (5 + k + 4 + 4) ≤ 5 + k + 4 + 4 ∧
 4 ≤ List.length [iv (Rel.b8 r), iv (Rel.b9 r), iv (Rel.b10 r), iv (Rel.b11 r)] ∧ (5 + k + 4 + 4 + 4) * 8 ≤ 140737488355328)
 (.need (false = false)
 (.need
 (0 + (5 + k + 4 + 4 + 4) ≤ 5 + k + 4 + 4 + 4 ∧
 2 ≤ List.length [iv (Rel.pn r), iv (Rel.pd r)] ∧ (5 + k + 4 + 4 + 4 + 2) * 8 ≤ 140737488355328)
 (.need (0 + (5 + k + 4 + 4 + 4 + 2) ≤ 5 + k + 4 + 4 + 4 + 2)
 (.ret
 (SV.d
 (DV.ro (5 + k + 4 + 4 + 4 + 2) 1 fun i j =>
 selD (decide (0 + i < 5 + k + 4 + 4 + 4))
 (selD (decide (0 + (0 + i) < 5 + k + 4 + 4))
 (selD (decide (0 + (0 + (0 + i)) < 5 + k + 4))
 (selD (decide (0 + (0 + (0 + (0 + i))) < 5 + k)) (DV.x (.int .i64 (c ((0 : Nat) + ((0 : Nat) + ((0 : Nat) + ((0 : Nat) + ((0 : Nat) + i))))))))
 (dsAt [DV.x (.int .i64 (Rel.b0 r)), DV.x (.int .i64 (Rel.b1 r)), DV.x (.int .i64 (Rel.b2 r)), DV.x (.int .i64 (Rel.b3 r))]
 (0 + (0 + (0 + (0 + (0 + (0 + i))) - (5 + k))) * 1 + j)))
 (dsAt [DV.x (.int .i64 (Rel.b4 r)), DV.x (.int .i64 (Rel.b5 r)), DV.x (.int .i64 (Rel.b6 r)), DV.x (.int .i64 (Rel.b7 r))]
 (0 + (0 + (0 + (0 + (0 + i)) - (5 + k + 4))) * 1 + j)))
 (dsAt [DV.x (.int .i64 (Rel.b8 r)), DV.x (.int .i64 (Rel.b9 r)), DV.x (.int .i64 (Rel.b10 r)), DV.x (.int .i64 (Rel.b11 r))]
 (0 + (0 + (0 + (0 + i) - (5 + k + 4 + 4))) * 1 + j)))
 (dsAt [DV.x (.int .i64 (Rel.pn r)), DV.x (.int .i64 (Rel.pd r))]
 (0 + (0 + (0 + i - (5 + k + 4 + 4 + 4))) * 1 + j)))))))))))))))))))
theorem KOf_eq (r : Rel) (k : Nat) (c : Nat → Int) : codeK (sub [0] (tOf r)) (.exit 0) (invOf r k c) = KOf r k c := by kernel_rfl
noncomputable def entOf (r : Rel) : AS :=
  ⟨[.unk, .ok (.ptr 0 0), .unk, .ok (.ptr 1 0), .ok (.fn (.func 122) [.ptr 1 0] [])] ++ List.replicate 23 .unk ++ [.ok (rou64 r.fn r.fc), .ok (iv r.fn), .ok (iv 0)] ++ List.replicate 50 .unk,
   [some (.cells (relL r)), some (.cells [.row 5 0 0 5 1]), none, none, none, some (.row 5 1 fun a b => bif decide (a < 0) then .x undef else dsAt [i64d r.no, i64d (w64 r.prev), i64d (w64 r.src), i64d (w64 r.cir), i64d r.fn] (0 + (0 + (a - 0)) * 1 + b))], 6, uN 3 .nil⟩
theorem EOf_eq (r : Rel) : entA 5 rtOf [1, 3, 4, 28, 29, 30] [2, 4] 6 (uN 3 .nil) (sub [0] (tOf r)) = some (entOf r) := by kernel_rfl
end Go.Proofs.Ytpaejfeojdoikaa
namespace Go.Proofs.Ytpaejfeojdoikaa
open Go.Sx
set_option maxRecDepth 100000
def numN (r : Rel) (i : Nat) : Int :=
  if i < 5 then ([r.no, w64 r.prev, w64 r.src, w64 r.cir, (r.fn : Int)] : List Int).getD i 0
  else if i < 5 + r.fn then w64 (r.fc (i - 5))
  else (relB r ++ [r.pn, r.pd]).getD (i - 5 - r.fn) 0
theorem selD_if {p : Prop} [Decidable p] {a b : DV} : selD (decide p) a b = if p then a else b := by
  rw [selD_eq]; by_cases h : p <;> simp [h]
theorem of_body {r : Rel} (hn : r.fn ≤ 1000000) {k : Nat} (hk : k < r.fn) (i : Nat) (hi : i < 5 + k + 1) (j : Nat) (hj : j < 1) :
    selD (decide (i < 5 + k)) (DV.x (.int .i64 (numN r ((0 : Nat) + i)))) (dsAt [DV.x (.int .i64 (w64 (Rel.fc r (Int.toNat (k : Int)))))] (0 + (0 + (i - (5 + k))) * 1 + j)) = DV.x (.int .i64 (numN r i)) := by
  obtain rfl : j = 0 := by omega
  rw [selD_if]
  by_cases h : i < 5 + k
  · rw [if_pos h, Nat.zero_add]
  · rw [if_neg h]
    obtain rfl : i = 5 + k := by omega
    rw [show 0 + (0 + (5 + k - (5 + k))) * 1 + 0 = 0 by omega, Int.toNat_natCast]
    unfold numN
    rw [if_neg (by omega), if_pos (by omega), show 5 + k - 5 = k by omega]
    rfl
theorem numN_tail {r : Rel} {j : Nat} (hj : j < 14) : numN r (5 + r.fn + j) = (relB r ++ [r.pn, r.pd]).getD j 0 := by
  unfold numN
  rw [if_neg (by omega), if_neg (by omega), show 5 + r.fn + j - 5 - r.fn = j by omega]
theorem row_split {r : Rel} {P : Nat → Prop} (h1 : ∀ i, i < 5 + r.fn → P i) (h2 : ∀ j, j < 14 → P (5 + r.fn + j)) : ∀ i, i < 19 + r.fn → P i := by
  intro i hi
  by_cases h : i < 5 + r.fn
  · exact h1 i h
  · have := h2 (i - (5 + r.fn)) (by omega)
    rwa [show 5 + r.fn + (i - (5 + r.fn)) = i by omega] at this
theorem of_sat {r : Rel} (hn : r.fn ≤ 1000000) : Sat Try.prog (tOf r) fun x => leSV 0 [] [] x (.d (.ro (19 + r.fn) 1 fun i _ => .x (.int .i64 (numN r i)))) := by
  constructor
  rw [LOf_eq]; unfold LOf
  refine ⟨⟨trivial, by simp, by decide⟩, ?_⟩
  refine code_satS CL_ok DL_ok (n := 200) (n0 := 5) (nx := 6) (roots := rtOf) (keep := [1, 3, 4, 28, 29, 30]) (drop := [2, 4]) (h := uN 3 .nil) (c := codeC (sub [0] (tOf r))) (st := codeS (sub [0] (tOf r))) (k := codeK (sub [0] (tOf r))) (body := bodyOf') (by kernel_rfl) (by kernel_rfl)
    (fun q s => ∃ k : Nat, q = r.fn - k ∧ k ≤ r.fn ∧ s = invOf r k (numN r))
    (fun e s => e = .exit 0 ∧ s = invOf r r.fn (numN r))
    ⟨_, _, ⟨0, rfl, by omega, rfl⟩, (entA_sound (EOf_eq r)).trans ?_⟩ ?_ ?_
  · refine gc_sound [(5, 5)] [] rfl ?_ ?_
    · simp [entOf, invOf, leTm, leTV, leSV, leSVs, rn, iv, leD, List.replicate, rou64]
    · simp [entOf, invOf, leHp, leBlk, leSVs, leSV, rn, iv, leD, srcOf, hget, relL, u64v, rou64]
      intro i hi
      match i, hi with
      | 0, _ => rfl
      | 1, _ => rfl
      | 2, _ => rfl
      | 3, _ => rfl
      | 4, _ => rfl
  · rintro q s ⟨k, rfl, hk, rfl⟩
    refine Sat.of_eq (BOf_eq r k _) ?_
    constructor
    unfold BOf
    refine ⟨fun hc => ?_, fun hc => ?_⟩
    · have hc : k < r.fn := by simp only [decide_eq_true_eq] at hc; omega
      refine ⟨by omega, ⟨by omega, by simp, by omega⟩, r.fn - (k + 1), _, by omega, ⟨k + 1, rfl, by omega, rfl⟩, ?_⟩
      rw [w64_of (n := (k : Int) + 1) (by omega) (by omega)]
      refine gc_sound [(5, 5)] [] rfl ?_ ?_
      · simp [invOf, leTm, leTV, leSV, leSVs, rn, iv, leD, List.replicate, rou64]
      · simp [invOf, leHp, leBlk, leSVs, leSV, rn, iv, leD, srcOf, hget, relL, u64v, rou64]
        refine ⟨by omega, fun i hi => ?_⟩
        simpa using of_body hn hc i (by omega) 0 (by decide)
    · have hc : k = r.fn := by simp only [decide_eq_false_iff_not] at hc; omega
      subst hc
      exact ⟨_, ⟨rfl, rfl⟩, Gc.refl _ _⟩
  · rintro e s ⟨rfl, rfl⟩
    refine Sat.of_eq (KOf_eq r r.fn _) ⟨?_⟩
    unfold KOf
    refine ⟨rfl, by decide, by decide, ⟨by omega, by simp, by omega⟩, rfl, by decide, by decide, ⟨by omega, by simp, by omega⟩, rfl, by decide, by decide, ⟨by omega, by simp, by omega⟩, rfl, ⟨by omega, by simp, by omega⟩, by omega, ?_⟩
    simp only [Tree.sat, leSV, leD]
    refine ⟨by omega, trivial, fun i j hi hj => ?_⟩
    obtain rfl : j = 0 := by omega
    revert i
    rw [show 5 + r.fn + 4 + 4 + 4 + 2 = 19 + r.fn by omega]
    refine row_split (fun i hi => ?_) fun j hj => ?_
    · simp only [selD_if, Nat.zero_add]
      rw [if_pos (by omega), if_pos (by omega), if_pos (by omega), if_pos (by omega)]
    · rw [numN_tail hj]
      simp only [selD_if, Nat.zero_add, Nat.mul_one, Nat.add_zero]
      match j, hj with
      | 0, _ => rw [if_pos (by omega), if_pos (by omega), if_pos (by omega), if_neg (by omega), show 5 + r.fn + 0 - (5 + r.fn) = 0 by omega]; rfl
      | 1, _ => rw [if_pos (by omega), if_pos (by omega), if_pos (by omega), if_neg (by omega), show 5 + r.fn + 1 - (5 + r.fn) = 1 by omega]; rfl
      | 2, _ => rw [if_pos (by omega), if_pos (by omega), if_pos (by omega), if_neg (by omega), show 5 + r.fn + 2 - (5 + r.fn) = 2 by omega]; rfl
      | 3, _ => rw [if_pos (by omega), if_pos (by omega), if_pos (by omega), if_neg (by omega), show 5 + r.fn + 3 - (5 + r.fn) = 3 by omega]; rfl
      | 4, _ => rw [if_pos (by omega), if_pos (by omega), if_neg (by omega), show 5 + r.fn + 4 - (5 + r.fn + 4) = 0 by omega]; rfl
      | 5, _ => rw [if_pos (by omega), if_pos (by omega), if_neg (by omega), show 5 + r.fn + 5 - (5 + r.fn + 4) = 1 by omega]; rfl
      | 6, _ => rw [if_pos (by omega), if_pos (by omega), if_neg (by omega), show 5 + r.fn + 6 - (5 + r.fn + 4) = 2 by omega]; rfl
      | 7, _ => rw [if_pos (by omega), if_pos (by omega), if_neg (by omega), show 5 + r.fn + 7 - (5 + r.fn + 4) = 3 by omega]; rfl
      | 8, _ => rw [if_pos (by omega), if_neg (by omega), show 5 + r.fn + 8 - (5 + r.fn + 4 + 4) = 0 by omega]; rfl
      | 9, _ => rw [if_pos (by omega), if_neg (by omega), show 5 + r.fn + 9 - (5 + r.fn + 4 + 4) = 1 by omega]; rfl
      | 10, _ => rw [if_pos (by omega), if_neg (by omega), show 5 + r.fn + 10 - (5 + r.fn + 4 + 4) = 2 by omega]; rfl
      | 11, _ => rw [if_pos (by omega), if_neg (by omega), show 5 + r.fn + 11 - (5 + r.fn + 4 + 4) = 3 by omega]; rfl
      | 12, _ => rw [if_neg (by omega), show 5 + r.fn + 12 - (5 + r.fn + 4 + 4 + 4) = 0 by omega]; rfl
      | 13, _ => rw [if_neg (by omega), show 5 + r.fn + 13 - (5 + r.fn + 4 + 4 + 4) = 1 by omega]; rfl
theorem agg_le {l m : List SV} (h : leSVs 0 [] [] l m) : leSVs 0 [] [] [.agg l] [.agg m] := by
  simp only [leSVs, leSV, and_true]; exact h
noncomputable def cNum : Ctr := fun ss => match ss with
  | [.agg l] => match relOf l with
    | some (r, p) => .need p (.ret (.d (.ro (19 + r.fn) 1 fun i _ => .x (.int .i64 (numN r i)))))
    | none => .fail
  | _ => .fail
theorem cNum_ok : CtrOK Try.prog 105 cNum := by
  refine ctrOK_leR CL_ok DL_ok (by kernel_rfl) (by kernel_rfl) fun ss r h => ?_
  unfold cNum at h
  split at h
  · split at h
    · rename_i l r p hr
      obtain ⟨h1, rfl⟩ := h
      obtain ⟨h2, h3⟩ := relOf_le hr h1
      have k := of_sat h3
      refine ⟨[.agg (relL r)], 200, .nil, ?_, ?_⟩
      · exact agg_le h2
      · exact k
    · exact h.elim
  · exact h.elim
def dig (r : Rel) : Int := dgW (19 + r.fn) (numN r)
end Go.Proofs.Ytpaejfeojdoikaa
namespace Go.Proofs.Ytpaejfeojdoikaa
open Go.Sx
set_option maxRecDepth 100000
noncomputable def manM : FuncId → Option Ctr := fun k => match k with
  | 105 => some cNum
  | k => manL k
theorem manM_ok (k : Nat) (c : Ctr) (h : manM k = some c) : CtrOK Try.prog k c ∧ goodF Try.prog k = true := by
  unfold manM at h
  split at h
  · cases h; exact ⟨cNum_ok, by kernel_rfl⟩
  · exact manL_ok _ _ h
noncomputable def CM : Ctx := ctxO Try.prog manM ownL (fun k => k == 147) 200 .nil 6
theorem CM_ok : CtxOK Try.prog CM := ctxO_ok mixed manM_ok ownL_ok 6
noncomputable def DM : Dr := fun _ => drawn Try.prog CM
theorem DM_ok : DrOK Try.prog CM DM := drawn_ok CM_ok mixed
noncomputable def TM (h : Hint) (k : Nat) (args : List SV) : Tree SV := fnT Try.prog CM DM 200 (fnOf Try.prog k) (bodyOf Try.prog k) args h
noncomputable def LTg_q1 (c : Nat → Int) (i : Nat) (x : Nat) : DV :=
  DV.x (.int .i64 (c i))
noncomputable def LTg_q2 (c : Nat → Int) (i : Nat) : Int :=
  c i
noncomputable def LTg (key : Int) (n : Nat) (c : Nat → Int) : Tree SV :=
  .need (I64C n (LTg_q1 c))
  (.need (true = true)
   (.need ((0 : Int) ≤ (0 : Int) ∧ (0 : Int) < (1 : Int))
   (.need (0 < 1)
   (.need ((0 : Int) ≤ (32 : Int))
   (.need (false = false)
   (.ret
   (SV.d
   (DV.x
   (.int .u64
   (IntKind.wrap .u64
   (IntKind.wrap .u64
   (↑(BitVec.toNat
   (BitVec.ofInt 64
   (IntKind.wrap .u64 (IntKind.wrap .u64 (↑(BitVec.toNat (BitVec.ofInt 64 key ^^^ BitVec.ofInt 64 (dgW n (LTg_q2 c)))) : Int) * (15485907386658061715 : Int))) ^^^
   BitVec.ofInt 64
   (Int.fdiv
   (IntKind.wrap .u64 (IntKind.wrap .u64 (↑(BitVec.toNat (BitVec.ofInt 64 key ^^^ BitVec.ofInt 64 (dgW n (LTg_q2 c)))) : Int) * (15485907386658061715 : Int)))
   (4294967296 : Int)))) :
   Int) *
   (11562461410679940143 : Int))))))))))))
theorem LTg_eq (key : Int) (n : Nat) (c : Nat → Int) : TM (uN 1 .nil) 104 [u64v key, ro64 n c] = LTg key n c := by kernel_rfl
noncomputable def LVdd (r : Rel) : Tree SV :=
  .ret
  (bv
   (viB (Rel.b0 r) (Rel.b1 r) (Rel.b2 r) (Rel.b3 r) && viB (Rel.b4 r) (Rel.b5 r) (Rel.b6 r) (Rel.b7 r) && viB (Rel.b8 r) (Rel.b9 r) (Rel.b10 r) (Rel.b11 r) && vB (Rel.pn r) (Rel.pd r) && decide (Rel.pn r > (0 : Int)) &&
   decide ((↑(Rel.fn r) : Int) ≤ (8 : Int))))
theorem LVdd_eq (r : Rel) : TM .nil 103 [.agg (relL r)] = LVdd r := by kernel_rfl
noncomputable def LDg_q1 (r : Rel) (i : Nat) (x : Nat) : DV :=
  DV.x (.int .u64 (Rel.fc r i))
noncomputable def LDg_q2 (r : Rel) (i : Nat) (x : Nat) : DV :=
  DV.x (.int .i64 (numN r i))
noncomputable def LDg_q3 (r : Rel) (i : Nat) : Int :=
  numN r i
noncomputable def LDg (r : Rel) : Tree SV :=
  .need (U64C (Rel.fn r) (LDg_q1 r)) (.need (I64C (19 + Rel.fn r) (LDg_q2 r)) (.ret (SV.d (DV.x (.int .u64 (dgW (19 + Rel.fn r) (LDg_q3 r)))))))
theorem LDg_eq (r : Rel) : TM .nil 99 [.agg (relL r)] = LDg r := by kernel_rfl
end Go.Proofs.Ytpaejfeojdoikaa
namespace Go.Proofs.Ytpaejfeojdoikaa
open Go.Sx
set_option maxRecDepth 100000
noncomputable def cTag : Ctr := fun ss => match ss with
  | [.d (.x (.int .u64 key)), .d d] => match rowD 1 d with
    | some (n, cell) => .need (I64C n cell) (.ret (u64v (stp key (dgW n (intCell cell)))))
    | none => .fail
  | _ => .fail
theorem I64C.le2 {n : Nat} {d : DV} {key : Int} {cell : Nat → Nat → DV} (h : rowD 1 d = some (n, cell)) (k : I64C n cell) : leSVs 0 [] [] [.d (.x (.int .u64 key)), .d d] [u64v key, ro64 n (intCell cell)] := by
  simp only [leSVs, leSV, ro64, u64v, and_true]
  exact ⟨by simp [leD], rowD_le h fun i j hi hj => by
    obtain rfl : j = 0 := by omega
    exact k.2 i hi⟩
theorem I64C.self {n : Nat} {c : Nat → Int} (h : n ≤ 9223372036854775807) : I64C n fun i _ => .x (.int .i64 (c i)) := ⟨h, fun i hi => rfl⟩
theorem cTag_ok : CtrOK Try.prog 104 cTag := by
  refine ctrOK_leS CM_ok DM_ok (by kernel_rfl) (by kernel_rfl) fun ss r h => ?_
  unfold cTag at h
  split at h
  · rename_i key d
    split at h
    · rename_i n cell hr
      obtain ⟨h1, rfl⟩ := h
      refine ⟨[u64v key, ro64 n (intCell cell)], 200, uN 1 .nil, h1.le2 hr, Sat.of_eq (LTg_eq key n (intCell cell)) ⟨?_⟩⟩
      unfold LTg
      exact ⟨I64C.self h1.1, rfl, by decide, by decide, by decide, rfl, rfl⟩
    · exact h.elim
  · exact h.elim
noncomputable def cdB (r : Rel) : Bool := viB r.b0 r.b1 r.b2 r.b3 && viB r.b4 r.b5 r.b6 r.b7 && viB r.b8 r.b9 r.b10 r.b11 && vB r.pn r.pd && decide (r.pn > 0)
noncomputable def vdB (r : Rel) : Bool := cdB r && decide ((r.fn : Int) ≤ 8)
noncomputable def cVd : Ctr := fun ss => match ss with
  | [.agg l] => match relOf l with
    | some (r, p) => .need p (.ret (bv (vdB r)))
    | none => .fail
  | _ => .fail
theorem cVd_ok : CtrOK Try.prog 103 cVd := by
  refine ctrOK_leS CM_ok DM_ok (by kernel_rfl) (by kernel_rfl) fun ss r h => ?_
  unfold cVd at h
  split at h
  · rename_i l
    split at h
    · rename_i r p hr
      obtain ⟨h1, rfl⟩ := h
      obtain ⟨h2, h3⟩ := relOf_le hr h1
      refine ⟨[.agg (relL r)], 200, .nil, agg_le h2, Sat.of_eq (LVdd_eq r) ⟨?_⟩⟩
      unfold LVdd; exact rfl
    · exact h.elim
  · exact h.elim
theorem U64C.self {n : Nat} {c : Nat → Int} (h : n ≤ 1000000) : U64C n fun i _ => .x (.int .u64 (c i)) := ⟨h, fun i hi => rfl⟩
noncomputable def cDig : Ctr := fun ss => match ss with
  | [.agg l] => match relOf l with
    | some (r, p) => .need p (.ret (u64v (dig r)))
    | none => .fail
  | _ => .fail
theorem cDig_ok : CtrOK Try.prog 99 cDig := by
  refine ctrOK_leS CM_ok DM_ok (by kernel_rfl) (by kernel_rfl) fun ss r h => ?_
  unfold cDig at h
  split at h
  · rename_i l
    split at h
    · rename_i r p hr
      obtain ⟨h1, rfl⟩ := h
      obtain ⟨h2, h3⟩ := relOf_le hr h1
      refine ⟨[.agg (relL r)], 200, .nil, agg_le h2, Sat.of_eq (LDg_eq r) ⟨?_⟩⟩
      unfold LDg; exact ⟨U64C.self h3, I64C.self (by omega), rfl⟩
    · exact h.elim
  · exact h.elim
end Go.Proofs.Ytpaejfeojdoikaa
namespace Go.Proofs.Ytpaejfeojdoikaa
open Go.Sx
set_option maxRecDepth 100000
noncomputable def manN : FuncId → Option Ctr := fun k => match k with
  | 104 => some cTag
  | 103 => some cVd
  | 99 => some cDig
  | k => manM k
theorem manN_ok (k : Nat) (c : Ctr) (h : manN k = some c) : CtrOK Try.prog k c ∧ goodF Try.prog k = true := by
  unfold manN at h
  split at h
  · cases h; exact ⟨cTag_ok, by kernel_rfl⟩
  · cases h; exact ⟨cVd_ok, by kernel_rfl⟩
  · cases h; exact ⟨cDig_ok, by kernel_rfl⟩
  · exact manM_ok _ _ h
noncomputable def CN : Ctx := ctxO Try.prog manN ownL (fun k => k == 152 || k == 153) 200 .nil 6
theorem CN_ok : CtxOK Try.prog CN := ctxO_ok mixed manN_ok ownL_ok 6
noncomputable def DN : Dr := fun _ => drawn Try.prog CN
theorem DN_ok : DrOK Try.prog CN DN := drawn_ok CN_ok mixed
noncomputable def TN (h : Hint) (k : Nat) (args : List SV) : Tree SV := fnT Try.prog CN DN 200 (fnOf Try.prog k) (bodyOf Try.prog k) args h
def chD (n : Nat) (f : Nat → Rel) : DV := .ro n 20 fun i j => relD (f i) j
noncomputable def tCk (key : Int) (n : Nat) (f : Nat → Rel) : Tree SV := TN .nil 36 [u64v key, .d (chD n f)]
noncomputable def LCk (key : Int) (n : Nat) (f : Nat → Rel) : Tree SV :=
  .ite (decide ((↑n : Int) > (200 : Int))) (.ret (iv (460 : Int))) (.code (codeC (sub [(1 : Nat)] (tCk key n f))) (codeS (sub [(1 : Nat)] (tCk key n f))) (codeK (sub [(1 : Nat)] (tCk key n f))))
theorem LCk_eq (key : Int) (n : Nat) (f : Nat → Rel) : tCk key n f = LCk key n f := by kernel_rfl
noncomputable def invCk (key : Int) (n : Nat) (f : Nat → Rel) (k : Nat) (pv : Int) : AS := ⟨[.ok (u64v key), .unk, .unk, .unk, .unk, .ok (u64v pv), .unk, .unk, .unk, .unk, .unk, .ok (.d (chD n f)), .ok (iv n), .ok (iv k)] ++ List.replicate 32 .unk, [], 0, .nil⟩
noncomputable def retCk (key : Int) (n : Nat) (f : Nat → Rel) (k : Nat) (pv : Int) : AS := ⟨[.ok (u64v key), .unk, .unk, .unk, .ok (iv 460), .ok (u64v pv), .unk, .unk, .unk, .unk, .unk, .ok (.d (chD n f)), .ok (iv n), .ok (iv k)] ++ List.replicate 32 .unk, [], 0, .nil⟩
noncomputable def bodyCk : Code := loopN (bodyOf Try.prog 36) 0
noncomputable def BCk_q1 (f : Nat → Rel) (k : Nat) (pv : Int) : Bool :=
  Rel.no (f (Int.toNat (↑k : Int))) != w64 ((↑k : Int) + (1 : Int)) || Rel.prev (f (Int.toNat (↑k : Int))) != pv
noncomputable def BCk_q2 (f : Nat → Rel) (k : Nat) (i : Nat) (x : Nat) : DV :=
  DV.x (.int .u64 (Rel.fc (f (Int.toNat (↑k : Int))) i))
noncomputable def BCk_q3 (f : Nat → Rel) (k : Nat) (pv : Int) : Bool :=
  BCk_q1 f k pv || !vdB (f (Int.toNat (↑k : Int)))
noncomputable def BCk_q4 (f : Nat → Rel) (k : Nat) (i : Nat) (x : Nat) : DV :=
  DV.x (.int .i64 (numN (f (Int.toNat (↑k : Int))) i))
noncomputable def BCk_q5 (f : Nat → Rel) (k : Nat) (i : Nat) : Int :=
  numN (f (Int.toNat (↑k : Int))) i
noncomputable def BCk_q6 (f : Nat → Rel) (i : Nat) (j : Nat) : DV :=
  relD (f i) j
noncomputable def BCk (key : Int) (n : Nat) (f : Nat → Rel) (k : Nat) (pv : Int) : Tree (Ex × AS) :=
 .ite (decide ((↑k : Int) < (↑n : Int)))
 (.need ((0 : Int) ≤ (↑k : Int) ∧ (↑k : Int) < (↑n : Int))
 (.need (BCk_q1 f k pv = false → U64C (Rel.fn (f (Int.toNat (↑k : Int)))) (BCk_q2 f k))
 (.need (BCk_q3 f k pv = false → U64C (Rel.fn (f (Int.toNat (↑k : Int)))) (BCk_q2 f k))
 (.need (BCk_q3 f k pv = false → I64C (19 + Rel.fn (f (Int.toNat (↑k : Int)))) (BCk_q4 f k))
 (.ite (BCk_q3 f k pv || Rel.tag (f (Int.toNat (↑k : Int))) != stp key (dgW (19 + Rel.fn (f (Int.toNat (↑k : Int)))) (BCk_q5 f k)))
 (.ret
 (.ret,
 {
 tm :=
 [.ok (SV.d (DV.x (.int .u64 key))), .unk, .unk, .unk, .ok (iv (460 : Int)), .ok (SV.d (DV.x (.int .u64 pv))), .unk, .unk, .unk, .unk, .unk,
 .ok (SV.d (DV.ro n 20 (BCk_q6 f))), .ok (iv (↑n : Int)), .ok (iv (↑k : Int)), .unk, .unk, .unk, .unk, .unk, .unk, .unk, .unk, .unk, .unk, .unk, .unk, .unk, .unk,
 .unk, .unk, .unk, .unk, .unk, .unk, .unk, .unk, .unk, .unk, .unk, .unk, .unk, .unk, .unk, .unk, .unk, .unk],
 hp := [], next := 0, hint := .nil }))
 (.need (U64C (Rel.fn (f (Int.toNat (↑k : Int)))) (BCk_q2 f k))
 (.ret
 (.normal,
 {
 tm :=
 [.ok (SV.d (DV.x (.int .u64 key))), .unk, .unk, .unk, .unk, .ok (SV.d (DV.x (.int .u64 (dig (f (Int.toNat (↑k : Int))))))), .unk, .unk, .unk, .unk, .unk,
 .ok (SV.d (DV.ro n 20 (BCk_q6 f))), .ok (iv (↑n : Int)), .ok (iv (w64 ((↑k : Int) + (1 : Int)))), .unk, .unk, .unk, .unk, .unk, .unk, .unk, .unk, .unk, .unk, .unk,
 .unk, .unk, .unk, .unk, .unk, .unk, .unk, .unk, .unk, .unk, .unk, .unk, .unk, .unk, .unk, .unk, .unk, .unk, .unk, .unk, .unk],
 hp := [], next := 0, hint := .nil }))))))))
 (.ret
 (.exit 0,
 {
 tm :=
 [.ok (SV.d (DV.x (.int .u64 key))), .unk, .unk, .unk, .unk, .ok (SV.d (DV.x (.int .u64 pv))), .unk, .unk, .unk, .unk, .unk, .ok (SV.d (DV.ro n 20 (BCk_q6 f))),
 .ok (iv (↑n : Int)), .ok (iv (↑k : Int)), .unk, .unk, .unk, .unk, .unk, .unk, .unk, .unk, .unk, .unk, .unk, .unk, .unk, .unk, .unk, .unk, .unk, .unk, .unk, .unk, .unk, .unk,
 .unk, .unk, .unk, .unk, .unk, .unk, .unk, .unk, .unk, .unk],
 hp := [], next := 0, hint := .nil }))
theorem BCk_eq (key : Int) (n : Nat) (f : Nat → Rel) (k : Nat) (pv : Int) : cutT 0 [] [0, 4, 5, 11, 12, 13] [] 0 .nil (exec Try.prog CN DN 200 bodyCk (invCk key n f k pv)) = BCk key n f k pv := by kernel_rfl
noncomputable def KCk (key : Int) (n : Nat) (f : Nat → Rel) (k : Nat) (pv : Int) : Tree SV :=
  .ret (iv (0 : Int))
theorem KCk_eq (key : Int) (n : Nat) (f : Nat → Rel) (k : Nat) (pv : Int) : codeK (sub [1] (tCk key n f)) (.exit 0) (invCk key n f k pv) = KCk key n f k pv := by kernel_rfl
noncomputable def KCkR (key : Int) (n : Nat) (f : Nat → Rel) (k : Nat) (pv : Int) : Tree SV :=
  .ret (iv (460 : Int))
theorem KCkR_eq (key : Int) (n : Nat) (f : Nat → Rel) (k : Nat) (pv : Int) : codeK (sub [1] (tCk key n f)) .ret (retCk key n f k pv) = KCkR key n f k pv := by kernel_rfl
end Go.Proofs.Ytpaejfeojdoikaa
namespace Go.Proofs.Ytpaejfeojdoikaa
open Go.Sx
set_option maxRecDepth 100000
def prevN (f : Nat → Rel) : Nat → Int
  | 0 => 0
  | k + 1 => dig (f k)
noncomputable def goodR (key : Int) (f : Nat → Rel) (k : Nat) : Bool := (f k).no == (k : Int) + 1 && (f k).prev == prevN f k && vdB (f k) && (f k).tag == stp key (dig (f k))
noncomputable def ckB (key : Int) (f : Nat → Rel) : Nat → Bool
  | 0 => true
  | n + 1 => ckB key f n && goodR key f n
theorem ckB_iff {key : Int} {f : Nat → Rel} : ∀ {n : Nat}, ckB key f n = true ↔ ∀ k, k < n → goodR key f k = true
  | 0 => by simp [ckB]
  | n + 1 => by
    simp only [ckB, Bool.and_eq_true, ckB_iff (n := n)]
    constructor
    · rintro ⟨h1, h2⟩ i hi
      by_cases h : i = n
      · subst h; exact h2
      · exact h1 i (by omega)
    · exact fun h => ⟨fun i hi => h i (by omega), h n (by omega)⟩
noncomputable def ckV (key : Int) (n : Nat) (f : Nat → Rel) : Int := if decide ((n : Int) > 200) then 460 else if ckB key f n then 0 else 460
theorem ck_sat {key : Int} {n : Nat} {f : Nat → Rel} (hf : ∀ i, i < n → (f i).fn ≤ 1000000) : Sat Try.prog (tCk key n f) (· = iv (ckV key n f)) := by
  constructor
  rw [LCk_eq]; unfold LCk
  refine ⟨fun h => ?_, fun h => ?_⟩
  · unfold ckV; rw [if_pos h]; exact rfl
  · have hn : n ≤ 200 := by simp only [decide_eq_false_iff_not] at h; omega
    have e0 : ckV key n f = if ckB key f n then 0 else 460 := by unfold ckV; rw [if_neg (by rw [h]; decide)]
    rw [e0]
    refine code_satS CN_ok DN_ok (n := 200) (n0 := 0) (nx := 0) (roots := []) (keep := [0, 4, 5, 11, 12, 13]) (drop := []) (h := .nil) (c := codeC (sub [1] (tCk key n f))) (st := codeS (sub [1] (tCk key n f))) (k := codeK (sub [1] (tCk key n f))) (body := bodyCk) (by kernel_rfl) (by kernel_rfl)
      (fun q s => ∃ k : Nat, q = n - k ∧ k ≤ n ∧ ckB key f k = true ∧ s = invCk key n f k (prevN f k))
      (fun e s => (e = .exit 0 ∧ ckB key f n = true ∧ s = invCk key n f n (prevN f n)) ∨ (e = .ret ∧ ∃ k, ckB key f n = false ∧ s = retCk key n f k (prevN f k)))
      ⟨_, _, ⟨0, rfl, by omega, rfl, rfl⟩, ?_⟩ ?_ ?_
    · exact entA_sound (roots := []) (keep := [0, 5, 11, 12, 13]) (drop := []) (nx := 0) (h := .nil) (by kernel_rfl)
    · rintro q s ⟨k, rfl, hk, hq, rfl⟩
      refine Sat.of_eq (BCk_eq key n f k (prevN f k)) ?_
      constructor
      unfold BCk BCk_q3 BCk_q1 BCk_q2 BCk_q4
      simp only [Int.toNat_natCast]
      refine ⟨fun hc => ?_, fun hc => ?_⟩
      · have hc : k < n := by simp only [decide_eq_true_eq] at hc; omega
        have hu : U64C (f k).fn fun i _ => .x (.int .u64 ((f k).fc i)) := U64C.self (hf k hc)
        have hi : I64C (19 + (f k).fn) fun i _ => .x (.int .i64 (numN (f k) i)) := I64C.self (by have := hf k hc; omega)
        have hw : w64 ((k : Int) + 1) = (k : Int) + 1 := w64_of (by omega) (by omega)
        simp only [hw]
        have ed : dgW (19 + (f k).fn) (BCk_q5 f k) = dig (f k) := by unfold dig BCk_q5; simp only [Int.toNat_natCast]
        rw [ed]
        refine ⟨by omega, fun _ => hu, fun _ => hu, fun _ => hi, fun h => ?_, fun h => ?_⟩
        · refine ⟨_, .inr ⟨rfl, k, ?_, rfl⟩, Gc.refl _ _⟩
          rw [Bool.eq_false_iff]
          intro h2
          have h3 := ckB_iff.1 h2 k hc
          simp only [goodR, Bool.and_eq_true, beq_iff_eq] at h3
          simp [h3] at h
        · have hg : goodR key f k = true := by
            simp only [Bool.or_eq_false_iff, bne_eq_false_iff_eq, Bool.not_eq_false'] at h
            simp [goodR, h]
          refine ⟨hu, n - (k + 1), _, by omega, ⟨k + 1, rfl, by omega, ?_, rfl⟩, ?_⟩
          · simp [ckB, hq, hg]
          · exact Gc.refl _ _
      · have hc : k = n := by simp only [decide_eq_false_iff_not] at hc; omega
        subst hc
        exact ⟨_, .inl ⟨rfl, hq, rfl⟩, Gc.refl _ _⟩
    · rintro e s (⟨rfl, hq, rfl⟩ | ⟨rfl, k, hq, rfl⟩)
      · refine Sat.of_eq (KCk_eq key n f n _) ⟨?_⟩
        rw [hq]; exact rfl
      · refine Sat.of_eq (KCkR_eq key n f k _) ⟨?_⟩
        rw [hq]; exact rfl
end Go.Proofs.Ytpaejfeojdoikaa
namespace Go.Proofs.Ytpaejfeojdoikaa
open Go.Sx
set_option maxRecDepth 100000
set_option pp.structureInstances false
def _root_.Go.Sx.frN : DV → Nat
  | .ro n _ _ => n
  | _ => 0
noncomputable def frC : DV → Nat → Int
  | .ro _ _ c => intCell c
  | _ => fun _ => 0
noncomputable def relC (cell : Nat → Nat → DV) (i : Nat) : Rel := ⟨intOf1 (cell i 0), intOf1 (cell i 1), intOf1 (cell i 2), intOf1 (cell i 3), frN (cell i 4), frC (cell i 4), intOf1 (cell i 5), intOf1 (cell i 6), intOf1 (cell i 7), intOf1 (cell i 8), intOf1 (cell i 9), intOf1 (cell i 10), intOf1 (cell i 11), intOf1 (cell i 12), intOf1 (cell i 13), intOf1 (cell i 14), intOf1 (cell i 15), intOf1 (cell i 16), intOf1 (cell i 17), intOf1 (cell i 18), intOf1 (cell i 19)⟩
def ChC (n : Nat) (cell : Nat → Nat → DV) : Prop := n ≤ 1000000 ∧ ∀ i, i < n → (relC cell i).fn ≤ 1000000 ∧ ∀ j, j < 20 → cell i j = relD (relC cell i) j
theorem ChC.self {n : Nat} {f : Nat → Rel} (hn : n ≤ 1000000) (h : ∀ i, i < n → (f i).fn ≤ 1000000) : ChC n fun i j => relD (f i) j := ⟨hn, fun i hi => ⟨h i hi, fun j _ => rfl⟩⟩
theorem ChC.le {n : Nat} {d : DV} {cell : Nat → Nat → DV} (h : rowD 20 d = some (n, cell)) (k : ChC n cell) : leD d (chD n (relC cell)) := rowD_le h fun i j hi hj => (k.2 i hi).2 j hj
theorem ChC.fn {n : Nat} {cell : Nat → Nat → DV} (k : ChC n cell) : ∀ i, i < n → (relC cell i).fn ≤ 1000000 := fun i hi => (k.2 i hi).1
noncomputable def cCk : Ctr := fun ss => match ss with
  | [.d (.x (.int .u64 key)), .d d] => match rowD 20 d with
    | some (n, cell) => .need (ChC n cell) (.ret (iv (ckV key n (relC cell))))
    | none => .fail
  | _ => .fail
theorem cCk_ok : CtrOK Try.prog 36 cCk := by
  refine ctrOK_leS CN_ok DN_ok (by kernel_rfl) (by kernel_rfl) fun ss r h => ?_
  unfold cCk at h
  split at h
  · rename_i key d
    split at h
    · rename_i n cell hr
      obtain ⟨h1, rfl⟩ := h
      have k := ck_sat (key := key) h1.fn
      refine ⟨[u64v key, .d (chD n (relC cell))], 200, .nil, ?_, ?_⟩
      · simp only [leSVs, leSV, u64v, and_true]; exact ⟨by simp [leD], h1.le hr⟩
      · exact k
    · exact h.elim
  · exact h.elim
noncomputable def LCl (n : Nat) (cell : Nat → Nat → DV) : Tree SV :=
  .need ((↑n : Int) = (↑n : Int) ∧ (↑n : Int) = (↑n : Int)) (.ret (SV.d (DV.rf n 20 cell)))
theorem LCl_eq (n : Nat) (cell : Nat → Nat → DV) : TN .nil 152 [.d (.ro n 20 cell)] = LCl n cell := by kernel_rfl
noncomputable def cClip : Ctr := fun ss => match ss with
  | [.d d] => match rowD 20 d with
    | some (n, cell) => .ret (.d (.rf n 20 cell))
    | none => .fail
  | _ => .fail
theorem cClip_ok : CtrOK Try.prog 152 cClip := by
  refine ctrOK_leS CN_ok DN_ok (by kernel_rfl) (by kernel_rfl) fun ss r h => ?_
  unfold cClip at h
  split at h
  · rename_i d
    split at h
    · rename_i n cell hr
      simp only [Tr.ev] at h; subst h
      refine ⟨[.d (.ro n 20 cell)], 200, .nil, ?_, Sat.of_eq (LCl_eq n cell) ⟨?_⟩⟩
      · simp only [leSVs, leSV, and_true]; exact rowD_le hr fun i j _ _ => rfl
      · unfold LCl; exact ⟨⟨rfl, rfl⟩, rfl⟩
    · exact h.elim
  · exact h.elim
noncomputable def manO : FuncId → Option Ctr := fun k => match k with
  | 36 => some cCk
  | 152 => some cClip
  | k => manN k
theorem manO_ok (k : Nat) (c : Ctr) (h : manO k = some c) : CtrOK Try.prog k c ∧ goodF Try.prog k = true := by
  unfold manO at h
  split at h
  · cases h; exact ⟨cCk_ok, by kernel_rfl⟩
  · cases h; exact ⟨cClip_ok, by kernel_rfl⟩
  · exact manN_ok _ _ h
noncomputable def CO : Ctx := ctxO Try.prog manO ownL (fun k => k == 154) 200 .nil 6
theorem CO_ok : CtxOK Try.prog CO := ctxO_ok mixed manO_ok ownL_ok 6
noncomputable def DO : Dr := fun _ => drawn Try.prog CO
theorem DO_ok : DrOK Try.prog CO DO := drawn_ok CO_ok mixed
noncomputable def TO (h : Hint) (k : Nat) (args : List SV) : Tree SV := fnT Try.prog CO DO 200 (fnOf Try.prog k) (bodyOf Try.prog k) args h
noncomputable def LNx_q1 (f : Nat → Rel) (i : Nat) (j : Nat) : DV :=
  relD (f i) j
noncomputable def LNx_q2 (r : Rel) (i : Nat) (x : Nat) : DV :=
  DV.x (.int .u64 (Rel.fc r i))
noncomputable def LNx_q3 (n : Nat) (f : Nat → Rel) (i : Nat) (x : Nat) : DV :=
  DV.x (.int .u64 (Rel.fc (f (Int.toNat (w64 ((↑n : Int) - (1 : Int))))) i))
noncomputable def LNx_q4 (r : Rel) (i : Nat) : Int :=
  Rel.fc r i
noncomputable def LNx_q5 (n : Nat) (f : Nat → Rel) (r : Rel) (i : Nat) (x : Nat) : DV :=
  DV.x
  (.int .i64
   (numN
   (Rel.mk (w64 ((↑n : Int) + (1 : Int))) (dig (f (Int.toNat (w64 ((↑n : Int) - (1 : Int)))))) (Rel.src r) (Rel.cir r) (Rel.fn r) (LNx_q4 r) (Rel.b0 r) (Rel.b1 r) (Rel.b2 r) (Rel.b3 r) (Rel.b4 r) (Rel.b5 r) (Rel.b6 r)
   (Rel.b7 r) (Rel.b8 r) (Rel.b9 r) (Rel.b10 r) (Rel.b11 r) (Rel.pn r) (Rel.pd r) (Rel.tag r))
   i))
noncomputable def LNx_q6 (n : Nat) (f : Nat → Rel) (r : Rel) (i : Nat) : Int :=
  numN
  (Rel.mk (w64 ((↑n : Int) + (1 : Int))) (dig (f (Int.toNat (w64 ((↑n : Int) - (1 : Int)))))) (Rel.src r) (Rel.cir r) (Rel.fn r) (LNx_q4 r) (Rel.b0 r) (Rel.b1 r) (Rel.b2 r) (Rel.b3 r) (Rel.b4 r) (Rel.b5 r) (Rel.b6 r) (Rel.b7 r)
   (Rel.b8 r) (Rel.b9 r) (Rel.b10 r) (Rel.b11 r) (Rel.pn r) (Rel.pd r) (Rel.tag r))
  i
noncomputable def LNx_q7 (key : Int) (n : Nat) (f : Nat → Rel) (r : Rel) (i : Nat) (j : Nat) : DV :=
  selD (decide (0 + i < n)) (relD (f ((0 : Nat) + i)) j)
  (dsAt
   [DV.x (.int .i64 (w64 ((↑n : Int) + (1 : Int)))), DV.x (.int .u64 (dig (f (Int.toNat (w64 ((↑n : Int) - (1 : Int))))))), DV.x (.int .u64 (Rel.src r)), DV.x (.int .u64 (Rel.cir r)),
   DV.ro (Rel.fn r) 1 (LNx_q2 r), DV.x (.int .i64 (Rel.b0 r)), DV.x (.int .i64 (Rel.b1 r)), DV.x (.int .i64 (Rel.b2 r)), DV.x (.int .i64 (Rel.b3 r)),
   DV.x (.int .i64 (Rel.b4 r)), DV.x (.int .i64 (Rel.b5 r)), DV.x (.int .i64 (Rel.b6 r)), DV.x (.int .i64 (Rel.b7 r)), DV.x (.int .i64 (Rel.b8 r)),
   DV.x (.int .i64 (Rel.b9 r)), DV.x (.int .i64 (Rel.b10 r)), DV.x (.int .i64 (Rel.b11 r)), DV.x (.int .i64 (Rel.pn r)), DV.x (.int .i64 (Rel.pd r)),
   DV.x
   (.int .u64
   (stp key
   (dgW
   (19 +
   Rel.fn
   (Rel.mk (w64 ((↑n : Int) + (1 : Int))) (dig (f (Int.toNat (w64 ((↑n : Int) - (1 : Int)))))) (Rel.src r) (Rel.cir r) (Rel.fn r) (LNx_q4 r) (Rel.b0 r) (Rel.b1 r) (Rel.b2 r) (Rel.b3 r) (Rel.b4 r) (Rel.b5 r)
   (Rel.b6 r) (Rel.b7 r) (Rel.b8 r) (Rel.b9 r) (Rel.b10 r) (Rel.b11 r) (Rel.pn r) (Rel.pd r) (Rel.tag r)))
   (LNx_q6 n f r))))]
   (0 + (0 + (0 + i - n)) * 20 + j))
noncomputable def LNx_q8 (n : Nat) (r : Rel) (i : Nat) (x : Nat) : DV :=
  DV.x
  (.int .i64
   (numN
   (Rel.mk (w64 ((↑n : Int) + (1 : Int))) (0 : Int) (Rel.src r) (Rel.cir r) (Rel.fn r) (LNx_q4 r) (Rel.b0 r) (Rel.b1 r) (Rel.b2 r) (Rel.b3 r) (Rel.b4 r) (Rel.b5 r) (Rel.b6 r) (Rel.b7 r) (Rel.b8 r) (Rel.b9 r) (Rel.b10 r)
   (Rel.b11 r) (Rel.pn r) (Rel.pd r) (Rel.tag r))
   i))
noncomputable def LNx_q9 (n : Nat) (r : Rel) (i : Nat) : Int :=
  numN
  (Rel.mk (w64 ((↑n : Int) + (1 : Int))) (0 : Int) (Rel.src r) (Rel.cir r) (Rel.fn r) (LNx_q4 r) (Rel.b0 r) (Rel.b1 r) (Rel.b2 r) (Rel.b3 r) (Rel.b4 r) (Rel.b5 r) (Rel.b6 r) (Rel.b7 r) (Rel.b8 r) (Rel.b9 r) (Rel.b10 r)
   (Rel.b11 r) (Rel.pn r) (Rel.pd r) (Rel.tag r))
  i
noncomputable def LNx_q10 (key : Int) (n : Nat) (f : Nat → Rel) (r : Rel) (i : Nat) (j : Nat) : DV :=
  selD (decide (0 + i < n)) (relD (f ((0 : Nat) + i)) j)
  (dsAt
   [DV.x (.int .i64 (w64 ((↑n : Int) + (1 : Int)))), DV.x (.int .u64 (0 : Int)), DV.x (.int .u64 (Rel.src r)), DV.x (.int .u64 (Rel.cir r)),
   DV.ro (Rel.fn r) 1 (LNx_q2 r), DV.x (.int .i64 (Rel.b0 r)), DV.x (.int .i64 (Rel.b1 r)), DV.x (.int .i64 (Rel.b2 r)), DV.x (.int .i64 (Rel.b3 r)),
   DV.x (.int .i64 (Rel.b4 r)), DV.x (.int .i64 (Rel.b5 r)), DV.x (.int .i64 (Rel.b6 r)), DV.x (.int .i64 (Rel.b7 r)), DV.x (.int .i64 (Rel.b8 r)),
   DV.x (.int .i64 (Rel.b9 r)), DV.x (.int .i64 (Rel.b10 r)), DV.x (.int .i64 (Rel.b11 r)), DV.x (.int .i64 (Rel.pn r)), DV.x (.int .i64 (Rel.pd r)),
   DV.x
   (.int .u64
   (stp key
   (dgW
   (19 +
   Rel.fn
   (Rel.mk (w64 ((↑n : Int) + (1 : Int))) (0 : Int) (Rel.src r) (Rel.cir r) (Rel.fn r) (LNx_q4 r) (Rel.b0 r) (Rel.b1 r) (Rel.b2 r) (Rel.b3 r) (Rel.b4 r) (Rel.b5 r) (Rel.b6 r) (Rel.b7 r) (Rel.b8 r) (Rel.b9 r)
   (Rel.b10 r) (Rel.b11 r) (Rel.pn r) (Rel.pd r) (Rel.tag r)))
   (LNx_q9 n r))))]
   (0 + (0 + (0 + i - n)) * 20 + j))
noncomputable def LNx (key : Int) (n : Nat) (f : Nat → Rel) (r : Rel) : Tree SV :=
 .need (ChC n (LNx_q1 f))
 (.ite ((ckV key n fun i => f i) != (0 : Int)) (.ret (SV.tup [SV.d (DV.x (.slice none 0 0)), iv (460 : Int)]))
 (.ite (decide ((↑n : Int) ≥ (200 : Int))) (.ret (SV.tup [SV.d (DV.x (.slice none 0 0)), iv (2 : Int)]))
 (.need (U64C (Rel.fn r) (LNx_q2 r))
 (.ite (!vdB r) (.ret (SV.tup [SV.d (DV.x (.slice none 0 0)), iv (1 : Int)]))
 (.ite (decide ((↑n : Int) > (0 : Int)))
 (.need ((0 : Int) ≤ w64 ((↑n : Int) - (1 : Int)) ∧ w64 ((↑n : Int) - (1 : Int)) < (↑n : Int))
 (.need (U64C (Rel.fn (f (Int.toNat (w64 ((↑n : Int) - (1 : Int)))))) (LNx_q3 n f))
 (.need (U64C (Rel.fn r) (LNx_q2 r))
 (.need
 (I64C
 (19 +
 Rel.fn
 (Rel.mk (w64 ((↑n : Int) + (1 : Int))) (dig (f (Int.toNat (w64 ((↑n : Int) - (1 : Int)))))) (Rel.src r) (Rel.cir r) (Rel.fn r) (LNx_q4 r) (Rel.b0 r) (Rel.b1 r) (Rel.b2 r) (Rel.b3 r) (Rel.b4 r) (Rel.b5 r)
 (Rel.b6 r) (Rel.b7 r) (Rel.b8 r) (Rel.b9 r) (Rel.b10 r) (Rel.b11 r) (Rel.pn r) (Rel.pd r) (Rel.tag r)))
 (LNx_q5 n f r))
 (.need
 (True ∧
 20 ≤
 List.length
 [iv (w64 ((↑n : Int) + (1 : Int))), SV.d (DV.x (.int .u64 (dig (f (Int.toNat (w64 ((↑n : Int) - (1 : Int)))))))), SV.d (DV.x (.int .u64 (Rel.src r))),
 SV.d (DV.x (.int .u64 (Rel.cir r))), SV.d (DV.ro (Rel.fn r) 1 (LNx_q2 r)), iv (Rel.b0 r), iv (Rel.b1 r), iv (Rel.b2 r), iv (Rel.b3 r), iv (Rel.b4 r), iv (Rel.b5 r),
 iv (Rel.b6 r), iv (Rel.b7 r), iv (Rel.b8 r), iv (Rel.b9 r), iv (Rel.b10 r), iv (Rel.b11 r), iv (Rel.pn r), iv (Rel.pd r),
 SV.d
 (DV.x
 (.int .u64
 (stp key
 (dgW
 (19 +
 Rel.fn
 (Rel.mk (w64 ((↑n : Int) + (1 : Int))) (dig (f (Int.toNat (w64 ((↑n : Int) - (1 : Int)))))) (Rel.src r) (Rel.cir r) (Rel.fn r) (LNx_q4 r) (Rel.b0 r) (Rel.b1 r) (Rel.b2 r) (Rel.b3 r)
 (Rel.b4 r) (Rel.b5 r) (Rel.b6 r) (Rel.b7 r) (Rel.b8 r) (Rel.b9 r) (Rel.b10 r) (Rel.b11 r) (Rel.pn r) (Rel.pd r) (Rel.tag r)))
 (LNx_q6 n f r)))))] ∧
 (n + 1) * 176 ≤ 140737488355328)
 (.need (0 + (n + 1) ≤ n + 1) (.ret (SV.tup [SV.d (DV.ro (n + 1) 20 (LNx_q7 key n f r)), iv (0 : Int)]))))))))
 (.need (U64C (Rel.fn r) (LNx_q2 r))
 (.need
 (I64C
 (19 +
 Rel.fn
 (Rel.mk (w64 ((↑n : Int) + (1 : Int))) (0 : Int) (Rel.src r) (Rel.cir r) (Rel.fn r) (LNx_q4 r) (Rel.b0 r) (Rel.b1 r) (Rel.b2 r) (Rel.b3 r) (Rel.b4 r) (Rel.b5 r) (Rel.b6 r) (Rel.b7 r) (Rel.b8 r) (Rel.b9 r)
 (Rel.b10 r) (Rel.b11 r) (Rel.pn r) (Rel.pd r) (Rel.tag r)))
 (LNx_q8 n r))
 (.need
 (True ∧
 20 ≤
 List.length
 [iv (w64 ((↑n : Int) + (1 : Int))), SV.d (DV.x (.int .u64 (0 : Int))), SV.d (DV.x (.int .u64 (Rel.src r))), SV.d (DV.x (.int .u64 (Rel.cir r))),
 SV.d (DV.ro (Rel.fn r) 1 (LNx_q2 r)), iv (Rel.b0 r), iv (Rel.b1 r), iv (Rel.b2 r), iv (Rel.b3 r), iv (Rel.b4 r), iv (Rel.b5 r), iv (Rel.b6 r), iv (Rel.b7 r), iv (Rel.b8 r), iv (Rel.b9 r),
 iv (Rel.b10 r), iv (Rel.b11 r), iv (Rel.pn r), iv (Rel.pd r),
 SV.d
 (DV.x
 (.int .u64
 (stp key
 (dgW
 (19 +
 Rel.fn
 (Rel.mk (w64 ((↑n : Int) + (1 : Int))) (0 : Int) (Rel.src r) (Rel.cir r) (Rel.fn r) (LNx_q4 r) (Rel.b0 r) (Rel.b1 r) (Rel.b2 r) (Rel.b3 r) (Rel.b4 r) (Rel.b5 r) (Rel.b6 r) (Rel.b7 r)
 (Rel.b8 r) (Rel.b9 r) (Rel.b10 r) (Rel.b11 r) (Rel.pn r) (Rel.pd r) (Rel.tag r)))
 (LNx_q9 n r)))))] ∧
 (n + 1) * 176 ≤ 140737488355328)
 (.need (0 + (n + 1) ≤ n + 1) (.ret (SV.tup [SV.d (DV.ro (n + 1) 20 (LNx_q10 key n f r)), iv (0 : Int)])))))))))))
theorem LNx_eq (key : Int) (n : Nat) (f : Nat → Rel) (r : Rel) : TO .nil 102 [u64v key, .d (chD n f), .agg (relL r)] = LNx key n f r := by kernel_rfl
noncomputable def tSe (n m : Nat) (f g : Nat → Rel) : Tree SV := TO .nil 35 [.d (chD n f), .d (chD m g)]
noncomputable def LSe (n m : Nat) (f g : Nat → Rel) : Tree SV :=
  .ite ((↑n : Int) != (↑m : Int)) (.ret (bv false)) (.code (codeC (sub [(1 : Nat)] (tSe n m f g))) (codeS (sub [(1 : Nat)] (tSe n m f g))) (codeK (sub [(1 : Nat)] (tSe n m f g))))
theorem LSe_eq (n m : Nat) (f g : Nat → Rel) : tSe n m f g = LSe n m f g := by kernel_rfl
noncomputable def fnFi (no : Int) : SV := .fn (.func 154) [] [.rop 1 fun _ => i64d no]
noncomputable def tIx (n : Nat) (f : Nat → Rel) (no : Int) : Tree SV := TO .nil 153 [.d (chD n f), fnFi no]
noncomputable def LIx (n : Nat) (f : Nat → Rel) (no : Int) : Tree SV :=
  .code (codeC (sub [] (tIx n f no))) (codeS (sub [] (tIx n f no))) (codeK (sub [] (tIx n f no)))
theorem LIx_eq (n : Nat) (f : Nat → Rel) (no : Int) : tIx n f no = LIx n f no := by kernel_rfl
noncomputable def invIx (n : Nat) (f : Nat → Rel) (no : Int) (k : Nat) : AS := ⟨[.ok (.d (chD n f)), .ok (fnFi no), .unk, .unk, .unk, .unk, .unk, .ok (iv n), .ok (iv k)] ++ List.replicate 10 .unk, [], 0, .nil⟩
noncomputable def retIx (n : Nat) (f : Nat → Rel) (no : Int) (k : Nat) : AS := ⟨[.ok (.d (chD n f)), .ok (fnFi no), .unk, .unk, .ok (iv k), .unk, .unk, .ok (iv n), .ok (iv k)] ++ List.replicate 10 .unk, [], 0, .nil⟩
noncomputable def bodyIx : Code := loopN (bodyOf Try.prog 153) 0
noncomputable def BIx (n : Nat) (f : Nat → Rel) (no : Int) (k : Nat) : Tree (Ex × AS) :=
  .ite (decide ((↑k : Int) < (↑n : Int)))
  (.need ((0 : Int) ≤ (↑k : Int) ∧ (↑k : Int) < (↑n : Int))
   (.ite (Rel.no (f (Int.toNat (↑k : Int))) == no)
   (.ret
   (.ret,
   AS.mk
   [.ok (SV.d (DV.ro n 20 fun i j => relD (f i) j)), .ok (SV.fn (Fn.func 154) [] [SV.rop 1 fun x => DV.x (.int .i64 no)]), .unk, .unk, .ok (iv (↑k : Int)), .unk, .unk,
   .ok (iv (↑n : Int)), .ok (iv (↑k : Int)), .unk, .unk, .unk, .unk, .unk, .unk, .unk, .unk, .unk, .unk]
   [] 0 .nil))
   (.ret
   (.normal,
   AS.mk
   [.ok (SV.d (DV.ro n 20 fun i j => relD (f i) j)), .ok (SV.fn (Fn.func 154) [] [SV.rop 1 fun x => DV.x (.int .i64 no)]), .unk, .unk, .unk, .unk, .unk, .ok (iv (↑n : Int)),
   .ok (iv (w64 ((↑k : Int) + (1 : Int)))), .unk, .unk, .unk, .unk, .unk, .unk, .unk, .unk, .unk, .unk]
   [] 0 .nil))))
  (.ret
   (.exit 0,
   AS.mk
   [.ok (SV.d (DV.ro n 20 fun i j => relD (f i) j)), .ok (SV.fn (Fn.func 154) [] [SV.rop 1 fun x => DV.x (.int .i64 no)]), .unk, .unk, .unk, .unk, .unk, .ok (iv (↑n : Int)),
   .ok (iv (↑k : Int)), .unk, .unk, .unk, .unk, .unk, .unk, .unk, .unk, .unk, .unk]
   [] 0 .nil))
theorem BIx_eq (n : Nat) (f : Nat → Rel) (no : Int) (k : Nat) : cutT 0 [] [0, 1, 4, 7, 8] [] 0 .nil (exec Try.prog CO DO 200 bodyIx (invIx n f no k)) = BIx n f no k := by kernel_rfl
noncomputable def KIx (n : Nat) (f : Nat → Rel) (no : Int) (k : Nat) : Tree SV :=
  .ret (iv (-1 : Int))
theorem KIx_eq (n : Nat) (f : Nat → Rel) (no : Int) (k : Nat) : codeK (sub [] (tIx n f no)) (.exit 0) (invIx n f no k) = KIx n f no k := by kernel_rfl
noncomputable def KIxR (n : Nat) (f : Nat → Rel) (no : Int) (k : Nat) : Tree SV :=
  .ret (iv (↑k : Int))
theorem KIxR_eq (n : Nat) (f : Nat → Rel) (no : Int) (k : Nat) : codeK (sub [] (tIx n f no)) .ret (retIx n f no k) = KIxR n f no k := by kernel_rfl
end Go.Proofs.Ytpaejfeojdoikaa
namespace Go.Proofs.Ytpaejfeojdoikaa
open Go.Sx
set_option maxRecDepth 100000
def posF (f : Nat → Rel) (no : Int) : Nat → Nat → Nat
  | 0, k => k
  | m + 1, k => if (f k).no = no then k else posF f no m (k + 1)
theorem posF_spec {f : Nat → Rel} {no : Int} {n : Nat} : ∀ m k, k + m = n → (posF f no m k = n ∧ ∀ i, k ≤ i → i < n → (f i).no ≠ no) ∨ (k ≤ posF f no m k ∧ posF f no m k < n ∧ (f (posF f no m k)).no = no) := by
  intro m
  induction m with
  | zero => exact fun k h => .inl ⟨by simpa [posF] using h, fun i h1 h2 => by omega⟩
  | succ m ih =>
    intro k h
    by_cases hk : (f k).no = no
    · have e : posF f no (m + 1) k = k := by simp [posF, hk]
      rw [e]; exact .inr ⟨Nat.le_refl _, by omega, hk⟩
    · have e : posF f no (m + 1) k = posF f no m (k + 1) := by simp [posF, hk]
      rw [e]
      rcases ih (k + 1) (by omega) with ⟨h1, h2⟩ | ⟨h1, h2, h3⟩
      · refine .inl ⟨h1, fun i hi hn => ?_⟩
        by_cases hik : i = k
        · subst hik; exact hk
        · exact h2 i (by omega) hn
      · exact .inr ⟨by omega, h2, h3⟩
def idxV (n : Nat) (f : Nat → Rel) (no : Int) : Int := if posF f no n 0 = n then -1 else (posF f no n 0 : Int)
theorem ix_sat {n : Nat} {f : Nat → Rel} {no : Int} (hn : n ≤ 1000000) : Sat Try.prog (tIx n f no) (· = iv (idxV n f no)) := by
  constructor
  rw [LIx_eq]; unfold LIx
  refine code_satS CO_ok DO_ok (n := 200) (n0 := 0) (nx := 0) (roots := []) (keep := [0, 1, 4, 7, 8]) (drop := []) (h := .nil) (c := codeC (sub [] (tIx n f no))) (st := codeS (sub [] (tIx n f no))) (k := codeK (sub [] (tIx n f no))) (body := bodyIx) (by kernel_rfl) (by kernel_rfl)
    (fun q s => ∃ k : Nat, q = n - k ∧ k ≤ n ∧ posF f no n 0 = posF f no (n - k) k ∧ s = invIx n f no k)
    (fun e s => (e = .exit 0 ∧ idxV n f no = -1 ∧ s = invIx n f no n) ∨ (e = .ret ∧ ∃ k : Nat, idxV n f no = k ∧ s = retIx n f no k))
    ⟨_, _, ⟨0, rfl, by omega, rfl, rfl⟩, ?_⟩ ?_ ?_
  · exact entA_sound (roots := []) (keep := [0, 1, 7, 8]) (drop := []) (nx := 0) (h := .nil) (by kernel_rfl)
  · rintro q s ⟨k, rfl, hk, hq, rfl⟩
    refine Sat.of_eq (BIx_eq n f no k) ?_
    constructor
    unfold BIx
    simp only [Int.toNat_natCast]
    refine ⟨fun hc => ?_, fun hc => ?_⟩
    · have hc : k < n := by simp only [decide_eq_true_eq] at hc; omega
      have hs : posF f no (n - k) k = if (f k).no = no then k else posF f no (n - (k + 1)) (k + 1) := by
        rw [show n - k = (n - (k + 1)) + 1 by omega]; rfl
      refine ⟨by omega, fun h => ?_, fun h => ?_⟩
      · have h : (f k).no = no := by simpa using h
        refine ⟨_, .inr ⟨rfl, k, ?_, rfl⟩, Gc.refl _ _⟩
        unfold idxV
        rw [hq, hs, if_pos h, if_neg (by omega)]
      · have h : (f k).no ≠ no := by simpa using h
        refine ⟨n - (k + 1), _, by omega, ⟨k + 1, rfl, by omega, ?_, rfl⟩, ?_⟩
        · rw [hq, hs, if_neg h]
        · rw [w64_of (n := (k : Int) + 1) (by omega) (by omega)]; exact Gc.refl _ _
    · have hc : k = n := by simp only [decide_eq_false_iff_not] at hc; omega
      subst hc
      refine ⟨_, .inl ⟨rfl, ?_, rfl⟩, Gc.refl _ _⟩
      unfold idxV
      rw [hq, Nat.sub_self]; exact if_pos rfl
  · rintro e s (⟨rfl, hq, rfl⟩ | ⟨rfl, k, hq, rfl⟩)
    · refine Sat.of_eq (KIx_eq n f no n) ⟨?_⟩
      rw [hq]; exact rfl
    · refine Sat.of_eq (KIxR_eq n f no k) ⟨?_⟩
      rw [hq]; exact rfl
noncomputable def cIdx : Ctr := fun ss => match ss with
  | [.d d, .fn (.func 154) [] [.rop 1 c]] => match rowD 20 d, c 0 with
    | some (n, cell), .x (.int .i64 no) => .need (ChC n cell) (.ret (iv (idxV n (relC cell) no)))
    | _, _ => .fail
  | _ => .fail
theorem cIdx_ok : CtrOK Try.prog 153 cIdx := by
  refine ctrOK_leS CO_ok DO_ok (by kernel_rfl) (by kernel_rfl) fun ss r h => ?_
  unfold cIdx at h
  split at h
  · rename_i d c
    split at h
    · rename_i n cell no hr hc
      obtain ⟨h1, rfl⟩ := h
      have k := ix_sat (no := no) (f := relC cell) h1.1
      refine ⟨[.d (chD n (relC cell)), fnFi no], 200, .nil, ?_, ?_⟩
      · simp only [leSVs, leSV, and_true, true_and, fnFi]
        refine ⟨h1.le hr, Nat.le_refl _, fun j hj => ?_⟩
        obtain rfl : j = 0 := by omega
        rw [hc]; simp [leD, i64d]
      · exact k
    · exact h.elim
  · exact h.elim
end Go.Proofs.Ytpaejfeojdoikaa
namespace Go.Proofs.Ytpaejfeojdoikaa
open Go.Sx
set_option maxRecDepth 100000
def bR (n : Nat) (f : Nat → Rel) (r : Rel) : Rel := { r with no := (n : Int) + 1, prev := prevN f n }
def newR (key : Int) (n : Nat) (f : Nat → Rel) (r : Rel) : Rel := { bR n f r with tag := stp key (dig (bR n f r)) }
noncomputable def nxE (key : Int) (n : Nat) (f : Nat → Rel) (r : Rel) : Int := bif ckV key n f != 0 then 460 else bif decide ((n : Int) ≥ 200) then 2 else bif !vdB r then 1 else 0
noncomputable def nxN (key : Int) (n : Nat) (f : Nat → Rel) (r : Rel) : Nat := bif nxE key n f r == 0 then n + 1 else 0
noncomputable def nxF (key : Int) (n : Nat) (f : Nat → Rel) (r : Rel) : Nat → Rel := fun i => bif decide (i < n) then f i else newR key n f r
theorem dsAt_rel {L : List DV} {r : Rel} (h : L = [i64d r.no, u64d r.prev, u64d r.src, u64d r.cir, .ro r.fn 1 fun i _ => .x (.int .u64 (r.fc i)), i64d r.b0, i64d r.b1, i64d r.b2, i64d r.b3, i64d r.b4, i64d r.b5, i64d r.b6, i64d r.b7, i64d r.b8, i64d r.b9, i64d r.b10, i64d r.b11, i64d r.pn, i64d r.pd, u64d r.tag]) : ∀ j, j < 20 → dsAt L j = relD r j := by
  subst h
  intro j hj
  match j, hj with
  | 0, _ => rfl
  | 1, _ => rfl
  | 2, _ => rfl
  | 3, _ => rfl
  | 4, _ => rfl
  | 5, _ => rfl
  | 6, _ => rfl
  | 7, _ => rfl
  | 8, _ => rfl
  | 9, _ => rfl
  | 10, _ => rfl
  | 11, _ => rfl
  | 12, _ => rfl
  | 13, _ => rfl
  | 14, _ => rfl
  | 15, _ => rfl
  | 16, _ => rfl
  | 17, _ => rfl
  | 18, _ => rfl
  | 19, _ => rfl
  | k + 20, h => exact absurd h (by omega)
theorem app_row {n : Nat} {f : Nat → Rel} {r : Rel} {L : List DV} (hL : ∀ j, j < 20 → dsAt L j = relD r j) {i j : Nat} (hi : i < n + 1) (hj : j < 20) :
    selD (decide (i < n)) (relD (f i) j) (dsAt L ((i - n) * 20 + j)) = relD (bif decide (i < n) then f i else r) j := by
  rw [selD_if]
  by_cases h : i < n
  · rw [if_pos h]; simp [h]
  · rw [if_neg h, show (i - n) * 20 + j = j by omega, hL j hj]; simp [h]
theorem newR_fn {key : Int} {n : Nat} {f : Nat → Rel} {r : Rel} : (newR key n f r).fn = r.fn := rfl
theorem nil_le {f : Nat → Rel} {m : Nat} (h : m = 0) : leD (.x (.slice none 0 0)) (chD m f) := by subst h; exact ⟨rfl, rfl⟩
theorem tup2_le {a c : DV} {b : Int} (h : leD a c) : leSV 0 [] [] (.tup [.d a, iv b]) (.tup [.d c, iv b]) := by
  simp only [leSV, leSVs, and_true]; exact ⟨h, by simp [leD, iv, leSV]⟩
theorem agg2_le {a c : DV} {b : Int} (h : leD a c) : leSV 0 [] [] (.agg [.d a, iv b]) (.agg [.d c, iv b]) := by
  simp only [leSV, leSVs, and_true]; exact ⟨h, by simp [leD, iv, leSV]⟩
set_option maxHeartbeats 1000000 in
theorem nx_sat {key : Int} {n : Nat} {f : Nat → Rel} {r : Rel} (hn : n ≤ 1000000) (hf : ∀ i, i < n → (f i).fn ≤ 1000000) (hr : r.fn ≤ 1000000) : Sat Try.prog (LNx key n f r) fun s => leSV 0 [] [] s (.tup [.d (chD (nxN key n f r) (nxF key n f r)), iv (nxE key n f r)]) := by
  constructor
  unfold LNx
  refine ⟨ChC.self hn hf, fun h => ?_, fun h => ?_⟩
  · have h : (ckV key n f != 0) = true := h
    have hE : nxE key n f r = 460 := by unfold nxE; rw [h]; rfl
    rw [hE]
    exact tup2_le (nil_le (by unfold nxN; rw [hE]; rfl))
  · have h : (ckV key n f != 0) = false := h
    refine ⟨fun h1 => ?_, fun h1 => ⟨U64C.self hr, fun h2 => ?_, fun h2 => ?_⟩⟩
    · have hE : nxE key n f r = 2 := by unfold nxE; rw [h, h1]; rfl
      rw [hE]
      exact tup2_le (nil_le (by unfold nxN; rw [hE]; rfl))
    · have hE : nxE key n f r = 1 := by unfold nxE; rw [h, h1, h2]; rfl
      rw [hE]
      exact tup2_le (nil_le (by unfold nxN; rw [hE]; rfl))
    · have hE : nxE key n f r = 0 := by unfold nxE; rw [h, h1, h2]; rfl
      have hN : nxN key n f r = n + 1 := by unfold nxN; rw [hE]; rfl
      rw [hE, hN]
      have e2 : w64 ((n : Int) + 1) = (n : Int) + 1 := w64_of (by omega) (by omega)
      refine ⟨fun h3 => ?_, fun h3 => ?_⟩
      · obtain ⟨m, rfl⟩ : ∃ m, n = m + 1 := ⟨n - 1, by simp only [decide_eq_true_eq] at h3; omega⟩
        have e1 : w64 (((m + 1 : Nat) : Int) - 1) = (m : Int) := by rw [show ((m + 1 : Nat) : Int) - 1 = (m : Int) by omega]; exact w64_of (by omega) (by omega)
        refine ⟨by rw [e1]; omega, ?_, U64C.self hr, ?_, ?_, by omega, ?_⟩
        · unfold LNx_q3; rw [e1, Int.toNat_natCast]; exact U64C.self (c := (f m).fc) (hf m (by omega))
        · exact I64C.self (by show 19 + r.fn ≤ _; omega)
        · exact ⟨trivial, by simp, by omega⟩
        · refine tup2_le ⟨rfl, rfl, fun i j hi hj => ?_⟩
          unfold LNx_q7 LNx_q6 LNx_q4 LNx_q2
          rw [e1, e2]
          simp only [Nat.zero_add, Int.toNat_natCast]
          exact app_row (dsAt_rel (by rfl)) hi hj
      · obtain rfl : n = 0 := by simp only [decide_eq_false_iff_not] at h3; omega
        refine ⟨U64C.self hr, ?_, ?_, by omega, ?_⟩
        · exact I64C.self (by show 19 + r.fn ≤ _; omega)
        · exact ⟨trivial, by simp, by omega⟩
        · refine tup2_le ⟨rfl, rfl, fun i j hi hj => ?_⟩
          obtain rfl : i = 0 := by omega
          unfold LNx_q10 LNx_q9 LNx_q4 LNx_q2
          rw [e2, selD_eq]
          simp only [Nat.zero_add, Int.toNat_natCast, Nat.not_lt_zero, decide_false, cond_false, Nat.sub_zero, Nat.zero_mul]
          exact dsAt_rel (r := newR key 0 f r) (by rfl) j hj
noncomputable def cNx : Ctr := fun ss => match ss with
  | [.d (.x (.int .u64 key)), .d d, .agg l] => match rowD 20 d, relOf l with
    | some (n, cell), some (r, p) => .need (ChC n cell ∧ p) (.ret (.tup [.d (chD (nxN key n (relC cell) r) (nxF key n (relC cell) r)), iv (nxE key n (relC cell) r)]))
    | _, _ => .fail
  | _ => .fail
noncomputable def cNi : Ctr := fun ss => match ss with
  | [.d (.x (.int .u64 key)), .d d, .agg l] => match rowD 20 d, relOf l with
    | some (n, cell), some (r, p) => .need (ChC n cell ∧ p) (.ret (.agg [.d (chD (nxN key n (relC cell) r) (nxF key n (relC cell) r)), iv (nxE key n (relC cell) r)]))
    | _, _ => .fail
  | _ => .fail
theorem cNx_ok : CtrOK Try.prog 102 cNx := by
  refine ctrOK_leR CO_ok DO_ok (by kernel_rfl) (by kernel_rfl) fun ss r h => ?_
  unfold cNx at h
  split at h
  · rename_i key d l
    split at h
    · rename_i n cell r p hr1 hr2
      obtain ⟨⟨h1, h2⟩, rfl⟩ := h
      obtain ⟨h3, h4⟩ := relOf_le hr2 h2
      have k := nx_sat (key := key) h1.1 h1.fn h4
      refine ⟨[u64v key, .d (chD n (relC cell)), .agg (relL r)], 200, .nil, ?_, ?_⟩
      · simp only [leSVs, leSV, u64v, and_true]; exact ⟨by simp [leD], h1.le hr1, h3⟩
      · exact Sat.of_eq (LNx_eq key n (relC cell) r) k
    · exact h.elim
  · exact h.elim
end Go.Proofs.Ytpaejfeojdoikaa
namespace Go.Proofs.Ytpaejfeojdoikaa
open Go.Sx
set_option maxRecDepth 100000
set_option pp.structureInstances false
noncomputable def manP : FuncId → Option Ctr := fun k => match k with
  | 153 => some cIdx
  | 102 => some cNx
  | k => manO k
theorem manP_ok (k : Nat) (c : Ctr) (h : manP k = some c) : CtrOK Try.prog k c ∧ goodF Try.prog k = true := by
  unfold manP at h
  split at h
  · cases h; exact ⟨cIdx_ok, by kernel_rfl⟩
  · cases h; exact ⟨cNx_ok, by kernel_rfl⟩
  · exact manO_ok _ _ h
noncomputable def CP : Ctx := ctxO Try.prog manP ownL (fun k => k == 106) 200 .nil 6
theorem CP_ok : CtxOK Try.prog CP := ctxO_ok mixed manP_ok ownL_ok 6
noncomputable def DP : Dr := fun _ => drawn Try.prog CP
theorem DP_ok : DrOK Try.prog CP DP := drawn_ok CP_ok mixed
noncomputable def TP (h : Hint) (k : Nat) (args : List SV) : Tree SV := fnT Try.prog CP DP 200 (fnOf Try.prog k) (bodyOf Try.prog k) args h
noncomputable def LFd_q1 (f : Nat → Rel) (i : Nat) (j : Nat) : DV :=
  relD (f i) j
noncomputable def LFd_q2 (n : Nat) (f : Nat → Rel) (no : Int) (i : Nat) (x : Nat) : DV :=
  DV.x (.int .u64 (Rel.fc (f (Int.toNat (idxV n (relC (LFd_q1 f)) no))) i))
noncomputable def LFd (n : Nat) (f : Nat → Rel) (no : Int) : Tree SV :=
 .need (ChC n (LFd_q1 f))
 (.ite (decide (idxV n (fun i => f i) no < (0 : Int)))
 (.ret
 (SV.agg
 [iv (0 : Int), SV.d (DV.x (.int .u64 (0 : Int))), SV.d (DV.x (.int .u64 (0 : Int))), SV.d (DV.x (.int .u64 (0 : Int))), SV.d (DV.x (.slice none 0 0)), iv (0 : Int),
 iv (0 : Int), iv (0 : Int), iv (0 : Int), iv (0 : Int), iv (0 : Int), iv (0 : Int), iv (0 : Int), iv (0 : Int), iv (0 : Int), iv (0 : Int), iv (0 : Int), iv (0 : Int), iv (0 : Int), SV.d (DV.x (.int .u64 (0 : Int))),
 iv (4 : Int)]))
 (.need ((0 : Int) ≤ idxV n (fun i => f i) no ∧ idxV n (fun i => f i) no < (↑n : Int))
 (.ret
 (SV.agg
 [iv (Rel.no (f (Int.toNat (idxV n (relC (LFd_q1 f)) no)))), SV.d (DV.x (.int .u64 (Rel.prev (f (Int.toNat (idxV n (relC (LFd_q1 f)) no)))))),
 SV.d (DV.x (.int .u64 (Rel.src (f (Int.toNat (idxV n (relC (LFd_q1 f)) no)))))), SV.d (DV.x (.int .u64 (Rel.cir (f (Int.toNat (idxV n (relC (LFd_q1 f)) no)))))),
 SV.d (DV.ro (Rel.fn (f (Int.toNat (idxV n (relC (LFd_q1 f)) no)))) 1 (LFd_q2 n f no)), iv (Rel.b0 (f (Int.toNat (idxV n (relC (LFd_q1 f)) no)))),
 iv (Rel.b1 (f (Int.toNat (idxV n (relC (LFd_q1 f)) no)))), iv (Rel.b2 (f (Int.toNat (idxV n (relC (LFd_q1 f)) no)))), iv (Rel.b3 (f (Int.toNat (idxV n (relC (LFd_q1 f)) no)))),
 iv (Rel.b4 (f (Int.toNat (idxV n (relC (LFd_q1 f)) no)))), iv (Rel.b5 (f (Int.toNat (idxV n (relC (LFd_q1 f)) no)))), iv (Rel.b6 (f (Int.toNat (idxV n (relC (LFd_q1 f)) no)))),
 iv (Rel.b7 (f (Int.toNat (idxV n (relC (LFd_q1 f)) no)))), iv (Rel.b8 (f (Int.toNat (idxV n (relC (LFd_q1 f)) no)))), iv (Rel.b9 (f (Int.toNat (idxV n (relC (LFd_q1 f)) no)))),
 iv (Rel.b10 (f (Int.toNat (idxV n (relC (LFd_q1 f)) no)))), iv (Rel.b11 (f (Int.toNat (idxV n (relC (LFd_q1 f)) no)))), iv (Rel.pn (f (Int.toNat (idxV n (relC (LFd_q1 f)) no)))),
 iv (Rel.pd (f (Int.toNat (idxV n (relC (LFd_q1 f)) no)))), SV.d (DV.x (.int .u64 (Rel.tag (f (Int.toNat (idxV n (relC (LFd_q1 f)) no)))))), iv (0 : Int)]))))
theorem LFd_eq (n : Nat) (f : Nat → Rel) (no : Int) : TP .nil 37 [.d (chD n f), iv no] = LFd n f no := by kernel_rfl
noncomputable def tCt (n : Nat) (c : Nat → Int) : Tree SV := TP .nil 33 [.d (.ro n 1 fun i _ => .x (.int .u8 (c i)))]
noncomputable def LCt4 (n : Nat) (c : Nat → Int) : Tree SV :=
  .need ((Byt n fun i x => DV.x (.int .u8 (c i))) ∧ (0 : Int) ≤ (0 : Int))
  (.need ((Byt n fun i x => DV.x (.int .u8 (c i))) ∧ (0 : Int) ≤ (1 : Int))
   (.need (Byt n fun i x => DV.x (.int .u8 (c i)))
   (.need ((Byt n fun i x => DV.x (.int .u8 (c i))) ∧ (0 : Int) ≤ (2 : Int))
   (.need ((Byt n fun i x => DV.x (.int .u8 (c i))) ∧ (0 : Int) ≤ (3 : Int))
   (.need ((6 : Int) ≠ (0 : Int))
   (.need (I64 (w64 ((1 : Int) + at8 n (fun i => c i) (2 : Int))) ∧ I64 (w64 ((1 : Int) + Int.tmod (at8 n (fun i => c i) (3 : Int)) (6 : Int))))
   (.code (codeC (sub [(0 : Nat), (0 : Nat), (0 : Nat), (0 : Nat), (0 : Nat), (0 : Nat), (0 : Nat)] (tCt n c))) (codeS (sub [(0 : Nat), (0 : Nat), (0 : Nat), (0 : Nat), (0 : Nat), (0 : Nat), (0 : Nat)] (tCt n c)))
   (codeK (sub [(0 : Nat), (0 : Nat), (0 : Nat), (0 : Nat), (0 : Nat), (0 : Nat), (0 : Nat)] (tCt n c))))))))))
theorem LCt4_eq (n : Nat) (c : Nat → Int) : tCt n c = LCt4 n c := by kernel_rfl
noncomputable def ctR (n : Nat) (c : Nat → Int) : Rel := ⟨0, 0, IntKind.wrap .u64 (at8 n c 0), IntKind.wrap .u64 (at8 n c 1), (Int.tmod (at8 n c 4) 4).toNat, fun i => IntKind.wrap .u64 (at8 n c (5 + i)),
  (loQ n c 0).num, (loQ n c 0).den, (hiQ n c 0).num, (hiQ n c 0).den, (loQ n c 1).num, (loQ n c 1).den, (hiQ n c 1).num, (hiQ n c 1).den, (loQ n c 2).num, (loQ n c 2).den, (hiQ n c 2).num, (hiQ n c 2).den,
  (mdQ (w64 (1 + at8 n c 2)) (w64 (1 + Int.tmod (at8 n c 3) 6))).num, (mdQ (w64 (1 + at8 n c 2)) (w64 (1 + Int.tmod (at8 n c 3) 6))).den, 0⟩
def zeroL : List SV := [iv 0, u64v 0, u64v 0, u64v 0, .d (.x (.slice none 0 0)), iv 0, iv 0, iv 0, iv 0, iv 0, iv 0, iv 0, iv 0, iv 0, iv 0, iv 0, iv 0, iv 0, iv 0, u64v 0]
def relLf (r : Rel) (s : SV) : List SV := [iv r.no, u64v r.prev, u64v r.src, u64v r.cir, s, iv r.b0, iv r.b1, iv r.b2, iv r.b3, iv r.b4, iv r.b5, iv r.b6, iv r.b7, iv r.b8, iv r.b9, iv r.b10, iv r.b11, iv r.pn, iv r.pd, u64v r.tag]
def ro8' (n : Nat) (c : Nat → Int) : SV := .d (.ro n 1 fun i _ => .x (.int .u8 (c i)))
noncomputable def entCt (n : Nat) (c : Nat → Int) : AS := ⟨[.ok (ro8' n c), .unk, .ok (.ptr 0 0), .ok (.ptr 1 0), .ok (iv 0)] ++ List.replicate 35 .unk, [some (.cells zeroL), some (.cells (relLf (ctR n c) (.d (.x (.slice none 0 0))))), none], 3, .nil⟩
theorem ECt_eq (n : Nat) (c : Nat → Int) : entA 3 [] [0, 2, 3, 4] [2] 3 .nil (sub [0, 0, 0, 0, 0, 0, 0] (tCt n c)) = some (entCt n c) := by kernel_rfl
noncomputable def invCt (n : Nat) (c : Nat → Int) (r : Rel) (k : Nat) (v : Nat → Int) : AS := ⟨[.ok (ro8' n c), .unk, .ok (.ptr 0 0), .ok (.ptr 1 0), .ok (iv k)] ++ List.replicate 35 .unk, [some (.cells zeroL), some (.cells (relLf r (.row 3 0 0 k 1))), none, some (.row k 1 fun i _ => .x (.int .u64 (v i)))], 4, .nil⟩
noncomputable def bodyCt : Code := loopN (bodyOf Try.prog 33) 0
noncomputable def rtCt : List (Root × Nat) := [(.cell (.base 1) 4, 3)]
noncomputable def BCt (n : Nat) (c : Nat → Int) (r : Rel) (k : Nat) (v : Nat → Int) : Tree (Ex × AS) :=
 .need ((Byt n fun i x => DV.x (.int .u8 (c i))) ∧ (0 : Int) ≤ (4 : Int))
 (.need ((4 : Int) ≠ (0 : Int))
 (.ite (decide ((↑k : Int) < Int.tmod (at8 n (fun i => c i) (4 : Int)) (4 : Int)))
 (.need ((Byt n fun i x => DV.x (.int .u8 (c i))) ∧ (0 : Int) ≤ w64 ((5 : Int) + (↑k : Int)))
 (.need (0 + k ≤ k ∧ 1 ≤ List.length [SV.d (DV.x (.int .u64 (IntKind.wrap .u64 (at8 n (fun i => c i) (w64 ((5 : Int) + (↑k : Int)))))))] ∧ (k + 1) * 8 ≤ 140737488355328)
 (.ret
 (.normal,
 AS.mk
 [.ok (SV.d (DV.ro n 1 fun i x => DV.x (.int .u8 (c i)))), .unk, .ok (SV.ptr 0 0), .ok (SV.ptr 1 0), .ok (iv (w64 ((↑k : Int) + (1 : Int)))), .unk,
 .unk, .unk, .unk, .unk, .unk, .unk, .unk, .unk, .unk, .unk, .unk, .unk, .unk, .unk, .unk, .unk, .unk, .unk, .unk, .unk, .unk, .unk, .unk, .unk, .unk, .unk, .unk,
 .unk, .unk, .unk, .unk, .unk, .unk, .unk]
 [some
 (.cells
 [iv (0 : Int), SV.d (DV.x (.int .u64 (0 : Int))), SV.d (DV.x (.int .u64 (0 : Int))), SV.d (DV.x (.int .u64 (0 : Int))), SV.d (DV.x (.slice none 0 0)),
 iv (0 : Int), iv (0 : Int), iv (0 : Int), iv (0 : Int), iv (0 : Int), iv (0 : Int), iv (0 : Int), iv (0 : Int), iv (0 : Int), iv (0 : Int), iv (0 : Int), iv (0 : Int), iv (0 : Int), iv (0 : Int),
 SV.d (DV.x (.int .u64 (0 : Int)))]),
 some
 (.cells
 [iv (Rel.no r), SV.d (DV.x (.int .u64 (Rel.prev r))), SV.d (DV.x (.int .u64 (Rel.src r))), SV.d (DV.x (.int .u64 (Rel.cir r))),
 SV.row 3 0 0 (k + 1) 1, iv (Rel.b0 r), iv (Rel.b1 r), iv (Rel.b2 r), iv (Rel.b3 r), iv (Rel.b4 r), iv (Rel.b5 r), iv (Rel.b6 r), iv (Rel.b7 r), iv (Rel.b8 r),
 iv (Rel.b9 r), iv (Rel.b10 r), iv (Rel.b11 r), iv (Rel.pn r), iv (Rel.pd r), SV.d (DV.x (.int .u64 (Rel.tag r)))]),
 none,
 some
 (.row (k + 1) 1 fun a b =>
 selD (decide (a < k)) (DV.x (.int .u64 (v ((0 : Nat) + a))))
 (dsAt [DV.x (.int .u64 (IntKind.wrap .u64 (at8 n (fun i => c i) (w64 ((5 : Int) + (↑k : Int))))))] (0 + (0 + (a - k)) * 1 + b)))]
 4 .nil))))
 (.ret
 (.exit 0,
 AS.mk
 [.ok (SV.d (DV.ro n 1 fun i x => DV.x (.int .u8 (c i)))), .unk, .ok (SV.ptr 0 0), .ok (SV.ptr 1 0), .ok (iv (↑k : Int)), .unk, .unk, .unk, .unk,
 .unk, .unk, .unk, .unk, .unk, .unk, .unk, .unk, .unk, .unk, .unk, .unk, .unk, .unk, .unk, .unk, .unk, .unk, .unk, .unk, .unk, .unk, .unk, .unk, .unk, .unk, .unk, .unk,
 .unk, .unk, .unk]
 [some
 (.cells
 [iv (0 : Int), SV.d (DV.x (.int .u64 (0 : Int))), SV.d (DV.x (.int .u64 (0 : Int))), SV.d (DV.x (.int .u64 (0 : Int))), SV.d (DV.x (.slice none 0 0)),
 iv (0 : Int), iv (0 : Int), iv (0 : Int), iv (0 : Int), iv (0 : Int), iv (0 : Int), iv (0 : Int), iv (0 : Int), iv (0 : Int), iv (0 : Int), iv (0 : Int), iv (0 : Int), iv (0 : Int), iv (0 : Int),
 SV.d (DV.x (.int .u64 (0 : Int)))]),
 some
 (.cells
 [iv (Rel.no r), SV.d (DV.x (.int .u64 (Rel.prev r))), SV.d (DV.x (.int .u64 (Rel.src r))), SV.d (DV.x (.int .u64 (Rel.cir r))), SV.row 3 0 0 k 1,
 iv (Rel.b0 r), iv (Rel.b1 r), iv (Rel.b2 r), iv (Rel.b3 r), iv (Rel.b4 r), iv (Rel.b5 r), iv (Rel.b6 r), iv (Rel.b7 r), iv (Rel.b8 r), iv (Rel.b9 r), iv (Rel.b10 r), iv (Rel.b11 r), iv (Rel.pn r), iv (Rel.pd r),
 SV.d (DV.x (.int .u64 (Rel.tag r)))]),
 none, some (.row k 1 fun i x => DV.x (.int .u64 (v i)))]
 4 .nil))))
theorem BCt_eq (n : Nat) (c : Nat → Int) (r : Rel) (k : Nat) (v : Nat → Int) : cutT 3 rtCt [0, 2, 3, 4] [2] 4 .nil (exec Try.prog CP DP 200 bodyCt (invCt n c r k v)) = BCt n c r k v := by kernel_rfl
noncomputable def KCt (n : Nat) (c : Nat → Int) (r : Rel) (k : Nat) (v : Nat → Int) : Tree SV :=
  .need (0 + k ≤ k)
  (.ret
   (SV.agg
   [iv (Rel.no r), SV.d (DV.x (.int .u64 (Rel.prev r))), SV.d (DV.x (.int .u64 (Rel.src r))), SV.d (DV.x (.int .u64 (Rel.cir r))),
   SV.d (DV.ro k 1 fun i j => DV.x (.int .u64 (v ((0 : Nat) + i)))), iv (Rel.b0 r), iv (Rel.b1 r), iv (Rel.b2 r), iv (Rel.b3 r), iv (Rel.b4 r), iv (Rel.b5 r), iv (Rel.b6 r), iv (Rel.b7 r), iv (Rel.b8 r),
   iv (Rel.b9 r), iv (Rel.b10 r), iv (Rel.b11 r), iv (Rel.pn r), iv (Rel.pd r), SV.d (DV.x (.int .u64 (Rel.tag r)))]))
theorem KCt_eq (n : Nat) (c : Nat → Int) (r : Rel) (k : Nat) (v : Nat → Int) : codeK (sub [0, 0, 0, 0, 0, 0, 0] (tCt n c)) (.exit 0) (invCt n c r k v) = KCt n c r k v := by kernel_rfl
end Go.Proofs.Ytpaejfeojdoikaa
