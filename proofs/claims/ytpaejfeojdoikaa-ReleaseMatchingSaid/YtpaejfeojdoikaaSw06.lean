/- Part of a proof of the given statements of this seat (SxFmWf, SxFmWg, SxFmWh, SxFmWi, SxSmall, SxFmWj, SxFmWk, SxFmWl, SxFmWm, SxFmWn, SxFmWo, SxFmWp, SxFmWq, SxFmWr, SxFmWs, SxFmWt, SxFmWu, SxFmWv, SxFmWw, SxFmWx, SxFmYa, SxFmYb, SxFmYc, SxFmYd, SxFmRa, SxFmRb, SxRmA, SxRmB, SxRmC, SxRmCa, SxRmCb, SxRmD, SxRmE, SxRmF): no conditions beyond those typed here. -/
import Derived.Test.YtpaejfeojdoikaaSw05
import Derived.Test.YtpaejfeojdoikaaSw03
import Derived.Test.YtpaejfeojdoikaaSw04
set_option linter.unusedVariables false
set_option linter.unusedSimpArgs false
set_option linter.unusedSectionVars false
set_option linter.constructorNameAsVariable false

namespace Go.Proofs.Ytpaejfeojdoikaa
open Go.Sx
set_option maxRecDepth 100000
noncomputable def oN : Option Rat → Int | some r => r.num | none => 0
noncomputable def oD : Option Rat → Int | some r => r.den | none => 0
theorem rN_of {r : Rat} (h : fitsR r) : rN r = r.num := if_pos h
theorem rD_of {r : Rat} (h : fitsR r) : rD r = r.den := if_pos h
theorem rE_of {r : Rat} (h : fitsR r) : rE r = 0 := if_pos h
theorem rE_no {r : Rat} (h : ¬ fitsR r) : rE r = 2 := if_neg h
theorem rN_no {r : Rat} (h : ¬ fitsR r) : rN r = 0 := if_neg h
theorem rD_no {r : Rat} (h : ¬ fitsR r) : rD r = 0 := if_neg h
noncomputable def crn (c lo hi : Rat) (u : Bool) : Rat := if (decide (c.num ≥ 0) == u) = true then hi else lo
noncomputable def hN (o : Option (Rat × Rat)) : Int := oN (o.map Prod.snd)
noncomputable def hD (o : Option (Rat × Rat)) : Int := oD (o.map Prod.snd)
end Go.Proofs.Ytpaejfeojdoikaa
namespace Go.Proofs.Ytpaejfeojdoikaa
open Go.Sx
set_option maxRecDepth 100000
theorem intsOf_eq {k : IntKind} : ∀ {l : List SV} {ns : List Int}, intsOf k l = some ns → l = ns.map fun n => .d (.x (.int k n))
  | [], ns, h => by simp [intsOf] at h; subst h; rfl
  | s :: r, ns, h => by
    unfold intsOf at h
    split at h
    · contradiction
    · rename_i k' n r' heq
      simp only [List.cons.injEq] at heq
      obtain ⟨rfl, rfl⟩ := heq
      split at h
      · rename_i hk; subst hk
        rw [Option.map_eq_some_iff] at h
        obtain ⟨ns', h1, rfl⟩ := h
        rw [intsOf_eq h1]; rfl
      · cases h
    · cases h
end Go.Proofs.Ytpaejfeojdoikaa
namespace Go.Proofs.Ytpaejfeojdoikaa
open Go.Sx
set_option maxRecDepth 100000
end Go.Proofs.Ytpaejfeojdoikaa
namespace Go.Proofs.Ytpaejfeojdoikaa
open Go.Sx
set_option maxRecDepth 100000
noncomputable def mn (p q : Rat) : Rat := if q < p then q else p
noncomputable def mx (p q : Rat) : Rat := if p < q then q else p
theorem cmpR_pos {p q : Rat} : decide (cmpR p q > 0) = decide (q < p) := by
  rw [decide_eq_decide]; unfold cmpR
  by_cases h : p < q
  · rw [if_pos h]; exact ⟨fun h => by omega, fun h2 => absurd h2 (Rat.not_lt.2 (Rat.le_of_lt h))⟩
  · rw [if_neg h]
    by_cases e : p = q
    · subst e; rw [if_pos rfl]; exact ⟨fun h => by omega, fun h2 => absurd h2 Rat.lt_irrefl⟩
    · rw [if_neg e]; exact ⟨fun _ => Rat.lt_of_le_of_ne (Rat.not_lt.1 h) (fun e2 => e e2.symm), fun _ => by omega⟩
theorem cmpR_neg {p q : Rat} : decide (cmpR p q < 0) = decide (p < q) := by
  rw [decide_eq_decide]; unfold cmpR
  by_cases h : p < q
  · rw [if_pos h]; exact ⟨fun _ => h, fun _ => by omega⟩
  · rw [if_neg h]
    by_cases e : p = q
    · subst e; rw [if_pos rfl]; exact ⟨fun h => by omega, fun h2 => absurd h2 h⟩
    · rw [if_neg e]; exact ⟨fun h => by omega, fun h2 => absurd h2 h⟩
theorem cmpR_le {p q : Rat} : decide (cmpR p q ≤ 0) = decide (p ≤ q) := by
  have := cmpR_pos (p := p) (q := q)
  rw [decide_eq_decide] at this ⊢
  rw [← Rat.not_lt, ← this]; omega
noncomputable def cMin : Ctr := fun ss => match ss with
  | [.agg [.d (.x (.int .i64 a)), .d (.x (.int .i64 b))], .agg [.d (.x (.int .i64 c)), .d (.x (.int .i64 d))]] => .need (VF a b ∧ VF c d) (.ret (.agg [iv (mn (ratOf a b) (ratOf c d)).num, iv (mn (ratOf a b) (ratOf c d)).den]))
  | _ => .fail
noncomputable def cMax : Ctr := fun ss => match ss with
  | [.agg [.d (.x (.int .i64 a)), .d (.x (.int .i64 b))], .agg [.d (.x (.int .i64 c)), .d (.x (.int .i64 d))]] => .need (VF a b ∧ VF c d) (.ret (.agg [iv (mx (ratOf a b) (ratOf c d)).num, iv (mx (ratOf a b) (ratOf c d)).den]))
  | _ => .fail
theorem VF.out {a b : Int} (h : VF a b) : iv (ratOf a b).num = iv a ∧ iv ((ratOf a b).den : Int) = iv b := by rw [h.low.num, h.low.den]; exact ⟨rfl, rfl⟩
theorem cMinR_ok : CtrOK Try.prog 83 cMin := by
  refine ctrOK_leS C9_ok D9_ok (by kernel_rfl) (by kernel_rfl) fun ss r h => ?_
  unfold cMin at h
  split at h
  · rename_i a b c d
    obtain ⟨⟨h1, h2⟩, rfl⟩ := h
    refine ⟨[.agg [iv a, iv b], .agg [iv c, iv d]], 200, .nil, by simp [leSVs, leSV, iv, leD], Sat.of_eq (LMinR_eq a b c d) ⟨?_⟩⟩
    unfold LMinR mn
    rw [cmpR_neg]
    refine ⟨⟨h2, h1⟩, fun h => ?_, fun h => ?_⟩
    · rw [if_pos (of_decide_eq_true h), h2.out.1, h2.out.2]; exact rfl
    · rw [if_neg (of_decide_eq_false h), h1.out.1, h1.out.2]; exact rfl
  · exact h.elim
theorem cMaxR_ok : CtrOK Try.prog 84 cMax := by
  refine ctrOK_leS C9_ok D9_ok (by kernel_rfl) (by kernel_rfl) fun ss r h => ?_
  unfold cMax at h
  split at h
  · rename_i a b c d
    obtain ⟨⟨h1, h2⟩, rfl⟩ := h
    refine ⟨[.agg [iv a, iv b], .agg [iv c, iv d]], 200, .nil, by simp [leSVs, leSV, iv, leD], Sat.of_eq (LMaxR_eq a b c d) ⟨?_⟩⟩
    unfold LMaxR mx
    rw [cmpR_pos]
    refine ⟨⟨h2, h1⟩, fun h => ?_, fun h => ?_⟩
    · rw [if_pos (of_decide_eq_true h), h2.out.1, h2.out.2]; exact rfl
    · rw [if_neg (of_decide_eq_false h), h1.out.1, h1.out.2]; exact rfl
  · exact h.elim
theorem VF.neg {c d : Int} (h : VF c d) : VF (0 - c) d := ⟨⟨h.low.pos, by have := h.low.cop; rwa [Int.zero_sub, Int.natAbs_neg]⟩, by have := h.n; omega, h.d⟩
def Byt (n : Nat) (cell : Nat → Nat → DV) : Prop := n ≤ 9223372036854775807 ∧ ∀ i, i < n → ∃ b, cell i 0 = .x (.int .u8 b) ∧ 0 ≤ b ∧ b < 256
theorem le_ro8 {n : Nat} {cell : Nat → Nat → DV} (hb : Byt n cell) : ∀ i j, i < n → j < 1 → cell i j = .x (.int .u8 (intCell cell i)) := by
  intro i j hi hj
  obtain rfl : j = 0 := by omega
  obtain ⟨b, e, _⟩ := hb.2 i hi
  simp [intCell, e, intOf1]
theorem Byt.get {n : Nat} {cell : Nat → Nat → DV} (hb : Byt n cell) {i : Nat} (hi : i < n) : 0 ≤ intCell cell i ∧ intCell cell i < 256 := by
  obtain ⟨b, e, h⟩ := hb.2 i hi
  simp only [intCell, e, intOf1]; exact h
def at8 (n : Nat) (c : Nat → Int) (i : Int) : Int := if n = 0 then 0 else c (i.toNat % n)
theorem at8_b {n : Nat} {cell : Nat → Nat → DV} (hb : Byt n cell) (i : Int) : 0 ≤ at8 n (intCell cell) i ∧ at8 n (intCell cell) i < 256 := by
  unfold at8; split
  · omega
  · exact hb.get (Nat.mod_lt _ (by omega))
noncomputable def cAt8 : Ctr := fun ss => match ss with
  | [.d (.ro n 1 cell), .d (.x (.int .i64 i))] => .need (Byt n cell ∧ 0 ≤ i) (.ret (iv (at8 n (intCell cell) i)))
  | _ => .fail
theorem cAt8_ok : CtrOK Try.prog 74 cAt8 := by
  refine ctrOK_leS C9_ok D9_ok (by kernel_rfl) (by kernel_rfl) fun ss r h => ?_
  unfold cAt8 at h
  split at h
  · rename_i n cell i
    obtain ⟨⟨h1, h2⟩, rfl⟩ := h
    refine ⟨[ro8 n (intCell cell), iv i], 200, .nil, ?_, Sat.of_eq (LAt8_eq n (intCell cell) i) ⟨?_⟩⟩
    · simp only [leSVs, leSV, ro8, iv, leD, and_true, true_and]
      exact le_ro8 h1
    · unfold LAt8
      refine ⟨fun h => ?_, fun h => ?_⟩
      · have h : n = 0 := by simp at h; omega
        rw [at8, if_pos h]; exact rfl
      · have h : n ≠ 0 := by simp at h; omega
        have e : Int.tmod i n = ((i.toNat % n : Nat) : Int) := by
          rw [tmod_lit h2, Int.natCast_emod]; congr 1; omega
        have hl := Nat.mod_lt i.toNat (show n > 0 by omega)
        rw [e, Int.toNat_natCast]
        have hb := h1.get hl
        rw [w64_of (by omega) (by omega)]
        refine ⟨by omega, by omega, ?_⟩
        rw [at8, if_neg h]; exact rfl
  · exact h.elim
noncomputable def frQ (a b : Int) : Rat := ratOf (a % 41 - 20) (1 + b % 6)
noncomputable def cFrac : Ctr := fun ss => match ss with
  | [.d (.x (.int .i64 a)), .d (.x (.int .i64 b))] => .need ((0 ≤ a ∧ a < 256) ∧ 0 ≤ b ∧ b < 256) (.ret (.agg [iv (frQ a b).num, iv (frQ a b).den]))
  | _ => .fail
theorem cFrac_ok : CtrOK Try.prog 73 cFrac := by
  refine ctrOK_leS C9_ok D9_ok (by kernel_rfl) (by kernel_rfl) fun ss r h => ?_
  unfold cFrac at h
  split at h
  · rename_i a b
    obtain ⟨⟨⟨a1, a2⟩, b1, b2⟩, rfl⟩ := h
    refine ⟨[iv a, iv b], 200, .nil, by simp [leSVs, leSV, iv, leD], Sat.of_eq (LFrac_eq a b) ⟨?_⟩⟩
    unfold LFrac
    rw [tmod_lit a1, tmod_lit b1, w64_of (n := a % 41 - 20) (by omega) (by omega), w64_of (n := 1 + b % 6) (by omega) (by omega)]
    exact ⟨by decide, by decide, by omega, rfl⟩
  · exact h.elim
noncomputable def manA : FuncId → Option Ctr := fun k => match k with
  | 83 => some cMin
  | 84 => some cMax
  | 74 => some cAt8
  | 73 => some cFrac
  | k => man9 k
theorem manA_ok (k : Nat) (c : Ctr) (h : manA k = some c) : CtrOK Try.prog k c ∧ goodF Try.prog k = true := by
  unfold manA at h
  split at h
  · cases h; exact ⟨cMinR_ok, by kernel_rfl⟩
  · cases h; exact ⟨cMaxR_ok, by kernel_rfl⟩
  · cases h; exact ⟨cAt8_ok, by kernel_rfl⟩
  · cases h; exact ⟨cFrac_ok, by kernel_rfl⟩
  · exact man9_ok _ _ h
noncomputable def CA : Ctx := ctxN Try.prog manA (fun _ => false) 200 .nil 6
theorem CA_ok : CtxOK Try.prog CA := ctxN_ok mixed manA_ok 6
noncomputable def DA : Dr := fun _ => drawn Try.prog CA
theorem DA_ok : DrOK Try.prog CA DA := drawn_ok CA_ok mixed
noncomputable def TA (h : Hint) (k : Nat) (args : List SV) : Tree SV := fnT Try.prog CA DA 200 (fnOf Try.prog k) (bodyOf Try.prog k) args h
noncomputable def LIvl (n : Nat) (c : Nat → Int) (i : Int) : Tree SV :=
 .need ((Byt n fun i x => DV.x (.int .u8 (c i))) ∧ (0 : Int) ≤ i)
 (.need ((Byt n fun i x => DV.x (.int .u8 (c i))) ∧ (0 : Int) ≤ w64 (i + (1 : Int)))
 (.need (((0 : Int) ≤ at8 n (fun i => c i) i ∧ at8 n (fun i => c i) i < (256 : Int)) ∧ (0 : Int) ≤ at8 n (fun i => c i) (w64 (i + (1 : Int))) ∧ at8 n (fun i => c i) (w64 (i + (1 : Int))) < (256 : Int))
 (.need ((Byt n fun i x => DV.x (.int .u8 (c i))) ∧ (0 : Int) ≤ w64 (i + (2 : Int)))
 (.need ((Byt n fun i x => DV.x (.int .u8 (c i))) ∧ (0 : Int) ≤ w64 (i + (3 : Int)))
 (.need
 (((0 : Int) ≤ at8 n (fun i => c i) (w64 (i + (2 : Int))) ∧ at8 n (fun i => c i) (w64 (i + (2 : Int))) < (256 : Int)) ∧
 (0 : Int) ≤ at8 n (fun i => c i) (w64 (i + (3 : Int))) ∧ at8 n (fun i => c i) (w64 (i + (3 : Int))) < (256 : Int))
 (.need
 (VF (Rat.num (frQ (at8 n (fun i => c i) i) (at8 n (fun i => c i) (w64 (i + (1 : Int)))))) (↑(Rat.den (frQ (at8 n (fun i => c i) i) (at8 n (fun i => c i) (w64 (i + (1 : Int)))))) : Int) ∧
 VF (Rat.num (frQ (at8 n (fun i => c i) (w64 (i + (2 : Int)))) (at8 n (fun i => c i) (w64 (i + (3 : Int)))))) (↑(Rat.den (frQ (at8 n (fun i => c i) (w64 (i + (2 : Int)))) (at8 n (fun i => c i) (w64 (i + (3 : Int)))))) : Int))
 (.need
 (VF (Rat.num (frQ (at8 n (fun i => c i) i) (at8 n (fun i => c i) (w64 (i + (1 : Int)))))) (↑(Rat.den (frQ (at8 n (fun i => c i) i) (at8 n (fun i => c i) (w64 (i + (1 : Int)))))) : Int) ∧
 VF (Rat.num (frQ (at8 n (fun i => c i) (w64 (i + (2 : Int)))) (at8 n (fun i => c i) (w64 (i + (3 : Int))))))
 (↑(Rat.den (frQ (at8 n (fun i => c i) (w64 (i + (2 : Int)))) (at8 n (fun i => c i) (w64 (i + (3 : Int)))))) : Int))
 (.ret
 (SV.agg
 [iv
 (Rat.num
 (mn (ratOf (Rat.num (frQ (at8 n (fun i => c i) i) (at8 n (fun i => c i) (w64 (i + (1 : Int)))))) (↑(Rat.den (frQ (at8 n (fun i => c i) i) (at8 n (fun i => c i) (w64 (i + (1 : Int)))))) : Int))
 (ratOf (Rat.num (frQ (at8 n (fun i => c i) (w64 (i + (2 : Int)))) (at8 n (fun i => c i) (w64 (i + (3 : Int))))))
 (↑(Rat.den (frQ (at8 n (fun i => c i) (w64 (i + (2 : Int)))) (at8 n (fun i => c i) (w64 (i + (3 : Int)))))) : Int)))),
 iv
 (↑(Rat.den
 (mn (ratOf (Rat.num (frQ (at8 n (fun i => c i) i) (at8 n (fun i => c i) (w64 (i + (1 : Int)))))) (↑(Rat.den (frQ (at8 n (fun i => c i) i) (at8 n (fun i => c i) (w64 (i + (1 : Int)))))) : Int))
 (ratOf (Rat.num (frQ (at8 n (fun i => c i) (w64 (i + (2 : Int)))) (at8 n (fun i => c i) (w64 (i + (3 : Int))))))
 (↑(Rat.den (frQ (at8 n (fun i => c i) (w64 (i + (2 : Int)))) (at8 n (fun i => c i) (w64 (i + (3 : Int)))))) : Int)))) :
 Int),
 iv
 (Rat.num
 (mx (ratOf (Rat.num (frQ (at8 n (fun i => c i) i) (at8 n (fun i => c i) (w64 (i + (1 : Int)))))) (↑(Rat.den (frQ (at8 n (fun i => c i) i) (at8 n (fun i => c i) (w64 (i + (1 : Int)))))) : Int))
 (ratOf (Rat.num (frQ (at8 n (fun i => c i) (w64 (i + (2 : Int)))) (at8 n (fun i => c i) (w64 (i + (3 : Int))))))
 (↑(Rat.den (frQ (at8 n (fun i => c i) (w64 (i + (2 : Int)))) (at8 n (fun i => c i) (w64 (i + (3 : Int)))))) : Int)))),
 iv
 (↑(Rat.den
 (mx (ratOf (Rat.num (frQ (at8 n (fun i => c i) i) (at8 n (fun i => c i) (w64 (i + (1 : Int)))))) (↑(Rat.den (frQ (at8 n (fun i => c i) i) (at8 n (fun i => c i) (w64 (i + (1 : Int)))))) : Int))
 (ratOf (Rat.num (frQ (at8 n (fun i => c i) (w64 (i + (2 : Int)))) (at8 n (fun i => c i) (w64 (i + (3 : Int))))))
 (↑(Rat.den (frQ (at8 n (fun i => c i) (w64 (i + (2 : Int)))) (at8 n (fun i => c i) (w64 (i + (3 : Int)))))) : Int)))) :
 Int)])))))))))
theorem LIvl_eq (n : Nat) (c : Nat → Int) (i : Int) : TA .nil 26 [ro8 n c, iv i] = LIvl n c i := by kernel_rfl
end Go.Proofs.Ytpaejfeojdoikaa
namespace Go.Sx
structure Sm (D M : Nat) (q : Rat) : Prop where
  pos : 0 < D
  ex : ∃ n : Int, q * ((D : Int) : Rat) = (n : Rat) ∧ n.natAbs ≤ M * D
theorem natR_ne {D : Nat} (h : 0 < D) : ((D : Int) : Rat) ≠ 0 := by
  intro h2
  have : ((D : Int) : Rat) = ((0 : Int) : Rat) := h2
  rw [Rat.intCast_inj] at this; omega
theorem Sm.eq {D M : Nat} {q : Rat} {n : Int} (hD : 0 < D) (h : q * ((D : Int) : Rat) = (n : Rat)) : q = mkRat n D := by
  rw [Rat.mkRat_eq_div]
  have h0 := natR_ne hD
  rw [← h]
  exact (Rat.mul_div_cancel h0).symm
theorem Sm.bounds {D M : Nat} {q : Rat} (h : Sm D M q) : q.num.natAbs ≤ M * D ∧ q.den ≤ D := by
  obtain ⟨hD, n, h1, h2⟩ := h
  have e := Sm.eq (M := M) hD h1
  rw [e, Rat.num_mkRat, Rat.den_mkRat, if_neg (by omega), if_neg (by omega)]
  constructor
  · refine Nat.le_trans ?_ h2
    rw [Int.natAbs_ediv_of_dvd (by rw [Int.ofNat_dvd_left]; exact Nat.gcd_dvd_right _ _)]
    exact Nat.div_le_self _ _
  · exact Nat.div_le_self _ _
theorem Sm.le {D M D' M' : Nat} {q : Rat} (h : Sm D M q) (hD : D ∣ D') (h0 : 0 < D') (hM : M ≤ M') : Sm D' M' q := by
  obtain ⟨hp, n, h1, h2⟩ := h
  obtain ⟨k, rfl⟩ := hD
  refine ⟨h0, n * k, ?_, ?_⟩
  · rw [Int.natCast_mul, Rat.intCast_mul, ← Rat.mul_assoc, h1, ← Rat.intCast_mul]
  · rw [Int.natAbs_mul, Int.natAbs_natCast, ← Nat.mul_assoc]
    exact Nat.mul_le_mul_right _ (Nat.le_trans h2 (Nat.mul_le_mul_right _ hM))
theorem Sm.add {D M N : Nat} {p q : Rat} (h : Sm D M p) (k : Sm D N q) : Sm D (M + N) (p + q) := by
  obtain ⟨hp, n, h1, h2⟩ := h
  obtain ⟨_, m, k1, k2⟩ := k
  refine ⟨hp, n + m, by rw [Rat.add_mul, h1, k1, Rat.intCast_add], ?_⟩
  rw [Nat.add_mul]; exact Nat.le_trans (Int.natAbs_add_le _ _) (Nat.add_le_add h2 k2)
theorem Sm.neg {D M : Nat} {p : Rat} (h : Sm D M p) : Sm D M (-p) := by
  obtain ⟨hp, n, h1, h2⟩ := h
  exact ⟨hp, -n, by rw [Rat.neg_mul, h1, Rat.intCast_neg], by rwa [Int.natAbs_neg]⟩
theorem Sm.sub {D M N : Nat} {p q : Rat} (h : Sm D M p) (k : Sm D N q) : Sm D (M + N) (p - q) := by
  rw [Rat.sub_eq_add_neg]; exact h.add k.neg
theorem ratOf_mul {n d : Int} (hd : 1 ≤ d) : ratOf n d * (d : Rat) = n := by
  unfold ratOf
  rw [Rat.mkRat_eq_div]
  have e : ((d.toNat : Nat) : Rat) = (d : Rat) := by
    rw [← Rat.intCast_natCast]; congr 1; omega
  rw [e]
  refine Rat.div_mul_cancel ?_
  intro h
  have : (d : Rat) = ((0 : Int) : Rat) := h
  rw [Rat.intCast_inj] at this; omega
theorem Sm.ratOf {n d : Int} {D M : Nat} (hd : 1 ≤ d) (hD : 0 < D) (hdv : d.toNat ∣ D) (hn : n.natAbs ≤ M * d.toNat) : Sm D M (ratOf n d) := by
  obtain ⟨k, rfl⟩ := hdv
  refine ⟨hD, n * k, ?_, ?_⟩
  · rw [Int.natCast_mul, Rat.intCast_mul, ← Rat.mul_assoc, Int.toNat_of_nonneg (by omega), ratOf_mul hd, ← Rat.intCast_mul]
  · rw [Int.natAbs_mul, Int.natAbs_natCast, ← Nat.mul_assoc]; exact Nat.mul_le_mul_right _ hn
end Go.Sx
namespace Go.Proofs.Ytpaejfeojdoikaa
open Go.Sx
set_option maxRecDepth 100000
theorem _root_.Go.Sx.Sm.fits {D M : Nat} {q : Rat} (h : Sm D M q) (h1 : D ≤ 4611686018427387904) (h2 : M * D ≤ 4611686018427387904) : fitsR q :=
  ⟨Nat.le_trans h.bounds.1 h2, Nat.le_trans h.bounds.2 h1⟩
theorem _root_.Go.Sx.Sm.mn {D M : Nat} {p q : Rat} (h : Sm D M p) (k : Sm D M q) : Sm D M (mn p q) := by unfold Proofs.Ytpaejfeojdoikaa.mn; split <;> assumption
theorem _root_.Go.Sx.Sm.mx {D M : Nat} {p q : Rat} (h : Sm D M p) (k : Sm D M q) : Sm D M (mx p q) := by unfold Proofs.Ytpaejfeojdoikaa.mx; split <;> assumption
theorem dvd60 {b : Int} (h1 : 0 ≤ b) : (1 + b % 6).toNat ∣ 60 := by
  have : b % 6 = 0 ∨ b % 6 = 1 ∨ b % 6 = 2 ∨ b % 6 = 3 ∨ b % 6 = 4 ∨ b % 6 = 5 := by omega
  rcases this with h | h | h | h | h | h <;> rw [h] <;> decide
theorem frQ_sm {a b : Int} (ha : 0 ≤ a) (hb : 0 ≤ b) : Sm 60 20 (frQ a b) := by
  unfold frQ
  refine Sm.ratOf (by omega) (by decide) (dvd60 hb) ?_
  have : 1 ≤ (1 + b % 6).toNat := by omega
  omega
noncomputable def linQ (n : Nat) (c : Nat → Int) (j : Nat) : Rat := frQ (at8 n c (2 * j : Nat)) (at8 n c (2 * j + 1 : Nat))
theorem linQ_sm {n : Nat} {cell : Nat → Nat → DV} (h : Byt n cell) (j : Nat) : Sm 60 20 (linQ n (intCell cell) j) := frQ_sm (at8_b h _).1 (at8_b h _).1
theorem linQ_fits {n : Nat} {cell : Nat → Nat → DV} (h : Byt n cell) (j : Nat) : fitsR (linQ n (intCell cell) j) := (linQ_sm h j).fits (by decide) (by decide)
noncomputable def loQ (n : Nat) (c : Nat → Int) (j : Nat) : Rat := mn (linQ n c (2 * j)) (linQ n c (2 * j + 1))
noncomputable def hiQ (n : Nat) (c : Nat → Int) (j : Nat) : Rat := mx (linQ n c (2 * j)) (linQ n c (2 * j + 1))
theorem byt_ro {n : Nat} {cell : Nat → Nat → DV} (h : Byt n cell) : Byt n fun i x => .x (.int .u8 (intCell cell i)) := ⟨h.1, fun i hi => ⟨_, rfl, h.get hi⟩⟩
theorem at8_ro {n : Nat} {cell : Nat → Nat → DV} (h : Byt n cell) (i : Int) : 0 ≤ at8 n (fun i => intCell cell i) i ∧ at8 n (fun i => intCell cell i) i < 256 := at8_b h i
noncomputable def cIvl : Ctr := fun ss => match ss with
  | [.d (.ro n 1 cell), .d (.x (.int .i64 i))] => .need (Byt n cell ∧ 0 ≤ i ∧ i < 1000000 ∧ i % 4 = 0) (.ret (.agg [iv (loQ n (intCell cell) (i / 4).toNat).num, iv (loQ n (intCell cell) (i / 4).toNat).den, iv (hiQ n (intCell cell) (i / 4).toNat).num, iv (hiQ n (intCell cell) (i / 4).toNat).den]))
  | _ => .fail
theorem cIvl_ok : CtrOK Try.prog 26 cIvl := by
  refine ctrOK_leS CA_ok DA_ok (by kernel_rfl) (by kernel_rfl) fun ss r h => ?_
  unfold cIvl at h
  split at h
  · rename_i n cell i
    obtain ⟨⟨h1, i0, i1, i4⟩, rfl⟩ := h
    refine ⟨[ro8 n (intCell cell), iv i], 200, .nil, ?_, Sat.of_eq (LIvl_eq n (intCell cell) i) ⟨?_⟩⟩
    · simp only [leSVs, leSV, ro8, iv, leD, and_true, true_and]
      exact le_ro8 h1
    · unfold LIvl
      have a := at8_ro h1
      have b := byt_ro h1
      obtain ⟨j, hj⟩ : ∃ j : Nat, i = 4 * j := ⟨(i / 4).toNat, by omega⟩
      have ej : (i / 4).toNat = j := by omega
      rw [ej, w64_of (n := i + 1) (by omega) (by omega), w64_of (n := i + 2) (by omega) (by omega), w64_of (n := i + 3) (by omega) (by omega)]
      have e1 : frQ (at8 n (fun i => intCell cell i) i) (at8 n (fun i => intCell cell i) (i + 1)) = linQ n (intCell cell) (2 * j) := by
        unfold linQ; rw [show (i : Int) = ((2 * (2 * j) : Nat) : Int) by omega]; rfl
      have e2 : frQ (at8 n (fun i => intCell cell i) (i + 2)) (at8 n (fun i => intCell cell i) (i + 3)) = linQ n (intCell cell) (2 * j + 1) := by
        unfold linQ; rw [show i + 2 = ((2 * (2 * j + 1) : Nat) : Int) by omega, show i + 3 = ((2 * (2 * j + 1) + 1 : Nat) : Int) by omega]
      simp only [e1, e2, ratOf_rat]
      have v1 := VF.of (linQ_fits h1 (2 * j))
      have v2 := VF.of (linQ_fits h1 (2 * j + 1))
      exact ⟨⟨b, by omega⟩, ⟨b, by omega⟩, ⟨a _, a _⟩, ⟨b, by omega⟩, ⟨b, by omega⟩, ⟨a _, a _⟩, ⟨v1, v2⟩, ⟨v1, v2⟩, rfl⟩
  · exact h.elim
structure VBox (kn kd tn td vn vd an ad a0 a1 a2 a3 b0 b1 b2 b3 c0 c1 c2 c3 : Int) : Prop where
  k : VF kn kd
  t : VF tn td
  v : VF vn vd
  a : VF an ad
  l0 : VF a0 a1
  h0 : VF a2 a3
  l1 : VF b0 b1
  h1 : VF b2 b3
  l2 : VF c0 c1
  h2 : VF c2 c3
end Go.Proofs.Ytpaejfeojdoikaa
namespace Go.Proofs.Ytpaejfeojdoikaa
open Go.Sx
set_option maxRecDepth 100000
noncomputable def manB : FuncId → Option Ctr := fun k => match k with
  | 26 => some cIvl
  | k => manA k
theorem manB_ok (k : Nat) (c : Ctr) (h : manB k = some c) : CtrOK Try.prog k c ∧ goodF Try.prog k = true := by
  unfold manB at h
  split at h
  · cases h; exact ⟨cIvl_ok, by kernel_rfl⟩
  · exact manA_ok _ _ h
noncomputable def CX : Ctx := ctxN Try.prog manB (fun _ => false) 200 .run 12
theorem CX_ok : CtxOK Try.prog CX := ctxN_ok mixed manB_ok 12
instance (a b : Int) : Decidable (VF a b) := decidable_of_iff _ vB_iff
theorem VBox.closed {kn kd tn td vn vd an ad a0 a1 a2 a3 b0 b1 b2 b3 c0 c1 c2 c3 : Int} (h : (VF kn kd ∧ VF tn td ∧ VF vn vd ∧ VF an ad ∧ VF a0 a1) ∧ (VF a2 a3 ∧ VF b0 b1 ∧ VF b2 b3 ∧ VF c0 c1 ∧ VF c2 c3)) : VBox kn kd tn td vn vd an ad a0 a1 a2 a3 b0 b1 b2 b3 c0 c1 c2 c3 :=
  ⟨h.1.1, h.1.2.1, h.1.2.2.1, h.1.2.2.2.1, h.1.2.2.2.2, h.2.1, h.2.2.1, h.2.2.2.1, h.2.2.2.2.1, h.2.2.2.2.2⟩
theorem sat_step {p : Prop} {t : Tr SV} {r : SV} (h1 : p) (h2 : t.ev r) : (Tr.need p t).ev r := ⟨h1, h2⟩
noncomputable def CB : Ctx := ctxN Try.prog manB (fun _ => false) 200 .nil 6
theorem CB_ok : CtxOK Try.prog CB := ctxN_ok mixed manB_ok 6
noncomputable def DB : Dr := fun _ => drawn Try.prog CB
theorem DB_ok : DrOK Try.prog CB DB := drawn_ok CB_ok mixed
noncomputable def TB (h : Hint) (k : Nat) (args : List SV) : Tree SV := fnT Try.prog CB DB 200 (fnOf Try.prog k) (bodyOf Try.prog k) args h
noncomputable def LCt (a b c d e f : Int) : Tree SV :=
  .need (VF a b ∧ VF e f) (.need (decide (cmpR (ratOf a b) (ratOf e f) ≤ (0 : Int)) = true → VF e f ∧ VF c d) (.ret (bv (decide (cmpR (ratOf a b) (ratOf e f) ≤ (0 : Int)) && decide (cmpR (ratOf e f) (ratOf c d) ≤ (0 : Int))))))
theorem LCt_eq (a b c d e f : Int) : TB .nil 22 [.agg [iv a, iv b, iv c, iv d], .agg [iv e, iv f]] = LCt a b c d e f := by kernel_rfl
noncomputable def LVi (a b c d : Int) : Tree SV :=
  .need ((vB a b && vB c d) = true → VF a b ∧ VF c d) (.ret (bv (vB a b && vB c d && decide (cmpR (ratOf a b) (ratOf c d) ≤ (0 : Int)))))
theorem LVi_eq (a b c d : Int) : TB .nil 30 [.agg [iv a, iv b, iv c, iv d]] = LVi a b c d := by kernel_rfl
end Go.Proofs.Ytpaejfeojdoikaa
namespace Go.Proofs.Ytpaejfeojdoikaa
open Go.Sx
set_option maxRecDepth 100000
noncomputable def cCont : Ctr := fun ss => match ss with
  | [.agg [.d (.x (.int .i64 a)), .d (.x (.int .i64 b)), .d (.x (.int .i64 c)), .d (.x (.int .i64 d))], .agg [.d (.x (.int .i64 e)), .d (.x (.int .i64 f))]] => .need (VF a b ∧ VF c d ∧ VF e f)
      (.ret (bv (decide (ratOf a b ≤ ratOf e f) && decide (ratOf e f ≤ ratOf c d))))
  | _ => .fail
theorem cCont_ok : CtrOK Try.prog 22 cCont := by
  refine ctrOK_leS CB_ok DB_ok (by kernel_rfl) (by kernel_rfl) fun ss r h => ?_
  unfold cCont at h
  split at h
  · rename_i a b c d e f
    obtain ⟨⟨h1, h2, h3⟩, rfl⟩ := h
    refine ⟨[.agg [iv a, iv b, iv c, iv d], .agg [iv e, iv f]], 200, .nil, by simp [leSVs, leSV, iv, leD], Sat.of_eq (LCt_eq a b c d e f) ⟨?_⟩⟩
    unfold LCt
    rw [cmpR_le, cmpR_le]
    exact ⟨⟨h1, h3⟩, fun _ => ⟨h3, h2⟩, rfl⟩
  · exact h.elim
noncomputable def cVi : Ctr := fun ss => match ss with
  | [.agg [.d (.x (.int .i64 a)), .d (.x (.int .i64 b)), .d (.x (.int .i64 c)), .d (.x (.int .i64 d))]] => .ret (bv (vB a b && vB c d && decide (ratOf a b ≤ ratOf c d)))
  | _ => .fail
theorem cVi_ok : CtrOK Try.prog 30 cVi := by
  refine ctrOK_leS CB_ok DB_ok (by kernel_rfl) (by kernel_rfl) fun ss r h => ?_
  unfold cVi at h
  split at h
  · rename_i a b c d
    obtain rfl := h
    refine ⟨[.agg [iv a, iv b, iv c, iv d]], 200, .nil, by simp [leSVs, leSV, iv, leD], Sat.of_eq (LVi_eq a b c d) ⟨?_⟩⟩
    unfold LVi
    rw [cmpR_le]
    refine ⟨fun h => ?_, rfl⟩
    rw [Bool.and_eq_true] at h; exact ⟨vB_iff.1 h.1, vB_iff.1 h.2⟩
  · exact h.elim
noncomputable def manC : FuncId → Option Ctr := fun k => match k with
  | 22 => some cCont
  | 30 => some cVi
  | k => manB k
theorem manC_ok (k : Nat) (c : Ctr) (h : manC k = some c) : CtrOK Try.prog k c ∧ goodF Try.prog k = true := by
  unfold manC at h
  split at h
  · cases h; exact ⟨cCont_ok, by kernel_rfl⟩
  · cases h; exact ⟨cVi_ok, by kernel_rfl⟩
  · exact manB_ok _ _ h
noncomputable def CC : Ctx := ctxN Try.prog manC (fun _ => false) 200 .nil 6
theorem CC_ok : CtxOK Try.prog CC := ctxN_ok mixed manC_ok 6
noncomputable def DC : Dr := fun _ => drawn Try.prog CC
theorem DC_ok : DrOK Try.prog CC DC := drawn_ok CC_ok mixed
noncomputable def TC (h : Hint) (k : Nat) (args : List SV) : Tree SV := fnT Try.prog CC DC 200 (fnOf Try.prog k) (bodyOf Try.prog k) args h
noncomputable def LWi (a b c d e f g h : Int) : Tree SV :=
  .need (VF e f ∧ VF g h ∧ VF a b)
  (.need ((decide (ratOf e f ≤ ratOf a b) && decide (ratOf a b ≤ ratOf g h)) = true → VF e f ∧ VF g h ∧ VF c d)
    (.ret (bv (decide (ratOf e f ≤ ratOf a b) && decide (ratOf a b ≤ ratOf g h) && (decide (ratOf e f ≤ ratOf c d) && decide (ratOf c d ≤ ratOf g h))))))
theorem LWi_eq (a b c d e f g h : Int) : TC .nil 25 [.agg [iv a, iv b, iv c, iv d], .agg [iv e, iv f, iv g, iv h]] = LWi a b c d e f g h := by kernel_rfl
noncomputable def LBox (n : Nat) (c : Nat → Int) : Tree SV :=
  .need ((Byt n fun i x => DV.x (.int .u8 (c i))) ∧ (0 : Int) ≤ (0 : Int) ∧ (0 : Int) < (1000000 : Int) ∧ (0 : Int) = (0 : Int))
  (.need ((Byt n fun i x => DV.x (.int .u8 (c i))) ∧ (0 : Int) ≤ (4 : Int) ∧ (4 : Int) < (1000000 : Int) ∧ (0 : Int) = (0 : Int))
    (.need ((Byt n fun i x => DV.x (.int .u8 (c i))) ∧ (0 : Int) ≤ (8 : Int) ∧ (8 : Int) < (1000000 : Int) ∧ (0 : Int) = (0 : Int))
      (.ret
        (SV.agg
          [iv (Rat.num (loQ n (fun i => c i) 0)), iv (↑(Rat.den (loQ n (fun i => c i) 0)) : Int), iv (Rat.num (hiQ n (fun i => c i) 0)), iv (↑(Rat.den (hiQ n (fun i => c i) 0)) : Int),
            iv (Rat.num (loQ n (fun i => c i) 1)), iv (↑(Rat.den (loQ n (fun i => c i) 1)) : Int), iv (Rat.num (hiQ n (fun i => c i) 1)), iv (↑(Rat.den (hiQ n (fun i => c i) 1)) : Int),
            iv (Rat.num (loQ n (fun i => c i) 2)), iv (↑(Rat.den (loQ n (fun i => c i) 2)) : Int), iv (Rat.num (hiQ n (fun i => c i) 2)), iv (↑(Rat.den (hiQ n (fun i => c i) 2)) : Int)]))))
theorem LBox_eq (n : Nat) (c : Nat → Int) : TC .nil 16 [ro8 n c] = LBox n c := by kernel_rfl
end Go.Proofs.Ytpaejfeojdoikaa
namespace Go.Proofs.Ytpaejfeojdoikaa
open Go.Sx
set_option maxRecDepth 100000
noncomputable def cWi : Ctr := fun ss => match ss with
  | [.agg [.d (.x (.int .i64 a)), .d (.x (.int .i64 b)), .d (.x (.int .i64 c)), .d (.x (.int .i64 d))], .agg [.d (.x (.int .i64 e)), .d (.x (.int .i64 f)), .d (.x (.int .i64 g)), .d (.x (.int .i64 h))]] => .need (VF a b ∧ VF c d ∧ VF e f ∧ VF g h)
      (.ret (bv (decide (ratOf e f ≤ ratOf a b) && decide (ratOf a b ≤ ratOf g h) && (decide (ratOf e f ≤ ratOf c d) && decide (ratOf c d ≤ ratOf g h)))))
  | _ => .fail
theorem cWi_ok : CtrOK Try.prog 25 cWi := by
  refine ctrOK_leS CC_ok DC_ok (by kernel_rfl) (by kernel_rfl) fun ss r hh => ?_
  unfold cWi at hh
  split at hh
  · rename_i a b c d e f g h
    obtain ⟨⟨h1, h2, h3, h4⟩, rfl⟩ := hh
    refine ⟨[.agg [iv a, iv b, iv c, iv d], .agg [iv e, iv f, iv g, iv h]], 200, .nil, by simp [leSVs, leSV, iv, leD], Sat.of_eq (LWi_eq a b c d e f g h) ⟨?_⟩⟩
    unfold LWi
    exact ⟨⟨h3, h4, h1⟩, fun _ => ⟨h3, h4, h2⟩, rfl⟩
  · exact hh.elim
noncomputable def cBox : Ctr := fun ss => match ss with
  | [.d (.ro n 1 cell)] => .need (Byt n cell) (.ret (.agg [iv (loQ n (intCell cell) 0).num, iv (loQ n (intCell cell) 0).den, iv (hiQ n (intCell cell) 0).num, iv (hiQ n (intCell cell) 0).den,
      iv (loQ n (intCell cell) 1).num, iv (loQ n (intCell cell) 1).den, iv (hiQ n (intCell cell) 1).num, iv (hiQ n (intCell cell) 1).den,
      iv (loQ n (intCell cell) 2).num, iv (loQ n (intCell cell) 2).den, iv (hiQ n (intCell cell) 2).num, iv (hiQ n (intCell cell) 2).den]))
  | _ => .fail
theorem cBox_ok : CtrOK Try.prog 16 cBox := by
  refine ctrOK_leS CC_ok DC_ok (by kernel_rfl) (by kernel_rfl) fun ss r h => ?_
  unfold cBox at h
  split at h
  · rename_i n cell
    obtain ⟨h1, rfl⟩ := h
    refine ⟨[ro8 n (intCell cell)], 200, .nil, ?_, Sat.of_eq (LBox_eq n (intCell cell)) ⟨?_⟩⟩
    · simp only [leSVs, leSV, ro8, leD, and_true, true_and]
      exact le_ro8 h1
    · unfold LBox
      have b := byt_ro h1
      exact ⟨⟨b, by decide⟩, ⟨b, by decide⟩, ⟨b, by decide⟩, rfl⟩
  · exact h.elim
noncomputable def manE : FuncId → Option Ctr := fun k => match k with
  | 25 => some cWi
  | 16 => some cBox
  | k => manC k
theorem manE_ok (k : Nat) (c : Ctr) (h : manE k = some c) : CtrOK Try.prog k c ∧ goodF Try.prog k = true := by
  unfold manE at h
  split at h
  · cases h; exact ⟨cWi_ok, by kernel_rfl⟩
  · cases h; exact ⟨cBox_ok, by kernel_rfl⟩
  · exact manC_ok _ _ h
noncomputable def CE : Ctx := ctxN Try.prog manE (fun _ => false) 200 .nil 6
theorem CE_ok : CtxOK Try.prog CE := ctxN_ok mixed manE_ok 6
noncomputable def DE : Dr := fun _ => drawn Try.prog CE
theorem DE_ok : DrOK Try.prog CE DE := drawn_ok CE_ok mixed
noncomputable def TE (h : Hint) (k : Nat) (args : List SV) : Tree SV := fnT Try.prog CE DE 200 (fnOf Try.prog k) (bodyOf Try.prog k) args h
def inH : Nat → Hint
  | 0 => .u (.f .nil)
  | n + 1 => .u (.t (.br .nil (inH n)))
noncomputable def LIn (a0 a1 a2 a3 b0 b1 b2 b3 c0 c1 c2 c3 d0 d1 d2 d3 e0 e1 e2 e3 f0 f1 f2 f3 : Int) : Tree SV :=
 .need (true = true)
 (.need ((0 : Int) ≤ (0 : Int) ∧ (0 : Int) < (3 : Int))
 (.need (0 < 3)
 (.need ((0 : Int) ≤ (0 : Int) ∧ (0 : Int) < (3 : Int))
 (.need (0 < 3)
 (.need (VF a0 a1 ∧ VF a2 a3 ∧ VF d0 d1 ∧ VF d2 d3)
 (.ite (!(decide (ratOf d0 d1 ≤ ratOf a0 a1) && decide (ratOf a0 a1 ≤ ratOf d2 d3) && (decide (ratOf d0 d1 ≤ ratOf a2 a3) && decide (ratOf a2 a3 ≤ ratOf d2 d3)))) (.ret (bv false))
 (.need (true = true)
 (.need ((0 : Int) ≤ (1 : Int) ∧ (1 : Int) < (3 : Int))
 (.need (1 < 3)
 (.need ((0 : Int) ≤ (1 : Int) ∧ (1 : Int) < (3 : Int))
 (.need (1 < 3)
 (.need (VF b0 b1 ∧ VF b2 b3 ∧ VF e0 e1 ∧ VF e2 e3)
 (.ite (!(decide (ratOf e0 e1 ≤ ratOf b0 b1) && decide (ratOf b0 b1 ≤ ratOf e2 e3) && (decide (ratOf e0 e1 ≤ ratOf b2 b3) && decide (ratOf b2 b3 ≤ ratOf e2 e3)))) (.ret (bv false))
 (.need (true = true)
 (.need ((0 : Int) ≤ (2 : Int) ∧ (2 : Int) < (3 : Int))
 (.need (2 < 3)
 (.need ((0 : Int) ≤ (2 : Int) ∧ (2 : Int) < (3 : Int))
 (.need (2 < 3)
 (.need (VF c0 c1 ∧ VF c2 c3 ∧ VF f0 f1 ∧ VF f2 f3)
 (.ite (!(decide (ratOf f0 f1 ≤ ratOf c0 c1) && decide (ratOf c0 c1 ≤ ratOf f2 f3) && (decide (ratOf f0 f1 ≤ ratOf c2 c3) && decide (ratOf c2 c3 ≤ ratOf f2 f3)))) (.ret (bv false))
 (.need (false = false) (.ret (bv true)))))))))))))))))))))))
theorem LIn_eq (a0 a1 a2 a3 b0 b1 b2 b3 c0 c1 c2 c3 d0 d1 d2 d3 e0 e1 e2 e3 f0 f1 f2 f3 : Int) : TE (inH 3) 24 [.agg [iv a0, iv a1, iv a2, iv a3, iv b0, iv b1, iv b2, iv b3, iv c0, iv c1, iv c2, iv c3], .agg [iv d0, iv d1, iv d2, iv d3, iv e0, iv e1, iv e2, iv e3, iv f0, iv f1, iv f2, iv f3]] = LIn a0 a1 a2 a3 b0 b1 b2 b3 c0 c1 c2 c3 d0 d1 d2 d3 e0 e1 e2 e3 f0 f1 f2 f3 := by kernel_rfl
end Go.Proofs.Ytpaejfeojdoikaa
namespace Go.Proofs.Ytpaejfeojdoikaa
open Go.Sx
set_option maxRecDepth 100000
structure VB6 (a0 a1 a2 a3 b0 b1 b2 b3 c0 c1 c2 c3 : Int) : Prop where
  l0 : VF a0 a1
  h0 : VF a2 a3
  l1 : VF b0 b1
  h1 : VF b2 b3
  l2 : VF c0 c1
  h2 : VF c2 c3
noncomputable def wiB (a b c d : Rat) : Bool := decide (c ≤ a) && decide (a ≤ d) && (decide (c ≤ b) && decide (b ≤ d))
noncomputable def cIn : Ctr := fun ss => match ss with
  | [.agg l, .agg m] => match intsOf .i64 l, intsOf .i64 m with
    | some [a0, a1, a2, a3, b0, b1, b2, b3, c0, c1, c2, c3], some [d0, d1, d2, d3, e0, e1, e2, e3, f0, f1, f2, f3] => .need (VB6 a0 a1 a2 a3 b0 b1 b2 b3 c0 c1 c2 c3 ∧ VB6 d0 d1 d2 d3 e0 e1 e2 e3 f0 f1 f2 f3)
      (.ret (bv (wiB (ratOf a0 a1) (ratOf a2 a3) (ratOf d0 d1) (ratOf d2 d3) && wiB (ratOf b0 b1) (ratOf b2 b3) (ratOf e0 e1) (ratOf e2 e3) && wiB (ratOf c0 c1) (ratOf c2 c3) (ratOf f0 f1) (ratOf f2 f3))))
    | _, _ => .fail
  | _ => .fail
theorem cIn_ok : CtrOK Try.prog 24 cIn := by
  refine ctrOK_leS CE_ok DE_ok (by kernel_rfl) (by kernel_rfl) fun ss r h => ?_
  unfold cIn at h
  split at h
  · split at h
    · rename_i a0 a1 a2 a3 b0 b1 b2 b3 c0 c1 c2 c3 d0 d1 d2 d3 e0 e1 e2 e3 f0 f1 f2 f3 q1 q2
      obtain ⟨⟨x, y⟩, rfl⟩ := h
      rw [intsOf_eq q1, intsOf_eq q2]
      refine ⟨_, 200, inH 3, by simp [leSVs, leSV, iv, bv, leD], Sat.of_eq (LIn_eq a0 a1 a2 a3 b0 b1 b2 b3 c0 c1 c2 c3 d0 d1 d2 d3 e0 e1 e2 e3 f0 f1 f2 f3) ⟨?_⟩⟩
      unfold LIn
      unfold wiB
      refine ⟨rfl, by decide, by decide, by decide, by decide, ⟨x.l0, x.h0, y.l0, y.h0⟩, fun h => ?_, fun h => ⟨rfl, by decide, by decide, by decide, by decide, ⟨x.l1, x.h1, y.l1, y.h1⟩, fun h2 => ?_, fun h2 => ⟨rfl, by decide, by decide, by decide, by decide, ⟨x.l2, x.h2, y.l2, y.h2⟩, fun h3 => ?_, fun h3 => ⟨rfl, ?_⟩⟩⟩⟩
      · rw [Bool.not_eq_true'] at h; rw [h]; exact rfl
      · rw [Bool.not_eq_false'] at h; rw [Bool.not_eq_true'] at h2; rw [h, h2]; exact rfl
      · rw [Bool.not_eq_false'] at h h2; rw [Bool.not_eq_true'] at h3; rw [h, h2, h3]; exact rfl
      · rw [Bool.not_eq_false'] at h h2 h3; rw [h, h2, h3]; exact rfl
    · exact h.elim
  · exact h.elim
noncomputable def manF : FuncId → Option Ctr := fun k => match k with
  | 24 => some cIn
  | k => manE k
theorem manF_ok (k : Nat) (c : Ctr) (h : manF k = some c) : CtrOK Try.prog k c ∧ goodF Try.prog k = true := by
  unfold manF at h
  split at h
  · cases h; exact ⟨cIn_ok, by kernel_rfl⟩
  · exact manE_ok _ _ h
end Go.Proofs.Ytpaejfeojdoikaa
namespace Go.Proofs.Ytpaejfeojdoikaa
open Go.Sx
set_option maxRecDepth 100000
def lv (k t v a p q r : Rat) : Rat := k + t * p + v * q + a * r
abbrev CfQ (q : Rat) : Prop := Sm 3600 800 q
abbrev PtQ (q : Rat) : Prop := Sm 480 60 q
theorem _root_.Go.Sx.Sm.cf {q : Rat} (h : Sm 60 20 q) : CfQ q := h.le (by decide) (by decide) (by decide)
theorem _root_.Go.Sx.Sm.pt {q : Rat} (h : Sm 60 20 q) : PtQ q := h.le (by decide) (by decide) (by decide)
theorem CfQ.vf {q : Rat} (h : CfQ q) : VF q.num q.den := VF.of (h.fits (by decide) (by decide))
theorem PtQ.vf {q : Rat} (h : PtQ q) : VF q.num q.den := VF.of (h.fits (by decide) (by decide))
noncomputable def rgV (k t v a l0 h0 l1 h1 l2 h2 : Rat) (u : Bool) : Rat := lv k t v a (crn t l0 h0 u) (crn v l1 h1 u) (crn a l2 h2 u)
end Go.Proofs.Ytpaejfeojdoikaa
namespace Go.Proofs.Ytpaejfeojdoikaa
open Go.Sx
set_option maxRecDepth 100000
theorem wf_u8 {i : Int} (h : (Lit.int .u8 i).wf = true) : 0 ≤ i ∧ i < 256 := by
  simp [Lit.wf, IntKind.min, IntKind.max, IntKind.signed, IntKind.bits] at h; omega
theorem cells5 : Try.prog.cellsOf 5 = 1 := by kernel_rfl
theorem okBytes {ds : List DV} {n : Nat} (h : okT Try.prog (n + 2) 22 ds) : ∃ m cell, Byt m cell ∧ ds = [.ro m 1 cell] := by
  simp [okT, Try.underlying22, Try.underlying5, cells5] at h
  obtain ⟨m, hm, cell, rfl, hc⟩ := h
  refine ⟨m, cell, ⟨hm, fun i hi => ?_⟩, by rfl⟩
  obtain ⟨b, hb, e⟩ := hc i hi
  exact ⟨b, by simpa using e, wf_u8 hb⟩
end Go.Proofs.Ytpaejfeojdoikaa
namespace Go.Proofs.Ytpaejfeojdoikaa
open Go.Sx
set_option maxRecDepth 100000
end Go.Proofs.Ytpaejfeojdoikaa
namespace Go.Proofs.Ytpaejfeojdoikaa
open Go.Sx
set_option maxRecDepth 100000
theorem sat_need {α : Type} {P : Program} {p : Prop} {t : Tree α} {Q : α → Prop} : (Tree.need p t).sat P Q = (p ∧ t.sat P Q) := rfl
theorem sat_ite {α : Type} {P : Program} {b : Bool} {t e : Tree α} {Q : α → Prop} : (Tree.ite b t e).sat P Q = ((b = true → t.sat P Q) ∧ (b = false → e.sat P Q)) := rfl
theorem sat_ret {α : Type} {P : Program} {a : α} {Q : α → Prop} : (Tree.ret a).sat P Q = Q a := rfl
end Go.Proofs.Ytpaejfeojdoikaa
namespace Go.Proofs.Ytpaejfeojdoikaa
open Go.Sx
set_option maxRecDepth 100000
end Go.Proofs.Ytpaejfeojdoikaa
namespace Go.Proofs.Ytpaejfeojdoikaa
open Go.Sx
set_option maxRecDepth 100000
noncomputable def inlG (k : Nat) : Bool := k == 134 || k == 135 || k == 163
noncomputable def CG : Ctx := ctxN Try.prog manF inlG 200 .nil 6
theorem CG_ok : CtxOK Try.prog CG := ctxN_ok mixed manF_ok 6
noncomputable def DG : Dr := fun _ => drawn Try.prog CG
theorem DG_ok : DrOK Try.prog CG DG := drawn_ok CG_ok mixed
noncomputable def TG (h : Hint) (k : Nat) (args : List SV) : Tree SV := fnT Try.prog CG DG 200 (fnOf Try.prog k) (bodyOf Try.prog k) args h
def eachH : Nat → Hint
  | 0 => .u (.f .nil)
  | n + 1 => .u (.t (.br .nil (eachH n)))
noncomputable def LVx_q1 (a0 : Int) (a1 : Int) : Rat :=
  ratOf a0 a1
noncomputable def LVx_q2 (a2 : Int) (a3 : Int) : Rat :=
  ratOf a2 a3
noncomputable def LVx_q3 (b0 : Int) (b1 : Int) : Rat :=
  ratOf b0 b1
noncomputable def LVx_q4 (b2 : Int) (b3 : Int) : Rat :=
  ratOf b2 b3
noncomputable def LVx_q5 (c0 : Int) (c1 : Int) : Rat :=
  ratOf c0 c1
noncomputable def LVx_q6 (c2 : Int) (c3 : Int) : Rat :=
  ratOf c2 c3
noncomputable def LVx (a0 a1 a2 a3 b0 b1 b2 b3 c0 c1 c2 c3 : Int) : Tree SV :=
  .need (True ∧ True)
  (.need (true = true)
   (.need ((0 : Int) ≤ (0 : Int) ∧ (0 : Int) < (3 : Int))
   (.need (0 < 3)
   (.ite (!(vB a0 a1 && vB a2 a3 && decide (LVx_q1 a0 a1 ≤ LVx_q2 a2 a3))) (.ret (bv false))
   (.need (true = true)
   (.need ((0 : Int) ≤ (1 : Int) ∧ (1 : Int) < (3 : Int))
   (.need (1 < 3)
   (.ite (!(vB b0 b1 && vB b2 b3 && decide (LVx_q3 b0 b1 ≤ LVx_q4 b2 b3))) (.ret (bv false))
   (.need (true = true)
   (.need ((0 : Int) ≤ (2 : Int) ∧ (2 : Int) < (3 : Int))
   (.need (2 < 3) (.ite (!(vB c0 c1 && vB c2 c3 && decide (LVx_q5 c0 c1 ≤ LVx_q6 c2 c3))) (.ret (bv false)) (.need (false = false) (.ret (bv true)))))))))))))))
theorem LVx_eq (a0 a1 a2 a3 b0 b1 b2 b3 c0 c1 c2 c3 : Int) : TG (eachH 3) 58 [.agg [iv a0, iv a1, iv a2, iv a3, iv b0, iv b1, iv b2, iv b3, iv c0, iv c1, iv c2, iv c3]] = LVx a0 a1 a2 a3 b0 b1 b2 b3 c0 c1 c2 c3 := by kernel_rfl
end Go.Proofs.Ytpaejfeojdoikaa
namespace Go.Proofs.Ytpaejfeojdoikaa
open Go.Sx
set_option maxRecDepth 100000
noncomputable def k0 (o : Option (Rat × Rat × Rat × Rat)) : Option Rat := o.map fun x => x.1
noncomputable def k1 (o : Option (Rat × Rat × Rat × Rat)) : Option Rat := o.map fun x => x.2.1
noncomputable def k2 (o : Option (Rat × Rat × Rat × Rat)) : Option Rat := o.map fun x => x.2.2.1
noncomputable def k3 (o : Option (Rat × Rat × Rat × Rat)) : Option Rat := o.map fun x => x.2.2.2
noncomputable def viB (a b c d : Int) : Bool := vB a b && vB c d && decide (ratOf a b ≤ ratOf c d)
noncomputable def cVbx : Ctr := fun ss => match ss with
  | [.agg l] => match intsOf .i64 l with
    | some [a0, a1, a2, a3, b0, b1, b2, b3, c0, c1, c2, c3] => .ret (bv (viB a0 a1 a2 a3 && viB b0 b1 b2 b3 && viB c0 c1 c2 c3))
    | _ => .fail
  | _ => .fail
theorem cVbx_ok : CtrOK Try.prog 58 cVbx := by
  refine ctrOK_leS CG_ok DG_ok (by kernel_rfl) (by kernel_rfl) fun ss r hh => ?_
  unfold cVbx at hh
  split at hh
  · split at hh
    · rename_i a0 a1 a2 a3 b0 b1 b2 b3 c0 c1 c2 c3 e1
      obtain rfl := hh
      rw [intsOf_eq e1]
      refine ⟨_, 200, eachH 3, by simp [leSVs, leSV, iv, leD], Sat.of_eq (LVx_eq a0 a1 a2 a3 b0 b1 b2 b3 c0 c1 c2 c3) ⟨?_⟩⟩
      unfold LVx
      simp only [sat_need, sat_ite, sat_ret]
      rw [show viB a0 a1 a2 a3 = (vB a0 a1 && vB a2 a3 && decide (LVx_q1 a0 a1 ≤ LVx_q2 a2 a3)) from rfl, show viB b0 b1 b2 b3 = (vB b0 b1 && vB b2 b3 && decide (LVx_q3 b0 b1 ≤ LVx_q4 b2 b3)) from rfl, show viB c0 c1 c2 c3 = (vB c0 c1 && vB c2 c3 && decide (LVx_q5 c0 c1 ≤ LVx_q6 c2 c3)) from rfl]
      generalize (vB a0 a1 && vB a2 a3 && decide (LVx_q1 a0 a1 ≤ LVx_q2 a2 a3)) = x
      generalize (vB b0 b1 && vB b2 b3 && decide (LVx_q3 b0 b1 ≤ LVx_q4 b2 b3)) = y
      generalize (vB c0 c1 && vB c2 c3 && decide (LVx_q5 c0 c1 ≤ LVx_q6 c2 c3)) = z
      cases x <;> cases y <;> cases z <;> simp
    · exact hh.elim
  · exact hh.elim
noncomputable def manH : FuncId → Option Ctr := fun k => match k with
  | 58 => some cVbx
  | k => manF k
theorem manH_ok (k : Nat) (c : Ctr) (h : manH k = some c) : CtrOK Try.prog k c ∧ goodF Try.prog k = true := by
  unfold manH at h
  split at h
  · cases h; exact ⟨cVbx_ok, by kernel_rfl⟩
  · exact manF_ok _ _ h
end Go.Proofs.Ytpaejfeojdoikaa
namespace Go.Proofs.Ytpaejfeojdoikaa
open Go.Sx
set_option maxRecDepth 100000
def cellI (cell : Nat → Nat → DV) (i j : Nat) : Int := intOf1 (cell i j)
noncomputable def manI : FuncId → Option Ctr := fun k => manH k
theorem manI_ok (k : Nat) (c : Ctr) (h : manI k = some c) : CtrOK Try.prog k c ∧ goodF Try.prog k = true := by
  unfold manI at h
  exact manH_ok _ _ h
noncomputable def CI : Ctx := ctxN Try.prog manI (fun _ => false) 200 .nil 6
theorem CI_ok : CtxOK Try.prog CI := ctxN_ok mixed manI_ok 6
noncomputable def DI : Dr := fun _ => drawn Try.prog CI
theorem DI_ok : DrOK Try.prog CI DI := drawn_ok CI_ok mixed
end Go.Proofs.Ytpaejfeojdoikaa
namespace Go.Proofs.Ytpaejfeojdoikaa
open Go.Sx
set_option maxRecDepth 100000
theorem CfQ.fits {q : Rat} (h : CfQ q) : fitsR q := Sm.fits h (by decide) (by decide)
end Go.Proofs.Ytpaejfeojdoikaa
namespace Go.Proofs.Ytpaejfeojdoikaa
open Go.Sx
set_option maxRecDepth 100000
end Go.Proofs.Ytpaejfeojdoikaa
namespace Go.Proofs.Ytpaejfeojdoikaa
open Go.Sx
set_option maxRecDepth 100000
def qR (n d : Int) : Rat := if d < 0 then ratOf (-n) (-d) else ratOf n d
theorem qR_half {a b : Int} (hb : b ≠ 0) (h1 : a % 2 = 0) (h2 : b % 2 = 0) : qR (a / 2) (b / 2) = qR a b := by
  unfold qR
  by_cases h : b < 0
  · rw [if_pos h, if_pos (by omega), ← ratOf_half (a := -a) (b := -b) (by omega) (by omega) (by omega)]
    congr 1 <;> omega
  · rw [if_neg h, if_neg (by omega)]
    exact ratOf_half (by omega) h1 h2
theorem qR_zero {b : Int} : qR 0 b = 0 := by
  unfold qR; split <;> (unfold ratOf; exact Rat.zero_mkRat _)
theorem qR_parts {a b : Int} (hb : b ≠ 0) : (qR a b).num.natAbs = a.natAbs / a.natAbs.gcd b.natAbs ∧ (qR a b).den = b.natAbs / a.natAbs.gcd b.natAbs ∧ ((decide (a < 0) != decide (b < 0)) = true → (qR a b).num ≤ 0) ∧ ((decide (a < 0) != decide (b < 0)) = false → 0 ≤ (qR a b).num) := by
  have key : ∀ {n d : Int}, 0 < d → (ratOf n d).num.natAbs = n.natAbs / n.natAbs.gcd d.natAbs ∧ (ratOf n d).den = d.natAbs / n.natAbs.gcd d.natAbs ∧ (n ≤ 0 → (ratOf n d).num ≤ 0) ∧ (0 ≤ n → 0 ≤ (ratOf n d).num) := by
    intro n d hd
    obtain ⟨r1, r2⟩ := ratOf_red (n := n) hd rfl
    have e : d.toNat = d.natAbs := by omega
    rw [e] at r1 r2
    refine ⟨by rw [r1, Int.natAbs_tdiv]; rfl, ?_, fun h => ?_, fun h => ?_⟩
    · have hd0 : 0 ≤ d := by omega
      rw [Int.tdiv_eq_ediv_of_nonneg hd0] at r2
      obtain ⟨D, rfl⟩ := Int.eq_ofNat_of_zero_le hd0
      rw [Int.natAbs_natCast] at *
      rw [← Int.natCast_ediv] at r2
      omega
    · rw [r1]
      have := Int.tdiv_nonneg (a := -n) (b := ((n.natAbs.gcd d.natAbs : Nat) : Int)) (by omega) (by omega)
      rw [Int.neg_tdiv] at this; omega
    · rw [r1]; exact Int.tdiv_nonneg h (Int.natCast_nonneg _)
  unfold qR
  by_cases h : b < 0
  · rw [if_pos h]
    obtain ⟨k1, k2, k3, k4⟩ := key (n := -a) (d := -b) (by omega)
    rw [Int.natAbs_neg, Int.natAbs_neg] at k1 k2
    refine ⟨k1, k2, fun hx => k3 ?_, fun hx => k4 ?_⟩
    · simp only [h, decide_true, bne_iff_ne, ne_eq, decide_eq_true_eq] at hx
      simp at hx; omega
    · simp only [h, decide_true] at hx
      simp at hx; omega
  · rw [if_neg h]
    obtain ⟨k1, k2, k3, k4⟩ := key (n := a) (d := b) (by omega)
    refine ⟨k1, k2, fun hx => k3 ?_, fun hx => k4 ?_⟩
    · simp only [h, decide_false] at hx
      simp at hx; omega
    · simp only [h, decide_false] at hx
      simp at hx; omega
theorem odd_gcd {n : Nat} (h : n % 2 = 1) : (9223372036854775808 : Nat).gcd n = 1 := by
  rw [show (9223372036854775808 : Nat) = 2 ^ 63 by decide]
  have : Nat.Coprime 2 n := by
    unfold Nat.Coprime
    rw [Nat.gcd_rec, h]; decide
  exact Nat.Coprime.pow_left 63 this
abbrev I64 (n : Int) : Prop := -9223372036854775808 ≤ n ∧ n ≤ 9223372036854775807
theorem makeG_sat {n d : Int} (hn : I64 n) (hd : I64 d) (h0 : d ≠ 0) : Sat Try.prog (tMake n d) (· = .agg [iv (rN (qR n d)), iv (rD (qR n d)), iv (rE (qR n d))]) := by
  constructor
  rw [LMake_eq]; unfold LMake
  refine ⟨fun hc => by simp only [beq_iff_eq] at hc; omega, fun hc => ?_⟩
  refine code_satS C1_ok D1_ok (n := 200) (n0 := 1) (nx := 1) (roots := []) (keep := [4, 5, 6]) (drop := []) (h := .nil) (c := codeC (sub [1] (tMake n d))) (st := codeS (sub [1] (tMake n d))) (k := codeK (sub [1] (tMake n d))) (body := bodyMake) (by kernel_rfl) (by kernel_rfl)
    (fun q s => ∃ a b : Int, q = b.natAbs ∧ I64 a ∧ I64 b ∧ b ≠ 0 ∧ qR a b = qR n d ∧ s = invMake a b)
    (fun e s => ∃ a b : Int, e = .exit 0 ∧ I64 a ∧ I64 b ∧ b ≠ 0 ∧ (a ≠ 0 → ¬ (a % 2 = 0 ∧ b % 2 = 0)) ∧ qR a b = qR n d ∧ s = invMake a b)
    ⟨_, _, ⟨n, d, rfl, hn, hd, h0, rfl, rfl⟩, ?_⟩ ?_ ?_
  · exact entA_sound (roots := []) (keep := [4, 5, 6]) (drop := []) (nx := 1) (h := .nil) (by kernel_rfl)
  · rintro q s ⟨a, b, hq, ha, hb, hb0, he, rfl⟩
    refine Sat.of_eq (BMake_eq a b) ?_
    constructor
    unfold BMake
    refine ⟨by decide, fun _ => by decide, fun hc => ?_, fun hc => ?_⟩
    · simp only [Bool.and_eq_true, beq_iff_eq, bne_iff_ne, ne_eq, tmod2] at hc
      obtain ⟨⟨h1, h2⟩, h3⟩ := hc
      rw [tdiv2 h1, tdiv2 h2, w64_of (n := a / 2) (by omega) (by omega), w64_of (n := b / 2) (by omega) (by omega)]
      exact ⟨by decide, by decide, (b / 2).natAbs, _, by omega, ⟨a / 2, b / 2, rfl, by omega, by omega, by omega, by rw [qR_half hb0 h1 h2, he], rfl⟩, Gc.refl _ _⟩
    · refine ⟨_, ⟨a, b, rfl, ha, hb, hb0, fun hx ⟨h1, h2⟩ => ?_, he, rfl⟩, Gc.refl _ _⟩
      have : (Int.tmod a 2 == 0 && Int.tmod b 2 == 0 && a != 0) = true := by
        simp only [Bool.and_eq_true, beq_iff_eq, bne_iff_ne, ne_eq, tmod2]; exact ⟨⟨h1, h2⟩, hx⟩
      rw [this] at hc; cases hc
  · rintro e s ⟨a, b, rfl, ha, hb, hb0, hev, he, rfl⟩
    refine Sat.of_eq (KMake_eq n d a b) ⟨?_⟩
    unfold KMake
    rw [← he]
    have hg : ((Int.gcd (a.natAbs : Int) (b.natAbs : Int) : Nat) : Int) = ((a.natAbs.gcd b.natAbs : Nat) : Int) := by rw [Int.gcd_natCast_natCast]
    have hgp : 0 < a.natAbs.gcd b.natAbs := Nat.gcd_pos_of_pos_right _ (by omega)
    obtain ⟨r1, r2, r3, r4⟩ := qR_parts (a := a) hb0
    have ga := Nat.div_le_self a.natAbs (a.natAbs.gcd b.natAbs)
    have gb := Nat.div_le_self b.natAbs (a.natAbs.gcd b.natAbs)
    refine ⟨fun hz => ?_, fun hz => ?_⟩
    · have hz : a = 0 := by simpa using hz
      subst hz
      rw [qR_zero, r_zero.1, r_zero.2.1, r_zero.2.2]; exact rfl
    have hz : a ≠ 0 := by simpa using hz
    have hev := hev hz
    refine ⟨fun hl => ?_, fun hl => ?_⟩
    · have hnf : ¬ fitsR (qR a b) := by
        rintro ⟨f1, f2⟩
        rw [r1] at f1; rw [r2] at f2
        simp only [Bool.or_eq_true, beq_iff_eq] at hl
        rcases hl with rfl | rfl
        · have hb2 : b.natAbs % 2 = 1 := by omega
          rw [show (-9223372036854775808 : Int).natAbs = 9223372036854775808 by decide, odd_gcd hb2] at f1
          omega
        · have ha2 : a.natAbs % 2 = 1 := by omega
          rw [show (-9223372036854775808 : Int).natAbs = 9223372036854775808 by decide, Nat.gcd_comm, odd_gcd ha2] at f2
          omega
      rw [rN_no hnf, rD_no hnf, rE_no hnf]; exact rfl
    · simp only [Bool.or_eq_false_iff, beq_eq_false_iff_ne, ne_eq] at hl
      rw [hg, Int.toNat_natCast]
      refine ⟨by omega, by omega, by omega, ⟨by omega, by omega, by omega⟩, ⟨by omega, by omega, by omega⟩, fun hm => ?_, fun hm => ?_⟩
      · have hnf : ¬ fitsR (qR a b) := by
          rintro ⟨f1, f2⟩
          simp only [Bool.or_eq_true, decide_eq_true_eq] at hm
          omega
        rw [rN_no hnf, rD_no hnf, rE_no hnf]; exact rfl
      · have hf : fitsR (qR a b) := by
          simp only [Bool.or_eq_false_iff, decide_eq_false_iff_not] at hm
          exact ⟨by omega, by omega⟩
        rw [rN_of hf, rD_of hf, rE_of hf]
        have hxor : (!decide (a < 0) == decide (b < 0)) = (decide (a < 0) != decide (b < 0)) := by cases decide (a < 0) <;> cases decide (b < 0) <;> rfl
        refine ⟨fun hs => ?_, fun hs => ?_⟩
        · rw [hxor] at hs
          have := r3 hs
          rw [w64_of (by omega) (by omega)]
          simp only [Tree.sat]
          rw [← r1, ← r2, show (0 : Int) - ((qR a b).num.natAbs : Int) = (qR a b).num by omega]
        · rw [hxor] at hs
          have := r4 hs
          simp only [Tree.sat]
          rw [← r1, ← r2, show ((qR a b).num.natAbs : Int) = (qR a b).num by omega]
noncomputable def cMakeG : Ctr := fun ss => match ss with
  | [.d (.x (.int .i64 n)), .d (.x (.int .i64 d))] => .need (I64 n ∧ I64 d)
      (.ret (.agg [iv (if d = 0 then 0 else rN (qR n d)), iv (if d = 0 then 0 else rD (qR n d)), iv (if d = 0 then 3 else rE (qR n d))]))
  | _ => .fail
theorem cMakeG_ok : CtrOK Try.prog 116 cMakeG := by
  refine ctrOK_leS C1_ok D1_ok (by kernel_rfl) (by kernel_rfl) fun ss r h => ?_
  unfold cMakeG at h
  split at h
  · rename_i n d
    obtain ⟨⟨h1, h2⟩, rfl⟩ := h
    by_cases h0 : d = 0
    · subst h0
      refine ⟨[iv n, iv 0], 200, .nil, by simp [leSVs, leSV, iv, leD], Sat.of_eq (LMake_eq n 0) ⟨?_⟩⟩
      unfold LMake
      exact ⟨fun _ => rfl, fun h => (by cases h)⟩
    · rw [if_neg h0, if_neg h0, if_neg h0]
      exact ⟨[iv n, iv d], 200, .nil, by simp [leSVs, leSV, iv, leD], makeG_sat h1 h2 h0⟩
  · exact h.elim
end Go.Proofs.Ytpaejfeojdoikaa
namespace Go.Proofs.Ytpaejfeojdoikaa
open Go.Sx
set_option maxRecDepth 100000
noncomputable def manJ : FuncId → Option Ctr := fun k => match k with
  | 116 => some cMakeG
  | _ => none
theorem manJ_ok (k : Nat) (c : Ctr) (h : manJ k = some c) : CtrOK Try.prog k c ∧ goodF Try.prog k = true := by
  unfold manJ at h
  split at h
  · cases h; exact ⟨cMakeG_ok, by kernel_rfl⟩
  · cases h
noncomputable def CJ : Ctx := ctxN Try.prog manJ (fun _ => false) 200 .nil 6
theorem CJ_ok : CtxOK Try.prog CJ := ctxN_ok mixed manJ_ok 6
noncomputable def DJ : Dr := fun _ => drawn Try.prog CJ
theorem DJ_ok : DrOK Try.prog CJ DJ := drawn_ok CJ_ok mixed
noncomputable def TJ (h : Hint) (k : Nat) (args : List SV) : Tree SV := fnT Try.prog CJ DJ 200 (fnOf Try.prog k) (bodyOf Try.prog k) args h
noncomputable def LMdA (n d : Int) : Tree SV :=
  .need (I64 n ∧ I64 d) (.code (codeC (sub [(0 : Nat)] (TJ .nil (41 : Nat) [iv n, iv d]))) (codeS (sub [(0 : Nat)] (TJ .nil (41 : Nat) [iv n, iv d]))) (codeK (sub [(0 : Nat)] (TJ .nil (41 : Nat) [iv n, iv d]))))
theorem LMdA_eq (n d : Int) : TJ .nil 41 [iv n, iv d] = LMdA n d := by kernel_rfl
noncomputable def tMd (n d : Int) : Tree SV := TJ .nil 41 [iv n, iv d]
noncomputable def invMd (n d x y z : Int) : AS := ⟨[.ok (iv n), .ok (iv d), .unk, .unk, .ok (.ptr 0 0), .ok (.ptr 1 0)] ++ List.replicate 17 .unk, [some (.cells [iv 0, iv 0]), some (.cells [iv x, iv y, iv z]), none], 3, .nil⟩
noncomputable def bodyMd : Code := loopN (bodyOf Try.prog 41) 0
noncomputable def BMdA (n d x y z : Int) : Tree (Ex × AS) :=
 .ite (z != (0 : Int))
 (.need ((2 : Int) ≠ (0 : Int))
 (.need ((2 : Int) ≠ (0 : Int))
 (.ite (w64 (Int.tdiv d (2 : Int)) == (0 : Int))
 (.need (I64 (w64 (Int.tdiv n (2 : Int))) ∧ I64 (1 : Int))
 (.ret
 (.normal,
 {
 tm :=
 [.ok (iv (w64 (Int.tdiv n (2 : Int)))), .ok (iv (1 : Int)), .unk, .unk, .ok (SV.ptr 0 0), .ok (SV.ptr 1 0), .unk, .unk, .unk, .unk, .unk, .unk, .unk,
 .unk, .unk, .unk, .unk, .unk, .unk, .unk, .unk, .unk, .unk],
 hp :=
 [some (.cells [iv (0 : Int), iv (0 : Int)]),
 some (.cells [iv (rN (qR (w64 (Int.tdiv n (2 : Int))) (1 : Int))), iv (rD (qR (w64 (Int.tdiv n (2 : Int))) (1 : Int))), iv (rE (qR (w64 (Int.tdiv n (2 : Int))) (1 : Int)))]), none],
 next := 3, hint := .nil })))
 (.need (I64 (w64 (Int.tdiv n (2 : Int))) ∧ I64 (w64 (Int.tdiv d (2 : Int))))
 (.ret
 (.normal,
 {
 tm :=
 [.ok (iv (w64 (Int.tdiv n (2 : Int)))), .ok (iv (w64 (Int.tdiv d (2 : Int)))), .unk, .unk, .ok (SV.ptr 0 0), .ok (SV.ptr 1 0), .unk, .unk, .unk, .unk, .unk,
 .unk, .unk, .unk, .unk, .unk, .unk, .unk, .unk, .unk, .unk, .unk, .unk],
 hp :=
 [some (.cells [iv (0 : Int), iv (0 : Int)]),
 some
 (.cells
 [iv (if w64 (Int.tdiv d (2 : Int)) = (0 : Int) then (0 : Int) else rN (qR (w64 (Int.tdiv n (2 : Int))) (w64 (Int.tdiv d (2 : Int))))),
 iv (if w64 (Int.tdiv d (2 : Int)) = (0 : Int) then (0 : Int) else rD (qR (w64 (Int.tdiv n (2 : Int))) (w64 (Int.tdiv d (2 : Int))))),
 iv (if w64 (Int.tdiv d (2 : Int)) = (0 : Int) then (3 : Int) else rE (qR (w64 (Int.tdiv n (2 : Int))) (w64 (Int.tdiv d (2 : Int)))))]),
 none],
 next := 3, hint := .nil }))))))
 (.ret
 (.exit 0,
 {
 tm :=
 [.ok (iv n), .ok (iv d), .unk, .unk, .ok (SV.ptr 0 0), .ok (SV.ptr 1 0), .unk, .unk, .unk, .unk, .unk, .unk, .unk, .unk, .unk, .unk, .unk, .unk, .unk,
 .unk, .unk, .unk, .unk],
 hp := [some (.cells [iv (0 : Int), iv (0 : Int)]), some (.cells [iv x, iv y, iv z]), none], next := 3, hint := .nil }))
theorem BMdA_eq (n d x y z : Int) : cutT 3 [] [0, 1, 4, 5] [2] 3 .nil (exec Try.prog CJ DJ 200 bodyMd (invMd n d x y z)) = BMdA n d x y z := by kernel_rfl
noncomputable def KMdA (n d a b x y z : Int) : Tree SV :=
  .ret (SV.agg [iv x, iv y])
theorem KMdA_eq (n d a b x y z : Int) : codeK (sub [0] (tMd n d)) (.exit 0) (invMd a b x y z) = KMdA n d a b x y z := by kernel_rfl
def nxD (d : Int) : Int := if Int.tdiv d 2 = 0 then 1 else Int.tdiv d 2
noncomputable def mdF : Nat → Int → Int → Rat
  | 0, _, _ => 0
  | k + 1, n, d => if d ≠ 0 ∧ fitsR (qR n d) then qR n d else mdF k (Int.tdiv n 2) (nxD d)
def mdM (n d : Int) : Nat := n.natAbs + d.natAbs + if d = 0 then 2 else 0
noncomputable def mdQ (n d : Int) : Rat := mdF (mdM n d + 1) n d
theorem fits_zero : fitsR 0 := by decide +kernel
theorem md_step {n d : Int} (h : ¬ (d ≠ 0 ∧ fitsR (qR n d))) : mdM (Int.tdiv n 2) (nxD d) < mdM n d := by
  have hn : (Int.tdiv n 2).natAbs = n.natAbs / 2 := by rw [Int.natAbs_tdiv]; rfl
  have hd : (Int.tdiv d 2).natAbs = d.natAbs / 2 := by rw [Int.natAbs_tdiv]; rfl
  unfold mdM nxD
  by_cases h0 : d = 0
  · subst h0
    rw [if_pos (by decide), if_neg (by decide), if_pos rfl]; omega
  · have hn0 : n ≠ 0 := by
      rintro rfl
      exact h ⟨h0, by rw [qR_zero]; exact fits_zero⟩
    have e1 : (1 : Int).natAbs = 1 := rfl
    (repeat' split) <;> omega
def mdC (n d : Int) (x y z : Int) : Prop := x = (if d = 0 then 0 else rN (qR n d)) ∧ y = (if d = 0 then 0 else rD (qR n d)) ∧ z = (if d = 0 then 3 else rE (qR n d))
theorem tdiv2_b {n : Int} (h : I64 n) : I64 (Int.tdiv n 2) ∧ w64 (Int.tdiv n 2) = Int.tdiv n 2 := by
  have hn : (Int.tdiv n 2).natAbs = n.natAbs / 2 := by rw [Int.natAbs_tdiv]; rfl
  have : I64 (Int.tdiv n 2) := ⟨by omega, by omega⟩
  exact ⟨this, w64_of this.1 this.2⟩
theorem madeG_sat {n d : Int} (hn : I64 n) (hd : I64 d) : Sat Try.prog (tMd n d) (· = .agg [iv (mdQ n d).num, iv (mdQ n d).den]) := by
  constructor
  rw [show tMd n d = LMdA n d from LMdA_eq n d]; unfold LMdA
  refine ⟨⟨hn, hd⟩, ?_⟩
  refine code_satS CJ_ok DJ_ok (n := 200) (n0 := 3) (nx := 3) (roots := []) (keep := [0, 1, 4, 5]) (drop := [2]) (h := .nil) (c := codeC (sub [0] (tMd n d))) (st := codeS (sub [0] (tMd n d))) (k := codeK (sub [0] (tMd n d))) (body := bodyMd) (by kernel_rfl) (by kernel_rfl)
    (fun q s => ∃ a b x y z : Int, I64 a ∧ I64 b ∧ mdM a b < q ∧ mdF q a b = mdQ n d ∧ mdC a b x y z ∧ s = invMd a b x y z)
    (fun e s => ∃ a b y z : Int, ∃ r : Rat, e = .exit 0 ∧ mdQ n d = r ∧ s = invMd a b r.num r.den z)
    ⟨_, _, ⟨n, d, _, _, _, hn, hd, Nat.lt_succ_self _, rfl, ⟨rfl, rfl, rfl⟩, rfl⟩, ?_⟩ ?_ ?_
  · exact entA_sound (roots := []) (keep := [0, 1, 4, 5]) (drop := [2]) (nx := 3) (h := .nil) (by kernel_rfl)
  · rintro q s ⟨a, b, x, y, z, ha, hb, hq, he, ⟨rfl, rfl, rfl⟩, rfl⟩
    refine Sat.of_eq (BMdA_eq _ _ _ _ _) ?_
    constructor
    unfold BMdA
    obtain ⟨a1, a2⟩ := tdiv2_b ha
    obtain ⟨b1, b2⟩ := tdiv2_b hb
    have hI1 : I64 1 := ⟨by decide, by decide⟩
    obtain ⟨q, rfl⟩ : ∃ p, q = p + 1 := ⟨q - 1, by omega⟩
    by_cases hok : b ≠ 0 ∧ fitsR (qR a b)
    · have e1 : mdF (q + 1) a b = qR a b := by unfold mdF; rw [if_pos hok]
      rw [e1] at he
      rw [if_neg hok.1, if_neg hok.1, if_neg hok.1, rE_of hok.2, rN_of hok.2, rD_of hok.2]
      exact ⟨fun h => (by cases h), fun _ => ⟨_, ⟨a, b, 0, 0, qR a b, rfl, he.symm, rfl⟩, Gc.refl _ _⟩⟩
    · have e1 : mdF (q + 1) a b = mdF q (Int.tdiv a 2) (nxD b) := by
        show (if b ≠ 0 ∧ fitsR (qR a b) then qR a b else mdF q (Int.tdiv a 2) (nxD b)) = _
        rw [if_neg hok]
      rw [e1] at he
      have hst := md_step hok
      rw [a2, b2]
      refine ⟨fun _ => ⟨by decide, by decide, fun h1 => ?_, fun h1 => ?_⟩, fun h => ?_⟩
      · have h1 : Int.tdiv b 2 = 0 := by simpa using h1
        have h2 : nxD b = 1 := by unfold nxD; rw [if_pos h1]
        rw [h2] at he hst
        exact ⟨⟨a1, hI1⟩, q, _, Nat.lt_succ_self _, ⟨Int.tdiv a 2, 1, _, _, _, a1, hI1, by omega, he, ⟨by rw [if_neg (by decide)], by rw [if_neg (by decide)], by rw [if_neg (by decide)]⟩, rfl⟩, Gc.refl _ _⟩
      · have h1 : Int.tdiv b 2 ≠ 0 := by simpa using h1
        have h2 : nxD b = Int.tdiv b 2 := by unfold nxD; rw [if_neg h1]
        rw [h2] at he hst
        exact ⟨⟨a1, b1⟩, q, _, Nat.lt_succ_self _, ⟨Int.tdiv a 2, Int.tdiv b 2, _, _, _, a1, b1, by omega, he, ⟨rfl, rfl, rfl⟩, rfl⟩, Gc.refl _ _⟩
      · exfalso
        by_cases hb0 : b = 0
        · rw [if_pos hb0] at h; cases h
        · rw [if_neg hb0, rE_no (fun hf => hok ⟨hb0, hf⟩)] at h; cases h
  · rintro e s ⟨a, b, y, z, r, rfl, he, rfl⟩
    refine Sat.of_eq (KMdA_eq n d a b _ _ _) ⟨?_⟩
    unfold KMdA
    rw [he]; exact rfl
noncomputable def cMadeG : Ctr := fun ss => match ss with
  | [.d (.x (.int .i64 n)), .d (.x (.int .i64 d))] => .need (I64 n ∧ I64 d) (.ret (.agg [iv (mdQ n d).num, iv (mdQ n d).den]))
  | _ => .fail
theorem cMadeG_ok : CtrOK Try.prog 41 cMadeG := by
  refine ctrOK_leS CJ_ok DJ_ok (by kernel_rfl) (by kernel_rfl) fun ss r h => ?_
  unfold cMadeG at h
  split at h
  · rename_i n d
    obtain ⟨⟨h1, h2⟩, rfl⟩ := h
    exact ⟨[iv n, iv d], 200, .nil, by simp [leSVs, leSV, iv, leD], madeG_sat h1 h2⟩
  · exact h.elim
end Go.Proofs.Ytpaejfeojdoikaa
namespace Go.Proofs.Ytpaejfeojdoikaa
open Go.Sx
set_option maxRecDepth 100000
noncomputable def manK : FuncId → Option Ctr := fun k => match k with
  | 41 => some cMadeG
  | 116 => some cMakeG
  | k => manI k
theorem manK_ok (k : Nat) (c : Ctr) (h : manK k = some c) : CtrOK Try.prog k c ∧ goodF Try.prog k = true := by
  unfold manK at h
  split at h
  · cases h; exact ⟨cMadeG_ok, by kernel_rfl⟩
  · cases h; exact ⟨cMakeG_ok, by kernel_rfl⟩
  · exact manI_ok _ _ h
end Go.Proofs.Ytpaejfeojdoikaa
namespace Go.Proofs.Ytpaejfeojdoikaa
open Go.Sx
set_option maxRecDepth 100000
def i64d (k : Int) : DV := .x (.int .i64 k)
def IntsOf (c : Nat) (ds : List DV) : Prop := ∃ ks : List Int, ks.length = c ∧ ds = ks.map i64d ∧ ∀ k ∈ ks, I64 k
theorem IntsOf.append {a b : Nat} {x y : List DV} (h : IntsOf a x) (k : IntsOf b y) : IntsOf (a + b) (x ++ y) := by
  obtain ⟨p, rfl, rfl, p3⟩ := h
  obtain ⟨q, rfl, rfl, q3⟩ := k
  exact ⟨p ++ q, by simp, by simp, fun k hk => (List.mem_append.1 hk).elim (p3 k) (q3 k)⟩
end Go.Proofs.Ytpaejfeojdoikaa
namespace Go.Proofs.Ytpaejfeojdoikaa
open Go.Sx
set_option maxRecDepth 100000
def u64v (n : Int) : SV := .d (.x (.int .u64 n))
def rou64 (n : Nat) (c : Nat → Int) : SV := .d (.ro n 1 fun i _ => .x (.int .u64 (c i)))
noncomputable def inlR (k : Nat) : Bool := k == 122 || k == 147
noncomputable def CR : Ctx := ctxN Try.prog manK inlR 200 .nil 6
theorem CR_ok : CtxOK Try.prog CR := ctxN_ok mixed manK_ok 6
noncomputable def DR : Dr := fun _ => drawn Try.prog CR
theorem DR_ok : DrOK Try.prog CR DR := drawn_ok CR_ok mixed
noncomputable def TR (h : Hint) (k : Nat) (args : List SV) : Tree SV := fnT Try.prog CR DR 200 (fnOf Try.prog k) (bodyOf Try.prog k) args h
noncomputable def tWo (n : Nat) (c : Nat → Int) : Tree SV := TR .nil 100 [ro64 n c]
noncomputable def LWo (n : Nat) (c : Nat → Int) : Tree SV :=
  .code (codeC (sub [] (tWo n c))) (codeS (sub [] (tWo n c))) (codeK (sub [] (tWo n c)))
theorem LWo_eq (n : Nat) (c : Nat → Int) : tWo n c = LWo n c := by kernel_rfl
noncomputable def invWo (n : Nat) (c : Nat → Int) (k : Nat) (s : Int) (h : Hint) : AS := ⟨[.ok (ro64 n c), .unk, .unk, .ok (.ptr 0 0), .ok (.fn (.func 147) [.ptr 0 0] []), .unk, .unk, .unk, .ok (ro64 n c), .ok (iv n), .ok (iv k)] ++ List.replicate 16 .unk, [some (.cells [u64v s]), none], 2, h⟩
noncomputable def bodyWo : Code := loopN (bodyOf Try.prog 100) 0
noncomputable def BWo (n : Nat) (c : Nat → Int) (k : Nat) (s : Int) : Tree (Ex × AS) :=
 .ite (decide ((↑k : Int) < (↑n : Int)))
 (.need ((0 : Int) ≤ (↑k : Int) ∧ (↑k : Int) < (↑n : Int))
 (.need (true = true)
 (.need ((0 : Int) ≤ (0 : Int) ∧ (0 : Int) < (1 : Int))
 (.need (0 < 1)
 (.need ((0 : Int) ≤ (32 : Int))
 (.need (false = false)
 (.ret
 (.normal,
 {
 tm :=
 [.ok (SV.d (DV.ro n 1 fun i x => DV.x (.int .i64 (c i)))), .unk, .unk, .ok (SV.ptr 0 0), .ok (SV.fn (Fn.func 147) [SV.ptr 0 0] []),
 .unk, .unk, .unk, .ok (SV.d (DV.ro n 1 fun i x => DV.x (.int .i64 (c i)))), .ok (iv (↑n : Int)), .ok (iv (w64 ((↑k : Int) + (1 : Int)))), .unk, .unk, .unk, .unk, .unk,
 .unk, .unk, .unk, .unk, .unk, .unk, .unk, .unk, .unk, .unk, .unk],
 hp :=
 [some
 (.cells
 [SV.d
 (DV.x
 (.int .u64
 (IntKind.wrap .u64
 (IntKind.wrap .u64
 (↑(BitVec.toNat
 (BitVec.ofInt 64
 (IntKind.wrap .u64
 (IntKind.wrap .u64 (↑(BitVec.toNat (BitVec.ofInt 64 s ^^^ BitVec.ofInt 64 (IntKind.wrap .u64 (c (Int.toNat (↑k : Int)))))) : Int) *
 (15485907386658061715 : Int))) ^^^
 BitVec.ofInt 64
 (Int.fdiv
 (IntKind.wrap .u64
 (IntKind.wrap .u64 (↑(BitVec.toNat (BitVec.ofInt 64 s ^^^ BitVec.ofInt 64 (IntKind.wrap .u64 (c (Int.toNat (↑k : Int)))))) : Int) *
 (15485907386658061715 : Int)))
 (4294967296 : Int)))) :
 Int) *
 (11562461410679940143 : Int)))))]),
 none],
 next := 2, hint := .u (.t (.u (.f .nil))) }))))))))
 (.ret
 (.exit 0,
 {
 tm :=
 [.ok (SV.d (DV.ro n 1 fun i x => DV.x (.int .i64 (c i)))), .unk, .unk, .ok (SV.ptr 0 0), .ok (SV.fn (Fn.func 147) [SV.ptr 0 0] []), .unk, .unk,
 .unk, .ok (SV.d (DV.ro n 1 fun i x => DV.x (.int .i64 (c i)))), .ok (iv (↑n : Int)), .ok (iv (↑k : Int)), .unk, .unk, .unk, .unk, .unk, .unk, .unk, .unk, .unk, .unk, .unk,
 .unk, .unk, .unk, .unk, .unk],
 hp := [some (.cells [SV.d (DV.x (.int .u64 s))]), none], next := 2, hint := .u (.t (.u (.f .nil))) }))
theorem BWo_eq (n : Nat) (c : Nat → Int) (k : Nat) (s : Int) : cutT 2 [] [0, 3, 4, 8, 9, 10] [1] 2 (uN 1 .nil) (exec Try.prog CR DR 200 bodyWo (invWo n c k s (uN 1 .nil))) = BWo n c k s := by kernel_rfl
noncomputable def KWo (n : Nat) (c : Nat → Int) (k : Nat) (s : Int) : Tree SV :=
  .need (true = true)
  (.need ((0 : Int) ≤ (0 : Int) ∧ (0 : Int) < (1 : Int))
   (.need (0 < 1)
   (.need ((0 : Int) ≤ (32 : Int))
   (.need (false = false)
   (.ret
   (SV.d
   (DV.x
   (.int .u64
   (IntKind.wrap .u64
   (IntKind.wrap .u64
   (↑(BitVec.toNat
   (BitVec.ofInt 64
   (IntKind.wrap .u64
   (IntKind.wrap .u64 (↑(BitVec.toNat (BitVec.ofInt 64 s ^^^ BitVec.ofInt 64 (IntKind.wrap .u64 (↑n : Int)))) : Int) * (15485907386658061715 : Int))) ^^^
   BitVec.ofInt 64
   (Int.fdiv
   (IntKind.wrap .u64
   (IntKind.wrap .u64 (↑(BitVec.toNat (BitVec.ofInt 64 s ^^^ BitVec.ofInt 64 (IntKind.wrap .u64 (↑n : Int)))) : Int) * (15485907386658061715 : Int)))
   (4294967296 : Int)))) :
   Int) *
   (11562461410679940143 : Int)))))))))))
theorem KWo_eq (n : Nat) (c : Nat → Int) (k : Nat) (s : Int) : codeK (sub [] (tWo n c)) (.exit 0) (invWo n c k s (uN 1 .nil)) = KWo n c k s := by kernel_rfl
end Go.Proofs.Ytpaejfeojdoikaa
namespace Go.Proofs.Ytpaejfeojdoikaa
open Go.Sx
set_option maxRecDepth 100000
def stp (s w : Int) : Int :=
  IntKind.wrap .u64 (IntKind.wrap .u64 ((BitVec.toNat (BitVec.ofInt 64 (IntKind.wrap .u64 (IntKind.wrap .u64 ((BitVec.toNat (BitVec.ofInt 64 s ^^^ BitVec.ofInt 64 w) : Nat) : Int) * 15485907386658061715)) ^^^
    BitVec.ofInt 64 (Int.fdiv (IntKind.wrap .u64 (IntKind.wrap .u64 ((BitVec.toNat (BitVec.ofInt 64 s ^^^ BitVec.ofInt 64 w) : Nat) : Int) * 15485907386658061715)) 4294967296)) : Nat) : Int) * 11562461410679940143)
def wU (n : Int) : Int := IntKind.wrap .u64 n
def dgF (c : Nat → Int) : Nat → Int
  | 0 => 512970876019
  | k + 1 => stp (dgF c k) (wU (c k))
def dgW (n : Nat) (c : Nat → Int) : Int := stp (dgF c n) (wU n)
theorem dgF_congr {c d : Nat → Int} : ∀ {n : Nat}, (∀ i, i < n → c i = d i) → dgF c n = dgF d n
  | 0, _ => rfl
  | n + 1, h => by
    show stp (dgF c n) (wU (c n)) = stp (dgF d n) (wU (d n))
    rw [dgF_congr (fun i hi => h i (by omega)), h n (by omega)]
theorem dgW_congr {n : Nat} {c d : Nat → Int} (h : ∀ i, i < n → c i = d i) : dgW n c = dgW n d := by unfold dgW; rw [dgF_congr h]
theorem wo_sat {n : Nat} {c : Nat → Int} (hn : n ≤ 9223372036854775807) : Sat Try.prog (tWo n c) (· = u64v (dgW n c)) := by
  constructor
  rw [LWo_eq]; unfold LWo
  refine code_satS CR_ok DR_ok (n := 200) (n0 := 2) (nx := 2) (roots := []) (keep := [0, 3, 4, 8, 9, 10]) (drop := [1]) (h := uN 1 .nil) (c := codeC (sub [] (tWo n c))) (st := codeS (sub [] (tWo n c))) (k := codeK (sub [] (tWo n c))) (body := bodyWo) (by kernel_rfl) (by kernel_rfl)
    (fun q s => ∃ k : Nat, q = n - k ∧ k ≤ n ∧ s = invWo n c k (dgF c k) (uN 1 .nil))
    (fun e s => e = .exit 0 ∧ s = invWo n c n (dgF c n) (uN 1 .nil))
    ⟨_, _, ⟨0, rfl, by omega, rfl⟩, ?_⟩ ?_ ?_
  · exact entA_sound (roots := []) (keep := [0, 3, 4, 8, 9, 10]) (drop := [1]) (nx := 2) (h := uN 1 .nil) (by kernel_rfl)
  · rintro q s ⟨k, rfl, hk, rfl⟩
    refine Sat.of_eq (BWo_eq n c k _) ?_
    constructor
    unfold BWo
    refine ⟨fun hc => ?_, fun hc => ?_⟩
    · have hc : k < n := by simp only [decide_eq_true_eq] at hc; omega
      refine ⟨by omega, rfl, by decide, by decide, by decide, rfl, n - (k + 1), _, by omega, ⟨k + 1, rfl, by omega, rfl⟩, ?_⟩
      rw [w64_of (n := (k : Int) + 1) (by omega) (by omega), Int.toNat_natCast]
      exact Gc.refl _ _
    · have hc : k = n := by simp only [decide_eq_false_iff_not] at hc; omega
      subst hc
      exact ⟨_, ⟨rfl, rfl⟩, Gc.refl _ _⟩
  · rintro e s ⟨rfl, rfl⟩
    refine Sat.of_eq (KWo_eq n c n _) ⟨?_⟩
    exact ⟨rfl, by decide, by decide, by decide, rfl, rfl⟩
def rowD (esz : Nat) : DV → Option (Nat × (Nat → Nat → DV))
  | .ro n e c => if e = esz then some (n, c) else none
  | .x (.slice none 0 0) => some (0, fun _ _ => .x undef)
  | _ => none
theorem rowD_cases {esz n : Nat} {d : DV} {c : Nat → Nat → DV} (h : rowD esz d = some (n, c)) : d = .ro n esz c ∨ (d = .x (.slice none 0 0) ∧ n = 0) := by
  unfold rowD at h
  split at h
  · split at h
    · rename_i he
      simp only [Option.some.injEq, Prod.mk.injEq] at h
      obtain ⟨rfl, rfl⟩ := h
      subst he; exact .inl rfl
    · cases h
  · simp only [Option.some.injEq, Prod.mk.injEq] at h
    exact .inr ⟨rfl, h.1.symm⟩
  · cases h
theorem rowD_le {esz n : Nat} {d : DV} {c c' : Nat → Nat → DV} (h : rowD esz d = some (n, c)) (hc : ∀ i j, i < n → j < esz → c i j = c' i j) : leD d (.ro n esz c') := by
  rcases rowD_cases h with rfl | ⟨rfl, rfl⟩
  · exact ⟨rfl, rfl, hc⟩
  · exact ⟨rfl, rfl⟩
def I64C (n : Nat) (cell : Nat → Nat → DV) : Prop := n ≤ 9223372036854775807 ∧ ∀ i, i < n → cell i 0 = .x (.int .i64 (intCell cell i))
noncomputable def cWords : Ctr := fun ss => match ss with
  | [.d d] => match rowD 1 d with
    | some (n, cell) => .need (I64C n cell) (.ret (u64v (dgW n (intCell cell))))
    | none => .fail
  | _ => .fail
theorem I64C.le {n : Nat} {d : DV} {cell : Nat → Nat → DV} (h : rowD 1 d = some (n, cell)) (k : I64C n cell) : leSVs 0 [] [] [.d d] [ro64 n (intCell cell)] := by
  simp only [leSVs, leSV, ro64, and_true]
  exact rowD_le h fun i j hi hj => by
    obtain rfl : j = 0 := by omega
    exact k.2 i hi
theorem cWords_ok : CtrOK Try.prog 100 cWords := by
  refine ctrOK_leS CR_ok DR_ok (by kernel_rfl) (by kernel_rfl) fun ss r h => ?_
  unfold cWords at h
  split at h
  · split at h
    · rename_i n cell hr
      obtain ⟨h1, rfl⟩ := h
      exact ⟨[ro64 n (intCell cell)], 200, .nil, h1.le hr, wo_sat h1.1⟩
    · exact h.elim
  · exact h.elim
end Go.Proofs.Ytpaejfeojdoikaa
namespace Go.Proofs.Ytpaejfeojdoikaa.Rm
open Go.Sx
set_option maxRecDepth 100000
noncomputable def cellI (L : List Int) : Nat → Nat → DV := fun i _ => .x (.int .i64 (L.getD i 0))
noncomputable def inA (k : Nat) : Bool := match k with
  | 122 | 124 | 182 | 171 | 170 | 181 | 123 => true
  | _ => false
noncomputable def CA : Ctx := ctxN Try.prog (fun _ => none) inA 200 .nil 6
theorem CA_ok : CtxOK Try.prog CA := ctxN_ok mixed (fun k c h => by cases h) 6
noncomputable def DA : Dr := drawnL Try.prog CA
theorem DA_ok : DrOK Try.prog CA DA := drawnL_ok CA_ok mixed
noncomputable def hpN (L : List Int) : Heap := [some (.cells [.row 1 0 0 L.length 1]), some (.row L.length 1 (cellI L))]
noncomputable def tTx (s : List UInt8) (L : List Int) : Tree (SV × AS) := inlT Try.prog CA DA 200 124 [.ptr 0 0, strV s] ⟨[], hpN L, 2, .nil⟩
noncomputable def LTx (s : List UInt8) (L : List Int) : Tree (SV × AS) :=
  .need (0 + List.length L ≤ List.length L ∧ 1 ≤ 1 ∧ (List.length L + 1) * 8 ≤ 140737488355328)
  (.code (codeC (sub [(0 : Nat)] (tTx s L))) (codeS (sub [(0 : Nat)] (tTx s L))) (codeK (sub [(0 : Nat)] (tTx s L))))
theorem LTx_eq (s : List UInt8) (L : List Int) : tTx s L = LTx s L := by kernel_rfl
noncomputable def byS (s : List UInt8) : SV := .d (.ro (strB s).size 1 (strCell (strB s)))
noncomputable def hp5 (L : List Int) : Heap := [some (.cells [.row 5 0 0 L.length 1]), none, none, none, none, some (.row L.length 1 (cellI L))]
noncomputable def invTx (s : List UInt8) (L : List Int) (k : Int) : AS := ⟨[.ok (.ptr 0 0)] ++ List.replicate 11 .unk ++ [.ok (byS s), .ok (iv (strB s).size), .ok (iv k)] ++ List.replicate 9 .unk, hp5 L, 6, .nil⟩
noncomputable def bodyTx : Code := loopN (bodyOf Try.prog 124) 0
noncomputable def BTx_q1 (s : List UInt8) (i : Nat) (x : Nat) : DV :=
  DV.x (.int .u8 (↑(UInt8.toNat (Array.getD (ByteArray.data (strB s)) i (0 : UInt8))) : Int))
noncomputable def BTx_q2 (s : List UInt8) (L : List Int) (k : Int) (a : Nat) (b : Nat) : DV :=
  selD (decide (a < List.length L)) (DV.x (.int .i64 (List.getD L (0 + a) (0 : Int)))) (dsAt [DV.x (.int .i64 (w64 (↑(UInt8.toNat (Array.getD (ByteArray.data (strB s)) (Int.toNat k) (0 : UInt8))) : Int)))] (0 + (0 + (a - List.length L)) * 1 + b))
noncomputable def BTx_q3 (L : List Int) (i : Nat) (x : Nat) : DV :=
  DV.x (.int .i64 (List.getD L i (0 : Int)))
noncomputable def BTx (s : List UInt8) (L : List Int) (k : Int) : Tree (Ex × AS) :=
  .ite (decide (k < (↑(ByteArray.size (strB s)) : Int)))
  (.need ((0 : Int) ≤ k ∧ k < (↑(ByteArray.size (strB s)) : Int))
   (.need (0 + List.length L ≤ List.length L ∧ 1 ≤ 1 ∧ (List.length L + 1) * 8 ≤ 140737488355328)
   (.ret
   (.normal,
   {
   tm :=
   [.ok (SV.ptr 0 0), .unk, .unk, .unk, .unk, .unk, .unk, .unk, .unk, .unk, .unk, .unk, .ok (SV.d (DV.ro (ByteArray.size (strB s)) 1 (BTx_q1 s))),
   .ok (iv (↑(ByteArray.size (strB s)) : Int)), .ok (iv (w64 (k + (1 : Int)))), .unk, .unk, .unk, .unk, .unk, .unk, .unk, .unk, .unk],
   hp := [some (.cells [SV.row 5 0 0 (List.length L + 1) 1]), none, none, none, none, some (.row (List.length L + 1) 1 (BTx_q2 s L k))],
   next := 6, hint := .nil }))))
  (.ret
   (.exit 0,
   {
   tm :=
   [.ok (SV.ptr 0 0), .unk, .unk, .unk, .unk, .unk, .unk, .unk, .unk, .unk, .unk, .unk, .ok (SV.d (DV.ro (ByteArray.size (strB s)) 1 (BTx_q1 s))),
   .ok (iv (↑(ByteArray.size (strB s)) : Int)), .ok (iv k), .unk, .unk, .unk, .unk, .unk, .unk, .unk, .unk, .unk],
   hp := [some (.cells [SV.row 5 0 0 (List.length L) 1]), none, none, none, none, some (.row (List.length L) 1 (BTx_q3 L))], next := 6, hint := .nil }))
theorem BTx_eq (s : List UInt8) (L : List Int) (k : Int) : cutT 5 [(.cell (.base 0) 0, 5)] [0, 12, 13, 14] [1, 2, 3, 4] 6 .nil (exec Try.prog CA DA 200 bodyTx (invTx s L k)) = BTx s L k := by kernel_rfl
noncomputable def KTx_q1 (s : List UInt8) (i : Nat) (x : Nat) : DV :=
  DV.x (.int .u8 (↑(UInt8.toNat (Array.getD (ByteArray.data (strB s)) i (0 : UInt8))) : Int))
noncomputable def KTx_q2 (L : List Int) (i : Nat) (x : Nat) : DV :=
  DV.x (.int .i64 (List.getD L i (0 : Int)))
noncomputable def KTx (s : List UInt8) (L0 L : List Int) (k : Int) : Tree (SV × AS) :=
  .ret
  (SV.tup [],
   {
   tm :=
   [.ok (SV.ptr 0 0), .unk, .unk, .unk, .unk, .unk, .unk, .unk, .unk, .unk, .unk, .unk, .ok (SV.d (DV.ro (ByteArray.size (strB s)) 1 (KTx_q1 s))),
   .ok (iv (↑(ByteArray.size (strB s)) : Int)), .ok (iv k), .unk, .unk, .unk, .unk, .unk, .unk, .unk, .unk, .unk],
   hp := [some (.cells [SV.row 5 0 0 (List.length L) 1]), none, none, none, none, some (.row (List.length L) 1 (KTx_q2 L))], next := 6, hint := .nil })
theorem KTx_eq (s : List UInt8) (L0 L : List Int) (k : Int) : codeK (sub [0] (tTx s L0)) (.exit 0) (invTx s L k) = KTx s L0 L k := by kernel_rfl
end Go.Proofs.Ytpaejfeojdoikaa.Rm
namespace Go.Proofs.Ytpaejfeojdoikaa.Rm
open Go.Sx
set_option maxRecDepth 100000
def numD (d : DV) : Int := match d with | .x (.int _ n) => n | _ => 0
def lsI (n : Nat) (f : Nat → Nat → DV) : List Int := (List.range n).map fun i => numD (f i 0)
def IsI (n : Nat) (f : Nat → Nat → DV) : Prop := ∀ i, i < n → f i 0 = .x (.int .i64 (numD (f i 0)))
theorem lsI_len (n : Nat) (f : Nat → Nat → DV) : (lsI n f).length = n := by unfold lsI; simp
theorem lsI_get {n : Nat} {f : Nat → Nat → DV} {i : Nat} (h : i < n) : (lsI n f).getD i 0 = numD (f i 0) := by
  unfold lsI; simp [List.getD_eq_getElem?_getD, h]
theorem row_lsI {n : Nat} {f : Nat → Nat → DV} (h : IsI n f) : BlkLe (.row n 1 f) (.row (lsI n f).length 1 (cellI (lsI n f))) := by
  rw [lsI_len]
  refine .row fun i j hi hj => ?_
  obtain rfl : j = 0 := by omega
  unfold cellI
  rw [lsI_get hi]; exact h i hi
theorem row_apps {L vs : List Int} {f : Nat → Nat → DV} {k : Nat} (hk : vs.length = k) (h : ∀ a, a < L.length + k → f a 0 = .x (.int .i64 ((L ++ vs).getD a 0))) : BlkLe (.row (L.length + k) 1 f) (.row (L ++ vs).length 1 (cellI (L ++ vs))) := by
  rw [List.length_append, hk]
  refine .row fun i j hi hj => ?_
  obtain rfl : j = 0 := by omega
  exact h i hi
theorem sel_apps (L vs : List Int) (a : Nat) (h : a < L.length + vs.length) : selD (decide (a < L.length)) (.x (.int .i64 (L.getD (0 + a) 0))) (dsAt (vs.map fun v => .x (.int .i64 v)) (0 + (0 + (a - L.length)) * 1 + 0)) = .x (.int .i64 ((L ++ vs).getD a 0)) := by
  have e : 0 + (0 + (a - L.length)) * 1 + 0 = a - L.length := by omega
  rw [e, Nat.zero_add]
  rcases Nat.lt_or_ge a L.length with h1 | h1
  · rw [decide_eq_true h1]
    have e2 : (L ++ vs).getD a 0 = L.getD a 0 := by rw [List.getD_eq_getElem?_getD, List.getElem?_append_left h1, ← List.getD_eq_getElem?_getD]
    rw [e2]
    unfold selD
    split <;> simp_all
  · rw [decide_eq_false (by omega)]
    have hv : a - L.length < vs.length := by omega
    have e2 : (L ++ vs).getD a 0 = vs.getD (a - L.length) 0 := by rw [List.getD_eq_getElem?_getD, List.getElem?_append_right h1, ← List.getD_eq_getElem?_getD]
    have e3 : dsAt (vs.map fun v => DV.x (.int .i64 v)) (a - L.length) = .x (.int .i64 (vs.getD (a - L.length) 0)) := by
      rw [dsAt_eq (by simpa using hv)]
      simp [List.getD_eq_getElem?_getD, List.getElem?_eq_getElem hv]
    rw [e2, e3]
    unfold selD
    simp
def textN (s : List UInt8) : List Int := (s.length : Int) :: s.map fun b => (b.toNat : Int)
theorem textN_len (s : List UInt8) : (textN s).length = s.length + 1 := by unfold textN; simp
noncomputable def hpR (L : List Int) : Heap := [some (.cells [.row 2 0 0 L.length 1]), none, some (.row L.length 1 (cellI L))]
theorem w64_u8 (b : UInt8) : w64 (b.toNat : Int) = b.toNat := by have := b.toNat_lt; rw [w64_of (by omega) (by omega)]
theorem tx_sat {s : List UInt8} {L : List Int} (hL : L.length + s.length ≤ 1000000000) :
    Sat Try.prog (tTx s L) fun q => Gc 2 ⟨[.ok q.1], q.2.hp, q.2.next, .nil⟩ ⟨[.ok (.tup [])], hpR (L ++ textN s), 3, .nil⟩ := by
  constructor
  rw [LTx_eq]; unfold LTx
  refine ⟨⟨by omega, by omega, by omega⟩, ?_⟩
  refine code_satS CA_ok DA_ok (n := 200) (n0 := 5) (nx := 6) (roots := [(.cell (.base 0) 0, 5)]) (keep := [0, 12, 13, 14]) (drop := [1, 2, 3, 4]) (h := .nil) (c := codeC (sub [0] (tTx s L))) (st := codeS (sub [0] (tTx s L))) (k := codeK (sub [0] (tTx s L))) (body := bodyTx) (by kernel_rfl) (by kernel_rfl)
    (fun q t => ∃ i : Nat, q = s.length - i ∧ i ≤ s.length ∧ t = invTx s (L ++ ((s.length : Int) :: (s.take i).map fun b => (b.toNat : Int))) i)
    (fun e t => e = .exit 0 ∧ ∃ i, t = invTx s (L ++ textN s) i)
    ⟨_, _, ⟨0, rfl, by omega, rfl⟩, ?_⟩ ?_ ?_
  · refine (entA_sound (s' := ⟨[.ok (.ptr 0 0)] ++ List.replicate 11 .unk ++ [.ok (byS s), .ok (iv (strB s).size), .ok (iv 0)] ++ List.replicate 9 .unk, [some (.cells [.row 5 0 0 (L.length + 1) 1]), none, none, none, none, some (.row (L.length + 1) 1 fun a b => selD (decide (a < L.length)) (.x (.int .i64 (L.getD (0 + a) 0))) (dsAt [.x (.int .i64 (strB s).size)] (0 + (0 + (a - L.length)) * 1 + b)))], 6, .nil⟩) (roots := [(.cell (.base 0) 0, 5)]) (keep := [0, 12, 13, 14]) (drop := [1, 2, 4]) (nx := 6) (h := .nil) (by kernel_rfl)).trans ?_
    refine gc_hp rfl rfl ⟨.inr ⟨_, _, rfl, by rw [List.length_append]; rfl, .refl _⟩, .inl rfl, .inl rfl, .inl rfl, .inl rfl, .inr ⟨_, _, rfl, rfl, ?_⟩, trivial⟩
    exact row_apps (vs := [(s.length : Int)]) rfl fun a ha => by rw [strB_size]; exact sel_apps L [(s.length : Int)] a ha
  · rintro q t ⟨i, rfl, hi, rfl⟩
    generalize hM : L ++ ((s.length : Int) :: (s.take i).map fun b => (b.toNat : Int)) = M
    have hMl : M.length = L.length + 1 + i := by rw [← hM]; simp; omega
    refine Sat.of_eq (BTx_eq s M i) ⟨?_⟩
    unfold BTx
    rw [strB_size]
    refine ⟨fun h1 => ?_, fun h1 => ?_⟩
    · simp only [decide_eq_true_eq] at h1
      have hlt : i < s.length := by omega
      rw [w64_of (n := (i : Int) + 1) (by omega) (by omega)]
      refine ⟨by omega, ⟨by omega, by omega, by omega⟩, s.length - (i + 1), _, by omega, ⟨i + 1, rfl, by omega, rfl⟩, ?_⟩
      have e1 : L ++ ((s.length : Int) :: (s.take (i + 1)).map fun b => (b.toNat : Int)) = M ++ [((s.getD i 0).toNat : Int)] := by
        rw [← hM, List.take_add_one, List.getElem?_eq_getElem hlt, List.getD_eq_getElem?_getD, List.getElem?_eq_getElem hlt, List.map_append, List.append_assoc]; rfl
      rw [e1]
      refine gc_hp rfl rfl ⟨.inr ⟨_, _, rfl, by rw [List.length_append]; rfl, .refl _⟩, .inl rfl, .inl rfl, .inl rfl, .inl rfl, .inr ⟨_, _, rfl, rfl, ?_⟩, trivial⟩
      refine row_apps (vs := [((s.getD i 0).toNat : Int)]) rfl fun a ha => ?_
      have e2 : w64 (((strB s).data.getD ((i : Int)).toNat 0).toNat : Int) = ((s.getD i 0).toNat : Int) := by
        rw [w64_u8, Int.toNat_natCast]
        have : (strB s).data.getD i 0 = s.getD i 0 := by simp [strB, Array.getD_eq_getD_getElem?, List.getD_eq_getElem?_getD]
        rw [this]
      unfold BTx_q2
      rw [e2]; exact sel_apps M [((s.getD i 0).toNat : Int)] a ha
    · simp only [decide_eq_false_iff_not] at h1
      obtain rfl : i = s.length := by omega
      have e1 : M = L ++ textN s := by rw [← hM, List.take_length]; rfl
      rw [e1]
      refine ⟨_, ⟨rfl, (s.length : Int), rfl⟩, ?_⟩
      unfold invTx byS
      rw [strB_size]
      exact Gc.refl _ _
  · rintro e t ⟨rfl, i, rfl⟩
    refine Sat.of_eq (KTx_eq s L (L ++ textN s) i) ⟨?_⟩
    generalize L ++ textN s = M
    unfold KTx
    exact gcA_sound (n0 := 2) (roots := [(.cell (.base 0) 0, 2)]) (keep := [0]) (drop := [1]) (nx := 3) (h := .nil)
      (s' := ⟨[.ok (.tup [])], hpR M, 3, .nil⟩) (by kernel_rfl)
end Go.Proofs.Ytpaejfeojdoikaa.Rm
namespace Go.Sx
inductive Xp where
  | no
  | mk (op : Int) (nm : ByteArray) (kn : Int) (kp : ByteArray) (wn : Int) (wp : ByteArray) (n : Nat) (args : Nat → Xp)
namespace Xp
def op : Xp → Int | mk a _ _ _ _ _ _ _ => a | no => 0
def nm : Xp → ByteArray | mk _ a _ _ _ _ _ _ => a | no => ⟨#[]⟩
def kn : Xp → Int | mk _ _ a _ _ _ _ _ => a | no => 0
def kp : Xp → ByteArray | mk _ _ _ a _ _ _ _ => a | no => ⟨#[]⟩
def wn : Xp → Int | mk _ _ _ _ a _ _ _ => a | no => 0
def wp : Xp → ByteArray | mk _ _ _ _ _ a _ _ => a | no => ⟨#[]⟩
def n : Xp → Nat | mk _ _ _ _ _ _ a _ => a | no => 0
def args : Xp → Nat → Xp | mk _ _ _ _ _ _ _ a => a | no => fun _ => no
end Xp
def exJ (e : Xp) (n : Nat) (sub : Nat → Nat → DV) : Nat → DV
  | 0 => .x (.int .i64 e.op)
  | 1 => .x (.string e.nm)
  | 2 => .x (.int .i64 e.kn)
  | 3 => .x (.string e.kp)
  | 4 => .x (.int .i64 e.wn)
  | 5 => .x (.string e.wp)
  | 6 => .ro n 7 sub
  | _ => .x undef
def nOf (d : Nat) (e : Xp) : Nat := Nat.rec (motive := fun _ => Nat) 0 (fun _ _ => e.n) d
def subC (d : Nat) : Xp → Nat → Nat → DV := Nat.rec (motive := fun _ => Xp → Nat → Nat → DV) (fun _ _ _ => .x undef) (fun d ih e i j => exJ (e.args i) (nOf d (e.args i)) (ih (e.args i)) j) d
def textL (s : List UInt8) : List Int := (s.length : Int) :: s.map fun b => (b.toNat : Int)
def exH (op : Int) (nm : ByteArray) (kn : Int) (kp : ByteArray) (wn : Int) (wp : ByteArray) (n : Nat) (A : List Int) : List Int :=
  op :: (textL nm.data.toList ++ (kn :: (textL kp.data.toList ++ (wn :: (textL wp.data.toList ++ ((n : Int) :: A))))))
def numV (d : DV) : Int := match d with | .x (.int _ n) => n | _ => 0
def strV' (d : DV) : ByteArray := match d with | .x (.string s) => s | _ => ⟨#[]⟩
def lenV (d : DV) : Nat := match d with | .ro n _ _ => n | _ => 0
def cellV (d : DV) : Nat → Nat → DV := match d with | .ro _ _ c => c | _ => fun _ _ => .x undef
def argsD (d : Nat) : Nat → (Nat → Nat → DV) → List Int := Nat.rec (motive := fun _ => Nat → (Nat → Nat → DV) → List Int) (fun _ _ => [])
  (fun d ih n a => (List.range n).flatMap fun i => exH (numV (a i 0)) (strV' (a i 1)) (numV (a i 2)) (strV' (a i 3)) (numV (a i 4)) (strV' (a i 5)) (lenV (a i 6)) (ih (lenV (a i 6)) (cellV (a i 6)))) d
def argsN (d : Nat) (e : Xp) : List Int := argsD d (nOf d e) (subC d e)
def exN (d : Nat) (e : Xp) : List Int := exH e.op e.nm e.kn e.kp e.wn e.wp (nOf d e) (argsN d e)
theorem argsN_succ (d : Nat) (e : Xp) : argsN (d + 1) e = (List.range e.n).flatMap fun i => exN d (e.args i) := rfl
def _root_.Go.Proofs.ExIs (d n : Nat) (a : Nat → Nat → DV) : Prop := ∃ e : Xp, nOf d e = n ∧ ∀ i j, i < n → j < 7 → a i j = subC d e i j
theorem argsD_congr {n : Nat} {a b : Nat → Nat → DV} : ∀ {d : Nat}, (∀ i j, i < n → j < 7 → a i j = b i j) → argsD d n a = argsD d n b
  | 0, _ => rfl
  | d + 1, h => by
    show (List.range n).flatMap _ = (List.range n).flatMap _
    rw [List.flatMap_def, List.flatMap_def]
    congr 1
    refine List.map_congr_left fun i hi => ?_
    have hi := List.mem_range.1 hi
    rw [h i 0 hi (by decide), h i 1 hi (by decide), h i 2 hi (by decide), h i 3 hi (by decide), h i 4 hi (by decide), h i 5 hi (by decide), h i 6 hi (by decide)]
def appC (n : Nat) (f : Nat → Nat → DV) (N : List Int) : Nat → Nat → DV := fun a _ => .x (.int .i64 (if a < n then numV (f a 0) else N.getD (a - n) 0))
end Go.Sx
namespace Go.Proofs.Ytpaejfeojdoikaa.Rm
open Go.Sx
set_option maxRecDepth 100000
theorem hpLe_refl : ∀ hp : Heap, hpLe hp hp
  | [] => trivial
  | none :: r => ⟨.inl rfl, hpLe_refl r⟩
  | some b :: r => ⟨.inr ⟨b, b, rfl, rfl, .refl _⟩, hpLe_refl r⟩
def _root_.Go.Proofs.RowI (n n' : Nat) (f : Nat → Nat → DV) (m : Nat) : Prop := n = n' ∧ IsI n f ∧ n + m ≤ 1000000000
theorem appC_cellI (L N : List Int) : appC L.length (cellI L) N = cellI (L ++ N) := by
  funext a b
  unfold appC cellI numV
  by_cases h : a < L.length
  · rw [if_pos h, List.getD_eq_getElem?_getD (l := L ++ N), List.getElem?_append_left h, ← List.getD_eq_getElem?_getD]
  · rw [if_neg h, List.getD_eq_getElem?_getD (l := L ++ N), List.getElem?_append_right (by omega), ← List.getD_eq_getElem?_getD]
theorem isI_appC (n m : Nat) (f : Nat → Nat → DV) (N : List Int) : IsI m (appC n f N) := fun i hi => rfl
theorem appC_lsI {n : Nat} {f : Nat → Nat → DV} (h : IsI n f) (N : List Int) : appC n f N = cellI (lsI n f ++ N) := by
  rw [← appC_cellI, lsI_len]
  funext a b
  unfold appC
  by_cases h1 : a < n
  · rw [if_pos h1, if_pos h1]
    congr 2
    unfold cellI
    rw [lsI_get h1]; rfl
  · rw [if_neg h1, if_neg h1]
noncomputable def hpQ (n : Nat) (f : Nat → Nat → DV) (N : List Int) : Heap := [some (.cells [.row 2 0 0 (n + N.length) 1]), none, some (.row (n + N.length) 1 (appC n f N))]
theorem hpQ_R {n : Nat} {f : Nat → Nat → DV} (h : IsI n f) (N : List Int) : hpQ n f N = hpR (lsI n f ++ N) := by
  unfold hpQ hpR
  rw [appC_lsI h, List.length_append, lsI_len]
noncomputable def appM (N : List SV → Tr (List Int)) : MCtr := fun args hp nx => match args, hp, nx with
  | .ptr 0 0 :: r, [some (.cells [.row 1 0 0 n 1]), some (.row n' 1 f)], 2 => (N r).bind fun N => .need (RowI n n' f N.length) (.ret (.tup [], hpQ n f N, 3))
  | _, _, _ => .fail
theorem appM_ok {C : Ctx} {D : Dr} (hC : CtxOK Try.prog C) (hD : DrOK Try.prog C D) {k : FuncId} {N : List SV → Tr (List Int)}
    (h : ∀ r N0 L, (N r).ev N0 → L.length + N0.length ≤ 1000000000 → ∃ r1 n hint, (∀ (w : World) (μ : Mu) (F : Nat → Prop) (vs : Array Value), Reps w μ F vs (.ptr 0 0 :: r) → Reps w μ F vs (.ptr 0 0 :: r1)) ∧ Sat Try.prog (inlT Try.prog C D n k (.ptr 0 0 :: r1) ⟨[], hpN L, 2, hint⟩) fun q => Gc 2 ⟨[.ok q.1], q.2.hp, q.2.next, .nil⟩ ⟨[.ok (.tup [])], hpR (L ++ N0), 3, .nil⟩) : MuOK Try.prog k (appM N) := by
  refine muOK_walk hC hD fun args hp nx r hr => ?_
  unfold appM at hr
  split at hr
  · rename_i r0 n n' f
    obtain ⟨N0, h1, h2⟩ := Tr.ev_bind hr
    obtain ⟨⟨rfl, hI, hl⟩, rfl⟩ := h2
    obtain ⟨r1, m, hint, hr1, hs⟩ := h r0 N0 (lsI n f) h1 (by rw [lsI_len]; exact hl)
    rw [hpQ_R hI]
    refine ⟨_, _, m, hint, ?_, hr1, hs⟩
    exact ⟨.inr ⟨_, _, rfl, by rw [lsI_len], .refl _⟩, .inr ⟨_, _, rfl, rfl, row_lsI hI⟩, trivial⟩
  · exact hr.elim
theorem isI_cellI (L : List Int) : IsI L.length (cellI L) := fun i hi => rfl
noncomputable def selN : List SV → Heap → Option (List Nat) := fun args hp => match args with
  | .ptr l 0 :: _ => (match hget hp l with
    | some (.cells [.row l1 _ _ _ _]) => some [l, l1]
    | _ => none)
  | _ => none
noncomputable def nTx : List SV → Tr (List Int) := fun r => match r with
  | [.d (.x (.string s))] => .ret (textL s.data.toList)
  | _ => .fail
noncomputable def mTx : MCtr := mcB selN (appM nTx)
theorem mTx_ok : MuOK Try.prog 124 mTx := mcB_ok (appM_ok CA_ok DA_ok fun r N0 L h1 h2 => by
  unfold nTx at h1
  split at h1
  · rename_i s
    obtain rfl : N0 = textL s.data.toList := h1
    have h3 : (textL s.data.toList).length = s.data.toList.length + 1 := textN_len s.data.toList
    exact ⟨_, 200, .nil, fun _ _ _ _ h => h, tx_sat (s := s.data.toList) (by omega)⟩
  · exact h1.elim)
end Go.Proofs.Ytpaejfeojdoikaa.Rm
namespace Go.Proofs.Ytpaejfeojdoikaa.Rm
open Go.Sx
set_option maxRecDepth 100000
noncomputable def C00 : Ctx := ctxN Try.prog (fun _ => none) (fun _ => false) 200 .nil 6
theorem C00_ok : CtxOK Try.prog C00 := ctxN_ok mixed (fun k c h => by cases h) 6
noncomputable def D00 : Dr := drawnL Try.prog C00
theorem D00_ok : DrOK Try.prog C00 D00 := drawnL_ok C00_ok mixed
noncomputable def hpA (L : List Int) (vs : List SV) : Heap := [some (.cells [.row 1 0 0 L.length 1]), some (.row L.length 1 (cellI L)), some (.cells vs)]
noncomputable def tAd (L : List Int) (vs : List SV) (k : Nat) : Tree (SV × AS) := inlT Try.prog C00 D00 200 122 [.ptr 0 0, .row 2 0 0 k 1] ⟨[], hpA L vs, 3, .nil⟩
noncomputable def tAn (vs : List SV) (k : Nat) : Tree (SV × AS) := inlT Try.prog C00 D00 200 122 [.ptr 0 0, .row 1 0 0 k 1] ⟨[], [some (.cells [.d (.x (.slice none 0 0))]), some (.cells vs)], 2, .nil⟩
noncomputable def LAd1_q1 (L : List Int) (v1 : Int) (a : Nat) (b : Nat) : DV :=
  selD (decide (a < List.length L)) (DV.x (.int .i64 (List.getD L (0 + a) (0 : Int)))) (dsAt [DV.x (.int .i64 v1)] (0 + (0 + (a - List.length L)) * 1 + b))
noncomputable def LAd1 (L : List Int) (v1 : Int) : Tree (SV × AS) :=
  .need (0 + List.length L ≤ List.length L ∧ 1 ≤ 1 ∧ (List.length L + 1) * 8 ≤ 140737488355328)
  (.ret
   (SV.tup [],
   {
   tm :=
   [.ok (SV.ptr 0 0), .ok (SV.row 2 0 0 1 1), .unk, .unk, .ok (SV.ptr 0 0), .ok (SV.ptr 0 0),
   .ok (SV.ptr 0 0), .ok (SV.row 1 0 0 (List.length L) 1), .ok (SV.row 2 0 0 1 1),
   .ok (SV.row 3 0 0 (List.length L + 1) 1), .ok (SV.ptr 0 0)],
   hp := [some (.cells [SV.row 3 0 0 (List.length L + 1) 1]), none, some (.cells [iv v1]), some (.row (List.length L + 1) 1 (LAd1_q1 L v1))],
   next := 5, hint := .nil }))
theorem LAd1_eq (L : List Int) (v1 : Int) : tAd L [iv v1] 1 = LAd1 L v1 := by kernel_rfl
noncomputable def LAd2_q1 (L : List Int) (v1 : Int) (v2 : Int) (a : Nat) (b : Nat) : DV :=
  selD (decide (a < List.length L)) (DV.x (.int .i64 (List.getD L (0 + a) (0 : Int))))
  (dsAt [DV.x (.int .i64 v1), DV.x (.int .i64 v2)] (0 + (0 + (a - List.length L)) * 1 + b))
noncomputable def LAd2 (L : List Int) (v1 v2 : Int) : Tree (SV × AS) :=
  .need (0 + List.length L ≤ List.length L ∧ 2 ≤ 2 ∧ (List.length L + 2) * 8 ≤ 140737488355328)
  (.ret
   (SV.tup [],
   {
   tm :=
   [.ok (SV.ptr 0 0), .ok (SV.row 2 0 0 2 1), .unk, .unk, .ok (SV.ptr 0 0), .ok (SV.ptr 0 0),
   .ok (SV.ptr 0 0), .ok (SV.row 1 0 0 (List.length L) 1), .ok (SV.row 2 0 0 2 1),
   .ok (SV.row 3 0 0 (List.length L + 2) 1), .ok (SV.ptr 0 0)],
   hp :=
   [some (.cells [SV.row 3 0 0 (List.length L + 2) 1]), none, some (.cells [iv v1, iv v2]), some (.row (List.length L + 2) 1 (LAd2_q1 L v1 v2))],
   next := 5, hint := .nil }))
theorem LAd2_eq (L : List Int) (v1 v2 : Int) : tAd L [iv v1, iv v2] 2 = LAd2 L v1 v2 := by kernel_rfl
noncomputable def LAd4_q1 (L : List Int) (v1 : Int) (v2 : Int) (v3 : Int) (v4 : Int) (a : Nat) (b : Nat) : DV :=
  selD (decide (a < List.length L)) (DV.x (.int .i64 (List.getD L (0 + a) (0 : Int))))
  (dsAt [DV.x (.int .i64 v1), DV.x (.int .i64 v2), DV.x (.int .i64 v3), DV.x (.int .i64 v4)] (0 + (0 + (a - List.length L)) * 1 + b))
noncomputable def LAd4 (L : List Int) (v1 v2 v3 v4 : Int) : Tree (SV × AS) :=
  .need (0 + List.length L ≤ List.length L ∧ 4 ≤ 4 ∧ (List.length L + 4) * 8 ≤ 140737488355328)
  (.ret
   (SV.tup [],
   {
   tm :=
   [.ok (SV.ptr 0 0), .ok (SV.row 2 0 0 4 1), .unk, .unk, .ok (SV.ptr 0 0), .ok (SV.ptr 0 0),
   .ok (SV.ptr 0 0), .ok (SV.row 1 0 0 (List.length L) 1), .ok (SV.row 2 0 0 4 1),
   .ok (SV.row 3 0 0 (List.length L + 4) 1), .ok (SV.ptr 0 0)],
   hp :=
   [some (.cells [SV.row 3 0 0 (List.length L + 4) 1]), none, some (.cells [iv v1, iv v2, iv v3, iv v4]),
   some (.row (List.length L + 4) 1 (LAd4_q1 L v1 v2 v3 v4))],
   next := 5, hint := .nil }))
theorem LAd4_eq (L : List Int) (v1 v2 v3 v4 : Int) : tAd L [iv v1, iv v2, iv v3, iv v4] 4 = LAd4 L v1 v2 v3 v4 := by kernel_rfl
noncomputable def LAn1_q1 (v1 : Int) (a : Nat) (b : Nat) : DV :=
  DV.x (.int .i64 v1)
noncomputable def LAn1 (v1 : Int) : Tree (SV × AS) :=
  .need (True ∧ 1 ≤ 1 ∧ 8 ≤ 140737488355328)
  (.ret
   (SV.tup [],
   {
   tm :=
   [.ok (SV.ptr 0 0), .ok (SV.row 1 0 0 1 1), .unk, .unk, .ok (SV.ptr 0 0), .ok (SV.ptr 0 0),
   .ok (SV.ptr 0 0), .ok (SV.d (DV.x (.slice none 0 0))), .ok (SV.row 1 0 0 1 1),
   .ok (SV.row 2 0 0 1 1), .ok (SV.ptr 0 0)],
   hp := [some (.cells [SV.row 2 0 0 1 1]), some (.cells [iv v1]), some (.row 1 1 (LAn1_q1 v1))], next := 4, hint := .nil }))
theorem LAn1_eq (v1 : Int) : tAn [iv v1] 1 = LAn1 v1 := by kernel_rfl
end Go.Proofs.Ytpaejfeojdoikaa.Rm
namespace Go.Proofs.Ytpaejfeojdoikaa.Rm
open Go.Sx
set_option maxRecDepth 100000
noncomputable def hpB (n : Nat) (f : Nat → Nat → DV) (N : List Int) : Heap := [some (.cells [.row 3 0 0 (n + N.length) 1]), none, none, some (.row (n + N.length) 1 (appC n f N))]
noncomputable def adM : MCtr := fun args hp nx => match args, hp, nx with
  | [.ptr 0 0, .row 2 0 0 1 1], [some (.cells [.row 1 0 0 n 1]), some (.row n' 1 f), some (.cells [.d (.x (.int .i64 a))])], 3 => .need (RowI n n' f 1) (.ret (.tup [], hpB n f [a], 4))
  | [.ptr 0 0, .row 2 0 0 2 1], [some (.cells [.row 1 0 0 n 1]), some (.row n' 1 f), some (.cells [.d (.x (.int .i64 a)), .d (.x (.int .i64 b))])], 3 => .need (RowI n n' f 2) (.ret (.tup [], hpB n f [a, b], 4))
  | [.ptr 0 0, .row 2 0 0 4 1], [some (.cells [.row 1 0 0 n 1]), some (.row n' 1 f), some (.cells [.d (.x (.int .i64 a)), .d (.x (.int .i64 b)), .d (.x (.int .i64 c)), .d (.x (.int .i64 d))])], 3 => .need (RowI n n' f 4) (.ret (.tup [], hpB n f [a, b, c, d], 4))
  | [.ptr 0 0, .row 1 0 0 1 1], [some (.cells [.d (.x (.slice none 0 0))]), some (.cells [.d (.x (.int .i64 a))])], 2 => .ret (.tup [], [some (.cells [.row 2 0 0 1 1]), none, some (.row 1 1 (cellI [a]))], 3)
  | _, _, _ => .fail
theorem hpB_eq {n : Nat} {f : Nat → Nat → DV} (h : IsI n f) (N : List Int) : hpB n f N = [some (.cells [.row 3 0 0 (lsI n f ++ N).length 1]), none, none, some (.row (lsI n f ++ N).length 1 (cellI (lsI n f ++ N)))] := by
  unfold hpB
  rw [appC_lsI h, List.length_append, lsI_len]
theorem ad_leaf {L vs : List Int} {k : Nat} (hk : vs.length = k) {s : SV × AS} {g : Nat → Nat → DV} (hg : ∀ a, a < L.length + k → g a 0 = .x (.int .i64 ((L ++ vs).getD a 0)))
    (he : gcA 3 [(.cell (.base 0) 0, 3)] [0] [1, 2] 4 .nil ⟨[.ok s.1], s.2.hp, s.2.next, .nil⟩ = some ⟨[.ok (.tup [])], [some (.cells [.row 3 0 0 (L.length + k) 1]), none, none, some (.row (L.length + k) 1 g)], 4, .nil⟩) :
    Gc 3 ⟨[.ok s.1], s.2.hp, s.2.next, .nil⟩ ⟨[.ok (.tup [])], [some (.cells [.row 3 0 0 (L ++ vs).length 1]), none, none, some (.row (L ++ vs).length 1 (cellI (L ++ vs)))], 4, .nil⟩ := by
  refine (gcA_sound he).trans ?_
  refine gc_hp rfl rfl ⟨.inr ⟨_, _, rfl, by rw [List.length_append, hk], .refl _⟩, .inl rfl, .inl rfl, .inr ⟨_, _, rfl, rfl, row_apps hk hg⟩, trivial⟩
theorem ad_bl {n : Nat} {f : Nat → Nat → DV} (h : IsI n f) (cs : List SV) : hpLe [some (.cells [.row 1 0 0 n 1]), some (.row n 1 f), some (.cells cs)] (hpA (lsI n f) cs) :=
  ⟨.inr ⟨_, _, rfl, by rw [lsI_len], .refl _⟩, .inr ⟨_, _, rfl, rfl, row_lsI h⟩, .inr ⟨_, _, rfl, rfl, .refl _⟩, trivial⟩
theorem adM_ok : MuOK Try.prog 122 adM := by
  refine muOK_walk C00_ok D00_ok fun args hp nx r hr => ?_
  unfold adM at hr
  split at hr
  · rename_i n n' f a
    obtain ⟨⟨rfl, hI, hl⟩, rfl⟩ := hr
    have h1 := lsI_len n f
    refine ⟨_, _, 200, .nil, ad_bl hI [iv a], fun _ _ _ _ h => h, Sat.of_eq (LAd1_eq (lsI n f) a) ⟨?_⟩⟩
    unfold LAd1
    rw [hpB_eq hI]
    exact ⟨⟨by omega, by omega, by omega⟩, ad_leaf (vs := [a]) (g := LAd1_q1 (lsI n f) a) rfl (fun i hi => sel_apps (lsI n f) [a] i hi) (by kernel_rfl)⟩
  · rename_i n n' f a b
    obtain ⟨⟨rfl, hI, hl⟩, rfl⟩ := hr
    have h1 := lsI_len n f
    refine ⟨_, _, 200, .nil, ad_bl hI [iv a, iv b], fun _ _ _ _ h => h, Sat.of_eq (LAd2_eq (lsI n f) a b) ⟨?_⟩⟩
    unfold LAd2
    rw [hpB_eq hI]
    exact ⟨⟨by omega, by omega, by omega⟩, ad_leaf (vs := [a, b]) (g := LAd2_q1 (lsI n f) a b) rfl (fun i hi => sel_apps (lsI n f) [a, b] i hi) (by kernel_rfl)⟩
  · rename_i n n' f a b c d
    obtain ⟨⟨rfl, hI, hl⟩, rfl⟩ := hr
    have h1 := lsI_len n f
    refine ⟨_, _, 200, .nil, ad_bl hI [iv a, iv b, iv c, iv d], fun _ _ _ _ h => h, Sat.of_eq (LAd4_eq (lsI n f) a b c d) ⟨?_⟩⟩
    unfold LAd4
    rw [hpB_eq hI]
    exact ⟨⟨by omega, by omega, by omega⟩, ad_leaf (vs := [a, b, c, d]) (g := LAd4_q1 (lsI n f) a b c d) rfl (fun i hi => sel_apps (lsI n f) [a, b, c, d] i hi) (by kernel_rfl)⟩
  · rename_i a
    have hr := hr
    subst hr
    refine ⟨_, _, 200, .nil, hpLe_refl _, fun _ _ _ _ h => h, Sat.of_eq (LAn1_eq a) ⟨?_⟩⟩
    unfold LAn1
    refine ⟨⟨trivial, by omega, by omega⟩, (gcA_sound (n0 := 2) (roots := [(.cell (.base 0) 0, 2)]) (keep := [0]) (drop := [1]) (nx := 3) (h := .nil) (s' := ⟨[.ok (.tup [])], [some (.cells [.row 2 0 0 1 1]), none, some (.row 1 1 (LAn1_q1 a))], 3, .nil⟩) (by kernel_rfl)).trans ?_⟩
    refine gc_hp rfl rfl ⟨.inr ⟨_, _, rfl, rfl, .refl _⟩, .inl rfl, .inr ⟨_, _, rfl, rfl, .row fun i j hi hj => ?_⟩, trivial⟩
    obtain rfl : i = 0 := by omega
    rfl
  · exact hr.elim
noncomputable def selA : List SV → Heap → Option (List Nat) := fun args hp => match args with
  | [.ptr l 0, .row l2 _ _ _ _] => (match hget hp l with
    | some (.cells [.row l1 _ _ _ _]) => some [l, l1, l2]
    | some (.cells [.d (.x (.slice none 0 0))]) => some [l, l2]
    | _ => none)
  | _ => none
noncomputable def mAd : MCtr := mcB selA adM
theorem mAd_ok : MuOK Try.prog 122 mAd := mcB_ok adM_ok
end Go.Proofs.Ytpaejfeojdoikaa.Rm
namespace Go.Proofs.Ytpaejfeojdoikaa.Rm
open Go.Sx
set_option maxRecDepth 100000
noncomputable def hpV (L : List Int) : Heap := [some (.cells [.ptr 1 0]), some (.cells [.row 2 0 0 L.length 1]), some (.row L.length 1 (cellI L)), some (.cells [.fn (.func 181) [] [.ptr 0 0, .ptr 3 0]])]
noncomputable def hpW (L : List Int) : Heap := [some (.cells [.ptr 1 0]), some (.cells [.row 4 0 0 L.length 1]), none, some (.cells [.fn (.func 181) [] [.ptr 0 0, .ptr 3 0]]), some (.row L.length 1 (cellI L))]
noncomputable def hpX (m : Nat) (f : Nat → Nat → DV) (N : List Int) : Heap := [some (.cells [.ptr 1 0]), some (.cells [.row 4 0 0 (m + N.length) 1]), none, some (.cells [.fn (.func 181) [] [.ptr 0 0, .ptr 3 0]]), some (.row (m + N.length) 1 (appC m f N))]
noncomputable def selV : List SV → Heap → Option (List Nat) := fun args hp => match args with
  | [_, .ptr a 0, .ptr b 0] => (match hget hp a with
    | some (.cells [.ptr n 0]) => (match hget hp n with
      | some (.cells [.row l _ _ _ _]) => some [a, n, l, b]
      | _ => none)
    | _ => none)
  | _ => none
noncomputable def visM (d : Nat) : MCtr := fun args hp nx => match args, hp, nx with
  | [.agg [.d (.x (.int .i64 op)), .d (.x (.string nm)), .d (.x (.int .i64 kn)), .d (.x (.string kp)), .d (.x (.int .i64 wn)), .d (.x (.string wp)), .d (.ro n 7 a)], .ptr 0 0, .ptr 3 0],
    [some (.cells [.ptr 1 0]), some (.cells [.row 2 0 0 m 1]), some (.row m' 1 f), some (.cells [.fn (.func 181) [] [.ptr 0 0, .ptr 3 0]])], 4 =>
    .need (ExIs d n a) (.need (RowI m m' f (exH op nm kn kp wn wp n (argsD d n a)).length) (.ret (.tup [], hpX m f (exH op nm kn kp wn wp n (argsD d n a)), 5)))
  | _, _, _ => .fail
noncomputable def visC (d : Nat) : MCtr := mcB selV (visM d)
noncomputable def muV (d : Nat) : FuncId → Option MCtr := fun k => match k with
  | 122 => some mAd
  | 124 => some mTx
  | 181 => some (visC d)
  | _ => none
theorem muV_ok {d : Nat} (h : MuOK Try.prog 181 (visC d)) (k : FuncId) (m : MCtr) (hk : muV d k = some m) : MuOK Try.prog k m := by
  unfold muV at hk
  split at hk
  · cases hk; exact mAd_ok
  · cases hk; exact mTx_ok
  · cases hk; exact h
  · cases hk
noncomputable def CV (d : Nat) : Ctx := withMu Try.prog CA (muV d)
theorem CV_ok {d : Nat} (h : MuOK Try.prog 181 (visC d)) : CtxOK Try.prog (CV d) := withMu_ok CA_ok (muV_ok h)
noncomputable def DV (d : Nat) : Dr := drawnL Try.prog (CV d)
theorem DV_ok {d : Nat} (h : MuOK Try.prog 181 (visC d)) : DrOK Try.prog (CV d) (DV d) := drawnL_ok (CV_ok h) mixed
noncomputable def mu0 : FuncId → Option MCtr := fun k => match k with
  | 122 => some mAd
  | 124 => some mTx
  | _ => none
theorem mu0_ok (k : FuncId) (m : MCtr) (hk : mu0 k = some m) : MuOK Try.prog k m := by
  unfold mu0 at hk
  split at hk
  · cases hk; exact mAd_ok
  · cases hk; exact mTx_ok
  · cases hk
noncomputable def CV0 : Ctx := withMu Try.prog CA mu0
theorem CV0_ok : CtxOK Try.prog CV0 := withMu_ok CA_ok mu0_ok
noncomputable def DV0 : Dr := drawnL Try.prog CV0
theorem DV0_ok : DrOK Try.prog CV0 DV0 := drawnL_ok CV0_ok mixed
noncomputable def exA (d : Nat) (e : Xp) : SV := .agg [iv e.op, .d (.x (.string e.nm)), iv e.kn, .d (.x (.string e.kp)), iv e.wn, .d (.x (.string e.wp)), .d (.ro (nOf d e) 7 (subC d e))]
noncomputable def tVi (d : Nat) (e : Xp) (L : List Int) : Tree (SV × AS) := inlT Try.prog (CV d) (DV d) 200 181 [exA (d + 1) e, .ptr 0 0, .ptr 3 0] ⟨[], hpV L, 4, .nil⟩
noncomputable def LVi (d : Nat) (e : Xp) (L : List Int) : Tree (SV × AS) :=
 .need (RowI (List.length L) (List.length L) (cellI L) 1)
 (.need (RowI (List.length L + 1) (List.length L + 1) (appC (List.length L) (cellI L) [Xp.op e]) (List.length (textL (Array.toList (ByteArray.data (Xp.nm e))))))
 (.need
 (RowI (List.length L + 1 + List.length (textL (Array.toList (ByteArray.data (Xp.nm e))))) (List.length L + 1 + List.length (textL (Array.toList (ByteArray.data (Xp.nm e)))))
 (appC (List.length L + 1) (appC (List.length L) (cellI L) [Xp.op e]) (textL (Array.toList (ByteArray.data (Xp.nm e))))) 1)
 (.need
 (RowI (List.length L + 1 + List.length (textL (Array.toList (ByteArray.data (Xp.nm e)))) + 1) (List.length L + 1 + List.length (textL (Array.toList (ByteArray.data (Xp.nm e)))) + 1)
 (appC (List.length L + 1 + List.length (textL (Array.toList (ByteArray.data (Xp.nm e))))) (appC (List.length L + 1) (appC (List.length L) (cellI L) [Xp.op e]) (textL (Array.toList (ByteArray.data (Xp.nm e)))))
 [Xp.kn e])
 (List.length (textL (Array.toList (ByteArray.data (Xp.kp e))))))
 (.need
 (RowI (List.length L + 1 + List.length (textL (Array.toList (ByteArray.data (Xp.nm e)))) + 1 + List.length (textL (Array.toList (ByteArray.data (Xp.kp e)))))
 (List.length L + 1 + List.length (textL (Array.toList (ByteArray.data (Xp.nm e)))) + 1 + List.length (textL (Array.toList (ByteArray.data (Xp.kp e)))))
 (appC (List.length L + 1 + List.length (textL (Array.toList (ByteArray.data (Xp.nm e)))) + 1)
 (appC (List.length L + 1 + List.length (textL (Array.toList (ByteArray.data (Xp.nm e))))) (appC (List.length L + 1) (appC (List.length L) (cellI L) [Xp.op e]) (textL (Array.toList (ByteArray.data (Xp.nm e)))))
 [Xp.kn e])
 (textL (Array.toList (ByteArray.data (Xp.kp e)))))
 1)
 (.need
 (RowI (List.length L + 1 + List.length (textL (Array.toList (ByteArray.data (Xp.nm e)))) + 1 + List.length (textL (Array.toList (ByteArray.data (Xp.kp e)))) + 1)
 (List.length L + 1 + List.length (textL (Array.toList (ByteArray.data (Xp.nm e)))) + 1 + List.length (textL (Array.toList (ByteArray.data (Xp.kp e)))) + 1)
 (appC (List.length L + 1 + List.length (textL (Array.toList (ByteArray.data (Xp.nm e)))) + 1 + List.length (textL (Array.toList (ByteArray.data (Xp.kp e)))))
 (appC (List.length L + 1 + List.length (textL (Array.toList (ByteArray.data (Xp.nm e)))) + 1)
 (appC (List.length L + 1 + List.length (textL (Array.toList (ByteArray.data (Xp.nm e)))))
 (appC (List.length L + 1) (appC (List.length L) (cellI L) [Xp.op e]) (textL (Array.toList (ByteArray.data (Xp.nm e))))) [Xp.kn e])
 (textL (Array.toList (ByteArray.data (Xp.kp e)))))
 [Xp.wn e])
 (List.length (textL (Array.toList (ByteArray.data (Xp.wp e))))))
 (.need
 (RowI
 (List.length L + 1 + List.length (textL (Array.toList (ByteArray.data (Xp.nm e)))) + 1 + List.length (textL (Array.toList (ByteArray.data (Xp.kp e)))) + 1 +
 List.length (textL (Array.toList (ByteArray.data (Xp.wp e)))))
 (List.length L + 1 + List.length (textL (Array.toList (ByteArray.data (Xp.nm e)))) + 1 + List.length (textL (Array.toList (ByteArray.data (Xp.kp e)))) + 1 +
 List.length (textL (Array.toList (ByteArray.data (Xp.wp e)))))
 (appC (List.length L + 1 + List.length (textL (Array.toList (ByteArray.data (Xp.nm e)))) + 1 + List.length (textL (Array.toList (ByteArray.data (Xp.kp e)))) + 1)
 (appC (List.length L + 1 + List.length (textL (Array.toList (ByteArray.data (Xp.nm e)))) + 1 + List.length (textL (Array.toList (ByteArray.data (Xp.kp e)))))
 (appC (List.length L + 1 + List.length (textL (Array.toList (ByteArray.data (Xp.nm e)))) + 1)
 (appC (List.length L + 1 + List.length (textL (Array.toList (ByteArray.data (Xp.nm e)))))
 (appC (List.length L + 1) (appC (List.length L) (cellI L) [Xp.op e]) (textL (Array.toList (ByteArray.data (Xp.nm e))))) [Xp.kn e])
 (textL (Array.toList (ByteArray.data (Xp.kp e)))))
 [Xp.wn e])
 (textL (Array.toList (ByteArray.data (Xp.wp e)))))
 1)
 (.code (codeC (sub [(0 : Nat), (0 : Nat), (0 : Nat), (0 : Nat), (0 : Nat), (0 : Nat), (0 : Nat)] (tVi d e L))) (codeS (sub [(0 : Nat), (0 : Nat), (0 : Nat), (0 : Nat), (0 : Nat), (0 : Nat), (0 : Nat)] (tVi d e L)))
 (codeK (sub [(0 : Nat), (0 : Nat), (0 : Nat), (0 : Nat), (0 : Nat), (0 : Nat), (0 : Nat)] (tVi d e L))))))))))
theorem LVi_eq (d : Nat) (e : Xp) (L : List Int) : tVi d e L = LVi d e L := by kernel_rfl
noncomputable def fnV : SV := .fn (.func 181) [] [.ptr 0 0, .ptr 3 0]
noncomputable def stVi (d : Nat) (e : Xp) (n : Nat) (f : Nat → Nat → Sx.DV) (i : Int) : AS := ⟨[.unk, .unk, .ok (.ptr 3 0)] ++ List.replicate 27 .unk ++ [.ok (.d (.ro (nOf (d + 1) e) 7 (subC (d + 1) e))), .ok (iv (nOf (d + 1) e)), .ok (iv i)] ++ List.replicate 7 .unk, [some (.cells [.ptr 1 0]), some (.cells [.row 18 0 0 n 1]), none, some (.cells [fnV])] ++ List.replicate 14 none ++ [some (.row n 1 f)], 19, .nil⟩
noncomputable def invVi (d : Nat) (e : Xp) (L : List Int) (i : Int) : AS := stVi d e L.length (cellI L) i
noncomputable def bodyVi : Code := loopN (bodyOf Try.prog 181) 0
noncomputable def BVi (d : Nat) (e : Xp) (L : List Int) (i : Int) : Tree (Ex × AS) :=
  .ite (decide (i < (nOf (d + 1) e : Int)))
    (.need (0 ≤ i ∧ i < (nOf (d + 1) e : Int)) (.need (ExIs d (nOf d (e.args i.toNat)) (subC d (e.args i.toNat))) (.need (RowI L.length L.length (cellI L) (exN d (e.args i.toNat)).length)
      (.ret (.normal, stVi d e (L.length + (exN d (e.args i.toNat)).length) (appC L.length (cellI L) (exN d (e.args i.toNat))) (w64 (i + 1)))))))
    (.ret (.exit 0, stVi d e L.length (cellI L) i))
theorem BVi_eq (d : Nat) (e : Xp) (L : List Int) (i : Int) : cutT 18 [(.cell (.base 1) 0, 18)] [2, 30, 31, 32] ([2] ++ [4, 5, 6, 7, 8, 9, 10, 11, 12, 13, 14, 15, 16, 17]) 19 .nil (exec Try.prog (CV d) (DV d) 200 bodyVi (invVi d e L i)) = BVi d e L i := by kernel_rfl
noncomputable def KVi (d : Nat) (e : Xp) (L0 L : List Int) (i : Int) : Tree (SV × AS) :=
  .ret
  (SV.tup [],
   {
   tm :=
   [.unk, .unk, .ok (SV.ptr 3 0), .unk, .unk, .unk, .unk, .unk, .unk, .unk, .unk, .unk, .unk, .unk, .unk, .unk, .unk, .unk, .unk, .unk, .unk, .unk, .unk, .unk, .unk,
   .unk, .unk, .unk, .unk, .unk, .ok (SV.d (DV.ro (nOf (d + 1) e) 7 (subC (d + 1) e))), .ok (iv (↑(nOf (d + 1) e) : Int)), .ok (iv i), .unk, .unk, .unk, .unk, .unk, .unk,
   .unk],
   hp :=
   [some (.cells [SV.ptr 1 0]), some (.cells [SV.row 18 0 0 (List.length L) 1]), none,
   some (.cells [SV.fn (Fn.func 181) [] [SV.ptr 0 0, SV.ptr 3 0]]), none, none, none, none, none, none, none, none, none, none, none, none, none, none,
   some (.row (List.length L) 1 (cellI L))],
   next := 19, hint := .nil })
theorem KVi_eq (d : Nat) (e : Xp) (L0 L : List Int) (i : Int) : codeK (sub [0, 0, 0, 0, 0, 0, 0] (tVi d e L0)) (.exit 0) (invVi d e L i) = KVi d e L0 L i := by kernel_rfl
noncomputable def tV0 (e : Xp) (L : List Int) : Tree (SV × AS) := inlT Try.prog CV0 DV0 200 181 [exA 0 e, .ptr 0 0, .ptr 3 0] ⟨[], hpV L, 4, .u (.f .nil)⟩
noncomputable def LV0_q1 (e : Xp) : Bool :=
  decide ((0 : Int) < (↑0 : Int))
noncomputable def LV0 (e : Xp) (L : List Int) : Tree (SV × AS) :=
 .need (RowI (List.length L) (List.length L) (cellI L) 1)
 (.need (RowI (List.length L + 1) (List.length L + 1) (appC (List.length L) (cellI L) [Xp.op e]) (List.length (textL (Array.toList (ByteArray.data (Xp.nm e))))))
 (.need
 (RowI (List.length L + 1 + List.length (textL (Array.toList (ByteArray.data (Xp.nm e))))) (List.length L + 1 + List.length (textL (Array.toList (ByteArray.data (Xp.nm e)))))
 (appC (List.length L + 1) (appC (List.length L) (cellI L) [Xp.op e]) (textL (Array.toList (ByteArray.data (Xp.nm e))))) 1)
 (.need
 (RowI (List.length L + 1 + List.length (textL (Array.toList (ByteArray.data (Xp.nm e)))) + 1) (List.length L + 1 + List.length (textL (Array.toList (ByteArray.data (Xp.nm e)))) + 1)
 (appC (List.length L + 1 + List.length (textL (Array.toList (ByteArray.data (Xp.nm e))))) (appC (List.length L + 1) (appC (List.length L) (cellI L) [Xp.op e]) (textL (Array.toList (ByteArray.data (Xp.nm e)))))
 [Xp.kn e])
 (List.length (textL (Array.toList (ByteArray.data (Xp.kp e))))))
 (.need
 (RowI (List.length L + 1 + List.length (textL (Array.toList (ByteArray.data (Xp.nm e)))) + 1 + List.length (textL (Array.toList (ByteArray.data (Xp.kp e)))))
 (List.length L + 1 + List.length (textL (Array.toList (ByteArray.data (Xp.nm e)))) + 1 + List.length (textL (Array.toList (ByteArray.data (Xp.kp e)))))
 (appC (List.length L + 1 + List.length (textL (Array.toList (ByteArray.data (Xp.nm e)))) + 1)
 (appC (List.length L + 1 + List.length (textL (Array.toList (ByteArray.data (Xp.nm e))))) (appC (List.length L + 1) (appC (List.length L) (cellI L) [Xp.op e]) (textL (Array.toList (ByteArray.data (Xp.nm e)))))
 [Xp.kn e])
 (textL (Array.toList (ByteArray.data (Xp.kp e)))))
 1)
 (.need
 (RowI (List.length L + 1 + List.length (textL (Array.toList (ByteArray.data (Xp.nm e)))) + 1 + List.length (textL (Array.toList (ByteArray.data (Xp.kp e)))) + 1)
 (List.length L + 1 + List.length (textL (Array.toList (ByteArray.data (Xp.nm e)))) + 1 + List.length (textL (Array.toList (ByteArray.data (Xp.kp e)))) + 1)
 (appC (List.length L + 1 + List.length (textL (Array.toList (ByteArray.data (Xp.nm e)))) + 1 + List.length (textL (Array.toList (ByteArray.data (Xp.kp e)))))
 (appC (List.length L + 1 + List.length (textL (Array.toList (ByteArray.data (Xp.nm e)))) + 1)
 (appC (List.length L + 1 + List.length (textL (Array.toList (ByteArray.data (Xp.nm e)))))
 (appC (List.length L + 1) (appC (List.length L) (cellI L) [Xp.op e]) (textL (Array.toList (ByteArray.data (Xp.nm e))))) [Xp.kn e])
 (textL (Array.toList (ByteArray.data (Xp.kp e)))))
 [Xp.wn e])
 (List.length (textL (Array.toList (ByteArray.data (Xp.wp e))))))
 (.need
 (RowI
 (List.length L + 1 + List.length (textL (Array.toList (ByteArray.data (Xp.nm e)))) + 1 + List.length (textL (Array.toList (ByteArray.data (Xp.kp e)))) + 1 +
 List.length (textL (Array.toList (ByteArray.data (Xp.wp e)))))
 (List.length L + 1 + List.length (textL (Array.toList (ByteArray.data (Xp.nm e)))) + 1 + List.length (textL (Array.toList (ByteArray.data (Xp.kp e)))) + 1 +
 List.length (textL (Array.toList (ByteArray.data (Xp.wp e)))))
 (appC (List.length L + 1 + List.length (textL (Array.toList (ByteArray.data (Xp.nm e)))) + 1 + List.length (textL (Array.toList (ByteArray.data (Xp.kp e)))) + 1)
 (appC (List.length L + 1 + List.length (textL (Array.toList (ByteArray.data (Xp.nm e)))) + 1 + List.length (textL (Array.toList (ByteArray.data (Xp.kp e)))))
 (appC (List.length L + 1 + List.length (textL (Array.toList (ByteArray.data (Xp.nm e)))) + 1)
 (appC (List.length L + 1 + List.length (textL (Array.toList (ByteArray.data (Xp.nm e)))))
 (appC (List.length L + 1) (appC (List.length L) (cellI L) [Xp.op e]) (textL (Array.toList (ByteArray.data (Xp.nm e))))) [Xp.kn e])
 (textL (Array.toList (ByteArray.data (Xp.kp e)))))
 [Xp.wn e])
 (textL (Array.toList (ByteArray.data (Xp.wp e)))))
 1)
 (.need (LV0_q1 e = false)
 (.ret
 (SV.tup [],
 {
 tm :=
 [.ok
 (SV.agg
 [iv (Xp.op e), SV.d (DV.x (.string (Xp.nm e))), iv (Xp.kn e), SV.d (DV.x (.string (Xp.kp e))), iv (Xp.wn e), SV.d (DV.x (.string (Xp.wp e))),
 SV.d (DV.ro 0 7 (subC 0 e))]),
 .ok (SV.ptr 0 0), .ok (SV.ptr 3 0), .ok (SV.ptr 4 0), .unk, .unk, .ok (SV.ptr 1 0),
 .ok (SV.ptr 4 0), .ok (iv (Xp.op e)), .ok (SV.row 5 0 0 1 1), .ok (SV.tup []), .ok (SV.ptr 1 0),
 .ok (SV.ptr 4 1), .ok (SV.d (DV.x (.string (Xp.nm e)))), .ok (SV.tup []), .ok (SV.ptr 1 0), .ok (SV.ptr 4 2),
 .ok (SV.agg [iv (Xp.kn e), SV.d (DV.x (.string (Xp.kp e)))]), .ok (SV.tup []), .ok (SV.ptr 1 0), .ok (SV.ptr 4 4),
 .ok (SV.agg [iv (Xp.wn e), SV.d (DV.x (.string (Xp.wp e)))]), .ok (SV.tup []), .ok (SV.ptr 1 0), .ok (SV.ptr 4 6),
 .ok (SV.d (DV.ro 0 7 (subC 0 e))), .ok (iv (↑0 : Int)), .ok (SV.row 16 0 0 1 1), .ok (SV.tup []),
 .ok (SV.ptr 4 6), .ok (SV.d (DV.ro 0 7 (subC 0 e))), .ok (iv (↑0 : Int)), .ok (iv (0 : Int)), .ok (bv (LV0_q1 e)), .unk, .unk,
 .unk, .unk, .unk, .unk],
 hp :=
 [some (.cells [SV.ptr 1 0]),
 some
 (.cells
 [SV.row 17 0 0
 (List.length L + 1 + List.length (textL (Array.toList (ByteArray.data (Xp.nm e)))) + 1 + List.length (textL (Array.toList (ByteArray.data (Xp.kp e)))) + 1 +
 List.length (textL (Array.toList (ByteArray.data (Xp.wp e)))) +
 1)
 1]),
 none, some (.cells [SV.fn (Fn.func 181) [] [SV.ptr 0 0, SV.ptr 3 0]]),
 some
 (.cells
 [iv (Xp.op e), SV.d (DV.x (.string (Xp.nm e))), iv (Xp.kn e), SV.d (DV.x (.string (Xp.kp e))), iv (Xp.wn e), SV.d (DV.x (.string (Xp.wp e))),
 SV.d (DV.ro 0 7 (subC 0 e))]),
 none, none, none, some (.cells [iv (Xp.kn e), SV.d (DV.x (.string (Xp.kp e)))]), none, none, none, some (.cells [iv (Xp.wn e), SV.d (DV.x (.string (Xp.wp e)))]), none, none, none, none,
 some
 (.row
 (List.length L + 1 + List.length (textL (Array.toList (ByteArray.data (Xp.nm e)))) + 1 + List.length (textL (Array.toList (ByteArray.data (Xp.kp e)))) + 1 +
 List.length (textL (Array.toList (ByteArray.data (Xp.wp e)))) +
 1)
 1
 (appC
 (List.length L + 1 + List.length (textL (Array.toList (ByteArray.data (Xp.nm e)))) + 1 + List.length (textL (Array.toList (ByteArray.data (Xp.kp e)))) + 1 +
 List.length (textL (Array.toList (ByteArray.data (Xp.wp e)))))
 (appC (List.length L + 1 + List.length (textL (Array.toList (ByteArray.data (Xp.nm e)))) + 1 + List.length (textL (Array.toList (ByteArray.data (Xp.kp e)))) + 1)
 (appC (List.length L + 1 + List.length (textL (Array.toList (ByteArray.data (Xp.nm e)))) + 1 + List.length (textL (Array.toList (ByteArray.data (Xp.kp e)))))
 (appC (List.length L + 1 + List.length (textL (Array.toList (ByteArray.data (Xp.nm e)))) + 1)
 (appC (List.length L + 1 + List.length (textL (Array.toList (ByteArray.data (Xp.nm e)))))
 (appC (List.length L + 1) (appC (List.length L) (cellI L) [Xp.op e]) (textL (Array.toList (ByteArray.data (Xp.nm e))))) [Xp.kn e])
 (textL (Array.toList (ByteArray.data (Xp.kp e)))))
 [Xp.wn e])
 (textL (Array.toList (ByteArray.data (Xp.wp e)))))
 [(↑0 : Int)])),
 none, none, none],
 next := 18, hint := .nil })))))))))
theorem LV0_eq (e : Xp) (L : List Int) : tV0 e L = LV0 e L := by kernel_rfl
end Go.Proofs.Ytpaejfeojdoikaa.Rm
namespace Go.Sx
theorem exH_app (op : Int) (nm : ByteArray) (kn : Int) (kp : ByteArray) (wn : Int) (wp : ByteArray) (n : Nat) (A : List Int) : exH op nm kn kp wn wp n A = exH op nm kn kp wn wp n [] ++ A := by
  unfold exH
  simp [List.append_assoc]
theorem flat_le {f : Nat → List Int} {i n : Nat} (h : i ≤ n) : ((List.range i).flatMap f).length ≤ ((List.range n).flatMap f).length := by
  obtain ⟨k, rfl⟩ : ∃ k, n = i + k := ⟨n - i, by omega⟩
  rw [List.range_add, List.flatMap_append, List.length_append]; omega
theorem flat_succ (f : Nat → List Int) (i : Nat) : (List.range (i + 1)).flatMap f = (List.range i).flatMap f ++ f i := by
  rw [List.range_succ, List.flatMap_append]; simp
theorem nOf_mk (d : Nat) (op : Int) (nm : ByteArray) (kn : Int) (kp : ByteArray) (wn : Int) (wp : ByteArray) (e : Xp) : nOf d (.mk op nm kn kp wn wp e.n e.args) = nOf d e := by cases d <;> rfl
theorem subC_mk (d : Nat) (op : Int) (nm : ByteArray) (kn : Int) (kp : ByteArray) (wn : Int) (wp : ByteArray) (e : Xp) : subC d (.mk op nm kn kp wn wp e.n e.args) = subC d e := by cases d <;> rfl
end Go.Sx
namespace Go.Proofs.Ytpaejfeojdoikaa.Rm
open Go.Sx
set_option maxRecDepth 100000
theorem app7 (L A B C D E F G : List Int) : appC (L.length + A.length + B.length + C.length + D.length + E.length + F.length) (appC (L.length + A.length + B.length + C.length + D.length + E.length) (appC (L.length + A.length + B.length + C.length + D.length) (appC (L.length + A.length + B.length + C.length) (appC (L.length + A.length + B.length) (appC (L.length + A.length) (appC L.length (cellI L) A) B) C) D) E) F) G = cellI (L ++ (A ++ (B ++ (C ++ (D ++ (E ++ (F ++ G))))))) := by
  rw [appC_cellI, ← List.length_append, appC_cellI, ← List.length_append, appC_cellI, ← List.length_append, appC_cellI, ← List.length_append, appC_cellI, ← List.length_append, appC_cellI, ← List.length_append, appC_cellI]
  simp only [List.append_assoc]
theorem len7 (L A B C D E F G : List Int) : L.length + A.length + B.length + C.length + D.length + E.length + F.length + G.length = (L ++ (A ++ (B ++ (C ++ (D ++ (E ++ (F ++ G))))))).length := by
  simp only [List.length_append]; omega
theorem rowI_c {L : List Int} {m : Nat} (h : L.length + m ≤ 1000000000) : RowI L.length L.length (cellI L) m := ⟨rfl, isI_cellI L, h⟩
theorem rowI_a {n m k : Nat} {f : Nat → Nat → Sx.DV} {N : List Int} (h : k + m ≤ 1000000000) : RowI k k (appC n f N) m := ⟨rfl, isI_appC _ _ _ _, h⟩
theorem exH_eq (e : Xp) (n : Nat) : exH e.op e.nm e.kn e.kp e.wn e.wp n [] = [e.op] ++ (textL e.nm.data.toList ++ ([e.kn] ++ (textL e.kp.data.toList ++ ([e.wn] ++ (textL e.wp.data.toList ++ [(n : Int)]))))) := rfl
theorem exH_len (e : Xp) (n : Nat) : (exH e.op e.nm e.kn e.kp e.wn e.wp n []).length = 4 + (textL e.nm.data.toList).length + (textL e.kp.data.toList).length + (textL e.wp.data.toList).length := by
  rw [exH_eq]; simp only [List.length_append, List.length_singleton]; omega
theorem vi_sat {d : Nat} {e : Xp} {L : List Int} (h : MuOK Try.prog 181 (visC d)) (hL : L.length + (exN (d + 1) e).length ≤ 1000000000) :
    Sat Try.prog (tVi d e L) fun q => Gc 4 ⟨[.ok q.1], q.2.hp, q.2.next, .nil⟩ ⟨[.ok (.tup [])], hpW (L ++ exN (d + 1) e), 5, .nil⟩ := by
  have eN : exN (d + 1) e = exH e.op e.nm e.kn e.kp e.wn e.wp e.n [] ++ (List.range e.n).flatMap (fun i => exN d (e.args i)) := exH_app _ _ _ _ _ _ _ _
  have hl := exH_len e e.n
  rw [eN, List.length_append, hl] at hL
  constructor
  rw [LVi_eq]; unfold LVi
  refine ⟨rowI_c (by omega), rowI_a (by omega), rowI_a (by omega), rowI_a (by omega), rowI_a (by omega), rowI_a (by omega), rowI_a (by omega), ?_⟩
  obtain ⟨H, hH⟩ : ∃ H, exH e.op e.nm e.kn e.kp e.wn e.wp e.n [] = H := ⟨_, rfl⟩
  rw [hH] at eN hl
  refine code_satS (CV_ok h) (DV_ok h) (n := 200) (n0 := 18) (nx := 19) (roots := [(.cell (.base 1) 0, 18)]) (keep := [2, 30, 31, 32]) (drop := [2] ++ [4, 5, 6, 7, 8, 9, 10, 11, 12, 13, 14, 15, 16, 17]) (h := .nil) (c := codeC (sub [0, 0, 0, 0, 0, 0, 0] (tVi d e L))) (st := codeS (sub [0, 0, 0, 0, 0, 0, 0] (tVi d e L))) (k := codeK (sub [0, 0, 0, 0, 0, 0, 0] (tVi d e L))) (body := bodyVi) (by kernel_rfl) (by kernel_rfl)
    (fun q t => ∃ i : Nat, q = e.n - i ∧ i ≤ e.n ∧ t = invVi d e (L ++ (H ++ (List.range i).flatMap (fun i => exN d (e.args i)))) i)
    (fun x t => x = .exit 0 ∧ ∃ i, t = invVi d e (L ++ exN (d + 1) e) i)
    ⟨_, _, ⟨0, rfl, by omega, rfl⟩, ?_⟩ ?_ ?_
  · refine (entA_sound (s' := stVi d e (L.length + [e.op].length + (textL e.nm.data.toList).length + [e.kn].length + (textL e.kp.data.toList).length + [e.wn].length + (textL e.wp.data.toList).length + [(e.n : Int)].length)
      (appC (L.length + [e.op].length + (textL e.nm.data.toList).length + [e.kn].length + (textL e.kp.data.toList).length + [e.wn].length + (textL e.wp.data.toList).length) (appC (L.length + [e.op].length + (textL e.nm.data.toList).length + [e.kn].length + (textL e.kp.data.toList).length + [e.wn].length) (appC (L.length + [e.op].length + (textL e.nm.data.toList).length + [e.kn].length + (textL e.kp.data.toList).length) (appC (L.length + [e.op].length + (textL e.nm.data.toList).length + [e.kn].length) (appC (L.length + [e.op].length + (textL e.nm.data.toList).length) (appC (L.length + [e.op].length) (appC L.length (cellI L) [e.op]) (textL e.nm.data.toList)) [e.kn]) (textL e.kp.data.toList)) [e.wn]) (textL e.wp.data.toList)) [(e.n : Int)]) 0)
      (roots := [(.cell (.base 1) 0, 18)]) (keep := [2, 30, 31, 32]) (drop := [2] ++ [4, 5, 6, 7, 8, 9, 10, 11, 12, 13, 14, 15, 16]) (nx := 19) (h := .nil) (by kernel_rfl)).trans ?_
    rw [app7, len7, ← exH_eq, hH]
    rw [show (List.range 0).flatMap (fun i => exN d (e.args i)) = [] from rfl, List.append_nil]
    exact Gc.refl _ _
  · rintro q t ⟨i, rfl, hi, rfl⟩
    have hfl := flat_le (f := fun i => exN d (e.args i)) hi
    generalize hM : L ++ (H ++ (List.range i).flatMap (fun i => exN d (e.args i))) = M
    have hMl : M.length = L.length + (H.length + ((List.range i).flatMap (fun i => exN d (e.args i))).length) := by rw [← hM]; simp
    refine Sat.of_eq (BVi_eq d e M i) ⟨?_⟩
    unfold BVi
    have hn : nOf (d + 1) e = e.n := rfl
    rw [hn]
    refine ⟨fun h1 => ?_, fun h1 => ?_⟩
    · simp only [decide_eq_true_eq] at h1
      have hf2 := flat_le (f := fun i => exN d (e.args i)) (i := i + 1) (n := e.n) (by omega)
      rw [flat_succ, List.length_append] at hf2
      have hnz : e.n ≤ 1000000000 := by
        have : ∀ k, k ≤ ((List.range k).flatMap (fun i => exN d (e.args i))).length := by
          intro k
          induction k with
          | zero => simp
          | succ k ih =>
            rw [flat_succ, List.length_append]
            have : 1 ≤ (exN d (e.args k)).length := by unfold exN exH; simp
            omega
        have := this e.n
        omega
      rw [Int.toNat_natCast, w64_of (n := (i : Int) + 1) (by omega) (by omega)]
      refine ⟨by omega, ⟨e.args i, rfl, fun _ _ _ _ => rfl⟩, rowI_c (by omega), e.n - (i + 1), _, by omega, ⟨i + 1, rfl, by omega, rfl⟩, ?_⟩
      have e1 : L ++ (H ++ (List.range (i + 1)).flatMap (fun i => exN d (e.args i))) = M ++ exN d (e.args i) := by
        rw [← hM, flat_succ]; simp only [List.append_assoc]
      rw [e1, appC_cellI, ← List.length_append]
      exact Gc.refl _ _
    · simp only [decide_eq_false_iff_not] at h1
      obtain rfl : i = e.n := by omega
      have e1 : M = L ++ exN (d + 1) e := by rw [← hM, eN]
      rw [e1]
      exact ⟨_, ⟨rfl, (e.n : Int), rfl⟩, Gc.refl _ _⟩
  · rintro x t ⟨rfl, i, rfl⟩
    refine Sat.of_eq (KVi_eq d e L (L ++ exN (d + 1) e) i) ⟨?_⟩
    generalize L ++ exN (d + 1) e = M
    unfold KVi
    exact gcA_sound (n0 := 4) (roots := [(.cell (.base 1) 0, 4)]) (keep := [0]) (drop := [2]) (nx := 5) (h := .nil)
      (s' := ⟨[.ok (.tup [])], hpW M, 5, .nil⟩) (by kernel_rfl)
theorem v0_sat {e : Xp} {L : List Int} (hL : L.length + (exN 0 e).length ≤ 1000000000) :
    Sat Try.prog (tV0 e L) fun q => Gc 4 ⟨[.ok q.1], q.2.hp, q.2.next, .nil⟩ ⟨[.ok (.tup [])], hpW (L ++ exN 0 e), 5, .nil⟩ := by
  have eN : exN 0 e = exH e.op e.nm e.kn e.kp e.wn e.wp 0 [] := rfl
  have hl := exH_len e 0
  rw [eN, hl] at hL
  refine Sat.of_eq (LV0_eq e L) ⟨?_⟩
  unfold LV0
  refine ⟨rowI_c (by omega), rowI_a (by omega), rowI_a (by omega), rowI_a (by omega), rowI_a (by omega), rowI_a (by omega), rowI_a (by omega), rfl, ?_⟩
  refine (gcA_sound (n0 := 4) (roots := [(.cell (.base 1) 0, 4)]) (keep := [0]) (drop := [2]) (nx := 5) (h := .nil)
      (s' := ⟨[.ok (.tup [])], [some (.cells [.ptr 1 0]), some (.cells [.row 4 0 0 (L.length + [e.op].length + (textL e.nm.data.toList).length + [e.kn].length + (textL e.kp.data.toList).length + [e.wn].length + (textL e.wp.data.toList).length + [((0 : Nat) : Int)].length) 1]), none, some (.cells [fnV]), some (.row (L.length + [e.op].length + (textL e.nm.data.toList).length + [e.kn].length + (textL e.kp.data.toList).length + [e.wn].length + (textL e.wp.data.toList).length + [((0 : Nat) : Int)].length) 1
        (appC (L.length + [e.op].length + (textL e.nm.data.toList).length + [e.kn].length + (textL e.kp.data.toList).length + [e.wn].length + (textL e.wp.data.toList).length) (appC (L.length + [e.op].length + (textL e.nm.data.toList).length + [e.kn].length + (textL e.kp.data.toList).length + [e.wn].length) (appC (L.length + [e.op].length + (textL e.nm.data.toList).length + [e.kn].length + (textL e.kp.data.toList).length) (appC (L.length + [e.op].length + (textL e.nm.data.toList).length + [e.kn].length) (appC (L.length + [e.op].length + (textL e.nm.data.toList).length) (appC (L.length + [e.op].length) (appC L.length (cellI L) [e.op]) (textL e.nm.data.toList)) [e.kn]) (textL e.kp.data.toList)) [e.wn]) (textL e.wp.data.toList)) [((0 : Nat) : Int)]))], 5, .nil⟩) (by kernel_rfl)).trans ?_
  rw [app7, len7, ← exH_eq, ← eN]
  exact Gc.refl _ _
theorem hpX_W {m : Nat} {f : Nat → Nat → Sx.DV} (h : IsI m f) (N : List Int) : hpX m f N = hpW (lsI m f ++ N) := by
  unfold hpX hpW
  rw [appC_lsI h, List.length_append, lsI_len]
theorem vis_bl {m : Nat} {f : Nat → Nat → Sx.DV} (h : IsI m f) : hpLe [some (.cells [.ptr 1 0]), some (.cells [.row 2 0 0 m 1]), some (.row m 1 f), some (.cells [.fn (.func 181) [] [.ptr 0 0, .ptr 3 0]])] (hpV (lsI m f)) :=
  ⟨.inr ⟨_, _, rfl, rfl, .refl _⟩, .inr ⟨_, _, rfl, by rw [lsI_len], .refl _⟩, .inr ⟨_, _, rfl, rfl, row_lsI h⟩, .inr ⟨_, _, rfl, rfl, .refl _⟩, trivial⟩
theorem exA_rep {w : World} {μ : Mu} {F : Nat → Prop} {v : Value} {op : Int} {nm : ByteArray} {kn : Int} {kp : ByteArray} {wn : Int} {wp : ByteArray} {n : Nat} {a b : Nat → Nat → Sx.DV} (hab : ∀ i j, i < n → j < 7 → a i j = b i j)
    (h : Rep w μ F v (.agg [iv op, .d (.x (.string nm)), iv kn, .d (.x (.string kp)), iv wn, .d (.x (.string wp)), .d (.ro n 7 a)])) : Rep w μ F v (.agg [iv op, .d (.x (.string nm)), iv kn, .d (.x (.string kp)), iv wn, .d (.x (.string wp)), .d (.ro n 7 b)]) := by
  cases h with
  | agg cs _ hl h =>
    refine .agg cs _ hl fun i hi => ?_
    have h0 := h i hi
    match i, hi with
    | 0, _ => exact h0
    | 1, _ => exact h0
    | 2, _ => exact h0
    | 3, _ => exact h0
    | 4, _ => exact h0
    | 5, _ => exact h0
    | 6, _ => exact .d (leD_sound (rep_d h0) ⟨rfl, rfl, fun i j hi hj => by rw [hab i j hi hj]⟩)
theorem exA_reps {w : World} {μ : Mu} {F : Nat → Prop} {vs : Array Value} {A B p q : SV} (h : ∀ v, Rep w μ F v A → Rep w μ F v B) (hr : Reps w μ F vs [A, p, q]) : Reps w μ F vs [B, p, q] := by
  obtain ⟨h1, h2⟩ := hr
  refine ⟨h1, fun i hi => ?_⟩
  have h0 := h2 i hi
  match i, hi with
  | 0, _ => exact h _ h0
  | 1, _ => exact h0
  | 2, _ => exact h0
theorem vis_step {C : Ctx} {D : Dr} (hC : CtxOK Try.prog C) (hD : DrOK Try.prog C D) {d : Nat} {hint : Hint}
    (h : ∀ e L, L.length + (exN d e).length ≤ 1000000000 → Sat Try.prog (inlT Try.prog C D 200 181 [exA d e, .ptr 0 0, .ptr 3 0] ⟨[], hpV L, 4, hint⟩) fun q => Gc 4 ⟨[.ok q.1], q.2.hp, q.2.next, .nil⟩ ⟨[.ok (.tup [])], hpW (L ++ exN d e), 5, .nil⟩) : MuOK Try.prog 181 (visM d) := by
  refine muOK_walk hC hD fun args hp nx r hr => ?_
  unfold visM at hr
  split at hr
  · rename_i op nm kn kp wn wp n a m m' f
    obtain ⟨⟨e, hn, ha⟩, ⟨rfl, hI, hl⟩, rfl⟩ := hr
    have e1 : exN d (.mk op nm kn kp wn wp e.n e.args) = exH op nm kn kp wn wp n (argsD d n a) := by
      unfold exN argsN
      rw [nOf_mk, subC_mk, hn]
      show exH op nm kn kp wn wp n _ = _
      rw [argsD_congr ha]
    have k := h (.mk op nm kn kp wn wp e.n e.args) (lsI m f) (by rw [lsI_len, e1]; exact hl)
    rw [e1] at k
    rw [hpX_W hI]
    refine ⟨_, _, 200, hint, vis_bl hI, fun w μ F vs hv => exA_reps (fun v hv => ?_) hv, k⟩
    unfold exA
    rw [nOf_mk, subC_mk, hn]
    exact exA_rep ha hv
  · exact hr.elim
theorem vis_okM : ∀ d, MuOK Try.prog 181 (visM d)
  | 0 => vis_step CV0_ok DV0_ok (hint := .u (.f .nil)) fun e L hL => v0_sat hL
  | d + 1 => vis_step (CV_ok (mcB_ok (vis_okM d))) (DV_ok (mcB_ok (vis_okM d))) (hint := .nil) fun e L hL => vi_sat (mcB_ok (vis_okM d)) hL
theorem argsD_le : ∀ {d m n : Nat} {a : Nat → Nat → Sx.DV}, d ≤ m → ExIs d n a → argsD m n a = argsD d n a
  | 0, m, n, a, _, ⟨e, h1, _⟩ => by
    have h1 : 0 = n := h1
    subst h1
    cases m <;> rfl
  | d + 1, 0, n, a, h, _ => by omega
  | d + 1, m + 1, n, a, h, ⟨e, h1, h2⟩ => by
    show (List.range n).flatMap _ = (List.range n).flatMap _
    rw [List.flatMap_def, List.flatMap_def]
    congr 1
    refine List.map_congr_left fun i hi => ?_
    have hi := List.mem_range.1 hi
    have e6 : a i 6 = .ro (nOf d (e.args i)) 7 (subC d (e.args i)) := by rw [h2 i 6 hi (by decide)]; rfl
    rw [e6]
    show exH _ _ _ _ _ _ (nOf d (e.args i)) (argsD m (nOf d (e.args i)) (subC d (e.args i))) = exH _ _ _ _ _ _ (nOf d (e.args i)) (argsD d (nOf d (e.args i)) (subC d (e.args i)))
    rw [argsD_le (d := d) (m := m) (by omega) ⟨e.args i, rfl, fun _ _ _ _ => rfl⟩]
def _root_.Go.Proofs.ExAny (n : Nat) (a : Nat → Nat → Sx.DV) : Prop := ∃ d, d ≤ 8 ∧ ExIs d n a
noncomputable def visX : MCtr := fun args hp nx => match args, hp, nx with
  | [.agg [.d (.x (.int .i64 op)), .d (.x (.string nm)), .d (.x (.int .i64 kn)), .d (.x (.string kp)), .d (.x (.int .i64 wn)), .d (.x (.string wp)), .d (.ro n 7 a)], .ptr 0 0, .ptr 3 0],
    [some (.cells [.ptr 1 0]), some (.cells [.row 2 0 0 m 1]), some (.row m' 1 f), some (.cells [.fn (.func 181) [] [.ptr 0 0, .ptr 3 0]])], 4 =>
    .need (ExAny n a) (.need (RowI m m' f (exH op nm kn kp wn wp n (argsD 8 n a)).length) (.ret (.tup [], hpX m f (exH op nm kn kp wn wp n (argsD 8 n a)), 5)))
  | _, _, _ => .fail
theorem visX_ok : MuOK Try.prog 181 visX := by
  intro args hp nx r hr
  unfold visX at hr
  split at hr
  · rename_i op nm kn kp wn wp n a m m' f
    obtain ⟨⟨d, hd, he⟩, h2, rfl⟩ := hr
    rw [argsD_le hd he] at h2
    refine vis_okM d _ _ _ _ ?_
    rw [argsD_le hd he]
    exact ⟨he, h2, rfl⟩
  · exact hr.elim
noncomputable def mVis : MCtr := mcB selV visX
theorem mVis_ok : MuOK Try.prog 181 mVis := mcB_ok visX_ok
end Go.Proofs.Ytpaejfeojdoikaa.Rm
namespace Go.Proofs.Ytpaejfeojdoikaa.Rm
open Go.Sx
set_option maxRecDepth 100000
noncomputable def muF : FuncId → Option MCtr := fun k => match k with
  | 122 => some mAd
  | 124 => some mTx
  | 181 => some mVis
  | _ => none
theorem muF_ok (k : FuncId) (m : MCtr) (hk : muF k = some m) : MuOK Try.prog k m := by
  unfold muF at hk
  split at hk
  · cases hk; exact mAd_ok
  · cases hk; exact mTx_ok
  · cases hk; exact mVis_ok
  · cases hk
noncomputable def CF1 : Ctx := withMu Try.prog CA muF
theorem CF1_ok : CtxOK Try.prog CF1 := withMu_ok CA_ok muF_ok
noncomputable def DF1 : Dr := drawnL Try.prog CF1
theorem DF1_ok : DrOK Try.prog CF1 DF1 := drawnL_ok CF1_ok mixed
noncomputable def xS (op : Int) (nm : ByteArray) (kn : Int) (kp : ByteArray) (wn : Int) (wp : ByteArray) (n : Nat) (a : Nat → Nat → Sx.DV) : List SV := [iv op, .d (.x (.string nm)), iv kn, .d (.x (.string kp)), iv wn, .d (.x (.string wp)), .d (.ro n 7 a)]
noncomputable def tEx (L : List Int) (cs : List SV) (k : Nat) (h : Hint) : Tree (SV × AS) := inlT Try.prog CF1 DF1 200 170 [.ptr 0 0, .row 2 0 0 k 7] ⟨[], hpA L cs, 3, h⟩
noncomputable def LEx1 (L : List Int) (op : Int) (nm : ByteArray) (kn : Int) (kp : ByteArray) (wn : Int) (wp : ByteArray) (n : Nat) (q : Nat → Nat → Sx.DV) : Tree (SV × AS) :=
 .need (true = true)
 (.need ((0 : Int) ≤ (0 : Int) ∧ (0 : Int) < (1 : Int))
 (.need (0 < 1)
 (.need (ExAny n q)
 (.need
 (RowI (List.length L) (List.length L) (cellI L)
 (List.length
 (exH op (List.getD [nm] ((0 : Nat) + Int.toNat (0 : Int)) ByteArray.empty) kn (List.getD [kp] ((0 : Nat) + Int.toNat (0 : Int)) ByteArray.empty) wn (List.getD [wp] ((0 : Nat) + Int.toNat (0 : Int)) ByteArray.empty) n
 (argsD 8 n q))))
 (.need (false = false)
 (.ret
 (SV.tup [],
 {
 tm :=
 [.ok (SV.ptr 0 0), .ok (SV.row 2 0 0 1 7), .ok (SV.ptr 3 0), .unk, .ok (SV.ptr 4 0), .unk,
 .ok (SV.ptr 6 0), .ok (SV.fn (Fn.func 181) [] [SV.ptr 3 0, SV.ptr 4 0]),
 .ok (SV.row 2 0 0 1 7), .ok (iv (1 : Int)), .ok (iv (1 : Int)), .ok (bv false),
 .ok (SV.pix 2 0 1 7 0 0),
 .ok
 (SV.agg
 [iv op, SV.d (DV.x (.string (List.getD [nm] 0 (strB [])))), iv kn, SV.d (DV.x (.string (List.getD [kp] 0 (strB [])))), iv wn,
 SV.d (DV.x (.string (List.getD [wp] 0 (strB [])))), SV.d (DV.ro n 7 q)]),
 .ok (SV.fn (Fn.func 181) [] [SV.ptr 3 0, SV.ptr 4 0]),
 .ok
 (SV.agg
 [iv op, SV.d (DV.x (.string (List.getD [nm] 0 (strB [])))), iv kn, SV.d (DV.x (.string (List.getD [kp] 0 (strB [])))), iv wn,
 SV.d (DV.x (.string (List.getD [wp] 0 (strB [])))), SV.d (DV.ro n 7 q)]),
 .ok (SV.tup []), .ok (iv (1 : Int))],
 hp :=
 [some
 (.cells
 [SV.row 8 0 0
 (List.length L +
 List.length
 (exH op (List.getD [nm] ((0 : Nat) + Int.toNat (0 : Int)) ByteArray.empty) kn (List.getD [kp] ((0 : Nat) + Int.toNat (0 : Int)) ByteArray.empty) wn
 (List.getD [wp] ((0 : Nat) + Int.toNat (0 : Int)) ByteArray.empty) n (argsD 8 n q)))
 1]),
 none, some (.cells [iv op, SV.d (DV.x (.string nm)), iv kn, SV.d (DV.x (.string kp)), iv wn, SV.d (DV.x (.string wp)), SV.d (DV.ro n 7 q)]),
 some (.cells [SV.ptr 0 0]), some (.cells [SV.fn (Fn.func 181) [] [SV.ptr 3 0, SV.ptr 4 0]]), none,
 some
 (.cells
 [iv op, SV.d (DV.x (.string (List.getD [nm] 0 (strB [])))), iv kn, SV.d (DV.x (.string (List.getD [kp] 0 (strB [])))), iv wn,
 SV.d (DV.x (.string (List.getD [wp] 0 (strB [])))), SV.d (DV.ro n 7 q)]),
 none,
 some
 (.row
 (List.length L +
 List.length
 (exH op (List.getD [nm] ((0 : Nat) + Int.toNat (0 : Int)) ByteArray.empty) kn (List.getD [kp] ((0 : Nat) + Int.toNat (0 : Int)) ByteArray.empty) wn
 (List.getD [wp] ((0 : Nat) + Int.toNat (0 : Int)) ByteArray.empty) n (argsD 8 n q)))
 1
 (appC (List.length L) (cellI L)
 (exH op (List.getD ((fun x => nm :: x) []) ((0 : Nat) + Int.toNat (0 : Int)) ByteArray.empty) kn (List.getD ((fun x => kp :: x) []) ((0 : Nat) + Int.toNat (0 : Int)) ByteArray.empty) wn
 (List.getD ((fun x => wp :: x) []) ((0 : Nat) + Int.toNat (0 : Int)) ByteArray.empty) n (argsD 8 n q)))),
 none, none, none, none],
 next := 9, hint := .nil })))))))
theorem LEx1_eq (L : List Int) (op : Int) (nm : ByteArray) (kn : Int) (kp : ByteArray) (wn : Int) (wp : ByteArray) (n : Nat) (q : Nat → Nat → Sx.DV) : tEx L (xS op nm kn kp wn wp n q) 1 (.u (.t (.u (.f .nil)))) = LEx1 L op nm kn kp wn wp n q := by kernel_rfl
noncomputable def LEx2 (L : List Int) (op : Int) (nm : ByteArray) (kn : Int) (kp : ByteArray) (wn : Int) (wp : ByteArray) (n : Nat) (q : Nat → Nat → Sx.DV) (op2 : Int) (nm2 : ByteArray) (kn2 : Int) (kp2 : ByteArray) (wn2 : Int) (wp2 : ByteArray) (n2 : Nat) (q2 : Nat → Nat → Sx.DV) : Tree (SV × AS) :=
 .need (true = true)
 (.need ((0 : Int) ≤ (0 : Int) ∧ (0 : Int) < (2 : Int))
 (.need (0 < 2)
 (.need (ExAny n q)
 (.need
 (RowI (List.length L) (List.length L) (cellI L)
 (List.length
 (exH op (List.getD [nm, nm2] ((0 : Nat) + Int.toNat (0 : Int)) ByteArray.empty) kn (List.getD [kp, kp2] ((0 : Nat) + Int.toNat (0 : Int)) ByteArray.empty) wn
 (List.getD [wp, wp2] ((0 : Nat) + Int.toNat (0 : Int)) ByteArray.empty) n (argsD 8 n q))))
 (.need (true = true)
 (.need ((0 : Int) ≤ (1 : Int) ∧ (1 : Int) < (2 : Int))
 (.need (1 < 2)
 (.need (ExAny n2 q2)
 (.need
 (RowI
 (List.length L +
 List.length
 (exH op (List.getD [nm, nm2] ((0 : Nat) + Int.toNat (0 : Int)) ByteArray.empty) kn (List.getD [kp, kp2] ((0 : Nat) + Int.toNat (0 : Int)) ByteArray.empty) wn
 (List.getD [wp, wp2] ((0 : Nat) + Int.toNat (0 : Int)) ByteArray.empty) n (argsD 8 n q)))
 (List.length L +
 List.length
 (exH op (List.getD [nm, nm2] ((0 : Nat) + Int.toNat (0 : Int)) ByteArray.empty) kn (List.getD [kp, kp2] ((0 : Nat) + Int.toNat (0 : Int)) ByteArray.empty) wn
 (List.getD [wp, wp2] ((0 : Nat) + Int.toNat (0 : Int)) ByteArray.empty) n (argsD 8 n q)))
 (appC (List.length L) (cellI L)
 (exH op (List.getD ((fun x => nm :: x) ((fun x => nm2 :: x) [])) ((0 : Nat) + Int.toNat (0 : Int)) ByteArray.empty) kn
 (List.getD ((fun x => kp :: x) ((fun x => kp2 :: x) [])) ((0 : Nat) + Int.toNat (0 : Int)) ByteArray.empty) wn
 (List.getD ((fun x => wp :: x) ((fun x => wp2 :: x) [])) ((0 : Nat) + Int.toNat (0 : Int)) ByteArray.empty) n (argsD 8 n q)))
 (List.length
 (exH op2 (List.getD [nm, nm2] ((0 : Nat) + Int.toNat (w64 ((0 : Int) + (1 : Int)))) ByteArray.empty) kn2 (List.getD [kp, kp2] ((0 : Nat) + Int.toNat (w64 ((0 : Int) + (1 : Int)))) ByteArray.empty) wn2
 (List.getD [wp, wp2] ((0 : Nat) + Int.toNat (w64 ((0 : Int) + (1 : Int)))) ByteArray.empty) n2 (argsD 8 n2 q2))))
 (.need (false = false)
 (.ret
 (SV.tup [],
 {
 tm :=
 [.ok (SV.ptr 0 0), .ok (SV.row 2 0 0 2 7), .ok (SV.ptr 3 0), .unk, .ok (SV.ptr 4 0),
 .unk, .ok (SV.ptr 9 0), .ok (SV.fn (Fn.func 181) [] [SV.ptr 3 0, SV.ptr 4 0]),
 .ok (SV.row 2 0 0 2 7), .ok (iv (2 : Int)), .ok (iv (2 : Int)), .ok (bv false),
 .ok (SV.pix 2 0 2 7 1 0),
 .ok
 (SV.agg
 [iv op2, SV.d (DV.x (.string (List.getD [nm, nm2] 1 (strB [])))), iv kn2, SV.d (DV.x (.string (List.getD [kp, kp2] 1 (strB [])))), iv wn2,
 SV.d (DV.x (.string (List.getD [wp, wp2] 1 (strB [])))), SV.d (DV.ro n2 7 q2)]),
 .ok (SV.fn (Fn.func 181) [] [SV.ptr 3 0, SV.ptr 4 0]),
 .ok
 (SV.agg
 [iv op2, SV.d (DV.x (.string (List.getD [nm, nm2] 1 (strB [])))), iv kn2, SV.d (DV.x (.string (List.getD [kp, kp2] 1 (strB [])))), iv wn2,
 SV.d (DV.x (.string (List.getD [wp, wp2] 1 (strB [])))), SV.d (DV.ro n2 7 q2)]),
 .ok (SV.tup []), .ok (iv (2 : Int))],
 hp :=
 [some
 (.cells
 [SV.row 11 0 0
 (List.length L +
 List.length
 (exH op (List.getD [nm, nm2] ((0 : Nat) + Int.toNat (0 : Int)) ByteArray.empty) kn (List.getD [kp, kp2] ((0 : Nat) + Int.toNat (0 : Int)) ByteArray.empty) wn
 (List.getD [wp, wp2] ((0 : Nat) + Int.toNat (0 : Int)) ByteArray.empty) n (argsD 8 n q)) +
 List.length
 (exH op2 (List.getD [nm, nm2] ((0 : Nat) + Int.toNat (w64 ((0 : Int) + (1 : Int)))) ByteArray.empty) kn2 (List.getD [kp, kp2] ((0 : Nat) + Int.toNat (w64 ((0 : Int) + (1 : Int)))) ByteArray.empty)
 wn2 (List.getD [wp, wp2] ((0 : Nat) + Int.toNat (w64 ((0 : Int) + (1 : Int)))) ByteArray.empty) n2 (argsD 8 n2 q2)))
 1]),
 none,
 some
 (.cells
 [iv op, SV.d (DV.x (.string nm)), iv kn, SV.d (DV.x (.string kp)), iv wn, SV.d (DV.x (.string wp)), SV.d (DV.ro n 7 q), iv op2, SV.d (DV.x (.string nm2)), iv kn2,
 SV.d (DV.x (.string kp2)), iv wn2, SV.d (DV.x (.string wp2)), SV.d (DV.ro n2 7 q2)]),
 some (.cells [SV.ptr 0 0]), some (.cells [SV.fn (Fn.func 181) [] [SV.ptr 3 0, SV.ptr 4 0]]), none,
 some
 (.cells
 [iv op, SV.d (DV.x (.string (List.getD [nm, nm2] 0 (strB [])))), iv kn, SV.d (DV.x (.string (List.getD [kp, kp2] 0 (strB [])))), iv wn,
 SV.d (DV.x (.string (List.getD [wp, wp2] 0 (strB [])))), SV.d (DV.ro n 7 q)]),
 none, none,
 some
 (.cells
 [iv op2, SV.d (DV.x (.string (List.getD [nm, nm2] 1 (strB [])))), iv kn2, SV.d (DV.x (.string (List.getD [kp, kp2] 1 (strB [])))), iv wn2,
 SV.d (DV.x (.string (List.getD [wp, wp2] 1 (strB [])))), SV.d (DV.ro n2 7 q2)]),
 none,
 some
 (.row
 (List.length L +
 List.length
 (exH op (List.getD [nm, nm2] ((0 : Nat) + Int.toNat (0 : Int)) ByteArray.empty) kn (List.getD [kp, kp2] ((0 : Nat) + Int.toNat (0 : Int)) ByteArray.empty) wn
 (List.getD [wp, wp2] ((0 : Nat) + Int.toNat (0 : Int)) ByteArray.empty) n (argsD 8 n q)) +
 List.length
 (exH op2 (List.getD [nm, nm2] ((0 : Nat) + Int.toNat (w64 ((0 : Int) + (1 : Int)))) ByteArray.empty) kn2 (List.getD [kp, kp2] ((0 : Nat) + Int.toNat (w64 ((0 : Int) + (1 : Int)))) ByteArray.empty) wn2
 (List.getD [wp, wp2] ((0 : Nat) + Int.toNat (w64 ((0 : Int) + (1 : Int)))) ByteArray.empty) n2 (argsD 8 n2 q2)))
 1
 (appC
 (List.length L +
 List.length
 (exH op (List.getD [nm, nm2] ((0 : Nat) + Int.toNat (0 : Int)) ByteArray.empty) kn (List.getD [kp, kp2] ((0 : Nat) + Int.toNat (0 : Int)) ByteArray.empty) wn
 (List.getD [wp, wp2] ((0 : Nat) + Int.toNat (0 : Int)) ByteArray.empty) n (argsD 8 n q)))
 (appC (List.length L) (cellI L)
 (exH op (List.getD ((fun x => nm :: x) ((fun x => nm2 :: x) [])) ((0 : Nat) + Int.toNat (0 : Int)) ByteArray.empty) kn
 (List.getD ((fun x => kp :: x) ((fun x => kp2 :: x) [])) ((0 : Nat) + Int.toNat (0 : Int)) ByteArray.empty) wn
 (List.getD ((fun x => wp :: x) ((fun x => wp2 :: x) [])) ((0 : Nat) + Int.toNat (0 : Int)) ByteArray.empty) n (argsD 8 n q)))
 (exH op2 (List.getD ((fun x => nm :: x) ((fun x => nm2 :: x) [])) ((0 : Nat) + Int.toNat (w64 ((0 : Int) + (1 : Int)))) ByteArray.empty) kn2
 (List.getD ((fun x => kp :: x) ((fun x => kp2 :: x) [])) ((0 : Nat) + Int.toNat (w64 ((0 : Int) + (1 : Int)))) ByteArray.empty) wn2
 (List.getD ((fun x => wp :: x) ((fun x => wp2 :: x) [])) ((0 : Nat) + Int.toNat (w64 ((0 : Int) + (1 : Int)))) ByteArray.empty) n2 (argsD 8 n2 q2)))),
 none, none, none, none],
 next := 12, hint := .nil }))))))))))))
theorem LEx2_eq (L : List Int) (op : Int) (nm : ByteArray) (kn : Int) (kp : ByteArray) (wn : Int) (wp : ByteArray) (n : Nat) (q : Nat → Nat → Sx.DV) (op2 : Int) (nm2 : ByteArray) (kn2 : Int) (kp2 : ByteArray) (wn2 : Int) (wp2 : ByteArray) (n2 : Nat) (q2 : Nat → Nat → Sx.DV) : tEx L (xS op nm kn kp wn wp n q ++ xS op2 nm2 kn2 kp2 wn2 wp2 n2 q2) 2 (.u (.t (.u (.t (.u (.f .nil)))))) = LEx2 L op nm kn kp wn wp n q op2 nm2 kn2 kp2 wn2 wp2 n2 q2 := by kernel_rfl
noncomputable def LRu (L : List Int) (k : Int) (s : List UInt8) (n : Int) : Tree (SV × AS) :=
 .need (RowI (List.length L) (List.length L) (cellI L) 1)
 (.need (RowI (List.length L + 1) (List.length L + 1) (appC (List.length L) (cellI L) [k]) (List.length (textL (Array.toList (ByteArray.data (strB s))))))
 (.need
 (RowI (List.length L + 1 + List.length (textL (Array.toList (ByteArray.data (strB s))))) (List.length L + 1 + List.length (textL (Array.toList (ByteArray.data (strB s)))))
 (appC (List.length L + 1) (appC (List.length L) (cellI L) [k]) (textL (Array.toList (ByteArray.data (strB s))))) 1)
 (.ret
 (SV.tup [],
 {
 tm :=
 [.ok (SV.ptr 0 0), .ok (SV.agg [iv k, SV.d (DV.x (.string (strB s))), iv n]), .unk, .ok (SV.ptr 2 0), .ok (SV.ptr 0 0),
 .ok (SV.ptr 2 0), .ok (iv k), .ok (SV.row 3 0 0 1 1), .ok (SV.tup []), .ok (SV.ptr 0 0),
 .ok (SV.ptr 2 1), .ok (SV.d (DV.x (.string (strB s)))), .ok (SV.tup []), .ok (SV.ptr 0 0), .ok (SV.ptr 2 2), .ok (iv n),
 .ok (SV.row 6 0 0 1 1), .ok (SV.tup [])],
 hp :=
 [some (.cells [SV.row 7 0 0 (List.length L + 1 + List.length (textL (Array.toList (ByteArray.data (strB s)))) + 1) 1]), none,
 some (.cells [iv k, SV.d (DV.x (.string (strB s))), iv n]), none, none, none, none,
 some
 (.row (List.length L + 1 + List.length (textL (Array.toList (ByteArray.data (strB s)))) + 1) 1
 (appC (List.length L + 1 + List.length (textL (Array.toList (ByteArray.data (strB s))))) (appC (List.length L + 1) (appC (List.length L) (cellI L) [k]) (textL (Array.toList (ByteArray.data (strB s)))))
 [n])),
 none, none, none],
 next := 8, hint := .nil }))))
theorem LRu_eq (L : List Int) (k : Int) (s : List UInt8) (n : Int) : inlT Try.prog CF1 DF1 200 171 [.ptr 0 0, .agg [iv k, strV s, iv n]] ⟨[], hpN L, 2, .nil⟩ = LRu L k s n := by kernel_rfl
end Go.Proofs.Ytpaejfeojdoikaa.Rm
