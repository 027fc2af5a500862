/- Part of a proof of the given statements of this seat (SxMdY): no conditions beyond those typed here. -/
import Derived.Test.YtcbjclmjkilphaaSxMdX
import Derived.Shelf.Abstract
set_option linter.unusedVariables false
set_option linter.unusedSimpArgs false
namespace Go.Proofs.Ytcbjclmjkilphaa
open Go.Sx
set_option maxRecDepth 100000
variable {lo hi st er last : Int} {L : Nat → Int} {n k : Nat}

/-! ### drift.Path -/

/-- The path from its end: what it is behind k rounds. -/
def pw (lo hi st er : Int) (n : Nat) (L : Nat → Int) (last : Int) : Nat → Int
  | 0 => last
  | k + 1 => min (max (pw lo hi st er n L last k) (dL lo st er L (n - k))) (dH hi st er L (n - k))
/-- The path. -/
def pth (lo hi st er : Int) (n : Nat) (L : Nat → Int) (last : Int) (i : Nat) : Int := pw lo hi st er n L last (n + 1 - i)
def cP (lo hi st er : Int) (n : Nat) (L : Nat → Int) (last : Int) (k i : Nat) : Int := if n + 1 - k ≤ i then pth lo hi st er n L last i else 0

theorem invPa_gc {x : Int} {m : Nat} {c' : Nat → Nat → DV} {c : Nat → Int} (h : ∀ i j, i < m → j < 1 → c' i j = xi (c i)) :
    Gc 9 ⟨List.replicate 69 .unk, [some (.cells [iv x]), none, none, none, none, some (.row m 1 c'), some (.cells [.row 5 0 0 m 1]), none, none], 9, .nil⟩ (invPa x m c) := by
  refine gc_sound [] [] rfl ?_ ?_
  · simp [invPa, leTm, leTV, List.replicate]
  · simp [invPa, leHp, leBlk, leSVs, leSV, rn, iv, leD, srcOf, hget, row64]
    exact fun i hi => h i 0 hi (by decide)

noncomputable def paT (lo hi st er : Int) (n : Nat) (L : Nat → Int) (last : Int) : Tr SV :=
  .ite (dB lo hi st er L n) (.ite (decide (dL lo st er L n ≤ last) && decide (last ≤ dH hi st er L n)) (.ret (.tup [.d (.ro (n + 1) 1 fun i _ => xi (pth lo hi st er n L last i)), iv 0])) (.ret (.tup [.d (.x (.slice none 0 0)), iv 4]))) (.ret (.tup [.d (.x (.slice none 0 0)), iv 440]))

theorem pa_sat (hv : dV lo hi st er) (hn : n ≤ 1000) {r : SV} (hr : (paT lo hi st er n L last).ev r) : Sat Try.prog (tPa lo hi st er n L last) (· = r) := by
  constructor
  rw [LPa_eq]; unfold LPa
  rw [show (fun i => intOf1 (DV.x (Value.int IntKind.i64 (L i)))) = L from rfl]
  refine ⟨⟨hv, hn, fun i hi => ⟨_, rfl⟩⟩, fun hc => ?_, fun hc => ?_⟩
  · have hb : dB lo hi st er L n = false := by
      cases h : dB lo hi st er L n with
      | false => rfl
      | true => simp [dE, h] at hc
    simp only [paT, hb, Tr.ev, Bool.false_eq_true, false_and, false_or, true_and] at hr
    subst hr
    simp only [Tree.sat, dE, hb, cond_false]
  have hb : dB lo hi st er L n = true := by
    cases h : dB lo hi st er L n with
    | true => rfl
    | false => simp [dE, h] at hc
  simp only [paT, hb, Tr.ev, Bool.true_eq_false, false_and, or_false, true_and] at hr
  rw [dCnt_all hb]
  have e : w64 (((n + 1 : Nat) : Int) - 1) = n := by rw [w64_of (by omega) (by omega)]; omega
  rw [e]
  simp only [Int.toNat_natCast]
  refine ⟨by omega, by decide, by decide, fun _ => by decide, fun _ => by decide, fun hc => ?_, fun hc => ?_⟩
  · have : (decide (dL lo st er L n ≤ last) && decide (last ≤ dH hi st er L n)) = false := by
      simp at hc ⊢; omega
    simp only [this, Bool.false_eq_true, false_and, false_or, true_and] at hr
    subst hr
    rfl
  have hin : (decide (dL lo st er L n ≤ last) && decide (last ≤ dH hi st er L n)) = true := by
    simp at hc ⊢; omega
  simp only [hin, Bool.true_eq_false, false_and, or_false, true_and] at hr
  subst hr
  refine ⟨by omega, ?_⟩
  have hv1 := vPa lo hi st er n L last
  rw [dCnt_all hb] at hv1
  refine range_satS C7x_ok D7x_ok (n := 200) (n0 := 9) (nx := 9) (roots := []) (drop := [1, 2, 3, 4, 7, 8]) (keep := [11, 18]) (h := .nil) (h' := .nil) (N := n + 1) (cPa lo hi st er n L last) (nPa lo hi st er n L last) (gPa lo hi st er n L last) hv1
    (bk_iter (n + 1) (scell (dL lo st er L) (dH hi st er L)) (by omega) _ rfl) (fun k hk => rfl) (enters_of Try.func76 (by kernel_rfl) rfl) naPa nbPa (tPaK lo hi st er n L last)
    (fun k s => s = invPa (pw lo hi st er n L last k) (n + 1) (cP lo hi st er n L last k)) ⟨_, rfl, ?_⟩ ?_ ?_
  · have hI := IPa_eq lo hi st er n L last
    unfold IPa inPa at hI
    refine (entR_sound hI).trans ?_
    rw [show (fun i => intOf1 (DV.x (Value.int IntKind.i64 (L i)))) = L from rfl, dCnt_all hb]
    refine invPa_gc fun i j hi2 hj => ?_
    obtain rfl : j = 0 := by omega
    simp only [cP]
    rw [if_neg (by omega)]
    rfl
  · rintro k s hk rfl
    have hbody : roundT Try.prog C7x D7x 200 9 [] [1, 2, 3, 4, 7, 8] 9 .nil aPa bPa ⟨parTm [55, 56] (bkEl (n + 1) (scell (dL lo st er L) (dH hi st er L)) k) TMPa, (invPa (pw lo hi st er n L last k) (n + 1) (cP lo hi st er n L last k)).hp, 9, .nil⟩ = _ :=
      BPa_eq (((n + 1 : Nat) : Int) - 1 - k) (dL lo st er L (n + 1 - 1 - k)) (dH hi st er L (n + 1 - 1 - k)) (pw lo hi st er n L last k) (n + 1) (cP lo hi st er n L last k)
    constructor
    refine Eq.mpr (congrArg (fun t => Tree.sat Try.prog t _) hbody) ?_
    unfold BPa
    have e1 : Int.toNat (((n + 1 : Nat) : Int) - 1 - k) = n - k := by omega
    simp only [lt_if, gt_if, e1, Nat.add_sub_cancel]
    refine ⟨by decide, by decide, by decide, by decide, by omega, by omega, rfl, _, rfl, ?_⟩
    rw [show min (max (pw lo hi st er n L last k) (dL lo st er L (n - k))) (dH hi st er L (n - k)) = pw lo hi st er n L last (k + 1) from rfl]
    refine invPa_gc fun i j hi2 hj => ?_
    obtain rfl : j = 0 := by omega
    rw [if_pos (by omega), selD_eq]
    by_cases h : i = n - k
    · subst h
      have e2 : cP lo hi st er n L last (k + 1) (n - k) = pw lo hi st er n L last (k + 1) := by
        simp only [cP, pth]
        rw [if_pos (by omega), show n + 1 - (n - k) = k + 1 by omega]
      rw [e2]
      simp
    · have : ¬ i = 0 + (n - k) := by omega
      simp only [this, decide_false, cond_false, cP]
      by_cases h2 : n + 1 - k ≤ i
      · rw [if_pos h2, if_pos (by omega)]
      · rw [if_neg h2, if_neg (by omega)]
  · rintro s rfl
    have hK : codeK (sub [0, 1, 0, 0, 0, 0, 0, 1, 0] (tPa lo hi st er n L last)) .normal ⟨TMPa, (invPa (pw lo hi st er n L last (n + 1)) (n + 1) (cP lo hi st er n L last (n + 1))).hp, (invPa (pw lo hi st er n L last (n + 1)) (n + 1) (cP lo hi st er n L last (n + 1))).next, .nil⟩ = _ := KPa_eq lo hi st er n L last (pw lo hi st er n L last (n + 1)) (n + 1) (cP lo hi st er n L last (n + 1))
    constructor
    rw [hK]
    unfold KPa
    refine ⟨by omega, ?_⟩
    simp only [Tree.sat, cP, Nat.zero_add, Nat.sub_self, Nat.zero_le, if_true]

noncomputable def cPath : Ctr := fun ss => match ss with
  | [.d (.x (.int .i64 lo)), .d (.x (.int .i64 hi)), .d (.x (.int .i64 st)), .d (.x (.int .i64 er)), .d (.ro n 1 cell), .d (.x (.int .i64 last))] =>
    .need (dV lo hi st er ∧ n ≤ 1000 ∧ ∀ i, i < n → ∃ b, cell i 0 = .x (.int .i64 b)) (paT lo hi st er n (intCell cell) last)
  | _ => .fail

theorem cPath_ok : CtrOK Try.prog 31 cPath := by
  refine ctrOK_leS C7x_ok D7x_ok (by kernel_rfl) (by kernel_rfl) fun ss r h => ?_
  unfold cPath at h
  split at h
  · rename_i lo hi st er n cell last
    obtain ⟨⟨hv, hn, hb⟩, h⟩ := h
    refine ⟨[iv lo, iv hi, iv st, iv er, ro64 n (intCell cell), iv last], 200, .nil, ?_, pa_sat hv hn h⟩
    simp only [leSVs, leSV, iv, ro64, leD, and_true, true_and]
    exact le_ro64 hb
  · exact h.elim

/-- drift.Path where there is a path. -/
noncomputable def cPath1 : Ctr := fun ss => match ss with
  | [.d (.x (.int .i64 lo)), .d (.x (.int .i64 hi)), .d (.x (.int .i64 st)), .d (.x (.int .i64 er)), .d (.ro n 1 cell), .d (.x (.int .i64 last))] =>
    .need ((dV lo hi st er ∧ n ≤ 1000 ∧ ∀ i, i < n → ∃ b, cell i 0 = .x (.int .i64 b)) ∧ dB lo hi st er (intCell cell) n = true ∧ dL lo st er (intCell cell) n ≤ last ∧ last ≤ dH hi st er (intCell cell) n) (.ret (.tup [.d (.ro (n + 1) 1 fun i _ => xi (pth lo hi st er n (intCell cell) last i)), iv 0]))
  | _ => .fail

theorem cPath1_ok : CtrOK Try.prog 31 cPath1 := cPath_ok.mono fun ss r h => by
  unfold cPath1 at h
  split at h
  · rename_i lo hi st er n cell last
    obtain ⟨⟨h0, h1, h2, h3⟩, h⟩ := h
    refine ⟨h0, ?_⟩
    simp only [Tr.ev] at h
    subst h
    unfold paT
    exact .inl ⟨h1, .inl ⟨by simp [h2, h3], rfl⟩⟩
  · exact h.elim

end Go.Proofs.Ytcbjclmjkilphaa
