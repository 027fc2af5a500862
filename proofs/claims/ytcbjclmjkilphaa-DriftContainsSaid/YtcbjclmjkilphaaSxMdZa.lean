/- Part of a proof of the given statements of this seat (SxMdZa): no conditions beyond those typed here. -/
import Derived.Test.YtcbjclmjkilphaaSxMdZ
set_option linter.unusedVariables false
set_option linter.unusedSimpArgs false
namespace Go.Proofs.Ytcbjclmjkilphaa
open Go.Sx
set_option linter.constructorNameAsVariable false
set_option maxRecDepth 100000
variable {lo hi st er : Int} {L : Nat → Int} {n k : Nat}

/-! ### drift.Spans -/

/-- The span told last, behind k rounds. -/
def stL (lo st er : Int) (n : Nat) (L : Nat → Int) : Nat → Int
  | 0 => dL lo st er L n
  | k + 1 => if k = 0 then dL lo st er L n else max (dL lo st er L (n - k)) (stL lo st er n L k - st)
def stH (hi st er : Int) (n : Nat) (L : Nat → Int) : Nat → Int
  | 0 => dH hi st er L n
  | k + 1 => if k = 0 then dH hi st er L n else min (dH hi st er L (n - k)) (stH hi st er n L k + st)
/-- The spans. -/
def sL (lo st er : Int) (n : Nat) (L : Nat → Int) (i : Nat) : Int := stL lo st er n L (n + 1 - i)
def sH (hi st er : Int) (n : Nat) (L : Nat → Int) (i : Nat) : Int := stH hi st er n L (n + 1 - i)
def cut0 (n k : Nat) (f : Nat → Int) (i : Nat) : Int := if n + 1 - k ≤ i then f i else 0

theorem stL_b (hv : dV lo hi st er) : ∀ k, 1 ≤ stL lo st er n L k ∧ stL lo st er n L k ≤ 2000000000
  | 0 => dL_b hv n
  | k + 1 => by
    have ih := stL_b hv k
    have h1 := dL_b hv (L := L) (n - k)
    have h2 := dL_b hv (L := L) n
    have := hv.s
    simp only [stL]; split <;> omega
theorem stH_b (hv : dV lo hi st er) : ∀ k, -2001000000 ≤ stH hi st er n L k ∧ stH hi st er n L k ≤ 2000000000
  | 0 => dH_b hv n
  | k + 1 => by
    have ih := stH_b hv k
    have h1 := dH_b hv (L := L) (n - k)
    have h2 := dH_b hv (L := L) n
    have := hv.s
    simp only [stH]; split <;> omega

theorem invSn_gc {N m : Nat} {sl sh : Nat → Int} {x y : Int} {c' : Nat → Nat → DV} {cl ch : Nat → Int} (h : ∀ i j, i < m → j < 2 → c' i j = scell cl ch i j) :
    Gc 10 ⟨List.replicate 62 .unk, [some (.cells [iv lo, iv hi, iv st, iv er]), some (.cells [.d (.ro N 2 (scell sl sh))]), none, none, some (.row m 2 c'), some (.cells [.row 4 0 0 m 2]), none, some (.cells [iv x, iv y]), none, none], 10, .nil⟩ (invSn lo hi st er N sl sh x y m cl ch) := by
  refine gc_sound [] [] rfl ?_ ?_
  · simp [invSn, leTm, leTV, List.replicate]
  · simp [invSn, leHp, leBlk, leSVs, leSV, rn, iv, leD, srcOf, hget]
    exact h

theorem Sat.of_eq {α : Type} {P : Program} {t t' : Tree α} {Q : α → Prop} (h : t = t') (k : Sat P t' Q) : Sat P t Q := h ▸ k

noncomputable def snT (lo hi st er : Int) (n : Nat) (L : Nat → Int) : Tr SV :=
  .ite (dB lo hi st er L n) (.ret (.tup [.d (.ro (n + 1) 2 (scell (sL lo st er n L) (sH hi st er n L))), iv 0])) (.ret (.tup [.d (.x (.slice none 0 0)), iv 440]))

theorem row2 {c f : Nat → Int} {A : Int} {i q : Nat} (h1 : i = q → A = f i) (h2 : i ≠ q → c i = f i) : selD (decide (i = q)) (xi A) (xi (c i)) = xi (f i) := by
  rw [selD_eq]
  by_cases h : i = q
  · simp only [h, decide_true, cond_true]; rw [h1 h, h]
  · simp only [h, decide_false, cond_false]; rw [h2 h]

theorem sn_sat (hv : dV lo hi st er) (hn : n ≤ 1000) {r : SV} (hr : (snT lo hi st er n L).ev r) : Sat Try.prog (tSn lo hi st er n L) (· = r) := by
  constructor
  rw [LSn_eq]; unfold LSn
  rw [show (fun i => intOf1 (DV.x (Value.int IntKind.i64 (L i)))) = L from rfl]
  refine ⟨⟨hv, hn, fun i hi => ⟨_, rfl⟩⟩, fun hc => ?_, fun hc => ?_⟩
  · have hb : dB lo hi st er L n = false := by
      cases h : dB lo hi st er L n with
      | false => rfl
      | true => simp [dE, h] at hc
    simp only [snT, hb, Tr.ev, Bool.false_eq_true, false_and, false_or, true_and] at hr
    subst hr
    simp only [Tree.sat, dE, hb, cond_false]
  have hb : dB lo hi st er L n = true := by
    cases h : dB lo hi st er L n with
    | true => rfl
    | false => simp [dE, h] at hc
  simp only [snT, hb, Tr.ev, Bool.true_eq_false, false_and, or_false, true_and] at hr
  subst hr
  rw [dCnt_all hb]
  have e : w64 (((n + 1 : Nat) : Int) - 1) = n := by rw [w64_of (by omega) (by omega)]; omega
  rw [e]
  refine ⟨by omega, by omega, ?_⟩
  have hv1 := vSn lo hi st er n L
  rw [dCnt_all hb] at hv1
  refine range_satS C8x_ok D8x_ok (n := 200) (n0 := 10) (nx := 10) (roots := []) (drop := [2, 3, 6, 8, 9]) (keep := [12, 13, 15, 16]) (h := .nil) (h' := .nil) (N := n + 1) (cSn lo hi st er n L) (nSn lo hi st er n L) (gSn lo hi st er n L) hv1
    (bk_iter (n + 1) (scell (dL lo st er L) (dH hi st er L)) (by omega) _ rfl) (fun k hk => rfl) (enters_of Try.func76 (by kernel_rfl) rfl) naSn nbSn (tSnK lo hi st er n L)
    (fun k s => s = invSn lo hi st er (n + 1) (dL lo st er L) (dH hi st er L) (stL lo st er n L k) (stH hi st er n L k) (n + 1) (cut0 n k (sL lo st er n L)) (cut0 n k (sH hi st er n L))) ⟨_, rfl, ?_⟩ ?_ ?_
  · have hI := ISn_eq lo hi st er n L
    unfold ISn inSn at hI
    refine (entR_sound hI).trans ?_
    rw [show (fun i => intOf1 (DV.x (Value.int IntKind.i64 (L i)))) = L from rfl, dCnt_all hb, e]
    refine invSn_gc fun i j hi2 hj => ?_
    have : j = 0 ∨ j = 1 := by omega
    rcases this with rfl | rfl
    · simp only [scell, cut0]; rw [if_neg (by omega)]; rfl
    · simp only [scell, cut0]; rw [if_neg (by omega)]; rfl
  · rintro k s hk rfl
    have hbody : roundT Try.prog C8x D8x 200 10 [] [2, 3, 6, 8, 9] 10 .nil aSn bSn ⟨parTm [43, 44] (bkEl (n + 1) (scell (dL lo st er L) (dH hi st er L)) k) TMSn, (invSn lo hi st er (n + 1) (dL lo st er L) (dH hi st er L) (stL lo st er n L k) (stH hi st er n L k) (n + 1) (cut0 n k (sL lo st er n L)) (cut0 n k (sH hi st er n L))).hp, 10, .nil⟩ = _ :=
      BSn_eq (((n + 1 : Nat) : Int) - 1 - k) (dL lo st er L (n + 1 - 1 - k)) (dH hi st er L (n + 1 - 1 - k)) lo hi st er (n + 1) (dL lo st er L) (dH hi st er L) (stL lo st er n L k) (stH hi st er n L k) (n + 1) (cut0 n k (sL lo st er n L)) (cut0 n k (sH hi st er n L))
    refine Sat.of_eq hbody ?_
    constructor
    unfold BSn
    have b1 := stL_b hv (n := n) (L := L) k
    have b2 := stH_b hv (n := n) (L := L) k
    have := hv.s
    have e1 : Int.toNat (((n + 1 : Nat) : Int) - 1 - k) = n - k := by omega
    rw [w64_of (n := stL lo st er n L k - st) (by omega) (by omega), w64_of (n := stH hi st er n L k + st) (by omega) (by omega)]
    simp only [lt_if, gt_if, e1, e, Nat.add_sub_cancel]
    iterate 12 (refine ⟨by decide, ?_⟩)
    have hL1 : sL lo st er n L (n - k) = stL lo st er n L (k + 1) := by unfold sL; rw [show n + 1 - (n - k) = k + 1 by omega]
    have hH1 : sH hi st er n L (n - k) = stH hi st er n L (k + 1) := by unfold sH; rw [show n + 1 - (n - k) = k + 1 by omega]
    have hc1 : ∀ f : Nat → Int, cut0 n (k + 1) f (n - k) = f (n - k) := fun f => by simp only [cut0]; rw [if_pos (by omega)]
    have hc2 : ∀ (f : Nat → Int) (i : Nat), i ≠ n - k → i < n + 1 → cut0 n (k + 1) f i = cut0 n k f i := fun f i h hi2 => by
      simp only [cut0]
      by_cases h2 : n + 1 - k ≤ i
      · rw [if_pos h2, if_pos (by omega)]
      · rw [if_neg h2, if_neg (by omega)]
    refine ⟨fun hc => ⟨by omega, by omega, rfl, _, rfl, ?_⟩, fun hc => ⟨by omega, by omega, rfl, _, rfl, ?_⟩⟩
    · have hk0 : k = 0 := by simp at hc; omega
      have f1 : stL lo st er n L (k + 1) = dL lo st er L (n - k) := by simp [stL, hk0]
      have f2 : stH hi st er n L (k + 1) = dH hi st er L (n - k) := by simp [stH, hk0]
      rw [← f1, ← f2]
      refine invSn_gc fun i j hi2 hj => ?_
      rw [Nat.zero_add]
      have hj2 : j = 0 ∨ j = 1 := by omega
      rcases hj2 with rfl | rfl
      · rw [if_pos (by decide)]
        exact row2 (f := cut0 n (k + 1) (sL lo st er n L)) (fun h => by rw [h, hc1, hL1]) (fun h => (hc2 _ i h hi2).symm)
      · rw [if_pos (by decide)]
        exact row2 (f := cut0 n (k + 1) (sH hi st er n L)) (fun h => by rw [h, hc1, hH1]) (fun h => (hc2 _ i h hi2).symm)
    · have hk0 : k ≠ 0 := by simp at hc; omega
      have f1 : stL lo st er n L (k + 1) = max (dL lo st er L (n - k)) (stL lo st er n L k - st) := by simp [stL, hk0]
      have f2 : stH hi st er n L (k + 1) = min (dH hi st er L (n - k)) (stH hi st er n L k + st) := by simp [stH, hk0]
      rw [← f1, ← f2]
      refine invSn_gc fun i j hi2 hj => ?_
      rw [Nat.zero_add]
      have hj2 : j = 0 ∨ j = 1 := by omega
      rcases hj2 with rfl | rfl
      · rw [if_pos (by decide)]
        exact row2 (f := cut0 n (k + 1) (sL lo st er n L)) (fun h => by rw [h, hc1, hL1]) (fun h => (hc2 _ i h hi2).symm)
      · rw [if_pos (by decide)]
        exact row2 (f := cut0 n (k + 1) (sH hi st er n L)) (fun h => by rw [h, hc1, hH1]) (fun h => (hc2 _ i h hi2).symm)
  · rintro s rfl
    have hK : codeK (sub pSn (tSn lo hi st er n L)) .normal ⟨TMSn, (invSn lo hi st er (n + 1) (dL lo st er L) (dH hi st er L) (stL lo st er n L (n + 1)) (stH hi st er n L (n + 1)) (n + 1) (cut0 n (n + 1) (sL lo st er n L)) (cut0 n (n + 1) (sH hi st er n L))).hp,
       (invSn lo hi st er (n + 1) (dL lo st er L) (dH hi st er L) (stL lo st er n L (n + 1)) (stH hi st er n L (n + 1)) (n + 1) (cut0 n (n + 1) (sL lo st er n L)) (cut0 n (n + 1) (sH hi st er n L))).next, .nil⟩ = _ :=
      KSn_eq lo hi st er n L lo hi st er (n + 1) (dL lo st er L) (dH hi st er L) (stL lo st er n L (n + 1)) (stH hi st er n L (n + 1)) (n + 1) (cut0 n (n + 1) (sL lo st er n L)) (cut0 n (n + 1) (sH hi st er n L))
    refine Sat.of_eq hK ?_
    constructor
    unfold KSn
    refine ⟨by omega, ?_⟩
    have hcut : ∀ f : Nat → Int, cut0 n (n + 1) f = f := fun f => by funext i; simp [cut0]
    simp only [Tree.sat, hcut, Nat.zero_add]

noncomputable def cSpn : Ctr := fun ss => match ss with
  | [.d (.x (.int .i64 lo)), .d (.x (.int .i64 hi)), .d (.x (.int .i64 st)), .d (.x (.int .i64 er)), .d (.ro n 1 cell)] =>
    .need (dV lo hi st er ∧ n ≤ 1000 ∧ ∀ i, i < n → ∃ b, cell i 0 = .x (.int .i64 b)) (snT lo hi st er n (intCell cell))
  | _ => .fail

theorem cSpn_ok : CtrOK Try.prog 63 cSpn := by
  refine ctrOK_leS C8x_ok D8x_ok (by kernel_rfl) (by kernel_rfl) fun ss r h => ?_
  unfold cSpn at h
  split at h
  · rename_i lo hi st er n cell
    obtain ⟨⟨hv, hn, hb⟩, h⟩ := h
    refine ⟨[iv lo, iv hi, iv st, iv er, ro64 n (intCell cell)], 200, .nil, ?_, sn_sat hv hn h⟩
    simp only [leSVs, leSV, iv, ro64, leD, and_true, true_and]
    exact le_ro64 hb
  · exact h.elim

end Go.Proofs.Ytcbjclmjkilphaa
