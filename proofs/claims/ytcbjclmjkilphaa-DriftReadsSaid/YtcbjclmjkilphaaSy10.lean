/- Part of a proof of the given statements of this seat (SxMdK, SxMdX, SxMdY, SxMdZ, SxMdZa, SxMdEx, SxMrRa, SxMrRb, SxMrRc, SxMrRd, SxMrRe, SxMrRm): no conditions beyond those typed here. -/
import Derived.Test.YtcbjclmjkilphaaSy07
import Derived.Test.YtcbjclmjkilphaaSy09
import Derived.RangeFuncBox
import Derived.WalkKit
import Derived.OwnWalkIn
import Derived.TacticsInMore
import Derived.LoopNIn
import Derived.LoopIn
import Derived.Test.YtcbjclmjkilphaaSy08
import Derived.Shelf.Abstract
set_option linter.unusedVariables false
set_option linter.unusedSimpArgs false

namespace Go.Proofs.Ytcbjclmjkilphaa
open Go.Sx Go.RowKit
set_option maxRecDepth 100000
attribute [local go_sem] Oper.semAt_some

noncomputable def bkEl (N : Nat) (cell : Nat → Nat → DV) (k : Nat) : List SV := [iv ((N : Int) - 1 - k), .agg [.d (cell (N - 1 - k) 0), .d (cell (N - 1 - k) 1)]]

set_option maxHeartbeats 2000000 in
/-- slices.Backward's closure. -/
theorem bk_in (l B O N : Nat) (sv : Value) (hN : N ≤ 2000) (f : Nat → Nat → Value) (W0 : World) (F : Nat → Prop) (J : Nat → World → Prop) (W : World)
    (hJe : ∀ k W, J k W → Ext F W0 W) (hB : F B) (hBs : W0.cell? ⟨B, O, none⟩ = some sv)
    (hsv : (N = 0 ∧ (sv = .slice none 0 0 ∨ ∃ a cap, sv = .slice (some a) 0 cap)) ∨ ∃ b o cap, sv = .slice (some ⟨b, o, none⟩) N cap ∧ N ≠ 0 ∧ F b ∧ ∀ i j, i < N → j < 2 → W0.cell? ⟨b, o + (i * 2 + j), none⟩ = some (f i j))
    (hY : ∀ k W1, k < N → J k W1 → YieldAt Fence.wide 0 Try.prog l #[.int .i64 ((N : Int) - 1 - k), .agg #[f (N - 1 - k) 0, f (N - 1 - k) 1]] W1 fun e W' => e = .returned (.bool true) ∧ J (k + 1) W')
    (h0 : J 0 W) : CallsIn Fence.wide 0 Try.prog 76 #[.func (.yield l) #[] #[], .pointer (some ⟨B, O, none⟩)] W fun e W' => (∃ v, e = .returned v) ∧ J N W' := by
  have hl : ∃ a cap, sv = .slice a N cap := by
    rcases hsv with ⟨rfl, rfl | ⟨a, cap, rfl⟩⟩ | ⟨b, o, cap, rfl, _⟩ <;> exact ⟨_, _, rfl⟩
  have hbox : ∀ k W1, J k W1 → W1.cell? ⟨B, O, none⟩ = some sv := fun k W1 h => ((hJe k W1 h).cell hB).trans hBs
  refine callsIn_of_wp Try.func76 rfl trivial ?_ rfl
  obtain ⟨a, cap, rfl⟩ := hl
  have hb0 := hbox 0 W h0
  simp only [Try.ntmps76, List.size_toArray, List.length_cons, List.length_nil, Nat.reduceAdd, Nat.reduceSub, Array.replicate_succ, Array.replicate_zero, List.push_toArray, List.append_toArray, List.nil_append, List.cons_append]
  gi_wp2
  gi_loopw [3] (fun i wr => ∃ k : Nat, k ≤ N ∧ i = .int .i64 ((N : Int) - 1 - k) ∧ J k wr) (fun i _ => (intOf i + 1).toNat)
  case atStart => 
    refine ⟨0, Nat.zero_le _, ?_, h0⟩
    simp
  case round =>
    obtain ⟨k, hk, rfl, hJs⟩ := hrel
    have hbk := hbox k wr hJs
    by_cases hlt : k < N
    · rcases hsv with ⟨h, _⟩ | ⟨b, o, cap', hsv, hN0, hb, hc⟩
      · omega
      cases hsv
      obtain ⟨fn, tmps, assign, body, hy, hR⟩ := hY k wr hlt hJs
      have hc0 : wr.cell? ⟨b, o + (N - 1 - k) * 2, none⟩ = some (f (N - 1 - k) 0) := ((hJe k wr hJs).cell hb).trans (hc (N - 1 - k) 0 (by omega) (by omega))
      have hc1 : wr.cell? ⟨b, o + (N - 1 - k) * 2 + 1, none⟩ = some (f (N - 1 - k) 1) := ((hJe k wr hJs).cell hb).trans (hc (N - 1 - k) 1 (by omega) (by omega))
      have e1 : (N : Int) - 1 - k = ((N - 1 - k : Nat) : Int) := by omega
      rw [e1] at hy ⊢
      gi_wp2
      refine ⟨rfl, hR.mono ?_⟩
      rintro e W3 ⟨rfl, hJ3⟩
      gi_wp2
      go_roundw
      case rel => exact ⟨k + 1, by omega, by simp <;> omega, hJ3⟩
      case measure => simp [intOf] <;> omega
    · obtain rfl : k = N := by omega
      gi_wp2
      go_end0
      exact ⟨⟨_, rfl⟩, hJs⟩

theorem bk_iter (N : Nat) (cell : Nat → Nat → DV) (hN : N ≤ 2000) (c : Nat → DV) (hc0 : c 0 = .ro N 2 cell) : IterOK Try.prog 76 [.rop 1 c] N (bkEl N cell) := by
  rintro W0 F vs hF ⟨h1, h2⟩
  have hv := h2 0 (by simp)
  obtain ⟨v, rfl⟩ : ∃ v, vs = #[v] := by
    refine ⟨vs.getD 0 undef, ?_⟩
    apply Array.ext
    · simpa using h1
    · intro i hi _
      have : i = 0 := by simp at h1; omega
      subst this
      simp [Array.getD, hi]
  simp only [List.getD_cons_zero] at hv
  have hv : Rep W0 emp F v (.rop 1 c) := by simpa [Array.getD] using hv
  cases hv with
  | rop b o _ _ f hb hcell hone hrep =>
    have hbox := hcell 0 (by omega)
    have hsv := hrep 0 (by omega)
    rw [hc0] at hsv
    have hB := hb (by omega)
    generalize f 0 = sv at hbox hsv
    have key : ∃ g : Nat → Nat → Value, ((N = 0 ∧ (sv = .slice none 0 0 ∨ ∃ a cap, sv = .slice (some a) 0 cap)) ∨ ∃ b o cap, sv = .slice (some ⟨b, o, none⟩) N cap ∧ N ≠ 0 ∧ F b ∧ ∀ i j, i < N → j < 2 → W0.cell? ⟨b, o + (i * 2 + j), none⟩ = some (g i j)) ∧ ∀ i j, i < N → j < 2 → RepD W0 F (g i j) (cell i j) := by
      cases hsv with
      | nil => exact ⟨fun _ _ => undef, .inl ⟨rfl, .inl rfl⟩, fun i j hi => by omega⟩
      | z a cap => exact ⟨fun _ _ => undef, .inl ⟨rfl, .inr ⟨a, cap, rfl⟩⟩, fun i j hi => by omega⟩
      | ro b o _ cap _ _ g hF' hcap hcell hone hrep =>
        by_cases h0 : N = 0
        · subst h0; exact ⟨g, .inl ⟨rfl, .inr ⟨_, cap, rfl⟩⟩, hrep⟩
        · exact ⟨g, .inr ⟨b, o, cap, rfl, h0, hF' h0, hcell⟩, hrep⟩
    obtain ⟨g, k1, k2⟩ := key
    refine ⟨fun k => #[.int .i64 ((N : Int) - 1 - k), .agg #[g (N - 1 - k) 0, g (N - 1 - k) 1]], fun k hk => ⟨rfl, fun i hi => ?_⟩, fun l J W hJe _ hY h0 => ?_⟩
    · match i, hi with
      | 0, _ => exact .d (.x _)
      | 1, _ =>
        refine .agg _ _ rfl fun i hi => ?_
        match i, hi with
        | 0, _ => exact .d (k2 _ _ (by omega) (by omega))
        | 1, _ => exact .d (k2 _ _ (by omega) (by omega))
    · exact bk_in l b o N sv hN g W0 F J W hJe hB hbox k1 hY h0

end Go.Proofs.Ytcbjclmjkilphaa

namespace Go.Proofs.Ytcbjclmjkilphaa
open Go.Sx
set_option maxRecDepth 100000

/-! ### drift.Path -/

noncomputable def inl7 : FuncId → Bool := fun k => k == 58
noncomputable def C7x : Ctx := ctxN Try.prog man4 inl7 200 .nil 4
theorem C7x_ok : CtxOK Try.prog C7x := ctxN_ok mixed (fun k c h => by
  unfold man4 at h
  split at h
  · rename_i e; cases h; subst e; exact ⟨cSpans_ok, by kernel_rfl⟩
  · cases h) 4
noncomputable def D7x : Dr := fun _ => drawn Try.prog C7x
theorem D7x_ok : DrOK Try.prog C7x D7x := drawn_ok C7x_ok mixed

noncomputable def tPa (lo hi st er : Int) (n : Nat) (L : Nat → Int) (last : Int) : Tree SV := fnT Try.prog C7x D7x 200 (fnOf Try.prog 31) (bodyOf Try.prog 31) [iv lo, iv hi, iv st, iv er, ro64 n L, iv last] .nil

noncomputable def LPa (lo hi st er : Int) (n : Nat) (L : Nat → Int) (last : Int) : Tree SV :=
  .need (dV lo hi st er ∧ n ≤ 1000 ∧ ∀ (i : Nat), i < n → ∃ b, (fun i x => DV.x (.int .i64 (L i))) i (0 : Nat) = DV.x (.int .i64 b))
  (.ite (dE lo hi st er (fun i => intOf1 (DV.x (.int .i64 (L i)))) n != (0 : Int))
   (.ret (.tup [.d (DV.x (.slice none 0 0)), iv (dE lo hi st er (fun i => intOf1 (DV.x (.int .i64 (L i)))) n)]))
   (.need
   ((0 : Int) ≤ w64 ((↑(dCnt lo hi st er (fun i => intOf1 (DV.x (.int .i64 (L i)))) n + 1) : Int) - (1 : Int)) ∧
   w64 ((↑(dCnt lo hi st er (fun i => intOf1 (DV.x (.int .i64 (L i)))) n + 1) : Int) - (1 : Int)) < (↑(dCnt lo hi st er (fun i => intOf1 (DV.x (.int .i64 (L i)))) n + 1) : Int))
   (.need ((0 : Int) ≤ (0 : Int) ∧ (0 : Int) < (2 : Int))
   (.need (0 < 2)
   (.need
   (decide (last < dL lo st er (fun i => intOf1 (DV.x (.int .i64 (L i)))) (Int.toNat (w64 ((↑(dCnt lo hi st er (fun i => intOf1 (DV.x (.int .i64 (L i)))) n + 1) : Int) - (1 : Int))))) = false →
   (0 : Int) ≤ (1 : Int) ∧ (1 : Int) < (2 : Int))
   (.need
   (decide (last < dL lo st er (fun i => intOf1 (DV.x (.int .i64 (L i)))) (Int.toNat (w64 ((↑(dCnt lo hi st er (fun i => intOf1 (DV.x (.int .i64 (L i)))) n + 1) : Int) - (1 : Int))))) = false →
   1 < 2)
   (.ite
   (decide (last < dL lo st er (fun i => intOf1 (DV.x (.int .i64 (L i)))) (Int.toNat (w64 ((↑(dCnt lo hi st er (fun i => intOf1 (DV.x (.int .i64 (L i)))) n + 1) : Int) - (1 : Int))))) ||
   decide (last > dH hi st er (fun i => intOf1 (DV.x (.int .i64 (L i)))) (Int.toNat (w64 ((↑(dCnt lo hi st er (fun i => intOf1 (DV.x (.int .i64 (L i)))) n + 1) : Int) - (1 : Int))))))
   (.ret (.tup [.d (DV.x (.slice none 0 0)), iv (4 : Int)]))
   (.need
   ((0 : Int) ≤ (↑(dCnt lo hi st er (fun i => intOf1 (DV.x (.int .i64 (L i)))) n + 1) : Int) ∧
   (↑(dCnt lo hi st er (fun i => intOf1 (DV.x (.int .i64 (L i)))) n + 1) : Int) ≤ (↑(dCnt lo hi st er (fun i => intOf1 (DV.x (.int .i64 (L i)))) n + 1) : Int) ∧
   (↑(dCnt lo hi st er (fun i => intOf1 (DV.x (.int .i64 (L i)))) n + 1) : Int) * (8 : Int) ≤ (140737488355328 : Int))
   (.code (codeC (sub [(0 : Nat), (1 : Nat), (0 : Nat), (0 : Nat), (0 : Nat), (0 : Nat), (0 : Nat), (1 : Nat), (0 : Nat)] (tPa lo hi st er n L last)))
   (codeS (sub [(0 : Nat), (1 : Nat), (0 : Nat), (0 : Nat), (0 : Nat), (0 : Nat), (0 : Nat), (1 : Nat), (0 : Nat)] (tPa lo hi st er n L last)))
   (codeK (sub [(0 : Nat), (1 : Nat), (0 : Nat), (0 : Nat), (0 : Nat), (0 : Nat), (0 : Nat), (1 : Nat), (0 : Nat)] (tPa lo hi st er n L last))))))))))))

theorem LPa_eq (lo hi st er : Int) (n : Nat) (L : Nat → Int) (last : Int) : tPa lo hi st er n L last = LPa lo hi st er n L last := by kernel_rfl

noncomputable def subPa (lo hi st er : Int) (n : Nat) (L : Nat → Int) (last : Int) : Tree SV := sub [0, 1, 0, 0, 0, 0, 0, 1, 0] (tPa lo hi st er n L last)
noncomputable def TMPa : List TV := List.replicate 11 .unk ++ [.ok (.ptr 0 0)] ++ List.replicate 6 .unk ++ [.ok (.ptr 6 0)] ++ List.replicate 50 .unk
noncomputable def invPa (x : Int) (m : Nat) (c : Nat → Int) : AS :=
  ⟨List.replicate 69 .unk, [some (.cells [iv x]), none, none, none, none, some (row64 m c), some (.cells [.row 5 0 0 m 1]), none, none], 9, .nil⟩
noncomputable def aPa : Code := rgA (rangeN (bodyOf Try.prog 31) 0)
noncomputable def bPa : Code := rgB (rangeN (bodyOf Try.prog 31) 0)
noncomputable def rPa (i a b x : Int) (m : Nat) (c : Nat → Int) : Tree (Ex × AS) := roundT Try.prog C7x D7x 200 9 [] [1, 2, 3, 4, 7, 8] 9 .nil aPa bPa ⟨parTm [55, 56] [iv i, .agg [iv a, iv b]] TMPa, (invPa x m c).hp, 9, .nil⟩
noncomputable def BPa (i a b x : Int) (m : Nat) (c : Nat → Int) : Tree (Ex × AS) :=
  .need ((0 : Int) ≤ (0 : Int) ∧ (0 : Int) < (2 : Int))
  (.need (0 < 2)
   (.need ((0 : Int) ≤ (1 : Int) ∧ (1 : Int) < (2 : Int))
   (.need (1 < 2)
   (.need ((0 : Int) ≤ i ∧ i < (↑m : Int))
   (.need (0 + Int.toNat i < m)
   (.ret
   (.normal,
   {
   tm :=
   [.unk, .unk, .unk, .unk, .unk, .unk, .unk, .unk, .unk, .unk, .unk, .unk, .unk, .unk, .unk, .unk, .unk, .unk, .unk, .unk, .unk, .unk, .unk, .unk, .unk, .unk, .unk,
   .unk, .unk, .unk, .unk, .unk, .unk, .unk, .unk, .unk, .unk, .unk, .unk, .unk, .unk, .unk, .unk, .unk, .unk, .unk, .unk, .unk, .unk, .unk, .unk, .unk, .unk, .unk,
   .unk, .unk, .unk, .unk, .unk, .unk, .unk, .unk, .unk, .unk, .unk, .unk, .unk, .unk, .unk],
   hp :=
   [some (.cells [iv (if b < if a > x then a else x then b else if a > x then a else x)]), none, none, none, none,
   some
   (.row m 1 fun a_1 b_1 =>
   if 0 ≤ b_1 ∧ b_1 < 1 then
   selD (decide (a_1 = 0 + Int.toNat i))
   (match [DV.x (.int .i64 (if b < if a > x then a else x then b else if a > x then a else x))][b_1 - 0]? with
   | some x => x
   | none => DV.x (.tuple { toList := [] }))
   (DV.x (.int .i64 (c a_1)))
   else DV.x (.int .i64 (c a_1))),
   some (.cells [.row 5 0 0 m 1]), none, none],
   next := 9, hint := .nil })))))))

theorem BPa_eq (i a b x : Int) (m : Nat) (c : Nat → Int) : rPa i a b x m c = BPa i a b x m c := by kernel_rfl

noncomputable def inPa (t : Tree SV) : Option AS := entR 9 [8] [] [1, 2, 3, 4, 7, 8] 9 .nil t
noncomputable def IPa (lo hi st er : Int) (n : Nat) (L : Nat → Int) (last : Int) : Option AS :=
  some
  {
    tm :=
      [.unk, .unk, .unk, .unk, .unk, .unk, .unk, .unk, .unk, .unk, .unk, .unk, .unk, .unk, .unk, .unk, .unk, .unk, .unk, .unk, .unk, .unk, .unk, .unk, .unk, .unk, .unk, .unk, .unk,
        .unk, .unk, .unk, .unk, .unk, .unk, .unk, .unk, .unk, .unk, .unk, .unk, .unk, .unk, .unk, .unk, .unk, .unk, .unk, .unk, .unk, .unk, .unk, .unk, .unk, .unk, .unk, .unk, .unk,
        .unk, .unk, .unk, .unk, .unk, .unk, .unk, .unk, .unk, .unk, .unk],
    hp :=
      [some (.cells [iv last]), none, none, none, none,
        some
          (.row (Int.toNat (↑(dCnt lo hi st er (fun i => intOf1 (DV.x (.int .i64 (L i)))) n + 1) : Int)) 1 fun x j =>
            match [DV.x (.int .i64 (0 : Int))][j]? with
            | some x => x
            | none => DV.x (.tuple { toList := [] })),
        some (.cells [.row 5 0 0 (Int.toNat (↑(dCnt lo hi st er (fun i => intOf1 (DV.x (.int .i64 (L i)))) n + 1) : Int)) 1]), none, none],
    next := 9, hint := .nil }

theorem IPa_eq (lo hi st er : Int) (n : Nat) (L : Nat → Int) (last : Int) : inPa (subPa lo hi st er n L last) = IPa lo hi st er n L last := by kernel_rfl

noncomputable def KPa (lo hi st er : Int) (n : Nat) (L : Nat → Int) (last x : Int) (m : Nat) (c : Nat → Int) : Tree SV :=
  .need (0 + m ≤ m) (.ret (.tup [.d (DV.ro m 1 fun i j => DV.x (.int .i64 (c ((0 : Nat) + i)))), iv (0 : Int)]))

theorem KPa_eq (lo hi st er : Int) (n : Nat) (L : Nat → Int) (last x : Int) (m : Nat) (c : Nat → Int) : codeK (subPa lo hi st er n L last) .normal ⟨TMPa, (invPa x m c).hp, 9, .nil⟩ = KPa lo hi st er n L last x m c := by kernel_rfl

theorem cPa (lo hi st er : Int) (n : Nat) (L : Nat → Int) (last : Int) : codeC (subPa lo hi st er n L last) = .rangeFunc (.tmp 54) #[55, 56] aPa bPa := by kernel_rfl
theorem nPa (lo hi st er : Int) (n : Nat) (L : Nat → Int) (last : Int) : Nat.ble (codeS (subPa lo hi st er n L last)).next 9 = true := by kernel_rfl
theorem gPa (lo hi st er : Int) (n : Nat) (L : Nat → Int) (last : Int) : tvStrict none (tget (codeS (subPa lo hi st er n L last)).tm 54) = some (.fn (.func 76) [] [.ptr 8 0]) := by kernel_rfl
theorem vPa (lo hi st er : Int) (n : Nat) (L : Nat → Int) (last : Int) : capV (codeS (subPa lo hi st er n L last)).hp [.ptr 8 0] = some ([.rop 1 fun j => [DV.ro (dCnt lo hi st er L n + 1) 2 (scell (dL lo st er L) (dH hi st er L))].getD j (.x undef)], [8]) := by kernel_rfl
theorem tPaK (lo hi st er : Int) (n : Nat) (L : Nat → Int) (last : Int) : keepTm [11, 18] 0 (codeS (subPa lo hi st er n L last)).tm = TMPa := by kernel_rfl
theorem naPa : noRange aPa = true := by kernel_rfl
theorem nbPa : noRange bPa = true := by kernel_rfl

end Go.Proofs.Ytcbjclmjkilphaa

namespace Go.Proofs.Ytcbjclmjkilphaa
open Go.Sx
set_option maxRecDepth 100000
variable {lo hi st er last : Int} {L : Nat → Int} {n k : Nat}

/-! ### drift.Path -/

/-- The path from its end: what it is behind k rounds. -/
def pw (lo hi st er : Int) (n : Nat) (L : Nat → Int) (last : Int) : Nat → Int
  | 0 => last
  | k + 1 => min (max (pw lo hi st er n L last k) (dL lo st er L (n - k))) (dH hi st er L (n - k))
/-- The path. -/
def pth (lo hi st er : Int) (n : Nat) (L : Nat → Int) (last : Int) (i : Nat) : Int := pw lo hi st er n L last (n + 1 - i)
def cP (lo hi st er : Int) (n : Nat) (L : Nat → Int) (last : Int) (k i : Nat) : Int := if n + 1 - k ≤ i then pth lo hi st er n L last i else 0

theorem invPa_gc {x : Int} {m : Nat} {c' : Nat → Nat → DV} {c : Nat → Int} (h : ∀ i j, i < m → j < 1 → c' i j = xi (c i)) :
    Gc 9 ⟨List.replicate 69 .unk, [some (.cells [iv x]), none, none, none, none, some (.row m 1 c'), some (.cells [.row 5 0 0 m 1]), none, none], 9, .nil⟩ (invPa x m c) := by
  refine gc_sound [] [] rfl ?_ ?_
  · simp [invPa, leTm, leTV, List.replicate]
  · simp [invPa, leHp, leBlk, leSVs, leSV, rn, iv, leD, srcOf, hget, row64]
    exact fun i hi => h i 0 hi (by decide)

noncomputable def paT (lo hi st er : Int) (n : Nat) (L : Nat → Int) (last : Int) : Tr SV :=
  .ite (dB lo hi st er L n) (.ite (decide (dL lo st er L n ≤ last) && decide (last ≤ dH hi st er L n)) (.ret (.tup [.d (.ro (n + 1) 1 fun i _ => xi (pth lo hi st er n L last i)), iv 0])) (.ret (.tup [.d (.x (.slice none 0 0)), iv 4]))) (.ret (.tup [.d (.x (.slice none 0 0)), iv 440]))

theorem pa_sat (hv : dV lo hi st er) (hn : n ≤ 1000) {r : SV} (hr : (paT lo hi st er n L last).ev r) : Sat Try.prog (tPa lo hi st er n L last) (· = r) := by
  constructor
  rw [LPa_eq]; unfold LPa
  rw [show (fun i => intOf1 (DV.x (Value.int IntKind.i64 (L i)))) = L from rfl]
  refine ⟨⟨hv, hn, fun i hi => ⟨_, rfl⟩⟩, fun hc => ?_, fun hc => ?_⟩
  · have hb : dB lo hi st er L n = false := by
      cases h : dB lo hi st er L n with
      | false => rfl
      | true => simp [dE, h] at hc
    simp only [paT, hb, Tr.ev, Bool.false_eq_true, false_and, false_or, true_and] at hr
    subst hr
    simp only [Tree.sat, dE, hb, cond_false]
  have hb : dB lo hi st er L n = true := by
    cases h : dB lo hi st er L n with
    | true => rfl
    | false => simp [dE, h] at hc
  simp only [paT, hb, Tr.ev, Bool.true_eq_false, false_and, or_false, true_and] at hr
  rw [dCnt_all hb]
  have e : w64 (((n + 1 : Nat) : Int) - 1) = n := by rw [w64_of (by omega) (by omega)]; omega
  rw [e]
  simp only [Int.toNat_natCast]
  refine ⟨by omega, by decide, by decide, fun _ => by decide, fun _ => by decide, fun hc => ?_, fun hc => ?_⟩
  · have : (decide (dL lo st er L n ≤ last) && decide (last ≤ dH hi st er L n)) = false := by
      simp at hc ⊢; omega
    simp only [this, Bool.false_eq_true, false_and, false_or, true_and] at hr
    subst hr
    rfl
  have hin : (decide (dL lo st er L n ≤ last) && decide (last ≤ dH hi st er L n)) = true := by
    simp at hc ⊢; omega
  simp only [hin, Bool.true_eq_false, false_and, or_false, true_and] at hr
  subst hr
  refine ⟨by omega, ?_⟩
  have hv1 := vPa lo hi st er n L last
  rw [dCnt_all hb] at hv1
  refine range_satS C7x_ok D7x_ok (n := 200) (n0 := 9) (nx := 9) (roots := []) (drop := [1, 2, 3, 4, 7, 8]) (keep := [11, 18]) (h := .nil) (h' := .nil) (N := n + 1) (cPa lo hi st er n L last) (nPa lo hi st er n L last) (gPa lo hi st er n L last) hv1
    (bk_iter (n + 1) (scell (dL lo st er L) (dH hi st er L)) (by omega) _ rfl) (fun k hk => rfl) (enters_of Try.func76 (by kernel_rfl) rfl) naPa nbPa (tPaK lo hi st er n L last)
    (fun k s => s = invPa (pw lo hi st er n L last k) (n + 1) (cP lo hi st er n L last k)) ⟨_, rfl, ?_⟩ ?_ ?_
  · have hI := IPa_eq lo hi st er n L last
    unfold IPa inPa at hI
    refine (entR_sound hI).trans ?_
    rw [show (fun i => intOf1 (DV.x (Value.int IntKind.i64 (L i)))) = L from rfl, dCnt_all hb]
    refine invPa_gc fun i j hi2 hj => ?_
    obtain rfl : j = 0 := by omega
    simp only [cP]
    rw [if_neg (by omega)]
    rfl
  · rintro k s hk rfl
    have hbody : roundT Try.prog C7x D7x 200 9 [] [1, 2, 3, 4, 7, 8] 9 .nil aPa bPa ⟨parTm [55, 56] (bkEl (n + 1) (scell (dL lo st er L) (dH hi st er L)) k) TMPa, (invPa (pw lo hi st er n L last k) (n + 1) (cP lo hi st er n L last k)).hp, 9, .nil⟩ = _ :=
      BPa_eq (((n + 1 : Nat) : Int) - 1 - k) (dL lo st er L (n + 1 - 1 - k)) (dH hi st er L (n + 1 - 1 - k)) (pw lo hi st er n L last k) (n + 1) (cP lo hi st er n L last k)
    constructor
    refine Eq.mpr (congrArg (fun t => Tree.sat Try.prog t _) hbody) ?_
    unfold BPa
    have e1 : Int.toNat (((n + 1 : Nat) : Int) - 1 - k) = n - k := by omega
    simp only [lt_if, gt_if, e1, Nat.add_sub_cancel]
    refine ⟨by decide, by decide, by decide, by decide, by omega, by omega, rfl, _, rfl, ?_⟩
    rw [show min (max (pw lo hi st er n L last k) (dL lo st er L (n - k))) (dH hi st er L (n - k)) = pw lo hi st er n L last (k + 1) from rfl]
    refine invPa_gc fun i j hi2 hj => ?_
    obtain rfl : j = 0 := by omega
    rw [if_pos (by omega), selD_eq]
    by_cases h : i = n - k
    · subst h
      have e2 : cP lo hi st er n L last (k + 1) (n - k) = pw lo hi st er n L last (k + 1) := by
        simp only [cP, pth]
        rw [if_pos (by omega), show n + 1 - (n - k) = k + 1 by omega]
      rw [e2]
      simp
    · have : ¬ i = 0 + (n - k) := by omega
      simp only [this, decide_false, cond_false, cP]
      by_cases h2 : n + 1 - k ≤ i
      · rw [if_pos h2, if_pos (by omega)]
      · rw [if_neg h2, if_neg (by omega)]
  · rintro s rfl
    have hK : codeK (sub [0, 1, 0, 0, 0, 0, 0, 1, 0] (tPa lo hi st er n L last)) .normal ⟨TMPa, (invPa (pw lo hi st er n L last (n + 1)) (n + 1) (cP lo hi st er n L last (n + 1))).hp, (invPa (pw lo hi st er n L last (n + 1)) (n + 1) (cP lo hi st er n L last (n + 1))).next, .nil⟩ = _ := KPa_eq lo hi st er n L last (pw lo hi st er n L last (n + 1)) (n + 1) (cP lo hi st er n L last (n + 1))
    constructor
    rw [hK]
    unfold KPa
    refine ⟨by omega, ?_⟩
    simp only [Tree.sat, cP, Nat.zero_add, Nat.sub_self, Nat.zero_le, if_true]

noncomputable def cPath : Ctr := fun ss => match ss with
  | [.d (.x (.int .i64 lo)), .d (.x (.int .i64 hi)), .d (.x (.int .i64 st)), .d (.x (.int .i64 er)), .d (.ro n 1 cell), .d (.x (.int .i64 last))] =>
    .need (dV lo hi st er ∧ n ≤ 1000 ∧ ∀ i, i < n → ∃ b, cell i 0 = .x (.int .i64 b)) (paT lo hi st er n (intCell cell) last)
  | _ => .fail

theorem cPath_ok : CtrOK Try.prog 31 cPath := by
  refine ctrOK_leS C7x_ok D7x_ok (by kernel_rfl) (by kernel_rfl) fun ss r h => ?_
  unfold cPath at h
  split at h
  · rename_i lo hi st er n cell last
    obtain ⟨⟨hv, hn, hb⟩, h⟩ := h
    refine ⟨[iv lo, iv hi, iv st, iv er, ro64 n (intCell cell), iv last], 200, .nil, ?_, pa_sat hv hn h⟩
    simp only [leSVs, leSV, iv, ro64, leD, and_true, true_and]
    exact le_ro64 hb
  · exact h.elim

end Go.Proofs.Ytcbjclmjkilphaa

namespace Go.Proofs.Ytcbjclmjkilphaa
open Go.Sx
set_option maxRecDepth 100000

/-! ### drift.Spans -/

noncomputable def inl8 : FuncId → Bool := fun k => k == 58
noncomputable def C8x : Ctx := ctxN Try.prog man4 inl8 200 .nil 4
theorem C8x_ok : CtxOK Try.prog C8x := ctxN_ok mixed (fun k c h => by
  unfold man4 at h
  split at h
  · rename_i e; cases h; subst e; exact ⟨cSpans_ok, by kernel_rfl⟩
  · cases h) 4
noncomputable def D8x : Dr := fun _ => drawn Try.prog C8x
theorem D8x_ok : DrOK Try.prog C8x D8x := drawn_ok C8x_ok mixed

noncomputable def tSn (lo hi st er : Int) (n : Nat) (L : Nat → Int) : Tree SV := fnT Try.prog C8x D8x 200 (fnOf Try.prog 63) (bodyOf Try.prog 63) [iv lo, iv hi, iv st, iv er, ro64 n L] .nil

noncomputable def LSn (lo hi st er : Int) (n : Nat) (L : Nat → Int) : Tree SV :=
  .need (dV lo hi st er ∧ n ≤ 1000 ∧ ∀ (i : Nat), i < n → ∃ b, (fun i x => DV.x (.int .i64 (L i))) i (0 : Nat) = DV.x (.int .i64 b))
  (.ite (dE lo hi st er (fun i => intOf1 (DV.x (.int .i64 (L i)))) n != (0 : Int))
    (.ret (.tup [.d (DV.x (.slice none 0 0)), iv (dE lo hi st er (fun i => intOf1 (DV.x (.int .i64 (L i)))) n)]))
    (.need
      ((0 : Int) ≤ (↑(dCnt lo hi st er (fun i => intOf1 (DV.x (.int .i64 (L i)))) n + 1) : Int) ∧
        (↑(dCnt lo hi st er (fun i => intOf1 (DV.x (.int .i64 (L i)))) n + 1) : Int) ≤ (↑(dCnt lo hi st er (fun i => intOf1 (DV.x (.int .i64 (L i)))) n + 1) : Int) ∧
          (↑(dCnt lo hi st er (fun i => intOf1 (DV.x (.int .i64 (L i)))) n + 1) : Int) * (16 : Int) ≤ (140737488355328 : Int))
      (.need
        ((0 : Int) ≤ w64 ((↑(dCnt lo hi st er (fun i => intOf1 (DV.x (.int .i64 (L i)))) n + 1) : Int) - (1 : Int)) ∧
          w64 ((↑(dCnt lo hi st er (fun i => intOf1 (DV.x (.int .i64 (L i)))) n + 1) : Int) - (1 : Int)) < (↑(dCnt lo hi st er (fun i => intOf1 (DV.x (.int .i64 (L i)))) n + 1) : Int))
        (.code (codeC (sub [(0 : Nat), (1 : Nat), (0 : Nat), (0 : Nat)] (tSn lo hi st er n L))) (codeS (sub [(0 : Nat), (1 : Nat), (0 : Nat), (0 : Nat)] (tSn lo hi st er n L)))
          (codeK (sub [(0 : Nat), (1 : Nat), (0 : Nat), (0 : Nat)] (tSn lo hi st er n L)))))))

theorem LSn_eq (lo hi st er : Int) (n : Nat) (L : Nat → Int) : tSn lo hi st er n L = LSn lo hi st er n L := by kernel_rfl

noncomputable def pSn : List Nat := [0, 1, 0, 0]
noncomputable def TMSn : List TV := List.replicate 12 .unk ++ [.ok (.ptr 0 0), .ok (.ptr 1 0), .unk, .ok (.ptr 5 0), .ok (.ptr 7 0)] ++ List.replicate 45 .unk
noncomputable def invSn (lo hi st er : Int) (N : Nat) (sl sh : Nat → Int) (x y : Int) (m : Nat) (cl ch : Nat → Int) : AS :=
  ⟨List.replicate 62 .unk, [some (.cells [iv lo, iv hi, iv st, iv er]), some (.cells [.d (.ro N 2 (scell sl sh))]), none, none, some (.row m 2 (scell cl ch)), some (.cells [.row 4 0 0 m 2]), none, some (.cells [iv x, iv y]), none, none], 10, .nil⟩
noncomputable def aSn : Code := rgA (rangeN (bodyOf Try.prog 63) 0)
noncomputable def bSn : Code := rgB (rangeN (bodyOf Try.prog 63) 0)
noncomputable def rSn (i a b lo hi st er : Int) (N : Nat) (sl sh : Nat → Int) (x y : Int) (m : Nat) (cl ch : Nat → Int) : Tree (Ex × AS) := roundT Try.prog C8x D8x 200 10 [] [2, 3, 6, 8, 9] 10 .nil aSn bSn ⟨parTm [43, 44] [iv i, .agg [iv a, iv b]] TMSn, (invSn lo hi st er N sl sh x y m cl ch).hp, 10, .nil⟩
noncomputable def BSn (i a b lo hi st er : Int) (N : Nat) (sl sh : Nat → Int) (x y : Int) (m : Nat) (cl ch : Nat → Int) : Tree (Ex × AS) :=
  .need ((0 : Int) ≤ (0 : Int) ∧ (0 : Int) < (2 : Int))
  (.need (0 < 2)
   (.need ((0 : Int) ≤ (1 : Int) ∧ (1 : Int) < (2 : Int))
   (.need (1 < 2)
   (.need ((0 : Int) ≤ (0 : Int) ∧ (0 : Int) < (2 : Int))
   (.need (0 < 2)
   (.need ((0 : Int) ≤ (0 : Int) ∧ (0 : Int) < (2 : Int))
   (.need (0 < 2)
   (.need ((0 : Int) ≤ (1 : Int) ∧ (1 : Int) < (2 : Int))
   (.need (1 < 2)
   (.need ((0 : Int) ≤ (1 : Int) ∧ (1 : Int) < (2 : Int))
   (.need (1 < 2)
   (.ite (i == w64 ((↑N : Int) - (1 : Int)))
   (.need ((0 : Int) ≤ i ∧ i < (↑m : Int))
   (.need (0 + Int.toNat i < m)
   (.ret
   (.normal,
   {
   tm :=
   [.unk, .unk, .unk, .unk, .unk, .unk, .unk, .unk, .unk, .unk, .unk, .unk, .unk, .unk, .unk, .unk, .unk, .unk, .unk, .unk, .unk, .unk, .unk, .unk, .unk,
   .unk, .unk, .unk, .unk, .unk, .unk, .unk, .unk, .unk, .unk, .unk, .unk, .unk, .unk, .unk, .unk, .unk, .unk, .unk, .unk, .unk, .unk, .unk, .unk, .unk,
   .unk, .unk, .unk, .unk, .unk, .unk, .unk, .unk, .unk, .unk, .unk, .unk],
   hp :=
   [some (.cells [iv lo, iv hi, iv st, iv er]),
   some
   (.cells
   [.d
   (DV.ro N 2 fun a b =>
   match b with
   | (0 : Nat) => DV.x (.int .i64 (sl a))
   | x => DV.x (.int .i64 (sh a)))]),
   none, none,
   some
   (.row m 2 fun a_1 b_1 =>
   if 0 ≤ b_1 ∧ b_1 < 2 then
   selD (decide (a_1 = 0 + Int.toNat i))
   (match [DV.x (.int .i64 a), DV.x (.int .i64 b)][b_1 - 0]? with
   | some x => x
   | none => DV.x (.tuple { toList := [] }))
   (scell cl ch a_1 b_1)
   else scell cl ch a_1 b_1),
   some (.cells [.row 4 0 0 m 2]), none, some (.cells [iv a, iv b]), none, none],
   next := 10, hint := .nil }))))
   (.need ((0 : Int) ≤ i ∧ i < (↑m : Int))
   (.need (0 + Int.toNat i < m)
   (.ret
   (.normal,
   {
   tm :=
   [.unk, .unk, .unk, .unk, .unk, .unk, .unk, .unk, .unk, .unk, .unk, .unk, .unk, .unk, .unk, .unk, .unk, .unk, .unk, .unk, .unk, .unk, .unk, .unk, .unk,
   .unk, .unk, .unk, .unk, .unk, .unk, .unk, .unk, .unk, .unk, .unk, .unk, .unk, .unk, .unk, .unk, .unk, .unk, .unk, .unk, .unk, .unk, .unk, .unk, .unk,
   .unk, .unk, .unk, .unk, .unk, .unk, .unk, .unk, .unk, .unk, .unk, .unk],
   hp :=
   [some (.cells [iv lo, iv hi, iv st, iv er]),
   some
   (.cells
   [.d
   (DV.ro N 2 fun a b =>
   match b with
   | (0 : Nat) => DV.x (.int .i64 (sl a))
   | x => DV.x (.int .i64 (sh a)))]),
   none, none,
   some
   (.row m 2 fun a_1 b_1 =>
   if 0 ≤ b_1 ∧ b_1 < 2 then
   selD (decide (a_1 = 0 + Int.toNat i))
   (match [DV.x (.int .i64 (if w64 (x - st) > a then w64 (x - st) else a)), DV.x (.int .i64 (if w64 (y + st) < b then w64 (y + st) else b))][b_1 - 0]? with
   | some x => x
   | none => DV.x (.tuple { toList := [] }))
   (scell cl ch a_1 b_1)
   else scell cl ch a_1 b_1),
   some (.cells [.row 4 0 0 m 2]), none,
   some (.cells [iv (if w64 (x - st) > a then w64 (x - st) else a), iv (if w64 (y + st) < b then w64 (y + st) else b)]), none, none],
   next := 10, hint := .nil }))))))))))))))))

theorem BSn_eq (i a b lo hi st er : Int) (N : Nat) (sl sh : Nat → Int) (x y : Int) (m : Nat) (cl ch : Nat → Int) : rSn i a b lo hi st er N sl sh x y m cl ch = BSn i a b lo hi st er N sl sh x y m cl ch := by kernel_rfl

noncomputable def inSn (t : Tree SV) : Option AS := entR 10 [9] [] [2, 3, 6, 8, 9] 10 .nil t
noncomputable def ISn (lo hi st er : Int) (n : Nat) (L : Nat → Int) : Option AS :=
  some
  {
   tm :=
   [.unk, .unk, .unk, .unk, .unk, .unk, .unk, .unk, .unk, .unk, .unk, .unk, .unk, .unk, .unk, .unk, .unk, .unk, .unk, .unk, .unk, .unk, .unk, .unk, .unk, .unk, .unk, .unk, .unk,
   .unk, .unk, .unk, .unk, .unk, .unk, .unk, .unk, .unk, .unk, .unk, .unk, .unk, .unk, .unk, .unk, .unk, .unk, .unk, .unk, .unk, .unk, .unk, .unk, .unk, .unk, .unk, .unk, .unk,
   .unk, .unk, .unk, .unk],
   hp :=
   [some (.cells [iv lo, iv hi, iv st, iv er]),
   some
   (.cells
   [.d
   (DV.ro (dCnt lo hi st er (fun i => intOf1 (DV.x (.int .i64 (L i)))) n + 1) 2 fun a b =>
   match b with
   | (0 : Nat) => DV.x (.int .i64 (dL lo st er (fun i => intOf1 (DV.x (.int .i64 (L i)))) a))
   | x => DV.x (.int .i64 (dH hi st er (fun i => intOf1 (DV.x (.int .i64 (L i)))) a)))]),
   none, none,
   some
   (.row (Int.toNat (↑(dCnt lo hi st er (fun i => intOf1 (DV.x (.int .i64 (L i)))) n + 1) : Int)) 2 fun x j =>
   match [DV.x (.int .i64 (0 : Int)), DV.x (.int .i64 (0 : Int))][j]? with
   | some x => x
   | none => DV.x (.tuple { toList := [] })),
   some (.cells [.row 4 0 0 (Int.toNat (↑(dCnt lo hi st er (fun i => intOf1 (DV.x (.int .i64 (L i)))) n + 1) : Int)) 2]), none,
   some
   (.cells
   [iv (dL lo st er (fun i => intOf1 (DV.x (.int .i64 (L i)))) (Int.toNat (w64 ((↑(dCnt lo hi st er (fun i => intOf1 (DV.x (.int .i64 (L i)))) n + 1) : Int) - (1 : Int))))),
   iv (dH hi st er (fun i => intOf1 (DV.x (.int .i64 (L i)))) (Int.toNat (w64 ((↑(dCnt lo hi st er (fun i => intOf1 (DV.x (.int .i64 (L i)))) n + 1) : Int) - (1 : Int)))))]),
   none, none],
   next := 10, hint := .nil }

theorem ISn_eq (lo hi st er : Int) (n : Nat) (L : Nat → Int) : inSn (sub pSn (tSn lo hi st er n L)) = ISn lo hi st er n L := by kernel_rfl

noncomputable def KSn (qlo qhi qst qer : Int) (n : Nat) (L : Nat → Int) (lo hi st er : Int) (N : Nat) (sl sh : Nat → Int) (x y : Int) (m : Nat) (cl ch : Nat → Int) : Tree SV :=
  .need (0 + m ≤ m) (.ret (.tup [.d (DV.ro m 2 fun i j => scell cl ch (0 + i) j), iv (0 : Int)]))

theorem KSn_eq (qlo qhi qst qer : Int) (n : Nat) (L : Nat → Int) (lo hi st er : Int) (N : Nat) (sl sh : Nat → Int) (x y : Int) (m : Nat) (cl ch : Nat → Int) : codeK (sub pSn (tSn qlo qhi qst qer n L)) .normal ⟨TMSn, (invSn lo hi st er N sl sh x y m cl ch).hp, 10, .nil⟩ = KSn qlo qhi qst qer n L lo hi st er N sl sh x y m cl ch := by kernel_rfl

theorem cSn (lo hi st er : Int) (n : Nat) (L : Nat → Int) : codeC (sub pSn (tSn lo hi st er n L)) = .rangeFunc (.tmp 42) #[43, 44] aSn bSn := by kernel_rfl
theorem nSn (lo hi st er : Int) (n : Nat) (L : Nat → Int) : Nat.ble (codeS (sub pSn (tSn lo hi st er n L))).next 10 = true := by kernel_rfl
theorem gSn (lo hi st er : Int) (n : Nat) (L : Nat → Int) : tvStrict none (tget (codeS (sub pSn (tSn lo hi st er n L))).tm 42) = some (.fn (.func 76) [] [.ptr 9 0]) := by kernel_rfl
theorem vSn (lo hi st er : Int) (n : Nat) (L : Nat → Int) : capV (codeS (sub pSn (tSn lo hi st er n L))).hp [.ptr 9 0] = some ([.rop 1 fun j => [DV.ro (dCnt lo hi st er L n + 1) 2 (scell (dL lo st er L) (dH hi st er L))].getD j (.x undef)], [9]) := by kernel_rfl
theorem tSnK (lo hi st er : Int) (n : Nat) (L : Nat → Int) : keepTm [12, 13, 15, 16] 0 (codeS (sub pSn (tSn lo hi st er n L))).tm = TMSn := by kernel_rfl
theorem naSn : noRange aSn = true := by kernel_rfl
theorem nbSn : noRange bSn = true := by kernel_rfl

end Go.Proofs.Ytcbjclmjkilphaa

namespace Go.Proofs.Ytcbjclmjkilphaa
open Go.Sx
set_option linter.constructorNameAsVariable false
set_option maxRecDepth 100000
variable {lo hi st er : Int} {L : Nat → Int} {n k : Nat}

/-! ### drift.Spans -/

/-- The span told last, behind k rounds. -/
def stL (lo st er : Int) (n : Nat) (L : Nat → Int) : Nat → Int
  | 0 => dL lo st er L n
  | k + 1 => if k = 0 then dL lo st er L n else max (dL lo st er L (n - k)) (stL lo st er n L k - st)
def stH (hi st er : Int) (n : Nat) (L : Nat → Int) : Nat → Int
  | 0 => dH hi st er L n
  | k + 1 => if k = 0 then dH hi st er L n else min (dH hi st er L (n - k)) (stH hi st er n L k + st)
/-- The spans. -/
def sL (lo st er : Int) (n : Nat) (L : Nat → Int) (i : Nat) : Int := stL lo st er n L (n + 1 - i)
def sH (hi st er : Int) (n : Nat) (L : Nat → Int) (i : Nat) : Int := stH hi st er n L (n + 1 - i)
def cut0 (n k : Nat) (f : Nat → Int) (i : Nat) : Int := if n + 1 - k ≤ i then f i else 0

theorem stL_b (hv : dV lo hi st er) : ∀ k, 1 ≤ stL lo st er n L k ∧ stL lo st er n L k ≤ 2000000000
  | 0 => dL_b hv n
  | k + 1 => by
    have ih := stL_b hv k
    have h1 := dL_b hv (L := L) (n - k)
    have h2 := dL_b hv (L := L) n
    have := hv.s
    simp only [stL]; split <;> omega
theorem stH_b (hv : dV lo hi st er) : ∀ k, -2001000000 ≤ stH hi st er n L k ∧ stH hi st er n L k ≤ 2000000000
  | 0 => dH_b hv n
  | k + 1 => by
    have ih := stH_b hv k
    have h1 := dH_b hv (L := L) (n - k)
    have h2 := dH_b hv (L := L) n
    have := hv.s
    simp only [stH]; split <;> omega

theorem invSn_gc {N m : Nat} {sl sh : Nat → Int} {x y : Int} {c' : Nat → Nat → DV} {cl ch : Nat → Int} (h : ∀ i j, i < m → j < 2 → c' i j = scell cl ch i j) :
    Gc 10 ⟨List.replicate 62 .unk, [some (.cells [iv lo, iv hi, iv st, iv er]), some (.cells [.d (.ro N 2 (scell sl sh))]), none, none, some (.row m 2 c'), some (.cells [.row 4 0 0 m 2]), none, some (.cells [iv x, iv y]), none, none], 10, .nil⟩ (invSn lo hi st er N sl sh x y m cl ch) := by
  refine gc_sound [] [] rfl ?_ ?_
  · simp [invSn, leTm, leTV, List.replicate]
  · simp [invSn, leHp, leBlk, leSVs, leSV, rn, iv, leD, srcOf, hget]
    exact h

theorem Sat.of_eq {α : Type} {P : Program} {t t' : Tree α} {Q : α → Prop} (h : t = t') (k : Sat P t' Q) : Sat P t Q := h ▸ k

noncomputable def snT (lo hi st er : Int) (n : Nat) (L : Nat → Int) : Tr SV :=
  .ite (dB lo hi st er L n) (.ret (.tup [.d (.ro (n + 1) 2 (scell (sL lo st er n L) (sH hi st er n L))), iv 0])) (.ret (.tup [.d (.x (.slice none 0 0)), iv 440]))

theorem row2 {c f : Nat → Int} {A : Int} {i q : Nat} (h1 : i = q → A = f i) (h2 : i ≠ q → c i = f i) : selD (decide (i = q)) (xi A) (xi (c i)) = xi (f i) := by
  rw [selD_eq]
  by_cases h : i = q
  · simp only [h, decide_true, cond_true]; rw [h1 h, h]
  · simp only [h, decide_false, cond_false]; rw [h2 h]

theorem sn_sat (hv : dV lo hi st er) (hn : n ≤ 1000) {r : SV} (hr : (snT lo hi st er n L).ev r) : Sat Try.prog (tSn lo hi st er n L) (· = r) := by
  constructor
  rw [LSn_eq]; unfold LSn
  rw [show (fun i => intOf1 (DV.x (Value.int IntKind.i64 (L i)))) = L from rfl]
  refine ⟨⟨hv, hn, fun i hi => ⟨_, rfl⟩⟩, fun hc => ?_, fun hc => ?_⟩
  · have hb : dB lo hi st er L n = false := by
      cases h : dB lo hi st er L n with
      | false => rfl
      | true => simp [dE, h] at hc
    simp only [snT, hb, Tr.ev, Bool.false_eq_true, false_and, false_or, true_and] at hr
    subst hr
    simp only [Tree.sat, dE, hb, cond_false]
  have hb : dB lo hi st er L n = true := by
    cases h : dB lo hi st er L n with
    | true => rfl
    | false => simp [dE, h] at hc
  simp only [snT, hb, Tr.ev, Bool.true_eq_false, false_and, or_false, true_and] at hr
  subst hr
  rw [dCnt_all hb]
  have e : w64 (((n + 1 : Nat) : Int) - 1) = n := by rw [w64_of (by omega) (by omega)]; omega
  rw [e]
  refine ⟨by omega, by omega, ?_⟩
  have hv1 := vSn lo hi st er n L
  rw [dCnt_all hb] at hv1
  refine range_satS C8x_ok D8x_ok (n := 200) (n0 := 10) (nx := 10) (roots := []) (drop := [2, 3, 6, 8, 9]) (keep := [12, 13, 15, 16]) (h := .nil) (h' := .nil) (N := n + 1) (cSn lo hi st er n L) (nSn lo hi st er n L) (gSn lo hi st er n L) hv1
    (bk_iter (n + 1) (scell (dL lo st er L) (dH hi st er L)) (by omega) _ rfl) (fun k hk => rfl) (enters_of Try.func76 (by kernel_rfl) rfl) naSn nbSn (tSnK lo hi st er n L)
    (fun k s => s = invSn lo hi st er (n + 1) (dL lo st er L) (dH hi st er L) (stL lo st er n L k) (stH hi st er n L k) (n + 1) (cut0 n k (sL lo st er n L)) (cut0 n k (sH hi st er n L))) ⟨_, rfl, ?_⟩ ?_ ?_
  · have hI := ISn_eq lo hi st er n L
    unfold ISn inSn at hI
    refine (entR_sound hI).trans ?_
    rw [show (fun i => intOf1 (DV.x (Value.int IntKind.i64 (L i)))) = L from rfl, dCnt_all hb, e]
    refine invSn_gc fun i j hi2 hj => ?_
    have : j = 0 ∨ j = 1 := by omega
    rcases this with rfl | rfl
    · simp only [scell, cut0]; rw [if_neg (by omega)]; rfl
    · simp only [scell, cut0]; rw [if_neg (by omega)]; rfl
  · rintro k s hk rfl
    have hbody : roundT Try.prog C8x D8x 200 10 [] [2, 3, 6, 8, 9] 10 .nil aSn bSn ⟨parTm [43, 44] (bkEl (n + 1) (scell (dL lo st er L) (dH hi st er L)) k) TMSn, (invSn lo hi st er (n + 1) (dL lo st er L) (dH hi st er L) (stL lo st er n L k) (stH hi st er n L k) (n + 1) (cut0 n k (sL lo st er n L)) (cut0 n k (sH hi st er n L))).hp, 10, .nil⟩ = _ :=
      BSn_eq (((n + 1 : Nat) : Int) - 1 - k) (dL lo st er L (n + 1 - 1 - k)) (dH hi st er L (n + 1 - 1 - k)) lo hi st er (n + 1) (dL lo st er L) (dH hi st er L) (stL lo st er n L k) (stH hi st er n L k) (n + 1) (cut0 n k (sL lo st er n L)) (cut0 n k (sH hi st er n L))
    refine Sat.of_eq hbody ?_
    constructor
    unfold BSn
    have b1 := stL_b hv (n := n) (L := L) k
    have b2 := stH_b hv (n := n) (L := L) k
    have := hv.s
    have e1 : Int.toNat (((n + 1 : Nat) : Int) - 1 - k) = n - k := by omega
    rw [w64_of (n := stL lo st er n L k - st) (by omega) (by omega), w64_of (n := stH hi st er n L k + st) (by omega) (by omega)]
    simp only [lt_if, gt_if, e1, e, Nat.add_sub_cancel]
    iterate 12 (refine ⟨by decide, ?_⟩)
    have hL1 : sL lo st er n L (n - k) = stL lo st er n L (k + 1) := by unfold sL; rw [show n + 1 - (n - k) = k + 1 by omega]
    have hH1 : sH hi st er n L (n - k) = stH hi st er n L (k + 1) := by unfold sH; rw [show n + 1 - (n - k) = k + 1 by omega]
    have hc1 : ∀ f : Nat → Int, cut0 n (k + 1) f (n - k) = f (n - k) := fun f => by simp only [cut0]; rw [if_pos (by omega)]
    have hc2 : ∀ (f : Nat → Int) (i : Nat), i ≠ n - k → i < n + 1 → cut0 n (k + 1) f i = cut0 n k f i := fun f i h hi2 => by
      simp only [cut0]
      by_cases h2 : n + 1 - k ≤ i
      · rw [if_pos h2, if_pos (by omega)]
      · rw [if_neg h2, if_neg (by omega)]
    refine ⟨fun hc => ⟨by omega, by omega, rfl, _, rfl, ?_⟩, fun hc => ⟨by omega, by omega, rfl, _, rfl, ?_⟩⟩
    · have hk0 : k = 0 := by simp at hc; omega
      have f1 : stL lo st er n L (k + 1) = dL lo st er L (n - k) := by simp [stL, hk0]
      have f2 : stH hi st er n L (k + 1) = dH hi st er L (n - k) := by simp [stH, hk0]
      rw [← f1, ← f2]
      refine invSn_gc fun i j hi2 hj => ?_
      rw [Nat.zero_add]
      have hj2 : j = 0 ∨ j = 1 := by omega
      rcases hj2 with rfl | rfl
      · rw [if_pos (by decide)]
        exact row2 (f := cut0 n (k + 1) (sL lo st er n L)) (fun h => by rw [h, hc1, hL1]) (fun h => (hc2 _ i h hi2).symm)
      · rw [if_pos (by decide)]
        exact row2 (f := cut0 n (k + 1) (sH hi st er n L)) (fun h => by rw [h, hc1, hH1]) (fun h => (hc2 _ i h hi2).symm)
    · have hk0 : k ≠ 0 := by simp at hc; omega
      have f1 : stL lo st er n L (k + 1) = max (dL lo st er L (n - k)) (stL lo st er n L k - st) := by simp [stL, hk0]
      have f2 : stH hi st er n L (k + 1) = min (dH hi st er L (n - k)) (stH hi st er n L k + st) := by simp [stH, hk0]
      rw [← f1, ← f2]
      refine invSn_gc fun i j hi2 hj => ?_
      rw [Nat.zero_add]
      have hj2 : j = 0 ∨ j = 1 := by omega
      rcases hj2 with rfl | rfl
      · rw [if_pos (by decide)]
        exact row2 (f := cut0 n (k + 1) (sL lo st er n L)) (fun h => by rw [h, hc1, hL1]) (fun h => (hc2 _ i h hi2).symm)
      · rw [if_pos (by decide)]
        exact row2 (f := cut0 n (k + 1) (sH hi st er n L)) (fun h => by rw [h, hc1, hH1]) (fun h => (hc2 _ i h hi2).symm)
  · rintro s rfl
    have hK : codeK (sub pSn (tSn lo hi st er n L)) .normal ⟨TMSn, (invSn lo hi st er (n + 1) (dL lo st er L) (dH hi st er L) (stL lo st er n L (n + 1)) (stH hi st er n L (n + 1)) (n + 1) (cut0 n (n + 1) (sL lo st er n L)) (cut0 n (n + 1) (sH hi st er n L))).hp,
       (invSn lo hi st er (n + 1) (dL lo st er L) (dH hi st er L) (stL lo st er n L (n + 1)) (stH hi st er n L (n + 1)) (n + 1) (cut0 n (n + 1) (sL lo st er n L)) (cut0 n (n + 1) (sH hi st er n L))).next, .nil⟩ = _ :=
      KSn_eq lo hi st er n L lo hi st er (n + 1) (dL lo st er L) (dH hi st er L) (stL lo st er n L (n + 1)) (stH hi st er n L (n + 1)) (n + 1) (cut0 n (n + 1) (sL lo st er n L)) (cut0 n (n + 1) (sH hi st er n L))
    refine Sat.of_eq hK ?_
    constructor
    unfold KSn
    refine ⟨by omega, ?_⟩
    have hcut : ∀ f : Nat → Int, cut0 n (n + 1) f = f := fun f => by funext i; simp [cut0]
    simp only [Tree.sat, hcut, Nat.zero_add]

noncomputable def cSpn : Ctr := fun ss => match ss with
  | [.d (.x (.int .i64 lo)), .d (.x (.int .i64 hi)), .d (.x (.int .i64 st)), .d (.x (.int .i64 er)), .d (.ro n 1 cell)] =>
    .need (dV lo hi st er ∧ n ≤ 1000 ∧ ∀ i, i < n → ∃ b, cell i 0 = .x (.int .i64 b)) (snT lo hi st er n (intCell cell))
  | _ => .fail

theorem cSpn_ok : CtrOK Try.prog 63 cSpn := by
  refine ctrOK_leS C8x_ok D8x_ok (by kernel_rfl) (by kernel_rfl) fun ss r h => ?_
  unfold cSpn at h
  split at h
  · rename_i lo hi st er n cell
    obtain ⟨⟨hv, hn, hb⟩, h⟩ := h
    refine ⟨[iv lo, iv hi, iv st, iv er, ro64 n (intCell cell)], 200, .nil, ?_, sn_sat hv hn h⟩
    simp only [leSVs, leSV, iv, ro64, leD, and_true, true_and]
    exact le_ro64 hb
  · exact h.elim

end Go.Proofs.Ytcbjclmjkilphaa

namespace Go.Proofs.Ytcbjclmjkilphaa
open Go.Sx
set_option maxRecDepth 100000

noncomputable def manX : FuncId → Option Ctr := fun k => if k = 31 then some cPath else if k = 63 then some cSpn else none
theorem manX_ok (k : Nat) (c : Ctr) (h : manX k = some c) : CtrOK Try.prog k c ∧ goodF Try.prog k = true := by
  unfold manX at h
  split at h
  · rename_i e; cases h; subst e; exact ⟨cPath_ok, by kernel_rfl⟩
  split at h
  · rename_i e; cases h; subst e; exact ⟨cSpn_ok, by kernel_rfl⟩
  · cases h
noncomputable def CX4 : Ctx := ctxN Try.prog manX inl3 200 .run 12
theorem CX4_ok : CtxOK Try.prog CX4 := ctxN_ok mixed manX_ok 12

noncomputable def XE  : Tr SV :=
  Tr.need (1 ≤ 1)
  (Tr.need (1 ≤ 1)
   (Tr.need (1 ≤ 1)
   (Tr.need (1 ≤ 1)
   (Tr.need
   (dV (990 : Int) (1010 : Int) (5 : Int) (10 : Int) ∧
   1 ≤ 1000 ∧
   ∀ (i : Nat),
   i < (1 : Nat) →
   ∃ b,
   (fun i j => dsAt ((fun x => DV.x (.int .i64 (1020 : Int)) :: x) []) ((0 : Nat) + ((0 : Nat) + i) * (fun x => TypeInfo.size x) (Tables.types (Program.toTables Try.prog))[(3 : Nat)] + j)) i (0 : Nat) =
   DV.x (.int .i64 b))
   (Tr.need (2 ≤ 2)
   (Tr.need (2 ≤ 2)
   (Tr.need (2 ≤ 2)
   (Tr.need (2 ≤ 2)
   (Tr.need
   (dV (990 : Int) (1010 : Int) (5 : Int) (10 : Int) ∧
   2 ≤ 1000 ∧
   ∀ (i : Nat),
   i < (2 : Nat) →
   ∃ b,
   (fun i j =>
   dsAt ((fun x => DV.x (.int .i64 (1020 : Int)) :: x) ((fun x => DV.x (.int .i64 (1030 : Int)) :: x) []))
   ((0 : Nat) + ((0 : Nat) + i) * (fun x => TypeInfo.size x) (Tables.types (Program.toTables Try.prog))[(3 : Nat)] + j))
   i (0 : Nat) =
   DV.x (.int .i64 b))
   (Tr.need (True ∧ 2 ≤ 2 ∧ 16 ≤ 140737488355328)
   (Tr.need (1 ≤ 1 ∧ 2 ≤ 2 ∧ 32 ≤ 140737488355328)
   (Tr.need (2 ≤ 2)
   (Tr.need (True ∧ 2 ≤ 2 ∧ 16 ≤ 140737488355328)
   (Tr.need (1 ≤ 1 ∧ 2 ≤ 2 ∧ 32 ≤ 140737488355328)
   (Tr.need (2 ≤ 2 ∧ 2 ≤ 2 ∧ 48 ≤ 140737488355328)
   (Tr.need (3 ≤ 3)
   (Tr.need (4 ≤ 4)
   (Tr.need (3 ≤ 3)
   (Tr.need (2 ≤ 2)
   (Tr.need (True ∧ (0 : Int) ≤ (1 : Int) ∧ 1 ≤ 2)
   (Tr.need (2 ≤ 2)
   (Tr.need (True ∧ (0 : Int) ≤ (1 : Int) ∧ 1 ≤ 2)
   (Tr.need (2 ≤ 2)
   (Tr.need (True ∧ (0 : Int) ≤ (1 : Int) ∧ 1 ≤ 2)
   (Tr.need (2 ≤ 2)
   (Tr.need (True ∧ (0 : Int) ≤ (1 : Int) ∧ 1 ≤ 2)
   (Tr.need (2 ≤ 2)
   (Tr.need (True ∧ (0 : Int) ≤ (1 : Int) ∧ 1 ≤ 2)
   (Tr.need (1 ≤ 1)
   (Tr.need (True ∧ 2 ≤ 2 ∧ 16 ≤ 140737488355328)
   (Tr.need (1 ≤ 1)
   (Tr.need (4 ≤ 4)
   (Tr.need (4 ≤ 4)
   (Tr.need (2 ≤ 2)
   (Tr.need (True ∧ (0 : Int) ≤ (1 : Int) ∧ 1 ≤ 2)
   (Tr.need (2 ≤ 2)
   (Tr.need (True ∧ (0 : Int) ≤ (1 : Int) ∧ 1 ≤ 2)
   (Tr.need (2 ≤ 2)
   (Tr.need (True ∧ (0 : Int) ≤ (1 : Int) ∧ 1 ≤ 2)
   (Tr.need (2 ≤ 2)
   (Tr.need (True ∧ (0 : Int) ≤ (1 : Int) ∧ 1 ≤ 2)
   (Tr.need (2 ≤ 2)
   (Tr.need (True ∧ (0 : Int) ≤ (1 : Int) ∧ 1 ≤ 2)
   (Tr.need (2 ≤ 2)
   (Tr.need (True ∧ (0 : Int) ≤ (1 : Int) ∧ 1 ≤ 2)
   (Tr.need (2 ≤ 2)
   (Tr.need (True ∧ (0 : Int) ≤ (1 : Int) ∧ 1 ≤ 2)
   (Tr.need (2 ≤ 2)
   (Tr.need (True ∧ (0 : Int) ≤ (1 : Int) ∧ 1 ≤ 2)
   (Tr.need (2 ≤ 2)
   (Tr.need (True ∧ (0 : Int) ≤ (1 : Int) ∧ 1 ≤ 2)
   (Tr.need (2 ≤ 2)
   (Tr.need (True ∧ (0 : Int) ≤ (1 : Int) ∧ 1 ≤ 2)
   (Tr.need (2 ≤ 2)
   (Tr.need (True ∧ (0 : Int) ≤ (1 : Int) ∧ 1 ≤ 2)
   (Tr.need (2 ≤ 2)
   (Tr.need (True ∧ (0 : Int) ≤ (1 : Int) ∧ 1 ≤ 2)
   (Tr.need (2 ≤ 2)
   (Tr.need (True ∧ (0 : Int) ≤ (1 : Int) ∧ 1 ≤ 2)
   (Tr.need (2 ≤ 2)
   (Tr.need (True ∧ (0 : Int) ≤ (1 : Int) ∧ 1 ≤ 2)
   (Tr.need (2 ≤ 2)
   (Tr.need (True ∧ (0 : Int) ≤ (1 : Int) ∧ 1 ≤ 2)
   (Tr.need (2 ≤ 2)
   (Tr.need (True ∧ (0 : Int) ≤ (1 : Int) ∧ 1 ≤ 2)
   (Tr.need (3 ≤ 3)
   (Tr.ret (bv true))))))))))))))))))))))))))))))))))))))))))))))))))))))))))))))))))))

theorem XE_eq  : autoC Try.prog CX4 200 32 .run [] = XE  := by kernel_rfl


theorem sat_step {p : Prop} {t : Tr SV} {r : SV} (h1 : p) (h2 : t.ev r) : (Tr.need p t).ev r := ⟨h1, h2⟩

theorem ex44 : (autoC Try.prog CX4 200 32 .run []).ev (bv true) := by
  rw [XE_eq]; unfold XE
  refine sat_step (by decide) (sat_step (by decide) (sat_step (by decide) (sat_step (by decide) (sat_step ⟨⟨by decide, by decide, by decide, by decide⟩, by decide, fun i hi => ?_⟩ (sat_step (by decide) (sat_step (by decide) (sat_step (by decide) (sat_step (by decide) (sat_step ⟨⟨by decide, by decide, by decide, by decide⟩, by decide, fun i hi => ?_⟩ ?_)))))))))
  · obtain rfl : i = 0 := by omega
    exact ⟨1020, by kernel_rfl⟩
  · have : i = 0 ∨ i = 1 := by omega
    rcases this with rfl | rfl
    · exact ⟨1020, by kernel_rfl⟩
    · exact ⟨1030, by kernel_rfl⟩
  repeat' (first | exact rfl | refine sat_step (by decide) ?_)

noncomputable def cEx44 : Ctr := fun ss => match ss with
  | [] => .ret (bv true)
  | _ => .fail
theorem cEx44_ok : CtrOK Try.prog 32 cEx44 := (autoC_ok CX4_ok mixed 200 32 .run).mono fun ss r h => by
  unfold cEx44 at h
  split at h
  · simp only [Tr.ev] at h; subst h; exact ex44
  · exact h.elim

end Go.Proofs.Ytcbjclmjkilphaa

namespace Go.Proofs.Ytcbjclmjkilphaa.Fr
open Go.Sx
set_option maxRecDepth 100000

/-! ### Readings -/
def frC (a d : Nat → Int) (i j : Nat) : DV := match j with
  | 0 => .x (.int .i64 (a i))
  | _ => .x (.int .i64 (d i))
def frD (n : Nat) (a d : Nat → Int) : DV := .ro n 2 (frC a d)
noncomputable def manQ0 : FuncId → Option Ctr := fun k => match k with
  | 84 => some cValU
  | 97 => some cAddU
  | 87 => some cDivU
  | 88 => some cMulU
  | 89 => some cFlU
  | _ => none
theorem manQ0_ok (k : Nat) (c : Ctr) (h : manQ0 k = some c) : CtrOK Try.prog k c ∧ goodF Try.prog k = true := by
  unfold manQ0 at h
  split at h <;> first | (cases h; done) | (cases h)
  · exact ⟨cValU_ok, by kernel_rfl⟩
  · exact ⟨cAddU_ok, by kernel_rfl⟩
  · exact ⟨cDivU_ok, by kernel_rfl⟩
  · exact ⟨cMulU_ok, by kernel_rfl⟩
  · exact ⟨cFlU_ok, by kernel_rfl⟩
noncomputable def CQ0 : Ctx := ctxN Try.prog manQ0 (fun _ => false) 200 .nil 6
theorem CQ0_ok : CtxOK Try.prog CQ0 := ctxN_ok mixed manQ0_ok 6
noncomputable def DQ0 : Dr := fun _ => drawn Try.prog CQ0
theorem DQ0_ok : DrOK Try.prog CQ0 DQ0 := drawn_ok CQ0_ok mixed
noncomputable def TQ0 (h : Hint) (k : Nat) (args : List SV) : Tree SV := fnT Try.prog CQ0 DQ0 200 (fnOf Try.prog k) (bodyOf Try.prog k) args h
noncomputable def tSm (n : Nat) (a d : Nat → Int) : Tree SV := TQ0 .nil 86 [.d (frD n a d)]
noncomputable def LSm (n : Nat) (a d : Nat → Int) : Tree SV :=
  .code (codeC (sub [] (tSm n a d))) (codeS (sub [] (tSm n a d))) (codeK (sub [] (tSm n a d)))

theorem LSm_eq (n : Nat) (a d : Nat → Int) : tSm n a d = LSm n a d := by kernel_rfl

noncomputable def LWr (a b : Int) : Tree SV :=
  .ret (bv (!vB a b || decide (a ≤ (0 : Int))))

theorem LWr_eq (a b : Int) : TQ0 .nil 83 [.agg [iv a, iv b]] = LWr a b := by kernel_rfl


noncomputable def invSm (n : Nat) (a d : Nat → Int) (k : Nat) (x y : Int) : AS := ⟨[.unk, .unk, .ok (.ptr 0 0), .ok (iv 0), .ok (.ptr 1 0), .unk, .unk, .unk, .unk, .unk, .ok (.d (frD n a d)), .ok (iv n), .ok (iv k)] ++ List.replicate 16 .unk, [some (.cells [iv 0, iv 0]), some (.cells [iv x, iv y]), none], 3, .nil⟩
noncomputable def bodySm : Code := loopN (bodyOf Try.prog 86) 0
noncomputable def BSm (n : Nat) (a d : Nat → Int) (k : Nat) (x y : Int) : Tree (Ex × AS) :=
  .ite (decide ((↑k : Int) < (↑n : Int)))
  (.need ((0 : Int) ≤ (↑k : Int) ∧ (↑k : Int) < (↑n : Int))
   (.need (VF x y ∧ VF (a (Int.toNat (↑k : Int))) (d (Int.toNat (↑k : Int))))
   (.ite (rE (ratOf x y + ratOf (a (Int.toNat (↑k : Int))) (d (Int.toNat (↑k : Int)))) != (0 : Int))
   (.ret
   (.ret,
   {
   tm :=
   [.unk, .unk, .ok (SV.ptr 0 0), .ok (iv (rE (ratOf x y + ratOf (a (Int.toNat (↑k : Int))) (d (Int.toNat (↑k : Int)))))), .ok (SV.ptr 1 0), .unk, .unk, .unk, .unk,
   .unk,
   .ok
   (SV.d
   (DV.ro n 2 fun i j =>
   match j with
   | (0 : Nat) => DV.x (.int .i64 (a i))
   | x => DV.x (.int .i64 (d i)))),
   .ok (iv (↑n : Int)), .ok (iv (↑k : Int)), .unk, .unk, .unk, .unk, .unk, .unk, .unk, .unk, .unk, .unk, .unk, .unk, .unk, .unk, .unk, .unk],
   hp := [some (.cells [iv (0 : Int), iv (0 : Int)]), some (.cells [iv x, iv y]), none], next := 3, hint := .nil }))
   (.ret
   (.normal,
   {
   tm :=
   [.unk, .unk, .ok (SV.ptr 0 0), .ok (iv (0 : Int)), .ok (SV.ptr 1 0), .unk, .unk, .unk, .unk, .unk,
   .ok
   (SV.d
   (DV.ro n 2 fun i j =>
   match j with
   | (0 : Nat) => DV.x (.int .i64 (a i))
   | x => DV.x (.int .i64 (d i)))),
   .ok (iv (↑n : Int)), .ok (iv (w64 ((↑k : Int) + (1 : Int)))), .unk, .unk, .unk, .unk, .unk, .unk, .unk, .unk, .unk, .unk, .unk, .unk, .unk, .unk, .unk, .unk],
   hp :=
   [some (.cells [iv (0 : Int), iv (0 : Int)]),
   some (.cells [iv (rN (ratOf x y + ratOf (a (Int.toNat (↑k : Int))) (d (Int.toNat (↑k : Int))))), iv (rD (ratOf x y + ratOf (a (Int.toNat (↑k : Int))) (d (Int.toNat (↑k : Int)))))]), none],
   next := 3, hint := .nil })))))
  (.ret
   (.exit 0,
   {
   tm :=
   [.unk, .unk, .ok (SV.ptr 0 0), .ok (iv (0 : Int)), .ok (SV.ptr 1 0), .unk, .unk, .unk, .unk, .unk,
   .ok
   (SV.d
   (DV.ro n 2 fun i j =>
   match j with
   | (0 : Nat) => DV.x (.int .i64 (a i))
   | x => DV.x (.int .i64 (d i)))),
   .ok (iv (↑n : Int)), .ok (iv (↑k : Int)), .unk, .unk, .unk, .unk, .unk, .unk, .unk, .unk, .unk, .unk, .unk, .unk, .unk, .unk, .unk, .unk],
   hp := [some (.cells [iv (0 : Int), iv (0 : Int)]), some (.cells [iv x, iv y]), none], next := 3, hint := .nil }))

theorem BSm_eq (n : Nat) (a d : Nat → Int) (k : Nat) (x y : Int) : cutT 3 [] [2, 3, 4, 10, 11, 12] [2] 3 .nil (exec Try.prog CQ0 DQ0 200 bodySm (invSm n a d k x y)) = BSm n a d k x y := by kernel_rfl

noncomputable def KSm (n : Nat) (a d : Nat → Int) (k : Nat) (x y : Int) : Tree SV :=
  .ret (SV.tup [SV.agg [iv x, iv y], iv (0 : Int)])

theorem KSm_eq (n : Nat) (a d : Nat → Int) (k : Nat) (x y : Int) : codeK (sub [] (tSm n a d)) (.exit 0) (invSm n a d k x y) = KSm n a d k x y := by kernel_rfl


end Go.Proofs.Ytcbjclmjkilphaa.Fr

namespace Go.Proofs.Ytcbjclmjkilphaa.Fr
open Go.Sx
set_option maxRecDepth 100000

noncomputable def cWr : Ctr := fun ss => match ss with
  | [.agg [.d (.x (.int .i64 a)), .d (.x (.int .i64 b))]] => .need (VF a b ∧ 0 < a) (.ret (bv false))
  | _ => .fail
theorem cWr_ok : CtrOK Try.prog 83 cWr := by
  refine ctrOK_leS CQ0_ok DQ0_ok (by kernel_rfl) (by kernel_rfl) fun ss r h => ?_
  unfold cWr at h
  split at h
  · rename_i a b
    obtain ⟨⟨h1, h2⟩, rfl⟩ := h
    refine ⟨[.agg [iv a, iv b]], 200, .nil, by simp [leSVs, leSV, iv, leD], Sat.of_eq (LWr_eq a b) ⟨?_⟩⟩
    unfold LWr
    have e1 : decide (a ≤ 0) = false := decide_eq_false (by omega)
    rw [vB_iff.2 h1, e1]; exact rfl
  · exact h.elim
noncomputable def manQ1 : FuncId → Option Ctr := fun k => match k with
  | 83 => some cWr
  | k => manQ0 k
theorem manQ1_ok (k : Nat) (c : Ctr) (h : manQ1 k = some c) : CtrOK Try.prog k c ∧ goodF Try.prog k = true := by
  unfold manQ1 at h
  split at h
  · cases h; exact ⟨cWr_ok, by kernel_rfl⟩
  · exact manQ0_ok _ _ h
noncomputable def CQ1 : Ctx := ctxN Try.prog manQ1 (fun _ => false) 200 .nil 6
theorem CQ1_ok : CtxOK Try.prog CQ1 := ctxN_ok mixed manQ1_ok 6
noncomputable def DQ1 : Dr := fun _ => drawn Try.prog CQ1
theorem DQ1_ok : DrOK Try.prog CQ1 DQ1 := drawn_ok CQ1_ok mixed
noncomputable def TQ1 (h : Hint) (k : Nat) (args : List SV) : Tree SV := fnT Try.prog CQ1 DQ1 200 (fnOf Try.prog k) (bodyOf Try.prog k) args h
noncomputable def fn83 : SV := .fn (.func 83) [] []
noncomputable def tIx (n : Nat) (a d : Nat → Int) : Tree SV := TQ1 .nil 96 [.d (frD n a d), fn83]
noncomputable def LIx (n : Nat) (a d : Nat → Int) : Tree SV :=
  .code (codeC (sub [] (tIx n a d))) (codeS (sub [] (tIx n a d))) (codeK (sub [] (tIx n a d)))

theorem LIx_eq (n : Nat) (a d : Nat → Int) : tIx n a d = LIx n a d := by kernel_rfl

noncomputable def invIx (n : Nat) (a d : Nat → Int) (k : Nat) : AS := ⟨[.ok (.d (frD n a d)), .ok fn83, .unk, .unk, .unk, .unk, .unk, .ok (iv n), .ok (iv k)] ++ List.replicate 10 .unk, [], 0, .nil⟩
noncomputable def bodyIx : Code := loopN (bodyOf Try.prog 96) 0
noncomputable def BIx (n : Nat) (a d : Nat → Int) (k : Nat) : Tree (Ex × AS) :=
  .ite (decide ((↑k : Int) < (↑n : Int)))
  (.need ((0 : Int) ≤ (↑k : Int) ∧ (↑k : Int) < (↑n : Int))
   (.need (VF (a (Int.toNat (↑k : Int))) (d (Int.toNat (↑k : Int))) ∧ (0 : Int) < a (Int.toNat (↑k : Int)))
   (.ite false
   (.ret
   (.ret,
   {
   tm :=
   [.ok
   (SV.d
   (DV.ro n 2 fun i j =>
   match j with
   | (0 : Nat) => DV.x (.int .i64 (a i))
   | x => DV.x (.int .i64 (d i)))),
   .ok (SV.fn (Fn.func 83) [] []), .unk, .unk, .unk, .unk, .unk, .ok (iv (↑n : Int)), .ok (iv (↑k : Int)), .unk, .unk, .unk, .unk, .unk, .unk, .unk, .unk, .unk, .unk],
   hp := [], next := 0, hint := .nil }))
   (.ret
   (.normal,
   {
   tm :=
   [.ok
   (SV.d
   (DV.ro n 2 fun i j =>
   match j with
   | (0 : Nat) => DV.x (.int .i64 (a i))
   | x => DV.x (.int .i64 (d i)))),
   .ok (SV.fn (Fn.func 83) [] []), .unk, .unk, .unk, .unk, .unk, .ok (iv (↑n : Int)), .ok (iv (w64 ((↑k : Int) + (1 : Int)))), .unk, .unk, .unk, .unk, .unk, .unk, .unk, .unk, .unk,
   .unk],
   hp := [], next := 0, hint := .nil })))))
  (.ret
   (.exit 0,
   {
   tm :=
   [.ok
   (SV.d
   (DV.ro n 2 fun i j =>
   match j with
   | (0 : Nat) => DV.x (.int .i64 (a i))
   | x => DV.x (.int .i64 (d i)))),
   .ok (SV.fn (Fn.func 83) [] []), .unk, .unk, .unk, .unk, .unk, .ok (iv (↑n : Int)), .ok (iv (↑k : Int)), .unk, .unk, .unk, .unk, .unk, .unk, .unk, .unk, .unk, .unk],
   hp := [], next := 0, hint := .nil }))

theorem BIx_eq (n : Nat) (a d : Nat → Int) (k : Nat) : cutT 0 [] [0, 1, 7, 8] [] 0 .nil (exec Try.prog CQ1 DQ1 200 bodyIx (invIx n a d k)) = BIx n a d k := by kernel_rfl

noncomputable def KIx (n : Nat) (a d : Nat → Int) (k : Nat) : Tree SV :=
  .ret (iv (-1 : Int))

theorem KIx_eq (n : Nat) (a d : Nat → Int) (k : Nat) : codeK (sub [] (tIx n a d)) (.exit 0) (invIx n a d k) = KIx n a d k := by kernel_rfl


end Go.Proofs.Ytcbjclmjkilphaa.Fr

namespace Go.Proofs.Ytcbjclmjkilphaa.Fr
open Go.Sx
set_option maxRecDepth 100000

/-- The sum of the first fractions. -/
noncomputable def sF (a d : Nat → Int) : Nat → Rat
  | 0 => 0
  | k + 1 => sF a d k + ratOf (a k) (d k)
theorem sm_sat {n : Nat} {a d : Nat → Int} (hn : n ≤ 1000) (hv : ∀ i, i < n → VF (a i) (d i)) (hf : ∀ i, i ≤ n → fitsR (sF a d i)) :
    Sat Try.prog (tSm n a d) (· = .tup [.agg [iv (sF a d n).num, iv (sF a d n).den], iv 0]) := by
  constructor
  rw [LSm_eq]; unfold LSm
  refine code_satS CQ0_ok DQ0_ok (n := 200) (n0 := 3) (nx := 3) (roots := []) (keep := [2, 3, 4, 10, 11, 12]) (drop := [2]) (h := .nil) (c := codeC (sub [] (tSm n a d))) (st := codeS (sub [] (tSm n a d))) (k := codeK (sub [] (tSm n a d))) (body := bodySm) (by kernel_rfl) (by kernel_rfl)
    (fun q s => ∃ k : Nat, q = n - k ∧ k ≤ n ∧ s = invSm n a d k (sF a d k).num (sF a d k).den)
    (fun e s => e = .exit 0 ∧ s = invSm n a d n (sF a d n).num (sF a d n).den)
    ⟨_, _, ⟨0, rfl, by omega, rfl⟩, ?_⟩ ?_ ?_
  · exact entA_sound (roots := []) (keep := [2, 3, 4, 10, 11, 12]) (drop := [2]) (nx := 3) (h := .nil) (by kernel_rfl)
  · rintro q s ⟨k, rfl, hk, rfl⟩
    refine Sat.of_eq (BSm_eq n a d k _ _) ?_
    constructor
    unfold BSm
    simp only [Int.toNat_natCast, ratOf_rat]
    refine ⟨fun hc => ?_, fun hc => ?_⟩
    · have hc : k < n := by simp only [decide_eq_true_eq] at hc; omega
      have h1 := hf (k + 1) (by omega)
      have e1 : sF a d k + ratOf (a k) (d k) = sF a d (k + 1) := rfl
      rw [e1]
      refine ⟨by omega, ⟨VF.of (hf k hk), hv k hc⟩, fun h => ?_, fun h => ?_⟩
      · rw [rE_of h1] at h; cases h
      · refine ⟨n - (k + 1), _, by omega, ⟨k + 1, rfl, by omega, rfl⟩, ?_⟩
        rw [w64_of (n := (k : Int) + 1) (by omega) (by omega), rN_of h1, rD_of h1]
        exact Gc.refl _ _
    · have hc : k = n := by simp only [decide_eq_false_iff_not] at hc; omega
      subst hc
      exact ⟨_, ⟨rfl, rfl⟩, Gc.refl _ _⟩
  · rintro e s ⟨rfl, rfl⟩
    exact Sat.of_eq (KSm_eq n a d n _ _) ⟨rfl⟩
theorem ix_sat {n : Nat} {a d : Nat → Int} (hn : n ≤ 1000) (hv : ∀ i, i < n → VF (a i) (d i) ∧ 0 < a i) : Sat Try.prog (tIx n a d) (· = iv (-1)) := by
  constructor
  rw [LIx_eq]; unfold LIx
  refine code_satS CQ1_ok DQ1_ok (n := 200) (n0 := 0) (nx := 0) (roots := []) (keep := [0, 1, 7, 8]) (drop := []) (h := .nil) (c := codeC (sub [] (tIx n a d))) (st := codeS (sub [] (tIx n a d))) (k := codeK (sub [] (tIx n a d))) (body := bodyIx) (by kernel_rfl) (by kernel_rfl)
    (fun q s => ∃ k : Nat, q = n - k ∧ k ≤ n ∧ s = invIx n a d k)
    (fun e s => e = .exit 0 ∧ s = invIx n a d n)
    ⟨_, _, ⟨0, rfl, by omega, rfl⟩, ?_⟩ ?_ ?_
  · exact entA_sound (roots := []) (keep := [0, 1, 7, 8]) (drop := []) (nx := 0) (h := .nil) (by kernel_rfl)
  · rintro q s ⟨k, rfl, hk, rfl⟩
    refine Sat.of_eq (BIx_eq n a d k) ?_
    constructor
    unfold BIx
    simp only [Int.toNat_natCast]
    refine ⟨fun hc => ?_, fun hc => ?_⟩
    · have hc : k < n := by simp only [decide_eq_true_eq] at hc; omega
      refine ⟨by omega, hv k hc, fun h => (by cases h), fun _ => ?_⟩
      refine ⟨n - (k + 1), _, by omega, ⟨k + 1, rfl, by omega, rfl⟩, ?_⟩
      rw [w64_of (n := (k : Int) + 1) (by omega) (by omega)]
      exact Gc.refl _ _
    · have hc : k = n := by simp only [decide_eq_false_iff_not] at hc; omega
      subst hc
      exact ⟨_, ⟨rfl, rfl⟩, Gc.refl _ _⟩
  · rintro e s ⟨rfl, rfl⟩
    exact Sat.of_eq (KIx_eq n a d n) ⟨rfl⟩

/-- A row of fractions. -/
def rowF : DV → Option (Nat × (Nat → Nat → DV))
  | .ro n 2 c => some (n, c)
  | _ => none
noncomputable def frA (c : Nat → Nat → DV) : Nat → Int := intCell c
noncomputable def frB (c : Nat → Nat → DV) : Nat → Int := intCell fun i _ => c i 1
def FrC (n : Nat) (c : Nat → Nat → DV) : Prop := n ≤ 1000 ∧ ∀ i, i < n → c i 0 = .x (.int .i64 (frA c i)) ∧ c i 1 = .x (.int .i64 (frB c i))
theorem FrC.le {d : DV} {n : Nat} {c : Nat → Nat → DV} (h : rowF d = some (n, c)) (k : FrC n c) : leSV 0 [] [] (.d d) (.d (frD n (frA c) (frB c))) := by
  unfold rowF at h
  split at h
  · cases h
    simp only [leSV, frD, leD, true_and]
    intro i j hi hj
    obtain ⟨h1, h2⟩ := k.2 i hi
    match j, hj with
    | 0, _ => exact h1
    | 1, _ => exact h2
  · cases h
noncomputable def cSm : Ctr := fun ss => match ss with
  | [.d d] => match rowF d with
    | some (n, c) => .need (FrC n c ∧ (∀ i, i < n → VF (frA c i) (frB c i)) ∧ ∀ i, i ≤ n → fitsR (sF (frA c) (frB c) i)) (.ret (.tup [.agg [iv (sF (frA c) (frB c) n).num, iv (sF (frA c) (frB c) n).den], iv 0]))
    | none => .fail
  | _ => .fail
theorem cSm_ok : CtrOK Try.prog 86 cSm := by
  refine ctrOK_leS CQ0_ok DQ0_ok (by kernel_rfl) (by kernel_rfl) fun ss r h => ?_
  unfold cSm at h
  split at h
  · rename_i d
    split at h
    · rename_i n c hr
      obtain ⟨⟨h1, h2, h3⟩, rfl⟩ := h
      have k := sm_sat h1.1 h2 h3
      exact ⟨[.d (frD n (frA c) (frB c))], 200, .nil, by simp only [leSVs, and_true]; exact h1.le hr, k⟩
    · exact h.elim
  · exact h.elim
noncomputable def cIx : Ctr := fun ss => match ss with
  | [.d d, .fn (.func 83) [] []] => match rowF d with
    | some (n, c) => .need (FrC n c ∧ ∀ i, i < n → VF (frA c i) (frB c i) ∧ 0 < frA c i) (.ret (iv (-1)))
    | none => .fail
  | _ => .fail
theorem cIx_ok : CtrOK Try.prog 96 cIx := by
  refine ctrOK_leS CQ1_ok DQ1_ok (by kernel_rfl) (by kernel_rfl) fun ss r h => ?_
  unfold cIx at h
  split at h
  · rename_i d
    split at h
    · rename_i n c hr
      obtain ⟨⟨h1, h2⟩, rfl⟩ := h
      have k := ix_sat h1.1 h2
      exact ⟨[.d (frD n (frA c) (frB c)), fn83], 200, .nil, by simp only [leSVs, and_true]; exact ⟨h1.le hr, by simp [leSV, leSVs, fn83]⟩, k⟩
    · exact h.elim
  · exact h.elim

end Go.Proofs.Ytcbjclmjkilphaa.Fr

namespace Go.Proofs.Ytcbjclmjkilphaa.Fr
open Go.Sx
set_option maxRecDepth 100000

noncomputable def manQ2 : FuncId → Option Ctr := fun k => match k with
  | 96 => some cIx
  | 86 => some cSm
  | k => manQ1 k
theorem manQ2_ok (k : Nat) (c : Ctr) (h : manQ2 k = some c) : CtrOK Try.prog k c ∧ goodF Try.prog k = true := by
  unfold manQ2 at h
  split at h
  · cases h; exact ⟨cIx_ok, by kernel_rfl⟩
  · cases h; exact ⟨cSm_ok, by kernel_rfl⟩
  · exact manQ1_ok _ _ h
noncomputable def CQ2 : Ctx := ctxN Try.prog manQ2 (fun _ => false) 200 .nil 6
theorem CQ2_ok : CtxOK Try.prog CQ2 := ctxN_ok mixed manQ2_ok 6
noncomputable def DQ2 : Dr := fun _ => drawn Try.prog CQ2
theorem DQ2_ok : DrOK Try.prog CQ2 DQ2 := drawn_ok CQ2_ok mixed
noncomputable def TQ2 (h : Hint) (k : Nat) (args : List SV) : Tree SV := fnT Try.prog CQ2 DQ2 200 (fnOf Try.prog k) (bodyOf Try.prog k) args h
noncomputable def LRd_q1 (n : Nat) (m : Nat) : Bool :=
  (↑n : Int) != (↑m : Int) || decide ((↑n : Int) < (1 : Int)) || decide ((↑n : Int) > (64 : Int))
noncomputable def LRd_q2 (a : Nat → Int) (d : Nat → Int) (i : Nat) (j : Nat) : DV :=
  match j with
| (0 : Nat) => DV.x (.int .i64 (a i))
| x => DV.x (.int .i64 (d i))
noncomputable def LRd_q3 (n : Nat) (m : Nat) : Bool :=
  LRd_q1 n m || false
noncomputable def LRd_q4 (b : Nat → Int) (e : Nat → Int) (i : Nat) (j : Nat) : DV :=
  match j with
| (0 : Nat) => DV.x (.int .i64 (b i))
| x => DV.x (.int .i64 (e i))
noncomputable def LRd_q5 (b : Nat → Int) (i : Nat) : Int :=
  b i
noncomputable def LRd_q6 (e : Nat → Int) (i : Nat) : Int :=
  e i
noncomputable def LRd_q7 (m : Nat) (b : Nat → Int) (e : Nat → Int) : Rat :=
  sF (LRd_q5 b) (LRd_q6 e) m
noncomputable def LRd_q8 (a : Nat → Int) (i : Nat) : Int :=
  a i
noncomputable def LRd_q9 (d : Nat → Int) (i : Nat) : Int :=
  d i
noncomputable def LRd_q10 (n : Nat) (a : Nat → Int) (d : Nat → Int) : Rat :=
  sF (LRd_q8 a) (LRd_q9 d) n
noncomputable def LRd_q11 (m : Nat) (b : Nat → Int) (e : Nat → Int) : Rat :=
  ratOf (Rat.num (LRd_q7 m b e)) (↑(Rat.den (LRd_q7 m b e)) : Int)
noncomputable def LRd_q12 (n : Nat) (a : Nat → Int) (d : Nat → Int) : Rat :=
  ratOf (Rat.num (LRd_q10 n a d)) (↑(Rat.den (LRd_q10 n a d)) : Int)
noncomputable def LRd_q13 (n : Nat) (a : Nat → Int) (d : Nat → Int) (m : Nat) (b : Nat → Int) (e : Nat → Int) : Rat :=
  ratOf (dvN (LRd_q11 m b e) (LRd_q12 n a d)) (dvD (LRd_q11 m b e) (LRd_q12 n a d))
noncomputable def LRd_q14 (n : Nat) (a : Nat → Int) (d : Nat → Int) (m : Nat) (b : Nat → Int) (e : Nat → Int) : Rat :=
  LRd_q13 n a d m b e * ratOf (1000 : Int) (1 : Int)
noncomputable def LRd (n : Nat) (a d : Nat → Int) (m : Nat) (b e : Nat → Int) : Tree SV :=
  .need (LRd_q1 n m = false → FrC n (LRd_q2 a d) ∧ ∀ (i : Nat), i < n → VF (frA (frC a d) i) (frB (frC a d) i) ∧ (0 : Int) < frA (frC a d) i)
  (.need (LRd_q3 n m = false → FrC m (LRd_q4 b e) ∧ ∀ (i : Nat), i < m → VF (frA (frC b e) i) (frB (frC b e) i) ∧ (0 : Int) < frA (frC b e) i)
   (.ite (LRd_q3 n m || false) (.ret (SV.tup [iv (0 : Int), iv (1 : Int)]))
   (.need (FrC n (LRd_q2 a d) ∧ (∀ (i : Nat), i < n → VF (frA (frC a d) i) (frB (frC a d) i)) ∧ ∀ (i : Nat), i ≤ n → fitsR (sF (frA (frC a d)) (frB (frC a d)) i))
   (.need (FrC m (LRd_q4 b e) ∧ (∀ (i : Nat), i < m → VF (frA (frC b e) i) (frB (frC b e) i)) ∧ ∀ (i : Nat), i ≤ m → fitsR (sF (frA (frC b e)) (frB (frC b e)) i))
   (.ite false (.ret (SV.tup [iv (0 : Int), iv (2 : Int)]))
   (.need (VF (Rat.num (LRd_q7 m b e)) (↑(Rat.den (LRd_q7 m b e)) : Int) ∧ VF (Rat.num (LRd_q10 n a d)) (↑(Rat.den (LRd_q10 n a d)) : Int))
   (.ite (dvE (LRd_q11 m b e) (LRd_q12 n a d) != (0 : Int)) (.ret (SV.tup [iv (0 : Int), iv (dvE (LRd_q11 m b e) (LRd_q12 n a d))]))
   (.need (VF (dvN (LRd_q11 m b e) (LRd_q12 n a d)) (dvD (LRd_q11 m b e) (LRd_q12 n a d)) ∧ VF (1000 : Int) (1 : Int))
   (.ite (rE (LRd_q14 n a d m b e) != (0 : Int)) (.ret (SV.tup [iv (0 : Int), iv (rE (LRd_q14 n a d m b e))]))
   (.need (VF (rN (LRd_q14 n a d m b e)) (rD (LRd_q14 n a d m b e))) (.ret (SV.tup [iv (rN (LRd_q14 n a d m b e) / rD (LRd_q14 n a d m b e)), iv (0 : Int)]))))))))))))

theorem LRd_eq (n : Nat) (a d : Nat → Int) (m : Nat) (b e : Nat → Int) : TQ2 .nil 71 [.d (frD n a d), .d (frD m b e)] = LRd n a d m b e := by kernel_rfl


end Go.Proofs.Ytcbjclmjkilphaa.Fr

namespace Go.Proofs.Ytcbjclmjkilphaa.Fr
open Go.Sx
set_option maxRecDepth 100000

structure GdR (n : Nat) (a d b e : Nat → Int) : Prop where
  va : ∀ i, i < n → VF (a i) (d i) ∧ 0 < a i
  vb : ∀ i, i < n → VF (b i) (e i) ∧ 0 < b i
  fa : ∀ i, i ≤ n → fitsR (sF a d i)
  fb : ∀ i, i ≤ n → fitsR (sF b e i)
  nz : sF a d n ≠ 0
  fq : fitsR (sF b e n / sF a d n)
  fp : fitsR (sF b e n / sF a d n * 1000)
noncomputable def rdV (n : Nat) (a d b e : Nat → Int) : Int := (sF b e n / sF a d n * 1000).floor
noncomputable def rdBad (n m : Nat) : Bool := (n : Int) != (m : Int) || decide ((n : Int) < 1) || decide ((n : Int) > 64)
theorem q2_eq (a d : Nat → Int) : LRd_q2 a d = frC a d := by funext i j; cases j <;> rfl
theorem q4_eq (a d : Nat → Int) : LRd_q4 a d = frC a d := by funext i j; cases j <;> rfl
theorem frA_C (a d : Nat → Int) : frA (frC a d) = a := by funext i; rfl
theorem frB_C (a d : Nat → Int) : frB (frC a d) = d := by funext i; rfl
theorem frC_C {n : Nat} (a d : Nat → Int) (h : n ≤ 1000) : FrC n (frC a d) := ⟨h, fun i hi => ⟨rfl, rfl⟩⟩
theorem VF.t : VF 1000 1 := ⟨⟨by omega, by decide⟩, by omega, by omega⟩
theorem rd_sat {n m : Nat} {a d b e : Nat → Int} (hn : n ≤ 1000) (hm : m ≤ 1000) (hg : rdBad n m = false → GdR n a d b e) :
    Sat Try.prog (TQ2 .nil 71 [.d (frD n a d), .d (frD m b e)]) (· = .tup [iv (if rdBad n m = true then 0 else rdV n a d b e), iv (if rdBad n m = true then 1 else 0)]) := by
  constructor
  rw [LRd_eq]; unfold LRd
  have x5 : ∀ f : Nat → Int, LRd_q5 f = f := fun f => rfl
  have x6 : ∀ f : Nat → Int, LRd_q6 f = f := fun f => rfl
  have x8 : ∀ f : Nat → Int, LRd_q8 f = f := fun f => rfl
  have x9 : ∀ f : Nat → Int, LRd_q9 f = f := fun f => rfl
  have x1 : LRd_q1 n m = rdBad n m := rfl
  have x3 : LRd_q3 n m = rdBad n m := by unfold LRd_q3; rw [Bool.or_false]; rfl
  simp only [LRd_q7, LRd_q10, LRd_q11, LRd_q12, LRd_q13, LRd_q14, x1, x3, x5, x6, x8, x9, q2_eq, q4_eq, frA_C, frB_C, ratOf_rat, Bool.or_false]
  have r1000 : ratOf 1000 1 = 1000 := by decide +kernel
  rw [r1000]
  cases hb : rdBad n m with
  | true =>
    simp only [if_true]
    exact ⟨fun h => (by cases h), fun h => (by cases h), fun _ => rfl, fun h => (by cases h)⟩
  | false =>
    have g := hg hb
    have hnm : n = m := by
      unfold rdBad at hb
      simp only [Bool.or_eq_false_iff, bne_eq_false_iff_eq] at hb
      omega
    subst hnm
    have d1 : dvN (sF b e n) (sF a d n) = (sF b e n / sF a d n).num := by unfold dvN; rw [if_neg g.nz, rN_of g.fq]
    have d2 : dvD (sF b e n) (sF a d n) = (sF b e n / sF a d n).den := by unfold dvD; rw [if_neg g.nz, rD_of g.fq]
    have d3 : dvE (sF b e n) (sF a d n) = 0 := by unfold dvE; rw [if_neg g.nz, rE_of g.fq]
    rw [d1, d2, d3, ratOf_rat, rN_of g.fp, rD_of g.fp, rE_of g.fp]
    refine ⟨fun _ => ⟨frC_C a d hn, g.va⟩, fun _ => ⟨frC_C b e hm, g.vb⟩, fun h => (by cases h), fun _ => ⟨⟨frC_C a d hn, fun i hi => (g.va i hi).1, g.fa⟩, ⟨frC_C b e hm, fun i hi => (g.vb i hi).1, g.fb⟩, fun h => (by cases h), fun _ => ⟨⟨VF.of (g.fb n (Nat.le_refl _)), VF.of (g.fa n (Nat.le_refl _))⟩, fun h => (by cases h), fun _ => ⟨⟨VF.of g.fq, VF.t⟩, fun h => (by cases h), fun _ => ⟨VF.of g.fp, ?_⟩⟩⟩⟩⟩
    unfold rdV
    rw [Rat.floor_def]
    exact rfl

def rowG : DV → Option (Nat × (Nat → Nat → DV))
  | .ro n 2 c => some (n, c)
  | .x (.slice none 0 0) => some (0, fun _ _ => .x undef)
  | _ => none
theorem FrC.leG {d : DV} {n : Nat} {c : Nat → Nat → DV} (h : rowG d = some (n, c)) (k : FrC n c) : leSV 0 [] [] (.d d) (.d (frD n (frA c) (frB c))) := by
  unfold rowG at h
  split at h
  · cases h
    simp only [leSV, frD, leD, true_and]
    intro i j hi hj
    obtain ⟨h1, h2⟩ := k.2 i hi
    match j, hj with
    | 0, _ => exact h1
    | 1, _ => exact h2
  · cases h
    simp [leSV, frD, leD]
  · cases h
noncomputable def cRdg : Ctr := fun ss => match ss with
  | [.d x, .d y] => match rowG x, rowG y with
    | some (n, c), some (m, k) => .need (FrC n c ∧ FrC m k ∧ (rdBad n m = false → GdR n (frA c) (frB c) (frA k) (frB k))) (.ret (.tup [iv (if rdBad n m = true then 0 else rdV n (frA c) (frB c) (frA k) (frB k)), iv (if rdBad n m = true then 1 else 0)]))
    | _, _ => .fail
  | _ => .fail
theorem cRdg_ok : CtrOK Try.prog 71 cRdg := by
  refine ctrOK_leS CQ2_ok DQ2_ok (by kernel_rfl) (by kernel_rfl) fun ss r h => ?_
  unfold cRdg at h
  split at h
  · rename_i x y
    split at h
    · rename_i n c m k hx hy
      obtain ⟨⟨h1, h2, h3⟩, rfl⟩ := h
      have kk := rd_sat h1.1 h2.1 h3
      exact ⟨[.d (frD n (frA c) (frB c)), .d (frD m (frA k) (frB k))], 200, .nil, by simp only [leSVs, and_true]; exact ⟨h1.leG hx, h2.leG hy⟩, kk⟩
    · exact h.elim
  · exact h.elim

noncomputable def cMadeS : Ctr := fun ss => match ss with
  | [.d (.x (.int .i64 n)), .d (.x (.int .i64 d))] => .need (I64 n ∧ I64 d) (.ret (.agg [iv (mdQ n d).num, iv (mdQ n d).den]))
  | _ => .fail
theorem cMadeS_ok : CtrOK Try.prog 42 cMadeS := cMadeG_ok
noncomputable def manQ3 : FuncId → Option Ctr := fun k => match k with
  | 32 => some cEx44
  | 42 => some cMadeS
  | 43 => some cMulR
  | 71 => some cRdg
  | _ => none
theorem manQ3_ok (k : Nat) (c : Ctr) (h : manQ3 k = some c) : CtrOK Try.prog k c ∧ goodF Try.prog k = true := by
  unfold manQ3 at h
  split at h <;> first | (cases h; done) | (cases h)
  · exact ⟨cEx44_ok, by kernel_rfl⟩
  · exact ⟨cMadeS_ok, by kernel_rfl⟩
  · exact ⟨cMulR_ok, by kernel_rfl⟩
  · exact ⟨cRdg_ok, by kernel_rfl⟩
noncomputable def CQ3 : Ctx := ctxN Try.prog manQ3 (fun _ => false) 300 .nil 6
theorem CQ3_ok : CtxOK Try.prog CQ3 := ctxN_ok mixed manQ3_ok 6
noncomputable def DQ3 : Dr := fun _ => drawn Try.prog CQ3
theorem DQ3_ok : DrOK Try.prog CQ3 DQ3 := drawn_ok CQ3_ok mixed
noncomputable def TQ3 (h : Hint) (k : Nat) (args : List SV) : Tree SV := fnT Try.prog CQ3 DQ3 300 (fnOf Try.prog k) (bodyOf Try.prog k) args h

end Go.Proofs.Ytcbjclmjkilphaa.Fr

namespace Go.Proofs.Ytcbjclmjkilphaa.Fr
open Go.Sx
set_option maxRecDepth 100000

/-! ### Readings: the plain law -/
theorem ratOf_mul {K M : Int} (hM : 0 < M) : ratOf K M * (M : Rat) = (K : Rat) := by
  unfold ratOf
  rw [Rat.mkRat_eq_div]
  have h : ((M.toNat : Nat) : Rat) = (M : Rat) := by
    have : ((M.toNat : Nat) : Int) = M := by omega
    rw [← Rat.intCast_natCast, this]
  rw [h]
  have h2 : (M : Rat) ≠ 0 := by
    intro h3
    have : M = 0 := by exact_mod_cast h3
    omega
  exact Rat.div_mul_cancel h2
theorem castne {M : Int} (h : M ≠ 0) : (M : Rat) ≠ 0 := by
  intro h3
  exact h (by exact_mod_cast h3)
theorem eq_ratOf {r : Rat} {K M : Int} (hM : 0 < M) (h : r * (M : Rat) = (K : Rat)) : r = ratOf K M := by
  have h1 := ratOf_mul (K := K) hM
  have h2 := castne (M := M) (by omega)
  have h3 : r * (M : Rat) = ratOf K M * (M : Rat) := by rw [h, h1]
  grind
theorem fits_of {r : Rat} {K M : Int} (hM : 0 < M) (hMb : M ≤ 4611686018427387904) (hK : K.natAbs ≤ 4611686018427387904) (h : r * (M : Rat) = (K : Rat)) : fitsR r := by
  have e := eq_ratOf hM h
  have e2 : qR K M = ratOf K M := by unfold qR; rw [if_neg (by omega)]
  obtain ⟨h1, h2, _⟩ := qR_parts (a := K) (b := M) (by omega)
  rw [e, ← e2]
  have g1 := Nat.div_le_self K.natAbs (K.natAbs.gcd M.natAbs)
  have g2 := Nat.div_le_self M.natAbs (K.natAbs.gcd M.natAbs)
  exact ⟨by omega, by omega⟩
theorem le_of_mul {a b : Rat} {M : Int} (hM : 0 < M) (h : a * (M : Rat) ≤ b * (M : Rat)) : a ≤ b := by
  have h2 : (0 : Rat) < (M : Rat) := by exact_mod_cast hM
  exact Rat.le_of_mul_le_mul_right h h2
theorem cast_le {a b : Int} (h : a ≤ b) : (a : Rat) ≤ (b : Rat) := by exact_mod_cast h

structure RdI (n : Nat) (p q c : Nat → Int) : Prop where
  n : 1 ≤ n ∧ n ≤ 8
  p : ∀ i, 1 ≤ p i ∧ p i ≤ 256
  q : ∀ i, 1 ≤ q i ∧ q i ≤ 8
  c : ∀ i, 1 ≤ c i ∧ c i ≤ 4000
def kI (p q : Nat → Int) (i : Nat) : Int := p i * (840 / q i)
def sI (f : Nat → Int) : Nat → Int
  | 0 => 0
  | k + 1 => sI f k + f k
theorem sI_bd {f : Nat → Int} {B : Int} (h : ∀ i, 0 ≤ f i ∧ f i ≤ B) : ∀ k : Nat, 0 ≤ sI f k ∧ sI f k ≤ k * B
  | 0 => by simp [sI]
  | k + 1 => by
    have := sI_bd h k
    have := h k
    unfold sI
    have e : ((k + 1 : Nat) : Int) * B = k * B + B := by rw [Int.natCast_add, Int.add_mul]; simp
    rw [e]; omega
theorem sI_pos {f : Nat → Int} (h : ∀ i, 1 ≤ f i) : ∀ k : Nat, (k : Int) ≤ sI f k
  | 0 => by simp [sI]
  | k + 1 => by
    have := sI_pos h k
    have := h k
    unfold sI; omega
theorem sI_le {f g : Nat → Int} : ∀ {k : Nat}, (∀ i, i < k → f i ≤ g i) → sI f k ≤ sI g k
  | 0, _ => by simp [sI]
  | k + 1, h => by
    have := sI_le (k := k) fun i hi => h i (by omega)
    have := h k (by omega)
    unfold sI; omega
theorem sI_mul (f : Nat → Int) (m : Int) : ∀ k : Nat, sI (fun i => m * f i) k = m * sI f k
  | 0 => by simp [sI]
  | k + 1 => by unfold sI; rw [sI_mul f m k, Int.mul_add]
noncomputable def dI (p q : Nat → Int) (i : Nat) : Rat := mdQ (p i) (q i)
noncomputable def aI (p q c : Nat → Int) (i : Nat) : Rat := dI p q i * mdQ (c i) 1000
theorem q840 {q : Int} (h : 1 ≤ q ∧ q ≤ 8) : q * (840 / q) = 840 ∧ 105 ≤ 840 / q ∧ 840 / q ≤ 840 := by
  have : q = 1 ∨ q = 2 ∨ q = 3 ∨ q = 4 ∨ q = 5 ∨ q = 6 ∨ q = 7 ∨ q = 8 := by omega
  rcases this with rfl | rfl | rfl | rfl | rfl | rfl | rfl | rfl <;> decide
theorem mdQ_mul {a b : Int} (ha : a.natAbs ≤ 4611686018427387904) (hb : 0 < b) (hb2 : b ≤ 4611686018427387904) : mdQ a b * (b : Rat) = (a : Rat) := by
  have e2 : qR a b = ratOf a b := by unfold qR; rw [if_neg (by omega)]
  have h := ratOf_mul (K := a) hb
  have hf : fitsR (qR a b) := by rw [e2]; exact fits_of hb hb2 ha h
  rw [mdQ_of (by omega) hf, e2, h]
section
variable {n : Nat} {p q c : Nat → Int}
theorem kI_bd (g : RdI n p q c) (i : Nat) : 1 ≤ kI p q i ∧ kI p q i ≤ 215040 := by
  unfold kI
  obtain ⟨_, h1, h2⟩ := q840 (g.q i)
  have h3 := g.p i
  have e1 : (1 : Int) * 105 ≤ p i * (840 / q i) := Int.mul_le_mul h3.1 h1 (by omega) (by omega)
  have e2 : p i * (840 / q i) ≤ 256 * 840 := Int.mul_le_mul h3.2 h2 (by omega) (by omega)
  omega
theorem dI_k (g : RdI n p q c) (i : Nat) : dI p q i * (840 : Int) = (kI p q i : Int) := by
  have h1 : dI p q i * (q i : Rat) = (p i : Rat) := mdQ_mul (by have := g.p i; omega) (by have := g.q i; omega) (by have := g.q i; omega)
  have h2 := (q840 (g.q i)).1
  have e : ((840 : Int) : Rat) = (q i : Rat) * ((840 / q i : Int) : Rat) := by rw [← Rat.intCast_mul, h2]
  unfold kI
  rw [e, Rat.intCast_mul, ← h1]
  generalize ((840 / q i : Int) : Rat) = z
  grind
theorem dI_fits (i : Nat) : fitsR (dI p q i) := mdQ_fits _ _
theorem cI_k (g : RdI n p q c) (i : Nat) : mdQ (c i) 1000 * ((1000 : Int) : Rat) = (c i : Rat) := mdQ_mul (by have := g.c i; omega) (by omega) (by omega)
theorem aI_k (g : RdI n p q c) (i : Nat) : aI p q c i * ((840000 : Int) : Rat) = ((kI p q i * c i : Int) : Rat) := by
  have h1 := dI_k g i
  have h2 := cI_k g i
  unfold aI
  have e : ((840000 : Int) : Rat) = ((840 : Int) : Rat) * ((1000 : Int) : Rat) := by rw [← Rat.intCast_mul]; rfl
  rw [e, Rat.intCast_mul, ← h1, ← h2]
  grind
theorem kc_bd (g : RdI n p q c) (i : Nat) : 1 ≤ kI p q i * c i ∧ kI p q i * c i ≤ 860160000 := by
  have h1 := kI_bd g i
  have h2 := g.c i
  have e1 : (1 : Int) * 1 ≤ kI p q i * c i := Int.mul_le_mul h1.1 h2.1 (by omega) (by omega)
  have e2 : kI p q i * c i ≤ 215040 * 4000 := Int.mul_le_mul h1.2 h2.2 (by omega) (by omega)
  omega
theorem aI_fits (g : RdI n p q c) (i : Nat) : fitsR (aI p q c i) := fits_of (by omega) (by omega) (by have := kc_bd g i; omega) (aI_k g i)
theorem numpos {q : Rat} (h : 0 < q) : 0 < q.num := by
  have h1 : 0 ≤ q.num := Rat.num_nonneg.2 (Rat.le_of_lt h)
  have h2 : q.num ≠ 0 := fun e => by
    have := Rat.num_eq_zero.1 e
    rw [this] at h; exact absurd h (by decide)
  omega
theorem dI_pos (g : RdI n p q c) (i : Nat) : 0 < (dI p q i).num := by
  have h := dI_k g i
  have h1 := kI_bd g i
  have h2 : (0 : Rat) < dI p q i := by
    have : (0 : Rat) < ((kI p q i : Int) : Rat) := by exact_mod_cast (show (0 : Int) < kI p q i by omega)
    rw [← h] at this
    have h3 : (0 : Rat) < ((840 : Int) : Rat) := by decide +kernel
    grind
  exact numpos h2
theorem aI_pos (g : RdI n p q c) (i : Nat) : 0 < (aI p q c i).num := by
  have h := aI_k g i
  have h1 := kc_bd g i
  have h2 : (0 : Rat) < aI p q c i := by
    have : (0 : Rat) < ((kI p q i * c i : Int) : Rat) := by exact_mod_cast (show (0 : Int) < kI p q i * c i by omega)
    rw [← h] at this
    have h3 : (0 : Rat) < ((840000 : Int) : Rat) := by decide +kernel
    grind
  exact numpos h2
theorem sD (g : RdI n p q c) : ∀ k, sF (fun i => (dI p q i).num) (fun i => (dI p q i).den) k * ((840 : Int) : Rat) = ((sI (kI p q) k : Int) : Rat)
  | 0 => by simp [sF, sI]
  | k + 1 => by
    unfold sF sI
    rw [ratOf_rat, Rat.intCast_add, ← sD g k, ← dI_k g k]
    grind
theorem sA (g : RdI n p q c) : ∀ k, sF (fun i => (aI p q c i).num) (fun i => (aI p q c i).den) k * ((840000 : Int) : Rat) = ((sI (fun i => kI p q i * c i) k : Int) : Rat)
  | 0 => by simp [sF, sI]
  | k + 1 => by
    unfold sF sI
    rw [ratOf_rat, Rat.intCast_add, ← sA g k, ← aI_k g k]
    grind
theorem sk_bd (g : RdI n p q c) (k : Nat) (hk : k ≤ n) : (k : Int) ≤ sI (kI p q) k ∧ sI (kI p q) k ≤ 1720320 := by
  have h1 := sI_pos (fun i => (kI_bd g i).1) k
  have h2 := sI_bd (f := kI p q) (B := 215040) (fun i => by have := kI_bd g i; omega) k
  have := g.n
  refine ⟨h1, ?_⟩
  have : (k : Int) * 215040 ≤ 8 * 215040 := Int.mul_le_mul_of_nonneg_right (by omega) (by omega)
  omega
theorem ska_bd (g : RdI n p q c) (k : Nat) (hk : k ≤ n) : (k : Int) ≤ sI (fun i => kI p q i * c i) k ∧ sI (fun i => kI p q i * c i) k ≤ 6881280000 := by
  have h1 := sI_pos (fun i => (kc_bd g i).1) k
  have h2 := sI_bd (f := fun i => kI p q i * c i) (B := 860160000) (fun i => by have := kc_bd g i; omega) k
  have := g.n
  refine ⟨h1, ?_⟩
  have : (k : Int) * 860160000 ≤ 8 * 860160000 := Int.mul_le_mul_of_nonneg_right (by omega) (by omega)
  omega
theorem quo_k (g : RdI n p q c) : sF (fun i => (dI p q i).num) (fun i => (dI p q i).den) n ≠ 0 ∧
    sF (fun i => (aI p q c i).num) (fun i => (aI p q c i).den) n / sF (fun i => (dI p q i).num) (fun i => (dI p q i).den) n * 1000 * ((sI (kI p q) n : Int) : Rat) = ((sI (fun i => kI p q i * c i) n : Int) : Rat) := by
  have h1 := sD g n
  have h2 := sA g n
  have h3 := sk_bd g n (Nat.le_refl _)
  have h4 := g.n
  have h5 := castne (M := sI (kI p q) n) (by omega)
  rw [← h1] at h5
  have h6 : sF (fun i => (dI p q i).num) (fun i => (dI p q i).den) n ≠ 0 := by
    intro h; rw [h] at h5; simp at h5
  refine ⟨h6, ?_⟩
  have e : ((840000 : Int) : Rat) = 840 * 1000 := by decide +kernel
  have e2 : ((840 : Int) : Rat) = 840 := by decide +kernel
  rw [← h1, ← h2, e, e2]
  generalize sF (fun i => (aI p q c i).num) (fun i => (aI p q c i).den) n = A at *
  generalize sF (fun i => (dI p q i).num) (fun i => (dI p q i).den) n = D at *
  have : A / D * D = A := Rat.div_mul_cancel h6
  grind
theorem gdR (g : RdI n p q c) : GdR n (fun i => (dI p q i).num) (fun i => (dI p q i).den) (fun i => (aI p q c i).num) (fun i => (aI p q c i).den) := by
  obtain ⟨h6, h7⟩ := quo_k g
  have h3 := sk_bd g n (Nat.le_refl _)
  have h4 := ska_bd g n (Nat.le_refl _)
  have hn := g.n
  refine ⟨fun i hi => ⟨VF.of (dI_fits i), dI_pos g i⟩, fun i hi => ⟨VF.of (aI_fits g i), aI_pos g i⟩, fun i hi => ?_, fun i hi => ?_, h6, ?_, ?_⟩
  · have := sk_bd g i hi
    exact fits_of (M := 840) (by omega) (by omega) (by omega) (sD g i)
  · have := ska_bd g i hi
    exact fits_of (M := 840000) (by omega) (by omega) (by omega) (sA g i)
  · refine fits_of (M := 1000 * sI (kI p q) n) (K := sI (fun i => kI p q i * c i) n) (by omega) (by omega) (by omega) ?_
    rw [← h7, Rat.intCast_mul]
    have : ((1000 : Int) : Rat) = 1000 := by decide +kernel
    rw [this]
    grind
  · exact fits_of (M := sI (kI p q) n) (by omega) (by omega) (by omega) h7
theorem rdV_in (g : RdI n p q c) {lo hi : Int} (hl : ∀ i, i < n → lo ≤ c i ∧ c i ≤ hi) :
    lo ≤ rdV n (fun i => (dI p q i).num) (fun i => (dI p q i).den) (fun i => (aI p q c i).num) (fun i => (aI p q c i).den) ∧
    rdV n (fun i => (dI p q i).num) (fun i => (dI p q i).den) (fun i => (aI p q c i).num) (fun i => (aI p q c i).den) ≤ hi := by
  obtain ⟨h6, h7⟩ := quo_k g
  have h3 := sk_bd g n (Nat.le_refl _)
  have hn := g.n
  have l1 : lo * sI (kI p q) n ≤ sI (fun i => kI p q i * c i) n := by
    rw [← sI_mul]
    refine sI_le fun i hi => ?_
    rw [Int.mul_comm]
    exact Int.mul_le_mul_of_nonneg_left (hl i hi).1 (by have := kI_bd g i; omega)
  have l2 : sI (fun i => kI p q i * c i) n ≤ hi * sI (kI p q) n := by
    rw [← sI_mul]
    refine sI_le fun i hj => ?_
    rw [Int.mul_comm hi]
    exact Int.mul_le_mul_of_nonneg_left (hl i hj).2 (by have := kI_bd g i; omega)
  unfold rdV
  generalize sF (fun i => (aI p q c i).num) (fun i => (aI p q c i).den) n / sF (fun i => (dI p q i).num) (fun i => (dI p q i).den) n * 1000 = X at *
  refine ⟨?_, ?_⟩
  · refine Rat.le_floor_iff.2 ?_
    refine le_of_mul (M := sI (kI p q) n) (by omega) ?_
    rw [h7, ← Rat.intCast_mul]; exact cast_le l1
  · have : X ≤ (hi : Rat) := by
      refine le_of_mul (M := sI (kI p q) n) (by omega) ?_
      rw [h7, ← Rat.intCast_mul]; exact cast_le l2
    have h9 := Rat.floor_le X
    have : ((X.floor : Int) : Rat) ≤ (hi : Rat) := by grind
    exact_mod_cast this
end
end Go.Proofs.Ytcbjclmjkilphaa.Fr

