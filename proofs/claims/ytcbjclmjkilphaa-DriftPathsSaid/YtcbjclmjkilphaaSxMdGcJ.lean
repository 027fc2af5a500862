/- Part of a proof of the given statements of this seat (SxMdK, SxMdX, SxMdY, SxMdZ, SxMdZa, SxMdEx, SxMdQ, SxMdDa, SxMdDf, SxMdDg, SxMdDh, SxMdDi, SxMdGc): no conditions beyond those typed here. -/
import Derived.Test.YtcbjclmjkilphaaSy04
import Derived.Test.YtcbjclmjkilphaaSy06
import Derived.RangeFuncBox
import Derived.WalkKit
import Derived.OwnWalkIn
import Derived.TacticsInMore
import Derived.LoopNIn
import Derived.LoopIn
import Derived.Test.YtcbjclmjkilphaaSy05
import Derived.Shelf.Abstract
import Derived.Test.YtcbjclmjkilphaaRows
import Derived.Test.YtcbjclmjkilphaaChecked
set_option linter.unusedVariables false
set_option linter.unusedSimpArgs false

namespace Go.Proofs.Ytcbjclmjkilphaa
open Go.Sx Go.RowKit
set_option maxRecDepth 100000
attribute [local go_sem] Oper.semAt_some

noncomputable def bkEl (N : Nat) (cell : Nat → Nat → DV) (k : Nat) : List SV := [iv ((N : Int) - 1 - k), .agg [.d (cell (N - 1 - k) 0), .d (cell (N - 1 - k) 1)]]

set_option maxHeartbeats 2000000 in
/-- slices.Backward's closure. -/
theorem bk_in (l B O N : Nat) (sv : Value) (hN : N ≤ 2000) (f : Nat → Nat → Value) (W0 : World) (F : Nat → Prop) (J : Nat → World → Prop) (W : World)
    (hJe : ∀ k W, J k W → Ext F W0 W) (hB : F B) (hBs : W0.cell? ⟨B, O, none⟩ = some sv)
    (hsv : (N = 0 ∧ (sv = .slice none 0 0 ∨ ∃ a cap, sv = .slice (some a) 0 cap)) ∨ ∃ b o cap, sv = .slice (some ⟨b, o, none⟩) N cap ∧ N ≠ 0 ∧ F b ∧ ∀ i j, i < N → j < 2 → W0.cell? ⟨b, o + (i * 2 + j), none⟩ = some (f i j))
    (hY : ∀ k W1, k < N → J k W1 → YieldAt Fence.wide 0 Try.prog l #[.int .i64 ((N : Int) - 1 - k), .agg #[f (N - 1 - k) 0, f (N - 1 - k) 1]] W1 fun e W' => e = .returned (.bool true) ∧ J (k + 1) W')
    (h0 : J 0 W) : CallsIn Fence.wide 0 Try.prog 76 #[.func (.yield l) #[] #[], .pointer (some ⟨B, O, none⟩)] W fun e W' => (∃ v, e = .returned v) ∧ J N W' := by
  have hl : ∃ a cap, sv = .slice a N cap := by
    rcases hsv with ⟨rfl, rfl | ⟨a, cap, rfl⟩⟩ | ⟨b, o, cap, rfl, _⟩ <;> exact ⟨_, _, rfl⟩
  have hbox : ∀ k W1, J k W1 → W1.cell? ⟨B, O, none⟩ = some sv := fun k W1 h => ((hJe k W1 h).cell hB).trans hBs
  refine callsIn_of_wp Try.func76 rfl trivial ?_ rfl
  obtain ⟨a, cap, rfl⟩ := hl
  have hb0 := hbox 0 W h0
  simp only [Try.ntmps76, List.size_toArray, List.length_cons, List.length_nil, Nat.reduceAdd, Nat.reduceSub, Array.replicate_succ, Array.replicate_zero, List.push_toArray, List.append_toArray, List.nil_append, List.cons_append]
  gi_wp2
  gi_loopw [3] (fun i wr => ∃ k : Nat, k ≤ N ∧ i = .int .i64 ((N : Int) - 1 - k) ∧ J k wr) (fun i _ => (intOf i + 1).toNat)
  case atStart => 
    refine ⟨0, Nat.zero_le _, ?_, h0⟩
    simp
  case round =>
    obtain ⟨k, hk, rfl, hJs⟩ := hrel
    have hbk := hbox k wr hJs
    by_cases hlt : k < N
    · rcases hsv with ⟨h, _⟩ | ⟨b, o, cap', hsv, hN0, hb, hc⟩
      · omega
      cases hsv
      obtain ⟨fn, tmps, assign, body, hy, hR⟩ := hY k wr hlt hJs
      have hc0 : wr.cell? ⟨b, o + (N - 1 - k) * 2, none⟩ = some (f (N - 1 - k) 0) := ((hJe k wr hJs).cell hb).trans (hc (N - 1 - k) 0 (by omega) (by omega))
      have hc1 : wr.cell? ⟨b, o + (N - 1 - k) * 2 + 1, none⟩ = some (f (N - 1 - k) 1) := ((hJe k wr hJs).cell hb).trans (hc (N - 1 - k) 1 (by omega) (by omega))
      have e1 : (N : Int) - 1 - k = ((N - 1 - k : Nat) : Int) := by omega
      rw [e1] at hy ⊢
      gi_wp2
      refine ⟨rfl, hR.mono ?_⟩
      rintro e W3 ⟨rfl, hJ3⟩
      gi_wp2
      go_roundw
      case rel => exact ⟨k + 1, by omega, by simp <;> omega, hJ3⟩
      case measure => simp [intOf] <;> omega
    · obtain rfl : k = N := by omega
      gi_wp2
      go_end0
      exact ⟨⟨_, rfl⟩, hJs⟩

theorem bk_iter (N : Nat) (cell : Nat → Nat → DV) (hN : N ≤ 2000) (c : Nat → DV) (hc0 : c 0 = .ro N 2 cell) : IterOK Try.prog 76 [.rop 1 c] N (bkEl N cell) := by
  rintro W0 F vs hF ⟨h1, h2⟩
  have hv := h2 0 (by simp)
  obtain ⟨v, rfl⟩ : ∃ v, vs = #[v] := by
    refine ⟨vs.getD 0 undef, ?_⟩
    apply Array.ext
    · simpa using h1
    · intro i hi _
      have : i = 0 := by simp at h1; omega
      subst this
      simp [Array.getD, hi]
  simp only [List.getD_cons_zero] at hv
  have hv : Rep W0 emp F v (.rop 1 c) := by simpa [Array.getD] using hv
  cases hv with
  | rop b o _ _ f hb hcell hone hrep =>
    have hbox := hcell 0 (by omega)
    have hsv := hrep 0 (by omega)
    rw [hc0] at hsv
    have hB := hb (by omega)
    generalize f 0 = sv at hbox hsv
    have key : ∃ g : Nat → Nat → Value, ((N = 0 ∧ (sv = .slice none 0 0 ∨ ∃ a cap, sv = .slice (some a) 0 cap)) ∨ ∃ b o cap, sv = .slice (some ⟨b, o, none⟩) N cap ∧ N ≠ 0 ∧ F b ∧ ∀ i j, i < N → j < 2 → W0.cell? ⟨b, o + (i * 2 + j), none⟩ = some (g i j)) ∧ ∀ i j, i < N → j < 2 → RepD W0 F (g i j) (cell i j) := by
      cases hsv with
      | nil => exact ⟨fun _ _ => undef, .inl ⟨rfl, .inl rfl⟩, fun i j hi => by omega⟩
      | z a cap => exact ⟨fun _ _ => undef, .inl ⟨rfl, .inr ⟨a, cap, rfl⟩⟩, fun i j hi => by omega⟩
      | ro b o _ cap _ _ g hF' hcap hcell hone hrep =>
        by_cases h0 : N = 0
        · subst h0; exact ⟨g, .inl ⟨rfl, .inr ⟨_, cap, rfl⟩⟩, hrep⟩
        · exact ⟨g, .inr ⟨b, o, cap, rfl, h0, hF' h0, hcell⟩, hrep⟩
    obtain ⟨g, k1, k2⟩ := key
    refine ⟨fun k => #[.int .i64 ((N : Int) - 1 - k), .agg #[g (N - 1 - k) 0, g (N - 1 - k) 1]], fun k hk => ⟨rfl, fun i hi => ?_⟩, fun l J W hJe _ hY h0 => ?_⟩
    · match i, hi with
      | 0, _ => exact .d (.x _)
      | 1, _ =>
        refine .agg _ _ rfl fun i hi => ?_
        match i, hi with
        | 0, _ => exact .d (k2 _ _ (by omega) (by omega))
        | 1, _ => exact .d (k2 _ _ (by omega) (by omega))
    · exact bk_in l b o N sv hN g W0 F J W hJe hB hbox k1 hY h0

end Go.Proofs.Ytcbjclmjkilphaa

namespace Go.Proofs.Ytcbjclmjkilphaa
open Go.Sx
set_option maxRecDepth 100000

/-! ### drift.Path -/

noncomputable def inl7 : FuncId → Bool := fun k => k == 58
noncomputable def C7x : Ctx := ctxN Try.prog man4 inl7 200 .nil 4
theorem C7x_ok : CtxOK Try.prog C7x := ctxN_ok mixed (fun k c h => by
  unfold man4 at h
  split at h
  · rename_i e; cases h; subst e; exact ⟨cSpans_ok, by kernel_rfl⟩
  · cases h) 4
noncomputable def D7x : Dr := fun _ => drawn Try.prog C7x
theorem D7x_ok : DrOK Try.prog C7x D7x := drawn_ok C7x_ok mixed

noncomputable def tPa (lo hi st er : Int) (n : Nat) (L : Nat → Int) (last : Int) : Tree SV := fnT Try.prog C7x D7x 200 (fnOf Try.prog 31) (bodyOf Try.prog 31) [iv lo, iv hi, iv st, iv er, ro64 n L, iv last] .nil

noncomputable def LPa (lo hi st er : Int) (n : Nat) (L : Nat → Int) (last : Int) : Tree SV :=
  .need (dV lo hi st er ∧ n ≤ 1000 ∧ ∀ (i : Nat), i < n → ∃ b, (fun i x => DV.x (.int .i64 (L i))) i (0 : Nat) = DV.x (.int .i64 b))
  (.ite (dE lo hi st er (fun i => intOf1 (DV.x (.int .i64 (L i)))) n != (0 : Int))
    (.ret (.tup [.d (DV.x (.slice none 0 0)), iv (dE lo hi st er (fun i => intOf1 (DV.x (.int .i64 (L i)))) n)]))
    (.need
      ((0 : Int) ≤ w64 ((↑(dCnt lo hi st er (fun i => intOf1 (DV.x (.int .i64 (L i)))) n + 1) : Int) - (1 : Int)) ∧
        w64 ((↑(dCnt lo hi st er (fun i => intOf1 (DV.x (.int .i64 (L i)))) n + 1) : Int) - (1 : Int)) < (↑(dCnt lo hi st er (fun i => intOf1 (DV.x (.int .i64 (L i)))) n + 1) : Int))
      (.need ((0 : Int) ≤ (0 : Int) ∧ (0 : Int) < (2 : Int))
        (.need (0 < 2)
          (.need
            (decide (last < dL lo st er (fun i => intOf1 (DV.x (.int .i64 (L i)))) (Int.toNat (w64 ((↑(dCnt lo hi st er (fun i => intOf1 (DV.x (.int .i64 (L i)))) n + 1) : Int) - (1 : Int))))) = false →
              (0 : Int) ≤ (1 : Int) ∧ (1 : Int) < (2 : Int))
            (.need
              (decide (last < dL lo st er (fun i => intOf1 (DV.x (.int .i64 (L i)))) (Int.toNat (w64 ((↑(dCnt lo hi st er (fun i => intOf1 (DV.x (.int .i64 (L i)))) n + 1) : Int) - (1 : Int))))) = false →
                1 < 2)
              (.ite
                (decide (last < dL lo st er (fun i => intOf1 (DV.x (.int .i64 (L i)))) (Int.toNat (w64 ((↑(dCnt lo hi st er (fun i => intOf1 (DV.x (.int .i64 (L i)))) n + 1) : Int) - (1 : Int))))) ||
                  decide (last > dH hi st er (fun i => intOf1 (DV.x (.int .i64 (L i)))) (Int.toNat (w64 ((↑(dCnt lo hi st er (fun i => intOf1 (DV.x (.int .i64 (L i)))) n + 1) : Int) - (1 : Int))))))
                (.ret (.tup [.d (DV.x (.slice none 0 0)), iv (4 : Int)]))
                (.need
                  ((0 : Int) ≤ (↑(dCnt lo hi st er (fun i => intOf1 (DV.x (.int .i64 (L i)))) n + 1) : Int) ∧
                    (↑(dCnt lo hi st er (fun i => intOf1 (DV.x (.int .i64 (L i)))) n + 1) : Int) ≤ (↑(dCnt lo hi st er (fun i => intOf1 (DV.x (.int .i64 (L i)))) n + 1) : Int) ∧
                      (↑(dCnt lo hi st er (fun i => intOf1 (DV.x (.int .i64 (L i)))) n + 1) : Int) * (8 : Int) ≤ (140737488355328 : Int))
                  (.code (codeC (sub [(0 : Nat), (1 : Nat), (0 : Nat), (0 : Nat), (0 : Nat), (0 : Nat), (0 : Nat), (1 : Nat), (0 : Nat)] (tPa lo hi st er n L last)))
                    (codeS (sub [(0 : Nat), (1 : Nat), (0 : Nat), (0 : Nat), (0 : Nat), (0 : Nat), (0 : Nat), (1 : Nat), (0 : Nat)] (tPa lo hi st er n L last)))
                    (codeK (sub [(0 : Nat), (1 : Nat), (0 : Nat), (0 : Nat), (0 : Nat), (0 : Nat), (0 : Nat), (1 : Nat), (0 : Nat)] (tPa lo hi st er n L last))))))))))))

theorem LPa_eq (lo hi st er : Int) (n : Nat) (L : Nat → Int) (last : Int) : tPa lo hi st er n L last = LPa lo hi st er n L last := by kernel_rfl

noncomputable def subPa (lo hi st er : Int) (n : Nat) (L : Nat → Int) (last : Int) : Tree SV := sub [0, 1, 0, 0, 0, 0, 0, 1, 0] (tPa lo hi st er n L last)
noncomputable def TMPa : List TV := List.replicate 11 .unk ++ [.ok (.ptr 0 0)] ++ List.replicate 6 .unk ++ [.ok (.ptr 6 0)] ++ List.replicate 50 .unk
noncomputable def invPa (x : Int) (m : Nat) (c : Nat → Int) : AS :=
  ⟨List.replicate 69 .unk, [some (.cells [iv x]), none, none, none, none, some (row64 m c), some (.cells [.row 5 0 0 m 1]), none, none], 9, .nil⟩
noncomputable def aPa : Code := rgA (rangeN (bodyOf Try.prog 31) 0)
noncomputable def bPa : Code := rgB (rangeN (bodyOf Try.prog 31) 0)
noncomputable def rPa (i a b x : Int) (m : Nat) (c : Nat → Int) : Tree (Ex × AS) := roundT Try.prog C7x D7x 200 9 [] [1, 2, 3, 4, 7, 8] 9 .nil aPa bPa ⟨parTm [55, 56] [iv i, .agg [iv a, iv b]] TMPa, (invPa x m c).hp, 9, .nil⟩
noncomputable def BPa (i a b x : Int) (m : Nat) (c : Nat → Int) : Tree (Ex × AS) :=
  .need ((0 : Int) ≤ (0 : Int) ∧ (0 : Int) < (2 : Int))
  (.need (0 < 2)
    (.need ((0 : Int) ≤ (1 : Int) ∧ (1 : Int) < (2 : Int))
      (.need (1 < 2)
        (.need ((0 : Int) ≤ i ∧ i < (↑m : Int))
          (.need (0 + Int.toNat i < m)
            (.ret
              (.normal,
                {
                  tm :=
                    [.unk, .unk, .unk, .unk, .unk, .unk, .unk, .unk, .unk, .unk, .unk, .unk, .unk, .unk, .unk, .unk, .unk, .unk, .unk, .unk, .unk, .unk, .unk, .unk, .unk, .unk, .unk,
                      .unk, .unk, .unk, .unk, .unk, .unk, .unk, .unk, .unk, .unk, .unk, .unk, .unk, .unk, .unk, .unk, .unk, .unk, .unk, .unk, .unk, .unk, .unk, .unk, .unk, .unk, .unk,
                      .unk, .unk, .unk, .unk, .unk, .unk, .unk, .unk, .unk, .unk, .unk, .unk, .unk, .unk, .unk],
                  hp :=
                    [some (.cells [iv (if b < if a > x then a else x then b else if a > x then a else x)]), none, none, none, none,
                      some
                        (.row m 1 fun a_1 b_1 =>
                          if 0 ≤ b_1 ∧ b_1 < 1 then
                            selD (decide (a_1 = 0 + Int.toNat i))
                              (match [DV.x (.int .i64 (if b < if a > x then a else x then b else if a > x then a else x))][b_1 - 0]? with
                              | some x => x
                              | none => DV.x (.tuple { toList := [] }))
                              (DV.x (.int .i64 (c a_1)))
                          else DV.x (.int .i64 (c a_1))),
                      some (.cells [.row 5 0 0 m 1]), none, none],
                  next := 9, hint := .nil })))))))

theorem BPa_eq (i a b x : Int) (m : Nat) (c : Nat → Int) : rPa i a b x m c = BPa i a b x m c := by kernel_rfl

noncomputable def inPa (t : Tree SV) : Option AS := entR 9 [8] [] [1, 2, 3, 4, 7, 8] 9 .nil t
noncomputable def IPa (lo hi st er : Int) (n : Nat) (L : Nat → Int) (last : Int) : Option AS :=
  some
  {
    tm :=
      [.unk, .unk, .unk, .unk, .unk, .unk, .unk, .unk, .unk, .unk, .unk, .unk, .unk, .unk, .unk, .unk, .unk, .unk, .unk, .unk, .unk, .unk, .unk, .unk, .unk, .unk, .unk, .unk, .unk,
        .unk, .unk, .unk, .unk, .unk, .unk, .unk, .unk, .unk, .unk, .unk, .unk, .unk, .unk, .unk, .unk, .unk, .unk, .unk, .unk, .unk, .unk, .unk, .unk, .unk, .unk, .unk, .unk, .unk,
        .unk, .unk, .unk, .unk, .unk, .unk, .unk, .unk, .unk, .unk, .unk],
    hp :=
      [some (.cells [iv last]), none, none, none, none,
        some
          (.row (Int.toNat (↑(dCnt lo hi st er (fun i => intOf1 (DV.x (.int .i64 (L i)))) n + 1) : Int)) 1 fun x j =>
            match [DV.x (.int .i64 (0 : Int))][j]? with
            | some x => x
            | none => DV.x (.tuple { toList := [] })),
        some (.cells [.row 5 0 0 (Int.toNat (↑(dCnt lo hi st er (fun i => intOf1 (DV.x (.int .i64 (L i)))) n + 1) : Int)) 1]), none, none],
    next := 9, hint := .nil }

theorem IPa_eq (lo hi st er : Int) (n : Nat) (L : Nat → Int) (last : Int) : inPa (subPa lo hi st er n L last) = IPa lo hi st er n L last := by kernel_rfl

noncomputable def KPa (lo hi st er : Int) (n : Nat) (L : Nat → Int) (last x : Int) (m : Nat) (c : Nat → Int) : Tree SV :=
  .need (0 + m ≤ m) (.ret (.tup [.d (DV.ro m 1 fun i j => DV.x (.int .i64 (c ((0 : Nat) + i)))), iv (0 : Int)]))

theorem KPa_eq (lo hi st er : Int) (n : Nat) (L : Nat → Int) (last x : Int) (m : Nat) (c : Nat → Int) : codeK (subPa lo hi st er n L last) .normal ⟨TMPa, (invPa x m c).hp, 9, .nil⟩ = KPa lo hi st er n L last x m c := by kernel_rfl

theorem cPa (lo hi st er : Int) (n : Nat) (L : Nat → Int) (last : Int) : codeC (subPa lo hi st er n L last) = .rangeFunc (.tmp 54) #[55, 56] aPa bPa := by kernel_rfl
theorem nPa (lo hi st er : Int) (n : Nat) (L : Nat → Int) (last : Int) : Nat.ble (codeS (subPa lo hi st er n L last)).next 9 = true := by kernel_rfl
theorem gPa (lo hi st er : Int) (n : Nat) (L : Nat → Int) (last : Int) : tvStrict none (tget (codeS (subPa lo hi st er n L last)).tm 54) = some (.fn (.func 76) [] [.ptr 8 0]) := by kernel_rfl
theorem vPa (lo hi st er : Int) (n : Nat) (L : Nat → Int) (last : Int) : capV (codeS (subPa lo hi st er n L last)).hp [.ptr 8 0] = some ([.rop 1 fun j => [DV.ro (dCnt lo hi st er L n + 1) 2 (scell (dL lo st er L) (dH hi st er L))].getD j (.x undef)], [8]) := by kernel_rfl
theorem tPaK (lo hi st er : Int) (n : Nat) (L : Nat → Int) (last : Int) : keepTm [11, 18] 0 (codeS (subPa lo hi st er n L last)).tm = TMPa := by kernel_rfl
theorem naPa : noRange aPa = true := by kernel_rfl
theorem nbPa : noRange bPa = true := by kernel_rfl

end Go.Proofs.Ytcbjclmjkilphaa

namespace Go.Proofs.Ytcbjclmjkilphaa
open Go.Sx
set_option maxRecDepth 100000
variable {lo hi st er last : Int} {L : Nat → Int} {n k : Nat}

/-! ### drift.Path -/

/-- The path from its end: what it is behind k rounds. -/
def pw (lo hi st er : Int) (n : Nat) (L : Nat → Int) (last : Int) : Nat → Int
  | 0 => last
  | k + 1 => min (max (pw lo hi st er n L last k) (dL lo st er L (n - k))) (dH hi st er L (n - k))
/-- The path. -/
def pth (lo hi st er : Int) (n : Nat) (L : Nat → Int) (last : Int) (i : Nat) : Int := pw lo hi st er n L last (n + 1 - i)
def cP (lo hi st er : Int) (n : Nat) (L : Nat → Int) (last : Int) (k i : Nat) : Int := if n + 1 - k ≤ i then pth lo hi st er n L last i else 0

theorem invPa_gc {x : Int} {m : Nat} {c' : Nat → Nat → DV} {c : Nat → Int} (h : ∀ i j, i < m → j < 1 → c' i j = xi (c i)) :
    Gc 9 ⟨List.replicate 69 .unk, [some (.cells [iv x]), none, none, none, none, some (.row m 1 c'), some (.cells [.row 5 0 0 m 1]), none, none], 9, .nil⟩ (invPa x m c) := by
  refine gc_sound [] [] rfl ?_ ?_
  · simp [invPa, leTm, leTV, List.replicate]
  · simp [invPa, leHp, leBlk, leSVs, leSV, rn, iv, leD, srcOf, hget, row64]
    exact fun i hi => h i 0 hi (by decide)

noncomputable def paT (lo hi st er : Int) (n : Nat) (L : Nat → Int) (last : Int) : Tr SV :=
  .ite (dB lo hi st er L n) (.ite (decide (dL lo st er L n ≤ last) && decide (last ≤ dH hi st er L n)) (.ret (.tup [.d (.ro (n + 1) 1 fun i _ => xi (pth lo hi st er n L last i)), iv 0])) (.ret (.tup [.d (.x (.slice none 0 0)), iv 4]))) (.ret (.tup [.d (.x (.slice none 0 0)), iv 440]))

theorem pa_sat (hv : dV lo hi st er) (hn : n ≤ 1000) {r : SV} (hr : (paT lo hi st er n L last).ev r) : Sat Try.prog (tPa lo hi st er n L last) (· = r) := by
  constructor
  rw [LPa_eq]; unfold LPa
  rw [show (fun i => intOf1 (DV.x (Value.int IntKind.i64 (L i)))) = L from rfl]
  refine ⟨⟨hv, hn, fun i hi => ⟨_, rfl⟩⟩, fun hc => ?_, fun hc => ?_⟩
  · have hb : dB lo hi st er L n = false := by
      cases h : dB lo hi st er L n with
      | false => rfl
      | true => simp [dE, h] at hc
    simp only [paT, hb, Tr.ev, Bool.false_eq_true, false_and, false_or, true_and] at hr
    subst hr
    simp only [Tree.sat, dE, hb, cond_false]
  have hb : dB lo hi st er L n = true := by
    cases h : dB lo hi st er L n with
    | true => rfl
    | false => simp [dE, h] at hc
  simp only [paT, hb, Tr.ev, Bool.true_eq_false, false_and, or_false, true_and] at hr
  rw [dCnt_all hb]
  have e : w64 (((n + 1 : Nat) : Int) - 1) = n := by rw [w64_of (by omega) (by omega)]; omega
  rw [e]
  simp only [Int.toNat_natCast]
  refine ⟨by omega, by decide, by decide, fun _ => by decide, fun _ => by decide, fun hc => ?_, fun hc => ?_⟩
  · have : (decide (dL lo st er L n ≤ last) && decide (last ≤ dH hi st er L n)) = false := by
      simp at hc ⊢; omega
    simp only [this, Bool.false_eq_true, false_and, false_or, true_and] at hr
    subst hr
    rfl
  have hin : (decide (dL lo st er L n ≤ last) && decide (last ≤ dH hi st er L n)) = true := by
    simp at hc ⊢; omega
  simp only [hin, Bool.true_eq_false, false_and, or_false, true_and] at hr
  subst hr
  refine ⟨by omega, ?_⟩
  have hv1 := vPa lo hi st er n L last
  rw [dCnt_all hb] at hv1
  refine range_satS C7x_ok D7x_ok (n := 200) (n0 := 9) (nx := 9) (roots := []) (drop := [1, 2, 3, 4, 7, 8]) (keep := [11, 18]) (h := .nil) (h' := .nil) (N := n + 1) (cPa lo hi st er n L last) (nPa lo hi st er n L last) (gPa lo hi st er n L last) hv1
    (bk_iter (n + 1) (scell (dL lo st er L) (dH hi st er L)) (by omega) _ rfl) (fun k hk => rfl) (enters_of Try.func76 (by kernel_rfl) rfl) naPa nbPa (tPaK lo hi st er n L last)
    (fun k s => s = invPa (pw lo hi st er n L last k) (n + 1) (cP lo hi st er n L last k)) ⟨_, rfl, ?_⟩ ?_ ?_
  · have hI := IPa_eq lo hi st er n L last
    unfold IPa inPa at hI
    refine (entR_sound hI).trans ?_
    rw [show (fun i => intOf1 (DV.x (Value.int IntKind.i64 (L i)))) = L from rfl, dCnt_all hb]
    refine invPa_gc fun i j hi2 hj => ?_
    obtain rfl : j = 0 := by omega
    simp only [cP]
    rw [if_neg (by omega)]
    rfl
  · rintro k s hk rfl
    have hbody : roundT Try.prog C7x D7x 200 9 [] [1, 2, 3, 4, 7, 8] 9 .nil aPa bPa ⟨parTm [55, 56] (bkEl (n + 1) (scell (dL lo st er L) (dH hi st er L)) k) TMPa, (invPa (pw lo hi st er n L last k) (n + 1) (cP lo hi st er n L last k)).hp, 9, .nil⟩ = _ :=
      BPa_eq (((n + 1 : Nat) : Int) - 1 - k) (dL lo st er L (n + 1 - 1 - k)) (dH hi st er L (n + 1 - 1 - k)) (pw lo hi st er n L last k) (n + 1) (cP lo hi st er n L last k)
    constructor
    refine Eq.mpr (congrArg (fun t => Tree.sat Try.prog t _) hbody) ?_
    unfold BPa
    have e1 : Int.toNat (((n + 1 : Nat) : Int) - 1 - k) = n - k := by omega
    simp only [lt_if, gt_if, e1, Nat.add_sub_cancel]
    refine ⟨by decide, by decide, by decide, by decide, by omega, by omega, rfl, _, rfl, ?_⟩
    rw [show min (max (pw lo hi st er n L last k) (dL lo st er L (n - k))) (dH hi st er L (n - k)) = pw lo hi st er n L last (k + 1) from rfl]
    refine invPa_gc fun i j hi2 hj => ?_
    obtain rfl : j = 0 := by omega
    rw [if_pos (by omega), selD_eq]
    by_cases h : i = n - k
    · subst h
      have e2 : cP lo hi st er n L last (k + 1) (n - k) = pw lo hi st er n L last (k + 1) := by
        simp only [cP, pth]
        rw [if_pos (by omega), show n + 1 - (n - k) = k + 1 by omega]
      rw [e2]
      simp
    · have : ¬ i = 0 + (n - k) := by omega
      simp only [this, decide_false, cond_false, cP]
      by_cases h2 : n + 1 - k ≤ i
      · rw [if_pos h2, if_pos (by omega)]
      · rw [if_neg h2, if_neg (by omega)]
  · rintro s rfl
    have hK : codeK (sub [0, 1, 0, 0, 0, 0, 0, 1, 0] (tPa lo hi st er n L last)) .normal ⟨TMPa, (invPa (pw lo hi st er n L last (n + 1)) (n + 1) (cP lo hi st er n L last (n + 1))).hp, (invPa (pw lo hi st er n L last (n + 1)) (n + 1) (cP lo hi st er n L last (n + 1))).next, .nil⟩ = _ := KPa_eq lo hi st er n L last (pw lo hi st er n L last (n + 1)) (n + 1) (cP lo hi st er n L last (n + 1))
    constructor
    rw [hK]
    unfold KPa
    refine ⟨by omega, ?_⟩
    simp only [Tree.sat, cP, Nat.zero_add, Nat.sub_self, Nat.zero_le, if_true]

noncomputable def cPath : Ctr := fun ss => match ss with
  | [.d (.x (.int .i64 lo)), .d (.x (.int .i64 hi)), .d (.x (.int .i64 st)), .d (.x (.int .i64 er)), .d (.ro n 1 cell), .d (.x (.int .i64 last))] =>
    .need (dV lo hi st er ∧ n ≤ 1000 ∧ ∀ i, i < n → ∃ b, cell i 0 = .x (.int .i64 b)) (paT lo hi st er n (intCell cell) last)
  | _ => .fail

theorem cPath_ok : CtrOK Try.prog 31 cPath := by
  refine ctrOK_leS C7x_ok D7x_ok (by kernel_rfl) (by kernel_rfl) fun ss r h => ?_
  unfold cPath at h
  split at h
  · rename_i lo hi st er n cell last
    obtain ⟨⟨hv, hn, hb⟩, h⟩ := h
    refine ⟨[iv lo, iv hi, iv st, iv er, ro64 n (intCell cell), iv last], 200, .nil, ?_, pa_sat hv hn h⟩
    simp only [leSVs, leSV, iv, ro64, leD, and_true, true_and]
    exact le_ro64 hb
  · exact h.elim

/-- drift.Path where there is a path. -/
noncomputable def cPath1 : Ctr := fun ss => match ss with
  | [.d (.x (.int .i64 lo)), .d (.x (.int .i64 hi)), .d (.x (.int .i64 st)), .d (.x (.int .i64 er)), .d (.ro n 1 cell), .d (.x (.int .i64 last))] =>
    .need ((dV lo hi st er ∧ n ≤ 1000 ∧ ∀ i, i < n → ∃ b, cell i 0 = .x (.int .i64 b)) ∧ dB lo hi st er (intCell cell) n = true ∧ dL lo st er (intCell cell) n ≤ last ∧ last ≤ dH hi st er (intCell cell) n) (.ret (.tup [.d (.ro (n + 1) 1 fun i _ => xi (pth lo hi st er n (intCell cell) last i)), iv 0]))
  | _ => .fail

theorem cPath1_ok : CtrOK Try.prog 31 cPath1 := cPath_ok.mono fun ss r h => by
  unfold cPath1 at h
  split at h
  · rename_i lo hi st er n cell last
    obtain ⟨⟨h0, h1, h2, h3⟩, h⟩ := h
    refine ⟨h0, ?_⟩
    simp only [Tr.ev] at h
    subst h
    unfold paT
    exact .inl ⟨h1, .inl ⟨by simp [h2, h3], rfl⟩⟩
  · exact h.elim

end Go.Proofs.Ytcbjclmjkilphaa

namespace Go.Proofs.Ytcbjclmjkilphaa
open Go.Sx
set_option maxRecDepth 100000

/-! ### drift.Spans -/

noncomputable def inl8 : FuncId → Bool := fun k => k == 58
noncomputable def C8x : Ctx := ctxN Try.prog man4 inl8 200 .nil 4
theorem C8x_ok : CtxOK Try.prog C8x := ctxN_ok mixed (fun k c h => by
  unfold man4 at h
  split at h
  · rename_i e; cases h; subst e; exact ⟨cSpans_ok, by kernel_rfl⟩
  · cases h) 4
noncomputable def D8x : Dr := fun _ => drawn Try.prog C8x
theorem D8x_ok : DrOK Try.prog C8x D8x := drawn_ok C8x_ok mixed

noncomputable def tSn (lo hi st er : Int) (n : Nat) (L : Nat → Int) : Tree SV := fnT Try.prog C8x D8x 200 (fnOf Try.prog 63) (bodyOf Try.prog 63) [iv lo, iv hi, iv st, iv er, ro64 n L] .nil

noncomputable def LSn (lo hi st er : Int) (n : Nat) (L : Nat → Int) : Tree SV :=
  .need (dV lo hi st er ∧ n ≤ 1000 ∧ ∀ (i : Nat), i < n → ∃ b, (fun i x => DV.x (.int .i64 (L i))) i (0 : Nat) = DV.x (.int .i64 b))
  (.ite (dE lo hi st er (fun i => intOf1 (DV.x (.int .i64 (L i)))) n != (0 : Int))
    (.ret (.tup [.d (DV.x (.slice none 0 0)), iv (dE lo hi st er (fun i => intOf1 (DV.x (.int .i64 (L i)))) n)]))
    (.need
      ((0 : Int) ≤ (↑(dCnt lo hi st er (fun i => intOf1 (DV.x (.int .i64 (L i)))) n + 1) : Int) ∧
        (↑(dCnt lo hi st er (fun i => intOf1 (DV.x (.int .i64 (L i)))) n + 1) : Int) ≤ (↑(dCnt lo hi st er (fun i => intOf1 (DV.x (.int .i64 (L i)))) n + 1) : Int) ∧
          (↑(dCnt lo hi st er (fun i => intOf1 (DV.x (.int .i64 (L i)))) n + 1) : Int) * (16 : Int) ≤ (140737488355328 : Int))
      (.need
        ((0 : Int) ≤ w64 ((↑(dCnt lo hi st er (fun i => intOf1 (DV.x (.int .i64 (L i)))) n + 1) : Int) - (1 : Int)) ∧
          w64 ((↑(dCnt lo hi st er (fun i => intOf1 (DV.x (.int .i64 (L i)))) n + 1) : Int) - (1 : Int)) < (↑(dCnt lo hi st er (fun i => intOf1 (DV.x (.int .i64 (L i)))) n + 1) : Int))
        (.code (codeC (sub [(0 : Nat), (1 : Nat), (0 : Nat), (0 : Nat)] (tSn lo hi st er n L))) (codeS (sub [(0 : Nat), (1 : Nat), (0 : Nat), (0 : Nat)] (tSn lo hi st er n L)))
          (codeK (sub [(0 : Nat), (1 : Nat), (0 : Nat), (0 : Nat)] (tSn lo hi st er n L)))))))

theorem LSn_eq (lo hi st er : Int) (n : Nat) (L : Nat → Int) : tSn lo hi st er n L = LSn lo hi st er n L := by kernel_rfl

noncomputable def pSn : List Nat := [0, 1, 0, 0]
noncomputable def TMSn : List TV := List.replicate 12 .unk ++ [.ok (.ptr 0 0), .ok (.ptr 1 0), .unk, .ok (.ptr 5 0), .ok (.ptr 7 0)] ++ List.replicate 45 .unk
noncomputable def invSn (lo hi st er : Int) (N : Nat) (sl sh : Nat → Int) (x y : Int) (m : Nat) (cl ch : Nat → Int) : AS :=
  ⟨List.replicate 62 .unk, [some (.cells [iv lo, iv hi, iv st, iv er]), some (.cells [.d (.ro N 2 (scell sl sh))]), none, none, some (.row m 2 (scell cl ch)), some (.cells [.row 4 0 0 m 2]), none, some (.cells [iv x, iv y]), none, none], 10, .nil⟩
noncomputable def aSn : Code := rgA (rangeN (bodyOf Try.prog 63) 0)
noncomputable def bSn : Code := rgB (rangeN (bodyOf Try.prog 63) 0)
noncomputable def rSn (i a b lo hi st er : Int) (N : Nat) (sl sh : Nat → Int) (x y : Int) (m : Nat) (cl ch : Nat → Int) : Tree (Ex × AS) := roundT Try.prog C8x D8x 200 10 [] [2, 3, 6, 8, 9] 10 .nil aSn bSn ⟨parTm [43, 44] [iv i, .agg [iv a, iv b]] TMSn, (invSn lo hi st er N sl sh x y m cl ch).hp, 10, .nil⟩
noncomputable def BSn (i a b lo hi st er : Int) (N : Nat) (sl sh : Nat → Int) (x y : Int) (m : Nat) (cl ch : Nat → Int) : Tree (Ex × AS) :=
  .need ((0 : Int) ≤ (0 : Int) ∧ (0 : Int) < (2 : Int))
  (.need (0 < 2)
    (.need ((0 : Int) ≤ (1 : Int) ∧ (1 : Int) < (2 : Int))
      (.need (1 < 2)
        (.need ((0 : Int) ≤ (0 : Int) ∧ (0 : Int) < (2 : Int))
          (.need (0 < 2)
            (.need ((0 : Int) ≤ (0 : Int) ∧ (0 : Int) < (2 : Int))
              (.need (0 < 2)
                (.need ((0 : Int) ≤ (1 : Int) ∧ (1 : Int) < (2 : Int))
                  (.need (1 < 2)
                    (.need ((0 : Int) ≤ (1 : Int) ∧ (1 : Int) < (2 : Int))
                      (.need (1 < 2)
                        (.ite (i == w64 ((↑N : Int) - (1 : Int)))
                          (.need ((0 : Int) ≤ i ∧ i < (↑m : Int))
                            (.need (0 + Int.toNat i < m)
                              (.ret
                                (.normal,
                                  {
                                    tm :=
                                      [.unk, .unk, .unk, .unk, .unk, .unk, .unk, .unk, .unk, .unk, .unk, .unk, .unk, .unk, .unk, .unk, .unk, .unk, .unk, .unk, .unk, .unk, .unk, .unk, .unk,
                                        .unk, .unk, .unk, .unk, .unk, .unk, .unk, .unk, .unk, .unk, .unk, .unk, .unk, .unk, .unk, .unk, .unk, .unk, .unk, .unk, .unk, .unk, .unk, .unk, .unk,
                                        .unk, .unk, .unk, .unk, .unk, .unk, .unk, .unk, .unk, .unk, .unk, .unk],
                                    hp :=
                                      [some (.cells [iv lo, iv hi, iv st, iv er]),
                                        some
                                          (.cells
                                            [.d
                                                (DV.ro N 2 fun a b =>
                                                  match b with
                                                  | (0 : Nat) => DV.x (.int .i64 (sl a))
                                                  | x => DV.x (.int .i64 (sh a)))]),
                                        none, none,
                                        some
                                          (.row m 2 fun a_1 b_1 =>
                                            if 0 ≤ b_1 ∧ b_1 < 2 then
                                              selD (decide (a_1 = 0 + Int.toNat i))
                                                (match [DV.x (.int .i64 a), DV.x (.int .i64 b)][b_1 - 0]? with
                                                | some x => x
                                                | none => DV.x (.tuple { toList := [] }))
                                                (scell cl ch a_1 b_1)
                                            else scell cl ch a_1 b_1),
                                        some (.cells [.row 4 0 0 m 2]), none, some (.cells [iv a, iv b]), none, none],
                                    next := 10, hint := .nil }))))
                          (.need ((0 : Int) ≤ i ∧ i < (↑m : Int))
                            (.need (0 + Int.toNat i < m)
                              (.ret
                                (.normal,
                                  {
                                    tm :=
                                      [.unk, .unk, .unk, .unk, .unk, .unk, .unk, .unk, .unk, .unk, .unk, .unk, .unk, .unk, .unk, .unk, .unk, .unk, .unk, .unk, .unk, .unk, .unk, .unk, .unk,
                                        .unk, .unk, .unk, .unk, .unk, .unk, .unk, .unk, .unk, .unk, .unk, .unk, .unk, .unk, .unk, .unk, .unk, .unk, .unk, .unk, .unk, .unk, .unk, .unk, .unk,
                                        .unk, .unk, .unk, .unk, .unk, .unk, .unk, .unk, .unk, .unk, .unk, .unk],
                                    hp :=
                                      [some (.cells [iv lo, iv hi, iv st, iv er]),
                                        some
                                          (.cells
                                            [.d
                                                (DV.ro N 2 fun a b =>
                                                  match b with
                                                  | (0 : Nat) => DV.x (.int .i64 (sl a))
                                                  | x => DV.x (.int .i64 (sh a)))]),
                                        none, none,
                                        some
                                          (.row m 2 fun a_1 b_1 =>
                                            if 0 ≤ b_1 ∧ b_1 < 2 then
                                              selD (decide (a_1 = 0 + Int.toNat i))
                                                (match [DV.x (.int .i64 (if w64 (x - st) > a then w64 (x - st) else a)), DV.x (.int .i64 (if w64 (y + st) < b then w64 (y + st) else b))][b_1 - 0]? with
                                                | some x => x
                                                | none => DV.x (.tuple { toList := [] }))
                                                (scell cl ch a_1 b_1)
                                            else scell cl ch a_1 b_1),
                                        some (.cells [.row 4 0 0 m 2]), none,
                                        some (.cells [iv (if w64 (x - st) > a then w64 (x - st) else a), iv (if w64 (y + st) < b then w64 (y + st) else b)]), none, none],
                                    next := 10, hint := .nil }))))))))))))))))

theorem BSn_eq (i a b lo hi st er : Int) (N : Nat) (sl sh : Nat → Int) (x y : Int) (m : Nat) (cl ch : Nat → Int) : rSn i a b lo hi st er N sl sh x y m cl ch = BSn i a b lo hi st er N sl sh x y m cl ch := by kernel_rfl

noncomputable def inSn (t : Tree SV) : Option AS := entR 10 [9] [] [2, 3, 6, 8, 9] 10 .nil t
noncomputable def ISn (lo hi st er : Int) (n : Nat) (L : Nat → Int) : Option AS :=
  some
  {
    tm :=
      [.unk, .unk, .unk, .unk, .unk, .unk, .unk, .unk, .unk, .unk, .unk, .unk, .unk, .unk, .unk, .unk, .unk, .unk, .unk, .unk, .unk, .unk, .unk, .unk, .unk, .unk, .unk, .unk, .unk,
        .unk, .unk, .unk, .unk, .unk, .unk, .unk, .unk, .unk, .unk, .unk, .unk, .unk, .unk, .unk, .unk, .unk, .unk, .unk, .unk, .unk, .unk, .unk, .unk, .unk, .unk, .unk, .unk, .unk,
        .unk, .unk, .unk, .unk],
    hp :=
      [some (.cells [iv lo, iv hi, iv st, iv er]),
        some
          (.cells
            [.d
                (DV.ro (dCnt lo hi st er (fun i => intOf1 (DV.x (.int .i64 (L i)))) n + 1) 2 fun a b =>
                  match b with
                  | (0 : Nat) => DV.x (.int .i64 (dL lo st er (fun i => intOf1 (DV.x (.int .i64 (L i)))) a))
                  | x => DV.x (.int .i64 (dH hi st er (fun i => intOf1 (DV.x (.int .i64 (L i)))) a)))]),
        none, none,
        some
          (.row (Int.toNat (↑(dCnt lo hi st er (fun i => intOf1 (DV.x (.int .i64 (L i)))) n + 1) : Int)) 2 fun x j =>
            match [DV.x (.int .i64 (0 : Int)), DV.x (.int .i64 (0 : Int))][j]? with
            | some x => x
            | none => DV.x (.tuple { toList := [] })),
        some (.cells [.row 4 0 0 (Int.toNat (↑(dCnt lo hi st er (fun i => intOf1 (DV.x (.int .i64 (L i)))) n + 1) : Int)) 2]), none,
        some
          (.cells
            [iv (dL lo st er (fun i => intOf1 (DV.x (.int .i64 (L i)))) (Int.toNat (w64 ((↑(dCnt lo hi st er (fun i => intOf1 (DV.x (.int .i64 (L i)))) n + 1) : Int) - (1 : Int))))),
              iv (dH hi st er (fun i => intOf1 (DV.x (.int .i64 (L i)))) (Int.toNat (w64 ((↑(dCnt lo hi st er (fun i => intOf1 (DV.x (.int .i64 (L i)))) n + 1) : Int) - (1 : Int)))))]),
        none, none],
    next := 10, hint := .nil }

theorem ISn_eq (lo hi st er : Int) (n : Nat) (L : Nat → Int) : inSn (sub pSn (tSn lo hi st er n L)) = ISn lo hi st er n L := by kernel_rfl

noncomputable def KSn (qlo qhi qst qer : Int) (n : Nat) (L : Nat → Int) (lo hi st er : Int) (N : Nat) (sl sh : Nat → Int) (x y : Int) (m : Nat) (cl ch : Nat → Int) : Tree SV :=
  .need (0 + m ≤ m) (.ret (.tup [.d (DV.ro m 2 fun i j => scell cl ch (0 + i) j), iv (0 : Int)]))

theorem KSn_eq (qlo qhi qst qer : Int) (n : Nat) (L : Nat → Int) (lo hi st er : Int) (N : Nat) (sl sh : Nat → Int) (x y : Int) (m : Nat) (cl ch : Nat → Int) : codeK (sub pSn (tSn qlo qhi qst qer n L)) .normal ⟨TMSn, (invSn lo hi st er N sl sh x y m cl ch).hp, 10, .nil⟩ = KSn qlo qhi qst qer n L lo hi st er N sl sh x y m cl ch := by kernel_rfl

theorem cSn (lo hi st er : Int) (n : Nat) (L : Nat → Int) : codeC (sub pSn (tSn lo hi st er n L)) = .rangeFunc (.tmp 42) #[43, 44] aSn bSn := by kernel_rfl
theorem nSn (lo hi st er : Int) (n : Nat) (L : Nat → Int) : Nat.ble (codeS (sub pSn (tSn lo hi st er n L))).next 10 = true := by kernel_rfl
theorem gSn (lo hi st er : Int) (n : Nat) (L : Nat → Int) : tvStrict none (tget (codeS (sub pSn (tSn lo hi st er n L))).tm 42) = some (.fn (.func 76) [] [.ptr 9 0]) := by kernel_rfl
theorem vSn (lo hi st er : Int) (n : Nat) (L : Nat → Int) : capV (codeS (sub pSn (tSn lo hi st er n L))).hp [.ptr 9 0] = some ([.rop 1 fun j => [DV.ro (dCnt lo hi st er L n + 1) 2 (scell (dL lo st er L) (dH hi st er L))].getD j (.x undef)], [9]) := by kernel_rfl
theorem tSnK (lo hi st er : Int) (n : Nat) (L : Nat → Int) : keepTm [12, 13, 15, 16] 0 (codeS (sub pSn (tSn lo hi st er n L))).tm = TMSn := by kernel_rfl
theorem naSn : noRange aSn = true := by kernel_rfl
theorem nbSn : noRange bSn = true := by kernel_rfl

end Go.Proofs.Ytcbjclmjkilphaa

namespace Go.Proofs.Ytcbjclmjkilphaa
open Go.Sx
set_option linter.constructorNameAsVariable false
set_option maxRecDepth 100000
variable {lo hi st er : Int} {L : Nat → Int} {n k : Nat}

/-! ### drift.Spans -/

/-- The span told last, behind k rounds. -/
def stL (lo st er : Int) (n : Nat) (L : Nat → Int) : Nat → Int
  | 0 => dL lo st er L n
  | k + 1 => if k = 0 then dL lo st er L n else max (dL lo st er L (n - k)) (stL lo st er n L k - st)
def stH (hi st er : Int) (n : Nat) (L : Nat → Int) : Nat → Int
  | 0 => dH hi st er L n
  | k + 1 => if k = 0 then dH hi st er L n else min (dH hi st er L (n - k)) (stH hi st er n L k + st)
/-- The spans. -/
def sL (lo st er : Int) (n : Nat) (L : Nat → Int) (i : Nat) : Int := stL lo st er n L (n + 1 - i)
def sH (hi st er : Int) (n : Nat) (L : Nat → Int) (i : Nat) : Int := stH hi st er n L (n + 1 - i)
def cut0 (n k : Nat) (f : Nat → Int) (i : Nat) : Int := if n + 1 - k ≤ i then f i else 0

theorem stL_b (hv : dV lo hi st er) : ∀ k, 1 ≤ stL lo st er n L k ∧ stL lo st er n L k ≤ 2000000000
  | 0 => dL_b hv n
  | k + 1 => by
    have ih := stL_b hv k
    have h1 := dL_b hv (L := L) (n - k)
    have h2 := dL_b hv (L := L) n
    have := hv.s
    simp only [stL]; split <;> omega
theorem stH_b (hv : dV lo hi st er) : ∀ k, -2001000000 ≤ stH hi st er n L k ∧ stH hi st er n L k ≤ 2000000000
  | 0 => dH_b hv n
  | k + 1 => by
    have ih := stH_b hv k
    have h1 := dH_b hv (L := L) (n - k)
    have h2 := dH_b hv (L := L) n
    have := hv.s
    simp only [stH]; split <;> omega

theorem invSn_gc {N m : Nat} {sl sh : Nat → Int} {x y : Int} {c' : Nat → Nat → DV} {cl ch : Nat → Int} (h : ∀ i j, i < m → j < 2 → c' i j = scell cl ch i j) :
    Gc 10 ⟨List.replicate 62 .unk, [some (.cells [iv lo, iv hi, iv st, iv er]), some (.cells [.d (.ro N 2 (scell sl sh))]), none, none, some (.row m 2 c'), some (.cells [.row 4 0 0 m 2]), none, some (.cells [iv x, iv y]), none, none], 10, .nil⟩ (invSn lo hi st er N sl sh x y m cl ch) := by
  refine gc_sound [] [] rfl ?_ ?_
  · simp [invSn, leTm, leTV, List.replicate]
  · simp [invSn, leHp, leBlk, leSVs, leSV, rn, iv, leD, srcOf, hget]
    exact h

theorem Sat.of_eq {α : Type} {P : Program} {t t' : Tree α} {Q : α → Prop} (h : t = t') (k : Sat P t' Q) : Sat P t Q := h ▸ k

noncomputable def snT (lo hi st er : Int) (n : Nat) (L : Nat → Int) : Tr SV :=
  .ite (dB lo hi st er L n) (.ret (.tup [.d (.ro (n + 1) 2 (scell (sL lo st er n L) (sH hi st er n L))), iv 0])) (.ret (.tup [.d (.x (.slice none 0 0)), iv 440]))

theorem row2 {c f : Nat → Int} {A : Int} {i q : Nat} (h1 : i = q → A = f i) (h2 : i ≠ q → c i = f i) : selD (decide (i = q)) (xi A) (xi (c i)) = xi (f i) := by
  rw [selD_eq]
  by_cases h : i = q
  · simp only [h, decide_true, cond_true]; rw [h1 h, h]
  · simp only [h, decide_false, cond_false]; rw [h2 h]

theorem sn_sat (hv : dV lo hi st er) (hn : n ≤ 1000) {r : SV} (hr : (snT lo hi st er n L).ev r) : Sat Try.prog (tSn lo hi st er n L) (· = r) := by
  constructor
  rw [LSn_eq]; unfold LSn
  rw [show (fun i => intOf1 (DV.x (Value.int IntKind.i64 (L i)))) = L from rfl]
  refine ⟨⟨hv, hn, fun i hi => ⟨_, rfl⟩⟩, fun hc => ?_, fun hc => ?_⟩
  · have hb : dB lo hi st er L n = false := by
      cases h : dB lo hi st er L n with
      | false => rfl
      | true => simp [dE, h] at hc
    simp only [snT, hb, Tr.ev, Bool.false_eq_true, false_and, false_or, true_and] at hr
    subst hr
    simp only [Tree.sat, dE, hb, cond_false]
  have hb : dB lo hi st er L n = true := by
    cases h : dB lo hi st er L n with
    | true => rfl
    | false => simp [dE, h] at hc
  simp only [snT, hb, Tr.ev, Bool.true_eq_false, false_and, or_false, true_and] at hr
  subst hr
  rw [dCnt_all hb]
  have e : w64 (((n + 1 : Nat) : Int) - 1) = n := by rw [w64_of (by omega) (by omega)]; omega
  rw [e]
  refine ⟨by omega, by omega, ?_⟩
  have hv1 := vSn lo hi st er n L
  rw [dCnt_all hb] at hv1
  refine range_satS C8x_ok D8x_ok (n := 200) (n0 := 10) (nx := 10) (roots := []) (drop := [2, 3, 6, 8, 9]) (keep := [12, 13, 15, 16]) (h := .nil) (h' := .nil) (N := n + 1) (cSn lo hi st er n L) (nSn lo hi st er n L) (gSn lo hi st er n L) hv1
    (bk_iter (n + 1) (scell (dL lo st er L) (dH hi st er L)) (by omega) _ rfl) (fun k hk => rfl) (enters_of Try.func76 (by kernel_rfl) rfl) naSn nbSn (tSnK lo hi st er n L)
    (fun k s => s = invSn lo hi st er (n + 1) (dL lo st er L) (dH hi st er L) (stL lo st er n L k) (stH hi st er n L k) (n + 1) (cut0 n k (sL lo st er n L)) (cut0 n k (sH hi st er n L))) ⟨_, rfl, ?_⟩ ?_ ?_
  · have hI := ISn_eq lo hi st er n L
    unfold ISn inSn at hI
    refine (entR_sound hI).trans ?_
    rw [show (fun i => intOf1 (DV.x (Value.int IntKind.i64 (L i)))) = L from rfl, dCnt_all hb, e]
    refine invSn_gc fun i j hi2 hj => ?_
    have : j = 0 ∨ j = 1 := by omega
    rcases this with rfl | rfl
    · simp only [scell, cut0]; rw [if_neg (by omega)]; rfl
    · simp only [scell, cut0]; rw [if_neg (by omega)]; rfl
  · rintro k s hk rfl
    have hbody : roundT Try.prog C8x D8x 200 10 [] [2, 3, 6, 8, 9] 10 .nil aSn bSn ⟨parTm [43, 44] (bkEl (n + 1) (scell (dL lo st er L) (dH hi st er L)) k) TMSn, (invSn lo hi st er (n + 1) (dL lo st er L) (dH hi st er L) (stL lo st er n L k) (stH hi st er n L k) (n + 1) (cut0 n k (sL lo st er n L)) (cut0 n k (sH hi st er n L))).hp, 10, .nil⟩ = _ :=
      BSn_eq (((n + 1 : Nat) : Int) - 1 - k) (dL lo st er L (n + 1 - 1 - k)) (dH hi st er L (n + 1 - 1 - k)) lo hi st er (n + 1) (dL lo st er L) (dH hi st er L) (stL lo st er n L k) (stH hi st er n L k) (n + 1) (cut0 n k (sL lo st er n L)) (cut0 n k (sH hi st er n L))
    refine Sat.of_eq hbody ?_
    constructor
    unfold BSn
    have b1 := stL_b hv (n := n) (L := L) k
    have b2 := stH_b hv (n := n) (L := L) k
    have := hv.s
    have e1 : Int.toNat (((n + 1 : Nat) : Int) - 1 - k) = n - k := by omega
    rw [w64_of (n := stL lo st er n L k - st) (by omega) (by omega), w64_of (n := stH hi st er n L k + st) (by omega) (by omega)]
    simp only [lt_if, gt_if, e1, e, Nat.add_sub_cancel]
    iterate 12 (refine ⟨by decide, ?_⟩)
    have hL1 : sL lo st er n L (n - k) = stL lo st er n L (k + 1) := by unfold sL; rw [show n + 1 - (n - k) = k + 1 by omega]
    have hH1 : sH hi st er n L (n - k) = stH hi st er n L (k + 1) := by unfold sH; rw [show n + 1 - (n - k) = k + 1 by omega]
    have hc1 : ∀ f : Nat → Int, cut0 n (k + 1) f (n - k) = f (n - k) := fun f => by simp only [cut0]; rw [if_pos (by omega)]
    have hc2 : ∀ (f : Nat → Int) (i : Nat), i ≠ n - k → i < n + 1 → cut0 n (k + 1) f i = cut0 n k f i := fun f i h hi2 => by
      simp only [cut0]
      by_cases h2 : n + 1 - k ≤ i
      · rw [if_pos h2, if_pos (by omega)]
      · rw [if_neg h2, if_neg (by omega)]
    refine ⟨fun hc => ⟨by omega, by omega, rfl, _, rfl, ?_⟩, fun hc => ⟨by omega, by omega, rfl, _, rfl, ?_⟩⟩
    · have hk0 : k = 0 := by simp at hc; omega
      have f1 : stL lo st er n L (k + 1) = dL lo st er L (n - k) := by simp [stL, hk0]
      have f2 : stH hi st er n L (k + 1) = dH hi st er L (n - k) := by simp [stH, hk0]
      rw [← f1, ← f2]
      refine invSn_gc fun i j hi2 hj => ?_
      rw [Nat.zero_add]
      have hj2 : j = 0 ∨ j = 1 := by omega
      rcases hj2 with rfl | rfl
      · rw [if_pos (by decide)]
        exact row2 (f := cut0 n (k + 1) (sL lo st er n L)) (fun h => by rw [h, hc1, hL1]) (fun h => (hc2 _ i h hi2).symm)
      · rw [if_pos (by decide)]
        exact row2 (f := cut0 n (k + 1) (sH hi st er n L)) (fun h => by rw [h, hc1, hH1]) (fun h => (hc2 _ i h hi2).symm)
    · have hk0 : k ≠ 0 := by simp at hc; omega
      have f1 : stL lo st er n L (k + 1) = max (dL lo st er L (n - k)) (stL lo st er n L k - st) := by simp [stL, hk0]
      have f2 : stH hi st er n L (k + 1) = min (dH hi st er L (n - k)) (stH hi st er n L k + st) := by simp [stH, hk0]
      rw [← f1, ← f2]
      refine invSn_gc fun i j hi2 hj => ?_
      rw [Nat.zero_add]
      have hj2 : j = 0 ∨ j = 1 := by omega
      rcases hj2 with rfl | rfl
      · rw [if_pos (by decide)]
        exact row2 (f := cut0 n (k + 1) (sL lo st er n L)) (fun h => by rw [h, hc1, hL1]) (fun h => (hc2 _ i h hi2).symm)
      · rw [if_pos (by decide)]
        exact row2 (f := cut0 n (k + 1) (sH hi st er n L)) (fun h => by rw [h, hc1, hH1]) (fun h => (hc2 _ i h hi2).symm)
  · rintro s rfl
    have hK : codeK (sub pSn (tSn lo hi st er n L)) .normal ⟨TMSn, (invSn lo hi st er (n + 1) (dL lo st er L) (dH hi st er L) (stL lo st er n L (n + 1)) (stH hi st er n L (n + 1)) (n + 1) (cut0 n (n + 1) (sL lo st er n L)) (cut0 n (n + 1) (sH hi st er n L))).hp,
       (invSn lo hi st er (n + 1) (dL lo st er L) (dH hi st er L) (stL lo st er n L (n + 1)) (stH hi st er n L (n + 1)) (n + 1) (cut0 n (n + 1) (sL lo st er n L)) (cut0 n (n + 1) (sH hi st er n L))).next, .nil⟩ = _ :=
      KSn_eq lo hi st er n L lo hi st er (n + 1) (dL lo st er L) (dH hi st er L) (stL lo st er n L (n + 1)) (stH hi st er n L (n + 1)) (n + 1) (cut0 n (n + 1) (sL lo st er n L)) (cut0 n (n + 1) (sH hi st er n L))
    refine Sat.of_eq hK ?_
    constructor
    unfold KSn
    refine ⟨by omega, ?_⟩
    have hcut : ∀ f : Nat → Int, cut0 n (n + 1) f = f := fun f => by funext i; simp [cut0]
    simp only [Tree.sat, hcut, Nat.zero_add]

noncomputable def cSpn : Ctr := fun ss => match ss with
  | [.d (.x (.int .i64 lo)), .d (.x (.int .i64 hi)), .d (.x (.int .i64 st)), .d (.x (.int .i64 er)), .d (.ro n 1 cell)] =>
    .need (dV lo hi st er ∧ n ≤ 1000 ∧ ∀ i, i < n → ∃ b, cell i 0 = .x (.int .i64 b)) (snT lo hi st er n (intCell cell))
  | _ => .fail

theorem cSpn_ok : CtrOK Try.prog 63 cSpn := by
  refine ctrOK_leS C8x_ok D8x_ok (by kernel_rfl) (by kernel_rfl) fun ss r h => ?_
  unfold cSpn at h
  split at h
  · rename_i lo hi st er n cell
    obtain ⟨⟨hv, hn, hb⟩, h⟩ := h
    refine ⟨[iv lo, iv hi, iv st, iv er, ro64 n (intCell cell)], 200, .nil, ?_, sn_sat hv hn h⟩
    simp only [leSVs, leSV, iv, ro64, leD, and_true, true_and]
    exact le_ro64 hb
  · exact h.elim

end Go.Proofs.Ytcbjclmjkilphaa

namespace Go.Proofs.Ytcbjclmjkilphaa
open Go.Sx
set_option maxRecDepth 100000

noncomputable def manX : FuncId → Option Ctr := fun k => if k = 31 then some cPath else if k = 63 then some cSpn else none
theorem manX_ok (k : Nat) (c : Ctr) (h : manX k = some c) : CtrOK Try.prog k c ∧ goodF Try.prog k = true := by
  unfold manX at h
  split at h
  · rename_i e; cases h; subst e; exact ⟨cPath_ok, by kernel_rfl⟩
  split at h
  · rename_i e; cases h; subst e; exact ⟨cSpn_ok, by kernel_rfl⟩
  · cases h
noncomputable def CX4 : Ctx := ctxN Try.prog manX inl3 200 .run 12
theorem CX4_ok : CtxOK Try.prog CX4 := ctxN_ok mixed manX_ok 12

noncomputable def XE  : Tr SV :=
  Tr.need (1 ≤ 1)
  (Tr.need (1 ≤ 1)
    (Tr.need (1 ≤ 1)
      (Tr.need (1 ≤ 1)
        (Tr.need
          (dV (990 : Int) (1010 : Int) (5 : Int) (10 : Int) ∧
            1 ≤ 1000 ∧
              ∀ (i : Nat),
                i < (1 : Nat) →
                  ∃ b,
                    (fun i j => dsAt ((fun x => DV.x (.int .i64 (1020 : Int)) :: x) []) ((0 : Nat) + ((0 : Nat) + i) * (fun x => TypeInfo.size x) (Tables.types (Program.toTables Try.prog))[(3 : Nat)] + j)) i (0 : Nat) =
                      DV.x (.int .i64 b))
          (Tr.need (2 ≤ 2)
            (Tr.need (2 ≤ 2)
              (Tr.need (2 ≤ 2)
                (Tr.need (2 ≤ 2)
                  (Tr.need
                    (dV (990 : Int) (1010 : Int) (5 : Int) (10 : Int) ∧
                      2 ≤ 1000 ∧
                        ∀ (i : Nat),
                          i < (2 : Nat) →
                            ∃ b,
                              (fun i j =>
                                    dsAt ((fun x => DV.x (.int .i64 (1020 : Int)) :: x) ((fun x => DV.x (.int .i64 (1030 : Int)) :: x) []))
                                      ((0 : Nat) + ((0 : Nat) + i) * (fun x => TypeInfo.size x) (Tables.types (Program.toTables Try.prog))[(3 : Nat)] + j))
                                  i (0 : Nat) =
                                DV.x (.int .i64 b))
                    (Tr.need (True ∧ 2 ≤ 2 ∧ 16 ≤ 140737488355328)
                      (Tr.need (1 ≤ 1 ∧ 2 ≤ 2 ∧ 32 ≤ 140737488355328)
                        (Tr.need (2 ≤ 2)
                          (Tr.need (True ∧ 2 ≤ 2 ∧ 16 ≤ 140737488355328)
                            (Tr.need (1 ≤ 1 ∧ 2 ≤ 2 ∧ 32 ≤ 140737488355328)
                              (Tr.need (2 ≤ 2 ∧ 2 ≤ 2 ∧ 48 ≤ 140737488355328)
                                (Tr.need (3 ≤ 3)
                                  (Tr.need (4 ≤ 4)
                                    (Tr.need (3 ≤ 3)
                                      (Tr.need (2 ≤ 2)
                                        (Tr.need (True ∧ (0 : Int) ≤ (1 : Int) ∧ 1 ≤ 2)
                                          (Tr.need (2 ≤ 2)
                                            (Tr.need (True ∧ (0 : Int) ≤ (1 : Int) ∧ 1 ≤ 2)
                                              (Tr.need (2 ≤ 2)
                                                (Tr.need (True ∧ (0 : Int) ≤ (1 : Int) ∧ 1 ≤ 2)
                                                  (Tr.need (2 ≤ 2)
                                                    (Tr.need (True ∧ (0 : Int) ≤ (1 : Int) ∧ 1 ≤ 2)
                                                      (Tr.need (2 ≤ 2)
                                                        (Tr.need (True ∧ (0 : Int) ≤ (1 : Int) ∧ 1 ≤ 2)
                                                          (Tr.need (1 ≤ 1)
                                                            (Tr.need (True ∧ 2 ≤ 2 ∧ 16 ≤ 140737488355328)
                                                              (Tr.need (1 ≤ 1)
                                                                (Tr.need (4 ≤ 4)
                                                                  (Tr.need (4 ≤ 4)
                                                                    (Tr.need (2 ≤ 2)
                                                                      (Tr.need (True ∧ (0 : Int) ≤ (1 : Int) ∧ 1 ≤ 2)
                                                                        (Tr.need (2 ≤ 2)
                                                                          (Tr.need (True ∧ (0 : Int) ≤ (1 : Int) ∧ 1 ≤ 2)
                                                                            (Tr.need (2 ≤ 2)
                                                                              (Tr.need (True ∧ (0 : Int) ≤ (1 : Int) ∧ 1 ≤ 2)
                                                                                (Tr.need (2 ≤ 2)
                                                                                  (Tr.need (True ∧ (0 : Int) ≤ (1 : Int) ∧ 1 ≤ 2)
                                                                                    (Tr.need (2 ≤ 2)
                                                                                      (Tr.need (True ∧ (0 : Int) ≤ (1 : Int) ∧ 1 ≤ 2)
                                                                                        (Tr.need (2 ≤ 2)
                                                                                          (Tr.need (True ∧ (0 : Int) ≤ (1 : Int) ∧ 1 ≤ 2)
                                                                                            (Tr.need (2 ≤ 2)
                                                                                              (Tr.need (True ∧ (0 : Int) ≤ (1 : Int) ∧ 1 ≤ 2)
                                                                                                (Tr.need (2 ≤ 2)
                                                                                                  (Tr.need (True ∧ (0 : Int) ≤ (1 : Int) ∧ 1 ≤ 2)
                                                                                                    (Tr.need (2 ≤ 2)
                                                                                                      (Tr.need (True ∧ (0 : Int) ≤ (1 : Int) ∧ 1 ≤ 2)
                                                                                                        (Tr.need (2 ≤ 2)
                                                                                                          (Tr.need (True ∧ (0 : Int) ≤ (1 : Int) ∧ 1 ≤ 2)
                                                                                                            (Tr.need (2 ≤ 2)
                                                                                                              (Tr.need (True ∧ (0 : Int) ≤ (1 : Int) ∧ 1 ≤ 2)
                                                                                                                (Tr.need (2 ≤ 2)
                                                                                                                  (Tr.need (True ∧ (0 : Int) ≤ (1 : Int) ∧ 1 ≤ 2)
                                                                                                                    (Tr.need (2 ≤ 2)
                                                                                                                      (Tr.need (True ∧ (0 : Int) ≤ (1 : Int) ∧ 1 ≤ 2)
                                                                                                                        (Tr.need (2 ≤ 2)
                                                                                                                          (Tr.need (True ∧ (0 : Int) ≤ (1 : Int) ∧ 1 ≤ 2)
                                                                                                                            (Tr.need (2 ≤ 2)
                                                                                                                              (Tr.need (True ∧ (0 : Int) ≤ (1 : Int) ∧ 1 ≤ 2)
                                                                                                                                (Tr.need (2 ≤ 2)
                                                                                                                                  (Tr.need (True ∧ (0 : Int) ≤ (1 : Int) ∧ 1 ≤ 2)
                                                                                                                                    (Tr.need (3 ≤ 3)
                                                                                                                                      (Tr.ret (bv true))))))))))))))))))))))))))))))))))))))))))))))))))))))))))))))))))))

theorem XE_eq  : autoC Try.prog CX4 200 32 .run [] = XE  := by kernel_rfl


theorem sat_step {p : Prop} {t : Tr SV} {r : SV} (h1 : p) (h2 : t.ev r) : (Tr.need p t).ev r := ⟨h1, h2⟩

theorem ex44 : (autoC Try.prog CX4 200 32 .run []).ev (bv true) := by
  rw [XE_eq]; unfold XE
  refine sat_step (by decide) (sat_step (by decide) (sat_step (by decide) (sat_step (by decide) (sat_step ⟨⟨by decide, by decide, by decide, by decide⟩, by decide, fun i hi => ?_⟩ (sat_step (by decide) (sat_step (by decide) (sat_step (by decide) (sat_step (by decide) (sat_step ⟨⟨by decide, by decide, by decide, by decide⟩, by decide, fun i hi => ?_⟩ ?_)))))))))
  · obtain rfl : i = 0 := by omega
    exact ⟨1020, by kernel_rfl⟩
  · have : i = 0 ∨ i = 1 := by omega
    rcases this with rfl | rfl
    · exact ⟨1020, by kernel_rfl⟩
    · exact ⟨1030, by kernel_rfl⟩
  repeat' (first | exact rfl | refine sat_step (by decide) ?_)

noncomputable def cEx44 : Ctr := fun ss => match ss with
  | [] => .ret (bv true)
  | _ => .fail
theorem cEx44_ok : CtrOK Try.prog 32 cEx44 := (autoC_ok CX4_ok mixed 200 32 .run).mono fun ss r h => by
  unfold cEx44 at h
  split at h
  · simp only [Tr.ev] at h; subst h; exact ex44
  · exact h.elim

end Go.Proofs.Ytcbjclmjkilphaa

namespace Go.Proofs.Ytcbjclmjkilphaa
open Go.Sx
set_option maxRecDepth 100000

theorem wf_u8 {i : Int} (h : (Lit.int .u8 i).wf = true) : 0 ≤ i ∧ i < 256 := by
  simp [Lit.wf, IntKind.min, IntKind.max, IntKind.signed, IntKind.bits] at h; omega
theorem wf_u16 {i : Int} (h : (Lit.int .u16 i).wf = true) : 0 ≤ i ∧ i < 65536 := by
  simp [Lit.wf, IntKind.min, IntKind.max, IntKind.signed, IntKind.bits] at h; omega
theorem wf_i64 {i : Int} (h : (Lit.int .i64 i).wf = true) : -9223372036854775808 ≤ i ∧ i ≤ 9223372036854775807 := by
  simp [Lit.wf, IntKind.min, IntKind.max, IntKind.signed, IntKind.bits] at h; omega

theorem cells5 : Try.prog.cellsOf 5 = 1 := by kernel_rfl
theorem cells3 : Try.prog.cellsOf 3 = 1 := by kernel_rfl

theorem okRaw {ds : List DV} (h : okT Try.prog 6 26 ds) : ∃ lo wi st er be ov n cell, RawOK lo wi st er be ov n cell ∧ svT Try.prog 26 ds = .agg [u8 lo, u8 wi, u8 st, u8 er, .d (.ro n 1 cell), u8 be, u8 ov] := by
  simp [okT, okFs, Try.underlying26, Try.underlying24, Try.underlying5, Try.underlying25, cells5] at h
  obtain ⟨_, _, rfl, ⟨_, _, rfl, ⟨lo, w1, rfl⟩, _, _, rfl, ⟨wi, w2, rfl⟩, _, _, rfl, ⟨st, w3, rfl⟩, _, _, rfl, ⟨er, w4, rfl⟩, n, hn, cell, rfl, hc⟩, _, _, rfl, ⟨be, w5, rfl⟩, ov, w6, rfl⟩ := h
  refine ⟨lo, wi, st, er, be, ov, n, cell, ⟨wf_u8 w1, wf_u8 w2, wf_u8 w3, wf_u8 w4, hn, fun i hi => ?_, wf_u8 w5, wf_u8 w6⟩, ?_⟩
  · obtain ⟨b, hb, e⟩ := hc i hi
    exact ⟨b, by simpa using e, wf_u8 hb⟩
  · simp [svT, Try.underlying26, u8, cells5]

theorem okMon {ds : List DV} (h : okT Try.prog 6 28 ds) : ∃ a b c d e f s, svT Try.prog 28 ds = mon a b c d e f s := by
  simp [okT, okFs, Try.underlying28, Try.underlying3, Try.underlying4] at h
  obtain ⟨_, _, rfl, ⟨a, w1, rfl⟩, _, _, rfl, ⟨b, w2, rfl⟩, _, _, rfl, ⟨c, w3, rfl⟩, _, _, rfl, ⟨d, w4, rfl⟩, _, _, rfl, ⟨e, w5, rfl⟩, _, _, rfl, ⟨f, w6, rfl⟩, hb⟩ := h
  rcases hb with rfl | rfl
  · exact ⟨a, b, c, d, e, f, false, by simp [svT, Try.underlying28, mon, iv, bv]⟩
  · exact ⟨a, b, c, d, e, f, true, by simp [svT, Try.underlying28, mon, iv, bv]⟩

theorem okInt {ds : List DV} (h : okT Try.prog 6 3 ds) : ∃ i, (-9223372036854775808 ≤ i ∧ i ≤ 9223372036854775807) ∧ svT Try.prog 3 ds = iv i := by
  simp only [okT, Try.underlying3] at h
  obtain ⟨i, hi, rfl⟩ := h
  exact ⟨i, wf_i64 hi, by simp [svT, Try.underlying3, iv]⟩

end Go.Proofs.Ytcbjclmjkilphaa

namespace Go.Proofs.Ytcbjclmjkilphaa
open Go.Sx
set_option maxRecDepth 100000

/-! ### The Drift laws: the ground -/

noncomputable def cSpn1 : Ctr := fun ss => match ss with
  | [.d (.x (.int .i64 lo)), .d (.x (.int .i64 hi)), .d (.x (.int .i64 st)), .d (.x (.int .i64 er)), .d (.ro n 1 cell)] =>
    .need ((dV lo hi st er ∧ n ≤ 1000 ∧ ∀ i, i < n → ∃ b, cell i 0 = .x (.int .i64 b)) ∧ dB lo hi st er (intCell cell) n = true) (.ret (.tup [.d (.ro (n + 1) 2 (scell (sL lo st er n (intCell cell)) (sH hi st er n (intCell cell)))), iv 0]))
  | _ => .fail

theorem cSpn1_ok : CtrOK Try.prog 63 cSpn1 := cSpn_ok.mono fun ss r h => by
  unfold cSpn1 at h
  split at h
  · rename_i lo hi st er n cell
    obtain ⟨⟨h0, h1⟩, h⟩ := h
    refine ⟨h0, ?_⟩
    simp only [Tr.ev] at h
    subst h
    unfold snT
    exact .inl ⟨h1, rfl⟩
  · exact h.elim

/-- drift.Bounds where there is a path. -/
noncomputable def cBnd1 : Ctr := fun ss => match ss with
  | [.d (.x (.int .i64 lo)), .d (.x (.int .i64 hi)), .d (.x (.int .i64 st)), .d (.x (.int .i64 er)), .d (.ro n 1 cell)] =>
    .need ((dV lo hi st er ∧ n ≤ 1000 ∧ ∀ i, i < n → ∃ b, cell i 0 = .x (.int .i64 b)) ∧ dB lo hi st er (intCell cell) n = true) (.ret (.tup [iv (dL lo st er (intCell cell) n), iv (dH hi st er (intCell cell) n), iv 0]))
  | _ => .fail

theorem cBnd1_ok : CtrOK Try.prog 30 cBnd1 := cBounds_ok.mono fun ss r h => by
  unfold cBnd1 at h
  split at h
  · rename_i lo hi st er n cell
    obtain ⟨⟨h0, h1⟩, h⟩ := h
    refine ⟨h0, ?_⟩
    simp only [Tr.ev] at h
    subst h
    simp only [bdR, h1, zif, cond_true, dE]
    rfl
  · exact h.elim

noncomputable def man8 : FuncId → Option Ctr := fun k => match k with
  | 28 => some cMade
  | 29 => some cPoss
  | 30 => some cBnd1
  | 31 => some cPath1
  | 32 => some cEx44
  | 63 => some cSpn1
  | _ => none

theorem man8_ok (k : Nat) (c : Ctr) (h : man8 k = some c) : CtrOK Try.prog k c ∧ goodF Try.prog k = true := by
  unfold man8 at h
  split at h <;> first | (cases h; done) | (cases h)
  · exact ⟨cMade_ok, by kernel_rfl⟩
  · exact ⟨cPoss_ok, by kernel_rfl⟩
  · exact ⟨cBnd1_ok, by kernel_rfl⟩
  · exact ⟨cPath1_ok, by kernel_rfl⟩
  · exact ⟨cEx44_ok, by kernel_rfl⟩
  · exact ⟨cSpn1_ok, by kernel_rfl⟩

noncomputable def C8 : Ctx := ctxN Try.prog man8 (fun _ => false) 200 .nil 3
theorem C8_ok : CtxOK Try.prog C8 := ctxN_ok mixed man8_ok 3
noncomputable def D8 : Dr := fun _ => drawn Try.prog C8
theorem D8_ok : DrOK Try.prog C8 D8 := drawn_ok C8_ok mixed
noncomputable def T8 (k : Nat) (args : List SV) (h : Hint) : Tree SV := fnT Try.prog C8 D8 200 (fnOf Try.prog k) (bodyOf Try.prog k) args h

structure Law8 (k : Nat) (ss : List SV) : Prop where
  ok : ∃ h, (T8 k ss h).sat Try.prog (· = bv true)

theorem law_ctr8 {k : Nat} {okA : List SV → Prop} (hf : (Try.prog.funcs[k]?).isSome = true) (hb : (fnOf Try.prog k).body.isSome = true) (h : ∀ ss, okA ss → Law8 k ss) :
    ∃ c : Ctr, CtrOK Try.prog k c ∧ ∀ ss, okA ss → (c ss).ev (bv true) := by
  refine ⟨fun ss => .need (okA ss) (.ret (bv true)), ?_, fun ss hs => ⟨hs, rfl⟩⟩
  refine ctrOK_of C8_ok D8_ok (fn := fnOf Try.prog k) (body := bodyOf Try.prog k) (by
    unfold fnOf
    cases hk : Try.prog.funcs[k]? with
    | none => rw [hk] at hf; cases hf
    | some f => rfl) (by
    unfold bodyOf
    cases hk : (fnOf Try.prog k).body with
    | none => rw [hk] at hb; cases hb
    | some f => rfl) fun ss r hr => ?_
  obtain ⟨h1, rfl⟩ := hr
  obtain ⟨hint, h2⟩ := (h ss h1).ok
  exact ⟨200, hint, h2⟩

theorem okRaw44 {ds : List DV} (h : okT Try.prog 6 24 ds) : ∃ lo wi st er n cell, (0 ≤ lo ∧ lo < 256) ∧ (0 ≤ wi ∧ wi < 256) ∧ (0 ≤ st ∧ st < 256) ∧ (0 ≤ er ∧ er < 256) ∧ n ≤ maxLen ∧ (∀ i, i < n → ∃ b, cell i 0 = .x (.int .u8 b) ∧ 0 ≤ b ∧ b < 256) ∧
    svT Try.prog 24 ds = .agg [u8 lo, u8 wi, u8 st, u8 er, .d (.ro n 1 cell)] := by
  simp [okT, okFs, Try.underlying24, Try.underlying5, Try.underlying25, cells5] at h
  obtain ⟨_, _, rfl, ⟨lo, w1, rfl⟩, _, _, rfl, ⟨wi, w2, rfl⟩, _, _, rfl, ⟨st, w3, rfl⟩, _, _, rfl, ⟨er, w4, rfl⟩, n, hn, cell, rfl, hc⟩ := h
  refine ⟨lo, wi, st, er, n, cell, wf_u8 w1, wf_u8 w2, wf_u8 w3, wf_u8 w4, hn, fun i hi => ?_, ?_⟩
  · obtain ⟨b, hb, e⟩ := hc i hi
    exact ⟨b, by simpa using e, wf_u8 hb⟩
  · simp [svT, Try.underlying24, u8, cells5]

/-! ### Bounds and spans -/

variable {lo hi st er : Int} {L p : Nat → Int} {n k : Nat}

theorem sL_n : sL lo st er n L n = dL lo st er L n := by
  unfold sL; rw [show n + 1 - n = 0 + 1 by omega]; simp [stL]
theorem sH_n : sH hi st er n L n = dH hi st er L n := by
  unfold sH; rw [show n + 1 - n = 0 + 1 by omega]; simp [stH]
theorem sL_i (h : k < n) : sL lo st er n L k = max (dL lo st er L k) (sL lo st er n L (k + 1) - st) := by
  unfold sL
  rw [show n + 1 - k = (n - k) + 1 by omega, show n + 1 - (k + 1) = n - k by omega]
  simp only [stL]
  rw [if_neg (by omega), show n - (n - k) = k by omega]
theorem sH_i (h : k < n) : sH hi st er n L k = min (dH hi st er L k) (sH hi st er n L (k + 1) + st) := by
  unfold sH
  rw [show n + 1 - k = (n - k) + 1 by omega, show n + 1 - (k + 1) = n - k by omega]
  simp only [stH]
  rw [if_neg (by omega), show n - (n - k) = k by omega]

theorem stepB_iff : stepB st er L p k = true ↔ 1 ≤ p (k + 1) ∧ p k - st ≤ p (k + 1) ∧ p (k + 1) ≤ p k + st ∧ p (k + 1) - er ≤ L k ∧ L k ≤ p (k + 1) + er := by
  unfold stepB
  simp only [Bool.and_eq_true, decide_eq_true_eq]
  constructor
  · rintro ⟨⟨a, b, c⟩, d, e⟩; exact ⟨a, b, c, d, e⟩
  · rintro ⟨a, b, c, d, e⟩; exact ⟨⟨a, b, c⟩, d, e⟩

/-- A possible path lies within the bounds. -/
theorem path_in (hv : dV lo hi st er) (hp : ∀ k, k ≤ n → p k ≤ 1000000000) : ∀ k, k ≤ n → pthB lo hi st er L p k = true → dB lo hi st er L k = true ∧ dL lo st er L k ≤ p k ∧ p k ≤ dH hi st er L k
  | 0, _, h => by simpa [pthB, dB, dL, dH] using h
  | k + 1, hk, h => by
    simp only [pthB, Bool.and_eq_true] at h
    obtain ⟨i1, i2, i3⟩ := path_in hv hp k (by omega) h.1
    have h2 := stepB_iff.1 h.2
    have := hv.s; have := hv.e; have := hp (k + 1) hk
    have a : dL lo st er L (k + 1) ≤ p (k + 1) ∧ p (k + 1) ≤ dH hi st er L (k + 1) := by
      simp only [dL, dH, nL, nH]; unfold cR; omega
    refine ⟨?_, a⟩
    simp only [dB, i1, Bool.true_and, decide_eq_true_eq]; omega

theorem span_in (hv : dV lo hi st er) (hp : ∀ k, k ≤ n → p k ≤ 1000000000) (hb : pthB lo hi st er L p n = true) : ∀ j, j ≤ n → sL lo st er n L (n - j) ≤ p (n - j) ∧ p (n - j) ≤ sH hi st er n L (n - j)
  | 0, _ => by
    have := path_in hv hp n (Nat.le_refl n) hb
    rw [Nat.sub_zero, sL_n, sH_n]; exact this.2
  | j + 1, hj => by
    have ih := span_in hv hp hb j (by omega)
    have hk : n - (j + 1) < n := by omega
    have e : n - (j + 1) + 1 = n - j := by omega
    have hb2 := pthB_mono (show n - (j + 1) + 1 ≤ n by omega) hb
    simp only [pthB, Bool.and_eq_true] at hb2
    have h1 := path_in hv hp (n - (j + 1)) (by omega) hb2.1
    have h2 := stepB_iff.1 hb2.2
    rw [sL_i hk, sH_i hk, e]
    rw [e] at h2
    omega

/-- The walk that Made makes. -/
theorem walk_pos {lo wi s e : Int} {B : Nat → Int} (h1 : 0 ≤ lo) (h2 : 0 ≤ wi) (hs : 0 ≤ s ∧ s ≤ 5) (he : 0 ≤ e ∧ e ≤ 5) : ∀ k, pthB (sLo lo) (sHi lo wi) s e (lS lo wi s e B) (fS lo wi s B) k = true
  | 0 => by
    have := Int.emod_nonneg lo (show 1 + wi % 8 ≠ 0 by omega)
    have := Int.emod_lt_of_pos lo (show 0 < 1 + wi % 8 by omega)
    have e0 : fS lo wi s B 0 = sLo lo + lo % (1 + wi % 8) := rfl
    have e1 : sHi lo wi = sLo lo + wi % 8 := rfl
    show (decide (sLo lo ≤ fS lo wi s B 0) && decide (fS lo wi s B 0 ≤ sHi lo wi)) = true
    rw [e0, e1, Bool.and_eq_true, decide_eq_true_eq, decide_eq_true_eq]; omega
  | k + 1 => by
    have ih := walk_pos h1 h2 hs he (B := B) k
    have f1 := (fS_b (B := B) h1 h2 hs k).1
    simp only [pthB, ih, Bool.true_and]
    have n1 := fNx_b (f := fS lo wi s B k) (b := B (2 * k)) hs
    have e1 : fS lo wi s B (k + 1) = fNx (fS lo wi s B k) (B (2 * k)) s := rfl
    have := Int.emod_nonneg (B (2 * k + 1)) (show 2 * e + 1 ≠ 0 by omega)
    have := Int.emod_lt_of_pos (B (2 * k + 1)) (show 0 < 2 * e + 1 by omega)
    have e2 : lS lo wi s e B k = fS lo wi s B (k + 1) + B (2 * k + 1) % (2 * e + 1) - e := rfl
    rw [← e1] at n1
    rw [stepB_iff]
    omega

/-- What is known of Made's walk. -/
structure WalkOK (lo wi st er : Int) (B : Nat → Int) (n : Nat) : Prop where
  l : 0 ≤ lo ∧ lo < 256
  w : 0 ≤ wi ∧ wi < 256
  s : 0 ≤ st ∧ st < 256
  e : 0 ≤ er ∧ er < 256
  len : n ≤ maxLen
  b : ∀ i, i < n → 0 ≤ B i ∧ B i < 256

theorem WalkOK.dv {lo wi st er : Int} {B : Nat → Int} (h : WalkOK lo wi st er B n) : dV (sLo lo) (sHi lo wi) (st % 6) (er % 6) := by
  have := h.l; have := h.w; have := h.s; have := h.e
  have : sHi lo wi = sLo lo + wi % 8 := rfl
  have : sLo lo = 1 + lo % 40 := rfl
  exact ⟨by omega, by omega, by omega, by omega⟩

theorem WalkOK.f {lo wi st er : Int} {B : Nat → Int} (h : WalkOK lo wi st er B n) (k : Nat) (hk : k ≤ 12) : 1 ≤ fS lo wi (st % 6) B k ∧ fS lo wi (st % 6) B k ≤ 107 := by
  have := fS_b (B := B) (s := st % 6) h.l.1 h.w.1 (by omega) k
  omega

theorem WalkOK.r {lo wi st er : Int} {B : Nat → Int} (h : WalkOK lo wi st er B n) (k : Nat) (hk : k < 12) : -5 ≤ lS lo wi (st % 6) (er % 6) B k ∧ lS lo wi (st % 6) (er % 6) B k ≤ 112 := by
  have := h.f (k + 1) (by omega)
  have e2 : lS lo wi (st % 6) (er % 6) B k = fS lo wi (st % 6) B (k + 1) + B (2 * k + 1) % (2 * (er % 6) + 1) - (er % 6) := rfl
  have := h.e
  have := Int.emod_nonneg (B (2 * k + 1)) (show 2 * (er % 6) + 1 ≠ 0 by omega)
  have := Int.emod_lt_of_pos (B (2 * k + 1)) (show 0 < 2 * (er % 6) + 1 by omega)
  omega

theorem WalkOK.pos {lo wi st er : Int} {B : Nat → Int} (h : WalkOK lo wi st er B n) (k : Nat) : pthB (sLo lo) (sHi lo wi) (st % 6) (er % 6) (lS lo wi (st % 6) (er % 6) B) (fS lo wi (st % 6) B) k = true :=
  walk_pos h.l.1 h.w.1 (by have := h.s; omega) (by have := h.e; omega) k

theorem WalkOK.dB {lo wi st er : Int} {B : Nat → Int} (h : WalkOK lo wi st er B n) (k : Nat) (hk : k ≤ 12) : dB (sLo lo) (sHi lo wi) (st % 6) (er % 6) (lS lo wi (st % 6) (er % 6) B) k = true :=
  (path_in (n := k) h.dv (fun j hj => by have := h.f j (by omega); omega) k (Nat.le_refl k) (h.pos k)).1

theorem kS_le (n : Nat) : kS n ≤ 12 := by unfold kS; omega

end Go.Proofs.Ytcbjclmjkilphaa

namespace Go.Proofs.Ytcbjclmjkilphaa
open Go.Sx
set_option maxRecDepth 100000

noncomputable def tO (d1 d2 d3 d4 : Int) (m : Nat) (p : Nat → Int) (n : Nat) (L : Nat → Int) (ka kb : Int) : Tree SV := fnT Try.prog C0 D0 200 (fnOf Try.prog 36) (bodyOf Try.prog 36) [.agg [iv d1, iv d2, iv d3, iv d4, ro64 m p, ro64 n L], .agg [u8 ka, u8 kb]] .nil
noncomputable def LO (d1 d2 d3 d4 : Int) (m : Nat) (p : Nat → Int) (n : Nat) (L : Nat → Int) (ka kb : Int) : Tree SV :=
  .need (0 ≤ 0 ∧ True ∧ (0 + n) * 8 ≤ 140737488355328)
  (.ite (decide ((↑(0 + n) : Int) > (0 : Int)))
    (.need ((0 : Int) ≤ (0 : Int) ∧ (0 : Int) < (2 : Int))
      (.need (0 < 2)
        (.need ((↑(0 + n) : Int) ≠ (0 : Int))
          (.need ((0 : Int) ≤ Int.tmod (w64 ka) (↑(0 + n) : Int) ∧ Int.tmod (w64 ka) (↑(0 + n) : Int) < (↑(0 + n) : Int))
            (.need (0 + Int.toNat (Int.tmod (w64 ka) (↑(0 + n) : Int)) < 0 + n)
              (.need ((0 : Int) ≤ (1 : Int) ∧ (1 : Int) < (2 : Int))
                (.need (1 < 2)
                  (.need ((32 : Int) ≠ (0 : Int))
                    (.need ((0 : Int) ≤ Int.tmod (w64 ka) (↑(0 + n) : Int) ∧ Int.tmod (w64 ka) (↑(0 + n) : Int) < (↑(0 + n) : Int))
                      (.need (0 + Int.toNat (Int.tmod (w64 ka) (↑(0 + n) : Int)) < 0 + n)
                        (.need (0 + (0 + n) ≤ 0 + n)
                          (.ret
                            (.d
                              (DV.ro (0 + n) 1 fun i j =>
                                if 0 ≤ j ∧ j < 1 then
                                  selD (decide (0 + i = 0 + Int.toNat (Int.tmod (w64 ka) (↑(0 + n) : Int))))
                                    (match
                                      [DV.x
                                            (.int .i64
                                              (w64
                                                (L ((0 : Nat) + Int.toNat (Int.tmod (w64 (List.getD [ka, kb] (Int.toNat (0 : Int)) (0 : Int))) (↑((0 : Nat) + n) : Int)) - (0 : Nat)) +
                                                  w64 (w64 (Int.tmod kb (32 : Int)) - (16 : Int)))))][j - 0]? with
                                    | some x => x
                                    | none => DV.x (.tuple { toList := [] }))
                                    (DV.x (.int .i64 (L ((0 : Nat) + i - (0 : Nat)))))
                                else DV.x (.int .i64 (L ((0 : Nat) + i - (0 : Nat))))))))))))))))))
    (.need (0 + (0 + n) ≤ 0 + n) (.ret (.d (DV.ro (0 + n) 1 fun i j => DV.x (.int .i64 (L ((0 : Nat) + i - (0 : Nat)))))))))

theorem LO_eq (d1 d2 d3 d4 : Int) (m : Nat) (p : Nat → Int) (n : Nat) (L : Nat → Int) (ka kb : Int) : tO d1 d2 d3 d4 m p n L ka kb = LO d1 d2 d3 d4 m p n L ka kb := by kernel_rfl


/-- Readings with one of them changed. -/
def oL (n : Nat) (L : Nat → Int) (ka kb : Int) (i : Nat) : Int := if 0 < n ∧ i = ka.toNat % n then L i + (kb % 32 - 16) else L i

theorem odd_sat {d1 d2 d3 d4 : Int} {m : Nat} {p : Nat → Int} {n : Nat} {L : Nat → Int} {ka kb : Int} (hn : n ≤ 1000) (ha : 0 ≤ ka ∧ ka < 256) (hb : 0 ≤ kb ∧ kb < 256) (hL : ∀ i, i < n → -4000000000000000000 ≤ L i ∧ L i ≤ 4000000000000000000) :
    Sat Try.prog (tO d1 d2 d3 d4 m p n L ka kb) fun r => leSV 0 [] [] r (ro64 n (oL n L ka kb)) := by
  constructor
  rw [LO_eq]; unfold LO
  have e0 : w64 ka = ka := w64_of (by omega) (by omega)
  have e2 : w64 (Int.tmod kb 32) = kb % 32 := by rw [tmod_lit hb.1, w64_of (by omega) (by omega)]
  have e3 : w64 (kb % 32 - 16) = kb % 32 - 16 := w64_of (by omega) (by omega)
  simp only [Nat.zero_add, Nat.sub_zero, e0, e2, e3]
  refine ⟨⟨by decide, trivial, by omega⟩, fun h => ?_, fun h => ?_⟩
  · have hn0 : 0 < n := by simp only [decide_eq_true_eq] at h; omega
    have e1 : Int.tmod ka n = ((ka.toNat % n : Nat) : Int) := by
      rw [tmod_lit ha.1]
      have : ka = ((ka.toNat : Nat) : Int) := by omega
      rw [this, Int.natCast_emod]; simp
    have hlt : ka.toNat % n < n := Nat.mod_lt _ hn0
    rw [show List.getD [ka, kb] (Int.toNat 0) 0 = ka from rfl, e0, e1]
    simp only [Int.toNat_natCast, Nat.zero_add, Nat.sub_zero]
    have hLi := hL _ hlt
    have e4 : w64 (L (ka.toNat % n) + (kb % 32 - 16)) = L (ka.toNat % n) + (kb % 32 - 16) := w64_of (by omega) (by omega)
    refine ⟨by decide, by decide, by omega, by omega, by omega, by decide, by decide, by decide, by omega, by omega, by omega, ?_⟩
    show leSV 0 [] [] _ _
    simp only [ro64, leSV, leD, true_and]
    intro i j hi hj
    obtain rfl : j = 0 := by omega
    rw [if_pos (by decide), selD_eq]
    simp only [Nat.sub_zero, List.getElem?_cons_zero, e4]
    by_cases hc : i = ka.toNat % n
    · subst hc; simp [oL, hn0]
    · simp [oL, hc]
  · have hn0 : n = 0 := by simp only [decide_eq_false_iff_not] at h; omega
    refine ⟨by omega, ?_⟩
    show leSV 0 [] [] _ _
    simp only [ro64, leSV, leD, true_and]
    intro i j hi hj
    omega

noncomputable def cOdd : Ctr := fun ss => match ss with
  | [.agg [.d (.x (.int .i64 d1)), .d (.x (.int .i64 d2)), .d (.x (.int .i64 d3)), .d (.x (.int .i64 d4)), .d (.ro m 1 cel2), .d (.ro n 1 cell)], .agg [.d (.x (.int .u8 ka)), .d (.x (.int .u8 kb))]] =>
    .need (n ≤ 1000 ∧ (0 ≤ ka ∧ ka < 256) ∧ (0 ≤ kb ∧ kb < 256) ∧ (∀ i, i < m → ∃ b, cel2 i 0 = .x (.int .i64 b)) ∧ ∀ i, i < n → ∃ b, cell i 0 = .x (.int .i64 b) ∧ -4000000000000000000 ≤ b ∧ b ≤ 4000000000000000000) (.ret (ro64 n (oL n (intCell cell) ka kb)))
  | _ => .fail

theorem cOdd_ok : CtrOK Try.prog 36 cOdd := by
  refine ctrOK_leR C0_ok D0_ok (by kernel_rfl) (by kernel_rfl) fun ss r h => ?_
  unfold cOdd at h
  split at h
  · rename_i d1 d2 d3 d4 m cel2 n cell ka kb
    obtain ⟨⟨hn, ha, hb, hc2, hc⟩, rfl⟩ := h
    refine ⟨[.agg [iv d1, iv d2, iv d3, iv d4, ro64 m (intCell cel2), ro64 n (intCell cell)], .agg [u8 ka, u8 kb]], 200, .nil, ?_, odd_sat hn ha hb fun i hi => ?_⟩
    · simp only [leSVs, leSV, iv, u8, ro64, leD, and_true, true_and]
      exact ⟨le_ro64 hc2, le_ro64 fun i hi => by obtain ⟨b, e, _⟩ := hc i hi; exact ⟨b, e⟩⟩
    · obtain ⟨b, e, h⟩ := hc i hi
      simpa [intCell, e, intOf1] using h
  · exact h.elim

/-- drift.Path, told so that what hangs on tests stands at the leaves. -/
def inB (lo hi st er : Int) (n : Nat) (L : Nat → Int) (last : Int) : Bool := decide (dL lo st er L n ≤ last) && decide (last ≤ dH hi st er L n)
noncomputable def pzR (lo hi st er : Int) (n : Nat) (L : Nat → Int) (last : Int) : SV :=
  .tup [.d (.ro (bif dB lo hi st er L n && inB lo hi st er n L last then n + 1 else 0) 1 fun i _ => xi (pth lo hi st er n L last i)), iv (bif dB lo hi st er L n then (bif inB lo hi st er n L last then 0 else 4) else 440)]
noncomputable def cPathZ : Ctr := fun ss => match ss with
  | [.d (.x (.int .i64 lo)), .d (.x (.int .i64 hi)), .d (.x (.int .i64 st)), .d (.x (.int .i64 er)), .d (.ro n 1 cell), .d (.x (.int .i64 last))] =>
    .need (dV lo hi st er ∧ n ≤ 1000 ∧ ∀ i, i < n → ∃ b, cell i 0 = .x (.int .i64 b)) (.ret (pzR lo hi st er n (intCell cell) last))
  | _ => .fail

theorem cPathZ_ok : CtrOK Try.prog 31 cPathZ := cPath_ok.leR fun ss r h => by
  unfold cPathZ at h
  split at h
  · rename_i lo hi st er n cell last
    obtain ⟨h0, h⟩ := h
    simp only [Tr.ev] at h
    subst h
    cases hb : dB lo hi st er (intCell cell) n with
    | false =>
      refine ⟨.tup [.d (.x (.slice none 0 0)), iv 440], ⟨h0, ?_⟩, ?_⟩
      · unfold paT; rw [hb]; exact .inr ⟨rfl, rfl⟩
      · simp [pzR, hb, leSV, leSVs, leD, iv]
    | true =>
      cases hi2 : inB lo hi st er n (intCell cell) last with
      | false =>
        refine ⟨.tup [.d (.x (.slice none 0 0)), iv 4], ⟨h0, ?_⟩, ?_⟩
        · unfold paT; rw [hb]; exact .inl ⟨rfl, .inr ⟨hi2, rfl⟩⟩
        · simp [pzR, hb, hi2, leSV, leSVs, leD, iv]
      | true =>
        refine ⟨.tup [.d (.ro (n + 1) 1 fun i _ => xi (pth lo hi st er n (intCell cell) last i)), iv 0], ⟨h0, ?_⟩, ?_⟩
        · unfold paT; rw [hb]; exact .inl ⟨rfl, .inl ⟨hi2, rfl⟩⟩
        · simp [pzR, hb, hi2, leSV, leSVs, leD, iv]
  · exact h.elim

noncomputable def man9 : FuncId → Option Ctr := fun k => match k with
  | 28 => some cMade
  | 29 => some cPoss
  | 30 => some cBounds
  | 31 => some cPathZ
  | 32 => some cEx44
  | 36 => some cOdd
  | _ => none

theorem man9_ok (k : Nat) (c : Ctr) (h : man9 k = some c) : CtrOK Try.prog k c ∧ goodF Try.prog k = true := by
  unfold man9 at h
  split at h <;> first | (cases h; done) | (cases h)
  · exact ⟨cMade_ok, by kernel_rfl⟩
  · exact ⟨cPoss_ok, by kernel_rfl⟩
  · exact ⟨cBounds_ok, by kernel_rfl⟩
  · exact ⟨cPathZ_ok, by kernel_rfl⟩
  · exact ⟨cEx44_ok, by kernel_rfl⟩
  · exact ⟨cOdd_ok, by kernel_rfl⟩

noncomputable def C9 : Ctx := ctxN Try.prog man9 (fun _ => false) 200 .nil 3
theorem C9_ok : CtxOK Try.prog C9 := ctxN_ok mixed man9_ok 3
noncomputable def D9 : Dr := fun _ => drawn Try.prog C9
theorem D9_ok : DrOK Try.prog C9 D9 := drawn_ok C9_ok mixed
noncomputable def T9 (k : Nat) (args : List SV) (h : Hint) : Tree SV := fnT Try.prog C9 D9 200 (fnOf Try.prog k) (bodyOf Try.prog k) args h

structure Law9 (k : Nat) (ss : List SV) : Prop where
  ok : ∃ h, (T9 k ss h).sat Try.prog (· = bv true)

theorem law_ctr9 {k : Nat} {okA : List SV → Prop} (hf : (Try.prog.funcs[k]?).isSome = true) (hb : (fnOf Try.prog k).body.isSome = true) (h : ∀ ss, okA ss → Law9 k ss) :
    ∃ c : Ctr, CtrOK Try.prog k c ∧ ∀ ss, okA ss → (c ss).ev (bv true) := by
  refine ⟨fun ss => .need (okA ss) (.ret (bv true)), ?_, fun ss hs => ⟨hs, rfl⟩⟩
  refine ctrOK_of C9_ok D9_ok (fn := fnOf Try.prog k) (body := bodyOf Try.prog k) (by
    unfold fnOf
    cases hk : Try.prog.funcs[k]? with
    | none => rw [hk] at hf; cases hf
    | some f => rfl) (by
    unfold bodyOf
    cases hk : (fnOf Try.prog k).body with
    | none => rw [hk] at hb; cases hb
    | some f => rfl) fun ss r hr => ?_
  obtain ⟨h1, rfl⟩ := hr
  obtain ⟨hint, h2⟩ := (h ss h1).ok
  exact ⟨200, hint, h2⟩

end Go.Proofs.Ytcbjclmjkilphaa

namespace Go.Proofs.Ytcbjclmjkilphaa
open Go.Sx
set_option maxRecDepth 100000

noncomputable def t10 (lo wi st er : Int) (n : Nat) (cell : Nat → Nat → DV) (ka kb : Int) : Tree SV := T9 10 [.agg [u8 lo, u8 wi, u8 st, u8 er, .d (.ro n 1 cell)], .agg [u8 ka, u8 kb]] .nil
noncomputable def L10 (lo wi st er : Int) (n : Nat) (cell : Nat → Nat → DV) (ka kb : Int) : Tree SV :=
  .ite false (.ret (bv false))
  (.need
    (((0 : Int) ≤ lo ∧ lo < (256 : Int)) ∧
      ((0 : Int) ≤ wi ∧ wi < (256 : Int)) ∧
        ((0 : Int) ≤ st ∧ st < (256 : Int)) ∧ ((0 : Int) ≤ er ∧ er < (256 : Int)) ∧ n ≤ 9223372036854775807 ∧ ∀ (i : Nat), i < n → ∃ b, cell i (0 : Nat) = DV.x (.int .u8 b) ∧ (0 : Int) ≤ b ∧ b < (256 : Int))
    (.need
      (kS n ≤ 1000 ∧
        ((0 : Int) ≤ ka ∧ ka < (256 : Int)) ∧
          ((0 : Int) ≤ kb ∧ kb < (256 : Int)) ∧
            (∀ (i : Nat), i < kS n + (1 : Nat) → ∃ b, (fun i x => DV.x (.int .i64 (fS lo wi (st % (6 : Int)) (byteCell cell) i))) i (0 : Nat) = DV.x (.int .i64 b)) ∧
              ∀ (i : Nat),
                i < kS n →
                  ∃ b,
                    (fun i x => DV.x (.int .i64 (lS lo wi (st % (6 : Int)) (er % (6 : Int)) (byteCell cell) i))) i (0 : Nat) = DV.x (.int .i64 b) ∧ (-4000000000000000000 : Int) ≤ b ∧ b ≤ (4000000000000000000 : Int))
      (.need
        (dV (sLo lo) (sHi lo wi) (st % (6 : Int)) (er % (6 : Int)) ∧
          kS n ≤ 1000 ∧
            ∀ (i : Nat),
              i < kS n →
                ∃ b,
                  (fun i x => DV.x (.int .i64 (oL (kS n) (intCell fun i x => DV.x (.int .i64 (lS lo wi (st % (6 : Int)) (er % (6 : Int)) (byteCell cell) i))) ka kb i))) i (0 : Nat) = DV.x (.int .i64 b))
        (.ite (dE (sLo lo) (sHi lo wi) (st % (6 : Int)) (er % (6 : Int)) (fun i => oL (kS n) (fun i => lS lo wi (st % (6 : Int)) (er % (6 : Int)) (fun i => numOf (cell i (0 : Nat))) i) ka kb i) (kS n) != (0 : Int))
          (.need
            (dV (sLo lo) (sHi lo wi) (st % (6 : Int)) (er % (6 : Int)) ∧
              kS n ≤ 1000 ∧
                ∀ (i : Nat),
                  i < kS n →
                    ∃ b,
                      (fun i x => DV.x (.int .i64 (oL (kS n) (intCell fun i x => DV.x (.int .i64 (lS lo wi (st % (6 : Int)) (er % (6 : Int)) (byteCell cell) i))) ka kb i))) i (0 : Nat) =
                        DV.x (.int .i64 b))
            (.ret
              (bv
                ((bif dB (sLo lo) (sHi lo wi) (st % (6 : Int)) (er % (6 : Int)) (fun i => oL (kS n) (fun i => lS lo wi (st % (6 : Int)) (er % (6 : Int)) (fun i => numOf (cell i (0 : Nat))) i) ka kb i) (kS n) then
                      bif inB (sLo lo) (sHi lo wi) (st % (6 : Int)) (er % (6 : Int)) (kS n) (fun i => oL (kS n) (fun i => lS lo wi (st % (6 : Int)) (er % (6 : Int)) (fun i => numOf (cell i (0 : Nat))) i) ka kb i) (sLo lo) then (0 : Int)
                      else (4 : Int)
                    else (440 : Int)) ==
                    dE (sLo lo) (sHi lo wi) (st % (6 : Int)) (er % (6 : Int)) (fun i => oL (kS n) (fun i => lS lo wi (st % (6 : Int)) (er % (6 : Int)) (fun i => numOf (cell i (0 : Nat))) i) ka kb i) (kS n) &&
                  true))))
          (.ite
            (decide
              (w64
                  (zif (dB (sLo lo) (sHi lo wi) (st % (6 : Int)) (er % (6 : Int)) (fun i => oL (kS n) (fun i => lS lo wi (st % (6 : Int)) (er % (6 : Int)) (fun i => numOf (cell i (0 : Nat))) i) ka kb i) (kS n))
                      (dH (sHi lo wi) (st % (6 : Int)) (er % (6 : Int)) (fun i => oL (kS n) (fun i => lS lo wi (st % (6 : Int)) (er % (6 : Int)) (fun i => numOf (cell i (0 : Nat))) i) ka kb i) (kS n)) -
                    zif (dB (sLo lo) (sHi lo wi) (st % (6 : Int)) (er % (6 : Int)) (fun i => oL (kS n) (fun i => lS lo wi (st % (6 : Int)) (er % (6 : Int)) (fun i => numOf (cell i (0 : Nat))) i) ka kb i) (kS n))
                      (dL (sLo lo) (st % (6 : Int)) (er % (6 : Int)) (fun i => oL (kS n) (fun i => lS lo wi (st % (6 : Int)) (er % (6 : Int)) (fun i => numOf (cell i (0 : Nat))) i) ka kb i) (kS n))) >
                (200 : Int)))
            (.ret (bv false))
            (.code (codeC (sub [(1 : Nat), (0 : Nat), (0 : Nat), (0 : Nat), (1 : Nat), (1 : Nat)] (t10 lo wi st er n cell ka kb)))
              (codeS (sub [(1 : Nat), (0 : Nat), (0 : Nat), (0 : Nat), (1 : Nat), (1 : Nat)] (t10 lo wi st er n cell ka kb)))
              (codeK (sub [(1 : Nat), (0 : Nat), (0 : Nat), (0 : Nat), (1 : Nat), (1 : Nat)] (t10 lo wi st er n cell ka kb)))))))))

theorem L10_eq (lo wi st er : Int) (n : Nat) (cell : Nat → Nat → DV) (ka kb : Int) : t10 lo wi st er n cell ka kb = L10 lo wi st er n cell ka kb := by kernel_rfl


noncomputable def p10 : List Nat := [1, 0, 0, 0, 1, 1]
noncomputable def drp10 : List Nat := [0, 2, 3, 4, 5, 6, 7, 8, 9, 11, 13]
noncomputable def in10 (t : Tree SV) : Option AS := entA 14 [] [3, 5, 7, 8, 9] drp10 14 .nil t
noncomputable def inv10 (ka kb dlo dhi dst der : Int) (kn : Nat) (l : Nat → Int) (x y e f : Int) : AS :=
  ⟨[.unk, .unk, .unk, .ok (.ptr 1 0), .unk, .ok (bv true), .unk, .ok (.ptr 10 0), .ok (.ptr 12 0), .ok (iv f)] ++ List.replicate 132 .unk,
   [none, some (.cells [u8 ka, u8 kb]), none, none, none, none, none, none, none, none, some (.cells [iv dlo, iv dhi, iv dst, iv der, ro64 kn l]), none, some (.cells [iv x, iv y, iv e]), none], 14, .nil⟩
noncomputable def body10 : Code := loopN (bodyOf Try.prog 10) 0
noncomputable def B10 (ka kb dlo dhi dst der : Int) (kn : Nat) (l : Nat → Int) (x y e f : Int) : Tree (Ex × AS) :=
  .ite (decide (f ≤ y))
  (.need (dV dlo dhi dst der ∧ kn ≤ 1000 ∧ ∀ (i : Nat), i < kn → ∃ b, (fun i x => DV.x (.int .i64 (l i))) i (0 : Nat) = DV.x (.int .i64 b))
    (.need
      (((bif dB dlo dhi dst der (fun i => l i) kn then bif inB dlo dhi dst der kn (fun i => l i) f then (0 : Int) else (4 : Int) else (440 : Int)) != (0 : Int)) = false →
        dV dlo dhi dst der ∧
          kn ≤ 1000 ∧
            (bif dB dlo dhi dst der (fun i => l i) kn && inB dlo dhi dst der kn (fun i => l i) f then kn + 1 else 0) ≤ 9223372036854775807 ∧
              (∀ (i : Nat), i < kn → ∃ b, (fun i x => DV.x (.int .i64 (l i))) i (0 : Nat) = DV.x (.int .i64 b)) ∧
                ∀ (i : Nat),
                  (i < bif dB dlo dhi dst der (intCell fun i x => DV.x (.int .i64 (l i))) kn && inB dlo dhi dst der kn (intCell fun i x => DV.x (.int .i64 (l i))) f then kn + (1 : Nat) else (0 : Nat)) →
                    ∃ b, (fun i x => xi (pth dlo dhi dst der kn (intCell fun i x => DV.x (.int .i64 (l i))) f i)) i (0 : Nat) = DV.x (.int .i64 b) ∧ (-4000000000000000000 : Int) ≤ b ∧ b ≤ (4000000000000000000 : Int))
      (.need
        ((((bif dB dlo dhi dst der (fun i => l i) kn then bif inB dlo dhi dst der kn (fun i => l i) f then (0 : Int) else (4 : Int) else (440 : Int)) != (0 : Int) ||
                !posB dlo dhi dst der kn (fun i => l i) (bif dB dlo dhi dst der (fun i => l i) kn && inB dlo dhi dst der kn (fun i => l i) f then kn + 1 else 0) fun i => pth dlo dhi dst der kn (fun i => l i) f i) ||
              (↑(bif dB dlo dhi dst der (fun i => l i) kn && inB dlo dhi dst der kn (fun i => l i) f then kn + 1 else 0) : Int) != w64 ((↑kn : Int) + (1 : Int))) =
            false →
          (0 : Int) ≤ w64 ((↑(bif dB dlo dhi dst der (fun i => l i) kn && inB dlo dhi dst der kn (fun i => l i) f then kn + 1 else 0) : Int) - (1 : Int)) ∧
            w64 ((↑(bif dB dlo dhi dst der (fun i => l i) kn && inB dlo dhi dst der kn (fun i => l i) f then kn + 1 else 0) : Int) - (1 : Int)) <
              (↑(bif dB dlo dhi dst der (fun i => l i) kn && inB dlo dhi dst der kn (fun i => l i) f then kn + 1 else 0) : Int))
        (.ite
          (((bif dB dlo dhi dst der (fun i => l i) kn then bif inB dlo dhi dst der kn (fun i => l i) f then (0 : Int) else (4 : Int) else (440 : Int)) != (0 : Int) ||
                !posB dlo dhi dst der kn (fun i => l i) (bif dB dlo dhi dst der (fun i => l i) kn && inB dlo dhi dst der kn (fun i => l i) f then kn + 1 else 0) fun i => pth dlo dhi dst der kn (fun i => l i) f i) ||
              (↑(bif dB dlo dhi dst der (fun i => l i) kn && inB dlo dhi dst der kn (fun i => l i) f then kn + 1 else 0) : Int) != w64 ((↑kn : Int) + (1 : Int)) ||
            pth dlo dhi dst der kn (fun i => l i) f (Int.toNat (w64 ((↑(bif dB dlo dhi dst der (fun i => l i) kn && inB dlo dhi dst der kn (fun i => l i) f then kn + 1 else 0) : Int) - (1 : Int)))) != f)
          (.ret
            (.ret,
              {
                tm :=
                  [.unk, .unk, .unk, .ok (.ptr 1 0), .unk, .ok (bv true), .unk, .ok (.ptr 10 0), .ok (.ptr 12 0), .ok (iv f), .unk, .unk, .unk,
                    .unk, .unk, .unk, .unk, .unk, .unk, .unk, .unk, .unk, .unk, .unk, .unk, .unk, .unk, .unk, .unk, .unk, .unk, .unk, .unk, .unk, .unk, .unk, .unk, .unk, .unk, .unk,
                    .unk, .unk, .unk, .unk, .unk, .unk, .unk, .unk, .unk, .unk, .unk, .unk, .unk, .unk, .unk, .unk, .unk, .unk, .unk, .unk, .unk, .unk, .unk, .unk, .unk, .unk, .unk,
                    .unk, .unk, .unk, .unk, .unk, .unk, .unk, .unk, .unk, .unk, .unk, .unk, .unk, .unk, .unk, .unk, .unk, .unk, .unk, .unk, .unk, .unk, .unk, .unk, .unk, .unk, .unk,
                    .unk, .unk, .unk, .unk, .unk, .unk, .unk, .unk, .unk, .unk, .unk, .unk, .unk, .unk, .unk, .unk, .unk, .unk, .unk, .unk, .unk, .unk, .unk, .unk, .unk, .unk, .unk,
                    .unk, .unk, .unk, .unk, .unk, .unk, .unk, .unk, .unk, .unk, .unk, .unk, .unk, .unk, .unk, .unk, .unk, .unk, .unk, .unk, .unk],
                hp :=
                  [none, some (.cells [.d (DV.x (.int .u8 ka)), .d (DV.x (.int .u8 kb))]), none, none, none, none, none, none, none, none,
                    some (.cells [iv dlo, iv dhi, iv dst, iv der, .d (DV.ro kn 1 fun i x => DV.x (.int .i64 (l i)))]), none, some (.cells [iv x, iv y, iv e]), none],
                next := 14, hint := .nil }))
          (.ite (decide ((↑(bif dB dlo dhi dst der (fun i => l i) kn && inB dlo dhi dst der kn (fun i => l i) f then kn + 1 else 0) : Int) < (2 : Int)))
            (.ret
              (.normal,
                {
                  tm :=
                    [.unk, .unk, .unk, .ok (.ptr 1 0), .unk, .ok (bv true), .unk, .ok (.ptr 10 0), .ok (.ptr 12 0), .ok (iv (w64 (f + (1 : Int)))),
                      .unk, .unk, .unk, .unk, .unk, .unk, .unk, .unk, .unk, .unk, .unk, .unk, .unk, .unk, .unk, .unk, .unk, .unk, .unk, .unk, .unk, .unk, .unk, .unk, .unk, .unk, .unk,
                      .unk, .unk, .unk, .unk, .unk, .unk, .unk, .unk, .unk, .unk, .unk, .unk, .unk, .unk, .unk, .unk, .unk, .unk, .unk, .unk, .unk, .unk, .unk, .unk, .unk, .unk, .unk,
                      .unk, .unk, .unk, .unk, .unk, .unk, .unk, .unk, .unk, .unk, .unk, .unk, .unk, .unk, .unk, .unk, .unk, .unk, .unk, .unk, .unk, .unk, .unk, .unk, .unk, .unk, .unk,
                      .unk, .unk, .unk, .unk, .unk, .unk, .unk, .unk, .unk, .unk, .unk, .unk, .unk, .unk, .unk, .unk, .unk, .unk, .unk, .unk, .unk, .unk, .unk, .unk, .unk, .unk, .unk,
                      .unk, .unk, .unk, .unk, .unk, .unk, .unk, .unk, .unk, .unk, .unk, .unk, .unk, .unk, .unk, .unk, .unk, .unk, .unk, .unk, .unk, .unk, .unk, .unk],
                  hp :=
                    [none, some (.cells [.d (DV.x (.int .u8 ka)), .d (DV.x (.int .u8 kb))]), none, none, none, none, none, none, none, none,
                      some (.cells [iv dlo, iv dhi, iv dst, iv der, .d (DV.ro kn 1 fun i x => DV.x (.int .i64 (l i)))]), none, some (.cells [iv x, iv y, iv e]), none],
                  next := 14, hint := .nil }))
            (.need (0 ≤ 0 ∧ True ∧ (0 + bif dB dlo dhi dst der (fun i => l i) kn && inB dlo dhi dst der kn (fun i => l i) f then kn + 1 else 0) * 8 ≤ 140737488355328)
              (.need ((0 : Int) ≤ (0 : Int) ∧ (0 : Int) < (2 : Int))
                (.need (0 < 2)
                  (.need ((↑(0 + bif dB dlo dhi dst der (fun i => l i) kn && inB dlo dhi dst der kn (fun i => l i) f then kn + 1 else 0) : Int) ≠ (0 : Int))
                    (.need
                      ((0 : Int) ≤ Int.tmod (w64 ka) (↑(0 + bif dB dlo dhi dst der (fun i => l i) kn && inB dlo dhi dst der kn (fun i => l i) f then kn + 1 else 0) : Int) ∧
                        Int.tmod (w64 ka) (↑(0 + bif dB dlo dhi dst der (fun i => l i) kn && inB dlo dhi dst der kn (fun i => l i) f then kn + 1 else 0) : Int) <
                          (↑(0 + bif dB dlo dhi dst der (fun i => l i) kn && inB dlo dhi dst der kn (fun i => l i) f then kn + 1 else 0) : Int))
                      (.need
                        (0 + Int.toNat (Int.tmod (w64 ka) (↑(0 + bif dB dlo dhi dst der (fun i => l i) kn && inB dlo dhi dst der kn (fun i => l i) f then kn + 1 else 0) : Int)) <
                          0 + bif dB dlo dhi dst der (fun i => l i) kn && inB dlo dhi dst der kn (fun i => l i) f then kn + 1 else 0)
                        (.need
                          ((0 : Int) ≤ Int.tmod (w64 ka) (↑(0 + bif dB dlo dhi dst der (fun i => l i) kn && inB dlo dhi dst der kn (fun i => l i) f then kn + 1 else 0) : Int) ∧
                            Int.tmod (w64 ka) (↑(0 + bif dB dlo dhi dst der (fun i => l i) kn && inB dlo dhi dst der kn (fun i => l i) f then kn + 1 else 0) : Int) <
                              (↑(0 + bif dB dlo dhi dst der (fun i => l i) kn && inB dlo dhi dst der kn (fun i => l i) f then kn + 1 else 0) : Int))
                          (.need
                            (0 + Int.toNat (Int.tmod (w64 ka) (↑(0 + bif dB dlo dhi dst der (fun i => l i) kn && inB dlo dhi dst der kn (fun i => l i) f then kn + 1 else 0) : Int)) <
                              0 + bif dB dlo dhi dst der (fun i => l i) kn && inB dlo dhi dst der kn (fun i => l i) f then kn + 1 else 0)
                            (.need
                              (0 + (0 + bif dB dlo dhi dst der (fun i => l i) kn && inB dlo dhi dst der kn (fun i => l i) f then kn + 1 else 0) ≤
                                0 + bif dB dlo dhi dst der (fun i => l i) kn && inB dlo dhi dst der kn (fun i => l i) f then kn + 1 else 0)
                              (.need
                                (dV dlo dhi dst der ∧
                                  kn ≤ 1000 ∧
                                    (0 + bif dB dlo dhi dst der (fun i => l i) kn && inB dlo dhi dst der kn (fun i => l i) f then kn + 1 else 0) ≤ 9223372036854775807 ∧
                                      (∀ (i : Nat), i < kn → ∃ b, (fun i x => DV.x (.int .i64 (l i))) i (0 : Nat) = DV.x (.int .i64 b)) ∧
                                        ∀ (i : Nat),
                                          (i <
                                              (0 : Nat) +
                                                bif dB dlo dhi dst der (intCell fun i x => DV.x (.int .i64 (l i))) kn && inB dlo dhi dst der kn (intCell fun i x => DV.x (.int .i64 (l i))) f then kn + (1 : Nat)
                                                else (0 : Nat)) →
                                            ∃ b,
                                              (fun i j =>
                                                      (fun a b =>
                                                          if (0 : Nat) ≤ b ∧ b < (0 : Nat) + (fun x => TypeInfo.size x) (Tables.types (Program.toTables Try.prog))[(3 : Nat)] then
                                                            selD
                                                              (decide
                                                                (a =
                                                                  (0 : Nat) +
                                                                    Int.toNat
                                                                      (Int.tmod (w64 (List.getD ((fun x => ka :: x) ((fun x => kb :: x) [])) (Int.toNat (0 : Int)) (0 : Int)))
                                                                        (↑((0 : Nat) +
                                                                              bif
                                                                                  dB dlo dhi dst der (intCell fun i x => DV.x (.int .i64 (l i))) kn &&
                                                                                    inB dlo dhi dst der kn (intCell fun i x => DV.x (.int .i64 (l i))) f then
                                                                                kn + (1 : Nat)
                                                                              else (0 : Nat)) :
                                                                          Int))))
                                                              (List.getD
                                                                ((fun x =>
                                                                    DV.x
                                                                        (.int .i64
                                                                          (w64
                                                                            (pth dlo dhi dst der kn (intCell fun i x => DV.x (.int .i64 (l i))) f
                                                                                ((0 : Nat) +
                                                                                    Int.toNat
                                                                                      (Int.tmod (w64 (List.getD ((fun x => ka :: x) ((fun x => kb :: x) [])) (Int.toNat (0 : Int)) (0 : Int)))
                                                                                        (↑((0 : Nat) +
                                                                                              bif
                                                                                                  dB dlo dhi dst der (intCell fun i x => DV.x (.int .i64 (l i))) kn &&
                                                                                                    inB dlo dhi dst der kn (intCell fun i x => DV.x (.int .i64 (l i))) f then
                                                                                                kn + (1 : Nat)
                                                                                              else (0 : Nat)) :
                                                                                          Int)) -
                                                                                  (0 : Nat)) +
                                                                              w64 (w64 ((2 : Int) * dst) + (1 : Int))))) ::
                                                                      x)
                                                                  [])
                                                                (b - (0 : Nat)) (DV.x undef))
                                                              ((fun a b =>
                                                                  selD (decide (a < (0 : Nat))) ((fun i j => dsAt [] ((0 : Nat) + ((0 : Nat) + i) * TypeInfo.size (Tables.types (Program.toTables Try.prog))[(3 : Nat)] + j)) a b)
                                                                    ((fun i x => xi (pth dlo dhi dst der kn (intCell fun i x => DV.x (.int .i64 (l i))) f i)) (a - (0 : Nat)) b))
                                                                a b)
                                                          else
                                                            (fun a b =>
                                                                selD (decide (a < (0 : Nat))) ((fun i j => dsAt [] ((0 : Nat) + ((0 : Nat) + i) * TypeInfo.size (Tables.types (Program.toTables Try.prog))[(3 : Nat)] + j)) a b)
                                                                  ((fun i x => xi (pth dlo dhi dst der kn (intCell fun i x => DV.x (.int .i64 (l i))) f i)) (a - (0 : Nat)) b))
                                                              a b)
                                                        ((0 : Nat) + i) j)
                                                    i (0 : Nat) =
                                                  DV.x (.int .i64 b) ∧
                                                (-4000000000000000000 : Int) ≤ b ∧ b ≤ (4000000000000000000 : Int))
                                (.need
                                  ((posB dlo dhi dst der kn (fun i => l i) (0 + bif dB dlo dhi dst der (fun i => l i) kn && inB dlo dhi dst der kn (fun i => l i) f then kn + 1 else 0) fun i =>
                                        bif
                                            decide
                                              (0 + i =
                                                0 + Int.toNat (Int.tmod (w64 ka) (↑(0 + bif dB dlo dhi dst der (fun i => l i) kn && inB dlo dhi dst der kn (fun i => l i) f then kn + 1 else 0) : Int))) then
                                          w64
                                            (pth dlo dhi dst der kn (fun i => l i) f
                                                (0 + Int.toNat (Int.tmod (w64 ka) (↑(0 + bif dB dlo dhi dst der (fun i => l i) kn && inB dlo dhi dst der kn (fun i => l i) f then kn + 1 else 0) : Int)) -
                                                  0) +
                                              w64 (w64 ((2 : Int) * dst) + (1 : Int)))
                                        else pth dlo dhi dst der kn (fun i => l i) f (0 + i - 0)) =
                                      false →
                                    True ∧ (0 : Int) ≤ (1 : Int) ∧ 1 ≤ bif dB dlo dhi dst der (fun i => l i) kn && inB dlo dhi dst der kn (fun i => l i) f then kn + 1 else 0)
                                  (.need
                                    ((posB dlo dhi dst der kn (fun i => l i) (0 + bif dB dlo dhi dst der (fun i => l i) kn && inB dlo dhi dst der kn (fun i => l i) f then kn + 1 else 0) fun i =>
                                          bif
                                              decide
                                                (0 + i =
                                                  0 + Int.toNat (Int.tmod (w64 ka) (↑(0 + bif dB dlo dhi dst der (fun i => l i) kn && inB dlo dhi dst der kn (fun i => l i) f then kn + 1 else 0) : Int))) then
                                            w64
                                              (pth dlo dhi dst der kn (fun i => l i) f
                                                  (0 + Int.toNat (Int.tmod (w64 ka) (↑(0 + bif dB dlo dhi dst der (fun i => l i) kn && inB dlo dhi dst der kn (fun i => l i) f then kn + 1 else 0) : Int)) -
                                                    0) +
                                                w64 (w64 ((2 : Int) * dst) + (1 : Int)))
                                          else pth dlo dhi dst der kn (fun i => l i) f (0 + i - 0)) =
                                        false →
                                      dV dlo dhi dst der ∧
                                        kn ≤ 1000 ∧
                                          (bif dB dlo dhi dst der (fun i => l i) kn && inB dlo dhi dst der kn (fun i => l i) f then kn + 1 else 0) - 1 ≤ 9223372036854775807 ∧
                                            (∀ (i : Nat), i < kn → ∃ b, (fun i x => DV.x (.int .i64 (l i))) i (0 : Nat) = DV.x (.int .i64 b)) ∧
                                              ∀ (i : Nat),
                                                i <
                                                    (bif dB dlo dhi dst der (intCell fun i x => DV.x (.int .i64 (l i))) kn && inB dlo dhi dst der kn (intCell fun i x => DV.x (.int .i64 (l i))) f then kn + (1 : Nat)
                                                      else (0 : Nat)) -
                                                      Int.toNat (1 : Int) →
                                                  ∃ b,
                                                    (fun i j => (fun i x => xi (pth dlo dhi dst der kn (intCell fun i x => DV.x (.int .i64 (l i))) f i)) (Int.toNat (1 : Int) + i) j) i (0 : Nat) = DV.x (.int .i64 b) ∧
                                                      (-4000000000000000000 : Int) ≤ b ∧ b ≤ (4000000000000000000 : Int))
                                    (.ite
                                      ((posB dlo dhi dst der kn (fun i => l i) (0 + bif dB dlo dhi dst der (fun i => l i) kn && inB dlo dhi dst der kn (fun i => l i) f then kn + 1 else 0) fun i =>
                                          bif
                                              decide
                                                (0 + i =
                                                  0 + Int.toNat (Int.tmod (w64 ka) (↑(0 + bif dB dlo dhi dst der (fun i => l i) kn && inB dlo dhi dst der kn (fun i => l i) f then kn + 1 else 0) : Int))) then
                                            w64
                                              (pth dlo dhi dst der kn (fun i => l i) f
                                                  (0 + Int.toNat (Int.tmod (w64 ka) (↑(0 + bif dB dlo dhi dst der (fun i => l i) kn && inB dlo dhi dst der kn (fun i => l i) f then kn + 1 else 0) : Int)) -
                                                    0) +
                                                w64 (w64 ((2 : Int) * dst) + (1 : Int)))
                                          else pth dlo dhi dst der kn (fun i => l i) f (0 + i - 0)) ||
                                        posB dlo dhi dst der kn (fun i => l i) ((bif dB dlo dhi dst der (fun i => l i) kn && inB dlo dhi dst der kn (fun i => l i) f then kn + 1 else 0) - 1) fun i =>
                                          pth dlo dhi dst der kn (fun i => l i) f (1 + i))
                                      (.ret
                                        (.ret,
                                          {
                                            tm :=
                                              [.unk, .unk, .unk, .ok (.ptr 1 0), .unk, .ok (bv true), .unk, .ok (.ptr 10 0), .ok (.ptr 12 0), .ok (iv f),
                                                .unk, .unk, .unk, .unk, .unk, .unk, .unk, .unk, .unk, .unk, .unk, .unk, .unk, .unk, .unk, .unk, .unk, .unk, .unk, .unk, .unk, .unk, .unk, .unk,
                                                .unk, .unk, .unk, .unk, .unk, .unk, .unk, .unk, .unk, .unk, .unk, .unk, .unk, .unk, .unk, .unk, .unk, .unk, .unk, .unk, .unk, .unk, .unk, .unk,
                                                .unk, .unk, .unk, .unk, .unk, .unk, .unk, .unk, .unk, .unk, .unk, .unk, .unk, .unk, .unk, .unk, .unk, .unk, .unk, .unk, .unk, .unk, .unk, .unk,
                                                .unk, .unk, .unk, .unk, .unk, .unk, .unk, .unk, .unk, .unk, .unk, .unk, .unk, .unk, .unk, .unk, .unk, .unk, .unk, .unk, .unk, .unk, .unk, .unk,
                                                .unk, .unk, .unk, .unk, .unk, .unk, .unk, .unk, .unk, .unk, .unk, .unk, .unk, .unk, .unk, .unk, .unk, .unk, .unk, .unk, .unk, .unk, .unk, .unk,
                                                .unk, .unk, .unk, .unk, .unk, .unk, .unk, .unk, .unk, .unk, .unk, .unk],
                                            hp :=
                                              [none, some (.cells [.d (DV.x (.int .u8 ka)), .d (DV.x (.int .u8 kb))]), none, none, none, none, none, none, none, none,
                                                some (.cells [iv dlo, iv dhi, iv dst, iv der, .d (DV.ro kn 1 fun i x => DV.x (.int .i64 (l i)))]), none, some (.cells [iv x, iv y, iv e]), none],
                                            next := 14, hint := .nil }))
                                      (.ret
                                        (.normal,
                                          {
                                            tm :=
                                              [.unk, .unk, .unk, .ok (.ptr 1 0), .unk, .ok (bv true), .unk, .ok (.ptr 10 0), .ok (.ptr 12 0),
                                                .ok (iv (w64 (f + (1 : Int)))), .unk, .unk, .unk, .unk, .unk, .unk, .unk, .unk, .unk, .unk, .unk, .unk, .unk, .unk, .unk, .unk, .unk, .unk, .unk,
                                                .unk, .unk, .unk, .unk, .unk, .unk, .unk, .unk, .unk, .unk, .unk, .unk, .unk, .unk, .unk, .unk, .unk, .unk, .unk, .unk, .unk, .unk, .unk, .unk,
                                                .unk, .unk, .unk, .unk, .unk, .unk, .unk, .unk, .unk, .unk, .unk, .unk, .unk, .unk, .unk, .unk, .unk, .unk, .unk, .unk, .unk, .unk, .unk, .unk,
                                                .unk, .unk, .unk, .unk, .unk, .unk, .unk, .unk, .unk, .unk, .unk, .unk, .unk, .unk, .unk, .unk, .unk, .unk, .unk, .unk, .unk, .unk, .unk, .unk,
                                                .unk, .unk, .unk, .unk, .unk, .unk, .unk, .unk, .unk, .unk, .unk, .unk, .unk, .unk, .unk, .unk, .unk, .unk, .unk, .unk, .unk, .unk, .unk, .unk,
                                                .unk, .unk, .unk, .unk, .unk, .unk, .unk, .unk, .unk, .unk, .unk, .unk, .unk, .unk, .unk, .unk, .unk],
                                            hp :=
                                              [none, some (.cells [.d (DV.x (.int .u8 ka)), .d (DV.x (.int .u8 kb))]), none, none, none, none, none, none, none, none,
                                                some (.cells [iv dlo, iv dhi, iv dst, iv der, .d (DV.ro kn 1 fun i x => DV.x (.int .i64 (l i)))]), none, some (.cells [iv x, iv y, iv e]), none],
                                            next := 14, hint := .nil }))))))))))))))))))))
  (.ret
    (.exit 0,
      {
        tm :=
          [.unk, .unk, .unk, .ok (.ptr 1 0), .unk, .ok (bv true), .unk, .ok (.ptr 10 0), .ok (.ptr 12 0), .ok (iv f), .unk, .unk, .unk, .unk,
            .unk, .unk, .unk, .unk, .unk, .unk, .unk, .unk, .unk, .unk, .unk, .unk, .unk, .unk, .unk, .unk, .unk, .unk, .unk, .unk, .unk, .unk, .unk, .unk, .unk, .unk, .unk, .unk,
            .unk, .unk, .unk, .unk, .unk, .unk, .unk, .unk, .unk, .unk, .unk, .unk, .unk, .unk, .unk, .unk, .unk, .unk, .unk, .unk, .unk, .unk, .unk, .unk, .unk, .unk, .unk, .unk,
            .unk, .unk, .unk, .unk, .unk, .unk, .unk, .unk, .unk, .unk, .unk, .unk, .unk, .unk, .unk, .unk, .unk, .unk, .unk, .unk, .unk, .unk, .unk, .unk, .unk, .unk, .unk, .unk,
            .unk, .unk, .unk, .unk, .unk, .unk, .unk, .unk, .unk, .unk, .unk, .unk, .unk, .unk, .unk, .unk, .unk, .unk, .unk, .unk, .unk, .unk, .unk, .unk, .unk, .unk, .unk, .unk,
            .unk, .unk, .unk, .unk, .unk, .unk, .unk, .unk, .unk, .unk, .unk, .unk, .unk, .unk, .unk, .unk],
        hp :=
          [none, some (.cells [.d (DV.x (.int .u8 ka)), .d (DV.x (.int .u8 kb))]), none, none, none, none, none, none, none, none,
            some (.cells [iv dlo, iv dhi, iv dst, iv der, .d (DV.ro kn 1 fun i x => DV.x (.int .i64 (l i)))]), none, some (.cells [iv x, iv y, iv e]), none],
        next := 14, hint := .nil }))

theorem B10_eq (ka kb dlo dhi dst der : Int) (kn : Nat) (l : Nat → Int) (x y e f : Int) : cutT 14 [] [3, 5, 7, 8, 9] drp10 14 .nil (exec Try.prog C9 D9 200 body10 (inv10 ka kb dlo dhi dst der kn l x y e f)) = B10 ka kb dlo dhi dst der kn l x y e f := by kernel_rfl

noncomputable def K10 (lo wi st er : Int) (n : Nat) (cell : Nat → Nat → DV) (qa qb ka kb dlo dhi dst der : Int) (kn : Nat) (l : Nat → Int) (x y e f : Int) : Tree SV :=
  .need (dV dlo dhi dst der ∧ kn ≤ 1000 ∧ ∀ (i : Nat), i < kn → ∃ b, (fun i x => DV.x (.int .i64 (l i))) i (0 : Nat) = DV.x (.int .i64 b))
  (.need
    (((bif dB dlo dhi dst der (fun i => l i) kn then bif inB dlo dhi dst der kn (fun i => l i) (w64 (x - (1 : Int))) then (0 : Int) else (4 : Int) else (440 : Int)) == (4 : Int)) = true →
      dV dlo dhi dst der ∧ kn ≤ 1000 ∧ ∀ (i : Nat), i < kn → ∃ b, (fun i x => DV.x (.int .i64 (l i))) i (0 : Nat) = DV.x (.int .i64 b))
    (.ret
      (bv
        ((bif dB dlo dhi dst der (fun i => l i) kn then bif inB dlo dhi dst der kn (fun i => l i) (w64 (x - (1 : Int))) then (0 : Int) else (4 : Int) else (440 : Int)) == (4 : Int) &&
            (bif dB dlo dhi dst der (fun i => l i) kn then bif inB dlo dhi dst der kn (fun i => l i) (w64 (y + (1 : Int))) then (0 : Int) else (4 : Int) else (440 : Int)) == (4 : Int) &&
          true))))

theorem K10_eq (lo wi st er : Int) (n : Nat) (cell : Nat → Nat → DV) (qa qb ka kb dlo dhi dst der : Int) (kn : Nat) (l : Nat → Int) (x y e f : Int) : codeK (sub p10 (t10 lo wi st er n cell qa qb)) (.exit 0) (inv10 ka kb dlo dhi dst der kn l x y e f) = K10 lo wi st er n cell qa qb ka kb dlo dhi dst der kn l x y e f := by kernel_rfl

theorem I10 (lo wi st er : Int) (n : Nat) (cell : Nat → Nat → DV) (ka kb : Int) : ∃ l, l = oL (kS n) (lS lo wi (st % 6) (er % 6) (byteCell cell)) ka kb ∧ in10 (sub p10 (t10 lo wi st er n cell ka kb)) = some (inv10 ka kb (sLo lo) (sHi lo wi) (st % 6) (er % 6) (kS n) l
    (zif (dB (sLo lo) (sHi lo wi) (st % 6) (er % 6) l (kS n)) (dL (sLo lo) (st % 6) (er % 6) l (kS n))) (zif (dB (sLo lo) (sHi lo wi) (st % 6) (er % 6) l (kS n)) (dH (sHi lo wi) (st % 6) (er % 6) l (kS n))) (dE (sLo lo) (sHi lo wi) (st % 6) (er % 6) l (kS n))
    (zif (dB (sLo lo) (sHi lo wi) (st % 6) (er % 6) l (kS n)) (dL (sLo lo) (st % 6) (er % 6) l (kS n)))) := ⟨_, rfl, by kernel_rfl⟩
theorem C10 (lo wi st er : Int) (n : Nat) (cell : Nat → Nat → DV) (ka kb : Int) : codeC (sub p10 (t10 lo wi st er n cell ka kb)) = .loop body10 := by kernel_rfl
theorem N10 (lo wi st er : Int) (n : Nat) (cell : Nat → Nat → DV) (ka kb : Int) : Nat.ble (codeS (sub p10 (t10 lo wi st er n cell ka kb))).next 14 = true := by kernel_rfl

end Go.Proofs.Ytcbjclmjkilphaa

namespace Go.Proofs.Ytcbjclmjkilphaa
open Go.Sx
set_option maxRecDepth 100000

section
variable {lo hi st er last : Int} {L p : Nat → Int} {n k j : Nat}

theorem pth_in (hv : dV lo hi st er) (hb : dB lo hi st er L n = true) (hl : dL lo st er L n ≤ last ∧ last ≤ dH hi st er L n) (hk : k ≤ n) : dL lo st er L k ≤ pth lo hi st er n L last k ∧ pth lo hi st er n L last k ≤ dH hi st er L k := by
  unfold pth
  have hle := dB_le hv (dB_mono hk hb)
  rw [show n + 1 - k = (n - k) + 1 by omega]
  simp only [pw]
  rw [show n - (n - k) = k by omega]
  omega

theorem pth_end (hl : dL lo st er L n ≤ last ∧ last ≤ dH hi st er L n) : pth lo hi st er n L last n = last := by
  unfold pth
  rw [show n + 1 - n = 0 + 1 by omega]
  simp only [pw, Nat.sub_zero]
  omega

theorem pth_k (hk : k < n) : pth lo hi st er n L last k = min (max (pth lo hi st er n L last (k + 1)) (dL lo st er L k)) (dH hi st er L k) := by
  unfold pth
  rw [show n + 1 - k = (n - k) + 1 by omega, show n + 1 - (k + 1) = n - k by omega]
  simp only [pw]
  rw [show n - (n - k) = k by omega]

theorem pth_step (hv : dV lo hi st er) (hb : dB lo hi st er L n = true) (hl : dL lo st er L n ≤ last ∧ last ≤ dH hi st er L n) (hk : k < n) : stepB st er L (pth lo hi st er n L last) k = true := by
  have h1 := pth_in hv hb hl (show k + 1 ≤ n by omega)
  have hb1 := dB_le hv (dB_mono (show k + 1 ≤ n by omega) hb)
  have hb0 := dB_le hv (dB_mono (show k ≤ n by omega) hb)
  have e := pth_k (lo := lo) (hi := hi) (st := st) (er := er) (L := L) (last := last) hk
  have := hv.s; have := hv.e
  have c := cR_b (L k)
  unfold stepB
  rw [e]
  generalize pth lo hi st er n L last (k + 1) = x at *
  simp only [dL, dH, nL, nH] at h1 hb1
  generalize dL lo st er L k = a at *
  generalize dH hi st er L k = b at *
  simp only [Bool.and_eq_true, decide_eq_true_eq]
  unfold cR at *
  omega

theorem pth_all (hv : dV lo hi st er) (hb : dB lo hi st er L n = true) (hl : dL lo st er L n ≤ last ∧ last ≤ dH hi st er L n) : ∀ k, k ≤ n → pthB lo hi st er L (pth lo hi st er n L last) k = true := by
  intro k
  induction k with
  | zero =>
    intro _
    have := pth_in hv hb hl (Nat.zero_le n)
    simp only [dL, dH] at this
    simp only [pthB, Bool.and_eq_true, decide_eq_true_eq]; exact this
  | succ k ih =>
    intro hk
    simp only [pthB, ih (by omega), Bool.true_and]
    exact pth_step hv hb hl hk

theorem pth_pos (hv : dV lo hi st er) (hb : dB lo hi st er L n = true) (hl : dL lo st er L n ≤ last ∧ last ≤ dH hi st er L n) : posB lo hi st er n L (n + 1) (pth lo hi st er n L last) = true := by
  simp only [posB, pth_all hv hb hl n (Nat.le_refl _), decide_true, Bool.and_self]

/-- A possible path with one factor changed by more than two steps is not possible. -/
theorem odd_no (hs : 0 ≤ st) (hp : pthB lo hi st er L p n = true) (hj : j ≤ n) (hn : 0 < n) : posB lo hi st er n L (n + 1) (fun i => bif decide (i = j) then p j + (2 * st + 1) else p i) = false := by
  cases h : posB lo hi st er n L (n + 1) (fun i => bif decide (i = j) then p j + (2 * st + 1) else p i) with
  | false => rfl
  | true =>
    exfalso
    simp only [posB, Bool.and_eq_true] at h
    have h := h.2
    cases j with
    | zero =>
      have h1 := pthB_mono (show 0 + 1 ≤ n by omega) h
      have h2 := pthB_mono (show 0 + 1 ≤ n by omega) hp
      simp only [pthB, Bool.and_eq_true] at h1 h2
      have h1 := stepB_iff.1 h1.2
      have h2 := stepB_iff.1 h2.2
      simp at h1 h2
      omega
    | succ j =>
      have h1 := pthB_mono hj h
      have h2 := pthB_mono hj hp
      simp only [pthB, Bool.and_eq_true] at h1 h2
      have h1 := stepB_iff.1 h1.2
      have h2 := stepB_iff.1 h2.2
      simp at h1 h2
      omega
end

end Go.Proofs.Ytcbjclmjkilphaa

namespace Go.Proofs.Ytcbjclmjkilphaa
open Go.Sx
set_option maxRecDepth 100000

theorem zif_t {b : Bool} {x : Int} (h : b = true) : zif b x = x := by rw [h]; rfl

theorem body10_ok {ka kb d1 d2 d3 d4 f : Int} {kn : Nat} {l : Nat → Int} {Q : Ex × AS → Prop} (hv : dV d1 d2 d3 d4) (hs : d3 ≤ 5) (hk : kn ≤ 12) (hb : dB d1 d2 d3 d4 l kn = true) (hf : dL d1 d3 d4 l kn ≤ f ∧ f ≤ dH d2 d3 d4 l kn) (ha : 0 ≤ ka ∧ ka < 256)
    (hQ : Q (.normal, inv10 ka kb d1 d2 d3 d4 kn l (dL d1 d3 d4 l kn) (dH d2 d3 d4 l kn) 0 (f + 1))) :
    Sat Try.prog (cutT 14 [] [3, 5, 7, 8, 9] drp10 14 .nil (exec Try.prog C9 D9 200 body10 (inv10 ka kb d1 d2 d3 d4 kn l (dL d1 d3 d4 l kn) (dH d2 d3 d4 l kn) 0 f))) Q := by
  refine Sat.of_eq (B10_eq ka kb d1 d2 d3 d4 kn l (dL d1 d3 d4 l kn) (dH d2 d3 d4 l kn) 0 f) ?_
  constructor
  unfold B10
  have hin : inB d1 d2 d3 d4 kn l f = true := by
    unfold inB; simp only [Bool.and_eq_true, decide_eq_true_eq]; exact hf
  have hps := hv.s
  have q1 := dL_b hv (L := l) kn
  have q2 := dH_b hv (L := l) kn
  have hp := pth_all hv hb hf kn (Nat.le_refl _)
  have hpp : posB d1 d2 d3 d4 kn l (kn + 1) (fun i => pth d1 d2 d3 d4 kn l f i) = true := pth_pos hv hb hf
  have e0 : w64 ka = ka := w64_of (by omega) (by omega)
  have e1 : Int.tmod ka ((kn + 1 : Nat) : Int) = ((ka.toNat % (kn + 1) : Nat) : Int) := by
    rw [tmod_lit ha.1]
    have : ka = ((ka.toNat : Nat) : Int) := by omega
    rw [this, Int.natCast_emod]; simp
  have hlt : ka.toNat % (kn + 1) < kn + 1 := Nat.mod_lt _ (by omega)
  have e2 : w64 (((kn + 1 : Nat) : Int) - 1) = (kn : Nat) := by rw [w64_of (by omega) (by omega)]; omega
  have e3 : w64 ((kn : Int) + 1) = ((kn + 1 : Nat) : Int) := by rw [w64_of (by omega) (by omega)]; omega
  have e4 : w64 (w64 (2 * d3) + 1) = 2 * d3 + 1 := by rw [w64_of (n := 2 * d3) (by omega) (by omega), w64_of (by omega) (by omega)]
  have hj := pth_in hv hb hf (show ka.toNat % (kn + 1) ≤ kn by omega)
  have bj1 := dL_b hv (L := l) (ka.toNat % (kn + 1))
  have bj2 := dH_b hv (L := l) (ka.toNat % (kn + 1))
  have e5 : w64 (pth d1 d2 d3 d4 kn l f (ka.toNat % (kn + 1)) + (2 * d3 + 1)) = pth d1 d2 d3 d4 kn l f (ka.toNat % (kn + 1)) + (2 * d3 + 1) := w64_of (by omega) (by omega)
  have e6 : w64 (f + 1) = f + 1 := w64_of (by omega) (by omega)
  have hpb : ∀ i, i < kn + 1 → -4000000000000000000 ≤ pth d1 d2 d3 d4 kn l f i ∧ pth d1 d2 d3 d4 kn l f i ≤ 4000000000000000000 := fun i hi => by
    have := pth_in hv hb hf (show i ≤ kn by omega)
    have b1 := dL_b hv (L := l) i
    have b2 := dH_b hv (L := l) i
    omega
  have hend : pth d1 d2 d3 d4 kn l f kn = f := pth_end hf
  rw [show (intCell fun i (x : Nat) => DV.x (Value.int IntKind.i64 (l i))) = l from rfl]
  have hdrv : dV d1 d2 d3 d4 ∧ kn ≤ 1000 ∧ ∀ i, i < kn → ∃ b, (fun i (x : Nat) => DV.x (.int .i64 (l i))) i 0 = DV.x (.int .i64 b) := ⟨hv, by omega, fun i _ => ⟨_, rfl⟩⟩
  simp only [hb, hin, Bool.true_and, cond_true, Nat.zero_add, Nat.sub_zero, hpp, e0, e1, e2, e3, e4, e5, e6, Int.toNat_natCast, hend, bne_self_eq_false, Bool.not_true, Bool.or_self, Bool.false_or, Bool.or_false]
  refine ⟨fun _ => ⟨hdrv, fun _ => ⟨hv, by omega, by omega, hdrv.2.2, fun i hi => ⟨_, rfl, hpb i hi⟩⟩, fun _ => by omega, fun h => (by cases h), fun _ => ⟨fun h2 => hQ, fun h2 => ?_⟩⟩, fun h => ?_⟩
  rotate_left
  · simp only [decide_eq_false_iff_not] at h; omega
  have hkn : 0 < kn := by simp only [decide_eq_false_iff_not] at h2; omega
  have hno := odd_no (p := pth d1 d2 d3 d4 kn l f) (j := ka.toNat % (kn + 1)) (L := l) hps.1 hp (by omega) hkn
  have hno2 : posB d1 d2 d3 d4 kn l (kn + 1 - 1) (fun i => pth d1 d2 d3 d4 kn l f (1 + i)) = false := by simp [posB]
  refine ⟨⟨by decide, trivial, by omega⟩, ⟨by decide, by decide⟩, by decide, by omega, by omega, by omega, by omega, by omega, by omega, ⟨hv, by omega, by omega, hdrv.2.2, fun i hi => ?_⟩, fun _ => ⟨trivial, by decide, by omega⟩, fun _ => ⟨hv, by omega, by omega, hdrv.2.2, fun i hi => ⟨_, rfl, hpb _ (by have : Int.toNat 1 = 1 := rfl; omega)⟩⟩, fun h => ?_, fun _ => hQ⟩
  · refine ⟨bif decide (i = Int.toNat (Int.tmod (w64 ka) ((kn + 1 : Nat) : Int))) then w64 (pth d1 d2 d3 d4 kn l f (Int.toNat (Int.tmod (w64 ka) ((kn + 1 : Nat) : Int))) + (2 * d3 + 1)) else pth d1 d2 d3 d4 kn l f i, by kernel_rfl, ?_⟩
    simp only [e0, e1, Int.toNat_natCast, e5]
    have h1 := hpb i (by omega)
    cases decide (i = ka.toNat % (kn + 1)) with
    | true => simp only [cond_true]; omega
    | false => simp only [cond_false]; omega
  · rw [Bool.or_eq_true] at h
    rcases h with h | h
    · exact absurd (h.symm.trans hno) (by decide)
    · exact absurd (h.symm.trans hno2) (by decide)

theorem oL_b {n : Nat} {L : Nat → Int} {ka kb : Int} {i : Nat} (hb : 0 ≤ kb ∧ kb < 256) : L i - 16 ≤ oL n L ka kb i ∧ oL n L ka kb i ≤ L i + 16 := by
  unfold oL; split <;> omega

theorem width {d1 d2 d3 d4 : Int} {l : Nat → Int} (hw : d2 - d1 ≤ 10) (h4 : d4 ≤ 5) (k : Nat) : dH d2 d3 d4 l k - dL d1 d3 d4 l k ≤ 10 := by
  cases k with
  | zero => simp only [dL, dH]; omega
  | succ k => simp only [dL, dH, nL, nH]; omega

theorem okK2 {ds : List DV} (h : okT Try.prog 6 74 ds) : ∃ a b, (0 ≤ a ∧ a < 256) ∧ (0 ≤ b ∧ b < 256) ∧ svT Try.prog 74 ds = .agg [u8 a, u8 b] := by
  simp [okT, okAs, Try.underlying74, Try.underlying5] at h
  obtain ⟨_, _, rfl, ⟨a, w1, rfl⟩, b, w2, rfl⟩ := h
  exact ⟨a, b, wf_u8 w1, wf_u8 w2, by simp [svT, Try.underlying74, u8]⟩

theorem law10 {lo wi st er : Int} {n : Nat} {cell : Nat → Nat → DV} {ka kb : Int} (hW : WalkOK lo wi st er (byteCell cell) n) (hc : ∀ i, i < n → ∃ b, cell i 0 = .x (.int .u8 b) ∧ 0 ≤ b ∧ b < 256)
    (ha : 0 ≤ ka ∧ ka < 256) (hb : 0 ≤ kb ∧ kb < 256) : Law9 10 [.agg [u8 lo, u8 wi, u8 st, u8 er, .d (.ro n 1 cell)], .agg [u8 ka, u8 kb]] := by
  refine ⟨⟨.nil, ?_⟩⟩
  show (t10 lo wi st er n cell ka kb).sat Try.prog (· = bv true)
  have hv := hW.dv
  have hk := kS_le n
  have hlen : n ≤ 9223372036854775807 := hW.len
  obtain ⟨lx, hlx, hI⟩ := I10 lo wi st er n cell ka kb
  have hC := C10 lo wi st er n cell ka kb
  have hN := N10 lo wi st er n cell ka kb
  have hK := K10_eq lo wi st er n cell ka kb
  have hL := L10_eq lo wi st er n cell ka kb
  rw [hL]; unfold L10
  have hr := hW.r
  rw [show (intCell fun i (x : Nat) => DV.x (Value.int IntKind.i64 (lS lo wi (st % 6) (er % 6) (byteCell cell) i))) = lS lo wi (st % 6) (er % 6) (byteCell cell) from rfl]
  rw [show (fun i => numOf (cell i 0)) = byteCell cell from rfl]
  rw [show (fun i => lS lo wi (st % 6) (er % 6) (byteCell cell) i) = lS lo wi (st % 6) (er % 6) (byteCell cell) from rfl]
  rw [show (fun i => oL (kS n) (lS lo wi (st % 6) (er % 6) (byteCell cell)) ka kb i) = lx from hlx.symm]
  have hf := hW.f
  have hlo : sLo lo = 1 + lo % 40 := rfl
  have hhi : sHi lo wi = sLo lo + wi % 8 := rfl
  have g1 := hW.l; have g2 := hW.w; have g3 := hW.s; have g4 := hW.e
  have hw := width (d1 := sLo lo) (d2 := sHi lo wi) (d3 := st % 6) (d4 := er % 6) (l := lx) (by omega) (by omega) (kS n)
  have w3 : 0 ≤ st % 6 ∧ st % 6 ≤ 5 := by omega
  have hint : ∀ i, i < kS n → ∃ b, (fun i (x : Nat) => DV.x (.int .i64 (oL (kS n) (lS lo wi (st % 6) (er % 6) (byteCell cell)) ka kb i))) i 0 = DV.x (.int .i64 b) := fun i _ => ⟨_, rfl⟩
  have q1 := dL_b hv (L := lx) (kS n)
  have q2 := dH_b hv (L := lx) (kS n)
  refine ⟨fun h => (by cases h), fun _ => ⟨⟨g1, g2, g3, g4, hlen, hc⟩, ⟨by omega, ha, hb, fun i hi => ⟨_, rfl⟩, fun i hi => ⟨_, rfl, ?_⟩⟩, ⟨hv, by omega, hint⟩, fun h => ⟨⟨hv, by omega, hint⟩, ?_⟩, fun h => ?_⟩⟩
  · have := hr i (by omega); omega
  · cases hb2 : dB (sLo lo) (sHi lo wi) (st % 6) (er % 6) lx (kS n) with
    | true => simp [dE, hb2] at h
    | false => simp [dE, hb2, Tree.sat]
  have hbt : dB (sLo lo) (sHi lo wi) (st % 6) (er % 6) lx (kS n) = true := by
    cases hb2 : dB (sLo lo) (sHi lo wi) (st % 6) (er % 6) lx (kS n) with
    | true => rfl
    | false => simp [dE, hb2] at h
  have hde : dE (sLo lo) (sHi lo wi) (st % 6) (er % 6) lx (kS n) = 0 := by simp [dE, hbt]
  rw [hde, zif_t hbt, zif_t hbt] at hI
  rw [zif_t hbt, zif_t hbt]
  have hle := dB_le hv hbt
  have hww : w64 (dH (sHi lo wi) (st % 6) (er % 6) lx (kS n) - dL (sLo lo) (st % 6) (er % 6) lx (kS n)) = dH (sHi lo wi) (st % 6) (er % 6) lx (kS n) - dL (sLo lo) (st % 6) (er % 6) lx (kS n) := w64_of (by omega) (by omega)
  refine ⟨fun h => ?_, fun _ => ?_⟩
  · simp only [hww, decide_eq_true_eq] at h; omega
  generalize sLo lo = d1 at *
  generalize sHi lo wi = d2 at *
  generalize st % 6 = d3 at *
  generalize er % 6 = d4 at *
  generalize kS n = kn at *
  refine code_satS C9_ok D9_ok (n := 200) (n0 := 14) (nx := 14) (roots := []) (keep := [3, 5, 7, 8, 9]) (drop := drp10) (h := .nil) hC hN
    (fun m s => ∃ f : Int, m = (dH d2 d3 d4 lx kn + 1 - f).toNat ∧ dL d1 d3 d4 lx kn ≤ f ∧ f ≤ dH d2 d3 d4 lx kn + 1 ∧ s = inv10 ka kb d1 d2 d3 d4 kn lx (dL d1 d3 d4 lx kn) (dH d2 d3 d4 lx kn) 0 f)
    (fun e s => e = .exit 0 ∧ ∃ f, s = inv10 ka kb d1 d2 d3 d4 kn lx (dL d1 d3 d4 lx kn) (dH d2 d3 d4 lx kn) 0 f)
    ⟨_, _, ⟨_, rfl, by omega, by omega, rfl⟩, entA_sound hI⟩ ?_ ?_
  · rintro m s ⟨f, rfl, f1, f2, rfl⟩
    by_cases hff : f ≤ dH d2 d3 d4 lx kn
    · exact body10_ok hv w3.2 hk hbt ⟨f1, hff⟩ ha ⟨(dH d2 d3 d4 lx kn + 1 - (f + 1)).toNat, _, by omega, ⟨f + 1, rfl, by omega, by omega, rfl⟩, Gc.refl _ _⟩
    · refine Sat.of_eq (B10_eq ka kb d1 d2 d3 d4 kn lx (dL d1 d3 d4 lx kn) (dH d2 d3 d4 lx kn) 0 f) ?_
      constructor
      unfold B10
      refine ⟨fun h => ?_, fun h => ⟨_, ⟨rfl, f, rfl⟩, Gc.refl _ _⟩⟩
      simp only [decide_eq_true_eq] at h; omega
  · rintro e s ⟨rfl, f, rfl⟩
    refine Sat.of_eq (hK _ _ _ _ _ _ _ _ _ _ _ f) ?_
    constructor
    unfold K10
    have v1 : w64 (dL d1 d3 d4 lx kn - 1) = dL d1 d3 d4 lx kn - 1 := w64_of (by omega) (by omega)
    have v2 : w64 (dH d2 d3 d4 lx kn + 1) = dH d2 d3 d4 lx kn + 1 := w64_of (by omega) (by omega)
    have i1 : inB d1 d2 d3 d4 kn lx (dL d1 d3 d4 lx kn - 1) = false := by
      unfold inB; simp only [Bool.and_eq_false_iff, decide_eq_false_iff_not]; omega
    have i2 : inB d1 d2 d3 d4 kn lx (dH d2 d3 d4 lx kn + 1) = false := by
      unfold inB; simp only [Bool.and_eq_false_iff, decide_eq_false_iff_not]; omega
    simp only [v1, v2, hbt, i1, i2, cond_true, cond_false]
    exact ⟨⟨hv, by omega, fun i _ => ⟨_, rfl⟩⟩, fun _ => ⟨hv, by omega, fun i _ => ⟨_, rfl⟩⟩, rfl⟩

theorem f10dS : (Try.prog.funcs[10]?).isSome = true := by kernel_rfl
theorem f10dB : (fnOf Try.prog 10).body.isSome = true := by kernel_rfl
theorem driftPaths_ok : ∃ c : Ctr, CtrOK Try.prog 10 c ∧ ∀ ss, okArgs Try.prog 6 [24, 74] ss → (c ss).ev (bv true) := by
  refine law_ctr9 f10dS f10dB fun ss h => ?_
  obtain ⟨ds, _, rfl, h1, ds2, _, rfl, h2, rfl⟩ := h
  obtain ⟨lo, wi, st, er, n, cell, g1, g2, g3, g4, g5, g6, e⟩ := okRaw44 h1
  obtain ⟨a, b, k1, k2, e2⟩ := okK2 h2
  rw [e, e2]
  refine law10 ⟨g1, g2, g3, g4, g5, fun i hi => ?_⟩ g6 k1 k2
  obtain ⟨b, e2, h2⟩ := g6 i hi
  simpa [byteCell, e2, numOf] using h2

end Go.Proofs.Ytcbjclmjkilphaa

namespace Go.Proofs.Ytcbjclmjkilphaa
open Go.ChangeShapes Go.WideShapes Go.ChangeAt Go.RowKit Go.Sx

theorem own : ownKnob Try.prog.godebug = none := by kernel_rfl
theorem laidOut : laidOutB Try.prog = true := by kernel_rfl

set_option maxRecDepth 100000 in
theorem lifted (os : Os) (started : os.Started) (H : Type) (enc : TypeId × Value → H) :
    ReturnsInHanded {} Try.checked os 10 .any (Rows.driftPathsSpec.pre6 enc Try.prog Try.f10 Rows.driftPathsRow.domain false) (Rows.driftPathsSpec.post enc Try.prog Try.f10 false true false false) := by
  refine returnsInHanded_of_change (C := Try.checked) own started (by kernel_rfl) Try.func10
    (ChangeSpec.witness6 (enc := enc) (C := Try.checked) false ⟨#[], #[.agg #[.int .u8 0, .int .u8 0, .int .u8 0, .int .u8 0, .slice none 0 0], .agg #[.int .u8 0, .int .u8 0]], []⟩ 8 (by kernel_rfl) (by kernel_rfl) (by kernel_rfl) (by kernel_rfl)) ?_
  intro W base args ds gs before hval0 hW hcnd _
  have hval : ∀ (j : Nat) t v, Try.f10.params[j]? = some t → args[j]? = some v → Value.okWide Try.prog W .any base t v := hval0
  have hW' := hW
  obtain ⟨p, q, hA0, hV, rfl, hfz, hnd⟩ := hW
  have hA : DataW.TrodAll enc Try.prog W 0 (fun _ => true) true Try.f10.params.toList args.toList ds p := hA0
  rw [Try.params10] at hA hval
  obtain ⟨rfl, rfl⟩ := trodVars_none hV
  obtain ⟨v0, vs0, d0, ds0, p0, q0, hargs, rfl, e0, h0, r0⟩ := trodAll_cons hA
  obtain ⟨v1, vs1, d1, ds1, p1, q1, e1_1, rfl, e2_1, h1, r1⟩ := trodAll_cons r0
  obtain ⟨e3, rfl, e4⟩ := trodAll_nil r1
  obtain ⟨c, hc, hev⟩ := driftPaths_ok
  have hlt := trodAll_lt hA
  obtain ⟨ss, o1, o2, o3⟩ := open_args (F := fun b => ∃ x ∈ p, x.block = b) (n := 6) (r := .any) (base := base) (by kernel_rfl) hA (fun j t v a b => hval j t v (by simpa using a) (by simpa using b)) (fun q hq => ⟨q, hq, rfl⟩)
  refine (law_of hc (F := fun b => ∃ x ∈ p, x.block = b) (fun b ⟨x, hx, e⟩ => e ▸ hlt x hx) (ss := ss) ⟨by simpa using o2, fun i hi => by simpa [List.getD, Array.getD_eq_getD_getElem?] using o3 i hi⟩ (hev ss o1)).mono fun e W' ⟨he, bel⟩ => ?_
  subst he
  have hback := trodAll_below laidOut bel (by kernel_rfl) hA
  exact ⟨_, rfl, _, _, _, [], _, [], hW', trodAll_mk1 (shut_bool Try.underlying4 _), hback, rfl, bel.frame _, fun h => by cases h⟩

theorem over : Rows.driftPathsRow.holds Try.pinned (OpenSpec.ofChange Rows.driftPathsSpec) :=
  OpenClaim.holds_of_wide 10 Try.f10 rfl rfl rfl rfl rfl rfl rfl ⟨rfl, rfl, rfl, rfl, rfl⟩ rfl rfl rfl rfl rfl (by kernel_rfl) Try.func10 (by kernel_rfl)
    (of_decide_eq_true (by kernel_rfl)) (by unfold Func.isWrapper; first | (rw [if_pos (by decide +kernel)]; kernel_rfl) | (rw [if_neg (by decide +kernel)]; exact ⟨rfl, rfl⟩))
    (fun os started H enc _ => lifted os started H enc)

theorem driftPaths_holds : Rows.DriftPathsSaid := over
#print axioms driftPaths_holds
end Go.Proofs.Ytcbjclmjkilphaa

