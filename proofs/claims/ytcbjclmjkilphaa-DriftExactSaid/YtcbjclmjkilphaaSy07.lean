/- Part of a proof of the given statements of this seat (SxMdK, SxMdX, SxMdY, SxMdZ, SxMdZa, SxMdEx, SxMdQ, SxMdDa, SxMdDf, SxMdEa, SxMdEb): no conditions beyond those typed here. -/
import Derived.Test.YtcbjclmjkilphaaSy04
import Derived.Test.YtcbjclmjkilphaaSy06
import Derived.RangeFuncBox
import Derived.WalkKit
import Derived.OwnWalkIn
import Derived.TacticsInMore
import Derived.LoopNIn
import Derived.LoopIn
import Derived.Test.YtcbjclmjkilphaaSy05
import Derived.Shelf.Abstract
set_option linter.unusedVariables false
set_option linter.unusedSimpArgs false

namespace Go.Proofs.Ytcbjclmjkilphaa
open Go.Sx Go.RowKit
set_option maxRecDepth 100000
attribute [local go_sem] Oper.semAt_some

noncomputable def bkEl (N : Nat) (cell : Nat → Nat → DV) (k : Nat) : List SV := [iv ((N : Int) - 1 - k), .agg [.d (cell (N - 1 - k) 0), .d (cell (N - 1 - k) 1)]]

set_option maxHeartbeats 2000000 in
/-- slices.Backward's closure. -/
theorem bk_in (l B O N : Nat) (sv : Value) (hN : N ≤ 2000) (f : Nat → Nat → Value) (W0 : World) (F : Nat → Prop) (J : Nat → World → Prop) (W : World)
    (hJe : ∀ k W, J k W → Ext F W0 W) (hB : F B) (hBs : W0.cell? ⟨B, O, none⟩ = some sv)
    (hsv : (N = 0 ∧ (sv = .slice none 0 0 ∨ ∃ a cap, sv = .slice (some a) 0 cap)) ∨ ∃ b o cap, sv = .slice (some ⟨b, o, none⟩) N cap ∧ N ≠ 0 ∧ F b ∧ ∀ i j, i < N → j < 2 → W0.cell? ⟨b, o + (i * 2 + j), none⟩ = some (f i j))
    (hY : ∀ k W1, k < N → J k W1 → YieldAt Fence.wide 0 Try.prog l #[.int .i64 ((N : Int) - 1 - k), .agg #[f (N - 1 - k) 0, f (N - 1 - k) 1]] W1 fun e W' => e = .returned (.bool true) ∧ J (k + 1) W')
    (h0 : J 0 W) : CallsIn Fence.wide 0 Try.prog 76 #[.func (.yield l) #[] #[], .pointer (some ⟨B, O, none⟩)] W fun e W' => (∃ v, e = .returned v) ∧ J N W' := by
  have hl : ∃ a cap, sv = .slice a N cap := by
    rcases hsv with ⟨rfl, rfl | ⟨a, cap, rfl⟩⟩ | ⟨b, o, cap, rfl, _⟩ <;> exact ⟨_, _, rfl⟩
  have hbox : ∀ k W1, J k W1 → W1.cell? ⟨B, O, none⟩ = some sv := fun k W1 h => ((hJe k W1 h).cell hB).trans hBs
  refine callsIn_of_wp Try.func76 rfl trivial ?_ rfl
  obtain ⟨a, cap, rfl⟩ := hl
  have hb0 := hbox 0 W h0
  simp only [Try.ntmps76, List.size_toArray, List.length_cons, List.length_nil, Nat.reduceAdd, Nat.reduceSub, Array.replicate_succ, Array.replicate_zero, List.push_toArray, List.append_toArray, List.nil_append, List.cons_append]
  gi_wp2
  gi_loopw [3] (fun i wr => ∃ k : Nat, k ≤ N ∧ i = .int .i64 ((N : Int) - 1 - k) ∧ J k wr) (fun i _ => (intOf i + 1).toNat)
  case atStart => 
    refine ⟨0, Nat.zero_le _, ?_, h0⟩
    simp
  case round =>
    obtain ⟨k, hk, rfl, hJs⟩ := hrel
    have hbk := hbox k wr hJs
    by_cases hlt : k < N
    · rcases hsv with ⟨h, _⟩ | ⟨b, o, cap', hsv, hN0, hb, hc⟩
      · omega
      cases hsv
      obtain ⟨fn, tmps, assign, body, hy, hR⟩ := hY k wr hlt hJs
      have hc0 : wr.cell? ⟨b, o + (N - 1 - k) * 2, none⟩ = some (f (N - 1 - k) 0) := ((hJe k wr hJs).cell hb).trans (hc (N - 1 - k) 0 (by omega) (by omega))
      have hc1 : wr.cell? ⟨b, o + (N - 1 - k) * 2 + 1, none⟩ = some (f (N - 1 - k) 1) := ((hJe k wr hJs).cell hb).trans (hc (N - 1 - k) 1 (by omega) (by omega))
      have e1 : (N : Int) - 1 - k = ((N - 1 - k : Nat) : Int) := by omega
      rw [e1] at hy ⊢
      gi_wp2
      refine ⟨rfl, hR.mono ?_⟩
      rintro e W3 ⟨rfl, hJ3⟩
      gi_wp2
      go_roundw
      case rel => exact ⟨k + 1, by omega, by simp <;> omega, hJ3⟩
      case measure => simp [intOf] <;> omega
    · obtain rfl : k = N := by omega
      gi_wp2
      go_end0
      exact ⟨⟨_, rfl⟩, hJs⟩

theorem bk_iter (N : Nat) (cell : Nat → Nat → DV) (hN : N ≤ 2000) (c : Nat → DV) (hc0 : c 0 = .ro N 2 cell) : IterOK Try.prog 76 [.rop 1 c] N (bkEl N cell) := by
  rintro W0 F vs hF ⟨h1, h2⟩
  have hv := h2 0 (by simp)
  obtain ⟨v, rfl⟩ : ∃ v, vs = #[v] := by
    refine ⟨vs.getD 0 undef, ?_⟩
    apply Array.ext
    · simpa using h1
    · intro i hi _
      have : i = 0 := by simp at h1; omega
      subst this
      simp [Array.getD, hi]
  simp only [List.getD_cons_zero] at hv
  have hv : Rep W0 emp F v (.rop 1 c) := by simpa [Array.getD] using hv
  cases hv with
  | rop b o _ _ f hb hcell hone hrep =>
    have hbox := hcell 0 (by omega)
    have hsv := hrep 0 (by omega)
    rw [hc0] at hsv
    have hB := hb (by omega)
    generalize f 0 = sv at hbox hsv
    have key : ∃ g : Nat → Nat → Value, ((N = 0 ∧ (sv = .slice none 0 0 ∨ ∃ a cap, sv = .slice (some a) 0 cap)) ∨ ∃ b o cap, sv = .slice (some ⟨b, o, none⟩) N cap ∧ N ≠ 0 ∧ F b ∧ ∀ i j, i < N → j < 2 → W0.cell? ⟨b, o + (i * 2 + j), none⟩ = some (g i j)) ∧ ∀ i j, i < N → j < 2 → RepD W0 F (g i j) (cell i j) := by
      cases hsv with
      | nil => exact ⟨fun _ _ => undef, .inl ⟨rfl, .inl rfl⟩, fun i j hi => by omega⟩
      | z a cap => exact ⟨fun _ _ => undef, .inl ⟨rfl, .inr ⟨a, cap, rfl⟩⟩, fun i j hi => by omega⟩
      | ro b o _ cap _ _ g hF' hcap hcell hone hrep =>
        by_cases h0 : N = 0
        · subst h0; exact ⟨g, .inl ⟨rfl, .inr ⟨_, cap, rfl⟩⟩, hrep⟩
        · exact ⟨g, .inr ⟨b, o, cap, rfl, h0, hF' h0, hcell⟩, hrep⟩
    obtain ⟨g, k1, k2⟩ := key
    refine ⟨fun k => #[.int .i64 ((N : Int) - 1 - k), .agg #[g (N - 1 - k) 0, g (N - 1 - k) 1]], fun k hk => ⟨rfl, fun i hi => ?_⟩, fun l J W hJe _ hY h0 => ?_⟩
    · match i, hi with
      | 0, _ => exact .d (.x _)
      | 1, _ =>
        refine .agg _ _ rfl fun i hi => ?_
        match i, hi with
        | 0, _ => exact .d (k2 _ _ (by omega) (by omega))
        | 1, _ => exact .d (k2 _ _ (by omega) (by omega))
    · exact bk_in l b o N sv hN g W0 F J W hJe hB hbox k1 hY h0

end Go.Proofs.Ytcbjclmjkilphaa

namespace Go.Proofs.Ytcbjclmjkilphaa
open Go.Sx
set_option maxRecDepth 100000

/-! ### drift.Path -/

noncomputable def inl7 : FuncId → Bool := fun k => k == 58
noncomputable def C7x : Ctx := ctxN Try.prog man4 inl7 200 .nil 4
theorem C7x_ok : CtxOK Try.prog C7x := ctxN_ok mixed (fun k c h => by
  unfold man4 at h
  split at h
  · rename_i e; cases h; subst e; exact ⟨cSpans_ok, by kernel_rfl⟩
  · cases h) 4
noncomputable def D7x : Dr := fun _ => drawn Try.prog C7x
theorem D7x_ok : DrOK Try.prog C7x D7x := drawn_ok C7x_ok mixed

noncomputable def tPa (lo hi st er : Int) (n : Nat) (L : Nat → Int) (last : Int) : Tree SV := fnT Try.prog C7x D7x 200 (fnOf Try.prog 31) (bodyOf Try.prog 31) [iv lo, iv hi, iv st, iv er, ro64 n L, iv last] .nil

noncomputable def LPa (lo hi st er : Int) (n : Nat) (L : Nat → Int) (last : Int) : Tree SV :=
  .need (dV lo hi st er ∧ n ≤ 1000 ∧ ∀ (i : Nat), i < n → ∃ b, (fun i x => DV.x (.int .i64 (L i))) i (0 : Nat) = DV.x (.int .i64 b))
  (.ite (dE lo hi st er (fun i => intOf1 (DV.x (.int .i64 (L i)))) n != (0 : Int))
    (.ret (.tup [.d (DV.x (.slice none 0 0)), iv (dE lo hi st er (fun i => intOf1 (DV.x (.int .i64 (L i)))) n)]))
    (.need
      ((0 : Int) ≤ w64 ((↑(dCnt lo hi st er (fun i => intOf1 (DV.x (.int .i64 (L i)))) n + 1) : Int) - (1 : Int)) ∧
        w64 ((↑(dCnt lo hi st er (fun i => intOf1 (DV.x (.int .i64 (L i)))) n + 1) : Int) - (1 : Int)) < (↑(dCnt lo hi st er (fun i => intOf1 (DV.x (.int .i64 (L i)))) n + 1) : Int))
      (.need ((0 : Int) ≤ (0 : Int) ∧ (0 : Int) < (2 : Int))
        (.need (0 < 2)
          (.need
            (decide (last < dL lo st er (fun i => intOf1 (DV.x (.int .i64 (L i)))) (Int.toNat (w64 ((↑(dCnt lo hi st er (fun i => intOf1 (DV.x (.int .i64 (L i)))) n + 1) : Int) - (1 : Int))))) = false →
              (0 : Int) ≤ (1 : Int) ∧ (1 : Int) < (2 : Int))
            (.need
              (decide (last < dL lo st er (fun i => intOf1 (DV.x (.int .i64 (L i)))) (Int.toNat (w64 ((↑(dCnt lo hi st er (fun i => intOf1 (DV.x (.int .i64 (L i)))) n + 1) : Int) - (1 : Int))))) = false →
                1 < 2)
              (.ite
                (decide (last < dL lo st er (fun i => intOf1 (DV.x (.int .i64 (L i)))) (Int.toNat (w64 ((↑(dCnt lo hi st er (fun i => intOf1 (DV.x (.int .i64 (L i)))) n + 1) : Int) - (1 : Int))))) ||
                  decide (last > dH hi st er (fun i => intOf1 (DV.x (.int .i64 (L i)))) (Int.toNat (w64 ((↑(dCnt lo hi st er (fun i => intOf1 (DV.x (.int .i64 (L i)))) n + 1) : Int) - (1 : Int))))))
                (.ret (.tup [.d (DV.x (.slice none 0 0)), iv (4 : Int)]))
                (.need
                  ((0 : Int) ≤ (↑(dCnt lo hi st er (fun i => intOf1 (DV.x (.int .i64 (L i)))) n + 1) : Int) ∧
                    (↑(dCnt lo hi st er (fun i => intOf1 (DV.x (.int .i64 (L i)))) n + 1) : Int) ≤ (↑(dCnt lo hi st er (fun i => intOf1 (DV.x (.int .i64 (L i)))) n + 1) : Int) ∧
                      (↑(dCnt lo hi st er (fun i => intOf1 (DV.x (.int .i64 (L i)))) n + 1) : Int) * (8 : Int) ≤ (140737488355328 : Int))
                  (.code (codeC (sub [(0 : Nat), (1 : Nat), (0 : Nat), (0 : Nat), (0 : Nat), (0 : Nat), (0 : Nat), (1 : Nat), (0 : Nat)] (tPa lo hi st er n L last)))
                    (codeS (sub [(0 : Nat), (1 : Nat), (0 : Nat), (0 : Nat), (0 : Nat), (0 : Nat), (0 : Nat), (1 : Nat), (0 : Nat)] (tPa lo hi st er n L last)))
                    (codeK (sub [(0 : Nat), (1 : Nat), (0 : Nat), (0 : Nat), (0 : Nat), (0 : Nat), (0 : Nat), (1 : Nat), (0 : Nat)] (tPa lo hi st er n L last))))))))))))

theorem LPa_eq (lo hi st er : Int) (n : Nat) (L : Nat → Int) (last : Int) : tPa lo hi st er n L last = LPa lo hi st er n L last := by kernel_rfl

noncomputable def subPa (lo hi st er : Int) (n : Nat) (L : Nat → Int) (last : Int) : Tree SV := sub [0, 1, 0, 0, 0, 0, 0, 1, 0] (tPa lo hi st er n L last)
noncomputable def TMPa : List TV := List.replicate 11 .unk ++ [.ok (.ptr 0 0)] ++ List.replicate 6 .unk ++ [.ok (.ptr 6 0)] ++ List.replicate 50 .unk
noncomputable def invPa (x : Int) (m : Nat) (c : Nat → Int) : AS :=
  ⟨List.replicate 69 .unk, [some (.cells [iv x]), none, none, none, none, some (row64 m c), some (.cells [.row 5 0 0 m 1]), none, none], 9, .nil⟩
noncomputable def aPa : Code := rgA (rangeN (bodyOf Try.prog 31) 0)
noncomputable def bPa : Code := rgB (rangeN (bodyOf Try.prog 31) 0)
noncomputable def rPa (i a b x : Int) (m : Nat) (c : Nat → Int) : Tree (Ex × AS) := roundT Try.prog C7x D7x 200 9 [] [1, 2, 3, 4, 7, 8] 9 .nil aPa bPa ⟨parTm [55, 56] [iv i, .agg [iv a, iv b]] TMPa, (invPa x m c).hp, 9, .nil⟩
noncomputable def BPa (i a b x : Int) (m : Nat) (c : Nat → Int) : Tree (Ex × AS) :=
  .need ((0 : Int) ≤ (0 : Int) ∧ (0 : Int) < (2 : Int))
  (.need (0 < 2)
    (.need ((0 : Int) ≤ (1 : Int) ∧ (1 : Int) < (2 : Int))
      (.need (1 < 2)
        (.need ((0 : Int) ≤ i ∧ i < (↑m : Int))
          (.need (0 + Int.toNat i < m)
            (.ret
              (.normal,
                {
                  tm :=
                    [.unk, .unk, .unk, .unk, .unk, .unk, .unk, .unk, .unk, .unk, .unk, .unk, .unk, .unk, .unk, .unk, .unk, .unk, .unk, .unk, .unk, .unk, .unk, .unk, .unk, .unk, .unk,
                      .unk, .unk, .unk, .unk, .unk, .unk, .unk, .unk, .unk, .unk, .unk, .unk, .unk, .unk, .unk, .unk, .unk, .unk, .unk, .unk, .unk, .unk, .unk, .unk, .unk, .unk, .unk,
                      .unk, .unk, .unk, .unk, .unk, .unk, .unk, .unk, .unk, .unk, .unk, .unk, .unk, .unk, .unk],
                  hp :=
                    [some (.cells [iv (if b < if a > x then a else x then b else if a > x then a else x)]), none, none, none, none,
                      some
                        (.row m 1 fun a_1 b_1 =>
                          if 0 ≤ b_1 ∧ b_1 < 1 then
                            selD (decide (a_1 = 0 + Int.toNat i))
                              (match [DV.x (.int .i64 (if b < if a > x then a else x then b else if a > x then a else x))][b_1 - 0]? with
                              | some x => x
                              | none => DV.x (.tuple { toList := [] }))
                              (DV.x (.int .i64 (c a_1)))
                          else DV.x (.int .i64 (c a_1))),
                      some (.cells [.row 5 0 0 m 1]), none, none],
                  next := 9, hint := .nil })))))))

theorem BPa_eq (i a b x : Int) (m : Nat) (c : Nat → Int) : rPa i a b x m c = BPa i a b x m c := by kernel_rfl

noncomputable def inPa (t : Tree SV) : Option AS := entR 9 [8] [] [1, 2, 3, 4, 7, 8] 9 .nil t
noncomputable def IPa (lo hi st er : Int) (n : Nat) (L : Nat → Int) (last : Int) : Option AS :=
  some
  {
    tm :=
      [.unk, .unk, .unk, .unk, .unk, .unk, .unk, .unk, .unk, .unk, .unk, .unk, .unk, .unk, .unk, .unk, .unk, .unk, .unk, .unk, .unk, .unk, .unk, .unk, .unk, .unk, .unk, .unk, .unk,
        .unk, .unk, .unk, .unk, .unk, .unk, .unk, .unk, .unk, .unk, .unk, .unk, .unk, .unk, .unk, .unk, .unk, .unk, .unk, .unk, .unk, .unk, .unk, .unk, .unk, .unk, .unk, .unk, .unk,
        .unk, .unk, .unk, .unk, .unk, .unk, .unk, .unk, .unk, .unk, .unk],
    hp :=
      [some (.cells [iv last]), none, none, none, none,
        some
          (.row (Int.toNat (↑(dCnt lo hi st er (fun i => intOf1 (DV.x (.int .i64 (L i)))) n + 1) : Int)) 1 fun x j =>
            match [DV.x (.int .i64 (0 : Int))][j]? with
            | some x => x
            | none => DV.x (.tuple { toList := [] })),
        some (.cells [.row 5 0 0 (Int.toNat (↑(dCnt lo hi st er (fun i => intOf1 (DV.x (.int .i64 (L i)))) n + 1) : Int)) 1]), none, none],
    next := 9, hint := .nil }

theorem IPa_eq (lo hi st er : Int) (n : Nat) (L : Nat → Int) (last : Int) : inPa (subPa lo hi st er n L last) = IPa lo hi st er n L last := by kernel_rfl

noncomputable def KPa (lo hi st er : Int) (n : Nat) (L : Nat → Int) (last x : Int) (m : Nat) (c : Nat → Int) : Tree SV :=
  .need (0 + m ≤ m) (.ret (.tup [.d (DV.ro m 1 fun i j => DV.x (.int .i64 (c ((0 : Nat) + i)))), iv (0 : Int)]))

theorem KPa_eq (lo hi st er : Int) (n : Nat) (L : Nat → Int) (last x : Int) (m : Nat) (c : Nat → Int) : codeK (subPa lo hi st er n L last) .normal ⟨TMPa, (invPa x m c).hp, 9, .nil⟩ = KPa lo hi st er n L last x m c := by kernel_rfl

theorem cPa (lo hi st er : Int) (n : Nat) (L : Nat → Int) (last : Int) : codeC (subPa lo hi st er n L last) = .rangeFunc (.tmp 54) #[55, 56] aPa bPa := by kernel_rfl
theorem nPa (lo hi st er : Int) (n : Nat) (L : Nat → Int) (last : Int) : Nat.ble (codeS (subPa lo hi st er n L last)).next 9 = true := by kernel_rfl
theorem gPa (lo hi st er : Int) (n : Nat) (L : Nat → Int) (last : Int) : tvStrict none (tget (codeS (subPa lo hi st er n L last)).tm 54) = some (.fn (.func 76) [] [.ptr 8 0]) := by kernel_rfl
theorem vPa (lo hi st er : Int) (n : Nat) (L : Nat → Int) (last : Int) : capV (codeS (subPa lo hi st er n L last)).hp [.ptr 8 0] = some ([.rop 1 fun j => [DV.ro (dCnt lo hi st er L n + 1) 2 (scell (dL lo st er L) (dH hi st er L))].getD j (.x undef)], [8]) := by kernel_rfl
theorem tPaK (lo hi st er : Int) (n : Nat) (L : Nat → Int) (last : Int) : keepTm [11, 18] 0 (codeS (subPa lo hi st er n L last)).tm = TMPa := by kernel_rfl
theorem naPa : noRange aPa = true := by kernel_rfl
theorem nbPa : noRange bPa = true := by kernel_rfl

end Go.Proofs.Ytcbjclmjkilphaa

namespace Go.Proofs.Ytcbjclmjkilphaa
open Go.Sx
set_option maxRecDepth 100000
variable {lo hi st er last : Int} {L : Nat → Int} {n k : Nat}

/-! ### drift.Path -/

/-- The path from its end: what it is behind k rounds. -/
def pw (lo hi st er : Int) (n : Nat) (L : Nat → Int) (last : Int) : Nat → Int
  | 0 => last
  | k + 1 => min (max (pw lo hi st er n L last k) (dL lo st er L (n - k))) (dH hi st er L (n - k))
/-- The path. -/
def pth (lo hi st er : Int) (n : Nat) (L : Nat → Int) (last : Int) (i : Nat) : Int := pw lo hi st er n L last (n + 1 - i)
def cP (lo hi st er : Int) (n : Nat) (L : Nat → Int) (last : Int) (k i : Nat) : Int := if n + 1 - k ≤ i then pth lo hi st er n L last i else 0

theorem invPa_gc {x : Int} {m : Nat} {c' : Nat → Nat → DV} {c : Nat → Int} (h : ∀ i j, i < m → j < 1 → c' i j = xi (c i)) :
    Gc 9 ⟨List.replicate 69 .unk, [some (.cells [iv x]), none, none, none, none, some (.row m 1 c'), some (.cells [.row 5 0 0 m 1]), none, none], 9, .nil⟩ (invPa x m c) := by
  refine gc_sound [] [] rfl ?_ ?_
  · simp [invPa, leTm, leTV, List.replicate]
  · simp [invPa, leHp, leBlk, leSVs, leSV, rn, iv, leD, srcOf, hget, row64]
    exact fun i hi => h i 0 hi (by decide)

noncomputable def paT (lo hi st er : Int) (n : Nat) (L : Nat → Int) (last : Int) : Tr SV :=
  .ite (dB lo hi st er L n) (.ite (decide (dL lo st er L n ≤ last) && decide (last ≤ dH hi st er L n)) (.ret (.tup [.d (.ro (n + 1) 1 fun i _ => xi (pth lo hi st er n L last i)), iv 0])) (.ret (.tup [.d (.x (.slice none 0 0)), iv 4]))) (.ret (.tup [.d (.x (.slice none 0 0)), iv 440]))

theorem pa_sat (hv : dV lo hi st er) (hn : n ≤ 1000) {r : SV} (hr : (paT lo hi st er n L last).ev r) : Sat Try.prog (tPa lo hi st er n L last) (· = r) := by
  constructor
  rw [LPa_eq]; unfold LPa
  rw [show (fun i => intOf1 (DV.x (Value.int IntKind.i64 (L i)))) = L from rfl]
  refine ⟨⟨hv, hn, fun i hi => ⟨_, rfl⟩⟩, fun hc => ?_, fun hc => ?_⟩
  · have hb : dB lo hi st er L n = false := by
      cases h : dB lo hi st er L n with
      | false => rfl
      | true => simp [dE, h] at hc
    simp only [paT, hb, Tr.ev, Bool.false_eq_true, false_and, false_or, true_and] at hr
    subst hr
    simp only [Tree.sat, dE, hb, cond_false]
  have hb : dB lo hi st er L n = true := by
    cases h : dB lo hi st er L n with
    | true => rfl
    | false => simp [dE, h] at hc
  simp only [paT, hb, Tr.ev, Bool.true_eq_false, false_and, or_false, true_and] at hr
  rw [dCnt_all hb]
  have e : w64 (((n + 1 : Nat) : Int) - 1) = n := by rw [w64_of (by omega) (by omega)]; omega
  rw [e]
  simp only [Int.toNat_natCast]
  refine ⟨by omega, by decide, by decide, fun _ => by decide, fun _ => by decide, fun hc => ?_, fun hc => ?_⟩
  · have : (decide (dL lo st er L n ≤ last) && decide (last ≤ dH hi st er L n)) = false := by
      simp at hc ⊢; omega
    simp only [this, Bool.false_eq_true, false_and, false_or, true_and] at hr
    subst hr
    rfl
  have hin : (decide (dL lo st er L n ≤ last) && decide (last ≤ dH hi st er L n)) = true := by
    simp at hc ⊢; omega
  simp only [hin, Bool.true_eq_false, false_and, or_false, true_and] at hr
  subst hr
  refine ⟨by omega, ?_⟩
  have hv1 := vPa lo hi st er n L last
  rw [dCnt_all hb] at hv1
  refine range_satS C7x_ok D7x_ok (n := 200) (n0 := 9) (nx := 9) (roots := []) (drop := [1, 2, 3, 4, 7, 8]) (keep := [11, 18]) (h := .nil) (h' := .nil) (N := n + 1) (cPa lo hi st er n L last) (nPa lo hi st er n L last) (gPa lo hi st er n L last) hv1
    (bk_iter (n + 1) (scell (dL lo st er L) (dH hi st er L)) (by omega) _ rfl) (fun k hk => rfl) (enters_of Try.func76 (by kernel_rfl) rfl) naPa nbPa (tPaK lo hi st er n L last)
    (fun k s => s = invPa (pw lo hi st er n L last k) (n + 1) (cP lo hi st er n L last k)) ⟨_, rfl, ?_⟩ ?_ ?_
  · have hI := IPa_eq lo hi st er n L last
    unfold IPa inPa at hI
    refine (entR_sound hI).trans ?_
    rw [show (fun i => intOf1 (DV.x (Value.int IntKind.i64 (L i)))) = L from rfl, dCnt_all hb]
    refine invPa_gc fun i j hi2 hj => ?_
    obtain rfl : j = 0 := by omega
    simp only [cP]
    rw [if_neg (by omega)]
    rfl
  · rintro k s hk rfl
    have hbody : roundT Try.prog C7x D7x 200 9 [] [1, 2, 3, 4, 7, 8] 9 .nil aPa bPa ⟨parTm [55, 56] (bkEl (n + 1) (scell (dL lo st er L) (dH hi st er L)) k) TMPa, (invPa (pw lo hi st er n L last k) (n + 1) (cP lo hi st er n L last k)).hp, 9, .nil⟩ = _ :=
      BPa_eq (((n + 1 : Nat) : Int) - 1 - k) (dL lo st er L (n + 1 - 1 - k)) (dH hi st er L (n + 1 - 1 - k)) (pw lo hi st er n L last k) (n + 1) (cP lo hi st er n L last k)
    constructor
    refine Eq.mpr (congrArg (fun t => Tree.sat Try.prog t _) hbody) ?_
    unfold BPa
    have e1 : Int.toNat (((n + 1 : Nat) : Int) - 1 - k) = n - k := by omega
    simp only [lt_if, gt_if, e1, Nat.add_sub_cancel]
    refine ⟨by decide, by decide, by decide, by decide, by omega, by omega, rfl, _, rfl, ?_⟩
    rw [show min (max (pw lo hi st er n L last k) (dL lo st er L (n - k))) (dH hi st er L (n - k)) = pw lo hi st er n L last (k + 1) from rfl]
    refine invPa_gc fun i j hi2 hj => ?_
    obtain rfl : j = 0 := by omega
    rw [if_pos (by omega), selD_eq]
    by_cases h : i = n - k
    · subst h
      have e2 : cP lo hi st er n L last (k + 1) (n - k) = pw lo hi st er n L last (k + 1) := by
        simp only [cP, pth]
        rw [if_pos (by omega), show n + 1 - (n - k) = k + 1 by omega]
      rw [e2]
      simp
    · have : ¬ i = 0 + (n - k) := by omega
      simp only [this, decide_false, cond_false, cP]
      by_cases h2 : n + 1 - k ≤ i
      · rw [if_pos h2, if_pos (by omega)]
      · rw [if_neg h2, if_neg (by omega)]
  · rintro s rfl
    have hK : codeK (sub [0, 1, 0, 0, 0, 0, 0, 1, 0] (tPa lo hi st er n L last)) .normal ⟨TMPa, (invPa (pw lo hi st er n L last (n + 1)) (n + 1) (cP lo hi st er n L last (n + 1))).hp, (invPa (pw lo hi st er n L last (n + 1)) (n + 1) (cP lo hi st er n L last (n + 1))).next, .nil⟩ = _ := KPa_eq lo hi st er n L last (pw lo hi st er n L last (n + 1)) (n + 1) (cP lo hi st er n L last (n + 1))
    constructor
    rw [hK]
    unfold KPa
    refine ⟨by omega, ?_⟩
    simp only [Tree.sat, cP, Nat.zero_add, Nat.sub_self, Nat.zero_le, if_true]

noncomputable def cPath : Ctr := fun ss => match ss with
  | [.d (.x (.int .i64 lo)), .d (.x (.int .i64 hi)), .d (.x (.int .i64 st)), .d (.x (.int .i64 er)), .d (.ro n 1 cell), .d (.x (.int .i64 last))] =>
    .need (dV lo hi st er ∧ n ≤ 1000 ∧ ∀ i, i < n → ∃ b, cell i 0 = .x (.int .i64 b)) (paT lo hi st er n (intCell cell) last)
  | _ => .fail

theorem cPath_ok : CtrOK Try.prog 31 cPath := by
  refine ctrOK_leS C7x_ok D7x_ok (by kernel_rfl) (by kernel_rfl) fun ss r h => ?_
  unfold cPath at h
  split at h
  · rename_i lo hi st er n cell last
    obtain ⟨⟨hv, hn, hb⟩, h⟩ := h
    refine ⟨[iv lo, iv hi, iv st, iv er, ro64 n (intCell cell), iv last], 200, .nil, ?_, pa_sat hv hn h⟩
    simp only [leSVs, leSV, iv, ro64, leD, and_true, true_and]
    exact le_ro64 hb
  · exact h.elim

/-- drift.Path where there is a path. -/
noncomputable def cPath1 : Ctr := fun ss => match ss with
  | [.d (.x (.int .i64 lo)), .d (.x (.int .i64 hi)), .d (.x (.int .i64 st)), .d (.x (.int .i64 er)), .d (.ro n 1 cell), .d (.x (.int .i64 last))] =>
    .need ((dV lo hi st er ∧ n ≤ 1000 ∧ ∀ i, i < n → ∃ b, cell i 0 = .x (.int .i64 b)) ∧ dB lo hi st er (intCell cell) n = true ∧ dL lo st er (intCell cell) n ≤ last ∧ last ≤ dH hi st er (intCell cell) n) (.ret (.tup [.d (.ro (n + 1) 1 fun i _ => xi (pth lo hi st er n (intCell cell) last i)), iv 0]))
  | _ => .fail

theorem cPath1_ok : CtrOK Try.prog 31 cPath1 := cPath_ok.mono fun ss r h => by
  unfold cPath1 at h
  split at h
  · rename_i lo hi st er n cell last
    obtain ⟨⟨h0, h1, h2, h3⟩, h⟩ := h
    refine ⟨h0, ?_⟩
    simp only [Tr.ev] at h
    subst h
    unfold paT
    exact .inl ⟨h1, .inl ⟨by simp [h2, h3], rfl⟩⟩
  · exact h.elim

end Go.Proofs.Ytcbjclmjkilphaa

namespace Go.Proofs.Ytcbjclmjkilphaa
open Go.Sx
set_option maxRecDepth 100000

/-! ### drift.Spans -/

noncomputable def inl8 : FuncId → Bool := fun k => k == 58
noncomputable def C8x : Ctx := ctxN Try.prog man4 inl8 200 .nil 4
theorem C8x_ok : CtxOK Try.prog C8x := ctxN_ok mixed (fun k c h => by
  unfold man4 at h
  split at h
  · rename_i e; cases h; subst e; exact ⟨cSpans_ok, by kernel_rfl⟩
  · cases h) 4
noncomputable def D8x : Dr := fun _ => drawn Try.prog C8x
theorem D8x_ok : DrOK Try.prog C8x D8x := drawn_ok C8x_ok mixed

noncomputable def tSn (lo hi st er : Int) (n : Nat) (L : Nat → Int) : Tree SV := fnT Try.prog C8x D8x 200 (fnOf Try.prog 63) (bodyOf Try.prog 63) [iv lo, iv hi, iv st, iv er, ro64 n L] .nil

noncomputable def LSn (lo hi st er : Int) (n : Nat) (L : Nat → Int) : Tree SV :=
  .need (dV lo hi st er ∧ n ≤ 1000 ∧ ∀ (i : Nat), i < n → ∃ b, (fun i x => DV.x (.int .i64 (L i))) i (0 : Nat) = DV.x (.int .i64 b))
  (.ite (dE lo hi st er (fun i => intOf1 (DV.x (.int .i64 (L i)))) n != (0 : Int))
    (.ret (.tup [.d (DV.x (.slice none 0 0)), iv (dE lo hi st er (fun i => intOf1 (DV.x (.int .i64 (L i)))) n)]))
    (.need
      ((0 : Int) ≤ (↑(dCnt lo hi st er (fun i => intOf1 (DV.x (.int .i64 (L i)))) n + 1) : Int) ∧
        (↑(dCnt lo hi st er (fun i => intOf1 (DV.x (.int .i64 (L i)))) n + 1) : Int) ≤ (↑(dCnt lo hi st er (fun i => intOf1 (DV.x (.int .i64 (L i)))) n + 1) : Int) ∧
          (↑(dCnt lo hi st er (fun i => intOf1 (DV.x (.int .i64 (L i)))) n + 1) : Int) * (16 : Int) ≤ (140737488355328 : Int))
      (.need
        ((0 : Int) ≤ w64 ((↑(dCnt lo hi st er (fun i => intOf1 (DV.x (.int .i64 (L i)))) n + 1) : Int) - (1 : Int)) ∧
          w64 ((↑(dCnt lo hi st er (fun i => intOf1 (DV.x (.int .i64 (L i)))) n + 1) : Int) - (1 : Int)) < (↑(dCnt lo hi st er (fun i => intOf1 (DV.x (.int .i64 (L i)))) n + 1) : Int))
        (.code (codeC (sub [(0 : Nat), (1 : Nat), (0 : Nat), (0 : Nat)] (tSn lo hi st er n L))) (codeS (sub [(0 : Nat), (1 : Nat), (0 : Nat), (0 : Nat)] (tSn lo hi st er n L)))
          (codeK (sub [(0 : Nat), (1 : Nat), (0 : Nat), (0 : Nat)] (tSn lo hi st er n L)))))))

theorem LSn_eq (lo hi st er : Int) (n : Nat) (L : Nat → Int) : tSn lo hi st er n L = LSn lo hi st er n L := by kernel_rfl

noncomputable def pSn : List Nat := [0, 1, 0, 0]
noncomputable def TMSn : List TV := List.replicate 12 .unk ++ [.ok (.ptr 0 0), .ok (.ptr 1 0), .unk, .ok (.ptr 5 0), .ok (.ptr 7 0)] ++ List.replicate 45 .unk
noncomputable def invSn (lo hi st er : Int) (N : Nat) (sl sh : Nat → Int) (x y : Int) (m : Nat) (cl ch : Nat → Int) : AS :=
  ⟨List.replicate 62 .unk, [some (.cells [iv lo, iv hi, iv st, iv er]), some (.cells [.d (.ro N 2 (scell sl sh))]), none, none, some (.row m 2 (scell cl ch)), some (.cells [.row 4 0 0 m 2]), none, some (.cells [iv x, iv y]), none, none], 10, .nil⟩
noncomputable def aSn : Code := rgA (rangeN (bodyOf Try.prog 63) 0)
noncomputable def bSn : Code := rgB (rangeN (bodyOf Try.prog 63) 0)
noncomputable def rSn (i a b lo hi st er : Int) (N : Nat) (sl sh : Nat → Int) (x y : Int) (m : Nat) (cl ch : Nat → Int) : Tree (Ex × AS) := roundT Try.prog C8x D8x 200 10 [] [2, 3, 6, 8, 9] 10 .nil aSn bSn ⟨parTm [43, 44] [iv i, .agg [iv a, iv b]] TMSn, (invSn lo hi st er N sl sh x y m cl ch).hp, 10, .nil⟩
noncomputable def BSn (i a b lo hi st er : Int) (N : Nat) (sl sh : Nat → Int) (x y : Int) (m : Nat) (cl ch : Nat → Int) : Tree (Ex × AS) :=
  .need ((0 : Int) ≤ (0 : Int) ∧ (0 : Int) < (2 : Int))
  (.need (0 < 2)
    (.need ((0 : Int) ≤ (1 : Int) ∧ (1 : Int) < (2 : Int))
      (.need (1 < 2)
        (.need ((0 : Int) ≤ (0 : Int) ∧ (0 : Int) < (2 : Int))
          (.need (0 < 2)
            (.need ((0 : Int) ≤ (0 : Int) ∧ (0 : Int) < (2 : Int))
              (.need (0 < 2)
                (.need ((0 : Int) ≤ (1 : Int) ∧ (1 : Int) < (2 : Int))
                  (.need (1 < 2)
                    (.need ((0 : Int) ≤ (1 : Int) ∧ (1 : Int) < (2 : Int))
                      (.need (1 < 2)
                        (.ite (i == w64 ((↑N : Int) - (1 : Int)))
                          (.need ((0 : Int) ≤ i ∧ i < (↑m : Int))
                            (.need (0 + Int.toNat i < m)
                              (.ret
                                (.normal,
                                  {
                                    tm :=
                                      [.unk, .unk, .unk, .unk, .unk, .unk, .unk, .unk, .unk, .unk, .unk, .unk, .unk, .unk, .unk, .unk, .unk, .unk, .unk, .unk, .unk, .unk, .unk, .unk, .unk,
                                        .unk, .unk, .unk, .unk, .unk, .unk, .unk, .unk, .unk, .unk, .unk, .unk, .unk, .unk, .unk, .unk, .unk, .unk, .unk, .unk, .unk, .unk, .unk, .unk, .unk,
                                        .unk, .unk, .unk, .unk, .unk, .unk, .unk, .unk, .unk, .unk, .unk, .unk],
                                    hp :=
                                      [some (.cells [iv lo, iv hi, iv st, iv er]),
                                        some
                                          (.cells
                                            [.d
                                                (DV.ro N 2 fun a b =>
                                                  match b with
                                                  | (0 : Nat) => DV.x (.int .i64 (sl a))
                                                  | x => DV.x (.int .i64 (sh a)))]),
                                        none, none,
                                        some
                                          (.row m 2 fun a_1 b_1 =>
                                            if 0 ≤ b_1 ∧ b_1 < 2 then
                                              selD (decide (a_1 = 0 + Int.toNat i))
                                                (match [DV.x (.int .i64 a), DV.x (.int .i64 b)][b_1 - 0]? with
                                                | some x => x
                                                | none => DV.x (.tuple { toList := [] }))
                                                (scell cl ch a_1 b_1)
                                            else scell cl ch a_1 b_1),
                                        some (.cells [.row 4 0 0 m 2]), none, some (.cells [iv a, iv b]), none, none],
                                    next := 10, hint := .nil }))))
                          (.need ((0 : Int) ≤ i ∧ i < (↑m : Int))
                            (.need (0 + Int.toNat i < m)
                              (.ret
                                (.normal,
                                  {
                                    tm :=
                                      [.unk, .unk, .unk, .unk, .unk, .unk, .unk, .unk, .unk, .unk, .unk, .unk, .unk, .unk, .unk, .unk, .unk, .unk, .unk, .unk, .unk, .unk, .unk, .unk, .unk,
                                        .unk, .unk, .unk, .unk, .unk, .unk, .unk, .unk, .unk, .unk, .unk, .unk, .unk, .unk, .unk, .unk, .unk, .unk, .unk, .unk, .unk, .unk, .unk, .unk, .unk,
                                        .unk, .unk, .unk, .unk, .unk, .unk, .unk, .unk, .unk, .unk, .unk, .unk],
                                    hp :=
                                      [some (.cells [iv lo, iv hi, iv st, iv er]),
                                        some
                                          (.cells
                                            [.d
                                                (DV.ro N 2 fun a b =>
                                                  match b with
                                                  | (0 : Nat) => DV.x (.int .i64 (sl a))
                                                  | x => DV.x (.int .i64 (sh a)))]),
                                        none, none,
                                        some
                                          (.row m 2 fun a_1 b_1 =>
                                            if 0 ≤ b_1 ∧ b_1 < 2 then
                                              selD (decide (a_1 = 0 + Int.toNat i))
                                                (match [DV.x (.int .i64 (if w64 (x - st) > a then w64 (x - st) else a)), DV.x (.int .i64 (if w64 (y + st) < b then w64 (y + st) else b))][b_1 - 0]? with
                                                | some x => x
                                                | none => DV.x (.tuple { toList := [] }))
                                                (scell cl ch a_1 b_1)
                                            else scell cl ch a_1 b_1),
                                        some (.cells [.row 4 0 0 m 2]), none,
                                        some (.cells [iv (if w64 (x - st) > a then w64 (x - st) else a), iv (if w64 (y + st) < b then w64 (y + st) else b)]), none, none],
                                    next := 10, hint := .nil }))))))))))))))))

theorem BSn_eq (i a b lo hi st er : Int) (N : Nat) (sl sh : Nat → Int) (x y : Int) (m : Nat) (cl ch : Nat → Int) : rSn i a b lo hi st er N sl sh x y m cl ch = BSn i a b lo hi st er N sl sh x y m cl ch := by kernel_rfl

noncomputable def inSn (t : Tree SV) : Option AS := entR 10 [9] [] [2, 3, 6, 8, 9] 10 .nil t
noncomputable def ISn (lo hi st er : Int) (n : Nat) (L : Nat → Int) : Option AS :=
  some
  {
    tm :=
      [.unk, .unk, .unk, .unk, .unk, .unk, .unk, .unk, .unk, .unk, .unk, .unk, .unk, .unk, .unk, .unk, .unk, .unk, .unk, .unk, .unk, .unk, .unk, .unk, .unk, .unk, .unk, .unk, .unk,
        .unk, .unk, .unk, .unk, .unk, .unk, .unk, .unk, .unk, .unk, .unk, .unk, .unk, .unk, .unk, .unk, .unk, .unk, .unk, .unk, .unk, .unk, .unk, .unk, .unk, .unk, .unk, .unk, .unk,
        .unk, .unk, .unk, .unk],
    hp :=
      [some (.cells [iv lo, iv hi, iv st, iv er]),
        some
          (.cells
            [.d
                (DV.ro (dCnt lo hi st er (fun i => intOf1 (DV.x (.int .i64 (L i)))) n + 1) 2 fun a b =>
                  match b with
                  | (0 : Nat) => DV.x (.int .i64 (dL lo st er (fun i => intOf1 (DV.x (.int .i64 (L i)))) a))
                  | x => DV.x (.int .i64 (dH hi st er (fun i => intOf1 (DV.x (.int .i64 (L i)))) a)))]),
        none, none,
        some
          (.row (Int.toNat (↑(dCnt lo hi st er (fun i => intOf1 (DV.x (.int .i64 (L i)))) n + 1) : Int)) 2 fun x j =>
            match [DV.x (.int .i64 (0 : Int)), DV.x (.int .i64 (0 : Int))][j]? with
            | some x => x
            | none => DV.x (.tuple { toList := [] })),
        some (.cells [.row 4 0 0 (Int.toNat (↑(dCnt lo hi st er (fun i => intOf1 (DV.x (.int .i64 (L i)))) n + 1) : Int)) 2]), none,
        some
          (.cells
            [iv (dL lo st er (fun i => intOf1 (DV.x (.int .i64 (L i)))) (Int.toNat (w64 ((↑(dCnt lo hi st er (fun i => intOf1 (DV.x (.int .i64 (L i)))) n + 1) : Int) - (1 : Int))))),
              iv (dH hi st er (fun i => intOf1 (DV.x (.int .i64 (L i)))) (Int.toNat (w64 ((↑(dCnt lo hi st er (fun i => intOf1 (DV.x (.int .i64 (L i)))) n + 1) : Int) - (1 : Int)))))]),
        none, none],
    next := 10, hint := .nil }

theorem ISn_eq (lo hi st er : Int) (n : Nat) (L : Nat → Int) : inSn (sub pSn (tSn lo hi st er n L)) = ISn lo hi st er n L := by kernel_rfl

noncomputable def KSn (qlo qhi qst qer : Int) (n : Nat) (L : Nat → Int) (lo hi st er : Int) (N : Nat) (sl sh : Nat → Int) (x y : Int) (m : Nat) (cl ch : Nat → Int) : Tree SV :=
  .need (0 + m ≤ m) (.ret (.tup [.d (DV.ro m 2 fun i j => scell cl ch (0 + i) j), iv (0 : Int)]))

theorem KSn_eq (qlo qhi qst qer : Int) (n : Nat) (L : Nat → Int) (lo hi st er : Int) (N : Nat) (sl sh : Nat → Int) (x y : Int) (m : Nat) (cl ch : Nat → Int) : codeK (sub pSn (tSn qlo qhi qst qer n L)) .normal ⟨TMSn, (invSn lo hi st er N sl sh x y m cl ch).hp, 10, .nil⟩ = KSn qlo qhi qst qer n L lo hi st er N sl sh x y m cl ch := by kernel_rfl

theorem cSn (lo hi st er : Int) (n : Nat) (L : Nat → Int) : codeC (sub pSn (tSn lo hi st er n L)) = .rangeFunc (.tmp 42) #[43, 44] aSn bSn := by kernel_rfl
theorem nSn (lo hi st er : Int) (n : Nat) (L : Nat → Int) : Nat.ble (codeS (sub pSn (tSn lo hi st er n L))).next 10 = true := by kernel_rfl
theorem gSn (lo hi st er : Int) (n : Nat) (L : Nat → Int) : tvStrict none (tget (codeS (sub pSn (tSn lo hi st er n L))).tm 42) = some (.fn (.func 76) [] [.ptr 9 0]) := by kernel_rfl
theorem vSn (lo hi st er : Int) (n : Nat) (L : Nat → Int) : capV (codeS (sub pSn (tSn lo hi st er n L))).hp [.ptr 9 0] = some ([.rop 1 fun j => [DV.ro (dCnt lo hi st er L n + 1) 2 (scell (dL lo st er L) (dH hi st er L))].getD j (.x undef)], [9]) := by kernel_rfl
theorem tSnK (lo hi st er : Int) (n : Nat) (L : Nat → Int) : keepTm [12, 13, 15, 16] 0 (codeS (sub pSn (tSn lo hi st er n L))).tm = TMSn := by kernel_rfl
theorem naSn : noRange aSn = true := by kernel_rfl
theorem nbSn : noRange bSn = true := by kernel_rfl

end Go.Proofs.Ytcbjclmjkilphaa

namespace Go.Proofs.Ytcbjclmjkilphaa
open Go.Sx
set_option linter.constructorNameAsVariable false
set_option maxRecDepth 100000
variable {lo hi st er : Int} {L : Nat → Int} {n k : Nat}

/-! ### drift.Spans -/

/-- The span told last, behind k rounds. -/
def stL (lo st er : Int) (n : Nat) (L : Nat → Int) : Nat → Int
  | 0 => dL lo st er L n
  | k + 1 => if k = 0 then dL lo st er L n else max (dL lo st er L (n - k)) (stL lo st er n L k - st)
def stH (hi st er : Int) (n : Nat) (L : Nat → Int) : Nat → Int
  | 0 => dH hi st er L n
  | k + 1 => if k = 0 then dH hi st er L n else min (dH hi st er L (n - k)) (stH hi st er n L k + st)
/-- The spans. -/
def sL (lo st er : Int) (n : Nat) (L : Nat → Int) (i : Nat) : Int := stL lo st er n L (n + 1 - i)
def sH (hi st er : Int) (n : Nat) (L : Nat → Int) (i : Nat) : Int := stH hi st er n L (n + 1 - i)
def cut0 (n k : Nat) (f : Nat → Int) (i : Nat) : Int := if n + 1 - k ≤ i then f i else 0

theorem stL_b (hv : dV lo hi st er) : ∀ k, 1 ≤ stL lo st er n L k ∧ stL lo st er n L k ≤ 2000000000
  | 0 => dL_b hv n
  | k + 1 => by
    have ih := stL_b hv k
    have h1 := dL_b hv (L := L) (n - k)
    have h2 := dL_b hv (L := L) n
    have := hv.s
    simp only [stL]; split <;> omega
theorem stH_b (hv : dV lo hi st er) : ∀ k, -2001000000 ≤ stH hi st er n L k ∧ stH hi st er n L k ≤ 2000000000
  | 0 => dH_b hv n
  | k + 1 => by
    have ih := stH_b hv k
    have h1 := dH_b hv (L := L) (n - k)
    have h2 := dH_b hv (L := L) n
    have := hv.s
    simp only [stH]; split <;> omega

theorem invSn_gc {N m : Nat} {sl sh : Nat → Int} {x y : Int} {c' : Nat → Nat → DV} {cl ch : Nat → Int} (h : ∀ i j, i < m → j < 2 → c' i j = scell cl ch i j) :
    Gc 10 ⟨List.replicate 62 .unk, [some (.cells [iv lo, iv hi, iv st, iv er]), some (.cells [.d (.ro N 2 (scell sl sh))]), none, none, some (.row m 2 c'), some (.cells [.row 4 0 0 m 2]), none, some (.cells [iv x, iv y]), none, none], 10, .nil⟩ (invSn lo hi st er N sl sh x y m cl ch) := by
  refine gc_sound [] [] rfl ?_ ?_
  · simp [invSn, leTm, leTV, List.replicate]
  · simp [invSn, leHp, leBlk, leSVs, leSV, rn, iv, leD, srcOf, hget]
    exact h

theorem Sat.of_eq {α : Type} {P : Program} {t t' : Tree α} {Q : α → Prop} (h : t = t') (k : Sat P t' Q) : Sat P t Q := h ▸ k

noncomputable def snT (lo hi st er : Int) (n : Nat) (L : Nat → Int) : Tr SV :=
  .ite (dB lo hi st er L n) (.ret (.tup [.d (.ro (n + 1) 2 (scell (sL lo st er n L) (sH hi st er n L))), iv 0])) (.ret (.tup [.d (.x (.slice none 0 0)), iv 440]))

theorem row2 {c f : Nat → Int} {A : Int} {i q : Nat} (h1 : i = q → A = f i) (h2 : i ≠ q → c i = f i) : selD (decide (i = q)) (xi A) (xi (c i)) = xi (f i) := by
  rw [selD_eq]
  by_cases h : i = q
  · simp only [h, decide_true, cond_true]; rw [h1 h, h]
  · simp only [h, decide_false, cond_false]; rw [h2 h]

theorem sn_sat (hv : dV lo hi st er) (hn : n ≤ 1000) {r : SV} (hr : (snT lo hi st er n L).ev r) : Sat Try.prog (tSn lo hi st er n L) (· = r) := by
  constructor
  rw [LSn_eq]; unfold LSn
  rw [show (fun i => intOf1 (DV.x (Value.int IntKind.i64 (L i)))) = L from rfl]
  refine ⟨⟨hv, hn, fun i hi => ⟨_, rfl⟩⟩, fun hc => ?_, fun hc => ?_⟩
  · have hb : dB lo hi st er L n = false := by
      cases h : dB lo hi st er L n with
      | false => rfl
      | true => simp [dE, h] at hc
    simp only [snT, hb, Tr.ev, Bool.false_eq_true, false_and, false_or, true_and] at hr
    subst hr
    simp only [Tree.sat, dE, hb, cond_false]
  have hb : dB lo hi st er L n = true := by
    cases h : dB lo hi st er L n with
    | true => rfl
    | false => simp [dE, h] at hc
  simp only [snT, hb, Tr.ev, Bool.true_eq_false, false_and, or_false, true_and] at hr
  subst hr
  rw [dCnt_all hb]
  have e : w64 (((n + 1 : Nat) : Int) - 1) = n := by rw [w64_of (by omega) (by omega)]; omega
  rw [e]
  refine ⟨by omega, by omega, ?_⟩
  have hv1 := vSn lo hi st er n L
  rw [dCnt_all hb] at hv1
  refine range_satS C8x_ok D8x_ok (n := 200) (n0 := 10) (nx := 10) (roots := []) (drop := [2, 3, 6, 8, 9]) (keep := [12, 13, 15, 16]) (h := .nil) (h' := .nil) (N := n + 1) (cSn lo hi st er n L) (nSn lo hi st er n L) (gSn lo hi st er n L) hv1
    (bk_iter (n + 1) (scell (dL lo st er L) (dH hi st er L)) (by omega) _ rfl) (fun k hk => rfl) (enters_of Try.func76 (by kernel_rfl) rfl) naSn nbSn (tSnK lo hi st er n L)
    (fun k s => s = invSn lo hi st er (n + 1) (dL lo st er L) (dH hi st er L) (stL lo st er n L k) (stH hi st er n L k) (n + 1) (cut0 n k (sL lo st er n L)) (cut0 n k (sH hi st er n L))) ⟨_, rfl, ?_⟩ ?_ ?_
  · have hI := ISn_eq lo hi st er n L
    unfold ISn inSn at hI
    refine (entR_sound hI).trans ?_
    rw [show (fun i => intOf1 (DV.x (Value.int IntKind.i64 (L i)))) = L from rfl, dCnt_all hb, e]
    refine invSn_gc fun i j hi2 hj => ?_
    have : j = 0 ∨ j = 1 := by omega
    rcases this with rfl | rfl
    · simp only [scell, cut0]; rw [if_neg (by omega)]; rfl
    · simp only [scell, cut0]; rw [if_neg (by omega)]; rfl
  · rintro k s hk rfl
    have hbody : roundT Try.prog C8x D8x 200 10 [] [2, 3, 6, 8, 9] 10 .nil aSn bSn ⟨parTm [43, 44] (bkEl (n + 1) (scell (dL lo st er L) (dH hi st er L)) k) TMSn, (invSn lo hi st er (n + 1) (dL lo st er L) (dH hi st er L) (stL lo st er n L k) (stH hi st er n L k) (n + 1) (cut0 n k (sL lo st er n L)) (cut0 n k (sH hi st er n L))).hp, 10, .nil⟩ = _ :=
      BSn_eq (((n + 1 : Nat) : Int) - 1 - k) (dL lo st er L (n + 1 - 1 - k)) (dH hi st er L (n + 1 - 1 - k)) lo hi st er (n + 1) (dL lo st er L) (dH hi st er L) (stL lo st er n L k) (stH hi st er n L k) (n + 1) (cut0 n k (sL lo st er n L)) (cut0 n k (sH hi st er n L))
    refine Sat.of_eq hbody ?_
    constructor
    unfold BSn
    have b1 := stL_b hv (n := n) (L := L) k
    have b2 := stH_b hv (n := n) (L := L) k
    have := hv.s
    have e1 : Int.toNat (((n + 1 : Nat) : Int) - 1 - k) = n - k := by omega
    rw [w64_of (n := stL lo st er n L k - st) (by omega) (by omega), w64_of (n := stH hi st er n L k + st) (by omega) (by omega)]
    simp only [lt_if, gt_if, e1, e, Nat.add_sub_cancel]
    iterate 12 (refine ⟨by decide, ?_⟩)
    have hL1 : sL lo st er n L (n - k) = stL lo st er n L (k + 1) := by unfold sL; rw [show n + 1 - (n - k) = k + 1 by omega]
    have hH1 : sH hi st er n L (n - k) = stH hi st er n L (k + 1) := by unfold sH; rw [show n + 1 - (n - k) = k + 1 by omega]
    have hc1 : ∀ f : Nat → Int, cut0 n (k + 1) f (n - k) = f (n - k) := fun f => by simp only [cut0]; rw [if_pos (by omega)]
    have hc2 : ∀ (f : Nat → Int) (i : Nat), i ≠ n - k → i < n + 1 → cut0 n (k + 1) f i = cut0 n k f i := fun f i h hi2 => by
      simp only [cut0]
      by_cases h2 : n + 1 - k ≤ i
      · rw [if_pos h2, if_pos (by omega)]
      · rw [if_neg h2, if_neg (by omega)]
    refine ⟨fun hc => ⟨by omega, by omega, rfl, _, rfl, ?_⟩, fun hc => ⟨by omega, by omega, rfl, _, rfl, ?_⟩⟩
    · have hk0 : k = 0 := by simp at hc; omega
      have f1 : stL lo st er n L (k + 1) = dL lo st er L (n - k) := by simp [stL, hk0]
      have f2 : stH hi st er n L (k + 1) = dH hi st er L (n - k) := by simp [stH, hk0]
      rw [← f1, ← f2]
      refine invSn_gc fun i j hi2 hj => ?_
      rw [Nat.zero_add]
      have hj2 : j = 0 ∨ j = 1 := by omega
      rcases hj2 with rfl | rfl
      · rw [if_pos (by decide)]
        exact row2 (f := cut0 n (k + 1) (sL lo st er n L)) (fun h => by rw [h, hc1, hL1]) (fun h => (hc2 _ i h hi2).symm)
      · rw [if_pos (by decide)]
        exact row2 (f := cut0 n (k + 1) (sH hi st er n L)) (fun h => by rw [h, hc1, hH1]) (fun h => (hc2 _ i h hi2).symm)
    · have hk0 : k ≠ 0 := by simp at hc; omega
      have f1 : stL lo st er n L (k + 1) = max (dL lo st er L (n - k)) (stL lo st er n L k - st) := by simp [stL, hk0]
      have f2 : stH hi st er n L (k + 1) = min (dH hi st er L (n - k)) (stH hi st er n L k + st) := by simp [stH, hk0]
      rw [← f1, ← f2]
      refine invSn_gc fun i j hi2 hj => ?_
      rw [Nat.zero_add]
      have hj2 : j = 0 ∨ j = 1 := by omega
      rcases hj2 with rfl | rfl
      · rw [if_pos (by decide)]
        exact row2 (f := cut0 n (k + 1) (sL lo st er n L)) (fun h => by rw [h, hc1, hL1]) (fun h => (hc2 _ i h hi2).symm)
      · rw [if_pos (by decide)]
        exact row2 (f := cut0 n (k + 1) (sH hi st er n L)) (fun h => by rw [h, hc1, hH1]) (fun h => (hc2 _ i h hi2).symm)
  · rintro s rfl
    have hK : codeK (sub pSn (tSn lo hi st er n L)) .normal ⟨TMSn, (invSn lo hi st er (n + 1) (dL lo st er L) (dH hi st er L) (stL lo st er n L (n + 1)) (stH hi st er n L (n + 1)) (n + 1) (cut0 n (n + 1) (sL lo st er n L)) (cut0 n (n + 1) (sH hi st er n L))).hp,
       (invSn lo hi st er (n + 1) (dL lo st er L) (dH hi st er L) (stL lo st er n L (n + 1)) (stH hi st er n L (n + 1)) (n + 1) (cut0 n (n + 1) (sL lo st er n L)) (cut0 n (n + 1) (sH hi st er n L))).next, .nil⟩ = _ :=
      KSn_eq lo hi st er n L lo hi st er (n + 1) (dL lo st er L) (dH hi st er L) (stL lo st er n L (n + 1)) (stH hi st er n L (n + 1)) (n + 1) (cut0 n (n + 1) (sL lo st er n L)) (cut0 n (n + 1) (sH hi st er n L))
    refine Sat.of_eq hK ?_
    constructor
    unfold KSn
    refine ⟨by omega, ?_⟩
    have hcut : ∀ f : Nat → Int, cut0 n (n + 1) f = f := fun f => by funext i; simp [cut0]
    simp only [Tree.sat, hcut, Nat.zero_add]

noncomputable def cSpn : Ctr := fun ss => match ss with
  | [.d (.x (.int .i64 lo)), .d (.x (.int .i64 hi)), .d (.x (.int .i64 st)), .d (.x (.int .i64 er)), .d (.ro n 1 cell)] =>
    .need (dV lo hi st er ∧ n ≤ 1000 ∧ ∀ i, i < n → ∃ b, cell i 0 = .x (.int .i64 b)) (snT lo hi st er n (intCell cell))
  | _ => .fail

theorem cSpn_ok : CtrOK Try.prog 63 cSpn := by
  refine ctrOK_leS C8x_ok D8x_ok (by kernel_rfl) (by kernel_rfl) fun ss r h => ?_
  unfold cSpn at h
  split at h
  · rename_i lo hi st er n cell
    obtain ⟨⟨hv, hn, hb⟩, h⟩ := h
    refine ⟨[iv lo, iv hi, iv st, iv er, ro64 n (intCell cell)], 200, .nil, ?_, sn_sat hv hn h⟩
    simp only [leSVs, leSV, iv, ro64, leD, and_true, true_and]
    exact le_ro64 hb
  · exact h.elim

end Go.Proofs.Ytcbjclmjkilphaa

namespace Go.Proofs.Ytcbjclmjkilphaa
open Go.Sx
set_option maxRecDepth 100000

noncomputable def manX : FuncId → Option Ctr := fun k => if k = 31 then some cPath else if k = 63 then some cSpn else none
theorem manX_ok (k : Nat) (c : Ctr) (h : manX k = some c) : CtrOK Try.prog k c ∧ goodF Try.prog k = true := by
  unfold manX at h
  split at h
  · rename_i e; cases h; subst e; exact ⟨cPath_ok, by kernel_rfl⟩
  split at h
  · rename_i e; cases h; subst e; exact ⟨cSpn_ok, by kernel_rfl⟩
  · cases h
noncomputable def CX4 : Ctx := ctxN Try.prog manX inl3 200 .run 12
theorem CX4_ok : CtxOK Try.prog CX4 := ctxN_ok mixed manX_ok 12

noncomputable def XE  : Tr SV :=
  Tr.need (1 ≤ 1)
  (Tr.need (1 ≤ 1)
    (Tr.need (1 ≤ 1)
      (Tr.need (1 ≤ 1)
        (Tr.need
          (dV (990 : Int) (1010 : Int) (5 : Int) (10 : Int) ∧
            1 ≤ 1000 ∧
              ∀ (i : Nat),
                i < (1 : Nat) →
                  ∃ b,
                    (fun i j => dsAt ((fun x => DV.x (.int .i64 (1020 : Int)) :: x) []) ((0 : Nat) + ((0 : Nat) + i) * (fun x => TypeInfo.size x) (Tables.types (Program.toTables Try.prog))[(3 : Nat)] + j)) i (0 : Nat) =
                      DV.x (.int .i64 b))
          (Tr.need (2 ≤ 2)
            (Tr.need (2 ≤ 2)
              (Tr.need (2 ≤ 2)
                (Tr.need (2 ≤ 2)
                  (Tr.need
                    (dV (990 : Int) (1010 : Int) (5 : Int) (10 : Int) ∧
                      2 ≤ 1000 ∧
                        ∀ (i : Nat),
                          i < (2 : Nat) →
                            ∃ b,
                              (fun i j =>
                                    dsAt ((fun x => DV.x (.int .i64 (1020 : Int)) :: x) ((fun x => DV.x (.int .i64 (1030 : Int)) :: x) []))
                                      ((0 : Nat) + ((0 : Nat) + i) * (fun x => TypeInfo.size x) (Tables.types (Program.toTables Try.prog))[(3 : Nat)] + j))
                                  i (0 : Nat) =
                                DV.x (.int .i64 b))
                    (Tr.need (True ∧ 2 ≤ 2 ∧ 16 ≤ 140737488355328)
                      (Tr.need (1 ≤ 1 ∧ 2 ≤ 2 ∧ 32 ≤ 140737488355328)
                        (Tr.need (2 ≤ 2)
                          (Tr.need (True ∧ 2 ≤ 2 ∧ 16 ≤ 140737488355328)
                            (Tr.need (1 ≤ 1 ∧ 2 ≤ 2 ∧ 32 ≤ 140737488355328)
                              (Tr.need (2 ≤ 2 ∧ 2 ≤ 2 ∧ 48 ≤ 140737488355328)
                                (Tr.need (3 ≤ 3)
                                  (Tr.need (4 ≤ 4)
                                    (Tr.need (3 ≤ 3)
                                      (Tr.need (2 ≤ 2)
                                        (Tr.need (True ∧ (0 : Int) ≤ (1 : Int) ∧ 1 ≤ 2)
                                          (Tr.need (2 ≤ 2)
                                            (Tr.need (True ∧ (0 : Int) ≤ (1 : Int) ∧ 1 ≤ 2)
                                              (Tr.need (2 ≤ 2)
                                                (Tr.need (True ∧ (0 : Int) ≤ (1 : Int) ∧ 1 ≤ 2)
                                                  (Tr.need (2 ≤ 2)
                                                    (Tr.need (True ∧ (0 : Int) ≤ (1 : Int) ∧ 1 ≤ 2)
                                                      (Tr.need (2 ≤ 2)
                                                        (Tr.need (True ∧ (0 : Int) ≤ (1 : Int) ∧ 1 ≤ 2)
                                                          (Tr.need (1 ≤ 1)
                                                            (Tr.need (True ∧ 2 ≤ 2 ∧ 16 ≤ 140737488355328)
                                                              (Tr.need (1 ≤ 1)
                                                                (Tr.need (4 ≤ 4)
                                                                  (Tr.need (4 ≤ 4)
                                                                    (Tr.need (2 ≤ 2)
                                                                      (Tr.need (True ∧ (0 : Int) ≤ (1 : Int) ∧ 1 ≤ 2)
                                                                        (Tr.need (2 ≤ 2)
                                                                          (Tr.need (True ∧ (0 : Int) ≤ (1 : Int) ∧ 1 ≤ 2)
                                                                            (Tr.need (2 ≤ 2)
                                                                              (Tr.need (True ∧ (0 : Int) ≤ (1 : Int) ∧ 1 ≤ 2)
                                                                                (Tr.need (2 ≤ 2)
                                                                                  (Tr.need (True ∧ (0 : Int) ≤ (1 : Int) ∧ 1 ≤ 2)
                                                                                    (Tr.need (2 ≤ 2)
                                                                                      (Tr.need (True ∧ (0 : Int) ≤ (1 : Int) ∧ 1 ≤ 2)
                                                                                        (Tr.need (2 ≤ 2)
                                                                                          (Tr.need (True ∧ (0 : Int) ≤ (1 : Int) ∧ 1 ≤ 2)
                                                                                            (Tr.need (2 ≤ 2)
                                                                                              (Tr.need (True ∧ (0 : Int) ≤ (1 : Int) ∧ 1 ≤ 2)
                                                                                                (Tr.need (2 ≤ 2)
                                                                                                  (Tr.need (True ∧ (0 : Int) ≤ (1 : Int) ∧ 1 ≤ 2)
                                                                                                    (Tr.need (2 ≤ 2)
                                                                                                      (Tr.need (True ∧ (0 : Int) ≤ (1 : Int) ∧ 1 ≤ 2)
                                                                                                        (Tr.need (2 ≤ 2)
                                                                                                          (Tr.need (True ∧ (0 : Int) ≤ (1 : Int) ∧ 1 ≤ 2)
                                                                                                            (Tr.need (2 ≤ 2)
                                                                                                              (Tr.need (True ∧ (0 : Int) ≤ (1 : Int) ∧ 1 ≤ 2)
                                                                                                                (Tr.need (2 ≤ 2)
                                                                                                                  (Tr.need (True ∧ (0 : Int) ≤ (1 : Int) ∧ 1 ≤ 2)
                                                                                                                    (Tr.need (2 ≤ 2)
                                                                                                                      (Tr.need (True ∧ (0 : Int) ≤ (1 : Int) ∧ 1 ≤ 2)
                                                                                                                        (Tr.need (2 ≤ 2)
                                                                                                                          (Tr.need (True ∧ (0 : Int) ≤ (1 : Int) ∧ 1 ≤ 2)
                                                                                                                            (Tr.need (2 ≤ 2)
                                                                                                                              (Tr.need (True ∧ (0 : Int) ≤ (1 : Int) ∧ 1 ≤ 2)
                                                                                                                                (Tr.need (2 ≤ 2)
                                                                                                                                  (Tr.need (True ∧ (0 : Int) ≤ (1 : Int) ∧ 1 ≤ 2)
                                                                                                                                    (Tr.need (3 ≤ 3)
                                                                                                                                      (Tr.ret (bv true))))))))))))))))))))))))))))))))))))))))))))))))))))))))))))))))))))

theorem XE_eq  : autoC Try.prog CX4 200 32 .run [] = XE  := by kernel_rfl


theorem sat_step {p : Prop} {t : Tr SV} {r : SV} (h1 : p) (h2 : t.ev r) : (Tr.need p t).ev r := ⟨h1, h2⟩

theorem ex44 : (autoC Try.prog CX4 200 32 .run []).ev (bv true) := by
  rw [XE_eq]; unfold XE
  refine sat_step (by decide) (sat_step (by decide) (sat_step (by decide) (sat_step (by decide) (sat_step ⟨⟨by decide, by decide, by decide, by decide⟩, by decide, fun i hi => ?_⟩ (sat_step (by decide) (sat_step (by decide) (sat_step (by decide) (sat_step (by decide) (sat_step ⟨⟨by decide, by decide, by decide, by decide⟩, by decide, fun i hi => ?_⟩ ?_)))))))))
  · obtain rfl : i = 0 := by omega
    exact ⟨1020, by kernel_rfl⟩
  · have : i = 0 ∨ i = 1 := by omega
    rcases this with rfl | rfl
    · exact ⟨1020, by kernel_rfl⟩
    · exact ⟨1030, by kernel_rfl⟩
  repeat' (first | exact rfl | refine sat_step (by decide) ?_)

noncomputable def cEx44 : Ctr := fun ss => match ss with
  | [] => .ret (bv true)
  | _ => .fail
theorem cEx44_ok : CtrOK Try.prog 32 cEx44 := (autoC_ok CX4_ok mixed 200 32 .run).mono fun ss r h => by
  unfold cEx44 at h
  split at h
  · simp only [Tr.ev] at h; subst h; exact ex44
  · exact h.elim

end Go.Proofs.Ytcbjclmjkilphaa

namespace Go.Proofs.Ytcbjclmjkilphaa
open Go.Sx
set_option maxRecDepth 100000

theorem wf_u8 {i : Int} (h : (Lit.int .u8 i).wf = true) : 0 ≤ i ∧ i < 256 := by
  simp [Lit.wf, IntKind.min, IntKind.max, IntKind.signed, IntKind.bits] at h; omega
theorem wf_u16 {i : Int} (h : (Lit.int .u16 i).wf = true) : 0 ≤ i ∧ i < 65536 := by
  simp [Lit.wf, IntKind.min, IntKind.max, IntKind.signed, IntKind.bits] at h; omega
theorem wf_i64 {i : Int} (h : (Lit.int .i64 i).wf = true) : -9223372036854775808 ≤ i ∧ i ≤ 9223372036854775807 := by
  simp [Lit.wf, IntKind.min, IntKind.max, IntKind.signed, IntKind.bits] at h; omega

theorem cells5 : Try.prog.cellsOf 5 = 1 := by kernel_rfl
theorem cells3 : Try.prog.cellsOf 3 = 1 := by kernel_rfl

theorem okRaw {ds : List DV} (h : okT Try.prog 6 26 ds) : ∃ lo wi st er be ov n cell, RawOK lo wi st er be ov n cell ∧ svT Try.prog 26 ds = .agg [u8 lo, u8 wi, u8 st, u8 er, .d (.ro n 1 cell), u8 be, u8 ov] := by
  simp [okT, okFs, Try.underlying26, Try.underlying24, Try.underlying5, Try.underlying25, cells5] at h
  obtain ⟨_, _, rfl, ⟨_, _, rfl, ⟨lo, w1, rfl⟩, _, _, rfl, ⟨wi, w2, rfl⟩, _, _, rfl, ⟨st, w3, rfl⟩, _, _, rfl, ⟨er, w4, rfl⟩, n, hn, cell, rfl, hc⟩, _, _, rfl, ⟨be, w5, rfl⟩, ov, w6, rfl⟩ := h
  refine ⟨lo, wi, st, er, be, ov, n, cell, ⟨wf_u8 w1, wf_u8 w2, wf_u8 w3, wf_u8 w4, hn, fun i hi => ?_, wf_u8 w5, wf_u8 w6⟩, ?_⟩
  · obtain ⟨b, hb, e⟩ := hc i hi
    exact ⟨b, by simpa using e, wf_u8 hb⟩
  · simp [svT, Try.underlying26, u8, cells5]

theorem okMon {ds : List DV} (h : okT Try.prog 6 28 ds) : ∃ a b c d e f s, svT Try.prog 28 ds = mon a b c d e f s := by
  simp [okT, okFs, Try.underlying28, Try.underlying3, Try.underlying4] at h
  obtain ⟨_, _, rfl, ⟨a, w1, rfl⟩, _, _, rfl, ⟨b, w2, rfl⟩, _, _, rfl, ⟨c, w3, rfl⟩, _, _, rfl, ⟨d, w4, rfl⟩, _, _, rfl, ⟨e, w5, rfl⟩, _, _, rfl, ⟨f, w6, rfl⟩, hb⟩ := h
  rcases hb with rfl | rfl
  · exact ⟨a, b, c, d, e, f, false, by simp [svT, Try.underlying28, mon, iv, bv]⟩
  · exact ⟨a, b, c, d, e, f, true, by simp [svT, Try.underlying28, mon, iv, bv]⟩

theorem okInt {ds : List DV} (h : okT Try.prog 6 3 ds) : ∃ i, (-9223372036854775808 ≤ i ∧ i ≤ 9223372036854775807) ∧ svT Try.prog 3 ds = iv i := by
  simp only [okT, Try.underlying3] at h
  obtain ⟨i, hi, rfl⟩ := h
  exact ⟨i, wf_i64 hi, by simp [svT, Try.underlying3, iv]⟩

end Go.Proofs.Ytcbjclmjkilphaa

namespace Go.Proofs.Ytcbjclmjkilphaa
open Go.Sx
set_option maxRecDepth 100000

/-! ### The Drift laws: the ground -/

noncomputable def cSpn1 : Ctr := fun ss => match ss with
  | [.d (.x (.int .i64 lo)), .d (.x (.int .i64 hi)), .d (.x (.int .i64 st)), .d (.x (.int .i64 er)), .d (.ro n 1 cell)] =>
    .need ((dV lo hi st er ∧ n ≤ 1000 ∧ ∀ i, i < n → ∃ b, cell i 0 = .x (.int .i64 b)) ∧ dB lo hi st er (intCell cell) n = true) (.ret (.tup [.d (.ro (n + 1) 2 (scell (sL lo st er n (intCell cell)) (sH hi st er n (intCell cell)))), iv 0]))
  | _ => .fail

theorem cSpn1_ok : CtrOK Try.prog 63 cSpn1 := cSpn_ok.mono fun ss r h => by
  unfold cSpn1 at h
  split at h
  · rename_i lo hi st er n cell
    obtain ⟨⟨h0, h1⟩, h⟩ := h
    refine ⟨h0, ?_⟩
    simp only [Tr.ev] at h
    subst h
    unfold snT
    exact .inl ⟨h1, rfl⟩
  · exact h.elim

/-- drift.Bounds where there is a path. -/
noncomputable def cBnd1 : Ctr := fun ss => match ss with
  | [.d (.x (.int .i64 lo)), .d (.x (.int .i64 hi)), .d (.x (.int .i64 st)), .d (.x (.int .i64 er)), .d (.ro n 1 cell)] =>
    .need ((dV lo hi st er ∧ n ≤ 1000 ∧ ∀ i, i < n → ∃ b, cell i 0 = .x (.int .i64 b)) ∧ dB lo hi st er (intCell cell) n = true) (.ret (.tup [iv (dL lo st er (intCell cell) n), iv (dH hi st er (intCell cell) n), iv 0]))
  | _ => .fail

theorem cBnd1_ok : CtrOK Try.prog 30 cBnd1 := cBounds_ok.mono fun ss r h => by
  unfold cBnd1 at h
  split at h
  · rename_i lo hi st er n cell
    obtain ⟨⟨h0, h1⟩, h⟩ := h
    refine ⟨h0, ?_⟩
    simp only [Tr.ev] at h
    subst h
    simp only [bdR, h1, zif, cond_true, dE]
    rfl
  · exact h.elim

noncomputable def man8 : FuncId → Option Ctr := fun k => match k with
  | 28 => some cMade
  | 29 => some cPoss
  | 30 => some cBnd1
  | 31 => some cPath1
  | 32 => some cEx44
  | 63 => some cSpn1
  | _ => none

theorem man8_ok (k : Nat) (c : Ctr) (h : man8 k = some c) : CtrOK Try.prog k c ∧ goodF Try.prog k = true := by
  unfold man8 at h
  split at h <;> first | (cases h; done) | (cases h)
  · exact ⟨cMade_ok, by kernel_rfl⟩
  · exact ⟨cPoss_ok, by kernel_rfl⟩
  · exact ⟨cBnd1_ok, by kernel_rfl⟩
  · exact ⟨cPath1_ok, by kernel_rfl⟩
  · exact ⟨cEx44_ok, by kernel_rfl⟩
  · exact ⟨cSpn1_ok, by kernel_rfl⟩

noncomputable def C8 : Ctx := ctxN Try.prog man8 (fun _ => false) 200 .nil 3
theorem C8_ok : CtxOK Try.prog C8 := ctxN_ok mixed man8_ok 3
noncomputable def D8 : Dr := fun _ => drawn Try.prog C8
theorem D8_ok : DrOK Try.prog C8 D8 := drawn_ok C8_ok mixed
noncomputable def T8 (k : Nat) (args : List SV) (h : Hint) : Tree SV := fnT Try.prog C8 D8 200 (fnOf Try.prog k) (bodyOf Try.prog k) args h

structure Law8 (k : Nat) (ss : List SV) : Prop where
  ok : ∃ h, (T8 k ss h).sat Try.prog (· = bv true)

theorem law_ctr8 {k : Nat} {okA : List SV → Prop} (hf : (Try.prog.funcs[k]?).isSome = true) (hb : (fnOf Try.prog k).body.isSome = true) (h : ∀ ss, okA ss → Law8 k ss) :
    ∃ c : Ctr, CtrOK Try.prog k c ∧ ∀ ss, okA ss → (c ss).ev (bv true) := by
  refine ⟨fun ss => .need (okA ss) (.ret (bv true)), ?_, fun ss hs => ⟨hs, rfl⟩⟩
  refine ctrOK_of C8_ok D8_ok (fn := fnOf Try.prog k) (body := bodyOf Try.prog k) (by
    unfold fnOf
    cases hk : Try.prog.funcs[k]? with
    | none => rw [hk] at hf; cases hf
    | some f => rfl) (by
    unfold bodyOf
    cases hk : (fnOf Try.prog k).body with
    | none => rw [hk] at hb; cases hb
    | some f => rfl) fun ss r hr => ?_
  obtain ⟨h1, rfl⟩ := hr
  obtain ⟨hint, h2⟩ := (h ss h1).ok
  exact ⟨200, hint, h2⟩

theorem okRaw44 {ds : List DV} (h : okT Try.prog 6 24 ds) : ∃ lo wi st er n cell, (0 ≤ lo ∧ lo < 256) ∧ (0 ≤ wi ∧ wi < 256) ∧ (0 ≤ st ∧ st < 256) ∧ (0 ≤ er ∧ er < 256) ∧ n ≤ maxLen ∧ (∀ i, i < n → ∃ b, cell i 0 = .x (.int .u8 b) ∧ 0 ≤ b ∧ b < 256) ∧
    svT Try.prog 24 ds = .agg [u8 lo, u8 wi, u8 st, u8 er, .d (.ro n 1 cell)] := by
  simp [okT, okFs, Try.underlying24, Try.underlying5, Try.underlying25, cells5] at h
  obtain ⟨_, _, rfl, ⟨lo, w1, rfl⟩, _, _, rfl, ⟨wi, w2, rfl⟩, _, _, rfl, ⟨st, w3, rfl⟩, _, _, rfl, ⟨er, w4, rfl⟩, n, hn, cell, rfl, hc⟩ := h
  refine ⟨lo, wi, st, er, n, cell, wf_u8 w1, wf_u8 w2, wf_u8 w3, wf_u8 w4, hn, fun i hi => ?_, ?_⟩
  · obtain ⟨b, hb, e⟩ := hc i hi
    exact ⟨b, by simpa using e, wf_u8 hb⟩
  · simp [svT, Try.underlying24, u8, cells5]

/-! ### Bounds and spans -/

variable {lo hi st er : Int} {L p : Nat → Int} {n k : Nat}

theorem sL_n : sL lo st er n L n = dL lo st er L n := by
  unfold sL; rw [show n + 1 - n = 0 + 1 by omega]; simp [stL]
theorem sH_n : sH hi st er n L n = dH hi st er L n := by
  unfold sH; rw [show n + 1 - n = 0 + 1 by omega]; simp [stH]
theorem sL_i (h : k < n) : sL lo st er n L k = max (dL lo st er L k) (sL lo st er n L (k + 1) - st) := by
  unfold sL
  rw [show n + 1 - k = (n - k) + 1 by omega, show n + 1 - (k + 1) = n - k by omega]
  simp only [stL]
  rw [if_neg (by omega), show n - (n - k) = k by omega]
theorem sH_i (h : k < n) : sH hi st er n L k = min (dH hi st er L k) (sH hi st er n L (k + 1) + st) := by
  unfold sH
  rw [show n + 1 - k = (n - k) + 1 by omega, show n + 1 - (k + 1) = n - k by omega]
  simp only [stH]
  rw [if_neg (by omega), show n - (n - k) = k by omega]

theorem stepB_iff : stepB st er L p k = true ↔ 1 ≤ p (k + 1) ∧ p k - st ≤ p (k + 1) ∧ p (k + 1) ≤ p k + st ∧ p (k + 1) - er ≤ L k ∧ L k ≤ p (k + 1) + er := by
  unfold stepB
  simp only [Bool.and_eq_true, decide_eq_true_eq]
  constructor
  · rintro ⟨⟨a, b, c⟩, d, e⟩; exact ⟨a, b, c, d, e⟩
  · rintro ⟨a, b, c, d, e⟩; exact ⟨⟨a, b, c⟩, d, e⟩

/-- A possible path lies within the bounds. -/
theorem path_in (hv : dV lo hi st er) (hp : ∀ k, k ≤ n → p k ≤ 1000000000) : ∀ k, k ≤ n → pthB lo hi st er L p k = true → dB lo hi st er L k = true ∧ dL lo st er L k ≤ p k ∧ p k ≤ dH hi st er L k
  | 0, _, h => by simpa [pthB, dB, dL, dH] using h
  | k + 1, hk, h => by
    simp only [pthB, Bool.and_eq_true] at h
    obtain ⟨i1, i2, i3⟩ := path_in hv hp k (by omega) h.1
    have h2 := stepB_iff.1 h.2
    have := hv.s; have := hv.e; have := hp (k + 1) hk
    have a : dL lo st er L (k + 1) ≤ p (k + 1) ∧ p (k + 1) ≤ dH hi st er L (k + 1) := by
      simp only [dL, dH, nL, nH]; unfold cR; omega
    refine ⟨?_, a⟩
    simp only [dB, i1, Bool.true_and, decide_eq_true_eq]; omega

theorem span_in (hv : dV lo hi st er) (hp : ∀ k, k ≤ n → p k ≤ 1000000000) (hb : pthB lo hi st er L p n = true) : ∀ j, j ≤ n → sL lo st er n L (n - j) ≤ p (n - j) ∧ p (n - j) ≤ sH hi st er n L (n - j)
  | 0, _ => by
    have := path_in hv hp n (Nat.le_refl n) hb
    rw [Nat.sub_zero, sL_n, sH_n]; exact this.2
  | j + 1, hj => by
    have ih := span_in hv hp hb j (by omega)
    have hk : n - (j + 1) < n := by omega
    have e : n - (j + 1) + 1 = n - j := by omega
    have hb2 := pthB_mono (show n - (j + 1) + 1 ≤ n by omega) hb
    simp only [pthB, Bool.and_eq_true] at hb2
    have h1 := path_in hv hp (n - (j + 1)) (by omega) hb2.1
    have h2 := stepB_iff.1 hb2.2
    rw [sL_i hk, sH_i hk, e]
    rw [e] at h2
    omega

/-- The walk that Made makes. -/
theorem walk_pos {lo wi s e : Int} {B : Nat → Int} (h1 : 0 ≤ lo) (h2 : 0 ≤ wi) (hs : 0 ≤ s ∧ s ≤ 5) (he : 0 ≤ e ∧ e ≤ 5) : ∀ k, pthB (sLo lo) (sHi lo wi) s e (lS lo wi s e B) (fS lo wi s B) k = true
  | 0 => by
    have := Int.emod_nonneg lo (show 1 + wi % 8 ≠ 0 by omega)
    have := Int.emod_lt_of_pos lo (show 0 < 1 + wi % 8 by omega)
    have e0 : fS lo wi s B 0 = sLo lo + lo % (1 + wi % 8) := rfl
    have e1 : sHi lo wi = sLo lo + wi % 8 := rfl
    show (decide (sLo lo ≤ fS lo wi s B 0) && decide (fS lo wi s B 0 ≤ sHi lo wi)) = true
    rw [e0, e1, Bool.and_eq_true, decide_eq_true_eq, decide_eq_true_eq]; omega
  | k + 1 => by
    have ih := walk_pos h1 h2 hs he (B := B) k
    have f1 := (fS_b (B := B) h1 h2 hs k).1
    simp only [pthB, ih, Bool.true_and]
    have n1 := fNx_b (f := fS lo wi s B k) (b := B (2 * k)) hs
    have e1 : fS lo wi s B (k + 1) = fNx (fS lo wi s B k) (B (2 * k)) s := rfl
    have := Int.emod_nonneg (B (2 * k + 1)) (show 2 * e + 1 ≠ 0 by omega)
    have := Int.emod_lt_of_pos (B (2 * k + 1)) (show 0 < 2 * e + 1 by omega)
    have e2 : lS lo wi s e B k = fS lo wi s B (k + 1) + B (2 * k + 1) % (2 * e + 1) - e := rfl
    rw [← e1] at n1
    rw [stepB_iff]
    omega

/-- What is known of Made's walk. -/
structure WalkOK (lo wi st er : Int) (B : Nat → Int) (n : Nat) : Prop where
  l : 0 ≤ lo ∧ lo < 256
  w : 0 ≤ wi ∧ wi < 256
  s : 0 ≤ st ∧ st < 256
  e : 0 ≤ er ∧ er < 256
  len : n ≤ maxLen
  b : ∀ i, i < n → 0 ≤ B i ∧ B i < 256

theorem WalkOK.dv {lo wi st er : Int} {B : Nat → Int} (h : WalkOK lo wi st er B n) : dV (sLo lo) (sHi lo wi) (st % 6) (er % 6) := by
  have := h.l; have := h.w; have := h.s; have := h.e
  have : sHi lo wi = sLo lo + wi % 8 := rfl
  have : sLo lo = 1 + lo % 40 := rfl
  exact ⟨by omega, by omega, by omega, by omega⟩

theorem WalkOK.f {lo wi st er : Int} {B : Nat → Int} (h : WalkOK lo wi st er B n) (k : Nat) (hk : k ≤ 12) : 1 ≤ fS lo wi (st % 6) B k ∧ fS lo wi (st % 6) B k ≤ 107 := by
  have := fS_b (B := B) (s := st % 6) h.l.1 h.w.1 (by omega) k
  omega

theorem WalkOK.r {lo wi st er : Int} {B : Nat → Int} (h : WalkOK lo wi st er B n) (k : Nat) (hk : k < 12) : -5 ≤ lS lo wi (st % 6) (er % 6) B k ∧ lS lo wi (st % 6) (er % 6) B k ≤ 112 := by
  have := h.f (k + 1) (by omega)
  have e2 : lS lo wi (st % 6) (er % 6) B k = fS lo wi (st % 6) B (k + 1) + B (2 * k + 1) % (2 * (er % 6) + 1) - (er % 6) := rfl
  have := h.e
  have := Int.emod_nonneg (B (2 * k + 1)) (show 2 * (er % 6) + 1 ≠ 0 by omega)
  have := Int.emod_lt_of_pos (B (2 * k + 1)) (show 0 < 2 * (er % 6) + 1 by omega)
  omega

theorem WalkOK.pos {lo wi st er : Int} {B : Nat → Int} (h : WalkOK lo wi st er B n) (k : Nat) : pthB (sLo lo) (sHi lo wi) (st % 6) (er % 6) (lS lo wi (st % 6) (er % 6) B) (fS lo wi (st % 6) B) k = true :=
  walk_pos h.l.1 h.w.1 (by have := h.s; omega) (by have := h.e; omega) k

theorem WalkOK.dB {lo wi st er : Int} {B : Nat → Int} (h : WalkOK lo wi st er B n) (k : Nat) (hk : k ≤ 12) : dB (sLo lo) (sHi lo wi) (st % 6) (er % 6) (lS lo wi (st % 6) (er % 6) B) k = true :=
  (path_in (n := k) h.dv (fun j hj => by have := h.f j (by omega); omega) k (Nat.le_refl k) (h.pos k)).1

theorem kS_le (n : Nat) : kS n ≤ 12 := by unfold kS; omega

end Go.Proofs.Ytcbjclmjkilphaa

namespace Go.Proofs.Ytcbjclmjkilphaa
open Go.Sx
set_option maxRecDepth 100000

noncomputable def tO (d1 d2 d3 d4 : Int) (m : Nat) (p : Nat → Int) (n : Nat) (L : Nat → Int) (ka kb : Int) : Tree SV := fnT Try.prog C0 D0 200 (fnOf Try.prog 36) (bodyOf Try.prog 36) [.agg [iv d1, iv d2, iv d3, iv d4, ro64 m p, ro64 n L], .agg [u8 ka, u8 kb]] .nil
noncomputable def LO (d1 d2 d3 d4 : Int) (m : Nat) (p : Nat → Int) (n : Nat) (L : Nat → Int) (ka kb : Int) : Tree SV :=
  .need (0 ≤ 0 ∧ True ∧ (0 + n) * 8 ≤ 140737488355328)
  (.ite (decide ((↑(0 + n) : Int) > (0 : Int)))
    (.need ((0 : Int) ≤ (0 : Int) ∧ (0 : Int) < (2 : Int))
      (.need (0 < 2)
        (.need ((↑(0 + n) : Int) ≠ (0 : Int))
          (.need ((0 : Int) ≤ Int.tmod (w64 ka) (↑(0 + n) : Int) ∧ Int.tmod (w64 ka) (↑(0 + n) : Int) < (↑(0 + n) : Int))
            (.need (0 + Int.toNat (Int.tmod (w64 ka) (↑(0 + n) : Int)) < 0 + n)
              (.need ((0 : Int) ≤ (1 : Int) ∧ (1 : Int) < (2 : Int))
                (.need (1 < 2)
                  (.need ((32 : Int) ≠ (0 : Int))
                    (.need ((0 : Int) ≤ Int.tmod (w64 ka) (↑(0 + n) : Int) ∧ Int.tmod (w64 ka) (↑(0 + n) : Int) < (↑(0 + n) : Int))
                      (.need (0 + Int.toNat (Int.tmod (w64 ka) (↑(0 + n) : Int)) < 0 + n)
                        (.need (0 + (0 + n) ≤ 0 + n)
                          (.ret
                            (.d
                              (DV.ro (0 + n) 1 fun i j =>
                                if 0 ≤ j ∧ j < 1 then
                                  selD (decide (0 + i = 0 + Int.toNat (Int.tmod (w64 ka) (↑(0 + n) : Int))))
                                    (match
                                      [DV.x
                                            (.int .i64
                                              (w64
                                                (L ((0 : Nat) + Int.toNat (Int.tmod (w64 (List.getD [ka, kb] (Int.toNat (0 : Int)) (0 : Int))) (↑((0 : Nat) + n) : Int)) - (0 : Nat)) +
                                                  w64 (w64 (Int.tmod kb (32 : Int)) - (16 : Int)))))][j - 0]? with
                                    | some x => x
                                    | none => DV.x (.tuple { toList := [] }))
                                    (DV.x (.int .i64 (L ((0 : Nat) + i - (0 : Nat)))))
                                else DV.x (.int .i64 (L ((0 : Nat) + i - (0 : Nat))))))))))))))))))
    (.need (0 + (0 + n) ≤ 0 + n) (.ret (.d (DV.ro (0 + n) 1 fun i j => DV.x (.int .i64 (L ((0 : Nat) + i - (0 : Nat)))))))))

theorem LO_eq (d1 d2 d3 d4 : Int) (m : Nat) (p : Nat → Int) (n : Nat) (L : Nat → Int) (ka kb : Int) : tO d1 d2 d3 d4 m p n L ka kb = LO d1 d2 d3 d4 m p n L ka kb := by kernel_rfl


/-- Readings with one of them changed. -/
def oL (n : Nat) (L : Nat → Int) (ka kb : Int) (i : Nat) : Int := if 0 < n ∧ i = ka.toNat % n then L i + (kb % 32 - 16) else L i

theorem odd_sat {d1 d2 d3 d4 : Int} {m : Nat} {p : Nat → Int} {n : Nat} {L : Nat → Int} {ka kb : Int} (hn : n ≤ 1000) (ha : 0 ≤ ka ∧ ka < 256) (hb : 0 ≤ kb ∧ kb < 256) (hL : ∀ i, i < n → -4000000000000000000 ≤ L i ∧ L i ≤ 4000000000000000000) :
    Sat Try.prog (tO d1 d2 d3 d4 m p n L ka kb) fun r => leSV 0 [] [] r (ro64 n (oL n L ka kb)) := by
  constructor
  rw [LO_eq]; unfold LO
  have e0 : w64 ka = ka := w64_of (by omega) (by omega)
  have e2 : w64 (Int.tmod kb 32) = kb % 32 := by rw [tmod_lit hb.1, w64_of (by omega) (by omega)]
  have e3 : w64 (kb % 32 - 16) = kb % 32 - 16 := w64_of (by omega) (by omega)
  simp only [Nat.zero_add, Nat.sub_zero, e0, e2, e3]
  refine ⟨⟨by decide, trivial, by omega⟩, fun h => ?_, fun h => ?_⟩
  · have hn0 : 0 < n := by simp only [decide_eq_true_eq] at h; omega
    have e1 : Int.tmod ka n = ((ka.toNat % n : Nat) : Int) := by
      rw [tmod_lit ha.1]
      have : ka = ((ka.toNat : Nat) : Int) := by omega
      rw [this, Int.natCast_emod]; simp
    have hlt : ka.toNat % n < n := Nat.mod_lt _ hn0
    rw [show List.getD [ka, kb] (Int.toNat 0) 0 = ka from rfl, e0, e1]
    simp only [Int.toNat_natCast, Nat.zero_add, Nat.sub_zero]
    have hLi := hL _ hlt
    have e4 : w64 (L (ka.toNat % n) + (kb % 32 - 16)) = L (ka.toNat % n) + (kb % 32 - 16) := w64_of (by omega) (by omega)
    refine ⟨by decide, by decide, by omega, by omega, by omega, by decide, by decide, by decide, by omega, by omega, by omega, ?_⟩
    show leSV 0 [] [] _ _
    simp only [ro64, leSV, leD, true_and]
    intro i j hi hj
    obtain rfl : j = 0 := by omega
    rw [if_pos (by decide), selD_eq]
    simp only [Nat.sub_zero, List.getElem?_cons_zero, e4]
    by_cases hc : i = ka.toNat % n
    · subst hc; simp [oL, hn0]
    · simp [oL, hc]
  · have hn0 : n = 0 := by simp only [decide_eq_false_iff_not] at h; omega
    refine ⟨by omega, ?_⟩
    show leSV 0 [] [] _ _
    simp only [ro64, leSV, leD, true_and]
    intro i j hi hj
    omega

noncomputable def cOdd : Ctr := fun ss => match ss with
  | [.agg [.d (.x (.int .i64 d1)), .d (.x (.int .i64 d2)), .d (.x (.int .i64 d3)), .d (.x (.int .i64 d4)), .d (.ro m 1 cel2), .d (.ro n 1 cell)], .agg [.d (.x (.int .u8 ka)), .d (.x (.int .u8 kb))]] =>
    .need (n ≤ 1000 ∧ (0 ≤ ka ∧ ka < 256) ∧ (0 ≤ kb ∧ kb < 256) ∧ (∀ i, i < m → ∃ b, cel2 i 0 = .x (.int .i64 b)) ∧ ∀ i, i < n → ∃ b, cell i 0 = .x (.int .i64 b) ∧ -4000000000000000000 ≤ b ∧ b ≤ 4000000000000000000) (.ret (ro64 n (oL n (intCell cell) ka kb)))
  | _ => .fail

theorem cOdd_ok : CtrOK Try.prog 36 cOdd := by
  refine ctrOK_leR C0_ok D0_ok (by kernel_rfl) (by kernel_rfl) fun ss r h => ?_
  unfold cOdd at h
  split at h
  · rename_i d1 d2 d3 d4 m cel2 n cell ka kb
    obtain ⟨⟨hn, ha, hb, hc2, hc⟩, rfl⟩ := h
    refine ⟨[.agg [iv d1, iv d2, iv d3, iv d4, ro64 m (intCell cel2), ro64 n (intCell cell)], .agg [u8 ka, u8 kb]], 200, .nil, ?_, odd_sat hn ha hb fun i hi => ?_⟩
    · simp only [leSVs, leSV, iv, u8, ro64, leD, and_true, true_and]
      exact ⟨le_ro64 hc2, le_ro64 fun i hi => by obtain ⟨b, e, _⟩ := hc i hi; exact ⟨b, e⟩⟩
    · obtain ⟨b, e, h⟩ := hc i hi
      simpa [intCell, e, intOf1] using h
  · exact h.elim

/-- drift.Path, told so that what hangs on tests stands at the leaves. -/
def inB (lo hi st er : Int) (n : Nat) (L : Nat → Int) (last : Int) : Bool := decide (dL lo st er L n ≤ last) && decide (last ≤ dH hi st er L n)
noncomputable def pzR (lo hi st er : Int) (n : Nat) (L : Nat → Int) (last : Int) : SV :=
  .tup [.d (.ro (bif dB lo hi st er L n && inB lo hi st er n L last then n + 1 else 0) 1 fun i _ => xi (pth lo hi st er n L last i)), iv (bif dB lo hi st er L n then (bif inB lo hi st er n L last then 0 else 4) else 440)]
noncomputable def cPathZ : Ctr := fun ss => match ss with
  | [.d (.x (.int .i64 lo)), .d (.x (.int .i64 hi)), .d (.x (.int .i64 st)), .d (.x (.int .i64 er)), .d (.ro n 1 cell), .d (.x (.int .i64 last))] =>
    .need (dV lo hi st er ∧ n ≤ 1000 ∧ ∀ i, i < n → ∃ b, cell i 0 = .x (.int .i64 b)) (.ret (pzR lo hi st er n (intCell cell) last))
  | _ => .fail

theorem cPathZ_ok : CtrOK Try.prog 31 cPathZ := cPath_ok.leR fun ss r h => by
  unfold cPathZ at h
  split at h
  · rename_i lo hi st er n cell last
    obtain ⟨h0, h⟩ := h
    simp only [Tr.ev] at h
    subst h
    cases hb : dB lo hi st er (intCell cell) n with
    | false =>
      refine ⟨.tup [.d (.x (.slice none 0 0)), iv 440], ⟨h0, ?_⟩, ?_⟩
      · unfold paT; rw [hb]; exact .inr ⟨rfl, rfl⟩
      · simp [pzR, hb, leSV, leSVs, leD, iv]
    | true =>
      cases hi2 : inB lo hi st er n (intCell cell) last with
      | false =>
        refine ⟨.tup [.d (.x (.slice none 0 0)), iv 4], ⟨h0, ?_⟩, ?_⟩
        · unfold paT; rw [hb]; exact .inl ⟨rfl, .inr ⟨hi2, rfl⟩⟩
        · simp [pzR, hb, hi2, leSV, leSVs, leD, iv]
      | true =>
        refine ⟨.tup [.d (.ro (n + 1) 1 fun i _ => xi (pth lo hi st er n (intCell cell) last i)), iv 0], ⟨h0, ?_⟩, ?_⟩
        · unfold paT; rw [hb]; exact .inl ⟨rfl, .inl ⟨hi2, rfl⟩⟩
        · simp [pzR, hb, hi2, leSV, leSVs, leD, iv]
  · exact h.elim

noncomputable def man9 : FuncId → Option Ctr := fun k => match k with
  | 28 => some cMade
  | 29 => some cPoss
  | 30 => some cBounds
  | 31 => some cPathZ
  | 32 => some cEx44
  | 36 => some cOdd
  | _ => none

theorem man9_ok (k : Nat) (c : Ctr) (h : man9 k = some c) : CtrOK Try.prog k c ∧ goodF Try.prog k = true := by
  unfold man9 at h
  split at h <;> first | (cases h; done) | (cases h)
  · exact ⟨cMade_ok, by kernel_rfl⟩
  · exact ⟨cPoss_ok, by kernel_rfl⟩
  · exact ⟨cBounds_ok, by kernel_rfl⟩
  · exact ⟨cPathZ_ok, by kernel_rfl⟩
  · exact ⟨cEx44_ok, by kernel_rfl⟩
  · exact ⟨cOdd_ok, by kernel_rfl⟩

noncomputable def C9 : Ctx := ctxN Try.prog man9 (fun _ => false) 200 .nil 3
theorem C9_ok : CtxOK Try.prog C9 := ctxN_ok mixed man9_ok 3
noncomputable def D9 : Dr := fun _ => drawn Try.prog C9
theorem D9_ok : DrOK Try.prog C9 D9 := drawn_ok C9_ok mixed
noncomputable def T9 (k : Nat) (args : List SV) (h : Hint) : Tree SV := fnT Try.prog C9 D9 200 (fnOf Try.prog k) (bodyOf Try.prog k) args h

structure Law9 (k : Nat) (ss : List SV) : Prop where
  ok : ∃ h, (T9 k ss h).sat Try.prog (· = bv true)

theorem law_ctr9 {k : Nat} {okA : List SV → Prop} (hf : (Try.prog.funcs[k]?).isSome = true) (hb : (fnOf Try.prog k).body.isSome = true) (h : ∀ ss, okA ss → Law9 k ss) :
    ∃ c : Ctr, CtrOK Try.prog k c ∧ ∀ ss, okA ss → (c ss).ev (bv true) := by
  refine ⟨fun ss => .need (okA ss) (.ret (bv true)), ?_, fun ss hs => ⟨hs, rfl⟩⟩
  refine ctrOK_of C9_ok D9_ok (fn := fnOf Try.prog k) (body := bodyOf Try.prog k) (by
    unfold fnOf
    cases hk : Try.prog.funcs[k]? with
    | none => rw [hk] at hf; cases hf
    | some f => rfl) (by
    unfold bodyOf
    cases hk : (fnOf Try.prog k).body with
    | none => rw [hk] at hb; cases hb
    | some f => rfl) fun ss r hr => ?_
  obtain ⟨h1, rfl⟩ := hr
  obtain ⟨hint, h2⟩ := (h ss h1).ok
  exact ⟨200, hint, h2⟩

end Go.Proofs.Ytcbjclmjkilphaa

namespace Go.Proofs.Ytcbjclmjkilphaa
open Go.Sx
set_option maxRecDepth 100000

noncomputable def roB (n : Nat) (c : Nat → Bool) : SV := .d (.ro n 1 fun i _ => .x (.bool (c i)))
noncomputable def tW (n : Nat) (c : Nat → Bool) (lo hi : Int) : Tree SV := fnT Try.prog C0 D0 200 (fnOf Try.prog 38) (bodyOf Try.prog 38) [roB n c, iv lo, iv hi] .nil
noncomputable def LW (n : Nat) (c : Nat → Bool) (lo hi : Int) : Tree SV :=
  .code (codeC (sub [] (tW n c lo hi))) (codeS (sub [] (tW n c lo hi))) (codeK (sub [] (tW n c lo hi)))

theorem LW_eq (n : Nat) (c : Nat → Bool) (lo hi : Int) : tW n c lo hi = LW n c lo hi := by kernel_rfl

noncomputable def invW (n : Nat) (c : Nat → Bool) (lo hi i : Int) : AS := ⟨[.ok (roB n c), .ok (iv lo), .ok (iv hi), .unk, .unk, .unk, .ok (bv false), .ok (iv i)] ++ List.replicate 19 .unk, [], 0, .nil⟩
noncomputable def bodyW : Code := loopN (bodyOf Try.prog 38) 0
noncomputable def BW (n : Nat) (c : Nat → Bool) (lo hi i : Int) : Tree (Ex × AS) :=
  .ite (decide (i < (↑n : Int)))
  (.need ((0 : Int) ≤ i ∧ i < (↑n : Int))
    (.ite (!c (Int.toNat i) == (decide (i ≥ lo) && decide (i ≤ hi)))
      (.ret
        (.ret,
          {
            tm :=
              [.ok (SV.d (DV.ro n 1 fun i x => DV.x (.bool (c i)))), .ok (iv lo), .ok (iv hi), .unk, .unk, .unk, .ok (bv false), .ok (iv i), .unk, .unk, .unk, .unk, .unk, .unk, .unk, .unk,
                .unk, .unk, .unk, .unk, .unk, .unk, .unk, .unk, .unk, .unk, .unk],
            hp := [], next := 0, hint := .nil }))
      (.ret
        (.normal,
          {
            tm :=
              [.ok (SV.d (DV.ro n 1 fun i x => DV.x (.bool (c i)))), .ok (iv lo), .ok (iv hi), .unk, .unk, .unk, .ok (bv false), .ok (iv (w64 (i + (1 : Int)))), .unk, .unk, .unk, .unk, .unk, .unk,
                .unk, .unk, .unk, .unk, .unk, .unk, .unk, .unk, .unk, .unk, .unk, .unk, .unk],
            hp := [], next := 0, hint := .nil }))))
  (.ret
    (.exit 0,
      {
        tm :=
          [.ok (SV.d (DV.ro n 1 fun i x => DV.x (.bool (c i)))), .ok (iv lo), .ok (iv hi), .unk, .unk, .unk, .ok (bv false), .ok (iv i), .unk, .unk, .unk, .unk, .unk, .unk, .unk, .unk, .unk,
            .unk, .unk, .unk, .unk, .unk, .unk, .unk, .unk, .unk, .unk],
        hp := [], next := 0, hint := .nil }))

theorem BW_eq (n : Nat) (c : Nat → Bool) (lo hi i : Int) : cutT 0 [] [0, 1, 2, 6, 7] [] 0 .nil (exec Try.prog C0 D0 200 bodyW (invW n c lo hi i)) = BW n c lo hi i := by kernel_rfl

noncomputable def KW (n : Nat) (c : Nat → Bool) (lo hi i : Int) : Tree SV :=
  .ret (bv true)

theorem KW_eq (n : Nat) (c : Nat → Bool) (lo hi i : Int) : codeK (tW n c lo hi) (.exit 0) (invW n c lo hi i) = KW n c lo hi i := by kernel_rfl

noncomputable def KW2 (n : Nat) (c : Nat → Bool) (lo hi i : Int) : Tree SV :=
  .ret (bv false)

theorem KW2_eq (n : Nat) (c : Nat → Bool) (lo hi i : Int) : codeK (tW n c lo hi) .ret (invW n c lo hi i) = KW2 n c lo hi i := by kernel_rfl

noncomputable def tF (d1 d2 d3 d4 : Int) (n : Nat) (L : Nat → Int) : Tree SV := fnT Try.prog C0 D0 200 (fnOf Try.prog 37) (bodyOf Try.prog 37) [.agg [iv d1, iv d2, iv d3, iv d4, ro64 n L]] .nil
noncomputable def LF (d1 d2 d3 d4 : Int) (n : Nat) (L : Nat → Int) : Tree SV :=
  .need ((0 : Int) ≤ (200 : Int) ∧ (200 : Int) ≤ (200 : Int) ∧ (200 : Int) ≤ (140737488355328 : Int))
  (.code (codeC (sub [(0 : Nat)] (tF d1 d2 d3 d4 n L))) (codeS (sub [(0 : Nat)] (tF d1 d2 d3 d4 n L))) (codeK (sub [(0 : Nat)] (tF d1 d2 d3 d4 n L))))

theorem LF_eq (d1 d2 d3 d4 : Int) (n : Nat) (L : Nat → Int) : tF d1 d2 d3 d4 n L = LF d1 d2 d3 d4 n L := by kernel_rfl

noncomputable def rowB (n : Nat) (c : Nat → Bool) : Blk := .row n 1 fun i _ => .x (.bool (c i))
noncomputable def cH (d1 d2 d3 d4 : Int) (n : Nat) (L : Nat → Int) : Option Blk := some (.cells [iv d1, iv d2, iv d3, iv d4, ro64 n L])
noncomputable def invF1 (d1 d2 d3 d4 : Int) (n : Nat) (L : Nat → Int) (nb : Nat → Bool) (f : Int) : AS := ⟨[.unk, .ok (.ptr 0 0), .unk, .ok (.row 1 0 0 200 1), .ok (iv f)] ++ List.replicate 110 .unk, [cH d1 d2 d3 d4 n L, some (rowB 200 nb)], 2, .nil⟩
noncomputable def invF1r (d1 d2 d3 d4 : Int) (n : Nat) (L : Nat → Int) (c : Nat → Nat → DV) (f : Int) : AS := ⟨[.unk, .ok (.ptr 0 0), .unk, .ok (.row 1 0 0 200 1), .ok (iv f)] ++ List.replicate 110 .unk, [cH d1 d2 d3 d4 n L, some (.row 200 1 c)], 2, .nil⟩
noncomputable def bodyF1 : Code := loopN (bodyOf Try.prog 37) 0
noncomputable def BF1 (d1 d2 d3 d4 : Int) (n : Nat) (L : Nat → Int) (nb : Nat → Bool) (f : Int) : Tree (Ex × AS) :=
  .ite (decide (f ≤ d2) && decide (f < (200 : Int)))
  (.need ((0 : Int) ≤ f ∧ f < (200 : Int))
    (.need (0 + Int.toNat f < 200)
      (.ret
        (.normal,
          {
            tm :=
              [.unk, .ok (SV.ptr 0 0), .unk, .ok (SV.row 1 0 0 200 1), .ok (iv (w64 (f + (1 : Int)))), .unk, .unk, .unk, .unk, .unk, .unk, .unk,
                .unk, .unk, .unk, .unk, .unk, .unk, .unk, .unk, .unk, .unk, .unk, .unk, .unk, .unk, .unk, .unk, .unk, .unk, .unk, .unk, .unk, .unk, .unk, .unk, .unk, .unk, .unk, .unk,
                .unk, .unk, .unk, .unk, .unk, .unk, .unk, .unk, .unk, .unk, .unk, .unk, .unk, .unk, .unk, .unk, .unk, .unk, .unk, .unk, .unk, .unk, .unk, .unk, .unk, .unk, .unk, .unk,
                .unk, .unk, .unk, .unk, .unk, .unk, .unk, .unk, .unk, .unk, .unk, .unk, .unk, .unk, .unk, .unk, .unk, .unk, .unk, .unk, .unk, .unk, .unk, .unk, .unk, .unk, .unk, .unk,
                .unk, .unk, .unk, .unk, .unk, .unk, .unk, .unk, .unk, .unk, .unk, .unk, .unk, .unk, .unk, .unk, .unk, .unk, .unk],
            hp :=
              [some (.cells [iv d1, iv d2, iv d3, iv d4, SV.d (DV.ro n 1 fun i x => DV.x (.int .i64 (L i)))]),
                some
                  (.row 200 1 fun a b =>
                    if 0 ≤ b ∧ b < 1 then
                      selD (decide (a = 0 + Int.toNat f))
                        (match [DV.x (.bool true)][b - 0]? with
                        | some x => x
                        | none => DV.x (.tuple { toList := [] }))
                        (DV.x (.bool (nb a)))
                    else DV.x (.bool (nb a)))],
            next := 2, hint := .nil }))))
  (.ret
    (.exit 0,
      {
        tm :=
          [.unk, .ok (SV.ptr 0 0), .unk, .ok (SV.row 1 0 0 200 1), .ok (iv f), .unk, .unk, .unk, .unk, .unk, .unk, .unk, .unk, .unk, .unk,
            .unk, .unk, .unk, .unk, .unk, .unk, .unk, .unk, .unk, .unk, .unk, .unk, .unk, .unk, .unk, .unk, .unk, .unk, .unk, .unk, .unk, .unk, .unk, .unk, .unk, .unk, .unk, .unk,
            .unk, .unk, .unk, .unk, .unk, .unk, .unk, .unk, .unk, .unk, .unk, .unk, .unk, .unk, .unk, .unk, .unk, .unk, .unk, .unk, .unk, .unk, .unk, .unk, .unk, .unk, .unk, .unk,
            .unk, .unk, .unk, .unk, .unk, .unk, .unk, .unk, .unk, .unk, .unk, .unk, .unk, .unk, .unk, .unk, .unk, .unk, .unk, .unk, .unk, .unk, .unk, .unk, .unk, .unk, .unk, .unk,
            .unk, .unk, .unk, .unk, .unk, .unk, .unk, .unk, .unk, .unk, .unk, .unk, .unk, .unk, .unk, .unk],
        hp := [some (.cells [iv d1, iv d2, iv d3, iv d4, SV.d (DV.ro n 1 fun i x => DV.x (.int .i64 (L i)))]), some (.row 200 1 fun i x => DV.x (.bool (nb i)))], next := 2,
        hint := .nil }))

theorem BF1_eq (d1 d2 d3 d4 : Int) (n : Nat) (L : Nat → Int) (nb : Nat → Bool) (f : Int) : cutT 2 [] [1, 3, 4] [] 2 .nil (exec Try.prog C0 D0 200 bodyF1 (invF1 d1 d2 d3 d4 n L nb f)) = BF1 d1 d2 d3 d4 n L nb f := by kernel_rfl

noncomputable def kF1 (d1 d2 d3 d4 : Int) (n : Nat) (L : Nat → Int) (nb : Nat → Bool) (f : Int) : Tree SV := codeK (sub [0] (tF d1 d2 d3 d4 n L)) (.exit 0) (invF1 d1 d2 d3 d4 n L nb f)
noncomputable def KF1 (d1 d2 d3 d4 : Int) (n : Nat) (L : Nat → Int) (nb : Nat → Bool) (f : Int) : Tree SV :=
  .code (codeC (sub [] (kF1 d1 d2 d3 d4 n L nb f))) (codeS (sub [] (kF1 d1 d2 d3 d4 n L nb f))) (codeK (sub [] (kF1 d1 d2 d3 d4 n L nb f)))

theorem KF1_eq (d1 d2 d3 d4 : Int) (n : Nat) (L : Nat → Int) (nb : Nat → Bool) (f : Int) : kF1 d1 d2 d3 d4 n L nb f = KF1 d1 d2 d3 d4 n L nb f := by kernel_rfl

/-- A state at a loop, some rows told as values that stay. -/
noncomputable def entT {α : Type} (ls : List Nat) (n0 : Nat) (roots : List (Root × Nat)) (keep drop : List Nat) (nx : Nat) (h : Hint) (t : Tree α) : Tree AS :=
  needT (frzP ls (ups (codeS t) n0)) (match frcO (gcA n0 roots keep drop nx h (frzSt ls (ups (codeS t) n0))) with | some s => .ret s | none => .fail)
def Is (X : AS) : AS → Prop := fun s => s = X
theorem entT_gc {α : Type} {P : Program} {ls : List Nat} {n0 : Nat} {roots : List (Root × Nat)} {keep drop : List Nat} {nx : Nat} {h : Hint} {t : Tree α} {X : AS} (hs : Sat P (entT ls n0 roots keep drop nx h t) (Is X)) : Gc n0 (ups (codeS t) n0) X := by
  obtain ⟨hps, hs⟩ := needT_sat hs.ok
  split at hs
  · rename_i s he
    rw [frcO_eq] at he
    have hs : s = X := hs
    subst hs
    exact fun p μ0 a w h0 hsim => gcA_sound he p μ0 a w h0 (frz_sim P hsim hps)
  · exact hs.elim
noncomputable def ro2 (m : Nat) (fc : Nat → Nat → Bool) : Nat → Nat → DV := fun i _ => .ro 200 1 fun j _ => .x (.bool (fc i j))
noncomputable def invF2 (d1 d2 d3 d4 : Int) (n : Nat) (L : Nat → Int) (m : Nat) (fc : Nat → Nat → Bool) (i : Int) : AS :=
  ⟨[.unk, .ok (.ptr 0 0), .unk, .unk, .unk, .ok (.row 3 0 0 m 1), .ok (iv i)] ++ List.replicate 108 .unk, [cH d1 d2 d3 d4 n L, none, none, some (.row m 1 (ro2 m fc))], 4, .nil⟩
noncomputable def bodyF2 : Code := loopN (bodyOf Try.prog 37) 1
noncomputable def bF2 (d1 d2 d3 d4 : Int) (n : Nat) (L : Nat → Int) (m : Nat) (fc : Nat → Nat → Bool) (i : Int) : Tree (Ex × AS) := cutT 3 [(.slot 5, 3)] [1, 5, 6] [1, 2] 4 .nil (exec Try.prog C0 D0 200 bodyF2 (invF2 d1 d2 d3 d4 n L m fc i))
noncomputable def BF2 (d1 d2 d3 d4 : Int) (n : Nat) (L : Nat → Int) (m : Nat) (fc : Nat → Nat → Bool) (i : Int) : Tree (Ex × AS) :=
  .ite (decide (i < (↑n : Int)))
  (.need ((0 : Int) ≤ (200 : Int) ∧ (200 : Int) ≤ (200 : Int) ∧ (200 : Int) ≤ (140737488355328 : Int))
    (.code (codeC (sub [(0 : Nat), (0 : Nat)] (bF2 d1 d2 d3 d4 n L m fc i))) (codeS (sub [(0 : Nat), (0 : Nat)] (bF2 d1 d2 d3 d4 n L m fc i))) (codeK (sub [(0 : Nat), (0 : Nat)] (bF2 d1 d2 d3 d4 n L m fc i)))))
  (.ret
    (.exit 2,
      {
        tm :=
          [.unk, .ok (SV.ptr 0 0), .unk, .unk, .unk, .ok (SV.row 3 0 0 m 1), .ok (iv i), .unk, .unk, .unk, .unk, .unk, .unk, .unk, .unk, .unk,
            .unk, .unk, .unk, .unk, .unk, .unk, .unk, .unk, .unk, .unk, .unk, .unk, .unk, .unk, .unk, .unk, .unk, .unk, .unk, .unk, .unk, .unk, .unk, .unk, .unk, .unk, .unk, .unk,
            .unk, .unk, .unk, .unk, .unk, .unk, .unk, .unk, .unk, .unk, .unk, .unk, .unk, .unk, .unk, .unk, .unk, .unk, .unk, .unk, .unk, .unk, .unk, .unk, .unk, .unk, .unk, .unk,
            .unk, .unk, .unk, .unk, .unk, .unk, .unk, .unk, .unk, .unk, .unk, .unk, .unk, .unk, .unk, .unk, .unk, .unk, .unk, .unk, .unk, .unk, .unk, .unk, .unk, .unk, .unk, .unk,
            .unk, .unk, .unk, .unk, .unk, .unk, .unk, .unk, .unk, .unk, .unk, .unk, .unk, .unk, .unk],
        hp :=
          [some (.cells [iv d1, iv d2, iv d3, iv d4, SV.d (DV.ro n 1 fun i x => DV.x (.int .i64 (L i)))]), none, none,
            some (.row m 1 fun i x => DV.ro 200 1 fun j x => DV.x (.bool (fc i j)))],
        next := 4, hint := .nil }))

theorem BF2_eq (d1 d2 d3 d4 : Int) (n : Nat) (L : Nat → Int) (m : Nat) (fc : Nat → Nat → Bool) (i : Int) : bF2 d1 d2 d3 d4 n L m fc i = BF2 d1 d2 d3 d4 n L m fc i := by kernel_rfl

noncomputable def KF2 (d1 d2 d3 d4 : Int) (n : Nat) (L : Nat → Int) (nb : Nat → Bool) (f : Int) (m : Nat) (fc : Nat → Nat → Bool) (i : Int) : Tree SV :=
  .need (0 + m ≤ m) (.ret (SV.d (DV.ro m 1 fun i j => DV.ro 200 1 fun j x => DV.x (.bool (fc ((0 : Nat) + i) j)))))

theorem KF2_eq (d1 d2 d3 d4 : Int) (n : Nat) (L : Nat → Int) (nb : Nat → Bool) (f : Int) (m : Nat) (fc : Nat → Nat → Bool) (i : Int) : codeK (kF1 d1 d2 d3 d4 n L nb f) (.exit 2) (invF2 d1 d2 d3 d4 n L m fc i) = KF2 d1 d2 d3 d4 n L nb f m fc i := by kernel_rfl

noncomputable def invF3 (d1 d2 d3 d4 : Int) (n : Nat) (L : Nat → Int) (m : Nat) (fc : Nat → Nat → Bool) (i : Int) (nb : Nat → Bool) (f : Int) : AS :=
  ⟨[.unk, .ok (.ptr 0 0), .unk, .unk, .unk, .ok (.row 3 0 0 m 1), .ok (iv i), .ok (.row 4 0 0 200 1), .ok (iv f)] ++ List.replicate 106 .unk, [cH d1 d2 d3 d4 n L, none, none, some (.row m 1 (ro2 m fc)), some (rowB 200 nb)], 5, .nil⟩
noncomputable def invF3r (d1 d2 d3 d4 : Int) (n : Nat) (L : Nat → Int) (m : Nat) (fc : Nat → Nat → Bool) (i : Int) (c : Nat → Nat → DV) (f : Int) : AS :=
  ⟨[.unk, .ok (.ptr 0 0), .unk, .unk, .unk, .ok (.row 3 0 0 m 1), .ok (iv i), .ok (.row 4 0 0 200 1), .ok (iv f)] ++ List.replicate 106 .unk, [cH d1 d2 d3 d4 n L, none, none, some (.row m 1 (ro2 m fc)), some (.row 200 1 c)], 5, .nil⟩
noncomputable def bodyF3 : Code := loopN (bodyOf Try.prog 37) 2
noncomputable def bF3 (d1 d2 d3 d4 : Int) (n : Nat) (L : Nat → Int) (m : Nat) (fc : Nat → Nat → Bool) (i : Int) (nb : Nat → Bool) (f : Int) : Tree (Ex × AS) := cutT 5 [] [1, 5, 6, 7, 8] [1, 2] 5 .nil (exec Try.prog C0 D0 200 bodyF3 (invF3 d1 d2 d3 d4 n L m fc i nb f))
noncomputable def BF3 (d1 d2 d3 d4 : Int) (n : Nat) (L : Nat → Int) (m : Nat) (fc : Nat → Nat → Bool) (i : Int) (nb : Nat → Bool) (f : Int) : Tree (Ex × AS) :=
  .ite (decide (f < (200 : Int))) (.code (codeC (sub [(0 : Nat)] (bF3 d1 d2 d3 d4 n L m fc i nb f))) (codeS (sub [(0 : Nat)] (bF3 d1 d2 d3 d4 n L m fc i nb f))) (codeK (sub [(0 : Nat)] (bF3 d1 d2 d3 d4 n L m fc i nb f))))
  (.ret
    (.exit 4,
      {
        tm :=
          [.unk, .ok (SV.ptr 0 0), .unk, .unk, .unk, .ok (SV.row 3 0 0 m 1), .ok (iv i), .ok (SV.row 4 0 0 200 1),
            .ok (iv f), .unk, .unk, .unk, .unk, .unk, .unk, .unk, .unk, .unk, .unk, .unk, .unk, .unk, .unk, .unk, .unk, .unk, .unk, .unk, .unk, .unk, .unk, .unk, .unk, .unk, .unk,
            .unk, .unk, .unk, .unk, .unk, .unk, .unk, .unk, .unk, .unk, .unk, .unk, .unk, .unk, .unk, .unk, .unk, .unk, .unk, .unk, .unk, .unk, .unk, .unk, .unk, .unk, .unk, .unk,
            .unk, .unk, .unk, .unk, .unk, .unk, .unk, .unk, .unk, .unk, .unk, .unk, .unk, .unk, .unk, .unk, .unk, .unk, .unk, .unk, .unk, .unk, .unk, .unk, .unk, .unk, .unk, .unk,
            .unk, .unk, .unk, .unk, .unk, .unk, .unk, .unk, .unk, .unk, .unk, .unk, .unk, .unk, .unk, .unk, .unk, .unk, .unk, .unk, .unk, .unk, .unk, .unk],
        hp :=
          [some (.cells [iv d1, iv d2, iv d3, iv d4, SV.d (DV.ro n 1 fun i x => DV.x (.int .i64 (L i)))]), none, none,
            some (.row m 1 fun i x => DV.ro 200 1 fun j x => DV.x (.bool (fc i j))), some (.row 200 1 fun i x => DV.x (.bool (nb i)))],
        next := 5, hint := .nil }))

theorem BF3_eq (d1 d2 d3 d4 : Int) (n : Nat) (L : Nat → Int) (m : Nat) (fc : Nat → Nat → Bool) (i : Int) (nb : Nat → Bool) (f : Int) : bF3 d1 d2 d3 d4 n L m fc i nb f = BF3 d1 d2 d3 d4 n L m fc i nb f := by kernel_rfl

noncomputable def KF3 (d1 d2 d3 d4 : Int) (n : Nat) (L : Nat → Int) (m : Nat) (fc : Nat → Nat → Bool) (i : Int) (nb : Nat → Bool) (f : Int) : Tree (Ex × AS) :=
  .need (200 ≤ 200)
  (.need (0 + m ≤ m ∧ 1 ≤ List.length [SV.d (DV.ro 200 1 fun i j => DV.x (.bool (nb ((0 : Nat) + i))))] ∧ (m + 1) * 24 ≤ 140737488355328)
    (.ret
      (.normal,
        {
          tm :=
            [.unk, .ok (SV.ptr 0 0), .unk, .unk, .unk, .ok (SV.row 3 0 0 (m + 1) 1), .ok (iv (w64 (i + (1 : Int)))), .unk, .unk, .unk, .unk, .unk,
              .unk, .unk, .unk, .unk, .unk, .unk, .unk, .unk, .unk, .unk, .unk, .unk, .unk, .unk, .unk, .unk, .unk, .unk, .unk, .unk, .unk, .unk, .unk, .unk, .unk, .unk, .unk, .unk,
              .unk, .unk, .unk, .unk, .unk, .unk, .unk, .unk, .unk, .unk, .unk, .unk, .unk, .unk, .unk, .unk, .unk, .unk, .unk, .unk, .unk, .unk, .unk, .unk, .unk, .unk, .unk, .unk,
              .unk, .unk, .unk, .unk, .unk, .unk, .unk, .unk, .unk, .unk, .unk, .unk, .unk, .unk, .unk, .unk, .unk, .unk, .unk, .unk, .unk, .unk, .unk, .unk, .unk, .unk, .unk, .unk,
              .unk, .unk, .unk, .unk, .unk, .unk, .unk, .unk, .unk, .unk, .unk, .unk, .unk, .unk, .unk, .unk, .unk, .unk, .unk],
          hp :=
            [some (.cells [iv d1, iv d2, iv d3, iv d4, SV.d (DV.ro n 1 fun i x => DV.x (.int .i64 (L i)))]), none, none,
              some
                (.row (m + 1) 1 fun a b =>
                  selD (decide (a < m)) (DV.ro 200 1 fun j x => DV.x (.bool (fc ((0 : Nat) + a) j)))
                    (dsAt [DV.ro 200 1 fun i j => DV.x (.bool (nb ((0 : Nat) + i)))] (0 + (0 + (a - m)) * 1 + b)))],
          next := 4, hint := .nil })))

theorem KF3_eq (d1 d2 d3 d4 : Int) (n : Nat) (L : Nat → Int) (m : Nat) (fc : Nat → Nat → Bool) (i : Int) (nb : Nat → Bool) (f : Int) : codeK (sub [0, 0] (bF2 d1 d2 d3 d4 n L m fc i)) (.exit 4) (invF3 d1 d2 d3 d4 n L m fc i nb f) = KF3 d1 d2 d3 d4 n L m fc i nb f := by kernel_rfl

noncomputable def invF4 (d1 d2 d3 d4 : Int) (n : Nat) (L : Nat → Int) (m : Nat) (fc : Nat → Nat → Bool) (i : Int) (nb : Nat → Bool) (f g : Int) : AS :=
  ⟨[.unk, .ok (.ptr 0 0), .unk, .unk, .unk, .ok (.row 3 0 0 m 1), .ok (iv i), .ok (.row 4 0 0 200 1), .ok (iv f), .ok (iv g)] ++ List.replicate 105 .unk, [cH d1 d2 d3 d4 n L, none, none, some (.row m 1 (ro2 m fc)), some (rowB 200 nb)], 5, .nil⟩
noncomputable def bodyF4 : Code := loopN (bodyOf Try.prog 37) 3
noncomputable def BF4 (d1 d2 d3 d4 : Int) (n : Nat) (L : Nat → Int) (m : Nat) (fc : Nat → Nat → Bool) (i : Int) (nb : Nat → Bool) (f g : Int) : Tree (Ex × AS) :=
  .ite (decide (g ≤ w64 (f + d3)) && decide (g < (200 : Int)))
  (.need ((0 : Int) ≤ f ∧ f < (200 : Int))
    (.need (0 + Int.toNat f < 200)
      (.need (nb ((0 : Nat) + Int.toNat f) = false → (0 : Int) ≤ i ∧ i < (↑m : Int))
        (.need (nb ((0 : Nat) + Int.toNat f) = false → 0 + Int.toNat i < m)
          (.need (nb ((0 : Nat) + Int.toNat f) = false → (0 : Int) ≤ g ∧ g < (200 : Int))
            (.need ((0 : Int) ≤ f ∧ f < (200 : Int))
              (.need (0 + Int.toNat f < 200)
                (.ret
                  (.normal,
                    {
                      tm :=
                        [.unk, .ok (SV.ptr 0 0), .unk, .unk, .unk, .ok (SV.row 3 0 0 m 1), .ok (iv i),
                          .ok (SV.row 4 0 0 200 1), .ok (iv f), .ok (iv (w64 (g + (1 : Int)))), .unk, .unk, .unk, .unk, .unk, .unk, .unk, .unk, .unk, .unk, .unk,
                          .unk, .unk, .unk, .unk, .unk, .unk, .unk, .unk, .unk, .unk, .unk, .unk, .unk, .unk, .unk, .unk, .unk, .unk, .unk, .unk, .unk, .unk, .unk, .unk, .unk, .unk,
                          .unk, .unk, .unk, .unk, .unk, .unk, .unk, .unk, .unk, .unk, .unk, .unk, .unk, .unk, .unk, .unk, .unk, .unk, .unk, .unk, .unk, .unk, .unk, .unk, .unk, .unk,
                          .unk, .unk, .unk, .unk, .unk, .unk, .unk, .unk, .unk, .unk, .unk, .unk, .unk, .unk, .unk, .unk, .unk, .unk, .unk, .unk, .unk, .unk, .unk, .unk, .unk, .unk,
                          .unk, .unk, .unk, .unk, .unk, .unk, .unk, .unk, .unk, .unk, .unk, .unk, .unk, .unk, .unk, .unk],
                      hp :=
                        [some (.cells [iv d1, iv d2, iv d3, iv d4, SV.d (DV.ro n 1 fun i x => DV.x (.int .i64 (L i)))]), none, none,
                          some (.row m 1 fun i x => DV.ro 200 1 fun j x => DV.x (.bool (fc i j))),
                          some
                            (.row 200 1 fun a b =>
                              if 0 ≤ b ∧ b < 1 then
                                selD (decide (a = 0 + Int.toNat f))
                                  (match [DV.x (.bool (nb ((0 : Nat) + Int.toNat f) || fc ((0 : Nat) + Int.toNat i) (Int.toNat g)))][b - 0]? with
                                  | some x => x
                                  | none => DV.x (.tuple { toList := [] }))
                                  (DV.x (.bool (nb a)))
                              else DV.x (.bool (nb a)))],
                      next := 5, hint := .nil })))))))))
  (.ret
    (.exit 6,
      {
        tm :=
          [.unk, .ok (SV.ptr 0 0), .unk, .unk, .unk, .ok (SV.row 3 0 0 m 1), .ok (iv i), .ok (SV.row 4 0 0 200 1),
            .ok (iv f), .ok (iv g), .unk, .unk, .unk, .unk, .unk, .unk, .unk, .unk, .unk, .unk, .unk, .unk, .unk, .unk, .unk, .unk, .unk, .unk, .unk, .unk, .unk, .unk, .unk, .unk, .unk,
            .unk, .unk, .unk, .unk, .unk, .unk, .unk, .unk, .unk, .unk, .unk, .unk, .unk, .unk, .unk, .unk, .unk, .unk, .unk, .unk, .unk, .unk, .unk, .unk, .unk, .unk, .unk, .unk,
            .unk, .unk, .unk, .unk, .unk, .unk, .unk, .unk, .unk, .unk, .unk, .unk, .unk, .unk, .unk, .unk, .unk, .unk, .unk, .unk, .unk, .unk, .unk, .unk, .unk, .unk, .unk, .unk,
            .unk, .unk, .unk, .unk, .unk, .unk, .unk, .unk, .unk, .unk, .unk, .unk, .unk, .unk, .unk, .unk, .unk, .unk, .unk, .unk, .unk, .unk, .unk, .unk],
        hp :=
          [some (.cells [iv d1, iv d2, iv d3, iv d4, SV.d (DV.ro n 1 fun i x => DV.x (.int .i64 (L i)))]), none, none,
            some (.row m 1 fun i x => DV.ro 200 1 fun j x => DV.x (.bool (fc i j))), some (.row 200 1 fun i x => DV.x (.bool (nb i)))],
        next := 5, hint := .nil }))

theorem BF4_eq (d1 d2 d3 d4 : Int) (n : Nat) (L : Nat → Int) (m : Nat) (fc : Nat → Nat → Bool) (i : Int) (nb : Nat → Bool) (f g : Int) : cutT 5 [] [1, 5, 6, 7, 8, 9] [1, 2] 5 .nil (exec Try.prog C0 D0 200 bodyF4 (invF4 d1 d2 d3 d4 n L m fc i nb f g)) = BF4 d1 d2 d3 d4 n L m fc i nb f g := by kernel_rfl

noncomputable def KF4 (d1 d2 d3 d4 : Int) (n : Nat) (L : Nat → Int) (m : Nat) (fc : Nat → Nat → Bool) (i : Int) (nb0 nb : Nat → Bool) (f g : Int) : Tree (Ex × AS) :=
  .need ((0 : Int) ≤ f ∧ f < (200 : Int))
  (.need (0 + Int.toNat f < 200)
    (.need (nb ((0 : Nat) + Int.toNat f) = true → (0 : Int) ≤ i ∧ i < (↑n : Int))
      (.need ((nb ((0 : Nat) + Int.toNat f) && decide (f ≥ w64 (L (Int.toNat i) - d4))) = true → (0 : Int) ≤ i ∧ i < (↑n : Int))
        (.need ((0 : Int) ≤ f ∧ f < (200 : Int))
          (.need (0 + Int.toNat f < 200)
            (.ret
              (.normal,
                {
                  tm :=
                    [.unk, .ok (SV.ptr 0 0), .unk, .unk, .unk, .ok (SV.row 3 0 0 m 1), .ok (iv i),
                      .ok (SV.row 4 0 0 200 1), .ok (iv (w64 (f + (1 : Int)))), .unk, .unk, .unk, .unk, .unk, .unk, .unk, .unk, .unk, .unk, .unk, .unk, .unk,
                      .unk, .unk, .unk, .unk, .unk, .unk, .unk, .unk, .unk, .unk, .unk, .unk, .unk, .unk, .unk, .unk, .unk, .unk, .unk, .unk, .unk, .unk, .unk, .unk, .unk, .unk, .unk,
                      .unk, .unk, .unk, .unk, .unk, .unk, .unk, .unk, .unk, .unk, .unk, .unk, .unk, .unk, .unk, .unk, .unk, .unk, .unk, .unk, .unk, .unk, .unk, .unk, .unk, .unk, .unk,
                      .unk, .unk, .unk, .unk, .unk, .unk, .unk, .unk, .unk, .unk, .unk, .unk, .unk, .unk, .unk, .unk, .unk, .unk, .unk, .unk, .unk, .unk, .unk, .unk, .unk, .unk, .unk,
                      .unk, .unk, .unk, .unk, .unk, .unk, .unk, .unk, .unk, .unk, .unk, .unk],
                  hp :=
                    [some (.cells [iv d1, iv d2, iv d3, iv d4, SV.d (DV.ro n 1 fun i x => DV.x (.int .i64 (L i)))]), none, none,
                      some (.row m 1 fun i x => DV.ro 200 1 fun j x => DV.x (.bool (fc i j))),
                      some
                        (.row 200 1 fun a b =>
                          if 0 ≤ b ∧ b < 1 then
                            selD (decide (a = 0 + Int.toNat f))
                              (match [DV.x (.bool (nb ((0 : Nat) + Int.toNat f) && decide (f ≥ w64 (L (Int.toNat i) - d4)) && decide (f ≤ w64 (L (Int.toNat i) + d4))))][b - 0]? with
                              | some x => x
                              | none => DV.x (.tuple { toList := [] }))
                              (DV.x (.bool (nb a)))
                          else DV.x (.bool (nb a)))],
                  next := 5, hint := .nil })))))))

theorem KF4_eq (d1 d2 d3 d4 : Int) (n : Nat) (L : Nat → Int) (m : Nat) (fc : Nat → Nat → Bool) (i : Int) (nb0 nb : Nat → Bool) (f g : Int) : codeK (sub [0] (bF3 d1 d2 d3 d4 n L m fc i nb0 f)) (.exit 6) (invF4 d1 d2 d3 d4 n L m fc i nb f g) = KF4 d1 d2 d3 d4 n L m fc i nb0 nb f g := by kernel_rfl

theorem cF1 (d1 d2 d3 d4 : Int) (n : Nat) (L : Nat → Int) : codeC (sub [0] (tF d1 d2 d3 d4 n L)) = .loop bodyF1 := by kernel_rfl
theorem nF1 (d1 d2 d3 d4 : Int) (n : Nat) (L : Nat → Int) : Nat.ble (codeS (sub [0] (tF d1 d2 d3 d4 n L))).next 2 = true := by kernel_rfl
theorem iF1 (d1 d2 d3 d4 : Int) (n : Nat) (L : Nat → Int) : entA 2 [] [1, 3, 4] [] 2 .nil (sub [0] (tF d1 d2 d3 d4 n L)) = some (invF1r d1 d2 d3 d4 n L (fun _ j => List.getD [DV.x (Value.bool false)] j (.x undef)) d1) := by kernel_rfl
theorem cF2 (d1 d2 d3 d4 : Int) (n : Nat) (L : Nat → Int) (nb : Nat → Bool) (f : Int) : codeC (kF1 d1 d2 d3 d4 n L nb f) = .loop bodyF2 := by kernel_rfl
theorem nF2 (d1 d2 d3 d4 : Int) (n : Nat) (L : Nat → Int) (nb : Nat → Bool) (f : Int) : Nat.ble (codeS (kF1 d1 d2 d3 d4 n L nb f)).next 3 = true := by kernel_rfl
noncomputable def IF2 (d1 d2 d3 d4 : Int) (n : Nat) (L : Nat → Int) (nb : Nat → Bool) (f : Int) : Tree AS :=
  .need (200 ≤ 200)
  (.need (200 ≤ 200)
    (.need (200 ≤ 200)
      (.ret
        {
          tm :=
            [.unk, .ok (SV.ptr 0 0), .unk, .unk, .unk, .ok (SV.row 3 0 0 1 1), .ok (iv (0 : Int)), .unk, .unk, .unk, .unk, .unk, .unk, .unk,
              .unk, .unk, .unk, .unk, .unk, .unk, .unk, .unk, .unk, .unk, .unk, .unk, .unk, .unk, .unk, .unk, .unk, .unk, .unk, .unk, .unk, .unk, .unk, .unk, .unk, .unk, .unk, .unk,
              .unk, .unk, .unk, .unk, .unk, .unk, .unk, .unk, .unk, .unk, .unk, .unk, .unk, .unk, .unk, .unk, .unk, .unk, .unk, .unk, .unk, .unk, .unk, .unk, .unk, .unk, .unk, .unk,
              .unk, .unk, .unk, .unk, .unk, .unk, .unk, .unk, .unk, .unk, .unk, .unk, .unk, .unk, .unk, .unk, .unk, .unk, .unk, .unk, .unk, .unk, .unk, .unk, .unk, .unk, .unk, .unk,
              .unk, .unk, .unk, .unk, .unk, .unk, .unk, .unk, .unk, .unk, .unk, .unk, .unk, .unk, .unk, .unk, .unk],
          hp :=
            [some (.cells [iv d1, iv d2, iv d3, iv d4, SV.d (DV.ro n 1 fun i x => DV.x (.int .i64 (L i)))]), none, none,
              some (.cells [SV.d (DV.ro 200 1 fun i j => DV.x (.bool (nb ((0 : Nat) + i))))])],
          next := 4, hint := .nil })))

theorem IF2_eq (d1 d2 d3 d4 : Int) (n : Nat) (L : Nat → Int) (nb : Nat → Bool) (f : Int) : entT [1] 3 [(.slot 5, 3)] [1, 5, 6] [1, 2] 4 .nil (kF1 d1 d2 d3 d4 n L nb f) = IF2 d1 d2 d3 d4 n L nb f := by kernel_rfl

theorem cF3 (d1 d2 d3 d4 : Int) (n : Nat) (L : Nat → Int) (m : Nat) (fc : Nat → Nat → Bool) (i : Int) : codeC (sub [0, 0] (bF2 d1 d2 d3 d4 n L m fc i)) = .loop bodyF3 := by kernel_rfl
theorem nF3 (d1 d2 d3 d4 : Int) (n : Nat) (L : Nat → Int) (m : Nat) (fc : Nat → Nat → Bool) (i : Int) : Nat.ble (codeS (sub [0, 0] (bF2 d1 d2 d3 d4 n L m fc i))).next 5 = true := by kernel_rfl
theorem iF3 (d1 d2 d3 d4 : Int) (n : Nat) (L : Nat → Int) (m : Nat) (fc : Nat → Nat → Bool) (i : Int) : entA 5 [] [1, 5, 6, 7, 8] [1, 2] 5 .nil (sub [0, 0] (bF2 d1 d2 d3 d4 n L m fc i)) = some (invF3r d1 d2 d3 d4 n L m fc i (fun _ j => List.getD [DV.x (Value.bool false)] j (.x undef)) 1) := by kernel_rfl
theorem cF4 (d1 d2 d3 d4 : Int) (n : Nat) (L : Nat → Int) (m : Nat) (fc : Nat → Nat → Bool) (i : Int) (nb : Nat → Bool) (f : Int) : codeC (sub [0] (bF3 d1 d2 d3 d4 n L m fc i nb f)) = .loop bodyF4 := by kernel_rfl
theorem nF4 (d1 d2 d3 d4 : Int) (n : Nat) (L : Nat → Int) (m : Nat) (fc : Nat → Nat → Bool) (i : Int) (nb : Nat → Bool) (f : Int) : Nat.ble (codeS (sub [0] (bF3 d1 d2 d3 d4 n L m fc i nb f))).next 5 = true := by kernel_rfl
theorem iF4 (d1 d2 d3 d4 : Int) (n : Nat) (L : Nat → Int) (m : Nat) (fc : Nat → Nat → Bool) (i : Int) (nb : Nat → Bool) (f : Int) : entA 5 [] [1, 5, 6, 7, 8, 9] [1, 2] 5 .nil (sub [0] (bF3 d1 d2 d3 d4 n L m fc i nb f)) = some (invF4 d1 d2 d3 d4 n L m fc i nb f (if w64 (f - d3) > 1 then w64 (f - d3) else 1)) := by kernel_rfl
noncomputable def tK (d1 d2 d3 d4 : Int) (n : Nat) (L : Nat → Int) (m : Nat) (cl : Nat → Nat → Bool) : Tree SV := fnT Try.prog C0 D0 200 (fnOf Try.prog 39) (bodyOf Try.prog 39) [.agg [iv d1, iv d2, iv d3, iv d4, ro64 n L], .d (.ro m 1 fun i _ => .ro 200 1 fun j _ => .x (.bool (cl i j)))] .nil
noncomputable def LK (d1 d2 d3 d4 : Int) (n : Nat) (L : Nat → Int) (m : Nat) (cl : Nat → Nat → Bool) : Tree SV :=
  .need (0 ≤ 0 ∧ True ∧ (0 + m) * 24 ≤ 140737488355328)
  (.code (codeC (sub [(0 : Nat)] (tK d1 d2 d3 d4 n L m cl))) (codeS (sub [(0 : Nat)] (tK d1 d2 d3 d4 n L m cl))) (codeK (sub [(0 : Nat)] (tK d1 d2 d3 d4 n L m cl))))

theorem LK_eq (d1 d2 d3 d4 : Int) (n : Nat) (L : Nat → Int) (m : Nat) (cl : Nat → Nat → Bool) : tK d1 d2 d3 d4 n L m cl = LK d1 d2 d3 d4 n L m cl := by kernel_rfl


end Go.Proofs.Ytcbjclmjkilphaa

namespace Go.Proofs.Ytcbjclmjkilphaa
open Go.Sx
set_option maxRecDepth 100000

section
variable {d1 d2 d3 d4 : Int} {n : Nat} {L : Nat → Int} {m : Nat} {fc : Nat → Nat → Bool} {i f g : Int} {nb : Nat → Bool} {c : Nat → Nat → DV}

theorem gF1 (h : ∀ i j, i < 200 → j < 1 → c i j = .x (.bool (nb i))) : Gc 2 (invF1r d1 d2 d3 d4 n L c f) (invF1 d1 d2 d3 d4 n L nb f) := by
  refine gc_sound [] [] rfl ?_ ?_
  · simp [invF1r, invF1, leTm, leTV, leSV, leSVs, rn, iv, leD, List.replicate]
  · simp [invF1r, invF1, cH, rowB, leHp, leBlk, leSVs, leSV, rn, iv, leD, srcOf, hget, ro64]
    exact fun i hi => h i 0 hi (by decide)
theorem gF3 (h : ∀ i j, i < 200 → j < 1 → c i j = .x (.bool (nb i))) : Gc 5 (invF3r d1 d2 d3 d4 n L m fc i c f) (invF3 d1 d2 d3 d4 n L m fc i nb f) := by
  refine gc_sound [] [] rfl ?_ ?_
  · simp [invF3r, invF3, leTm, leTV, leSV, leSVs, rn, iv, leD, List.replicate]
  · simp [invF3r, invF3, cH, rowB, leHp, leBlk, leSVs, leSV, rn, iv, leD, srcOf, hget, ro64]
    exact fun i hi => h i 0 hi (by decide)
noncomputable def invF4r (d1 d2 d3 d4 : Int) (n : Nat) (L : Nat → Int) (m : Nat) (fc : Nat → Nat → Bool) (i : Int) (c : Nat → Nat → DV) (f g : Int) : AS :=
  ⟨[.unk, .ok (.ptr 0 0), .unk, .unk, .unk, .ok (.row 3 0 0 m 1), .ok (iv i), .ok (.row 4 0 0 200 1), .ok (iv f), .ok (iv g)] ++ List.replicate 105 .unk, [cH d1 d2 d3 d4 n L, none, none, some (.row m 1 (ro2 m fc)), some (.row 200 1 c)], 5, .nil⟩
theorem gF4 (h : ∀ i j, i < 200 → j < 1 → c i j = .x (.bool (nb i))) : Gc 5 (invF4r d1 d2 d3 d4 n L m fc i c f g) (invF4 d1 d2 d3 d4 n L m fc i nb f g) := by
  refine gc_sound [] [] rfl ?_ ?_
  · simp [invF4r, invF4, leTm, leTV, leSV, leSVs, rn, iv, leD, List.replicate]
  · simp [invF4r, invF4, cH, rowB, leHp, leBlk, leSVs, leSV, rn, iv, leD, srcOf, hget, ro64]
    exact fun i hi => h i 0 hi (by decide)
theorem gF2 {c : Nat → Nat → DV} (h : ∀ i j, i < m → j < 1 → c i j = ro2 m fc i j) : Gc 3 ⟨[.unk, .ok (.ptr 0 0), .unk, .unk, .unk, .ok (.row 3 0 0 m 1), .ok (iv i)] ++ List.replicate 108 .unk, [cH d1 d2 d3 d4 n L, none, none, some (.row m 1 c)], 4, .nil⟩ (invF2 d1 d2 d3 d4 n L m fc i) := by
  refine gc_sound [(3, 3)] [] rfl ?_ ?_
  · simp [invF2, leTm, leTV, leSV, leSVs, rn, iv, leD, List.replicate]
  · simp [invF2, cH, leHp, leBlk, leSVs, leSV, rn, iv, leD, srcOf, hget, ro64]
    exact fun i hi => h i 0 hi (by decide)
theorem gF2c (h : ∀ j, j < 200 → nb (0 + j) = fc 0 j) : Gc 3 ⟨[.unk, .ok (.ptr 0 0), .unk, .unk, .unk, .ok (.row 3 0 0 1 1), .ok (iv i)] ++ List.replicate 108 .unk, [cH d1 d2 d3 d4 n L, none, none, some (.cells [.d (.ro 200 1 fun i j => .x (.bool (nb (0 + i))))])], 4, .nil⟩ (invF2 d1 d2 d3 d4 n L 1 fc i) := by
  refine (gc_sound (s' := ⟨[.unk, .ok (.ptr 0 0), .unk, .unk, .unk, .ok (.row 3 0 0 1 1), .ok (iv i)] ++ List.replicate 108 .unk, [cH d1 d2 d3 d4 n L, none, none, some (.cells [.d (.ro 200 1 fun i j => .x (.bool (fc 0 i)))])], 4, .nil⟩) [(3, 3)] [] rfl ?_ ?_).trans (gc_sound [(3, 3)] [] rfl ?_ ?_)
  · simp [leTm, leTV, leSV, leSVs, rn, iv, leD, List.replicate]
  · simp [cH, leHp, leBlk, leSVs, leSV, rn, iv, leD, srcOf, hget, ro64]
    exact fun i hi => by simpa using h i hi
  · simp [invF2, leTm, leTV, leSV, leSVs, rn, iv, leD, List.replicate]
  · simp [invF2, cH, leHp, leBlk, leSVs, leSV, rn, iv, leD, srcOf, hget, ro64, ro2]
end

theorem sub_nil {α : Type} (t : Tree α) : sub [] t = t := by unfold sub; rfl

/-! ### within -/

theorem cW0 (n : Nat) (c : Nat → Bool) (lo hi : Int) : codeC (sub [] (tW n c lo hi)) = .loop bodyW := by kernel_rfl
theorem nW0 (n : Nat) (c : Nat → Bool) (lo hi : Int) : Nat.ble (codeS (sub [] (tW n c lo hi))).next 0 = true := by kernel_rfl
theorem iW0 (n : Nat) (c : Nat → Bool) (lo hi : Int) : entA 0 [] [0, 1, 2, 6, 7] [] 0 .nil (sub [] (tW n c lo hi)) = some (invW n c lo hi 0) := by kernel_rfl

theorem within_sat {n : Nat} {c : Nat → Bool} {lo hi : Int} {b : Bool} (hn : n ≤ 1000) (hb : b = true ↔ ∀ i, i < n → c i = (decide ((i : Int) ≥ lo) && decide ((i : Int) ≤ hi))) : Sat Try.prog (tW n c lo hi) (· = bv b) := by
  constructor
  rw [LW_eq]; unfold LW
  refine code_satS C0_ok D0_ok (n := 200) (n0 := 0) (nx := 0) (roots := []) (keep := [0, 1, 2, 6, 7]) (drop := []) (h := .nil) (cW0 n c lo hi) (nW0 n c lo hi)
    (fun q s => ∃ k : Nat, q = n - k ∧ k ≤ n ∧ (∀ i, i < k → c i = (decide ((i : Int) ≥ lo) && decide ((i : Int) ≤ hi))) ∧ s = invW n c lo hi k)
    (fun e s => (e = .exit 0 ∧ b = true ∧ ∃ i, s = invW n c lo hi i) ∨ (e = .ret ∧ b = false ∧ ∃ i, s = invW n c lo hi i))
    ⟨_, _, ⟨0, rfl, by omega, fun i hi => by omega, rfl⟩, ?_⟩ ?_ ?_
  · exact entA_sound (iW0 n c lo hi)
  · rintro q s ⟨k, rfl, hk, hc, rfl⟩
    refine Sat.of_eq (BW_eq n c lo hi k) ?_
    constructor
    unfold BW
    have e1 : w64 ((k : Int) + 1) = ((k + 1 : Nat) : Int) := by rw [w64_of (by omega) (by omega)]; omega
    simp only [Int.toNat_natCast, e1]
    refine ⟨fun hlt => ?_, fun hlt => ?_⟩
    · have hlt : k < n := by simp only [decide_eq_true_eq] at hlt; omega
      refine ⟨by omega, fun h => ?_, fun h => ?_⟩
      · refine ⟨_, .inr ⟨rfl, ?_, k, rfl⟩, Gc.refl _ _⟩
        cases hbb : b with
        | false => rfl
        | true =>
          have := (hb.1 hbb) k hlt
          rw [this] at h
          simp at h
      · refine ⟨n - (k + 1), _, by omega, ⟨k + 1, rfl, hlt, fun i hik2 => ?_, rfl⟩, Gc.refl _ _⟩
        by_cases hik : i < k
        · exact hc i hik
        · obtain rfl : i = k := by omega
          revert h
          generalize (decide ((i : Int) ≥ lo) && decide ((i : Int) ≤ hi)) = y
          cases c i <;> cases y <;> simp
    · have hlt : ¬ k < n := by simp only [decide_eq_false_iff_not] at hlt; omega
      obtain rfl : k = n := by omega
      exact ⟨_, .inl ⟨rfl, hb.2 hc, k, rfl⟩, Gc.refl _ _⟩
  · rintro e s (⟨rfl, rfl, i, rfl⟩ | ⟨rfl, rfl, i, rfl⟩)
    · refine Sat.of_eq (KW_eq n c lo hi i) ⟨rfl⟩
    · refine Sat.of_eq (KW2_eq n c lo hi i) ⟨rfl⟩

/-! ### forward -/

/-- Which factors are possible behind k readings. -/
def fwB (lo hi st er : Int) (L : Nat → Int) (k : Nat) (a : Nat) : Bool := dB lo hi st er L k && (decide (dL lo st er L k ≤ a) && decide ((a : Int) ≤ dH hi st er L k))

/-- Some factor from g0 to g - 1 was possible. -/
def exF (b : Bool) (lo hi g0 g : Int) : Bool := b && (decide (max g0 lo ≤ g - 1) && decide (max g0 lo ≤ hi))

theorem exF_step {b : Bool} {lo hi g0 g : Int} (hl : b = true → lo ≤ hi) (hg : g0 ≤ g) : (exF b lo hi g0 g || (b && (decide (lo ≤ g) && decide (g ≤ hi)))) = exF b lo hi g0 (g + 1) := by
  cases b with
  | false => simp [exF]
  | true =>
    have := hl rfl
    unfold exF
    simp only [Bool.true_and]
    rw [Bool.eq_iff_iff]
    simp only [Bool.or_eq_true, Bool.and_eq_true, decide_eq_true_eq]
    omega

structure FwOK (lo hi st er : Int) (L : Nat → Int) (n : Nat) : Prop where
  v : dV lo hi st er
  s : st ≤ 5
  e : er ≤ 5
  h : hi ≤ 47
  len : n ≤ 12
  r : ∀ k, k < n → -1000 ≤ L k ∧ L k ≤ 1000

theorem dH_up' {hi st er : Int} {L : Nat → Int} (hs : 0 ≤ st) : ∀ k : Nat, dH hi st er L k ≤ hi + k * st
  | 0 => by simp [dH]
  | k + 1 => by
    have ih := dH_up' (hi := hi) (er := er) (L := L) hs k
    have e : ((k + 1 : Nat) : Int) * st = k * st + st := by rw [Int.natCast_add, Int.add_mul]; simp
    rw [e]
    simp only [dH, nH]; omega

theorem FwOK.top {lo hi st er : Int} {L : Nat → Int} {n : Nat} (h : FwOK lo hi st er L n) (k : Nat) (hk : k ≤ n) : dH hi st er L k ≤ 107 := by
  have h1 := dH_up' (hi := hi) (er := er) (L := L) h.v.s.1 k
  have h2 : (k : Int) * st ≤ 12 * st := Int.mul_le_mul_of_nonneg_right (by have := h.len; omega) h.v.s.1
  have := h.h; have := h.s
  omega

/-- The step of forward. -/
theorem fw_step {lo hi st er : Int} {L : Nat → Int} {n k : Nat} (h : FwOK lo hi st er L n) (hk : k < n) {f : Int} (hf : 1 ≤ f ∧ f < 200) :
    (exF (dB lo hi st er L k) (dL lo st er L k) (dH hi st er L k) (if f - st > 1 then f - st else 1) (min (f + st) 199 + 1) && decide (f ≥ L k - er) && decide (f ≤ L k + er)) = fwB lo hi st er L (k + 1) f.toNat := by
  have ht := h.top k (by omega)
  have hr := h.r k hk
  have hs := h.v.s; have he := h.v.e
  have c2 : cR (L k) = L k := by unfold cR; omega
  have hle := fun hb => dB_le (k := k) (L := L) h.v hb
  have hl1 := dL_b h.v (L := L) k
  have e : ((f.toNat : Nat) : Int) = f := by omega
  unfold exF fwB
  simp only [dB, dL, dH, nL, nH, c2, e]
  have := h.e
  cases hb : dB lo hi st er L k with
  | false => simp
  | true =>
    have := hle hb
    simp only [Bool.true_and]
    rw [Bool.eq_iff_iff]
    simp only [Bool.and_eq_true, decide_eq_true_eq]
    split <;> omega

section
variable {d1 d2 d3 d4 : Int} {n : Nat} {L : Nat → Int} {k : Nat}

def FW (lo hi st er : Int) (L : Nat → Int) : Nat → Nat → Bool := fun j a => fwB lo hi st er L j a

def nb4 (d1 d2 d3 d4 : Int) (L : Nat → Int) (k : Nat) (f g0 g : Int) : Nat → Bool := fun a => bif decide (a = f.toNat) then exF (dB d1 d2 d3 d4 L k) (dL d1 d3 d4 L k) (dH d2 d3 d4 L k) g0 g else (decide ((a : Int) < f) && fwB d1 d2 d3 d4 L (k + 1) a)
def nb3 (d1 d2 d3 d4 : Int) (L : Nat → Int) (k : Nat) (f : Int) : Nat → Bool := fun a => decide ((a : Int) < f) && fwB d1 d2 d3 d4 L (k + 1) a

theorem selB {i q : Nat} {x : Bool} {f g : Nat → Bool} (h1 : i = q → x = g i) (h2 : i ≠ q → f i = g i) : selD (decide (i = q)) (.x (.bool x)) (.x (.bool (f i))) = DV.x (.bool (g i)) := by
  rw [selD_eq]
  by_cases h : i = q
  · simp only [h, decide_true, cond_true]; rw [h1 h, h]
  · simp only [h, decide_false, cond_false]; rw [h2 h]

theorem loopF4 (hv : FwOK d1 d2 d3 d4 L n) (hk : k < n) {f : Int} (hf : 1 ≤ f ∧ f < 200) {nb0 : Nat → Bool} (hnb : ∀ a, a < 200 → nb0 a = nb3 d1 d2 d3 d4 L k f a) {Q : Ex × AS → Prop}
    (hQ : Q (.normal, invF3 d1 d2 d3 d4 n L (k + 1) (FW d1 d2 d3 d4 L) k (nb3 d1 d2 d3 d4 L k (f + 1)) (f + 1)) ) (hQg : ∀ s s', Gc 5 s s' → Q (.normal, s') → Q (.normal, s)) :
    Sat Try.prog (bF3 d1 d2 d3 d4 n L (k + 1) (FW d1 d2 d3 d4 L) k (nb3 d1 d2 d3 d4 L k f) f) Q := by
  refine Sat.of_eq (BF3_eq d1 d2 d3 d4 n L (k + 1) (FW d1 d2 d3 d4 L) k (nb3 d1 d2 d3 d4 L k f) f) ?_
  constructor
  unfold BF3
  have hs := hv.v.s; have hs5 := hv.s; have hn := hv.len; have he := hv.v.e; have he5 := hv.e
  have hr := hv.r k hk
  refine ⟨fun _ => ?_, fun h => by simp only [decide_eq_false_iff_not] at h; omega⟩
  have e0 : w64 (f - d3) = f - d3 := w64_of (by omega) (by omega)
  have e1 : w64 (f + d3) = f + d3 := w64_of (by omega) (by omega)
  have hI := iF4 d1 d2 d3 d4 n L (k + 1) (FW d1 d2 d3 d4 L) k (nb3 d1 d2 d3 d4 L k f) f
  rw [e0] at hI
  generalize hg0 : (if f - d3 > 1 then f - d3 else 1) = g0 at hI
  have g0b : 1 ≤ g0 ∧ g0 ≤ f ∧ g0 ≤ min (f + d3) 199 + 1 := by rw [← hg0]; split <;> omega
  have hle := fun hb => dB_le (k := k) (L := L) hv.v hb
  refine code_satS C0_ok D0_ok (n := 200) (n0 := 5) (nx := 5) (roots := []) (keep := [1, 5, 6, 7, 8, 9]) (drop := [1, 2]) (h := .nil) (cF4 _ _ _ _ _ _ _ _ _ _ _) (nF4 _ _ _ _ _ _ _ _ _ _ _)
    (fun q s => ∃ g : Int, q = (min (f + d3) 199 + 1 - g).toNat ∧ g0 ≤ g ∧ g ≤ min (f + d3) 199 + 1 ∧ s = invF4 d1 d2 d3 d4 n L (k + 1) (FW d1 d2 d3 d4 L) k (nb4 d1 d2 d3 d4 L k f g0 g) f g)
    (fun e s => e = .exit 6 ∧ s = invF4 d1 d2 d3 d4 n L (k + 1) (FW d1 d2 d3 d4 L) k (nb4 d1 d2 d3 d4 L k f g0 (min (f + d3) 199 + 1)) f (min (f + d3) 199 + 1))
    ⟨_, _, ⟨g0, rfl, by omega, by omega, rfl⟩, ?_⟩ ?_ ?_
  · refine (entA_sound hI).trans (gF4 fun i j hi hj => ?_)
    have : nb3 d1 d2 d3 d4 L k f i = nb4 d1 d2 d3 d4 L k f g0 g0 i := by
      unfold nb4 nb3
      by_cases h : i = f.toNat
      · have : ¬ (i : Int) < f := by omega
        simp only [h, decide_true, cond_true, exF]
        have h1 : ¬ ((f.toNat : Nat) : Int) < f := by omega
        have h2 : ¬ max g0 (dL d1 d3 d4 L k) ≤ g0 - 1 := by omega
        rw [decide_eq_false h1, decide_eq_false h2]
        simp
      · simp [h]
    show DV.x (.bool (nb3 d1 d2 d3 d4 L k f i)) = _
    rw [this]
  · rintro q s ⟨g, rfl, h1, h2, rfl⟩
    refine Sat.of_eq (BF4_eq d1 d2 d3 d4 n L (k + 1) (FW d1 d2 d3 d4 L) k (nb4 d1 d2 d3 d4 L k f g0 g) f g) ?_
    constructor
    unfold BF4
    have e2 : w64 (g + 1) = g + 1 := w64_of (by omega) (by omega)
    simp only [e1, e2, Nat.zero_add, Int.toNat_natCast]
    refine ⟨fun h => ?_, fun h => ?_⟩
    · simp only [Bool.and_eq_true, decide_eq_true_eq] at h
      refine ⟨by omega, by omega, fun _ => by omega, fun _ => by omega, fun _ => by omega, by omega, by omega, (min (f + d3) 199 + 1 - (g + 1)).toNat, _, by omega, ⟨g + 1, rfl, by omega, by omega, rfl⟩, gF4 fun i j hi hj => ?_⟩
      obtain rfl : j = 0 := by omega
      rw [if_pos (by decide)]
      refine selB (f := nb4 d1 d2 d3 d4 L k f g0 g) (g := nb4 d1 d2 d3 d4 L k f g0 (g + 1)) (fun e => ?_) (fun e => ?_)
      · subst e
        unfold nb4
        simp only [decide_true, cond_true]
        have hFW : FW d1 d2 d3 d4 L k g.toNat = (dB d1 d2 d3 d4 L k && (decide (dL d1 d3 d4 L k ≤ g) && decide (g ≤ dH d2 d3 d4 L k))) := by
          unfold FW fwB
          rw [show ((g.toNat : Nat) : Int) = g by omega]
        rw [← exF_step hle h1, ← hFW]
      · unfold nb4; simp [e]
    · have : g = min (f + d3) 199 + 1 := by
        simp only [Bool.and_eq_false_iff, decide_eq_false_iff_not] at h; omega
      subst this
      exact ⟨_, ⟨rfl, rfl⟩, Gc.refl _ _⟩
  · rintro e s ⟨rfl, rfl⟩
    refine Sat.of_eq (KF4_eq d1 d2 d3 d4 n L (k + 1) (FW d1 d2 d3 d4 L) k (nb3 d1 d2 d3 d4 L k f) (nb4 d1 d2 d3 d4 L k f g0 (min (f + d3) 199 + 1)) f (min (f + d3) 199 + 1)) ?_
    constructor
    unfold KF4
    have e2 : w64 (f + 1) = f + 1 := w64_of (by omega) (by omega)
    have e3 : w64 (L k - d4) = L k - d4 := w64_of (by omega) (by omega)
    have e4 : w64 (L k + d4) = L k + d4 := w64_of (by omega) (by omega)
    simp only [e2, e3, e4, Nat.zero_add, Int.toNat_natCast]
    refine ⟨by omega, by omega, fun _ => by omega, fun _ => by omega, by omega, by omega, hQg _ _ (gF3 fun i j hi hj => ?_) hQ⟩
    obtain rfl : j = 0 := by omega
    rw [if_pos (by decide)]
    refine selB (f := nb4 d1 d2 d3 d4 L k f g0 (min (f + d3) 199 + 1)) (g := nb3 d1 d2 d3 d4 L k (f + 1)) (fun e => ?_) (fun e => ?_)
    · subst e
      have hst := fw_step hv hk hf
      rw [hg0] at hst
      unfold nb4 nb3
      simp only [decide_true, cond_true]
      rw [hst, show decide (((f.toNat : Nat) : Int) < f + 1) = true from decide_eq_true (by omega), Bool.true_and]
    · unfold nb4 nb3
      simp only [e, decide_false, cond_false]
      rw [show decide ((i : Int) < f) = decide ((i : Int) < f + 1) by rw [decide_eq_decide]; omega]

theorem nb3_end (hv : FwOK d1 d2 d3 d4 L n) (hk : k < n) (a : Nat) : nb3 d1 d2 d3 d4 L k 200 a = FW d1 d2 d3 d4 L (k + 1) a := by
  unfold nb3 FW fwB
  have := hv.top (k + 1) (by omega)
  by_cases h : (a : Int) < 200
  · simp [h]
  · have h2 : ¬ (a : Int) ≤ dH d2 d3 d4 L (k + 1) := by omega
    simp [h, h2]

theorem roundF2 (hv : FwOK d1 d2 d3 d4 L n) (hk : k < n) {Q : Ex × AS → Prop} (hQ : ∀ s, Gc 3 s (invF2 d1 d2 d3 d4 n L (k + 2) (FW d1 d2 d3 d4 L) ((k + 1 : Nat) : Int)) → Q (.normal, s)) :
    Sat Try.prog (bF2 d1 d2 d3 d4 n L (k + 1) (FW d1 d2 d3 d4 L) k) Q := by
  refine Sat.of_eq (BF2_eq d1 d2 d3 d4 n L (k + 1) (FW d1 d2 d3 d4 L) k) ?_
  constructor
  unfold BF2
  have hn := hv.len
  refine ⟨fun _ => ⟨by decide, ?_⟩, fun h => by simp only [decide_eq_false_iff_not] at h; omega⟩
  have hI := iF3 d1 d2 d3 d4 n L (k + 1) (FW d1 d2 d3 d4 L) k
  refine code_satS C0_ok D0_ok (n := 200) (n0 := 5) (nx := 5) (roots := []) (keep := [1, 5, 6, 7, 8]) (drop := [1, 2]) (h := .nil) (cF3 _ _ _ _ _ _ _ _ _) (nF3 _ _ _ _ _ _ _ _ _)
    (fun q s => ∃ f : Int, q = (200 - f).toNat ∧ 1 ≤ f ∧ f ≤ 200 ∧ s = invF3 d1 d2 d3 d4 n L (k + 1) (FW d1 d2 d3 d4 L) k (nb3 d1 d2 d3 d4 L k f) f)
    (fun e s => e = .exit 4 ∧ s = invF3 d1 d2 d3 d4 n L (k + 1) (FW d1 d2 d3 d4 L) k (nb3 d1 d2 d3 d4 L k 200) 200)
    ⟨_, _, ⟨1, rfl, by omega, by omega, rfl⟩, ?_⟩ ?_ ?_
  · refine (entA_sound hI).trans (gF3 fun i j hi hj => ?_)
    obtain rfl : j = 0 := by omega
    have hl := dL_b hv.v (L := L) (k + 1)
    have : nb3 d1 d2 d3 d4 L k 1 i = false := by
      unfold nb3 fwB
      by_cases h : (i : Int) < 1
      · have h2 : ¬ dL d1 d3 d4 L (k + 1) ≤ i := by omega
        simp [h2]
      · simp [h]
    rw [this]; rfl
  · rintro q s ⟨f, rfl, h1, h2, rfl⟩
    by_cases hf : f < 200
    · exact loopF4 (n := n) (nb0 := nb3 d1 d2 d3 d4 L k f) hv hk ⟨h1, hf⟩ (fun a _ => rfl) ⟨(200 - (f + 1)).toNat, _, by omega, ⟨f + 1, rfl, by omega, by omega, rfl⟩, Gc.refl _ _⟩ (fun s s' hg ⟨m', s2, e1, e2, e3⟩ => ⟨m', s2, e1, e2, hg.trans e3⟩)
    · obtain rfl : f = 200 := by omega
      refine Sat.of_eq (BF3_eq d1 d2 d3 d4 n L (k + 1) (FW d1 d2 d3 d4 L) k (nb3 d1 d2 d3 d4 L k 200) 200) ?_
      constructor
      unfold BF3
      exact ⟨fun h => (by simp at h), fun _ => ⟨_, ⟨rfl, rfl⟩, Gc.refl _ _⟩⟩
  · rintro e s ⟨rfl, rfl⟩
    refine Sat.of_eq (KF3_eq d1 d2 d3 d4 n L (k + 1) (FW d1 d2 d3 d4 L) k (nb3 d1 d2 d3 d4 L k 200) 200) ?_
    constructor
    unfold KF3
    have e2 : w64 ((k : Int) + 1) = ((k + 1 : Nat) : Int) := by rw [w64_of (by omega) (by omega)]; omega
    rw [e2]
    refine ⟨by decide, ⟨by omega, by simp, by omega⟩, hQ _ (gF2 fun i j hi hj => ?_)⟩
    obtain rfl : j = 0 := by omega
    rw [selD_eq]
    by_cases h : i < k + 1
    · simp [h, ro2]
    · obtain rfl : i = k + 1 := by omega
      have e3 : (fun (i j : Nat) => DV.x (.bool (nb3 d1 d2 d3 d4 L k 200 (0 + i)))) = fun j _ => DV.x (.bool (FW d1 d2 d3 d4 L (k + 1) j)) := by
        funext a b
        rw [Nat.zero_add, nb3_end hv hk]
      rw [e3]
      simp [dsAt, ro2]

noncomputable def fwR (d1 d2 d3 d4 : Int) (n : Nat) (L : Nat → Int) : SV := .d (.ro (n + 1) 1 (ro2 (n + 1) (FW d1 d2 d3 d4 L)))

theorem loopF2 (hv : FwOK d1 d2 d3 d4 L n) {t : Tree SV} (hc : codeC t = .loop bodyF2) (hn0 : Nat.ble (codeS t).next 3 = true) (h0 : Gc 3 (ups (codeS t) 3) (invF2 d1 d2 d3 d4 n L (0 + 1) (FW d1 d2 d3 d4 L) ((0 : Nat) : Int)))
    {K : Tree SV} (hK : codeK t (.exit 2) (invF2 d1 d2 d3 d4 n L (n + 1) (FW d1 d2 d3 d4 L) n) = K) (hK2 : Sat Try.prog K (· = fwR d1 d2 d3 d4 n L)) : (Tree.code (codeC t) (codeS t) (codeK t)).sat Try.prog (· = fwR d1 d2 d3 d4 n L) := by
  refine code_satS C0_ok D0_ok (n := 200) (n0 := 3) (nx := 4) (roots := [(.slot 5, 3)]) (keep := [1, 5, 6]) (drop := [1, 2]) (h := .nil) hc hn0
    (fun q s => ∃ k : Nat, q = n - k ∧ k ≤ n ∧ s = invF2 d1 d2 d3 d4 n L (k + 1) (FW d1 d2 d3 d4 L) k)
    (fun e s => e = .exit 2 ∧ s = invF2 d1 d2 d3 d4 n L (n + 1) (FW d1 d2 d3 d4 L) n)
    ⟨_, _, ⟨0, rfl, by omega, rfl⟩, h0⟩ ?_ ?_
  · rintro q s ⟨k, rfl, hk, rfl⟩
    by_cases hkn : k < n
    · exact roundF2 hv hkn fun s hs => ⟨n - (k + 1), _, by omega, ⟨k + 1, rfl, by omega, rfl⟩, hs⟩
    · obtain rfl : k = n := by omega
      refine Sat.of_eq (BF2_eq d1 d2 d3 d4 k L (k + 1) (FW d1 d2 d3 d4 L) k) ?_
      constructor
      unfold BF2
      exact ⟨fun h => (by simp at h), fun _ => ⟨_, ⟨rfl, rfl⟩, Gc.refl _ _⟩⟩
  · rintro e s ⟨rfl, rfl⟩
    refine Sat.of_eq hK ?_
    exact hK2

def nb1 (d1 d2 : Int) : Nat → Bool := fun a => decide (d1 ≤ (a : Int)) && decide ((a : Int) < d2 + 1)

noncomputable def xF2 (d1 d2 d3 d4 : Int) (n : Nat) (L : Nat → Int) (nb : Nat → Bool) : AS := ⟨[.unk, .ok (.ptr 0 0), .unk, .unk, .unk, .ok (.row 3 0 0 1 1), .ok (iv 0)] ++ List.replicate 108 .unk, [cH d1 d2 d3 d4 n L, none, none, some (.cells [.d (.ro 200 1 fun i j => .x (.bool (nb (0 + i))))])], 4, .nil⟩

theorem entF2a (d1 d2 d3 d4 : Int) (n : Nat) (L : Nat → Int) (nb : Nat → Bool) (f : Int) : Sat Try.prog (entT [1] 3 [(.slot 5, 3)] [1, 5, 6] [1, 2] 4 .nil (kF1 d1 d2 d3 d4 n L nb f)) (Is (xF2 d1 d2 d3 d4 n L nb)) := by
  refine Sat.of_eq (IF2_eq d1 d2 d3 d4 n L nb f) ?_
  constructor
  unfold IF2
  exact ⟨by decide, by decide, by decide, rfl⟩

theorem entF2b (d1 d2 d3 d4 : Int) (n : Nat) (L : Nat → Int) (nb : Nat → Bool) (f : Int) : Gc 3 (ups (codeS (kF1 d1 d2 d3 d4 n L nb f)) 3) (xF2 d1 d2 d3 d4 n L nb) := entT_gc (entF2a d1 d2 d3 d4 n L nb f)

theorem entF2 (d1 d2 d3 d4 : Int) (n : Nat) (L : Nat → Int) : Gc 3 (ups (codeS (kF1 d1 d2 d3 d4 n L (nb1 d1 d2) (d2 + 1))) 3) (invF2 d1 d2 d3 d4 n L (0 + 1) (FW d1 d2 d3 d4 L) ((0 : Nat) : Int)) := by
  refine (entF2b d1 d2 d3 d4 n L (nb1 d1 d2) (d2 + 1)).trans ?_
  refine gF2c (nb := nb1 d1 d2) fun j hj => ?_
  rw [Nat.zero_add]
  show _ = fwB d1 d2 d3 d4 L 0 j
  unfold fwB nb1
  simp only [dB, dL, dH, Bool.true_and]
  rw [show decide ((j : Int) < d2 + 1) = decide ((j : Int) ≤ d2) by rw [decide_eq_decide]; omega]
  rfl

set_option maxHeartbeats 1000000 in
theorem forward_sat (hv : FwOK d1 d2 d3 d4 L n) : Sat Try.prog (tF d1 d2 d3 d4 n L) (· = fwR d1 d2 d3 d4 n L) := by
  constructor
  rw [LF_eq]; unfold LF
  have hn := hv.len; have hh := hv.h; have hl := hv.v.l
  refine ⟨by decide, ?_⟩
  refine code_satS C0_ok D0_ok (n := 200) (n0 := 2) (nx := 2) (roots := []) (keep := [1, 3, 4]) (drop := []) (h := .nil) (cF1 _ _ _ _ _ _) (nF1 _ _ _ _ _ _)
    (fun q s => ∃ f : Int, q = (d2 + 1 - f).toNat ∧ d1 ≤ f ∧ f ≤ d2 + 1 ∧ s = invF1 d1 d2 d3 d4 n L (fun a => decide (d1 ≤ a) && decide ((a : Int) < f)) f)
    (fun e s => e = .exit 0 ∧ s = invF1 d1 d2 d3 d4 n L (fun a => decide (d1 ≤ a) && decide ((a : Int) < d2 + 1)) (d2 + 1))
    ⟨_, _, ⟨d1, rfl, by omega, by have := hv.v.h; omega, rfl⟩, ?_⟩ ?_ ?_
  · refine (entA_sound (iF1 d1 d2 d3 d4 n L)).trans (gF1 fun i j hi hj => ?_)
    obtain rfl : j = 0 := by omega
    have : (decide (d1 ≤ (i : Int)) && decide ((i : Int) < d1)) = false := by
      rw [Bool.and_eq_false_iff]; simp only [decide_eq_false_iff_not]; omega
    rw [this]; rfl
  · rintro q s ⟨f, rfl, h1, h2, rfl⟩
    refine Sat.of_eq (BF1_eq d1 d2 d3 d4 n L _ f) ?_
    constructor
    unfold BF1
    have e2 : w64 (f + 1) = f + 1 := w64_of (by omega) (by omega)
    simp only [e2, Nat.zero_add]
    refine ⟨fun h => ?_, fun h => ?_⟩
    · simp only [Bool.and_eq_true, decide_eq_true_eq] at h
      refine ⟨by omega, by omega, (d2 + 1 - (f + 1)).toNat, _, by omega, ⟨f + 1, rfl, by omega, by omega, rfl⟩, gF1 fun i j hi hj => ?_⟩
      obtain rfl : j = 0 := by omega
      rw [if_pos (by decide)]
      refine selB (f := fun a => decide (d1 ≤ (a : Int)) && decide ((a : Int) < f)) (g := fun a => decide (d1 ≤ (a : Int)) && decide ((a : Int) < f + 1)) (fun e => ?_) (fun e => ?_)
      · subst e
        symm
        rw [Bool.and_eq_true, decide_eq_true_eq, decide_eq_true_eq]; omega
      · show (decide (d1 ≤ (i : Int)) && decide ((i : Int) < f)) = (decide (d1 ≤ (i : Int)) && decide ((i : Int) < f + 1))
        rw [show decide ((i : Int) < f) = decide ((i : Int) < f + 1) by rw [decide_eq_decide]; omega]
    · have : f = d2 + 1 := by
        simp only [Bool.and_eq_false_iff, decide_eq_false_iff_not] at h; omega
      subst this
      exact ⟨_, ⟨rfl, rfl⟩, Gc.refl _ _⟩
  · rintro e s ⟨rfl, rfl⟩
    show Sat Try.prog (kF1 d1 d2 d3 d4 n L (nb1 d1 d2) (d2 + 1)) _
    refine Sat.of_eq (KF1_eq d1 d2 d3 d4 n L (nb1 d1 d2) (d2 + 1)) ?_
    constructor
    unfold KF1
    rw [sub_nil]
    refine loopF2 hv (cF2 _ _ _ _ _ _ _ _) (nF2 _ _ _ _ _ _ _ _) (entF2 _ _ _ _ _ _) (KF2_eq d1 d2 d3 d4 n L (nb1 d1 d2) (d2 + 1) (n + 1) (FW d1 d2 d3 d4 L) n) ?_
    constructor
    unfold KF2
    refine ⟨by omega, ?_⟩
    simp only [Nat.zero_add]
    rfl
end

end Go.Proofs.Ytcbjclmjkilphaa

