/- Part of a proof of the given statements of this seat (SxMdK, SxMdX, SxMdY, SxMdZ, SxMdZa, SxMdEx, SxMdQ, SxMdDa, SxMdDj, SxMdDk, SxMdDl, SxMdDm, SxMdGd): no conditions beyond those typed here. -/
import Derived.Test.YtcbjclmjkilphaaSy04
import Derived.Test.YtcbjclmjkilphaaSy06
import Derived.RangeFuncBox
import Derived.WalkKit
import Derived.OwnWalkIn
import Derived.TacticsInMore
import Derived.LoopNIn
import Derived.LoopIn
import Derived.Test.YtcbjclmjkilphaaSy05
import Derived.Shelf.Abstract
import Derived.Test.YtcbjclmjkilphaaRows
import Derived.Test.YtcbjclmjkilphaaChecked
set_option linter.unusedVariables false
set_option linter.unusedSimpArgs false

namespace Go.Proofs.Ytcbjclmjkilphaa
open Go.Sx Go.RowKit
set_option maxRecDepth 100000
attribute [local go_sem] Oper.semAt_some

noncomputable def bkEl (N : Nat) (cell : Nat → Nat → DV) (k : Nat) : List SV := [iv ((N : Int) - 1 - k), .agg [.d (cell (N - 1 - k) 0), .d (cell (N - 1 - k) 1)]]

set_option maxHeartbeats 2000000 in
/-- slices.Backward's closure. -/
theorem bk_in (l B O N : Nat) (sv : Value) (hN : N ≤ 2000) (f : Nat → Nat → Value) (W0 : World) (F : Nat → Prop) (J : Nat → World → Prop) (W : World)
    (hJe : ∀ k W, J k W → Ext F W0 W) (hB : F B) (hBs : W0.cell? ⟨B, O, none⟩ = some sv)
    (hsv : (N = 0 ∧ (sv = .slice none 0 0 ∨ ∃ a cap, sv = .slice (some a) 0 cap)) ∨ ∃ b o cap, sv = .slice (some ⟨b, o, none⟩) N cap ∧ N ≠ 0 ∧ F b ∧ ∀ i j, i < N → j < 2 → W0.cell? ⟨b, o + (i * 2 + j), none⟩ = some (f i j))
    (hY : ∀ k W1, k < N → J k W1 → YieldAt Fence.wide 0 Try.prog l #[.int .i64 ((N : Int) - 1 - k), .agg #[f (N - 1 - k) 0, f (N - 1 - k) 1]] W1 fun e W' => e = .returned (.bool true) ∧ J (k + 1) W')
    (h0 : J 0 W) : CallsIn Fence.wide 0 Try.prog 76 #[.func (.yield l) #[] #[], .pointer (some ⟨B, O, none⟩)] W fun e W' => (∃ v, e = .returned v) ∧ J N W' := by
  have hl : ∃ a cap, sv = .slice a N cap := by
    rcases hsv with ⟨rfl, rfl | ⟨a, cap, rfl⟩⟩ | ⟨b, o, cap, rfl, _⟩ <;> exact ⟨_, _, rfl⟩
  have hbox : ∀ k W1, J k W1 → W1.cell? ⟨B, O, none⟩ = some sv := fun k W1 h => ((hJe k W1 h).cell hB).trans hBs
  refine callsIn_of_wp Try.func76 rfl trivial ?_ rfl
  obtain ⟨a, cap, rfl⟩ := hl
  have hb0 := hbox 0 W h0
  simp only [Try.ntmps76, List.size_toArray, List.length_cons, List.length_nil, Nat.reduceAdd, Nat.reduceSub, Array.replicate_succ, Array.replicate_zero, List.push_toArray, List.append_toArray, List.nil_append, List.cons_append]
  gi_wp2
  gi_loopw [3] (fun i wr => ∃ k : Nat, k ≤ N ∧ i = .int .i64 ((N : Int) - 1 - k) ∧ J k wr) (fun i _ => (intOf i + 1).toNat)
  case atStart => 
    refine ⟨0, Nat.zero_le _, ?_, h0⟩
    simp
  case round =>
    obtain ⟨k, hk, rfl, hJs⟩ := hrel
    have hbk := hbox k wr hJs
    by_cases hlt : k < N
    · rcases hsv with ⟨h, _⟩ | ⟨b, o, cap', hsv, hN0, hb, hc⟩
      · omega
      cases hsv
      obtain ⟨fn, tmps, assign, body, hy, hR⟩ := hY k wr hlt hJs
      have hc0 : wr.cell? ⟨b, o + (N - 1 - k) * 2, none⟩ = some (f (N - 1 - k) 0) := ((hJe k wr hJs).cell hb).trans (hc (N - 1 - k) 0 (by omega) (by omega))
      have hc1 : wr.cell? ⟨b, o + (N - 1 - k) * 2 + 1, none⟩ = some (f (N - 1 - k) 1) := ((hJe k wr hJs).cell hb).trans (hc (N - 1 - k) 1 (by omega) (by omega))
      have e1 : (N : Int) - 1 - k = ((N - 1 - k : Nat) : Int) := by omega
      rw [e1] at hy ⊢
      gi_wp2
      refine ⟨rfl, hR.mono ?_⟩
      rintro e W3 ⟨rfl, hJ3⟩
      gi_wp2
      go_roundw
      case rel => exact ⟨k + 1, by omega, by simp <;> omega, hJ3⟩
      case measure => simp [intOf] <;> omega
    · obtain rfl : k = N := by omega
      gi_wp2
      go_end0
      exact ⟨⟨_, rfl⟩, hJs⟩

theorem bk_iter (N : Nat) (cell : Nat → Nat → DV) (hN : N ≤ 2000) (c : Nat → DV) (hc0 : c 0 = .ro N 2 cell) : IterOK Try.prog 76 [.rop 1 c] N (bkEl N cell) := by
  rintro W0 F vs hF ⟨h1, h2⟩
  have hv := h2 0 (by simp)
  obtain ⟨v, rfl⟩ : ∃ v, vs = #[v] := by
    refine ⟨vs.getD 0 undef, ?_⟩
    apply Array.ext
    · simpa using h1
    · intro i hi _
      have : i = 0 := by simp at h1; omega
      subst this
      simp [Array.getD, hi]
  simp only [List.getD_cons_zero] at hv
  have hv : Rep W0 emp F v (.rop 1 c) := by simpa [Array.getD] using hv
  cases hv with
  | rop b o _ _ f hb hcell hone hrep =>
    have hbox := hcell 0 (by omega)
    have hsv := hrep 0 (by omega)
    rw [hc0] at hsv
    have hB := hb (by omega)
    generalize f 0 = sv at hbox hsv
    have key : ∃ g : Nat → Nat → Value, ((N = 0 ∧ (sv = .slice none 0 0 ∨ ∃ a cap, sv = .slice (some a) 0 cap)) ∨ ∃ b o cap, sv = .slice (some ⟨b, o, none⟩) N cap ∧ N ≠ 0 ∧ F b ∧ ∀ i j, i < N → j < 2 → W0.cell? ⟨b, o + (i * 2 + j), none⟩ = some (g i j)) ∧ ∀ i j, i < N → j < 2 → RepD W0 F (g i j) (cell i j) := by
      cases hsv with
      | nil => exact ⟨fun _ _ => undef, .inl ⟨rfl, .inl rfl⟩, fun i j hi => by omega⟩
      | z a cap => exact ⟨fun _ _ => undef, .inl ⟨rfl, .inr ⟨a, cap, rfl⟩⟩, fun i j hi => by omega⟩
      | ro b o _ cap _ _ g hF' hcap hcell hone hrep =>
        by_cases h0 : N = 0
        · subst h0; exact ⟨g, .inl ⟨rfl, .inr ⟨_, cap, rfl⟩⟩, hrep⟩
        · exact ⟨g, .inr ⟨b, o, cap, rfl, h0, hF' h0, hcell⟩, hrep⟩
    obtain ⟨g, k1, k2⟩ := key
    refine ⟨fun k => #[.int .i64 ((N : Int) - 1 - k), .agg #[g (N - 1 - k) 0, g (N - 1 - k) 1]], fun k hk => ⟨rfl, fun i hi => ?_⟩, fun l J W hJe _ hY h0 => ?_⟩
    · match i, hi with
      | 0, _ => exact .d (.x _)
      | 1, _ =>
        refine .agg _ _ rfl fun i hi => ?_
        match i, hi with
        | 0, _ => exact .d (k2 _ _ (by omega) (by omega))
        | 1, _ => exact .d (k2 _ _ (by omega) (by omega))
    · exact bk_in l b o N sv hN g W0 F J W hJe hB hbox k1 hY h0

end Go.Proofs.Ytcbjclmjkilphaa

namespace Go.Proofs.Ytcbjclmjkilphaa
open Go.Sx
set_option maxRecDepth 100000

/-! ### drift.Path -/

noncomputable def inl7 : FuncId → Bool := fun k => k == 58
noncomputable def C7x : Ctx := ctxN Try.prog man4 inl7 200 .nil 4
theorem C7x_ok : CtxOK Try.prog C7x := ctxN_ok mixed (fun k c h => by
  unfold man4 at h
  split at h
  · rename_i e; cases h; subst e; exact ⟨cSpans_ok, by kernel_rfl⟩
  · cases h) 4
noncomputable def D7x : Dr := fun _ => drawn Try.prog C7x
theorem D7x_ok : DrOK Try.prog C7x D7x := drawn_ok C7x_ok mixed

noncomputable def tPa (lo hi st er : Int) (n : Nat) (L : Nat → Int) (last : Int) : Tree SV := fnT Try.prog C7x D7x 200 (fnOf Try.prog 31) (bodyOf Try.prog 31) [iv lo, iv hi, iv st, iv er, ro64 n L, iv last] .nil

noncomputable def LPa (lo hi st er : Int) (n : Nat) (L : Nat → Int) (last : Int) : Tree SV :=
  .need (dV lo hi st er ∧ n ≤ 1000 ∧ ∀ (i : Nat), i < n → ∃ b, (fun i x => DV.x (.int .i64 (L i))) i (0 : Nat) = DV.x (.int .i64 b))
  (.ite (dE lo hi st er (fun i => intOf1 (DV.x (.int .i64 (L i)))) n != (0 : Int))
    (.ret (.tup [.d (DV.x (.slice none 0 0)), iv (dE lo hi st er (fun i => intOf1 (DV.x (.int .i64 (L i)))) n)]))
    (.need
      ((0 : Int) ≤ w64 ((↑(dCnt lo hi st er (fun i => intOf1 (DV.x (.int .i64 (L i)))) n + 1) : Int) - (1 : Int)) ∧
        w64 ((↑(dCnt lo hi st er (fun i => intOf1 (DV.x (.int .i64 (L i)))) n + 1) : Int) - (1 : Int)) < (↑(dCnt lo hi st er (fun i => intOf1 (DV.x (.int .i64 (L i)))) n + 1) : Int))
      (.need ((0 : Int) ≤ (0 : Int) ∧ (0 : Int) < (2 : Int))
        (.need (0 < 2)
          (.need
            (decide (last < dL lo st er (fun i => intOf1 (DV.x (.int .i64 (L i)))) (Int.toNat (w64 ((↑(dCnt lo hi st er (fun i => intOf1 (DV.x (.int .i64 (L i)))) n + 1) : Int) - (1 : Int))))) = false →
              (0 : Int) ≤ (1 : Int) ∧ (1 : Int) < (2 : Int))
            (.need
              (decide (last < dL lo st er (fun i => intOf1 (DV.x (.int .i64 (L i)))) (Int.toNat (w64 ((↑(dCnt lo hi st er (fun i => intOf1 (DV.x (.int .i64 (L i)))) n + 1) : Int) - (1 : Int))))) = false →
                1 < 2)
              (.ite
                (decide (last < dL lo st er (fun i => intOf1 (DV.x (.int .i64 (L i)))) (Int.toNat (w64 ((↑(dCnt lo hi st er (fun i => intOf1 (DV.x (.int .i64 (L i)))) n + 1) : Int) - (1 : Int))))) ||
                  decide (last > dH hi st er (fun i => intOf1 (DV.x (.int .i64 (L i)))) (Int.toNat (w64 ((↑(dCnt lo hi st er (fun i => intOf1 (DV.x (.int .i64 (L i)))) n + 1) : Int) - (1 : Int))))))
                (.ret (.tup [.d (DV.x (.slice none 0 0)), iv (4 : Int)]))
                (.need
                  ((0 : Int) ≤ (↑(dCnt lo hi st er (fun i => intOf1 (DV.x (.int .i64 (L i)))) n + 1) : Int) ∧
                    (↑(dCnt lo hi st er (fun i => intOf1 (DV.x (.int .i64 (L i)))) n + 1) : Int) ≤ (↑(dCnt lo hi st er (fun i => intOf1 (DV.x (.int .i64 (L i)))) n + 1) : Int) ∧
                      (↑(dCnt lo hi st er (fun i => intOf1 (DV.x (.int .i64 (L i)))) n + 1) : Int) * (8 : Int) ≤ (140737488355328 : Int))
                  (.code (codeC (sub [(0 : Nat), (1 : Nat), (0 : Nat), (0 : Nat), (0 : Nat), (0 : Nat), (0 : Nat), (1 : Nat), (0 : Nat)] (tPa lo hi st er n L last)))
                    (codeS (sub [(0 : Nat), (1 : Nat), (0 : Nat), (0 : Nat), (0 : Nat), (0 : Nat), (0 : Nat), (1 : Nat), (0 : Nat)] (tPa lo hi st er n L last)))
                    (codeK (sub [(0 : Nat), (1 : Nat), (0 : Nat), (0 : Nat), (0 : Nat), (0 : Nat), (0 : Nat), (1 : Nat), (0 : Nat)] (tPa lo hi st er n L last))))))))))))

theorem LPa_eq (lo hi st er : Int) (n : Nat) (L : Nat → Int) (last : Int) : tPa lo hi st er n L last = LPa lo hi st er n L last := by kernel_rfl

noncomputable def subPa (lo hi st er : Int) (n : Nat) (L : Nat → Int) (last : Int) : Tree SV := sub [0, 1, 0, 0, 0, 0, 0, 1, 0] (tPa lo hi st er n L last)
noncomputable def TMPa : List TV := List.replicate 11 .unk ++ [.ok (.ptr 0 0)] ++ List.replicate 6 .unk ++ [.ok (.ptr 6 0)] ++ List.replicate 50 .unk
noncomputable def invPa (x : Int) (m : Nat) (c : Nat → Int) : AS :=
  ⟨List.replicate 69 .unk, [some (.cells [iv x]), none, none, none, none, some (row64 m c), some (.cells [.row 5 0 0 m 1]), none, none], 9, .nil⟩
noncomputable def aPa : Code := rgA (rangeN (bodyOf Try.prog 31) 0)
noncomputable def bPa : Code := rgB (rangeN (bodyOf Try.prog 31) 0)
noncomputable def rPa (i a b x : Int) (m : Nat) (c : Nat → Int) : Tree (Ex × AS) := roundT Try.prog C7x D7x 200 9 [] [1, 2, 3, 4, 7, 8] 9 .nil aPa bPa ⟨parTm [55, 56] [iv i, .agg [iv a, iv b]] TMPa, (invPa x m c).hp, 9, .nil⟩
noncomputable def BPa (i a b x : Int) (m : Nat) (c : Nat → Int) : Tree (Ex × AS) :=
  .need ((0 : Int) ≤ (0 : Int) ∧ (0 : Int) < (2 : Int))
  (.need (0 < 2)
    (.need ((0 : Int) ≤ (1 : Int) ∧ (1 : Int) < (2 : Int))
      (.need (1 < 2)
        (.need ((0 : Int) ≤ i ∧ i < (↑m : Int))
          (.need (0 + Int.toNat i < m)
            (.ret
              (.normal,
                {
                  tm :=
                    [.unk, .unk, .unk, .unk, .unk, .unk, .unk, .unk, .unk, .unk, .unk, .unk, .unk, .unk, .unk, .unk, .unk, .unk, .unk, .unk, .unk, .unk, .unk, .unk, .unk, .unk, .unk,
                      .unk, .unk, .unk, .unk, .unk, .unk, .unk, .unk, .unk, .unk, .unk, .unk, .unk, .unk, .unk, .unk, .unk, .unk, .unk, .unk, .unk, .unk, .unk, .unk, .unk, .unk, .unk,
                      .unk, .unk, .unk, .unk, .unk, .unk, .unk, .unk, .unk, .unk, .unk, .unk, .unk, .unk, .unk],
                  hp :=
                    [some (.cells [iv (if b < if a > x then a else x then b else if a > x then a else x)]), none, none, none, none,
                      some
                        (.row m 1 fun a_1 b_1 =>
                          if 0 ≤ b_1 ∧ b_1 < 1 then
                            selD (decide (a_1 = 0 + Int.toNat i))
                              (match [DV.x (.int .i64 (if b < if a > x then a else x then b else if a > x then a else x))][b_1 - 0]? with
                              | some x => x
                              | none => DV.x (.tuple { toList := [] }))
                              (DV.x (.int .i64 (c a_1)))
                          else DV.x (.int .i64 (c a_1))),
                      some (.cells [.row 5 0 0 m 1]), none, none],
                  next := 9, hint := .nil })))))))

theorem BPa_eq (i a b x : Int) (m : Nat) (c : Nat → Int) : rPa i a b x m c = BPa i a b x m c := by kernel_rfl

noncomputable def inPa (t : Tree SV) : Option AS := entR 9 [8] [] [1, 2, 3, 4, 7, 8] 9 .nil t
noncomputable def IPa (lo hi st er : Int) (n : Nat) (L : Nat → Int) (last : Int) : Option AS :=
  some
  {
    tm :=
      [.unk, .unk, .unk, .unk, .unk, .unk, .unk, .unk, .unk, .unk, .unk, .unk, .unk, .unk, .unk, .unk, .unk, .unk, .unk, .unk, .unk, .unk, .unk, .unk, .unk, .unk, .unk, .unk, .unk,
        .unk, .unk, .unk, .unk, .unk, .unk, .unk, .unk, .unk, .unk, .unk, .unk, .unk, .unk, .unk, .unk, .unk, .unk, .unk, .unk, .unk, .unk, .unk, .unk, .unk, .unk, .unk, .unk, .unk,
        .unk, .unk, .unk, .unk, .unk, .unk, .unk, .unk, .unk, .unk, .unk],
    hp :=
      [some (.cells [iv last]), none, none, none, none,
        some
          (.row (Int.toNat (↑(dCnt lo hi st er (fun i => intOf1 (DV.x (.int .i64 (L i)))) n + 1) : Int)) 1 fun x j =>
            match [DV.x (.int .i64 (0 : Int))][j]? with
            | some x => x
            | none => DV.x (.tuple { toList := [] })),
        some (.cells [.row 5 0 0 (Int.toNat (↑(dCnt lo hi st er (fun i => intOf1 (DV.x (.int .i64 (L i)))) n + 1) : Int)) 1]), none, none],
    next := 9, hint := .nil }

theorem IPa_eq (lo hi st er : Int) (n : Nat) (L : Nat → Int) (last : Int) : inPa (subPa lo hi st er n L last) = IPa lo hi st er n L last := by kernel_rfl

noncomputable def KPa (lo hi st er : Int) (n : Nat) (L : Nat → Int) (last x : Int) (m : Nat) (c : Nat → Int) : Tree SV :=
  .need (0 + m ≤ m) (.ret (.tup [.d (DV.ro m 1 fun i j => DV.x (.int .i64 (c ((0 : Nat) + i)))), iv (0 : Int)]))

theorem KPa_eq (lo hi st er : Int) (n : Nat) (L : Nat → Int) (last x : Int) (m : Nat) (c : Nat → Int) : codeK (subPa lo hi st er n L last) .normal ⟨TMPa, (invPa x m c).hp, 9, .nil⟩ = KPa lo hi st er n L last x m c := by kernel_rfl

theorem cPa (lo hi st er : Int) (n : Nat) (L : Nat → Int) (last : Int) : codeC (subPa lo hi st er n L last) = .rangeFunc (.tmp 54) #[55, 56] aPa bPa := by kernel_rfl
theorem nPa (lo hi st er : Int) (n : Nat) (L : Nat → Int) (last : Int) : Nat.ble (codeS (subPa lo hi st er n L last)).next 9 = true := by kernel_rfl
theorem gPa (lo hi st er : Int) (n : Nat) (L : Nat → Int) (last : Int) : tvStrict none (tget (codeS (subPa lo hi st er n L last)).tm 54) = some (.fn (.func 76) [] [.ptr 8 0]) := by kernel_rfl
theorem vPa (lo hi st er : Int) (n : Nat) (L : Nat → Int) (last : Int) : capV (codeS (subPa lo hi st er n L last)).hp [.ptr 8 0] = some ([.rop 1 fun j => [DV.ro (dCnt lo hi st er L n + 1) 2 (scell (dL lo st er L) (dH hi st er L))].getD j (.x undef)], [8]) := by kernel_rfl
theorem tPaK (lo hi st er : Int) (n : Nat) (L : Nat → Int) (last : Int) : keepTm [11, 18] 0 (codeS (subPa lo hi st er n L last)).tm = TMPa := by kernel_rfl
theorem naPa : noRange aPa = true := by kernel_rfl
theorem nbPa : noRange bPa = true := by kernel_rfl

end Go.Proofs.Ytcbjclmjkilphaa

namespace Go.Proofs.Ytcbjclmjkilphaa
open Go.Sx
set_option maxRecDepth 100000
variable {lo hi st er last : Int} {L : Nat → Int} {n k : Nat}

/-! ### drift.Path -/

/-- The path from its end: what it is behind k rounds. -/
def pw (lo hi st er : Int) (n : Nat) (L : Nat → Int) (last : Int) : Nat → Int
  | 0 => last
  | k + 1 => min (max (pw lo hi st er n L last k) (dL lo st er L (n - k))) (dH hi st er L (n - k))
/-- The path. -/
def pth (lo hi st er : Int) (n : Nat) (L : Nat → Int) (last : Int) (i : Nat) : Int := pw lo hi st er n L last (n + 1 - i)
def cP (lo hi st er : Int) (n : Nat) (L : Nat → Int) (last : Int) (k i : Nat) : Int := if n + 1 - k ≤ i then pth lo hi st er n L last i else 0

theorem invPa_gc {x : Int} {m : Nat} {c' : Nat → Nat → DV} {c : Nat → Int} (h : ∀ i j, i < m → j < 1 → c' i j = xi (c i)) :
    Gc 9 ⟨List.replicate 69 .unk, [some (.cells [iv x]), none, none, none, none, some (.row m 1 c'), some (.cells [.row 5 0 0 m 1]), none, none], 9, .nil⟩ (invPa x m c) := by
  refine gc_sound [] [] rfl ?_ ?_
  · simp [invPa, leTm, leTV, List.replicate]
  · simp [invPa, leHp, leBlk, leSVs, leSV, rn, iv, leD, srcOf, hget, row64]
    exact fun i hi => h i 0 hi (by decide)

noncomputable def paT (lo hi st er : Int) (n : Nat) (L : Nat → Int) (last : Int) : Tr SV :=
  .ite (dB lo hi st er L n) (.ite (decide (dL lo st er L n ≤ last) && decide (last ≤ dH hi st er L n)) (.ret (.tup [.d (.ro (n + 1) 1 fun i _ => xi (pth lo hi st er n L last i)), iv 0])) (.ret (.tup [.d (.x (.slice none 0 0)), iv 4]))) (.ret (.tup [.d (.x (.slice none 0 0)), iv 440]))

theorem pa_sat (hv : dV lo hi st er) (hn : n ≤ 1000) {r : SV} (hr : (paT lo hi st er n L last).ev r) : Sat Try.prog (tPa lo hi st er n L last) (· = r) := by
  constructor
  rw [LPa_eq]; unfold LPa
  rw [show (fun i => intOf1 (DV.x (Value.int IntKind.i64 (L i)))) = L from rfl]
  refine ⟨⟨hv, hn, fun i hi => ⟨_, rfl⟩⟩, fun hc => ?_, fun hc => ?_⟩
  · have hb : dB lo hi st er L n = false := by
      cases h : dB lo hi st er L n with
      | false => rfl
      | true => simp [dE, h] at hc
    simp only [paT, hb, Tr.ev, Bool.false_eq_true, false_and, false_or, true_and] at hr
    subst hr
    simp only [Tree.sat, dE, hb, cond_false]
  have hb : dB lo hi st er L n = true := by
    cases h : dB lo hi st er L n with
    | true => rfl
    | false => simp [dE, h] at hc
  simp only [paT, hb, Tr.ev, Bool.true_eq_false, false_and, or_false, true_and] at hr
  rw [dCnt_all hb]
  have e : w64 (((n + 1 : Nat) : Int) - 1) = n := by rw [w64_of (by omega) (by omega)]; omega
  rw [e]
  simp only [Int.toNat_natCast]
  refine ⟨by omega, by decide, by decide, fun _ => by decide, fun _ => by decide, fun hc => ?_, fun hc => ?_⟩
  · have : (decide (dL lo st er L n ≤ last) && decide (last ≤ dH hi st er L n)) = false := by
      simp at hc ⊢; omega
    simp only [this, Bool.false_eq_true, false_and, false_or, true_and] at hr
    subst hr
    rfl
  have hin : (decide (dL lo st er L n ≤ last) && decide (last ≤ dH hi st er L n)) = true := by
    simp at hc ⊢; omega
  simp only [hin, Bool.true_eq_false, false_and, or_false, true_and] at hr
  subst hr
  refine ⟨by omega, ?_⟩
  have hv1 := vPa lo hi st er n L last
  rw [dCnt_all hb] at hv1
  refine range_satS C7x_ok D7x_ok (n := 200) (n0 := 9) (nx := 9) (roots := []) (drop := [1, 2, 3, 4, 7, 8]) (keep := [11, 18]) (h := .nil) (h' := .nil) (N := n + 1) (cPa lo hi st er n L last) (nPa lo hi st er n L last) (gPa lo hi st er n L last) hv1
    (bk_iter (n + 1) (scell (dL lo st er L) (dH hi st er L)) (by omega) _ rfl) (fun k hk => rfl) (enters_of Try.func76 (by kernel_rfl) rfl) naPa nbPa (tPaK lo hi st er n L last)
    (fun k s => s = invPa (pw lo hi st er n L last k) (n + 1) (cP lo hi st er n L last k)) ⟨_, rfl, ?_⟩ ?_ ?_
  · have hI := IPa_eq lo hi st er n L last
    unfold IPa inPa at hI
    refine (entR_sound hI).trans ?_
    rw [show (fun i => intOf1 (DV.x (Value.int IntKind.i64 (L i)))) = L from rfl, dCnt_all hb]
    refine invPa_gc fun i j hi2 hj => ?_
    obtain rfl : j = 0 := by omega
    simp only [cP]
    rw [if_neg (by omega)]
    rfl
  · rintro k s hk rfl
    have hbody : roundT Try.prog C7x D7x 200 9 [] [1, 2, 3, 4, 7, 8] 9 .nil aPa bPa ⟨parTm [55, 56] (bkEl (n + 1) (scell (dL lo st er L) (dH hi st er L)) k) TMPa, (invPa (pw lo hi st er n L last k) (n + 1) (cP lo hi st er n L last k)).hp, 9, .nil⟩ = _ :=
      BPa_eq (((n + 1 : Nat) : Int) - 1 - k) (dL lo st er L (n + 1 - 1 - k)) (dH hi st er L (n + 1 - 1 - k)) (pw lo hi st er n L last k) (n + 1) (cP lo hi st er n L last k)
    constructor
    refine Eq.mpr (congrArg (fun t => Tree.sat Try.prog t _) hbody) ?_
    unfold BPa
    have e1 : Int.toNat (((n + 1 : Nat) : Int) - 1 - k) = n - k := by omega
    simp only [lt_if, gt_if, e1, Nat.add_sub_cancel]
    refine ⟨by decide, by decide, by decide, by decide, by omega, by omega, rfl, _, rfl, ?_⟩
    rw [show min (max (pw lo hi st er n L last k) (dL lo st er L (n - k))) (dH hi st er L (n - k)) = pw lo hi st er n L last (k + 1) from rfl]
    refine invPa_gc fun i j hi2 hj => ?_
    obtain rfl : j = 0 := by omega
    rw [if_pos (by omega), selD_eq]
    by_cases h : i = n - k
    · subst h
      have e2 : cP lo hi st er n L last (k + 1) (n - k) = pw lo hi st er n L last (k + 1) := by
        simp only [cP, pth]
        rw [if_pos (by omega), show n + 1 - (n - k) = k + 1 by omega]
      rw [e2]
      simp
    · have : ¬ i = 0 + (n - k) := by omega
      simp only [this, decide_false, cond_false, cP]
      by_cases h2 : n + 1 - k ≤ i
      · rw [if_pos h2, if_pos (by omega)]
      · rw [if_neg h2, if_neg (by omega)]
  · rintro s rfl
    have hK : codeK (sub [0, 1, 0, 0, 0, 0, 0, 1, 0] (tPa lo hi st er n L last)) .normal ⟨TMPa, (invPa (pw lo hi st er n L last (n + 1)) (n + 1) (cP lo hi st er n L last (n + 1))).hp, (invPa (pw lo hi st er n L last (n + 1)) (n + 1) (cP lo hi st er n L last (n + 1))).next, .nil⟩ = _ := KPa_eq lo hi st er n L last (pw lo hi st er n L last (n + 1)) (n + 1) (cP lo hi st er n L last (n + 1))
    constructor
    rw [hK]
    unfold KPa
    refine ⟨by omega, ?_⟩
    simp only [Tree.sat, cP, Nat.zero_add, Nat.sub_self, Nat.zero_le, if_true]

noncomputable def cPath : Ctr := fun ss => match ss with
  | [.d (.x (.int .i64 lo)), .d (.x (.int .i64 hi)), .d (.x (.int .i64 st)), .d (.x (.int .i64 er)), .d (.ro n 1 cell), .d (.x (.int .i64 last))] =>
    .need (dV lo hi st er ∧ n ≤ 1000 ∧ ∀ i, i < n → ∃ b, cell i 0 = .x (.int .i64 b)) (paT lo hi st er n (intCell cell) last)
  | _ => .fail

theorem cPath_ok : CtrOK Try.prog 31 cPath := by
  refine ctrOK_leS C7x_ok D7x_ok (by kernel_rfl) (by kernel_rfl) fun ss r h => ?_
  unfold cPath at h
  split at h
  · rename_i lo hi st er n cell last
    obtain ⟨⟨hv, hn, hb⟩, h⟩ := h
    refine ⟨[iv lo, iv hi, iv st, iv er, ro64 n (intCell cell), iv last], 200, .nil, ?_, pa_sat hv hn h⟩
    simp only [leSVs, leSV, iv, ro64, leD, and_true, true_and]
    exact le_ro64 hb
  · exact h.elim

/-- drift.Path where there is a path. -/
noncomputable def cPath1 : Ctr := fun ss => match ss with
  | [.d (.x (.int .i64 lo)), .d (.x (.int .i64 hi)), .d (.x (.int .i64 st)), .d (.x (.int .i64 er)), .d (.ro n 1 cell), .d (.x (.int .i64 last))] =>
    .need ((dV lo hi st er ∧ n ≤ 1000 ∧ ∀ i, i < n → ∃ b, cell i 0 = .x (.int .i64 b)) ∧ dB lo hi st er (intCell cell) n = true ∧ dL lo st er (intCell cell) n ≤ last ∧ last ≤ dH hi st er (intCell cell) n) (.ret (.tup [.d (.ro (n + 1) 1 fun i _ => xi (pth lo hi st er n (intCell cell) last i)), iv 0]))
  | _ => .fail

theorem cPath1_ok : CtrOK Try.prog 31 cPath1 := cPath_ok.mono fun ss r h => by
  unfold cPath1 at h
  split at h
  · rename_i lo hi st er n cell last
    obtain ⟨⟨h0, h1, h2, h3⟩, h⟩ := h
    refine ⟨h0, ?_⟩
    simp only [Tr.ev] at h
    subst h
    unfold paT
    exact .inl ⟨h1, .inl ⟨by simp [h2, h3], rfl⟩⟩
  · exact h.elim

end Go.Proofs.Ytcbjclmjkilphaa

namespace Go.Proofs.Ytcbjclmjkilphaa
open Go.Sx
set_option maxRecDepth 100000

/-! ### drift.Spans -/

noncomputable def inl8 : FuncId → Bool := fun k => k == 58
noncomputable def C8x : Ctx := ctxN Try.prog man4 inl8 200 .nil 4
theorem C8x_ok : CtxOK Try.prog C8x := ctxN_ok mixed (fun k c h => by
  unfold man4 at h
  split at h
  · rename_i e; cases h; subst e; exact ⟨cSpans_ok, by kernel_rfl⟩
  · cases h) 4
noncomputable def D8x : Dr := fun _ => drawn Try.prog C8x
theorem D8x_ok : DrOK Try.prog C8x D8x := drawn_ok C8x_ok mixed

noncomputable def tSn (lo hi st er : Int) (n : Nat) (L : Nat → Int) : Tree SV := fnT Try.prog C8x D8x 200 (fnOf Try.prog 63) (bodyOf Try.prog 63) [iv lo, iv hi, iv st, iv er, ro64 n L] .nil

noncomputable def LSn (lo hi st er : Int) (n : Nat) (L : Nat → Int) : Tree SV :=
  .need (dV lo hi st er ∧ n ≤ 1000 ∧ ∀ (i : Nat), i < n → ∃ b, (fun i x => DV.x (.int .i64 (L i))) i (0 : Nat) = DV.x (.int .i64 b))
  (.ite (dE lo hi st er (fun i => intOf1 (DV.x (.int .i64 (L i)))) n != (0 : Int))
    (.ret (.tup [.d (DV.x (.slice none 0 0)), iv (dE lo hi st er (fun i => intOf1 (DV.x (.int .i64 (L i)))) n)]))
    (.need
      ((0 : Int) ≤ (↑(dCnt lo hi st er (fun i => intOf1 (DV.x (.int .i64 (L i)))) n + 1) : Int) ∧
        (↑(dCnt lo hi st er (fun i => intOf1 (DV.x (.int .i64 (L i)))) n + 1) : Int) ≤ (↑(dCnt lo hi st er (fun i => intOf1 (DV.x (.int .i64 (L i)))) n + 1) : Int) ∧
          (↑(dCnt lo hi st er (fun i => intOf1 (DV.x (.int .i64 (L i)))) n + 1) : Int) * (16 : Int) ≤ (140737488355328 : Int))
      (.need
        ((0 : Int) ≤ w64 ((↑(dCnt lo hi st er (fun i => intOf1 (DV.x (.int .i64 (L i)))) n + 1) : Int) - (1 : Int)) ∧
          w64 ((↑(dCnt lo hi st er (fun i => intOf1 (DV.x (.int .i64 (L i)))) n + 1) : Int) - (1 : Int)) < (↑(dCnt lo hi st er (fun i => intOf1 (DV.x (.int .i64 (L i)))) n + 1) : Int))
        (.code (codeC (sub [(0 : Nat), (1 : Nat), (0 : Nat), (0 : Nat)] (tSn lo hi st er n L))) (codeS (sub [(0 : Nat), (1 : Nat), (0 : Nat), (0 : Nat)] (tSn lo hi st er n L)))
          (codeK (sub [(0 : Nat), (1 : Nat), (0 : Nat), (0 : Nat)] (tSn lo hi st er n L)))))))

theorem LSn_eq (lo hi st er : Int) (n : Nat) (L : Nat → Int) : tSn lo hi st er n L = LSn lo hi st er n L := by kernel_rfl

noncomputable def pSn : List Nat := [0, 1, 0, 0]
noncomputable def TMSn : List TV := List.replicate 12 .unk ++ [.ok (.ptr 0 0), .ok (.ptr 1 0), .unk, .ok (.ptr 5 0), .ok (.ptr 7 0)] ++ List.replicate 45 .unk
noncomputable def invSn (lo hi st er : Int) (N : Nat) (sl sh : Nat → Int) (x y : Int) (m : Nat) (cl ch : Nat → Int) : AS :=
  ⟨List.replicate 62 .unk, [some (.cells [iv lo, iv hi, iv st, iv er]), some (.cells [.d (.ro N 2 (scell sl sh))]), none, none, some (.row m 2 (scell cl ch)), some (.cells [.row 4 0 0 m 2]), none, some (.cells [iv x, iv y]), none, none], 10, .nil⟩
noncomputable def aSn : Code := rgA (rangeN (bodyOf Try.prog 63) 0)
noncomputable def bSn : Code := rgB (rangeN (bodyOf Try.prog 63) 0)
noncomputable def rSn (i a b lo hi st er : Int) (N : Nat) (sl sh : Nat → Int) (x y : Int) (m : Nat) (cl ch : Nat → Int) : Tree (Ex × AS) := roundT Try.prog C8x D8x 200 10 [] [2, 3, 6, 8, 9] 10 .nil aSn bSn ⟨parTm [43, 44] [iv i, .agg [iv a, iv b]] TMSn, (invSn lo hi st er N sl sh x y m cl ch).hp, 10, .nil⟩
noncomputable def BSn (i a b lo hi st er : Int) (N : Nat) (sl sh : Nat → Int) (x y : Int) (m : Nat) (cl ch : Nat → Int) : Tree (Ex × AS) :=
  .need ((0 : Int) ≤ (0 : Int) ∧ (0 : Int) < (2 : Int))
  (.need (0 < 2)
    (.need ((0 : Int) ≤ (1 : Int) ∧ (1 : Int) < (2 : Int))
      (.need (1 < 2)
        (.need ((0 : Int) ≤ (0 : Int) ∧ (0 : Int) < (2 : Int))
          (.need (0 < 2)
            (.need ((0 : Int) ≤ (0 : Int) ∧ (0 : Int) < (2 : Int))
              (.need (0 < 2)
                (.need ((0 : Int) ≤ (1 : Int) ∧ (1 : Int) < (2 : Int))
                  (.need (1 < 2)
                    (.need ((0 : Int) ≤ (1 : Int) ∧ (1 : Int) < (2 : Int))
                      (.need (1 < 2)
                        (.ite (i == w64 ((↑N : Int) - (1 : Int)))
                          (.need ((0 : Int) ≤ i ∧ i < (↑m : Int))
                            (.need (0 + Int.toNat i < m)
                              (.ret
                                (.normal,
                                  {
                                    tm :=
                                      [.unk, .unk, .unk, .unk, .unk, .unk, .unk, .unk, .unk, .unk, .unk, .unk, .unk, .unk, .unk, .unk, .unk, .unk, .unk, .unk, .unk, .unk, .unk, .unk, .unk,
                                        .unk, .unk, .unk, .unk, .unk, .unk, .unk, .unk, .unk, .unk, .unk, .unk, .unk, .unk, .unk, .unk, .unk, .unk, .unk, .unk, .unk, .unk, .unk, .unk, .unk,
                                        .unk, .unk, .unk, .unk, .unk, .unk, .unk, .unk, .unk, .unk, .unk, .unk],
                                    hp :=
                                      [some (.cells [iv lo, iv hi, iv st, iv er]),
                                        some
                                          (.cells
                                            [.d
                                                (DV.ro N 2 fun a b =>
                                                  match b with
                                                  | (0 : Nat) => DV.x (.int .i64 (sl a))
                                                  | x => DV.x (.int .i64 (sh a)))]),
                                        none, none,
                                        some
                                          (.row m 2 fun a_1 b_1 =>
                                            if 0 ≤ b_1 ∧ b_1 < 2 then
                                              selD (decide (a_1 = 0 + Int.toNat i))
                                                (match [DV.x (.int .i64 a), DV.x (.int .i64 b)][b_1 - 0]? with
                                                | some x => x
                                                | none => DV.x (.tuple { toList := [] }))
                                                (scell cl ch a_1 b_1)
                                            else scell cl ch a_1 b_1),
                                        some (.cells [.row 4 0 0 m 2]), none, some (.cells [iv a, iv b]), none, none],
                                    next := 10, hint := .nil }))))
                          (.need ((0 : Int) ≤ i ∧ i < (↑m : Int))
                            (.need (0 + Int.toNat i < m)
                              (.ret
                                (.normal,
                                  {
                                    tm :=
                                      [.unk, .unk, .unk, .unk, .unk, .unk, .unk, .unk, .unk, .unk, .unk, .unk, .unk, .unk, .unk, .unk, .unk, .unk, .unk, .unk, .unk, .unk, .unk, .unk, .unk,
                                        .unk, .unk, .unk, .unk, .unk, .unk, .unk, .unk, .unk, .unk, .unk, .unk, .unk, .unk, .unk, .unk, .unk, .unk, .unk, .unk, .unk, .unk, .unk, .unk, .unk,
                                        .unk, .unk, .unk, .unk, .unk, .unk, .unk, .unk, .unk, .unk, .unk, .unk],
                                    hp :=
                                      [some (.cells [iv lo, iv hi, iv st, iv er]),
                                        some
                                          (.cells
                                            [.d
                                                (DV.ro N 2 fun a b =>
                                                  match b with
                                                  | (0 : Nat) => DV.x (.int .i64 (sl a))
                                                  | x => DV.x (.int .i64 (sh a)))]),
                                        none, none,
                                        some
                                          (.row m 2 fun a_1 b_1 =>
                                            if 0 ≤ b_1 ∧ b_1 < 2 then
                                              selD (decide (a_1 = 0 + Int.toNat i))
                                                (match [DV.x (.int .i64 (if w64 (x - st) > a then w64 (x - st) else a)), DV.x (.int .i64 (if w64 (y + st) < b then w64 (y + st) else b))][b_1 - 0]? with
                                                | some x => x
                                                | none => DV.x (.tuple { toList := [] }))
                                                (scell cl ch a_1 b_1)
                                            else scell cl ch a_1 b_1),
                                        some (.cells [.row 4 0 0 m 2]), none,
                                        some (.cells [iv (if w64 (x - st) > a then w64 (x - st) else a), iv (if w64 (y + st) < b then w64 (y + st) else b)]), none, none],
                                    next := 10, hint := .nil }))))))))))))))))

theorem BSn_eq (i a b lo hi st er : Int) (N : Nat) (sl sh : Nat → Int) (x y : Int) (m : Nat) (cl ch : Nat → Int) : rSn i a b lo hi st er N sl sh x y m cl ch = BSn i a b lo hi st er N sl sh x y m cl ch := by kernel_rfl

noncomputable def inSn (t : Tree SV) : Option AS := entR 10 [9] [] [2, 3, 6, 8, 9] 10 .nil t
noncomputable def ISn (lo hi st er : Int) (n : Nat) (L : Nat → Int) : Option AS :=
  some
  {
    tm :=
      [.unk, .unk, .unk, .unk, .unk, .unk, .unk, .unk, .unk, .unk, .unk, .unk, .unk, .unk, .unk, .unk, .unk, .unk, .unk, .unk, .unk, .unk, .unk, .unk, .unk, .unk, .unk, .unk, .unk,
        .unk, .unk, .unk, .unk, .unk, .unk, .unk, .unk, .unk, .unk, .unk, .unk, .unk, .unk, .unk, .unk, .unk, .unk, .unk, .unk, .unk, .unk, .unk, .unk, .unk, .unk, .unk, .unk, .unk,
        .unk, .unk, .unk, .unk],
    hp :=
      [some (.cells [iv lo, iv hi, iv st, iv er]),
        some
          (.cells
            [.d
                (DV.ro (dCnt lo hi st er (fun i => intOf1 (DV.x (.int .i64 (L i)))) n + 1) 2 fun a b =>
                  match b with
                  | (0 : Nat) => DV.x (.int .i64 (dL lo st er (fun i => intOf1 (DV.x (.int .i64 (L i)))) a))
                  | x => DV.x (.int .i64 (dH hi st er (fun i => intOf1 (DV.x (.int .i64 (L i)))) a)))]),
        none, none,
        some
          (.row (Int.toNat (↑(dCnt lo hi st er (fun i => intOf1 (DV.x (.int .i64 (L i)))) n + 1) : Int)) 2 fun x j =>
            match [DV.x (.int .i64 (0 : Int)), DV.x (.int .i64 (0 : Int))][j]? with
            | some x => x
            | none => DV.x (.tuple { toList := [] })),
        some (.cells [.row 4 0 0 (Int.toNat (↑(dCnt lo hi st er (fun i => intOf1 (DV.x (.int .i64 (L i)))) n + 1) : Int)) 2]), none,
        some
          (.cells
            [iv (dL lo st er (fun i => intOf1 (DV.x (.int .i64 (L i)))) (Int.toNat (w64 ((↑(dCnt lo hi st er (fun i => intOf1 (DV.x (.int .i64 (L i)))) n + 1) : Int) - (1 : Int))))),
              iv (dH hi st er (fun i => intOf1 (DV.x (.int .i64 (L i)))) (Int.toNat (w64 ((↑(dCnt lo hi st er (fun i => intOf1 (DV.x (.int .i64 (L i)))) n + 1) : Int) - (1 : Int)))))]),
        none, none],
    next := 10, hint := .nil }

theorem ISn_eq (lo hi st er : Int) (n : Nat) (L : Nat → Int) : inSn (sub pSn (tSn lo hi st er n L)) = ISn lo hi st er n L := by kernel_rfl

noncomputable def KSn (qlo qhi qst qer : Int) (n : Nat) (L : Nat → Int) (lo hi st er : Int) (N : Nat) (sl sh : Nat → Int) (x y : Int) (m : Nat) (cl ch : Nat → Int) : Tree SV :=
  .need (0 + m ≤ m) (.ret (.tup [.d (DV.ro m 2 fun i j => scell cl ch (0 + i) j), iv (0 : Int)]))

theorem KSn_eq (qlo qhi qst qer : Int) (n : Nat) (L : Nat → Int) (lo hi st er : Int) (N : Nat) (sl sh : Nat → Int) (x y : Int) (m : Nat) (cl ch : Nat → Int) : codeK (sub pSn (tSn qlo qhi qst qer n L)) .normal ⟨TMSn, (invSn lo hi st er N sl sh x y m cl ch).hp, 10, .nil⟩ = KSn qlo qhi qst qer n L lo hi st er N sl sh x y m cl ch := by kernel_rfl

theorem cSn (lo hi st er : Int) (n : Nat) (L : Nat → Int) : codeC (sub pSn (tSn lo hi st er n L)) = .rangeFunc (.tmp 42) #[43, 44] aSn bSn := by kernel_rfl
theorem nSn (lo hi st er : Int) (n : Nat) (L : Nat → Int) : Nat.ble (codeS (sub pSn (tSn lo hi st er n L))).next 10 = true := by kernel_rfl
theorem gSn (lo hi st er : Int) (n : Nat) (L : Nat → Int) : tvStrict none (tget (codeS (sub pSn (tSn lo hi st er n L))).tm 42) = some (.fn (.func 76) [] [.ptr 9 0]) := by kernel_rfl
theorem vSn (lo hi st er : Int) (n : Nat) (L : Nat → Int) : capV (codeS (sub pSn (tSn lo hi st er n L))).hp [.ptr 9 0] = some ([.rop 1 fun j => [DV.ro (dCnt lo hi st er L n + 1) 2 (scell (dL lo st er L) (dH hi st er L))].getD j (.x undef)], [9]) := by kernel_rfl
theorem tSnK (lo hi st er : Int) (n : Nat) (L : Nat → Int) : keepTm [12, 13, 15, 16] 0 (codeS (sub pSn (tSn lo hi st er n L))).tm = TMSn := by kernel_rfl
theorem naSn : noRange aSn = true := by kernel_rfl
theorem nbSn : noRange bSn = true := by kernel_rfl

end Go.Proofs.Ytcbjclmjkilphaa

namespace Go.Proofs.Ytcbjclmjkilphaa
open Go.Sx
set_option linter.constructorNameAsVariable false
set_option maxRecDepth 100000
variable {lo hi st er : Int} {L : Nat → Int} {n k : Nat}

/-! ### drift.Spans -/

/-- The span told last, behind k rounds. -/
def stL (lo st er : Int) (n : Nat) (L : Nat → Int) : Nat → Int
  | 0 => dL lo st er L n
  | k + 1 => if k = 0 then dL lo st er L n else max (dL lo st er L (n - k)) (stL lo st er n L k - st)
def stH (hi st er : Int) (n : Nat) (L : Nat → Int) : Nat → Int
  | 0 => dH hi st er L n
  | k + 1 => if k = 0 then dH hi st er L n else min (dH hi st er L (n - k)) (stH hi st er n L k + st)
/-- The spans. -/
def sL (lo st er : Int) (n : Nat) (L : Nat → Int) (i : Nat) : Int := stL lo st er n L (n + 1 - i)
def sH (hi st er : Int) (n : Nat) (L : Nat → Int) (i : Nat) : Int := stH hi st er n L (n + 1 - i)
def cut0 (n k : Nat) (f : Nat → Int) (i : Nat) : Int := if n + 1 - k ≤ i then f i else 0

theorem stL_b (hv : dV lo hi st er) : ∀ k, 1 ≤ stL lo st er n L k ∧ stL lo st er n L k ≤ 2000000000
  | 0 => dL_b hv n
  | k + 1 => by
    have ih := stL_b hv k
    have h1 := dL_b hv (L := L) (n - k)
    have h2 := dL_b hv (L := L) n
    have := hv.s
    simp only [stL]; split <;> omega
theorem stH_b (hv : dV lo hi st er) : ∀ k, -2001000000 ≤ stH hi st er n L k ∧ stH hi st er n L k ≤ 2000000000
  | 0 => dH_b hv n
  | k + 1 => by
    have ih := stH_b hv k
    have h1 := dH_b hv (L := L) (n - k)
    have h2 := dH_b hv (L := L) n
    have := hv.s
    simp only [stH]; split <;> omega

theorem invSn_gc {N m : Nat} {sl sh : Nat → Int} {x y : Int} {c' : Nat → Nat → DV} {cl ch : Nat → Int} (h : ∀ i j, i < m → j < 2 → c' i j = scell cl ch i j) :
    Gc 10 ⟨List.replicate 62 .unk, [some (.cells [iv lo, iv hi, iv st, iv er]), some (.cells [.d (.ro N 2 (scell sl sh))]), none, none, some (.row m 2 c'), some (.cells [.row 4 0 0 m 2]), none, some (.cells [iv x, iv y]), none, none], 10, .nil⟩ (invSn lo hi st er N sl sh x y m cl ch) := by
  refine gc_sound [] [] rfl ?_ ?_
  · simp [invSn, leTm, leTV, List.replicate]
  · simp [invSn, leHp, leBlk, leSVs, leSV, rn, iv, leD, srcOf, hget]
    exact h

theorem Sat.of_eq {α : Type} {P : Program} {t t' : Tree α} {Q : α → Prop} (h : t = t') (k : Sat P t' Q) : Sat P t Q := h ▸ k

noncomputable def snT (lo hi st er : Int) (n : Nat) (L : Nat → Int) : Tr SV :=
  .ite (dB lo hi st er L n) (.ret (.tup [.d (.ro (n + 1) 2 (scell (sL lo st er n L) (sH hi st er n L))), iv 0])) (.ret (.tup [.d (.x (.slice none 0 0)), iv 440]))

theorem row2 {c f : Nat → Int} {A : Int} {i q : Nat} (h1 : i = q → A = f i) (h2 : i ≠ q → c i = f i) : selD (decide (i = q)) (xi A) (xi (c i)) = xi (f i) := by
  rw [selD_eq]
  by_cases h : i = q
  · simp only [h, decide_true, cond_true]; rw [h1 h, h]
  · simp only [h, decide_false, cond_false]; rw [h2 h]

theorem sn_sat (hv : dV lo hi st er) (hn : n ≤ 1000) {r : SV} (hr : (snT lo hi st er n L).ev r) : Sat Try.prog (tSn lo hi st er n L) (· = r) := by
  constructor
  rw [LSn_eq]; unfold LSn
  rw [show (fun i => intOf1 (DV.x (Value.int IntKind.i64 (L i)))) = L from rfl]
  refine ⟨⟨hv, hn, fun i hi => ⟨_, rfl⟩⟩, fun hc => ?_, fun hc => ?_⟩
  · have hb : dB lo hi st er L n = false := by
      cases h : dB lo hi st er L n with
      | false => rfl
      | true => simp [dE, h] at hc
    simp only [snT, hb, Tr.ev, Bool.false_eq_true, false_and, false_or, true_and] at hr
    subst hr
    simp only [Tree.sat, dE, hb, cond_false]
  have hb : dB lo hi st er L n = true := by
    cases h : dB lo hi st er L n with
    | true => rfl
    | false => simp [dE, h] at hc
  simp only [snT, hb, Tr.ev, Bool.true_eq_false, false_and, or_false, true_and] at hr
  subst hr
  rw [dCnt_all hb]
  have e : w64 (((n + 1 : Nat) : Int) - 1) = n := by rw [w64_of (by omega) (by omega)]; omega
  rw [e]
  refine ⟨by omega, by omega, ?_⟩
  have hv1 := vSn lo hi st er n L
  rw [dCnt_all hb] at hv1
  refine range_satS C8x_ok D8x_ok (n := 200) (n0 := 10) (nx := 10) (roots := []) (drop := [2, 3, 6, 8, 9]) (keep := [12, 13, 15, 16]) (h := .nil) (h' := .nil) (N := n + 1) (cSn lo hi st er n L) (nSn lo hi st er n L) (gSn lo hi st er n L) hv1
    (bk_iter (n + 1) (scell (dL lo st er L) (dH hi st er L)) (by omega) _ rfl) (fun k hk => rfl) (enters_of Try.func76 (by kernel_rfl) rfl) naSn nbSn (tSnK lo hi st er n L)
    (fun k s => s = invSn lo hi st er (n + 1) (dL lo st er L) (dH hi st er L) (stL lo st er n L k) (stH hi st er n L k) (n + 1) (cut0 n k (sL lo st er n L)) (cut0 n k (sH hi st er n L))) ⟨_, rfl, ?_⟩ ?_ ?_
  · have hI := ISn_eq lo hi st er n L
    unfold ISn inSn at hI
    refine (entR_sound hI).trans ?_
    rw [show (fun i => intOf1 (DV.x (Value.int IntKind.i64 (L i)))) = L from rfl, dCnt_all hb, e]
    refine invSn_gc fun i j hi2 hj => ?_
    have : j = 0 ∨ j = 1 := by omega
    rcases this with rfl | rfl
    · simp only [scell, cut0]; rw [if_neg (by omega)]; rfl
    · simp only [scell, cut0]; rw [if_neg (by omega)]; rfl
  · rintro k s hk rfl
    have hbody : roundT Try.prog C8x D8x 200 10 [] [2, 3, 6, 8, 9] 10 .nil aSn bSn ⟨parTm [43, 44] (bkEl (n + 1) (scell (dL lo st er L) (dH hi st er L)) k) TMSn, (invSn lo hi st er (n + 1) (dL lo st er L) (dH hi st er L) (stL lo st er n L k) (stH hi st er n L k) (n + 1) (cut0 n k (sL lo st er n L)) (cut0 n k (sH hi st er n L))).hp, 10, .nil⟩ = _ :=
      BSn_eq (((n + 1 : Nat) : Int) - 1 - k) (dL lo st er L (n + 1 - 1 - k)) (dH hi st er L (n + 1 - 1 - k)) lo hi st er (n + 1) (dL lo st er L) (dH hi st er L) (stL lo st er n L k) (stH hi st er n L k) (n + 1) (cut0 n k (sL lo st er n L)) (cut0 n k (sH hi st er n L))
    refine Sat.of_eq hbody ?_
    constructor
    unfold BSn
    have b1 := stL_b hv (n := n) (L := L) k
    have b2 := stH_b hv (n := n) (L := L) k
    have := hv.s
    have e1 : Int.toNat (((n + 1 : Nat) : Int) - 1 - k) = n - k := by omega
    rw [w64_of (n := stL lo st er n L k - st) (by omega) (by omega), w64_of (n := stH hi st er n L k + st) (by omega) (by omega)]
    simp only [lt_if, gt_if, e1, e, Nat.add_sub_cancel]
    iterate 12 (refine ⟨by decide, ?_⟩)
    have hL1 : sL lo st er n L (n - k) = stL lo st er n L (k + 1) := by unfold sL; rw [show n + 1 - (n - k) = k + 1 by omega]
    have hH1 : sH hi st er n L (n - k) = stH hi st er n L (k + 1) := by unfold sH; rw [show n + 1 - (n - k) = k + 1 by omega]
    have hc1 : ∀ f : Nat → Int, cut0 n (k + 1) f (n - k) = f (n - k) := fun f => by simp only [cut0]; rw [if_pos (by omega)]
    have hc2 : ∀ (f : Nat → Int) (i : Nat), i ≠ n - k → i < n + 1 → cut0 n (k + 1) f i = cut0 n k f i := fun f i h hi2 => by
      simp only [cut0]
      by_cases h2 : n + 1 - k ≤ i
      · rw [if_pos h2, if_pos (by omega)]
      · rw [if_neg h2, if_neg (by omega)]
    refine ⟨fun hc => ⟨by omega, by omega, rfl, _, rfl, ?_⟩, fun hc => ⟨by omega, by omega, rfl, _, rfl, ?_⟩⟩
    · have hk0 : k = 0 := by simp at hc; omega
      have f1 : stL lo st er n L (k + 1) = dL lo st er L (n - k) := by simp [stL, hk0]
      have f2 : stH hi st er n L (k + 1) = dH hi st er L (n - k) := by simp [stH, hk0]
      rw [← f1, ← f2]
      refine invSn_gc fun i j hi2 hj => ?_
      rw [Nat.zero_add]
      have hj2 : j = 0 ∨ j = 1 := by omega
      rcases hj2 with rfl | rfl
      · rw [if_pos (by decide)]
        exact row2 (f := cut0 n (k + 1) (sL lo st er n L)) (fun h => by rw [h, hc1, hL1]) (fun h => (hc2 _ i h hi2).symm)
      · rw [if_pos (by decide)]
        exact row2 (f := cut0 n (k + 1) (sH hi st er n L)) (fun h => by rw [h, hc1, hH1]) (fun h => (hc2 _ i h hi2).symm)
    · have hk0 : k ≠ 0 := by simp at hc; omega
      have f1 : stL lo st er n L (k + 1) = max (dL lo st er L (n - k)) (stL lo st er n L k - st) := by simp [stL, hk0]
      have f2 : stH hi st er n L (k + 1) = min (dH hi st er L (n - k)) (stH hi st er n L k + st) := by simp [stH, hk0]
      rw [← f1, ← f2]
      refine invSn_gc fun i j hi2 hj => ?_
      rw [Nat.zero_add]
      have hj2 : j = 0 ∨ j = 1 := by omega
      rcases hj2 with rfl | rfl
      · rw [if_pos (by decide)]
        exact row2 (f := cut0 n (k + 1) (sL lo st er n L)) (fun h => by rw [h, hc1, hL1]) (fun h => (hc2 _ i h hi2).symm)
      · rw [if_pos (by decide)]
        exact row2 (f := cut0 n (k + 1) (sH hi st er n L)) (fun h => by rw [h, hc1, hH1]) (fun h => (hc2 _ i h hi2).symm)
  · rintro s rfl
    have hK : codeK (sub pSn (tSn lo hi st er n L)) .normal ⟨TMSn, (invSn lo hi st er (n + 1) (dL lo st er L) (dH hi st er L) (stL lo st er n L (n + 1)) (stH hi st er n L (n + 1)) (n + 1) (cut0 n (n + 1) (sL lo st er n L)) (cut0 n (n + 1) (sH hi st er n L))).hp,
       (invSn lo hi st er (n + 1) (dL lo st er L) (dH hi st er L) (stL lo st er n L (n + 1)) (stH hi st er n L (n + 1)) (n + 1) (cut0 n (n + 1) (sL lo st er n L)) (cut0 n (n + 1) (sH hi st er n L))).next, .nil⟩ = _ :=
      KSn_eq lo hi st er n L lo hi st er (n + 1) (dL lo st er L) (dH hi st er L) (stL lo st er n L (n + 1)) (stH hi st er n L (n + 1)) (n + 1) (cut0 n (n + 1) (sL lo st er n L)) (cut0 n (n + 1) (sH hi st er n L))
    refine Sat.of_eq hK ?_
    constructor
    unfold KSn
    refine ⟨by omega, ?_⟩
    have hcut : ∀ f : Nat → Int, cut0 n (n + 1) f = f := fun f => by funext i; simp [cut0]
    simp only [Tree.sat, hcut, Nat.zero_add]

noncomputable def cSpn : Ctr := fun ss => match ss with
  | [.d (.x (.int .i64 lo)), .d (.x (.int .i64 hi)), .d (.x (.int .i64 st)), .d (.x (.int .i64 er)), .d (.ro n 1 cell)] =>
    .need (dV lo hi st er ∧ n ≤ 1000 ∧ ∀ i, i < n → ∃ b, cell i 0 = .x (.int .i64 b)) (snT lo hi st er n (intCell cell))
  | _ => .fail

theorem cSpn_ok : CtrOK Try.prog 63 cSpn := by
  refine ctrOK_leS C8x_ok D8x_ok (by kernel_rfl) (by kernel_rfl) fun ss r h => ?_
  unfold cSpn at h
  split at h
  · rename_i lo hi st er n cell
    obtain ⟨⟨hv, hn, hb⟩, h⟩ := h
    refine ⟨[iv lo, iv hi, iv st, iv er, ro64 n (intCell cell)], 200, .nil, ?_, sn_sat hv hn h⟩
    simp only [leSVs, leSV, iv, ro64, leD, and_true, true_and]
    exact le_ro64 hb
  · exact h.elim

end Go.Proofs.Ytcbjclmjkilphaa

namespace Go.Proofs.Ytcbjclmjkilphaa
open Go.Sx
set_option maxRecDepth 100000

noncomputable def manX : FuncId → Option Ctr := fun k => if k = 31 then some cPath else if k = 63 then some cSpn else none
theorem manX_ok (k : Nat) (c : Ctr) (h : manX k = some c) : CtrOK Try.prog k c ∧ goodF Try.prog k = true := by
  unfold manX at h
  split at h
  · rename_i e; cases h; subst e; exact ⟨cPath_ok, by kernel_rfl⟩
  split at h
  · rename_i e; cases h; subst e; exact ⟨cSpn_ok, by kernel_rfl⟩
  · cases h
noncomputable def CX4 : Ctx := ctxN Try.prog manX inl3 200 .run 12
theorem CX4_ok : CtxOK Try.prog CX4 := ctxN_ok mixed manX_ok 12

noncomputable def XE  : Tr SV :=
  Tr.need (1 ≤ 1)
  (Tr.need (1 ≤ 1)
    (Tr.need (1 ≤ 1)
      (Tr.need (1 ≤ 1)
        (Tr.need
          (dV (990 : Int) (1010 : Int) (5 : Int) (10 : Int) ∧
            1 ≤ 1000 ∧
              ∀ (i : Nat),
                i < (1 : Nat) →
                  ∃ b,
                    (fun i j => dsAt ((fun x => DV.x (.int .i64 (1020 : Int)) :: x) []) ((0 : Nat) + ((0 : Nat) + i) * (fun x => TypeInfo.size x) (Tables.types (Program.toTables Try.prog))[(3 : Nat)] + j)) i (0 : Nat) =
                      DV.x (.int .i64 b))
          (Tr.need (2 ≤ 2)
            (Tr.need (2 ≤ 2)
              (Tr.need (2 ≤ 2)
                (Tr.need (2 ≤ 2)
                  (Tr.need
                    (dV (990 : Int) (1010 : Int) (5 : Int) (10 : Int) ∧
                      2 ≤ 1000 ∧
                        ∀ (i : Nat),
                          i < (2 : Nat) →
                            ∃ b,
                              (fun i j =>
                                    dsAt ((fun x => DV.x (.int .i64 (1020 : Int)) :: x) ((fun x => DV.x (.int .i64 (1030 : Int)) :: x) []))
                                      ((0 : Nat) + ((0 : Nat) + i) * (fun x => TypeInfo.size x) (Tables.types (Program.toTables Try.prog))[(3 : Nat)] + j))
                                  i (0 : Nat) =
                                DV.x (.int .i64 b))
                    (Tr.need (True ∧ 2 ≤ 2 ∧ 16 ≤ 140737488355328)
                      (Tr.need (1 ≤ 1 ∧ 2 ≤ 2 ∧ 32 ≤ 140737488355328)
                        (Tr.need (2 ≤ 2)
                          (Tr.need (True ∧ 2 ≤ 2 ∧ 16 ≤ 140737488355328)
                            (Tr.need (1 ≤ 1 ∧ 2 ≤ 2 ∧ 32 ≤ 140737488355328)
                              (Tr.need (2 ≤ 2 ∧ 2 ≤ 2 ∧ 48 ≤ 140737488355328)
                                (Tr.need (3 ≤ 3)
                                  (Tr.need (4 ≤ 4)
                                    (Tr.need (3 ≤ 3)
                                      (Tr.need (2 ≤ 2)
                                        (Tr.need (True ∧ (0 : Int) ≤ (1 : Int) ∧ 1 ≤ 2)
                                          (Tr.need (2 ≤ 2)
                                            (Tr.need (True ∧ (0 : Int) ≤ (1 : Int) ∧ 1 ≤ 2)
                                              (Tr.need (2 ≤ 2)
                                                (Tr.need (True ∧ (0 : Int) ≤ (1 : Int) ∧ 1 ≤ 2)
                                                  (Tr.need (2 ≤ 2)
                                                    (Tr.need (True ∧ (0 : Int) ≤ (1 : Int) ∧ 1 ≤ 2)
                                                      (Tr.need (2 ≤ 2)
                                                        (Tr.need (True ∧ (0 : Int) ≤ (1 : Int) ∧ 1 ≤ 2)
                                                          (Tr.need (1 ≤ 1)
                                                            (Tr.need (True ∧ 2 ≤ 2 ∧ 16 ≤ 140737488355328)
                                                              (Tr.need (1 ≤ 1)
                                                                (Tr.need (4 ≤ 4)
                                                                  (Tr.need (4 ≤ 4)
                                                                    (Tr.need (2 ≤ 2)
                                                                      (Tr.need (True ∧ (0 : Int) ≤ (1 : Int) ∧ 1 ≤ 2)
                                                                        (Tr.need (2 ≤ 2)
                                                                          (Tr.need (True ∧ (0 : Int) ≤ (1 : Int) ∧ 1 ≤ 2)
                                                                            (Tr.need (2 ≤ 2)
                                                                              (Tr.need (True ∧ (0 : Int) ≤ (1 : Int) ∧ 1 ≤ 2)
                                                                                (Tr.need (2 ≤ 2)
                                                                                  (Tr.need (True ∧ (0 : Int) ≤ (1 : Int) ∧ 1 ≤ 2)
                                                                                    (Tr.need (2 ≤ 2)
                                                                                      (Tr.need (True ∧ (0 : Int) ≤ (1 : Int) ∧ 1 ≤ 2)
                                                                                        (Tr.need (2 ≤ 2)
                                                                                          (Tr.need (True ∧ (0 : Int) ≤ (1 : Int) ∧ 1 ≤ 2)
                                                                                            (Tr.need (2 ≤ 2)
                                                                                              (Tr.need (True ∧ (0 : Int) ≤ (1 : Int) ∧ 1 ≤ 2)
                                                                                                (Tr.need (2 ≤ 2)
                                                                                                  (Tr.need (True ∧ (0 : Int) ≤ (1 : Int) ∧ 1 ≤ 2)
                                                                                                    (Tr.need (2 ≤ 2)
                                                                                                      (Tr.need (True ∧ (0 : Int) ≤ (1 : Int) ∧ 1 ≤ 2)
                                                                                                        (Tr.need (2 ≤ 2)
                                                                                                          (Tr.need (True ∧ (0 : Int) ≤ (1 : Int) ∧ 1 ≤ 2)
                                                                                                            (Tr.need (2 ≤ 2)
                                                                                                              (Tr.need (True ∧ (0 : Int) ≤ (1 : Int) ∧ 1 ≤ 2)
                                                                                                                (Tr.need (2 ≤ 2)
                                                                                                                  (Tr.need (True ∧ (0 : Int) ≤ (1 : Int) ∧ 1 ≤ 2)
                                                                                                                    (Tr.need (2 ≤ 2)
                                                                                                                      (Tr.need (True ∧ (0 : Int) ≤ (1 : Int) ∧ 1 ≤ 2)
                                                                                                                        (Tr.need (2 ≤ 2)
                                                                                                                          (Tr.need (True ∧ (0 : Int) ≤ (1 : Int) ∧ 1 ≤ 2)
                                                                                                                            (Tr.need (2 ≤ 2)
                                                                                                                              (Tr.need (True ∧ (0 : Int) ≤ (1 : Int) ∧ 1 ≤ 2)
                                                                                                                                (Tr.need (2 ≤ 2)
                                                                                                                                  (Tr.need (True ∧ (0 : Int) ≤ (1 : Int) ∧ 1 ≤ 2)
                                                                                                                                    (Tr.need (3 ≤ 3)
                                                                                                                                      (Tr.ret (bv true))))))))))))))))))))))))))))))))))))))))))))))))))))))))))))))))))))

theorem XE_eq  : autoC Try.prog CX4 200 32 .run [] = XE  := by kernel_rfl


theorem sat_step {p : Prop} {t : Tr SV} {r : SV} (h1 : p) (h2 : t.ev r) : (Tr.need p t).ev r := ⟨h1, h2⟩

theorem ex44 : (autoC Try.prog CX4 200 32 .run []).ev (bv true) := by
  rw [XE_eq]; unfold XE
  refine sat_step (by decide) (sat_step (by decide) (sat_step (by decide) (sat_step (by decide) (sat_step ⟨⟨by decide, by decide, by decide, by decide⟩, by decide, fun i hi => ?_⟩ (sat_step (by decide) (sat_step (by decide) (sat_step (by decide) (sat_step (by decide) (sat_step ⟨⟨by decide, by decide, by decide, by decide⟩, by decide, fun i hi => ?_⟩ ?_)))))))))
  · obtain rfl : i = 0 := by omega
    exact ⟨1020, by kernel_rfl⟩
  · have : i = 0 ∨ i = 1 := by omega
    rcases this with rfl | rfl
    · exact ⟨1020, by kernel_rfl⟩
    · exact ⟨1030, by kernel_rfl⟩
  repeat' (first | exact rfl | refine sat_step (by decide) ?_)

noncomputable def cEx44 : Ctr := fun ss => match ss with
  | [] => .ret (bv true)
  | _ => .fail
theorem cEx44_ok : CtrOK Try.prog 32 cEx44 := (autoC_ok CX4_ok mixed 200 32 .run).mono fun ss r h => by
  unfold cEx44 at h
  split at h
  · simp only [Tr.ev] at h; subst h; exact ex44
  · exact h.elim

end Go.Proofs.Ytcbjclmjkilphaa

namespace Go.Proofs.Ytcbjclmjkilphaa
open Go.Sx
set_option maxRecDepth 100000

theorem wf_u8 {i : Int} (h : (Lit.int .u8 i).wf = true) : 0 ≤ i ∧ i < 256 := by
  simp [Lit.wf, IntKind.min, IntKind.max, IntKind.signed, IntKind.bits] at h; omega
theorem wf_u16 {i : Int} (h : (Lit.int .u16 i).wf = true) : 0 ≤ i ∧ i < 65536 := by
  simp [Lit.wf, IntKind.min, IntKind.max, IntKind.signed, IntKind.bits] at h; omega
theorem wf_i64 {i : Int} (h : (Lit.int .i64 i).wf = true) : -9223372036854775808 ≤ i ∧ i ≤ 9223372036854775807 := by
  simp [Lit.wf, IntKind.min, IntKind.max, IntKind.signed, IntKind.bits] at h; omega

theorem cells5 : Try.prog.cellsOf 5 = 1 := by kernel_rfl
theorem cells3 : Try.prog.cellsOf 3 = 1 := by kernel_rfl

theorem okRaw {ds : List DV} (h : okT Try.prog 6 26 ds) : ∃ lo wi st er be ov n cell, RawOK lo wi st er be ov n cell ∧ svT Try.prog 26 ds = .agg [u8 lo, u8 wi, u8 st, u8 er, .d (.ro n 1 cell), u8 be, u8 ov] := by
  simp [okT, okFs, Try.underlying26, Try.underlying24, Try.underlying5, Try.underlying25, cells5] at h
  obtain ⟨_, _, rfl, ⟨_, _, rfl, ⟨lo, w1, rfl⟩, _, _, rfl, ⟨wi, w2, rfl⟩, _, _, rfl, ⟨st, w3, rfl⟩, _, _, rfl, ⟨er, w4, rfl⟩, n, hn, cell, rfl, hc⟩, _, _, rfl, ⟨be, w5, rfl⟩, ov, w6, rfl⟩ := h
  refine ⟨lo, wi, st, er, be, ov, n, cell, ⟨wf_u8 w1, wf_u8 w2, wf_u8 w3, wf_u8 w4, hn, fun i hi => ?_, wf_u8 w5, wf_u8 w6⟩, ?_⟩
  · obtain ⟨b, hb, e⟩ := hc i hi
    exact ⟨b, by simpa using e, wf_u8 hb⟩
  · simp [svT, Try.underlying26, u8, cells5]

theorem okMon {ds : List DV} (h : okT Try.prog 6 28 ds) : ∃ a b c d e f s, svT Try.prog 28 ds = mon a b c d e f s := by
  simp [okT, okFs, Try.underlying28, Try.underlying3, Try.underlying4] at h
  obtain ⟨_, _, rfl, ⟨a, w1, rfl⟩, _, _, rfl, ⟨b, w2, rfl⟩, _, _, rfl, ⟨c, w3, rfl⟩, _, _, rfl, ⟨d, w4, rfl⟩, _, _, rfl, ⟨e, w5, rfl⟩, _, _, rfl, ⟨f, w6, rfl⟩, hb⟩ := h
  rcases hb with rfl | rfl
  · exact ⟨a, b, c, d, e, f, false, by simp [svT, Try.underlying28, mon, iv, bv]⟩
  · exact ⟨a, b, c, d, e, f, true, by simp [svT, Try.underlying28, mon, iv, bv]⟩

theorem okInt {ds : List DV} (h : okT Try.prog 6 3 ds) : ∃ i, (-9223372036854775808 ≤ i ∧ i ≤ 9223372036854775807) ∧ svT Try.prog 3 ds = iv i := by
  simp only [okT, Try.underlying3] at h
  obtain ⟨i, hi, rfl⟩ := h
  exact ⟨i, wf_i64 hi, by simp [svT, Try.underlying3, iv]⟩

end Go.Proofs.Ytcbjclmjkilphaa

namespace Go.Proofs.Ytcbjclmjkilphaa
open Go.Sx
set_option maxRecDepth 100000

/-! ### The Drift laws: the ground -/

noncomputable def cSpn1 : Ctr := fun ss => match ss with
  | [.d (.x (.int .i64 lo)), .d (.x (.int .i64 hi)), .d (.x (.int .i64 st)), .d (.x (.int .i64 er)), .d (.ro n 1 cell)] =>
    .need ((dV lo hi st er ∧ n ≤ 1000 ∧ ∀ i, i < n → ∃ b, cell i 0 = .x (.int .i64 b)) ∧ dB lo hi st er (intCell cell) n = true) (.ret (.tup [.d (.ro (n + 1) 2 (scell (sL lo st er n (intCell cell)) (sH hi st er n (intCell cell)))), iv 0]))
  | _ => .fail

theorem cSpn1_ok : CtrOK Try.prog 63 cSpn1 := cSpn_ok.mono fun ss r h => by
  unfold cSpn1 at h
  split at h
  · rename_i lo hi st er n cell
    obtain ⟨⟨h0, h1⟩, h⟩ := h
    refine ⟨h0, ?_⟩
    simp only [Tr.ev] at h
    subst h
    unfold snT
    exact .inl ⟨h1, rfl⟩
  · exact h.elim

/-- drift.Bounds where there is a path. -/
noncomputable def cBnd1 : Ctr := fun ss => match ss with
  | [.d (.x (.int .i64 lo)), .d (.x (.int .i64 hi)), .d (.x (.int .i64 st)), .d (.x (.int .i64 er)), .d (.ro n 1 cell)] =>
    .need ((dV lo hi st er ∧ n ≤ 1000 ∧ ∀ i, i < n → ∃ b, cell i 0 = .x (.int .i64 b)) ∧ dB lo hi st er (intCell cell) n = true) (.ret (.tup [iv (dL lo st er (intCell cell) n), iv (dH hi st er (intCell cell) n), iv 0]))
  | _ => .fail

theorem cBnd1_ok : CtrOK Try.prog 30 cBnd1 := cBounds_ok.mono fun ss r h => by
  unfold cBnd1 at h
  split at h
  · rename_i lo hi st er n cell
    obtain ⟨⟨h0, h1⟩, h⟩ := h
    refine ⟨h0, ?_⟩
    simp only [Tr.ev] at h
    subst h
    simp only [bdR, h1, zif, cond_true, dE]
    rfl
  · exact h.elim

noncomputable def man8 : FuncId → Option Ctr := fun k => match k with
  | 28 => some cMade
  | 29 => some cPoss
  | 30 => some cBnd1
  | 31 => some cPath1
  | 32 => some cEx44
  | 63 => some cSpn1
  | _ => none

theorem man8_ok (k : Nat) (c : Ctr) (h : man8 k = some c) : CtrOK Try.prog k c ∧ goodF Try.prog k = true := by
  unfold man8 at h
  split at h <;> first | (cases h; done) | (cases h)
  · exact ⟨cMade_ok, by kernel_rfl⟩
  · exact ⟨cPoss_ok, by kernel_rfl⟩
  · exact ⟨cBnd1_ok, by kernel_rfl⟩
  · exact ⟨cPath1_ok, by kernel_rfl⟩
  · exact ⟨cEx44_ok, by kernel_rfl⟩
  · exact ⟨cSpn1_ok, by kernel_rfl⟩

noncomputable def C8 : Ctx := ctxN Try.prog man8 (fun _ => false) 200 .nil 3
theorem C8_ok : CtxOK Try.prog C8 := ctxN_ok mixed man8_ok 3
noncomputable def D8 : Dr := fun _ => drawn Try.prog C8
theorem D8_ok : DrOK Try.prog C8 D8 := drawn_ok C8_ok mixed
noncomputable def T8 (k : Nat) (args : List SV) (h : Hint) : Tree SV := fnT Try.prog C8 D8 200 (fnOf Try.prog k) (bodyOf Try.prog k) args h

structure Law8 (k : Nat) (ss : List SV) : Prop where
  ok : ∃ h, (T8 k ss h).sat Try.prog (· = bv true)

theorem law_ctr8 {k : Nat} {okA : List SV → Prop} (hf : (Try.prog.funcs[k]?).isSome = true) (hb : (fnOf Try.prog k).body.isSome = true) (h : ∀ ss, okA ss → Law8 k ss) :
    ∃ c : Ctr, CtrOK Try.prog k c ∧ ∀ ss, okA ss → (c ss).ev (bv true) := by
  refine ⟨fun ss => .need (okA ss) (.ret (bv true)), ?_, fun ss hs => ⟨hs, rfl⟩⟩
  refine ctrOK_of C8_ok D8_ok (fn := fnOf Try.prog k) (body := bodyOf Try.prog k) (by
    unfold fnOf
    cases hk : Try.prog.funcs[k]? with
    | none => rw [hk] at hf; cases hf
    | some f => rfl) (by
    unfold bodyOf
    cases hk : (fnOf Try.prog k).body with
    | none => rw [hk] at hb; cases hb
    | some f => rfl) fun ss r hr => ?_
  obtain ⟨h1, rfl⟩ := hr
  obtain ⟨hint, h2⟩ := (h ss h1).ok
  exact ⟨200, hint, h2⟩

theorem okRaw44 {ds : List DV} (h : okT Try.prog 6 24 ds) : ∃ lo wi st er n cell, (0 ≤ lo ∧ lo < 256) ∧ (0 ≤ wi ∧ wi < 256) ∧ (0 ≤ st ∧ st < 256) ∧ (0 ≤ er ∧ er < 256) ∧ n ≤ maxLen ∧ (∀ i, i < n → ∃ b, cell i 0 = .x (.int .u8 b) ∧ 0 ≤ b ∧ b < 256) ∧
    svT Try.prog 24 ds = .agg [u8 lo, u8 wi, u8 st, u8 er, .d (.ro n 1 cell)] := by
  simp [okT, okFs, Try.underlying24, Try.underlying5, Try.underlying25, cells5] at h
  obtain ⟨_, _, rfl, ⟨lo, w1, rfl⟩, _, _, rfl, ⟨wi, w2, rfl⟩, _, _, rfl, ⟨st, w3, rfl⟩, _, _, rfl, ⟨er, w4, rfl⟩, n, hn, cell, rfl, hc⟩ := h
  refine ⟨lo, wi, st, er, n, cell, wf_u8 w1, wf_u8 w2, wf_u8 w3, wf_u8 w4, hn, fun i hi => ?_, ?_⟩
  · obtain ⟨b, hb, e⟩ := hc i hi
    exact ⟨b, by simpa using e, wf_u8 hb⟩
  · simp [svT, Try.underlying24, u8, cells5]

/-! ### Bounds and spans -/

variable {lo hi st er : Int} {L p : Nat → Int} {n k : Nat}

theorem sL_n : sL lo st er n L n = dL lo st er L n := by
  unfold sL; rw [show n + 1 - n = 0 + 1 by omega]; simp [stL]
theorem sH_n : sH hi st er n L n = dH hi st er L n := by
  unfold sH; rw [show n + 1 - n = 0 + 1 by omega]; simp [stH]
theorem sL_i (h : k < n) : sL lo st er n L k = max (dL lo st er L k) (sL lo st er n L (k + 1) - st) := by
  unfold sL
  rw [show n + 1 - k = (n - k) + 1 by omega, show n + 1 - (k + 1) = n - k by omega]
  simp only [stL]
  rw [if_neg (by omega), show n - (n - k) = k by omega]
theorem sH_i (h : k < n) : sH hi st er n L k = min (dH hi st er L k) (sH hi st er n L (k + 1) + st) := by
  unfold sH
  rw [show n + 1 - k = (n - k) + 1 by omega, show n + 1 - (k + 1) = n - k by omega]
  simp only [stH]
  rw [if_neg (by omega), show n - (n - k) = k by omega]

theorem stepB_iff : stepB st er L p k = true ↔ 1 ≤ p (k + 1) ∧ p k - st ≤ p (k + 1) ∧ p (k + 1) ≤ p k + st ∧ p (k + 1) - er ≤ L k ∧ L k ≤ p (k + 1) + er := by
  unfold stepB
  simp only [Bool.and_eq_true, decide_eq_true_eq]
  constructor
  · rintro ⟨⟨a, b, c⟩, d, e⟩; exact ⟨a, b, c, d, e⟩
  · rintro ⟨a, b, c, d, e⟩; exact ⟨⟨a, b, c⟩, d, e⟩

/-- A possible path lies within the bounds. -/
theorem path_in (hv : dV lo hi st er) (hp : ∀ k, k ≤ n → p k ≤ 1000000000) : ∀ k, k ≤ n → pthB lo hi st er L p k = true → dB lo hi st er L k = true ∧ dL lo st er L k ≤ p k ∧ p k ≤ dH hi st er L k
  | 0, _, h => by simpa [pthB, dB, dL, dH] using h
  | k + 1, hk, h => by
    simp only [pthB, Bool.and_eq_true] at h
    obtain ⟨i1, i2, i3⟩ := path_in hv hp k (by omega) h.1
    have h2 := stepB_iff.1 h.2
    have := hv.s; have := hv.e; have := hp (k + 1) hk
    have a : dL lo st er L (k + 1) ≤ p (k + 1) ∧ p (k + 1) ≤ dH hi st er L (k + 1) := by
      simp only [dL, dH, nL, nH]; unfold cR; omega
    refine ⟨?_, a⟩
    simp only [dB, i1, Bool.true_and, decide_eq_true_eq]; omega

theorem span_in (hv : dV lo hi st er) (hp : ∀ k, k ≤ n → p k ≤ 1000000000) (hb : pthB lo hi st er L p n = true) : ∀ j, j ≤ n → sL lo st er n L (n - j) ≤ p (n - j) ∧ p (n - j) ≤ sH hi st er n L (n - j)
  | 0, _ => by
    have := path_in hv hp n (Nat.le_refl n) hb
    rw [Nat.sub_zero, sL_n, sH_n]; exact this.2
  | j + 1, hj => by
    have ih := span_in hv hp hb j (by omega)
    have hk : n - (j + 1) < n := by omega
    have e : n - (j + 1) + 1 = n - j := by omega
    have hb2 := pthB_mono (show n - (j + 1) + 1 ≤ n by omega) hb
    simp only [pthB, Bool.and_eq_true] at hb2
    have h1 := path_in hv hp (n - (j + 1)) (by omega) hb2.1
    have h2 := stepB_iff.1 hb2.2
    rw [sL_i hk, sH_i hk, e]
    rw [e] at h2
    omega

/-- The walk that Made makes. -/
theorem walk_pos {lo wi s e : Int} {B : Nat → Int} (h1 : 0 ≤ lo) (h2 : 0 ≤ wi) (hs : 0 ≤ s ∧ s ≤ 5) (he : 0 ≤ e ∧ e ≤ 5) : ∀ k, pthB (sLo lo) (sHi lo wi) s e (lS lo wi s e B) (fS lo wi s B) k = true
  | 0 => by
    have := Int.emod_nonneg lo (show 1 + wi % 8 ≠ 0 by omega)
    have := Int.emod_lt_of_pos lo (show 0 < 1 + wi % 8 by omega)
    have e0 : fS lo wi s B 0 = sLo lo + lo % (1 + wi % 8) := rfl
    have e1 : sHi lo wi = sLo lo + wi % 8 := rfl
    show (decide (sLo lo ≤ fS lo wi s B 0) && decide (fS lo wi s B 0 ≤ sHi lo wi)) = true
    rw [e0, e1, Bool.and_eq_true, decide_eq_true_eq, decide_eq_true_eq]; omega
  | k + 1 => by
    have ih := walk_pos h1 h2 hs he (B := B) k
    have f1 := (fS_b (B := B) h1 h2 hs k).1
    simp only [pthB, ih, Bool.true_and]
    have n1 := fNx_b (f := fS lo wi s B k) (b := B (2 * k)) hs
    have e1 : fS lo wi s B (k + 1) = fNx (fS lo wi s B k) (B (2 * k)) s := rfl
    have := Int.emod_nonneg (B (2 * k + 1)) (show 2 * e + 1 ≠ 0 by omega)
    have := Int.emod_lt_of_pos (B (2 * k + 1)) (show 0 < 2 * e + 1 by omega)
    have e2 : lS lo wi s e B k = fS lo wi s B (k + 1) + B (2 * k + 1) % (2 * e + 1) - e := rfl
    rw [← e1] at n1
    rw [stepB_iff]
    omega

/-- What is known of Made's walk. -/
structure WalkOK (lo wi st er : Int) (B : Nat → Int) (n : Nat) : Prop where
  l : 0 ≤ lo ∧ lo < 256
  w : 0 ≤ wi ∧ wi < 256
  s : 0 ≤ st ∧ st < 256
  e : 0 ≤ er ∧ er < 256
  len : n ≤ maxLen
  b : ∀ i, i < n → 0 ≤ B i ∧ B i < 256

theorem WalkOK.dv {lo wi st er : Int} {B : Nat → Int} (h : WalkOK lo wi st er B n) : dV (sLo lo) (sHi lo wi) (st % 6) (er % 6) := by
  have := h.l; have := h.w; have := h.s; have := h.e
  have : sHi lo wi = sLo lo + wi % 8 := rfl
  have : sLo lo = 1 + lo % 40 := rfl
  exact ⟨by omega, by omega, by omega, by omega⟩

theorem WalkOK.f {lo wi st er : Int} {B : Nat → Int} (h : WalkOK lo wi st er B n) (k : Nat) (hk : k ≤ 12) : 1 ≤ fS lo wi (st % 6) B k ∧ fS lo wi (st % 6) B k ≤ 107 := by
  have := fS_b (B := B) (s := st % 6) h.l.1 h.w.1 (by omega) k
  omega

theorem WalkOK.r {lo wi st er : Int} {B : Nat → Int} (h : WalkOK lo wi st er B n) (k : Nat) (hk : k < 12) : -5 ≤ lS lo wi (st % 6) (er % 6) B k ∧ lS lo wi (st % 6) (er % 6) B k ≤ 112 := by
  have := h.f (k + 1) (by omega)
  have e2 : lS lo wi (st % 6) (er % 6) B k = fS lo wi (st % 6) B (k + 1) + B (2 * k + 1) % (2 * (er % 6) + 1) - (er % 6) := rfl
  have := h.e
  have := Int.emod_nonneg (B (2 * k + 1)) (show 2 * (er % 6) + 1 ≠ 0 by omega)
  have := Int.emod_lt_of_pos (B (2 * k + 1)) (show 0 < 2 * (er % 6) + 1 by omega)
  omega

theorem WalkOK.pos {lo wi st er : Int} {B : Nat → Int} (h : WalkOK lo wi st er B n) (k : Nat) : pthB (sLo lo) (sHi lo wi) (st % 6) (er % 6) (lS lo wi (st % 6) (er % 6) B) (fS lo wi (st % 6) B) k = true :=
  walk_pos h.l.1 h.w.1 (by have := h.s; omega) (by have := h.e; omega) k

theorem WalkOK.dB {lo wi st er : Int} {B : Nat → Int} (h : WalkOK lo wi st er B n) (k : Nat) (hk : k ≤ 12) : dB (sLo lo) (sHi lo wi) (st % 6) (er % 6) (lS lo wi (st % 6) (er % 6) B) k = true :=
  (path_in (n := k) h.dv (fun j hj => by have := h.f j (by omega); omega) k (Nat.le_refl k) (h.pos k)).1

theorem kS_le (n : Nat) : kS n ≤ 12 := by unfold kS; omega

end Go.Proofs.Ytcbjclmjkilphaa

namespace Go.Proofs.Ytcbjclmjkilphaa
open Go.Sx
set_option maxRecDepth 100000

noncomputable def t12 (lo wi st er : Int) (n : Nat) (cell : Nat → Nat → DV) (by0 : Int) : Tree SV := T8 12 [.agg [u8 lo, u8 wi, u8 st, u8 er, .d (.ro n 1 cell)], iv by0] .nil
noncomputable def L12 (lo wi st er : Int) (n : Nat) (cell : Nat → Nat → DV) (by0 : Int) : Tree SV :=
  .ite false (.ret (bv false))
  (.need
    (((0 : Int) ≤ lo ∧ lo < (256 : Int)) ∧
      ((0 : Int) ≤ wi ∧ wi < (256 : Int)) ∧
        ((0 : Int) ≤ st ∧ st < (256 : Int)) ∧ ((0 : Int) ≤ er ∧ er < (256 : Int)) ∧ n ≤ 9223372036854775807 ∧ ∀ (i : Nat), i < n → ∃ b, cell i (0 : Nat) = DV.x (.int .u8 b) ∧ (0 : Int) ≤ b ∧ b < (256 : Int))
    (.need ((900000 : Int) ≠ (0 : Int))
      (.ite (decide (Int.tmod by0 (900000 : Int) < (0 : Int)))
        (.code (codeC (sub [(1 : Nat), (0 : Nat), (0 : Nat), (0 : Nat)] (t12 lo wi st er n cell by0))) (codeS (sub [(1 : Nat), (0 : Nat), (0 : Nat), (0 : Nat)] (t12 lo wi st er n cell by0)))
          (codeK (sub [(1 : Nat), (0 : Nat), (0 : Nat), (0 : Nat)] (t12 lo wi st er n cell by0))))
        (.code (codeC (sub [(1 : Nat), (0 : Nat), (0 : Nat), (1 : Nat)] (t12 lo wi st er n cell by0))) (codeS (sub [(1 : Nat), (0 : Nat), (0 : Nat), (1 : Nat)] (t12 lo wi st er n cell by0)))
          (codeK (sub [(1 : Nat), (0 : Nat), (0 : Nat), (1 : Nat)] (t12 lo wi st er n cell by0)))))))

theorem L12_eq (lo wi st er : Int) (n : Nat) (cell : Nat → Nat → DV) (by0 : Int) : t12 lo wi st er n cell by0 = L12 lo wi st er n cell by0 := by kernel_rfl

noncomputable def pa12 : List Nat := [1, 0, 0, 0]
noncomputable def pb12 : List Nat := [1, 0, 0, 1]
noncomputable def rts12 : List (Root × Nat) := [(.cell (.base 3) 4, 7), (.cell (.base 5) 4, 8)]
noncomputable def in12 (t : Tree SV) : Option AS := entA 7 [] [5, 6, 7, 8, 9, 10] [0, 2, 4, 6] 9 .nil t
noncomputable def in12s (lo wi st er : Int) (n : Nat) (cell : Nat → Nat → DV) (c x1 x2 y1 y2 : Int) : AS :=
  ⟨[.unk, .unk, .unk, .unk, .unk, .ok (bv true), .ok (.ptr 1 0), .ok (iv c), .ok (.ptr 3 0), .ok (.ptr 5 0), .ok (iv 0)] ++ List.replicate 215 .unk,
   [none, some (.cells [iv (sLo lo), iv (sHi lo wi), iv (st % 6), iv (er % 6), ro64 (kS n + 1) (fS lo wi (st % 6) (byteCell cell)), ro64 (kS n) (lS lo wi (st % 6) (er % 6) (byteCell cell))]), none,
    some (.cells [iv x1, iv x2, iv (st % 6), iv (er % 6), .d (.x (.slice none 0 0))]), none, some (.cells [iv y1, iv y2, iv (st % 6), iv (er % 6), .d (.x (.slice none 0 0))]), none, none, none], 9, .nil⟩
theorem I12a (lo wi st er : Int) (n : Nat) (cell : Nat → Nat → DV) (by0 : Int) : in12 (sub pa12 (t12 lo wi st er n cell by0)) = some (in12s lo wi st er n cell (w64 (0 - Int.tmod by0 900000)) (w64 (sLo lo + 100)) (w64 (sHi lo wi + 100)) (w64 (w64 (sLo lo + 100) + w64 (0 - Int.tmod by0 900000))) (w64 (w64 (sHi lo wi + 100) + w64 (0 - Int.tmod by0 900000)))) := by kernel_rfl
theorem I12b (lo wi st er : Int) (n : Nat) (cell : Nat → Nat → DV) (by0 : Int) : in12 (sub pb12 (t12 lo wi st er n cell by0)) = some (in12s lo wi st er n cell (Int.tmod by0 900000) (w64 (sLo lo + 100)) (w64 (sHi lo wi + 100)) (w64 (w64 (sLo lo + 100) + Int.tmod by0 900000)) (w64 (w64 (sHi lo wi + 100) + Int.tmod by0 900000))) := by kernel_rfl
noncomputable def inv12 (d1 d2 d3 d4 : Int) (kn : Nat) (p l : Nat → Int) (c x1 x2 y1 y2 : Int) (m : Nat) (hl gl : Nat → Int) (i : Int) : AS :=
  ⟨[.unk, .unk, .unk, .unk, .unk, .ok (bv true), .ok (.ptr 1 0), .ok (iv c), .ok (.ptr 3 0), .ok (.ptr 5 0), .ok (iv i)] ++ List.replicate 215 .unk,
   [none, some (.cells [iv d1, iv d2, iv d3, iv d4, ro64 (kn + 1) p, ro64 kn l]), none, some (.cells [iv x1, iv x2, iv d3, iv d4, .row 7 0 0 m 1]), none, some (.cells [iv y1, iv y2, iv d3, iv d4, .row 8 0 0 m 1]), none, some (row64 m hl), some (row64 m gl)], 9, .nil⟩
noncomputable def body12 : Code := loopN (bodyOf Try.prog 12) 0
noncomputable def B12 (d1 d2 d3 d4 : Int) (kn : Nat) (p l : Nat → Int) (c x1 x2 y1 y2 : Int) (m : Nat) (hl gl : Nat → Int) (i : Int) : Tree (Ex × AS) :=
  .ite (decide (i < (↑kn : Int)))
  (.need ((0 : Int) ≤ i ∧ i < (↑kn : Int))
    (.need (0 + m ≤ m ∧ 1 ≤ List.length [iv (w64 (l (Int.toNat i) + (100 : Int)))] ∧ (m + 1) * 8 ≤ 140737488355328)
      (.need ((0 : Int) ≤ i ∧ i < (↑kn : Int))
        (.need (0 + m ≤ m ∧ 1 ≤ List.length [iv (w64 (w64 (l (Int.toNat i) + (100 : Int)) + c))] ∧ (m + 1) * 8 ≤ 140737488355328)
          (.ret
            (.normal,
              {
                tm :=
                  [.unk, .unk, .unk, .unk, .unk, .ok (bv true), .ok (.ptr 1 0), .ok (iv c), .ok (.ptr 3 0), .ok (.ptr 5 0),
                    .ok (iv (w64 (i + (1 : Int)))), .unk, .unk, .unk, .unk, .unk, .unk, .unk, .unk, .unk, .unk, .unk, .unk, .unk, .unk, .unk, .unk, .unk, .unk, .unk, .unk, .unk, .unk, .unk,
                    .unk, .unk, .unk, .unk, .unk, .unk, .unk, .unk, .unk, .unk, .unk, .unk, .unk, .unk, .unk, .unk, .unk, .unk, .unk, .unk, .unk, .unk, .unk, .unk, .unk, .unk, .unk,
                    .unk, .unk, .unk, .unk, .unk, .unk, .unk, .unk, .unk, .unk, .unk, .unk, .unk, .unk, .unk, .unk, .unk, .unk, .unk, .unk, .unk, .unk, .unk, .unk, .unk, .unk, .unk,
                    .unk, .unk, .unk, .unk, .unk, .unk, .unk, .unk, .unk, .unk, .unk, .unk, .unk, .unk, .unk, .unk, .unk, .unk, .unk, .unk, .unk, .unk, .unk, .unk, .unk, .unk, .unk,
                    .unk, .unk, .unk, .unk, .unk, .unk, .unk, .unk, .unk, .unk, .unk, .unk, .unk, .unk, .unk, .unk, .unk, .unk, .unk, .unk, .unk, .unk, .unk, .unk, .unk, .unk, .unk,
                    .unk, .unk, .unk, .unk, .unk, .unk, .unk, .unk, .unk, .unk, .unk, .unk, .unk, .unk, .unk, .unk, .unk, .unk, .unk, .unk, .unk, .unk, .unk, .unk, .unk, .unk, .unk,
                    .unk, .unk, .unk, .unk, .unk, .unk, .unk, .unk, .unk, .unk, .unk, .unk, .unk, .unk, .unk, .unk, .unk, .unk, .unk, .unk, .unk, .unk, .unk, .unk, .unk, .unk, .unk,
                    .unk, .unk, .unk, .unk, .unk, .unk, .unk, .unk, .unk, .unk, .unk, .unk, .unk, .unk, .unk, .unk, .unk, .unk, .unk, .unk, .unk, .unk, .unk, .unk, .unk, .unk, .unk,
                    .unk, .unk, .unk],
                hp :=
                  [none, some (.cells [iv d1, iv d2, iv d3, iv d4, .d (DV.ro (kn + 1) 1 fun i x => DV.x (.int .i64 (p i))), .d (DV.ro kn 1 fun i x => DV.x (.int .i64 (l i)))]),
                    none, some (.cells [iv x1, iv x2, iv d3, iv d4, .row 7 0 0 (m + 1) 1]), none,
                    some (.cells [iv y1, iv y2, iv d3, iv d4, .row 8 0 0 (m + 1) 1]), none,
                    some
                      (.row (m + 1) 1 fun a b =>
                        selD (decide (a < m)) (DV.x (.int .i64 (hl ((0 : Nat) + a)))) (dsAt [DV.x (.int .i64 (w64 (l (Int.toNat i) + (100 : Int))))] (0 + (0 + (a - m)) * 1 + b))),
                    some
                      (.row (m + 1) 1 fun a b =>
                        selD (decide (a < m)) (DV.x (.int .i64 (gl ((0 : Nat) + a)))) (dsAt [DV.x (.int .i64 (w64 (w64 (l (Int.toNat i) + (100 : Int)) + c)))] (0 + (0 + (a - m)) * 1 + b)))],
                next := 9, hint := .nil }))))))
  (.ret
    (.exit 0,
      {
        tm :=
          [.unk, .unk, .unk, .unk, .unk, .ok (bv true), .ok (.ptr 1 0), .ok (iv c), .ok (.ptr 3 0), .ok (.ptr 5 0), .ok (iv i), .unk, .unk, .unk,
            .unk, .unk, .unk, .unk, .unk, .unk, .unk, .unk, .unk, .unk, .unk, .unk, .unk, .unk, .unk, .unk, .unk, .unk, .unk, .unk, .unk, .unk, .unk, .unk, .unk, .unk, .unk, .unk,
            .unk, .unk, .unk, .unk, .unk, .unk, .unk, .unk, .unk, .unk, .unk, .unk, .unk, .unk, .unk, .unk, .unk, .unk, .unk, .unk, .unk, .unk, .unk, .unk, .unk, .unk, .unk, .unk,
            .unk, .unk, .unk, .unk, .unk, .unk, .unk, .unk, .unk, .unk, .unk, .unk, .unk, .unk, .unk, .unk, .unk, .unk, .unk, .unk, .unk, .unk, .unk, .unk, .unk, .unk, .unk, .unk,
            .unk, .unk, .unk, .unk, .unk, .unk, .unk, .unk, .unk, .unk, .unk, .unk, .unk, .unk, .unk, .unk, .unk, .unk, .unk, .unk, .unk, .unk, .unk, .unk, .unk, .unk, .unk, .unk,
            .unk, .unk, .unk, .unk, .unk, .unk, .unk, .unk, .unk, .unk, .unk, .unk, .unk, .unk, .unk, .unk, .unk, .unk, .unk, .unk, .unk, .unk, .unk, .unk, .unk, .unk, .unk, .unk,
            .unk, .unk, .unk, .unk, .unk, .unk, .unk, .unk, .unk, .unk, .unk, .unk, .unk, .unk, .unk, .unk, .unk, .unk, .unk, .unk, .unk, .unk, .unk, .unk, .unk, .unk, .unk, .unk,
            .unk, .unk, .unk, .unk, .unk, .unk, .unk, .unk, .unk, .unk, .unk, .unk, .unk, .unk, .unk, .unk, .unk, .unk, .unk, .unk, .unk, .unk, .unk, .unk, .unk, .unk, .unk, .unk,
            .unk, .unk, .unk, .unk, .unk, .unk, .unk, .unk, .unk, .unk, .unk, .unk, .unk, .unk, .unk, .unk],
        hp :=
          [none, some (.cells [iv d1, iv d2, iv d3, iv d4, .d (DV.ro (kn + 1) 1 fun i x => DV.x (.int .i64 (p i))), .d (DV.ro kn 1 fun i x => DV.x (.int .i64 (l i)))]), none,
            some (.cells [iv x1, iv x2, iv d3, iv d4, .row 7 0 0 m 1]), none, some (.cells [iv y1, iv y2, iv d3, iv d4, .row 8 0 0 m 1]), none,
            some (.row m 1 fun i x => DV.x (.int .i64 (hl i))), some (.row m 1 fun i x => DV.x (.int .i64 (gl i)))],
        next := 9, hint := .nil }))

theorem B12_eq (d1 d2 d3 d4 : Int) (kn : Nat) (p l : Nat → Int) (c x1 x2 y1 y2 : Int) (m : Nat) (hl gl : Nat → Int) (i : Int) : cutT 7 rts12 [5, 6, 7, 8, 9, 10] [0, 2, 4, 6] 9 .nil (exec Try.prog C8 D8 200 body12 (inv12 d1 d2 d3 d4 kn p l c x1 x2 y1 y2 m hl gl i)) = B12 d1 d2 d3 d4 kn p l c x1 x2 y1 y2 m hl gl i := by kernel_rfl

theorem C12a (lo wi st er : Int) (n : Nat) (cell : Nat → Nat → DV) (by0 : Int) : codeC (sub pa12 (t12 lo wi st er n cell by0)) = .loop body12 := by kernel_rfl
theorem C12b (lo wi st er : Int) (n : Nat) (cell : Nat → Nat → DV) (by0 : Int) : codeC (sub pb12 (t12 lo wi st er n cell by0)) = .loop body12 := by kernel_rfl
theorem N12a (lo wi st er : Int) (n : Nat) (cell : Nat → Nat → DV) (by0 : Int) : Nat.ble (codeS (sub pa12 (t12 lo wi st er n cell by0))).next 7 = true := by kernel_rfl
theorem N12b (lo wi st er : Int) (n : Nat) (cell : Nat → Nat → DV) (by0 : Int) : Nat.ble (codeS (sub pb12 (t12 lo wi st er n cell by0))).next 7 = true := by kernel_rfl
noncomputable def k12 (lo wi st er : Int) (n : Nat) (cell : Nat → Nat → DV) (by0 : Int) (d1 d2 d3 d4 : Int) (kn : Nat) (p l : Nat → Int) (c x1 x2 y1 y2 : Int) (m : Nat) (hl gl : Nat → Int) (i : Int) : Tree SV := codeK (sub pa12 (t12 lo wi st er n cell by0)) (.exit 0) (inv12 d1 d2 d3 d4 kn p l c x1 x2 y1 y2 m hl gl i)
theorem k12b (lo wi st er : Int) (n : Nat) (cell : Nat → Nat → DV) (by0 : Int) (d1 d2 d3 d4 : Int) (kn : Nat) (p l : Nat → Int) (c x1 x2 y1 y2 : Int) (m : Nat) (hl gl : Nat → Int) (i : Int) : codeK (sub pb12 (t12 lo wi st er n cell by0)) (.exit 0) (inv12 d1 d2 d3 d4 kn p l c x1 x2 y1 y2 m hl gl i) = k12 lo wi st er n cell by0 d1 d2 d3 d4 kn p l c x1 x2 y1 y2 m hl gl i := by kernel_rfl
noncomputable def K12 (lo wi st er : Int) (n : Nat) (cell : Nat → Nat → DV) (by0 : Int) (d1 d2 d3 d4 : Int) (kn : Nat) (p l : Nat → Int) (c x1 x2 y1 y2 : Int) (m : Nat) (hl gl : Nat → Int) (i : Int) : Tree SV :=
  .need (0 + m ≤ m)
  (.need
    ((dV x1 x2 d3 d4 ∧ m ≤ 1000 ∧ ∀ (i : Nat), i < m → ∃ b, (fun i j => (fun i x => DV.x (.int .i64 (hl i))) ((0 : Nat) + i) j) i (0 : Nat) = DV.x (.int .i64 b)) ∧
      dB x1 x2 d3 d4 (fun i => hl ((0 : Nat) + i)) m = true)
    (.need (0 + m ≤ m)
      (.need
        ((dV y1 y2 d3 d4 ∧ m ≤ 1000 ∧ ∀ (i : Nat), i < m → ∃ b, (fun i j => (fun i x => DV.x (.int .i64 (gl i))) ((0 : Nat) + i) j) i (0 : Nat) = DV.x (.int .i64 b)) ∧
          dB y1 y2 d3 d4 (fun i => gl ((0 : Nat) + i)) m = true)
        (.need (0 + m ≤ m)
          (.need (0 + m ≤ m)
            (.need (0 + m ≤ m)
              (.need
                ((dV x1 x2 d3 d4 ∧ m ≤ 1000 ∧ ∀ (i : Nat), i < m → ∃ b, (fun i j => (fun i x => DV.x (.int .i64 (hl i))) ((0 : Nat) + i) j) i (0 : Nat) = DV.x (.int .i64 b)) ∧
                  dB x1 x2 d3 d4 (fun i => hl ((0 : Nat) + i)) m = true)
                (.need (0 + m ≤ m)
                  (.need (0 + m ≤ m)
                    (.need (0 + m ≤ m)
                      (.need
                        ((dV y1 y2 d3 d4 ∧ m ≤ 1000 ∧ ∀ (i : Nat), i < m → ∃ b, (fun i j => (fun i x => DV.x (.int .i64 (gl i))) ((0 : Nat) + i) j) i (0 : Nat) = DV.x (.int .i64 b)) ∧
                          dB y1 y2 d3 d4 (fun i => gl ((0 : Nat) + i)) m = true)
                        (.ite
                          (false || dL y1 d3 d4 (fun i => gl ((0 : Nat) + i)) m != w64 (dL x1 d3 d4 (fun i => hl ((0 : Nat) + i)) m + c) ||
                              dH y2 d3 d4 (fun i => gl ((0 : Nat) + i)) m != w64 (dH x2 d3 d4 (fun i => hl ((0 : Nat) + i)) m + c) ||
                            (↑(m + 1) : Int) != (↑(m + 1) : Int))
                          (.ret (bv false))
                          (.need
                            ((dV x1 x2 d3 d4 ∧ m ≤ 1000 ∧ ∀ (i : Nat), i < m → ∃ b, (fun i j => (fun i x => DV.x (.int .i64 (hl i))) ((0 : Nat) + i) j) i (0 : Nat) = DV.x (.int .i64 b)) ∧
                              dB x1 x2 d3 d4 (fun i => hl ((0 : Nat) + i)) m = true ∧
                                dL x1 d3 d4 (fun i => hl ((0 : Nat) + i)) m ≤ dL x1 d3 d4 (fun i => hl ((0 : Nat) + i)) m ∧ dL x1 d3 d4 (fun i => hl ((0 : Nat) + i)) m ≤ dH x2 d3 d4 (fun i => hl ((0 : Nat) + i)) m)
                            (.need
                              ((dV y1 y2 d3 d4 ∧ m ≤ 1000 ∧ ∀ (i : Nat), i < m → ∃ b, (fun i j => (fun i x => DV.x (.int .i64 (gl i))) ((0 : Nat) + i) j) i (0 : Nat) = DV.x (.int .i64 b)) ∧
                                dB y1 y2 d3 d4 (fun i => gl ((0 : Nat) + i)) m = true ∧
                                  dL y1 d3 d4 (fun i => gl ((0 : Nat) + i)) m ≤ dL y1 d3 d4 (fun i => gl ((0 : Nat) + i)) m ∧ dL y1 d3 d4 (fun i => gl ((0 : Nat) + i)) m ≤ dH y2 d3 d4 (fun i => gl ((0 : Nat) + i)) m)
                              (.ite (false || (↑(m + 1) : Int) != (↑(m + 1) : Int) || (↑(m + 1) : Int) != (↑(m + 1) : Int)) (.ret (bv false))
                                (.code
                                  (codeC
                                    (sub [(0 : Nat), (0 : Nat), (0 : Nat), (0 : Nat), (0 : Nat), (0 : Nat), (0 : Nat), (0 : Nat), (0 : Nat), (0 : Nat), (0 : Nat), (0 : Nat), (1 : Nat), (0 : Nat), (0 : Nat), (1 : Nat)]
                                      (k12 lo wi st er n cell by0 d1 d2 d3 d4 kn p l c x1 x2 y1 y2 m hl gl i)))
                                  (codeS
                                    (sub [(0 : Nat), (0 : Nat), (0 : Nat), (0 : Nat), (0 : Nat), (0 : Nat), (0 : Nat), (0 : Nat), (0 : Nat), (0 : Nat), (0 : Nat), (0 : Nat), (1 : Nat), (0 : Nat), (0 : Nat), (1 : Nat)]
                                      (k12 lo wi st er n cell by0 d1 d2 d3 d4 kn p l c x1 x2 y1 y2 m hl gl i)))
                                  (codeK
                                    (sub [(0 : Nat), (0 : Nat), (0 : Nat), (0 : Nat), (0 : Nat), (0 : Nat), (0 : Nat), (0 : Nat), (0 : Nat), (0 : Nat), (0 : Nat), (0 : Nat), (1 : Nat), (0 : Nat), (0 : Nat), (1 : Nat)]
                                      (k12 lo wi st er n cell by0 d1 d2 d3 d4 kn p l c x1 x2 y1 y2 m hl gl i)))))))))))))))))))

theorem K12_eq (lo wi st er : Int) (n : Nat) (cell : Nat → Nat → DV) (by0 : Int) (d1 d2 d3 d4 : Int) (kn : Nat) (p l : Nat → Int) (c x1 x2 y1 y2 : Int) (m : Nat) (hl gl : Nat → Int) (i : Int) : k12 lo wi st er n cell by0 d1 d2 d3 d4 kn p l c x1 x2 y1 y2 m hl gl i = K12 lo wi st er n cell by0 d1 d2 d3 d4 kn p l c x1 x2 y1 y2 m hl gl i := by kernel_rfl


end Go.Proofs.Ytcbjclmjkilphaa

namespace Go.Proofs.Ytcbjclmjkilphaa
open Go.Sx
set_option maxRecDepth 100000

noncomputable def q12 : List Nat := [0, 0, 0, 0, 0, 0, 0, 0, 0, 0, 0, 0, 1, 0, 0, 1]
noncomputable def drq12 : List Nat := [0, 1, 2, 3, 4, 5, 6, 7, 8, 9, 10, 11, 12, 14, 16, 18, 20]
noncomputable def inq12 (t : Tree SV) : Option AS := entA 21 [] [5, 7, 13, 14, 15, 16, 17] drq12 21 .nil t
noncomputable def inv12c (c : Int) (m : Nat) (a b a' b' : Nat → Int) (pl ql : Nat → Int) (i : Int) : AS :=
  ⟨[.unk, .unk, .unk, .unk, .unk, .ok (bv true), .unk, .ok (iv c), .unk, .unk, .unk, .unk, .unk, .ok (.ptr 13 0), .ok (.ptr 15 0), .ok (.ptr 17 0), .ok (.ptr 19 0), .ok (iv i)] ++ List.replicate 208 .unk,
   List.replicate 13 none ++ [some (.cells [.d (.ro (m + 1) 2 (scell a b)), iv 0]), none, some (.cells [.d (.ro (m + 1) 2 (scell a' b')), iv 0]), none, some (.cells [ro64 (m + 1) pl, iv 0]), none, some (.cells [ro64 (m + 1) ql, iv 0]), none], 21, .nil⟩
noncomputable def body12c : Code := loopN (bodyOf Try.prog 12) 1
noncomputable def B12c (c : Int) (m : Nat) (a b a' b' : Nat → Int) (pl ql : Nat → Int) (i : Int) : Tree (Ex × AS) :=
  .ite (decide (i < (↑(m + 1) : Int)))
  (.need ((0 : Int) ≤ i ∧ i < (↑(m + 1) : Int))
    (.need ((0 : Int) ≤ (0 : Int) ∧ (0 : Int) < (2 : Int))
      (.need ((0 : Int) ≤ i ∧ i < (↑(m + 1) : Int))
        (.need ((0 : Int) ≤ (0 : Int) ∧ (0 : Int) < (2 : Int))
          (.need ((a' (Int.toNat i) != w64 (a (Int.toNat i) + c)) = false → (0 : Int) ≤ i ∧ i < (↑(m + 1) : Int))
            (.need ((a' (Int.toNat i) != w64 (a (Int.toNat i) + c)) = false → (0 : Int) ≤ (1 : Int) ∧ (1 : Int) < (2 : Int))
              (.need ((a' (Int.toNat i) != w64 (a (Int.toNat i) + c)) = false → (0 : Int) ≤ i ∧ i < (↑(m + 1) : Int))
                (.need ((a' (Int.toNat i) != w64 (a (Int.toNat i) + c)) = false → (0 : Int) ≤ (1 : Int) ∧ (1 : Int) < (2 : Int))
                  (.need ((a' (Int.toNat i) != w64 (a (Int.toNat i) + c) || b' (Int.toNat i) != w64 (b (Int.toNat i) + c)) = false → (0 : Int) ≤ i ∧ i < (↑(m + 1) : Int))
                    (.need ((a' (Int.toNat i) != w64 (a (Int.toNat i) + c) || b' (Int.toNat i) != w64 (b (Int.toNat i) + c)) = false → (0 : Int) ≤ i ∧ i < (↑(m + 1) : Int))
                      (.ite (a' (Int.toNat i) != w64 (a (Int.toNat i) + c) || b' (Int.toNat i) != w64 (b (Int.toNat i) + c) || ql (Int.toNat i) != w64 (pl (Int.toNat i) + c))
                        (.ret
                          (.ret,
                            {
                              tm :=
                                [.unk, .unk, .unk, .unk, .unk, .ok (bv true), .unk, .ok (iv c), .unk, .unk, .unk, .unk, .unk, .ok (.ptr 13 0), .ok (.ptr 15 0),
                                  .ok (.ptr 17 0), .ok (.ptr 19 0), .ok (iv i), .unk, .unk, .unk, .unk, .unk, .unk, .unk, .unk, .unk, .unk, .unk, .unk, .unk,
                                  .unk, .unk, .unk, .unk, .unk, .unk, .unk, .unk, .unk, .unk, .unk, .unk, .unk, .unk, .unk, .unk, .unk, .unk, .unk, .unk, .unk, .unk, .unk, .unk, .unk,
                                  .unk, .unk, .unk, .unk, .unk, .unk, .unk, .unk, .unk, .unk, .unk, .unk, .unk, .unk, .unk, .unk, .unk, .unk, .unk, .unk, .unk, .unk, .unk, .unk, .unk,
                                  .unk, .unk, .unk, .unk, .unk, .unk, .unk, .unk, .unk, .unk, .unk, .unk, .unk, .unk, .unk, .unk, .unk, .unk, .unk, .unk, .unk, .unk, .unk, .unk, .unk,
                                  .unk, .unk, .unk, .unk, .unk, .unk, .unk, .unk, .unk, .unk, .unk, .unk, .unk, .unk, .unk, .unk, .unk, .unk, .unk, .unk, .unk, .unk, .unk, .unk, .unk,
                                  .unk, .unk, .unk, .unk, .unk, .unk, .unk, .unk, .unk, .unk, .unk, .unk, .unk, .unk, .unk, .unk, .unk, .unk, .unk, .unk, .unk, .unk, .unk, .unk, .unk,
                                  .unk, .unk, .unk, .unk, .unk, .unk, .unk, .unk, .unk, .unk, .unk, .unk, .unk, .unk, .unk, .unk, .unk, .unk, .unk, .unk, .unk, .unk, .unk, .unk, .unk,
                                  .unk, .unk, .unk, .unk, .unk, .unk, .unk, .unk, .unk, .unk, .unk, .unk, .unk, .unk, .unk, .unk, .unk, .unk, .unk, .unk, .unk, .unk, .unk, .unk, .unk,
                                  .unk, .unk, .unk, .unk, .unk, .unk, .unk, .unk, .unk, .unk, .unk, .unk, .unk, .unk, .unk, .unk, .unk, .unk, .unk, .unk],
                              hp :=
                                [none, none, none, none, none, none, none, none, none, none, none, none, none,
                                  some
                                    (.cells
                                      [.d
                                          (DV.ro (m + 1) 2 fun a_1 b_1 =>
                                            match b_1 with
                                            | (0 : Nat) => DV.x (.int .i64 (a a_1))
                                            | x => DV.x (.int .i64 (b a_1))),
                                        iv (0 : Int)]),
                                  none,
                                  some
                                    (.cells
                                      [.d
                                          (DV.ro (m + 1) 2 fun a b =>
                                            match b with
                                            | (0 : Nat) => DV.x (.int .i64 (a' a))
                                            | x => DV.x (.int .i64 (b' a))),
                                        iv (0 : Int)]),
                                  none, some (.cells [.d (DV.ro (m + 1) 1 fun i x => DV.x (.int .i64 (pl i))), iv (0 : Int)]), none,
                                  some (.cells [.d (DV.ro (m + 1) 1 fun i x => DV.x (.int .i64 (ql i))), iv (0 : Int)]), none],
                              next := 21, hint := .nil }))
                        (.ret
                          (.normal,
                            {
                              tm :=
                                [.unk, .unk, .unk, .unk, .unk, .ok (bv true), .unk, .ok (iv c), .unk, .unk, .unk, .unk, .unk, .ok (.ptr 13 0), .ok (.ptr 15 0),
                                  .ok (.ptr 17 0), .ok (.ptr 19 0), .ok (iv (w64 (i + (1 : Int)))), .unk, .unk, .unk, .unk, .unk, .unk, .unk, .unk, .unk, .unk, .unk,
                                  .unk, .unk, .unk, .unk, .unk, .unk, .unk, .unk, .unk, .unk, .unk, .unk, .unk, .unk, .unk, .unk, .unk, .unk, .unk, .unk, .unk, .unk, .unk, .unk, .unk,
                                  .unk, .unk, .unk, .unk, .unk, .unk, .unk, .unk, .unk, .unk, .unk, .unk, .unk, .unk, .unk, .unk, .unk, .unk, .unk, .unk, .unk, .unk, .unk, .unk, .unk,
                                  .unk, .unk, .unk, .unk, .unk, .unk, .unk, .unk, .unk, .unk, .unk, .unk, .unk, .unk, .unk, .unk, .unk, .unk, .unk, .unk, .unk, .unk, .unk, .unk, .unk,
                                  .unk, .unk, .unk, .unk, .unk, .unk, .unk, .unk, .unk, .unk, .unk, .unk, .unk, .unk, .unk, .unk, .unk, .unk, .unk, .unk, .unk, .unk, .unk, .unk, .unk,
                                  .unk, .unk, .unk, .unk, .unk, .unk, .unk, .unk, .unk, .unk, .unk, .unk, .unk, .unk, .unk, .unk, .unk, .unk, .unk, .unk, .unk, .unk, .unk, .unk, .unk,
                                  .unk, .unk, .unk, .unk, .unk, .unk, .unk, .unk, .unk, .unk, .unk, .unk, .unk, .unk, .unk, .unk, .unk, .unk, .unk, .unk, .unk, .unk, .unk, .unk, .unk,
                                  .unk, .unk, .unk, .unk, .unk, .unk, .unk, .unk, .unk, .unk, .unk, .unk, .unk, .unk, .unk, .unk, .unk, .unk, .unk, .unk, .unk, .unk, .unk, .unk, .unk,
                                  .unk, .unk, .unk, .unk, .unk, .unk, .unk, .unk, .unk, .unk, .unk, .unk, .unk, .unk, .unk, .unk, .unk, .unk, .unk, .unk, .unk, .unk],
                              hp :=
                                [none, none, none, none, none, none, none, none, none, none, none, none, none,
                                  some
                                    (.cells
                                      [.d
                                          (DV.ro (m + 1) 2 fun a_1 b_1 =>
                                            match b_1 with
                                            | (0 : Nat) => DV.x (.int .i64 (a a_1))
                                            | x => DV.x (.int .i64 (b a_1))),
                                        iv (0 : Int)]),
                                  none,
                                  some
                                    (.cells
                                      [.d
                                          (DV.ro (m + 1) 2 fun a b =>
                                            match b with
                                            | (0 : Nat) => DV.x (.int .i64 (a' a))
                                            | x => DV.x (.int .i64 (b' a))),
                                        iv (0 : Int)]),
                                  none, some (.cells [.d (DV.ro (m + 1) 1 fun i x => DV.x (.int .i64 (pl i))), iv (0 : Int)]), none,
                                  some (.cells [.d (DV.ro (m + 1) 1 fun i x => DV.x (.int .i64 (ql i))), iv (0 : Int)]), none],
                              next := 21, hint := .nil })))))))))))))
  (.ret
    (.exit 2,
      {
        tm :=
          [.unk, .unk, .unk, .unk, .unk, .ok (bv true), .unk, .ok (iv c), .unk, .unk, .unk, .unk, .unk, .ok (.ptr 13 0), .ok (.ptr 15 0),
            .ok (.ptr 17 0), .ok (.ptr 19 0), .ok (iv i), .unk, .unk, .unk, .unk, .unk, .unk, .unk, .unk, .unk, .unk, .unk, .unk, .unk, .unk, .unk, .unk,
            .unk, .unk, .unk, .unk, .unk, .unk, .unk, .unk, .unk, .unk, .unk, .unk, .unk, .unk, .unk, .unk, .unk, .unk, .unk, .unk, .unk, .unk, .unk, .unk, .unk, .unk, .unk, .unk,
            .unk, .unk, .unk, .unk, .unk, .unk, .unk, .unk, .unk, .unk, .unk, .unk, .unk, .unk, .unk, .unk, .unk, .unk, .unk, .unk, .unk, .unk, .unk, .unk, .unk, .unk, .unk, .unk,
            .unk, .unk, .unk, .unk, .unk, .unk, .unk, .unk, .unk, .unk, .unk, .unk, .unk, .unk, .unk, .unk, .unk, .unk, .unk, .unk, .unk, .unk, .unk, .unk, .unk, .unk, .unk, .unk,
            .unk, .unk, .unk, .unk, .unk, .unk, .unk, .unk, .unk, .unk, .unk, .unk, .unk, .unk, .unk, .unk, .unk, .unk, .unk, .unk, .unk, .unk, .unk, .unk, .unk, .unk, .unk, .unk,
            .unk, .unk, .unk, .unk, .unk, .unk, .unk, .unk, .unk, .unk, .unk, .unk, .unk, .unk, .unk, .unk, .unk, .unk, .unk, .unk, .unk, .unk, .unk, .unk, .unk, .unk, .unk, .unk,
            .unk, .unk, .unk, .unk, .unk, .unk, .unk, .unk, .unk, .unk, .unk, .unk, .unk, .unk, .unk, .unk, .unk, .unk, .unk, .unk, .unk, .unk, .unk, .unk, .unk, .unk, .unk, .unk,
            .unk, .unk, .unk, .unk, .unk, .unk, .unk, .unk, .unk, .unk, .unk, .unk, .unk, .unk, .unk, .unk, .unk, .unk, .unk, .unk, .unk, .unk, .unk, .unk],
        hp :=
          [none, none, none, none, none, none, none, none, none, none, none, none, none,
            some
              (.cells
                [.d
                    (DV.ro (m + 1) 2 fun a_1 b_1 =>
                      match b_1 with
                      | (0 : Nat) => DV.x (.int .i64 (a a_1))
                      | x => DV.x (.int .i64 (b a_1))),
                  iv (0 : Int)]),
            none,
            some
              (.cells
                [.d
                    (DV.ro (m + 1) 2 fun a b =>
                      match b with
                      | (0 : Nat) => DV.x (.int .i64 (a' a))
                      | x => DV.x (.int .i64 (b' a))),
                  iv (0 : Int)]),
            none, some (.cells [.d (DV.ro (m + 1) 1 fun i x => DV.x (.int .i64 (pl i))), iv (0 : Int)]), none,
            some (.cells [.d (DV.ro (m + 1) 1 fun i x => DV.x (.int .i64 (ql i))), iv (0 : Int)]), none],
        next := 21, hint := .nil }))

theorem B12c_eq (c : Int) (m : Nat) (a b a' b' : Nat → Int) (pl ql : Nat → Int) (i : Int) : cutT 21 [] [5, 7, 13, 14, 15, 16, 17] drq12 21 .nil (exec Try.prog C8 D8 200 body12c (inv12c c m a b a' b' pl ql i)) = B12c c m a b a' b' pl ql i := by kernel_rfl

theorem I12c (lo wi st er : Int) (n : Nat) (cell : Nat → Nat → DV) (by0 : Int) (d1 d2 d3 d4 : Int) (kn : Nat) (p l : Nat → Int) (c x1 x2 y1 y2 : Int) (m : Nat) (hl gl : Nat → Int) (i : Int) : inq12 (sub q12 (k12 lo wi st er n cell by0 d1 d2 d3 d4 kn p l c x1 x2 y1 y2 m hl gl i)) = some (inv12c c m (sL x1 d3 d4 m (fun i => hl (0 + i))) (sH x2 d3 d4 m (fun i => hl (0 + i))) (sL y1 d3 d4 m (fun i => gl (0 + i))) (sH y2 d3 d4 m (fun i => gl (0 + i)))
    (pth x1 x2 d3 d4 m (fun i => hl (0 + i)) (dL x1 d3 d4 (fun i => hl (0 + i)) m)) (pth y1 y2 d3 d4 m (fun i => gl (0 + i)) (dL y1 d3 d4 (fun i => gl (0 + i)) m)) 0) := by kernel_rfl
theorem C12c (lo wi st er : Int) (n : Nat) (cell : Nat → Nat → DV) (by0 : Int) (d1 d2 d3 d4 : Int) (kn : Nat) (p l : Nat → Int) (c x1 x2 y1 y2 : Int) (m : Nat) (hl gl : Nat → Int) (i : Int) : codeC (sub q12 (k12 lo wi st er n cell by0 d1 d2 d3 d4 kn p l c x1 x2 y1 y2 m hl gl i)) = .loop body12c := by kernel_rfl
theorem N12c (lo wi st er : Int) (n : Nat) (cell : Nat → Nat → DV) (by0 : Int) (d1 d2 d3 d4 : Int) (kn : Nat) (p l : Nat → Int) (c x1 x2 y1 y2 : Int) (m : Nat) (hl gl : Nat → Int) (i : Int) : Nat.ble (codeS (sub q12 (k12 lo wi st er n cell by0 d1 d2 d3 d4 kn p l c x1 x2 y1 y2 m hl gl i))).next 21 = true := by kernel_rfl
theorem K12c (lo wi st er : Int) (n : Nat) (cell : Nat → Nat → DV) (by0 : Int) (d1 d2 d3 d4 : Int) (kn : Nat) (p l : Nat → Int) (c x1 x2 y1 y2 : Int) (m : Nat) (hl gl : Nat → Int) (i : Int) (a b a' b' pl ql : Nat → Int) (j : Int) : codeK (sub q12 (k12 lo wi st er n cell by0 d1 d2 d3 d4 kn p l c x1 x2 y1 y2 m hl gl i)) (.exit 2) (inv12c c m a b a' b' pl ql j) = .ret (bv true) := by kernel_rfl

end Go.Proofs.Ytcbjclmjkilphaa

namespace Go.Proofs.Ytcbjclmjkilphaa
open Go.Sx
set_option maxRecDepth 100000

section
variable {lo hi st er c last : Int} {L : Nat → Int} {n k : Nat}

/-- What is known of a drift whose factors stay away from 0 and from the greatest reading. -/
structure Mild (lo hi st er c : Int) (L : Nat → Int) (n : Nat) : Prop where
  v : dV lo hi st er
  s : st ≤ 5
  e : er ≤ 5
  l : 50 ≤ lo ∧ hi ≤ 200
  c : 0 ≤ c ∧ c ≤ 900000
  r : ∀ k, k < n → 60 ≤ L k ∧ L k ≤ 300

theorem dLH_shift (h : Mild lo hi st er c L n) (hn : n ≤ 12) : ∀ k, k ≤ n → dL (lo + c) st er (fun i => L i + c) k = dL lo st er L k + c ∧ dH (hi + c) st er (fun i => L i + c) k = dH hi st er L k + c ∧ 50 ≤ dL lo st er L k ∧ dL lo st er L k ≤ 1000 ∧ dH hi st er L k ≤ 1000
  | 0, _ => by have := h.l; have := h.v.h; exact ⟨rfl, rfl, by simp only [dL]; omega, by simp only [dL]; omega, by simp only [dH]; omega⟩
  | k + 1, hk => by
    obtain ⟨i1, i2, i3, i4, i5⟩ := dLH_shift h hn k (by omega)
    have := h.r k (by omega); have := h.s; have := h.e; have := h.c; have := h.v.s; have := h.v.e
    simp only [dL, dH, i1, i2, nL, nH]
    unfold cR
    omega

theorem dB_shift (h : Mild lo hi st er c L n) (hn : n ≤ 12) : ∀ k, k ≤ n → dB (lo + c) (hi + c) st er (fun i => L i + c) k = dB lo hi st er L k
  | 0, _ => rfl
  | k + 1, hk => by
    obtain ⟨i1, i2, _⟩ := dLH_shift h hn (k + 1) hk
    simp only [dB, dB_shift h hn k (by omega), i1, i2]
    congr 1
    rw [decide_eq_decide]; omega

theorem sLH_shift (h : Mild lo hi st er c L n) (hn : n ≤ 12) : ∀ j, j ≤ n → sL (lo + c) st er n (fun i => L i + c) (n - j) = sL lo st er n L (n - j) + c ∧ sH (hi + c) st er n (fun i => L i + c) (n - j) = sH hi st er n L (n - j) + c ∧
    -10000 ≤ sL lo st er n L (n - j) ∧ sL lo st er n L (n - j) ≤ 1000 ∧ sH hi st er n L (n - j) ≤ 1000
  | 0, _ => by
    obtain ⟨i1, i2, i3, i4, i5⟩ := dLH_shift h hn n (Nat.le_refl n)
    rw [Nat.sub_zero, sL_n, sH_n, sL_n, sH_n]; omega
  | j + 1, hj => by
    obtain ⟨i1, i2, i3, i4, i5⟩ := sLH_shift h hn j (by omega)
    have hk : n - (j + 1) < n := by omega
    obtain ⟨k1, k2, k3, k4, k5⟩ := dLH_shift h hn (n - (j + 1)) (by omega)
    have := h.v.s
    have e : n - (j + 1) + 1 = n - j := by omega
    rw [sL_i hk, sH_i hk, sL_i hk, sH_i hk, e]
    omega

theorem pth_k' (hk : k < n) : pth lo hi st er n L last k = min (max (pth lo hi st er n L last (k + 1)) (dL lo st er L k)) (dH hi st er L k) := by
  unfold pth
  rw [show n + 1 - k = (n - k) + 1 by omega, show n + 1 - (k + 1) = n - k by omega]
  simp only [pw]
  rw [show n - (n - k) = k by omega]

theorem pth_n' : pth lo hi st er n L last n = min (max last (dL lo st er L n)) (dH hi st er L n) := by
  unfold pth
  rw [show n + 1 - n = 0 + 1 by omega]
  simp only [pw, Nat.sub_zero]

theorem pth_shift (h : Mild lo hi st er c L n) (hn : n ≤ 12) (hb : dB lo hi st er L n = true) (hl : -10000 ≤ last ∧ last ≤ 1000) : ∀ j, j ≤ n → pth (lo + c) (hi + c) st er n (fun i => L i + c) (last + c) (n - j) = pth lo hi st er n L last (n - j) + c ∧ -10000 ≤ pth lo hi st er n L last (n - j) ∧ pth lo hi st er n L last (n - j) ≤ 1000
  | 0, _ => by
    obtain ⟨i1, i2, i3, i4, i5⟩ := dLH_shift h hn n (Nat.le_refl n)
    have := dB_le h.v hb
    rw [Nat.sub_zero, pth_n', pth_n', i1, i2]; omega
  | j + 1, hj => by
    obtain ⟨i1, i2, i3⟩ := pth_shift h hn hb hl j (by omega)
    have hk : n - (j + 1) < n := by omega
    obtain ⟨k1, k2, k3, k4, k5⟩ := dLH_shift h hn (n - (j + 1)) (by omega)
    have := dB_le h.v (dB_mono (show n - (j + 1) ≤ n by omega) hb)
    have e : n - (j + 1) + 1 = n - j := by omega
    rw [pth_k' hk, pth_k' hk, e, k1, k2]
    omega
end

end Go.Proofs.Ytcbjclmjkilphaa

namespace Go.Proofs.Ytcbjclmjkilphaa
open Go.Sx
set_option maxRecDepth 100000

/-- The second loop of the law: all that is compared is shifted. -/
theorem loop12c {c : Int} {m : Nat} {a b a' b' pl ql : Nat → Int} (hm : m ≤ 12) (hc : 0 ≤ c ∧ c ≤ 900000) (hb : ∀ i, i < m + 1 → -10000 ≤ a i ∧ a i ≤ 1000 ∧ b i ≤ 1000 ∧ -4000000000 ≤ b i ∧ -10000 ≤ pl i ∧ pl i ≤ 1000)
    (h : ∀ i, i < m + 1 → a' i = a i + c ∧ b' i = b i + c ∧ ql i = pl i + c) {t : Tree SV} (hC : codeC t = .loop body12c) (hN : Nat.ble (codeS t).next 21 = true) (h0 : Gc 21 (ups (codeS t) 21) (inv12c c m a b a' b' pl ql 0))
    (hK : ∀ j, codeK t (.exit 2) (inv12c c m a b a' b' pl ql j) = .ret (bv true)) : (Tree.code (codeC t) (codeS t) (codeK t)).sat Try.prog (· = bv true) := by
  refine code_satS C8_ok D8_ok (n := 200) (n0 := 21) (nx := 21) (roots := []) (keep := [5, 7, 13, 14, 15, 16, 17]) (drop := drq12) (h := .nil) hC hN
    (fun q s => ∃ k : Nat, q = m + 1 - k ∧ k ≤ m + 1 ∧ s = inv12c c m a b a' b' pl ql k)
    (fun e s => e = .exit 2 ∧ ∃ i, s = inv12c c m a b a' b' pl ql i)
    ⟨_, _, ⟨0, rfl, by omega, rfl⟩, h0⟩ ?_ ?_
  · rintro q s ⟨k, rfl, hk, rfl⟩
    refine Sat.of_eq (B12c_eq c m a b a' b' pl ql k) ?_
    constructor
    unfold B12c
    have e1 : w64 ((k : Int) + 1) = ((k + 1 : Nat) : Int) := by rw [w64_of (by omega) (by omega)]; omega
    simp only [Int.toNat_natCast, e1]
    refine ⟨fun hlt => ?_, fun _ => ⟨_, ⟨rfl, k, rfl⟩, Gc.refl _ _⟩⟩
    have hlt : k < m + 1 := by simp only [decide_eq_true_eq] at hlt; omega
    obtain ⟨h1, h2, h3⟩ := h k hlt
    have hbk := hb k hlt
    have v1 : w64 (a k + c) = a k + c := w64_of (by omega) (by omega)
    have v2 : w64 (b k + c) = b k + c := w64_of (by omega) (by omega)
    have v3 : w64 (pl k + c) = pl k + c := w64_of (by omega) (by omega)
    simp only [v1, v2, v3, h1, h2, h3, bne_self_eq_false, Bool.or_self]
    refine ⟨by omega, by decide, by omega, by decide, fun _ => by omega, fun _ => by decide, fun _ => by omega, fun _ => by decide, fun _ => by omega, fun _ => by omega, ⟨fun h => (by cases h), fun _ => ⟨m + 1 - (k + 1), _, by omega, ⟨k + 1, rfl, by omega, rfl⟩, Gc.refl _ _⟩⟩⟩
  · rintro e s ⟨rfl, i, rfl⟩
    rw [hK]; exact ⟨rfl⟩

section
variable {lo hi st er c : Int} {L : Nat → Int} {n k : Nat}

/-- What follows the first loop. -/
theorem K12_ok {qlo qwi qst qer : Int} {qn : Nat} {cell : Nat → Nat → DV} {by0 d1 d2 : Int} {kn : Nat} {p l hl gl : Nat → Int} {i : Int} (h : Mild lo hi st er c L n) (hn : n ≤ 12) (hb : dB lo hi st er L n = true) (hh : hl = L) (hg : gl = fun i => L i + c) :
    Sat Try.prog (k12 qlo qwi qst qer qn cell by0 d1 d2 st er kn p l c lo hi (lo + c) (hi + c) n hl gl i) (· = bv true) := by
  have hI := I12c qlo qwi qst qer qn cell by0 d1 d2 st er kn p l c lo hi (lo + c) (hi + c) n hl gl i
  have hC := C12c qlo qwi qst qer qn cell by0 d1 d2 st er kn p l c lo hi (lo + c) (hi + c) n hl gl i
  have hN := N12c qlo qwi qst qer qn cell by0 d1 d2 st er kn p l c lo hi (lo + c) (hi + c) n hl gl i
  have hK := K12c qlo qwi qst qer qn cell by0 d1 d2 st er kn p l c lo hi (lo + c) (hi + c) n hl gl i
  refine Sat.of_eq (K12_eq qlo qwi qst qer qn cell by0 d1 d2 st er kn p l c lo hi (lo + c) (hi + c) n hl gl i) ?_
  constructor
  unfold K12
  have e1 : (fun i => hl (0 + i)) = L := by funext i; rw [Nat.zero_add, hh]
  have e2 : (fun i => gl (0 + i)) = fun i => L i + c := by funext i; rw [Nat.zero_add, hg]
  rw [e1, e2] at hI
  rw [e1, e2]
  have hv := h.v; have h1 := h.s; have h2 := h.e; have h3 := h.l; have h4 := h.c
  have hv2 : dV (lo + c) (hi + c) st er := ⟨by omega, by have := hv.h; omega, hv.s, hv.e⟩
  have hbg := dB_shift h hn n (Nat.le_refl n)
  obtain ⟨i1, i2, i3, i4, i5⟩ := dLH_shift h hn n (Nat.le_refl n)
  have hle := dB_le hv hb
  have v1 : w64 (dL lo st er L n + c) = dL lo st er L n + c := w64_of (by omega) (by omega)
  have v2 : w64 (dH hi st er L n + c) = dH hi st er L n + c := w64_of (by omega) (by omega)
  have ha : ∀ i, i < n → ∃ b, (fun i j => (fun i (x : Nat) => DV.x (Value.int IntKind.i64 (hl i))) (0 + i) j) i 0 = DV.x (Value.int IntKind.i64 b) := fun i _ => ⟨_, rfl⟩
  have hgl : ∀ i, i < n → ∃ b, (fun i j => (fun i (x : Nat) => DV.x (Value.int IntKind.i64 (gl i))) (0 + i) j) i 0 = DV.x (Value.int IntKind.i64 b) := fun i _ => ⟨_, rfl⟩
  simp only [i1, i2, v1, v2, bne_self_eq_false, Bool.or_self]
  refine ⟨by omega, ⟨⟨hv, by omega, ha⟩, hb⟩, by omega, ⟨⟨hv2, by omega, hgl⟩, hbg.trans hb⟩, by omega, by omega, by omega, ⟨⟨hv, by omega, ha⟩, hb⟩, by omega, by omega, by omega, ⟨⟨hv2, by omega, hgl⟩, hbg.trans hb⟩, ⟨fun h => (by cases h), fun _ =>
    ⟨⟨⟨hv, by omega, ha⟩, hb, by omega, by omega⟩, ⟨⟨hv2, by omega, hgl⟩, hbg.trans hb, by omega, by omega⟩, ⟨fun h => (by cases h), fun _ => ?_⟩⟩⟩⟩
  have hps := pth_shift h hn hb (last := dL lo st er L n) (by omega)
  have hss := sLH_shift h hn
  rw [i1] at hI
  refine loop12c hn h4 (fun i hi' => ?_) (fun i hi' => ?_) hC hN (entA_sound hI) (fun j => hK _ _ _ _ _ _ j)
  · have := hps (n - i) (by omega); have q := hss (n - i) (by omega)
    rw [show n - (n - i) = i by omega] at this q
    have q2 := stH_b hv (n := n) (L := L) (n + 1 - i)
    have : sH hi st er n L i = stH hi st er n L (n + 1 - i) := rfl
    omega
  · have := hps (n - i) (by omega); have q := hss (n - i) (by omega)
    rw [show n - (n - i) = i by omega] at this q
    exact ⟨q.1, q.2.1, this.1⟩
end

theorem inv12_gc {d1 d2 d3 d4 : Int} {kn : Nat} {p l : Nat → Int} {c x1 x2 y1 y2 : Int} {m : Nat} {hl gl : Nat → Int} {ch cg : Nat → Nat → DV} {i : Int} (h1 : ∀ a j, a < m → j < 1 → ch a j = xi (hl a)) (h2 : ∀ a j, a < m → j < 1 → cg a j = xi (gl a)) :
    Gc 7 ⟨[.unk, .unk, .unk, .unk, .unk, .ok (bv true), .ok (.ptr 1 0), .ok (iv c), .ok (.ptr 3 0), .ok (.ptr 5 0), .ok (iv i)] ++ List.replicate 215 .unk,
   [none, some (.cells [iv d1, iv d2, iv d3, iv d4, ro64 (kn + 1) p, ro64 kn l]), none, some (.cells [iv x1, iv x2, iv d3, iv d4, .row 7 0 0 m 1]), none, some (.cells [iv y1, iv y2, iv d3, iv d4, .row 8 0 0 m 1]), none, some (.row m 1 ch), some (.row m 1 cg)], 9, .nil⟩
   (inv12 d1 d2 d3 d4 kn p l c x1 x2 y1 y2 m hl gl i) := by
  refine gc_sound [(7, 7), (8, 8)] [] rfl ?_ ?_
  · simp [inv12, leTm, leTV, leSV, leSVs, rn, iv, bv, leD, List.replicate]
  · simp [inv12, leHp, leBlk, leSVs, leSV, rn, iv, leD, srcOf, hget, ro64, row64]
    exact ⟨fun i hi => h1 i 0 hi (by decide), fun i hi => h2 i 0 hi (by decide)⟩


theorem k12a (lo wi st er : Int) (n : Nat) (cell : Nat → Nat → DV) (by0 : Int) (d1 d2 d3 d4 : Int) (kn : Nat) (p l : Nat → Int) (c x1 x2 y1 y2 : Int) (m : Nat) (hl gl : Nat → Int) (i : Int) : codeK (sub pa12 (t12 lo wi st er n cell by0)) (.exit 0) (inv12 d1 d2 d3 d4 kn p l c x1 x2 y1 y2 m hl gl i) = k12 lo wi st er n cell by0 d1 d2 d3 d4 kn p l c x1 x2 y1 y2 m hl gl i := by unfold k12; rfl

/-- The first loop. -/
theorem loop12 {d1 d2 d3 d4 : Int} {kn : Nat} {p l : Nat → Int} {c x1 x2 y1 y2 : Int} (hk : kn ≤ 12) (hc : 0 ≤ c ∧ c ≤ 900000) (hl : ∀ i, i < kn → -5 ≤ l i ∧ l i ≤ 112) {t : Tree SV} (hC : codeC t = .loop body12) (hN : Nat.ble (codeS t).next 7 = true)
    (h0 : Gc 7 (ups (codeS t) 7) (inv12 d1 d2 d3 d4 kn p l c x1 x2 y1 y2 0 (fun i => l i + 100) (fun i => l i + 100 + c) 0))
    (hK : ∀ i, Sat Try.prog (codeK t (.exit 0) (inv12 d1 d2 d3 d4 kn p l c x1 x2 y1 y2 kn (fun i => l i + 100) (fun i => l i + 100 + c) i)) (· = bv true)) : (Tree.code (codeC t) (codeS t) (codeK t)).sat Try.prog (· = bv true) := by
  refine code_satS C8_ok D8_ok (n := 200) (n0 := 7) (nx := 9) (roots := rts12) (keep := [5, 6, 7, 8, 9, 10]) (drop := [0, 2, 4, 6]) (h := .nil) hC hN
    (fun q s => ∃ k : Nat, q = kn - k ∧ k ≤ kn ∧ s = inv12 d1 d2 d3 d4 kn p l c x1 x2 y1 y2 k (fun i => l i + 100) (fun i => l i + 100 + c) k)
    (fun e s => e = .exit 0 ∧ s = inv12 d1 d2 d3 d4 kn p l c x1 x2 y1 y2 kn (fun i => l i + 100) (fun i => l i + 100 + c) kn)
    ⟨_, _, ⟨0, rfl, by omega, rfl⟩, h0⟩ ?_ ?_
  · rintro q s ⟨k, rfl, hk2, rfl⟩
    refine Sat.of_eq (B12_eq d1 d2 d3 d4 kn p l c x1 x2 y1 y2 k (fun i => l i + 100) (fun i => l i + 100 + c) k) ?_
    constructor
    unfold B12
    have e1 : w64 ((k : Int) + 1) = ((k + 1 : Nat) : Int) := by rw [w64_of (by omega) (by omega)]; omega
    simp only [Int.toNat_natCast, e1]
    refine ⟨fun hlt => ?_, fun hlt => ?_⟩
    · have hlt : k < kn := by simp only [decide_eq_true_eq] at hlt; omega
      have hb := hl k hlt
      have v1 : w64 (l k + 100) = l k + 100 := w64_of (by omega) (by omega)
      have v2 : w64 (l k + 100 + c) = l k + 100 + c := w64_of (by omega) (by omega)
      simp only [v1, v2]
      refine ⟨by omega, ⟨by omega, by simp, by omega⟩, by omega, ⟨by omega, by simp, by omega⟩, kn - (k + 1), _, by omega, ⟨k + 1, rfl, by omega, rfl⟩, inv12_gc (fun a j ha hj => ?_) (fun a j ha hj => ?_)⟩
      · obtain rfl : j = 0 := by omega
        rw [selD_eq]
        by_cases h : a < k
        · simp [h]
        · obtain rfl : a = k := by omega
          simp [dsAt]
      · obtain rfl : j = 0 := by omega
        rw [selD_eq]
        by_cases h : a < k
        · simp [h]
        · obtain rfl : a = k := by omega
          simp [dsAt]
    · have hlt : ¬ k < kn := by simp only [decide_eq_false_iff_not] at hlt; omega
      obtain rfl : k = kn := by omega
      exact ⟨_, ⟨rfl, rfl⟩, Gc.refl _ _⟩
  · rintro e s ⟨rfl, rfl⟩
    exact hK _

theorem in12_gc {lo wi st er : Int} {n : Nat} {cell : Nat → Nat → DV} {c x1 x2 y1 y2 : Int} {hl gl : Nat → Int} : Gc 7 (in12s lo wi st er n cell c x1 x2 y1 y2) (inv12 (sLo lo) (sHi lo wi) (st % 6) (er % 6) (kS n) (fS lo wi (st % 6) (byteCell cell)) (lS lo wi (st % 6) (er % 6) (byteCell cell)) c x1 x2 y1 y2 0 hl gl 0) := by
  refine gc_sound [] [7, 8] rfl ?_ ?_
  · simp [in12s, inv12, leTm, leTV, leSV, leSVs, rn, iv, bv, leD, List.replicate]
  · simp [in12s, inv12, leHp, leBlk, leSVs, leSV, rn, iv, leD, srcOf, hget, ro64, row64]

theorem law12 {lo wi st er by0 : Int} {n : Nat} {cell : Nat → Nat → DV} (hW : WalkOK lo wi st er (byteCell cell) n) (hc : ∀ i, i < n → ∃ b, cell i 0 = .x (.int .u8 b) ∧ 0 ≤ b ∧ b < 256) (hby : -9223372036854775808 ≤ by0 ∧ by0 ≤ 9223372036854775807) :
    Law8 12 [.agg [u8 lo, u8 wi, u8 st, u8 er, .d (.ro n 1 cell)], iv by0] := by
  refine ⟨⟨.nil, ?_⟩⟩
  show (t12 lo wi st er n cell by0).sat Try.prog (· = bv true)
  rw [L12_eq]; unfold L12
  have hlo : sLo lo = 1 + lo % 40 := rfl
  have hhi : sHi lo wi = sLo lo + wi % 8 := rfl
  have g1 := hW.l; have g2 := hW.w; have g3 := hW.s; have g4 := hW.e
  have hlen : n ≤ 9223372036854775807 := hW.len
  have hv := hW.dv
  have hk := kS_le n
  have hr := hW.r
  have a1 : w64 (sLo lo + 100) = sLo lo + 100 := w64_of (by omega) (by omega)
  have a2 : w64 (sHi lo wi + 100) = sHi lo wi + 100 := w64_of (by omega) (by omega)
  have tb := Int.tmod_lt_of_pos by0 (show (0 : Int) < 900000 by omega)
  have tb2 := Int.lt_tmod_of_pos by0 (show (0 : Int) < 900000 by omega)
  have hB := hW.dB (kS n) hk
  -- the drift with 100 more
  have hB100 : dB (sLo lo + 100) (sHi lo wi + 100) (st % 6) (er % 6) (fun i => lS lo wi (st % 6) (er % 6) (byteCell cell) i + 100) (kS n) = true := by
    have hw : pthB (sLo lo + 100) (sHi lo wi + 100) (st % 6) (er % 6) (fun i => lS lo wi (st % 6) (er % 6) (byteCell cell) i + 100) (fun i => fS lo wi (st % 6) (byteCell cell) i + 100) (kS n) = true := by
      have : ∀ k, pthB (sLo lo + 100) (sHi lo wi + 100) (st % 6) (er % 6) (fun i => lS lo wi (st % 6) (er % 6) (byteCell cell) i + 100) (fun i => fS lo wi (st % 6) (byteCell cell) i + 100) k = true := by
        intro k
        induction k with
        | zero =>
          have := hW.pos 0
          simp only [pthB, Bool.and_eq_true, decide_eq_true_eq] at this ⊢
          omega
        | succ k ih =>
          have h1 := hW.pos (k + 1)
          simp only [pthB, Bool.and_eq_true] at h1
          have h2 := stepB_iff.1 h1.2
          simp only [pthB, ih, Bool.true_and]
          rw [stepB_iff]
          omega
      exact this _
    exact (path_in (n := kS n) ⟨by omega, by omega, by omega, by omega⟩ (fun j hj => by have := hW.f j (by omega); show _ + 100 ≤ _; omega) (kS n) (Nat.le_refl _) hw).1
  have fin : ∀ c : Int, 0 ≤ c ∧ c ≤ 900000 → ∀ i, Sat Try.prog (k12 lo wi st er n cell by0 (sLo lo) (sHi lo wi) (st % 6) (er % 6) (kS n) (fS lo wi (st % 6) (byteCell cell)) (lS lo wi (st % 6) (er % 6) (byteCell cell)) c (sLo lo + 100) (sHi lo wi + 100) (sLo lo + 100 + c) (sHi lo wi + 100 + c) (kS n)
      (fun i => lS lo wi (st % 6) (er % 6) (byteCell cell) i + 100) (fun i => lS lo wi (st % 6) (er % 6) (byteCell cell) i + 100 + c) i) (· = bv true) := fun c hcc i =>
    K12_ok (L := fun i => lS lo wi (st % 6) (er % 6) (byteCell cell) i + 100) ⟨⟨by omega, by omega, by omega, by omega⟩, by omega, by omega, by omega, hcc, fun k hk2 => by have := hr k (by omega); show 60 ≤ _ + 100 ∧ _ + 100 ≤ 300; omega⟩ hk hB100 rfl rfl
  refine ⟨fun h => (by cases h), fun _ => ⟨⟨g1, g2, g3, g4, hlen, hc⟩, by decide, fun h => ?_, fun h => ?_⟩⟩
  · have hneg : Int.tmod by0 900000 < 0 := by simpa using h
    have e : w64 (0 - Int.tmod by0 900000) = 0 - Int.tmod by0 900000 := w64_of (by omega) (by omega)
    have hI := I12a lo wi st er n cell by0
    rw [e, a1, a2, w64_of (n := sLo lo + 100 + (0 - Int.tmod by0 900000)) (by omega) (by omega), w64_of (n := sHi lo wi + 100 + (0 - Int.tmod by0 900000)) (by omega) (by omega)] at hI
    rw [show [1, 0, 0, 0] = pa12 from rfl]
    refine loop12 hk (by omega) (fun i hi => hr i (by omega)) (C12a lo wi st er n cell by0) (N12a lo wi st er n cell by0) ((entA_sound hI).trans in12_gc) (fun i => ?_)
    rw [k12a]
    exact fin _ (by omega) i
  · have hneg : ¬ Int.tmod by0 900000 < 0 := by simpa using h
    have hI := I12b lo wi st er n cell by0
    rw [a1, a2, w64_of (n := sLo lo + 100 + (Int.tmod by0 900000)) (by omega) (by omega), w64_of (n := sHi lo wi + 100 + (Int.tmod by0 900000)) (by omega) (by omega)] at hI
    rw [show [1, 0, 0, 1] = pb12 from rfl]
    refine loop12 hk (by omega) (fun i hi => hr i (by omega)) (C12b lo wi st er n cell by0) (N12b lo wi st er n cell by0) ((entA_sound hI).trans in12_gc) (fun i => ?_)
    rw [k12b]
    exact fin _ (by omega) i

theorem f12dS : (Try.prog.funcs[12]?).isSome = true := by kernel_rfl
theorem f12dB : (fnOf Try.prog 12).body.isSome = true := by kernel_rfl
theorem driftShifts_ok : ∃ c : Ctr, CtrOK Try.prog 12 c ∧ ∀ ss, okArgs Try.prog 6 [24, 3] ss → (c ss).ev (bv true) := by
  refine law_ctr8 f12dS f12dB fun ss h => ?_
  obtain ⟨ds, _, rfl, h1, ds2, _, rfl, h2, rfl⟩ := h
  obtain ⟨lo, wi, st, er, n, cell, g1, g2, g3, g4, g5, g6, e⟩ := okRaw44 h1
  obtain ⟨a, k1, e2⟩ := okInt h2
  rw [e, e2]
  refine law12 ⟨g1, g2, g3, g4, g5, fun i hi => ?_⟩ g6 k1
  obtain ⟨b, e2, h2⟩ := g6 i hi
  simpa [byteCell, e2, numOf] using h2

end Go.Proofs.Ytcbjclmjkilphaa

namespace Go.Proofs.Ytcbjclmjkilphaa
open Go.ChangeShapes Go.WideShapes Go.ChangeAt Go.RowKit Go.Sx

theorem own : ownKnob Try.prog.godebug = none := by kernel_rfl
theorem laidOut : laidOutB Try.prog = true := by kernel_rfl

set_option maxRecDepth 100000 in
theorem lifted (os : Os) (started : os.Started) (H : Type) (enc : TypeId × Value → H) :
    ReturnsInHanded {} Try.checked os 12 .any (Rows.driftShiftsSpec.pre6 enc Try.prog Try.f12 Rows.driftShiftsRow.domain false) (Rows.driftShiftsSpec.post enc Try.prog Try.f12 false true false false) := by
  refine returnsInHanded_of_change (C := Try.checked) own started (by kernel_rfl) Try.func12
    (ChangeSpec.witness6 (enc := enc) (C := Try.checked) false ⟨#[], #[.agg #[.int .u8 0, .int .u8 0, .int .u8 0, .int .u8 0, .slice none 0 0], .int .i64 0], []⟩ 8 (by kernel_rfl) (by kernel_rfl) (by kernel_rfl) (by kernel_rfl)) ?_
  intro W base args ds gs before hval0 hW hcnd _
  have hval : ∀ (j : Nat) t v, Try.f12.params[j]? = some t → args[j]? = some v → Value.okWide Try.prog W .any base t v := hval0
  have hW' := hW
  obtain ⟨p, q, hA0, hV, rfl, hfz, hnd⟩ := hW
  have hA : DataW.TrodAll enc Try.prog W 0 (fun _ => true) true Try.f12.params.toList args.toList ds p := hA0
  rw [Try.params12] at hA hval
  obtain ⟨rfl, rfl⟩ := trodVars_none hV
  obtain ⟨v0, vs0, d0, ds0, p0, q0, hargs, rfl, e0, h0, r0⟩ := trodAll_cons hA
  obtain ⟨v1, vs1, d1, ds1, p1, q1, e1_1, rfl, e2_1, h1, r1⟩ := trodAll_cons r0
  obtain ⟨e3, rfl, e4⟩ := trodAll_nil r1
  obtain ⟨c, hc, hev⟩ := driftShifts_ok
  have hlt := trodAll_lt hA
  obtain ⟨ss, o1, o2, o3⟩ := open_args (F := fun b => ∃ x ∈ p, x.block = b) (n := 6) (r := .any) (base := base) (by kernel_rfl) hA (fun j t v a b => hval j t v (by simpa using a) (by simpa using b)) (fun q hq => ⟨q, hq, rfl⟩)
  refine (law_of hc (F := fun b => ∃ x ∈ p, x.block = b) (fun b ⟨x, hx, e⟩ => e ▸ hlt x hx) (ss := ss) ⟨by simpa using o2, fun i hi => by simpa [List.getD, Array.getD_eq_getD_getElem?] using o3 i hi⟩ (hev ss o1)).mono fun e W' ⟨he, bel⟩ => ?_
  subst he
  have hback := trodAll_below laidOut bel (by kernel_rfl) hA
  exact ⟨_, rfl, _, _, _, [], _, [], hW', trodAll_mk1 (shut_bool Try.underlying4 _), hback, rfl, bel.frame _, fun h => by cases h⟩

theorem over : Rows.driftShiftsRow.holds Try.pinned (OpenSpec.ofChange Rows.driftShiftsSpec) :=
  OpenClaim.holds_of_wide 12 Try.f12 rfl rfl rfl rfl rfl rfl rfl ⟨rfl, rfl, rfl, rfl, rfl⟩ rfl rfl rfl rfl rfl (by kernel_rfl) Try.func12 (by kernel_rfl)
    (of_decide_eq_true (by kernel_rfl)) (by unfold Func.isWrapper; first | (rw [if_pos (by decide +kernel)]; kernel_rfl) | (rw [if_neg (by decide +kernel)]; exact ⟨rfl, rfl⟩))
    (fun os started H enc _ => lifted os started H enc)

theorem driftShifts_holds : Rows.DriftShiftsSaid := over
#print axioms driftShifts_holds
end Go.Proofs.Ytcbjclmjkilphaa

