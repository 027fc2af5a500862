/- Part of a proof of the given statements of this seat (SxMdK): no conditions beyond those typed here. -/
import Derived.Test.YtcbjclmjkilphaaSxMdA
import Derived.Test.YtcbjclmjkilphaaSxZR
import Derived.RangeFuncBox
import Derived.WalkKit
import Derived.OwnWalkIn
import Derived.TacticsInMore
import Derived.LoopNIn
import Derived.LoopIn
set_option linter.unusedVariables false
set_option linter.unusedSimpArgs false
namespace Go.Proofs.Ytcbjclmjkilphaa
open Go.Sx Go.RowKit
set_option maxRecDepth 100000
attribute [local go_sem] Oper.semAt_some

noncomputable def bkEl (N : Nat) (cell : Nat → Nat → DV) (k : Nat) : List SV := [iv ((N : Int) - 1 - k), .agg [.d (cell (N - 1 - k) 0), .d (cell (N - 1 - k) 1)]]

set_option maxHeartbeats 2000000 in
/-- slices.Backward's closure. -/
theorem bk_in (l B O N : Nat) (sv : Value) (hN : N ≤ 2000) (f : Nat → Nat → Value) (W0 : World) (F : Nat → Prop) (J : Nat → World → Prop) (W : World)
    (hJe : ∀ k W, J k W → Ext F W0 W) (hB : F B) (hBs : W0.cell? ⟨B, O, none⟩ = some sv)
    (hsv : (N = 0 ∧ (sv = .slice none 0 0 ∨ ∃ a cap, sv = .slice (some a) 0 cap)) ∨ ∃ b o cap, sv = .slice (some ⟨b, o, none⟩) N cap ∧ N ≠ 0 ∧ F b ∧ ∀ i j, i < N → j < 2 → W0.cell? ⟨b, o + (i * 2 + j), none⟩ = some (f i j))
    (hY : ∀ k W1, k < N → J k W1 → YieldAt Fence.wide 0 Try.prog l #[.int .i64 ((N : Int) - 1 - k), .agg #[f (N - 1 - k) 0, f (N - 1 - k) 1]] W1 fun e W' => e = .returned (.bool true) ∧ J (k + 1) W')
    (h0 : J 0 W) : CallsIn Fence.wide 0 Try.prog 76 #[.func (.yield l) #[] #[], .pointer (some ⟨B, O, none⟩)] W fun e W' => (∃ v, e = .returned v) ∧ J N W' := by
  have hl : ∃ a cap, sv = .slice a N cap := by
    rcases hsv with ⟨rfl, rfl | ⟨a, cap, rfl⟩⟩ | ⟨b, o, cap, rfl, _⟩ <;> exact ⟨_, _, rfl⟩
  have hbox : ∀ k W1, J k W1 → W1.cell? ⟨B, O, none⟩ = some sv := fun k W1 h => ((hJe k W1 h).cell hB).trans hBs
  refine callsIn_of_wp Try.func76 rfl trivial ?_ rfl
  obtain ⟨a, cap, rfl⟩ := hl
  have hb0 := hbox 0 W h0
  simp only [Try.ntmps76, List.size_toArray, List.length_cons, List.length_nil, Nat.reduceAdd, Nat.reduceSub, Array.replicate_succ, Array.replicate_zero, List.push_toArray, List.append_toArray, List.nil_append, List.cons_append]
  gi_wp2
  gi_loopw [3] (fun i wr => ∃ k : Nat, k ≤ N ∧ i = .int .i64 ((N : Int) - 1 - k) ∧ J k wr) (fun i _ => (intOf i + 1).toNat)
  case atStart => 
    refine ⟨0, Nat.zero_le _, ?_, h0⟩
    simp
  case round =>
    obtain ⟨k, hk, rfl, hJs⟩ := hrel
    have hbk := hbox k wr hJs
    by_cases hlt : k < N
    · rcases hsv with ⟨h, _⟩ | ⟨b, o, cap', hsv, hN0, hb, hc⟩
      · omega
      cases hsv
      obtain ⟨fn, tmps, assign, body, hy, hR⟩ := hY k wr hlt hJs
      have hc0 : wr.cell? ⟨b, o + (N - 1 - k) * 2, none⟩ = some (f (N - 1 - k) 0) := ((hJe k wr hJs).cell hb).trans (hc (N - 1 - k) 0 (by omega) (by omega))
      have hc1 : wr.cell? ⟨b, o + (N - 1 - k) * 2 + 1, none⟩ = some (f (N - 1 - k) 1) := ((hJe k wr hJs).cell hb).trans (hc (N - 1 - k) 1 (by omega) (by omega))
      have e1 : (N : Int) - 1 - k = ((N - 1 - k : Nat) : Int) := by omega
      rw [e1] at hy ⊢
      gi_wp2
      refine ⟨rfl, hR.mono ?_⟩
      rintro e W3 ⟨rfl, hJ3⟩
      gi_wp2
      go_roundw
      case rel => exact ⟨k + 1, by omega, by simp <;> omega, hJ3⟩
      case measure => simp [intOf] <;> omega
    · obtain rfl : k = N := by omega
      gi_wp2
      go_end0
      exact ⟨⟨_, rfl⟩, hJs⟩

theorem bk_iter (N : Nat) (cell : Nat → Nat → DV) (hN : N ≤ 2000) (c : Nat → DV) (hc0 : c 0 = .ro N 2 cell) : IterOK Try.prog 76 [.rop 1 c] N (bkEl N cell) := by
  rintro W0 F vs hF ⟨h1, h2⟩
  have hv := h2 0 (by simp)
  obtain ⟨v, rfl⟩ : ∃ v, vs = #[v] := by
    refine ⟨vs.getD 0 undef, ?_⟩
    apply Array.ext
    · simpa using h1
    · intro i hi _
      have : i = 0 := by simp at h1; omega
      subst this
      simp [Array.getD, hi]
  simp only [List.getD_cons_zero] at hv
  have hv : Rep W0 emp F v (.rop 1 c) := by simpa [Array.getD] using hv
  cases hv with
  | rop b o _ _ f hb hcell hone hrep =>
    have hbox := hcell 0 (by omega)
    have hsv := hrep 0 (by omega)
    rw [hc0] at hsv
    have hB := hb (by omega)
    generalize f 0 = sv at hbox hsv
    have key : ∃ g : Nat → Nat → Value, ((N = 0 ∧ (sv = .slice none 0 0 ∨ ∃ a cap, sv = .slice (some a) 0 cap)) ∨ ∃ b o cap, sv = .slice (some ⟨b, o, none⟩) N cap ∧ N ≠ 0 ∧ F b ∧ ∀ i j, i < N → j < 2 → W0.cell? ⟨b, o + (i * 2 + j), none⟩ = some (g i j)) ∧ ∀ i j, i < N → j < 2 → RepD W0 F (g i j) (cell i j) := by
      cases hsv with
      | nil => exact ⟨fun _ _ => undef, .inl ⟨rfl, .inl rfl⟩, fun i j hi => by omega⟩
      | z a cap => exact ⟨fun _ _ => undef, .inl ⟨rfl, .inr ⟨a, cap, rfl⟩⟩, fun i j hi => by omega⟩
      | ro b o _ cap _ _ g hF' hcap hcell hone hrep =>
        by_cases h0 : N = 0
        · subst h0; exact ⟨g, .inl ⟨rfl, .inr ⟨_, cap, rfl⟩⟩, hrep⟩
        · exact ⟨g, .inr ⟨b, o, cap, rfl, h0, hF' h0, hcell⟩, hrep⟩
    obtain ⟨g, k1, k2⟩ := key
    refine ⟨fun k => #[.int .i64 ((N : Int) - 1 - k), .agg #[g (N - 1 - k) 0, g (N - 1 - k) 1]], fun k hk => ⟨rfl, fun i hi => ?_⟩, fun l J W hJe _ hY h0 => ?_⟩
    · match i, hi with
      | 0, _ => exact .d (.x _)
      | 1, _ =>
        refine .agg _ _ rfl fun i hi => ?_
        match i, hi with
        | 0, _ => exact .d (k2 _ _ (by omega) (by omega))
        | 1, _ => exact .d (k2 _ _ (by omega) (by omega))
    · exact bk_in l b o N sv hN g W0 F J W hJe hB hbox k1 hY h0

end Go.Proofs.Ytcbjclmjkilphaa
