/- Part of a proof of the given statements of this seat (SxMdEx): no conditions beyond those typed here. -/
import Derived.Test.YtcbjclmjkilphaaSxMdZa
set_option linter.unusedVariables false
set_option linter.unusedSimpArgs false
namespace Go.Proofs.Ytcbjclmjkilphaa
open Go.Sx
set_option maxRecDepth 100000

noncomputable def manX : FuncId → Option Ctr := fun k => if k = 31 then some cPath else if k = 63 then some cSpn else none
theorem manX_ok (k : Nat) (c : Ctr) (h : manX k = some c) : CtrOK Try.prog k c ∧ goodF Try.prog k = true := by
  unfold manX at h
  split at h
  · rename_i e; cases h; subst e; exact ⟨cPath_ok, by kernel_rfl⟩
  split at h
  · rename_i e; cases h; subst e; exact ⟨cSpn_ok, by kernel_rfl⟩
  · cases h
noncomputable def CX4 : Ctx := ctxN Try.prog manX inl3 200 .run 12
theorem CX4_ok : CtxOK Try.prog CX4 := ctxN_ok mixed manX_ok 12

noncomputable def XE  : Tr SV :=
  Tr.need (1 ≤ 1)
  (Tr.need (1 ≤ 1)
    (Tr.need (1 ≤ 1)
      (Tr.need (1 ≤ 1)
        (Tr.need
          (dV (990 : Int) (1010 : Int) (5 : Int) (10 : Int) ∧
            1 ≤ 1000 ∧
              ∀ (i : Nat),
                i < (1 : Nat) →
                  ∃ b,
                    (fun i j => dsAt ((fun x => DV.x (.int .i64 (1020 : Int)) :: x) []) ((0 : Nat) + ((0 : Nat) + i) * (fun x => TypeInfo.size x) (Tables.types (Program.toTables Try.prog))[(3 : Nat)] + j)) i (0 : Nat) =
                      DV.x (.int .i64 b))
          (Tr.need (2 ≤ 2)
            (Tr.need (2 ≤ 2)
              (Tr.need (2 ≤ 2)
                (Tr.need (2 ≤ 2)
                  (Tr.need
                    (dV (990 : Int) (1010 : Int) (5 : Int) (10 : Int) ∧
                      2 ≤ 1000 ∧
                        ∀ (i : Nat),
                          i < (2 : Nat) →
                            ∃ b,
                              (fun i j =>
                                    dsAt ((fun x => DV.x (.int .i64 (1020 : Int)) :: x) ((fun x => DV.x (.int .i64 (1030 : Int)) :: x) []))
                                      ((0 : Nat) + ((0 : Nat) + i) * (fun x => TypeInfo.size x) (Tables.types (Program.toTables Try.prog))[(3 : Nat)] + j))
                                  i (0 : Nat) =
                                DV.x (.int .i64 b))
                    (Tr.need (True ∧ 2 ≤ 2 ∧ 16 ≤ 140737488355328)
                      (Tr.need (1 ≤ 1 ∧ 2 ≤ 2 ∧ 32 ≤ 140737488355328)
                        (Tr.need (2 ≤ 2)
                          (Tr.need (True ∧ 2 ≤ 2 ∧ 16 ≤ 140737488355328)
                            (Tr.need (1 ≤ 1 ∧ 2 ≤ 2 ∧ 32 ≤ 140737488355328)
                              (Tr.need (2 ≤ 2 ∧ 2 ≤ 2 ∧ 48 ≤ 140737488355328)
                                (Tr.need (3 ≤ 3)
                                  (Tr.need (4 ≤ 4)
                                    (Tr.need (3 ≤ 3)
                                      (Tr.need (2 ≤ 2)
                                        (Tr.need (True ∧ (0 : Int) ≤ (1 : Int) ∧ 1 ≤ 2)
                                          (Tr.need (2 ≤ 2)
                                            (Tr.need (True ∧ (0 : Int) ≤ (1 : Int) ∧ 1 ≤ 2)
                                              (Tr.need (2 ≤ 2)
                                                (Tr.need (True ∧ (0 : Int) ≤ (1 : Int) ∧ 1 ≤ 2)
                                                  (Tr.need (2 ≤ 2)
                                                    (Tr.need (True ∧ (0 : Int) ≤ (1 : Int) ∧ 1 ≤ 2)
                                                      (Tr.need (2 ≤ 2)
                                                        (Tr.need (True ∧ (0 : Int) ≤ (1 : Int) ∧ 1 ≤ 2)
                                                          (Tr.need (1 ≤ 1)
                                                            (Tr.need (True ∧ 2 ≤ 2 ∧ 16 ≤ 140737488355328)
                                                              (Tr.need (1 ≤ 1)
                                                                (Tr.need (4 ≤ 4)
                                                                  (Tr.need (4 ≤ 4)
                                                                    (Tr.need (2 ≤ 2)
                                                                      (Tr.need (True ∧ (0 : Int) ≤ (1 : Int) ∧ 1 ≤ 2)
                                                                        (Tr.need (2 ≤ 2)
                                                                          (Tr.need (True ∧ (0 : Int) ≤ (1 : Int) ∧ 1 ≤ 2)
                                                                            (Tr.need (2 ≤ 2)
                                                                              (Tr.need (True ∧ (0 : Int) ≤ (1 : Int) ∧ 1 ≤ 2)
                                                                                (Tr.need (2 ≤ 2)
                                                                                  (Tr.need (True ∧ (0 : Int) ≤ (1 : Int) ∧ 1 ≤ 2)
                                                                                    (Tr.need (2 ≤ 2)
                                                                                      (Tr.need (True ∧ (0 : Int) ≤ (1 : Int) ∧ 1 ≤ 2)
                                                                                        (Tr.need (2 ≤ 2)
                                                                                          (Tr.need (True ∧ (0 : Int) ≤ (1 : Int) ∧ 1 ≤ 2)
                                                                                            (Tr.need (2 ≤ 2)
                                                                                              (Tr.need (True ∧ (0 : Int) ≤ (1 : Int) ∧ 1 ≤ 2)
                                                                                                (Tr.need (2 ≤ 2)
                                                                                                  (Tr.need (True ∧ (0 : Int) ≤ (1 : Int) ∧ 1 ≤ 2)
                                                                                                    (Tr.need (2 ≤ 2)
                                                                                                      (Tr.need (True ∧ (0 : Int) ≤ (1 : Int) ∧ 1 ≤ 2)
                                                                                                        (Tr.need (2 ≤ 2)
                                                                                                          (Tr.need (True ∧ (0 : Int) ≤ (1 : Int) ∧ 1 ≤ 2)
                                                                                                            (Tr.need (2 ≤ 2)
                                                                                                              (Tr.need (True ∧ (0 : Int) ≤ (1 : Int) ∧ 1 ≤ 2)
                                                                                                                (Tr.need (2 ≤ 2)
                                                                                                                  (Tr.need (True ∧ (0 : Int) ≤ (1 : Int) ∧ 1 ≤ 2)
                                                                                                                    (Tr.need (2 ≤ 2)
                                                                                                                      (Tr.need (True ∧ (0 : Int) ≤ (1 : Int) ∧ 1 ≤ 2)
                                                                                                                        (Tr.need (2 ≤ 2)
                                                                                                                          (Tr.need (True ∧ (0 : Int) ≤ (1 : Int) ∧ 1 ≤ 2)
                                                                                                                            (Tr.need (2 ≤ 2)
                                                                                                                              (Tr.need (True ∧ (0 : Int) ≤ (1 : Int) ∧ 1 ≤ 2)
                                                                                                                                (Tr.need (2 ≤ 2)
                                                                                                                                  (Tr.need (True ∧ (0 : Int) ≤ (1 : Int) ∧ 1 ≤ 2)
                                                                                                                                    (Tr.need (3 ≤ 3)
                                                                                                                                      (Tr.ret (bv true))))))))))))))))))))))))))))))))))))))))))))))))))))))))))))))))))))

theorem XE_eq  : autoC Try.prog CX4 200 32 .run [] = XE  := by kernel_rfl


theorem sat_step {p : Prop} {t : Tr SV} {r : SV} (h1 : p) (h2 : t.ev r) : (Tr.need p t).ev r := ⟨h1, h2⟩

theorem ex44 : (autoC Try.prog CX4 200 32 .run []).ev (bv true) := by
  rw [XE_eq]; unfold XE
  refine sat_step (by decide) (sat_step (by decide) (sat_step (by decide) (sat_step (by decide) (sat_step ⟨⟨by decide, by decide, by decide, by decide⟩, by decide, fun i hi => ?_⟩ (sat_step (by decide) (sat_step (by decide) (sat_step (by decide) (sat_step (by decide) (sat_step ⟨⟨by decide, by decide, by decide, by decide⟩, by decide, fun i hi => ?_⟩ ?_)))))))))
  · obtain rfl : i = 0 := by omega
    exact ⟨1020, by kernel_rfl⟩
  · have : i = 0 ∨ i = 1 := by omega
    rcases this with rfl | rfl
    · exact ⟨1020, by kernel_rfl⟩
    · exact ⟨1030, by kernel_rfl⟩
  repeat' (first | exact rfl | refine sat_step (by decide) ?_)

noncomputable def cEx44 : Ctr := fun ss => match ss with
  | [] => .ret (bv true)
  | _ => .fail
theorem cEx44_ok : CtrOK Try.prog 32 cEx44 := (autoC_ok CX4_ok mixed 200 32 .run).mono fun ss r h => by
  unfold cEx44 at h
  split at h
  · simp only [Tr.ev] at h; subst h; exact ex44
  · exact h.elim

end Go.Proofs.Ytcbjclmjkilphaa
