/- Part of a proof of the given statements of this seat (SyMz): no conditions beyond those typed here. -/
import Derived.Test.YtgahnelicbddcaaGreatDoorSz09
set_option linter.unusedVariables false
set_option linter.unusedSimpArgs false
set_option linter.unusedSectionVars false

namespace Go.Sx
noncomputable section
variable [Globs]

def noDupN : List Nat → Bool := List.rec (motive := fun _ => Bool) true fun a r ih => match r.any (fun b => Nat.beq a b) with | true => false | false => ih
theorem noDupN_ok : ∀ {ls : List Nat}, noDupN ls = true → ls.Nodup
  | [], _ => List.nodup_nil
  | a :: r, h => by
    have h : (match r.any (fun b => Nat.beq a b) with | true => false | false => noDupN r) = true := h
    split at h
    · cases h
    · rename_i h2
      refine List.nodup_cons.2 ⟨fun hm => ?_, noDupN_ok h⟩
      rw [List.any_eq_false] at h2
      exact h2 a hm (Nat.beq_refl a)
def mcB (sel : List SV → Heap → Option (List Nat)) (small : MCtr) : MCtr := fun args hp nx => match sel args hp with
  | none => .fail
  | some ls => match noDupN ls with
    | false => .fail
    | true => match ls.all fun a => Nat.ble (a + 1) nx with
      | false => .fail
      | true => match smallOK ls hp args with
        | false => .fail
        | true => (small (mapSs (lab ls) args) (smallH ls hp) ls.length).bind fun r => .ret (mapS (unlab ls nx) r.1, mergeH ls nx hp r.2.1, nx + (r.2.2 - ls.length))
theorem mcB_ok {P : Program} {k : FuncId} {sel : List SV → Heap → Option (List Nat)} {small : MCtr} (h : MuOK P k small) : MuOK P k (mcB sel small) := by
  intro args hp nx r hr
  refine mcOf_ok h (sel := sel) args hp nx r ?_
  unfold mcB at hr
  unfold mcOf
  split at hr
  · exact hr.elim
  · rename_i ls hls
    split at hr
    · exact hr.elim
    · rename_i h1
      split at hr
      · exact hr.elim
      · rename_i h2
        split at hr
        · exact hr.elim
        · rename_i h3
          rw [hls]
          refine ⟨⟨noDupN_ok h1, fun a ha => ?_, h3⟩, hr⟩
          rw [List.all_eq_true] at h2
          exact Nat.le_of_ble_eq_true (h2 a ha)
end
end Go.Sx

