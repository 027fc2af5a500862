/- Part of a proof of the given statements of this seat (SyMy): no conditions beyond those typed here. -/
import Derived.Test.YtgahnelicbddcaaGreatDoorSz07
set_option linter.unusedVariables false
set_option linter.unusedSimpArgs false
set_option linter.unusedSectionVars false

namespace Go.Sx
noncomputable section
variable [Globs]

theorem CallsTo.pre {P : Program} {k : FuncId} {hp hp1 : Heap} {nx nx1 : Nat} {args args1 : List SV} {R : SV → Heap → Nat → Prop} (hg : Gc nx ⟨args.map .ok, hp, nx, .nil⟩ ⟨args1.map .ok, hp1, nx1, .nil⟩) (hlen : args1.length = args.length)
    (h : CallsTo P k hp1 nx1 args1 R) : CallsTo P k hp nx args R := by
  intro μ F w vs hl hgl hf hrs
  have htg : ∀ (as : List SV) (t : Nat), tget (as.map TV.ok) t = if t < as.length then .ok (as.getD t uv) else .unk := by
    intro as t
    rw [tget_def, List.getD_eq_getElem?_getD, List.getElem?_map]
    split
    · rename_i ht; rw [List.getElem?_eq_getElem ht]; simp [List.getD, ht]
    · rename_i ht; rw [List.getElem?_eq_none (by omega)]; rfl
  have hsim : Sim ⟨w, Tk hp μ, F⟩ μ ⟨args.map .ok, hp, nx, .nil⟩ { tmps := vs, defers := [] } w := by
    refine ⟨μ, F, hl, hf, fun _ _ h => h, fun t => ?_, by simp [hrs.1], Marks.nil _ _ _ hgl⟩
    rw [htg]
    split
    · rename_i ht; exact hrs.2 t ht
    · trivial
  obtain ⟨μ1, F1, e1, e2, e3, e4, e5, e6⟩ := hg _ μ _ w hf hsim
  have hT : ∀ b, Tk hp1 μ1 b → Tk hp μ b := by
    rintro b ⟨l, y, o, h1, h2⟩
    obtain ⟨q, k1, k2, k3⟩ := e1.blk l y h1
    rw [h2, Option.some.injEq] at k1; subst k1
    rcases k2.2 with h3 | h3
    · exact h3
    · have := k3.lt; simp only at h3; omega
  have hl1 : LH w μ1 F1 hp1 := by
    refine ⟨Ext.refl _ _, fun b h => h, fun b h => ⟨(e1.fin b h).1, .inl h⟩, fun l y hy => ?_, e1.inj⟩
    obtain ⟨q, k1, k2, k3⟩ := e1.blk l y hy
    refine ⟨q, k1, ?_, k3⟩
    cases q with
    | nil => trivial
    | pl b o => exact ⟨k2.1, .inl ⟨l, y, o, hy, k1⟩⟩
  have hrs1 : Reps w μ1 F1 vs args1 := by
    refine ⟨by rw [hrs.1, hlen], fun i hi => ?_⟩
    have := e4 i
    rw [htg, if_pos hi] at this
    exact this
  refine (h μ1 F1 w vs hl1 (hgl.mono (Ext.refl _ _) e1.sub) e2 hrs1).mono ?_
  rintro e w' ⟨v, s, hp', nx', μ', F', rfl, hR, hh', k2, k3, k4⟩
  refine ⟨v, s, hp', nx', μ', F', rfl, hR, ⟨⟨hh'.ext.os, hh'.ext.tape, hh'.ext.output, hh'.ext.size, fun b hb => hh'.ext.keep b ⟨hb.1, fun h => hb.2 (hT b h)⟩, hh'.ext.bsz⟩, fun b hb => hh'.sub b (e1.sub b hb), fun b hb => ?_, fun l y hy => ?_, hh'.inj⟩, k2, fun l q hq => k3 l q (e3 l q hq), k4⟩
  · obtain ⟨j1, j2⟩ := hh'.fin b hb
    refine ⟨j1, ?_⟩
    rcases j2 with j2 | j2 | j2
    · exact (e1.fin b j2).2
    · exact .inr (.inl (hT b j2))
    · exact .inr (.inr j2)
  · obtain ⟨q, j1, j2, j3⟩ := hh'.blk l y hy
    refine ⟨q, j1, ?_, j3⟩
    cases q with
    | nil => trivial
    | pl b o => exact ⟨j2.1, j2.2.imp (hT b) id⟩
end
end Go.Sx

