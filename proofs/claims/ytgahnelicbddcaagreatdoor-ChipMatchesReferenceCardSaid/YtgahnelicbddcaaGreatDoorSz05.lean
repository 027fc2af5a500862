/- Part of a proof of the given statements of this seat (SyGc, SyCt): no conditions beyond those typed here. -/
import Derived.Test.YtgahnelicbddcaaGreatDoorSz03
set_option linter.unusedVariables false
set_option linter.unusedSimpArgs false
set_option linter.unusedSectionVars false

namespace Go.Sx
variable [Globs]
theorem Sat.of_eq {α : Type} {P : Program} {t t' : Tree α} {Q : α → Prop} (h : t = t') (k : Sat P t' Q) : Sat P t Q := h ▸ k
def BlkLe (a b : Blk) : Prop := ∀ w μ F q, BlkAt w μ F q a → BlkAt w μ F q b
theorem BlkLe.refl (a : Blk) : BlkLe a a := fun _ _ _ _ h => h
theorem BlkLe.row {n e : Nat} {c c' : Nat → Nat → DV} (h : ∀ i j, i < n → j < e → c i j = c' i j) : BlkLe (.row n e c) (.row n e c') := by
  intro w μ F q hb
  cases q with
  | nil => exact hb
  | pl b o =>
    obtain ⟨x, t, h1, h2, h3, h4⟩ := hb
    exact ⟨x, t, h1, h2, fun i j hi hj => by rw [← h i j hi hj]; exact h3 i j hi hj, h4⟩
theorem BlkLe.cells {cs : List SV} {n e : Nat} {c : Nat → Nat → DV} (hl : cs.length = n * e) (h : ∀ i j, i < n → j < e → cs.getD (i * e + j) uv = .d (c i j)) : BlkLe (.cells cs) (.row n e c) := by
  intro w μ F q hb
  cases q with
  | nil => exact hb.elim
  | pl b o =>
    obtain ⟨x, t, h1, h2, h3, h4⟩ := hb
    have hidx : ∀ i j, i < n → j < e → i * e + j < cs.length := by
      intro i j hi hj
      have : (i + 1) * e ≤ n * e := Nat.mul_le_mul_right _ hi
      rw [Nat.add_mul] at this; omega
    refine ⟨x, t, h1, by omega, fun i j hi hj => ?_, fun i j hi hj => h4 _ (hidx i j hi hj)⟩
    have := h3 _ (hidx i j hi hj)
    rw [h i j hi hj] at this
    exact rep_d this
def hpLe : Heap → Heap → Prop
  | _, [] => True
  | [], b :: r => b = none ∧ hpLe [] r
  | a :: r, b :: r' => (b = none ∨ ∃ x y, a = some x ∧ b = some y ∧ BlkLe x y) ∧ hpLe r r'
theorem hpLe_get : ∀ {hp hp' : Heap}, hpLe hp hp' → ∀ l y, hget hp' l = some y → ∃ x, hget hp l = some x ∧ BlkLe x y
  | _, [], _, l, y, h => by simp [hget_def] at h
  | [], b :: r, ⟨h1, h2⟩, l, y, h => by
    cases l with
    | zero => subst h1; simp [hget_def] at h
    | succ l => exact hpLe_get h2 l y h
  | a :: r, b :: r', ⟨h1, h2⟩, l, y, h => by
    cases l with
    | zero =>
      rcases h1 with rfl | ⟨x, z, rfl, rfl, h3⟩
      · simp [hget_def] at h
      · simp only [hget_def, List.getD_cons_zero, Option.some.injEq] at h
        subst h
        exact ⟨x, by simp [hget_def], h3⟩
    | succ l => exact hpLe_get h2 l y h
theorem gc_hp {n0 : Nat} {tm tm' : List TV} {hp hp' : Heap} {nx nx' : Nat} {h h' : Hint} (ht : tm = tm') (hn : nx = nx') (hh : hpLe hp hp') : Gc n0 ⟨tm, hp, nx, h⟩ ⟨tm', hp', nx', h'⟩ := by
  subst ht; subst hn
  rintro p μ0 a w h00 ⟨μ, F, hs, hf, h0, htm, hsz, hd⟩
  refine ⟨μ, F, ⟨hs.ext, hs.sub, hs.fin, fun l y hy => ?_, fun l l' y y' b o b' o' hne hy hy' => ?_⟩, hf, h0, htm, hsz, hd⟩
  · obtain ⟨x, hx, hle⟩ := hpLe_get hh l y hy
    obtain ⟨q, k1, k2, k3⟩ := hs.blk l x hx
    exact ⟨q, k1, k2, hle _ _ _ _ k3⟩
  · obtain ⟨x, hx, hle⟩ := hpLe_get hh l y hy
    obtain ⟨x', hx', hle'⟩ := hpLe_get hh l' y' hy'
    exact hs.inj l l' x x' b o b' o' hne hx hx'
end Go.Sx

namespace Go.Sx
noncomputable section
variable [Globs]

theorem fnOf_some {P : Program} {k : FuncId} (hf : (P.funcs[k]?).isSome = true) : P.funcs[k]? = some (fnOf P k) := by
  unfold fnOf
  cases hk : P.funcs[k]? with
  | none => rw [hk] at hf; cases hf
  | some f => rfl
theorem bodyOf_some {P : Program} {k : FuncId} (hb : (fnOf P k).body.isSome = true) : (fnOf P k).body = some (bodyOf P k) := by
  unfold bodyOf
  cases hk : (fnOf P k).body with
  | none => rw [hk] at hb; cases hb
  | some f => rfl
theorem ctrOK_S {P : Program} {C : Ctx} {dr : Dr} (hC : CtxOK P C) (hD : DrOK P C dr) {k : FuncId} {c : Ctr} (hf : (P.funcs[k]?).isSome = true) (hb : (fnOf P k).body.isSome = true)
    (h : ∀ ss r, (c ss).ev r → ∃ n hint, Sat P (fnT P C dr n (fnOf P k) (bodyOf P k) ss hint) (· = r)) : CtrOK P k c :=
  ctrOK_of hC hD (fnOf_some hf) (bodyOf_some hb) fun ss r hr => by
    obtain ⟨n, hint, h1⟩ := h ss r hr
    exact ⟨n, hint, h1.ok⟩
end
end Go.Sx

