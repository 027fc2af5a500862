/- The symbolic executor: contracts that are reckoned. -/
import Derived.Test.YtcbjclmjkilphaaSxV
set_option linter.unusedVariables false
set_option linter.unusedSimpArgs false
namespace Go.Sx
noncomputable section

def Tree.toTr {α : Type} : Tree α → Tr α
  | .ret a => .ret a
  | .ite b t e => .ite b t.toTr e.toTr
  | .need p t => .need p t.toTr
  | .fail => .fail
  | .code .. => .fail

theorem Tree.toTr_sat {α : Type} {P : Program} {a : α} : ∀ {t : Tree α}, t.toTr.ev a → t.sat P (· = a)
  | .ret b, h => by simp only [Tree.toTr, Tr.ev] at h; simp only [Tree.sat]; exact h.symm
  | .ite b t e, h => by
    simp only [Tree.toTr, Tr.ev] at h
    simp only [Tree.sat]
    rcases h with ⟨rfl, h⟩ | ⟨rfl, h⟩
    · exact ⟨fun _ => Tree.toTr_sat h, fun h => by cases h⟩
    · exact ⟨fun h => (by cases h), fun _ => Tree.toTr_sat h⟩
  | .need p t, h => ⟨h.1, Tree.toTr_sat h.2⟩
  | .fail, h => h.elim
  | .code .., h => h.elim

/-- What a function returns, reckoned. -/
def autoC (P : Program) (C : Ctx) (n : Nat) (k : FuncId) (h : Hint) : Ctr := fun ss =>
  match P.funcs[k]? with
  | some fn => match fn.body with
    | some b => (fnT P C (fun _ => drawn P C) n fn b ss h).toTr
    | none => .fail
  | none => .fail

theorem autoC_ok {P : Program} {C : Ctx} (hC : CtxOK P C) (hm : P.follows .mixedOrders = true) (n : Nat) (k : FuncId) (h : Hint) : CtrOK P k (autoC P C n k h) := by
  cases hf : P.funcs[k]? with
  | none => intro ss vs w F r hF hr he; simp [autoC, hf, Tr.ev] at he
  | some fn =>
    cases hb : fn.body with
    | none => intro ss vs w F r hF hr he; simp [autoC, hf, hb, Tr.ev] at he
    | some b =>
      refine ctrOK_of hC (drawn_ok hC hm) hf hb fun ss r he => ⟨n, h, ?_⟩
      simp only [autoC, hf, hb] at he
      exact Tree.toTr_sat he

/-- Functions whose contract is given; those that are walked in place; for all others the contract is reckoned, some calls deep. -/
def ctxN (P : Program) (man : FuncId → Option Ctr) (inl : FuncId → Bool) (fuel : Nat) (h : Hint) : Nat → Ctx
  | 0 => ⟨man, fun k => inl k && goodF P k⟩
  | d + 1 => ⟨fun k => match man k with
    | some c => some c
    | none => if inl k then none else if goodF P k then some (autoC P (ctxN P man inl fuel h d) fuel k h) else none, fun k => inl k && goodF P k⟩

theorem ctxN_ok {P : Program} {man : FuncId → Option Ctr} {inl : FuncId → Bool} {fuel : Nat} {h : Hint} (hm : P.follows .mixedOrders = true) (hman : ∀ k c, man k = some c → CtrOK P k c ∧ goodF P k = true) : ∀ d, CtxOK P (ctxN P man inl fuel h d)
  | 0 => ⟨hman, fun k hk => by simp only [ctxN, Bool.and_eq_true] at hk; exact hk.2⟩
  | d + 1 => by
    refine ⟨fun k c hk => ?_, fun k hk => by simp only [ctxN, Bool.and_eq_true] at hk; exact hk.2⟩
    simp only [ctxN] at hk
    split at hk
    · rename_i c' hc'
      simp only [Option.some.injEq] at hk; subst hk
      exact hman k _ hc'
    · split at hk
      · cases hk
      · split at hk
        · rename_i hg
          simp only [Option.some.injEq] at hk; subst hk
          exact ⟨autoC_ok (ctxN_ok hm hman d) hm fuel k h, hg⟩
        · cases hk

end
end Go.Sx
