/- Part of a proof of the given statements of this seat (SyOk): no conditions beyond those typed here. -/
import Derived.Test.YtmdbfhkineaheaaDoorSz03
set_option linter.unusedVariables false
set_option linter.unusedSimpArgs false
set_option linter.unusedSectionVars false

/- Arguments of a law, told by their types; a law out of its walk; what a tree comes to. -/
namespace Go.Sx
variable [Globs]

def i64d (k : Int) : DV := .x (.int .i64 k)
def IntsOf (c : Nat) (ds : List DV) : Prop := ∃ ks : List Int, ks.length = c ∧ ds = ks.map i64d ∧ ∀ k ∈ ks, (-9223372036854775808 ≤ k ∧ k ≤ 9223372036854775807)
theorem IntsOf.append {a b : Nat} {x y : List DV} (h : IntsOf a x) (k : IntsOf b y) : IntsOf (a + b) (x ++ y) := by
  obtain ⟨p, rfl, rfl, p3⟩ := h
  obtain ⟨q, rfl, rfl, q3⟩ := k
  exact ⟨p ++ q, by simp, by simp, fun k hk => (List.mem_append.1 hk).elim (p3 k) (q3 k)⟩
theorem wf_int {k : IntKind} {i : Int} (h : (Lit.int k i).wf = true) : k.min ≤ i ∧ i ≤ k.max := by simpa [Lit.wf] using h
theorem okT_int {P : Program} {n : Nat} {t : TypeId} {k : IntKind} {ds : List DV} (hu : P.underlying t = some (.int k)) (h : okT P (n + 1) t ds) : ∃ i, (k.min ≤ i ∧ i ≤ k.max) ∧ ds = [.x (.int k i)] := by
  unfold okT at h
  rw [hu] at h
  obtain ⟨i, h1, h2⟩ := h
  exact ⟨i, wf_int h1, h2⟩
theorem okT_bool {P : Program} {n : Nat} {t : TypeId} {ds : List DV} (hu : P.underlying t = some .bool) (h : okT P (n + 1) t ds) : ∃ b, ds = [.x (.bool b)] := by
  unfold okT at h
  rw [hu] at h
  exact h
/-- A law, out of its walk. -/
theorem law_ctr {P : Program} {C : Ctx} {dr : Dr} (hC : CtxOK P C) (hD : DrOK P C dr) {k : Nat} {okA : List SV → Prop} (hf : (P.funcs[k]?).isSome = true) (hb : (fnOf P k).body.isSome = true)
    (h : ∀ ss, okA ss → ∃ n hint, Sat P (fnT P C dr n (fnOf P k) (bodyOf P k) ss hint) (· = bv true)) :
    ∃ c : Ctr, CtrOK P k c ∧ ∀ ss, okA ss → (c ss).ev (bv true) := by
  refine ⟨fun ss => .need (okA ss) (.ret (bv true)), ?_, fun ss hs => ⟨hs, rfl⟩⟩
  refine ctrOK_of hC hD (fn := fnOf P k) (body := bodyOf P k) (by
    unfold fnOf
    cases hk : P.funcs[k]? with
    | none => rw [hk] at hf; cases hf
    | some f => rfl) (by
    unfold bodyOf
    cases hk : (fnOf P k).body with
    | none => rw [hk] at hb; cases hb
    | some f => rfl) fun ss r hr => ?_
  obtain ⟨h1, rfl⟩ := hr
  obtain ⟨n, hint, h2⟩ := h ss h1
  exact ⟨n, hint, h2.ok⟩

theorem sat_need {α : Type} {P : Program} {p : Prop} {t : Tree α} {Q : α → Prop} : (Tree.need p t).sat P Q = (p ∧ t.sat P Q) := rfl
theorem sat_ite {α : Type} {P : Program} {b : Bool} {t e : Tree α} {Q : α → Prop} : (Tree.ite b t e).sat P Q = ((b = true → t.sat P Q) ∧ (b = false → e.sat P Q)) := rfl
theorem sat_ret {α : Type} {P : Program} {a : α} {Q : α → Prop} : (Tree.ret a).sat P Q = Q a := rfl
theorem bv_inj {a b : Bool} : (bv a = bv b) = (a = b) := by
  apply propext; constructor
  · intro h; cases h; rfl
  · rintro rfl; rfl

end Go.Sx

