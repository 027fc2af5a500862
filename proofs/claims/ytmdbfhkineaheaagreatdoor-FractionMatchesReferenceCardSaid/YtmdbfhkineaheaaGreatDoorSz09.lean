/- Part of a proof of the given statements of this seat (SyOk): no conditions beyond those typed here. -/
import Derived.Test.YtmdbfhkineaheaaGreatDoorSz03
set_option linter.unusedVariables false
set_option linter.unusedSimpArgs false
set_option linter.unusedSectionVars false

/- Arguments of a law, told by their types; a law out of its walk; what a tree comes to. -/
namespace Go.Sx
variable [Globs]

def i64d (k : Int) : DV := .x (.int .i64 k)
def cntFs (g : TypeId → Option Nat) : List Field → Option Nat
  | [] => some 0
  | f :: fs => (g f.type).bind fun a => (cntFs g fs).map fun b => a + b
def cntI (P : Program) : Nat → TypeId → Option Nat
  | 0, _ => none
  | n + 1, t => match P.underlying t with
    | some (.int .i64) => some 1
    | some (.struct fs) => cntFs (cntI P n) fs.toList
    | some (.array m e) => (cntI P n e).map fun a => m * a
    | _ => none
def IntsOf (c : Nat) (ds : List DV) : Prop := ∃ ks : List Int, ks.length = c ∧ ds = ks.map i64d ∧ ∀ k ∈ ks, (-9223372036854775808 ≤ k ∧ k ≤ 9223372036854775807)
theorem IntsOf.append {a b : Nat} {x y : List DV} (h : IntsOf a x) (k : IntsOf b y) : IntsOf (a + b) (x ++ y) := by
  obtain ⟨p, rfl, rfl, p3⟩ := h
  obtain ⟨q, rfl, rfl, q3⟩ := k
  exact ⟨p ++ q, by simp, by simp, fun k hk => (List.mem_append.1 hk).elim (p3 k) (q3 k)⟩
theorem wf_i64 {i : Int} (h : (Lit.int .i64 i).wf = true) : -9223372036854775808 ≤ i ∧ i ≤ 9223372036854775807 := by
  simp [Lit.wf, IntKind.min, IntKind.max, IntKind.signed, IntKind.bits] at h; exact ⟨by omega, by omega⟩
theorem okFs_ints {g : TypeId → List DV → Prop} {f : TypeId → Option Nat} (hg : ∀ t c ds, f t = some c → g t ds → IntsOf c ds) : ∀ {fs : List Field} {c : Nat} {ds : List DV}, cntFs f fs = some c → okFs g fs ds → IntsOf c ds
  | [], c, ds, h, k => by simp only [cntFs, Option.some.injEq] at h; subst h; obtain rfl := k; exact ⟨[], rfl, rfl, by simp⟩
  | a :: fs, c, ds, h, k => by
    simp only [cntFs, Option.bind_eq_some_iff, Option.map_eq_some_iff] at h
    obtain ⟨x, h1, y, h2, rfl⟩ := h
    obtain ⟨p, q, rfl, k1, k2⟩ := k
    exact (hg _ _ _ h1 k1).append (okFs_ints hg h2 k2)
theorem okAs_ints {g : List DV → Prop} {c : Nat} (hg : ∀ ds, g ds → IntsOf c ds) : ∀ {m : Nat} {ds : List DV}, okAs g m ds → IntsOf (m * c) ds
  | 0, ds, k => by obtain rfl := k; exact ⟨[], by simp, rfl, by simp⟩
  | m + 1, ds, k => by
    obtain ⟨p, q, rfl, k1, k2⟩ := k
    rw [show (m + 1) * c = c + m * c by rw [Nat.add_mul, Nat.one_mul, Nat.add_comm]]
    exact (hg _ k1).append (okAs_ints hg k2)
theorem okT_ints {P : Program} : ∀ {n : Nat} {t : TypeId} {c : Nat} {ds : List DV}, cntI P n t = some c → okT P n t ds → IntsOf c ds
  | 0, t, c, ds, h, k => by simp [cntI] at h
  | n + 1, t, c, ds, h, k => by
    unfold cntI at h
    unfold okT at k
    split at h
    · rename_i hu
      rw [hu] at k
      simp only [Option.some.injEq] at h; subst h
      obtain ⟨i, hi, rfl⟩ := k
      exact ⟨[i], rfl, rfl, fun k hk => by rw [List.mem_singleton.1 hk]; exact wf_i64 hi⟩
    · rename_i fs hu
      rw [hu] at k
      exact okFs_ints (fun t c ds => okT_ints) h k
    · rename_i m e hu
      rw [hu] at k
      rw [Option.map_eq_some_iff] at h
      obtain ⟨x, h1, rfl⟩ := h
      exact okAs_ints (fun ds => okT_ints h1) k
    · cases h


/-- A law, out of its walk. -/
theorem law_ctr {P : Program} {C : Ctx} {dr : Dr} (hC : CtxOK P C) (hD : DrOK P C dr) {k : Nat} {okA : List SV → Prop} (hf : (P.funcs[k]?).isSome = true) (hb : (fnOf P k).body.isSome = true)
    (h : ∀ ss, okA ss → ∃ n hint, Sat P (fnT P C dr n (fnOf P k) (bodyOf P k) ss hint) (· = bv true)) :
    ∃ c : Ctr, CtrOK P k c ∧ ∀ ss, okA ss → (c ss).ev (bv true) := by
  refine ⟨fun ss => .need (okA ss) (.ret (bv true)), ?_, fun ss hs => ⟨hs, rfl⟩⟩
  refine ctrOK_of hC hD (fn := fnOf P k) (body := bodyOf P k) (by
    unfold fnOf
    cases hk : P.funcs[k]? with
    | none => rw [hk] at hf; cases hf
    | some f => rfl) (by
    unfold bodyOf
    cases hk : (fnOf P k).body with
    | none => rw [hk] at hb; cases hb
    | some f => rfl) fun ss r hr => ?_
  obtain ⟨h1, rfl⟩ := hr
  obtain ⟨n, hint, h2⟩ := h ss h1
  exact ⟨n, hint, h2.ok⟩

theorem sat_need {α : Type} {P : Program} {p : Prop} {t : Tree α} {Q : α → Prop} : (Tree.need p t).sat P Q = (p ∧ t.sat P Q) := rfl
theorem sat_ite {α : Type} {P : Program} {b : Bool} {t e : Tree α} {Q : α → Prop} : (Tree.ite b t e).sat P Q = ((b = true → t.sat P Q) ∧ (b = false → e.sat P Q)) := rfl
theorem sat_ret {α : Type} {P : Program} {a : α} {Q : α → Prop} : (Tree.ret a).sat P Q = Q a := rfl
theorem bv_inj {a b : Bool} : (bv a = bv b) = (a = b) := by
  apply propext; constructor
  · intro h; cases h; rfl
  · rintro rfl; rfl

end Go.Sx

