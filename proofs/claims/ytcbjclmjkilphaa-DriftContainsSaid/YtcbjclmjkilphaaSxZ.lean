/- The arguments of a law, all of them; what its walk hands back. -/
import Derived.Test.YtcbjclmjkilphaaSxY
import Derived.Carry
import Derived.OpenShut
import Derived.WalkKit
import Derived.ProofKit
set_option linter.unusedVariables false
set_option linter.unusedSimpArgs false
namespace Go.Sx
noncomputable section
open Go.ChangeShapes Go.WideShapes Go.ChangeAt Go.RowKit

def svT (P : Program) (t : TypeId) (ds : List DV) : SV :=
  match P.underlying t with
  | some (.struct _) => .agg (ds.map .d)
  | some (.array _ _) => .agg (ds.map .d)
  | _ => .d (ds.headD (.x undef))

def okArgs (P : Program) (n : Nat) : List TypeId → List SV → Prop
  | [], ss => ss = []
  | t :: ts, ss => ∃ ds r, ss = svT P t ds :: r ∧ okT P n t ds ∧ okArgs P n ts r

section
variable {H : Type} {enc : TypeId × Value → H} {P : Program} {w : World} {sp : Nat → Bool} {held : Bool} {F : Nat → Prop}

theorem open_arg {n : Nat} {t : TypeId} {v : Value} {d : DataW H} {p : List MemPlace} {r : Reach} {base : Nat} (hl : layB P n t = true) (h : DataW.Trod enc P w 0 sp held t v d p) (hv : Value.okWide P w r base t v) (hp : ∀ q ∈ p, F q.block) :
    ∃ ds, okT P n t ds ∧ Rep w emp F v (svT P t ds) := by
  obtain ⟨k, hk⟩ := h
  obtain ⟨hlen, ds, ho, hr⟩ := open_trod n k t v.cells.toList d p hl hk hp
  refine ⟨ds, ho, ?_⟩
  have hagg : ∀ cs, v = .agg cs → Rep w emp F v (.agg (ds.map .d)) := by
    rintro cs rfl
    have hsz : cs.size = ds.length := by have := hr.1; simpa [Value.cells] using this
    refine .agg cs _ (by simpa using hsz) fun i hi => ?_
    have hi' : i < ds.length := by simpa using hi
    have := (hr.2 i (by simpa [Value.cells, hsz] using hi')).1
    have e1 : (Value.agg cs).cells.toList.getD i undef = cs.getD i undef := by simp [Value.cells, List.getD, Array.getD_eq_getD_getElem?]
    have e2 : (ds.map SV.d).getD i uv = .d (ds.getD i (.x undef)) := by simp [List.getD, hi']
    rw [e1] at this
    rw [e2]; exact .d this
  have hone : v.cells = #[v] → Rep w emp F v (.d (ds.headD (.x undef))) := by
    intro hc
    rw [hc] at hr
    have := (hr.2 0 (by simp)).1
    have e : ds.headD (.x undef) = ds.getD 0 (.x undef) := by cases ds <;> rfl
    rw [e]; exact .d (by simpa using this)
  unfold svT
  unfold Value.okWide at hv
  split
  · rename_i hu; rw [hu] at hv; obtain ⟨cs, rfl, _⟩ := hv; exact hagg cs rfl
  · rename_i hu; rw [hu] at hv; obtain ⟨cs, rfl, _⟩ := hv; exact hagg cs rfl
  · rename_i h1 h2
    split at hv
    · rename_i hu; exact (h1 _ hu).elim
    · rename_i hu; exact (h2 _ _ hu).elim
    · refine hone ?_
      unfold Cell.okWide Cell.ok at hv
      cases v <;> first | rfl | (exfalso; revert hv; split <;> first | (intro hv; cases hv; done) | simp_all)

theorem open_args {n : Nat} {r : Reach} {base : Nat} : ∀ {ts : List TypeId} {vs : List Value} {ds : List (DataW H)} {p : List MemPlace}, (ts.all fun t => layB P n t) = true → DataW.TrodAll enc P w 0 sp held ts vs ds p → (∀ (j : Nat) t v, ts[j]? = some t → vs[j]? = some v → Value.okWide P w r base t v) → (∀ q ∈ p, F q.block) →
    ∃ ss, okArgs P n ts ss ∧ vs.length = ss.length ∧ ∀ i, i < ss.length → Rep w emp F (vs.getD i undef) (ss.getD i uv)
  | [], vs, ds, p, _, h, _, _ => by
    obtain ⟨rfl, rfl, rfl⟩ := trodAll_nil h
    exact ⟨[], rfl, rfl, fun i hi => by simp at hi⟩
  | t :: ts, vs, ds, p, hl, h, hv, hp => by
    obtain ⟨v, vs', d, ds', p1, q1, rfl, rfl, rfl, h1, h2⟩ := trodAll_cons h
    simp only [List.all_cons, Bool.and_eq_true] at hl
    obtain ⟨ds1, o1, r1⟩ := open_arg (F := F) hl.1 h1 (hv 0 t v rfl rfl) (fun q hq => hp q (List.mem_append.2 (.inl hq)))
    obtain ⟨ss, o2, l2, r2⟩ := open_args (ts := ts) hl.2 h2 (fun j t v a b => hv (j + 1) t v (by simpa using a) (by simpa using b)) (fun q hq => hp q (List.mem_append.2 (.inr hq)))
    refine ⟨svT P t ds1 :: ss, ⟨ds1, ss, rfl, o1, o2⟩, by simp [l2], fun i hi => ?_⟩
    cases i with
    | zero => simpa using r1
    | succ i => simpa using r2 i (by simpa using hi)

theorem trodAll_lt : ∀ {ts : List TypeId} {vs : List Value} {ds : List (DataW H)} {p : List MemPlace}, DataW.TrodAll enc P w 0 sp held ts vs ds p → ∀ x ∈ p, x.block < w.heap.size
  | [], vs, ds, p, h => by obtain ⟨rfl, rfl, rfl⟩ := trodAll_nil h; intro x hx; cases hx
  | t :: ts, vs, ds, p, h => by
    obtain ⟨v, vs', d, ds', p1, q1, rfl, rfl, rfl, h1, h2⟩ := trodAll_cons h
    intro x hx
    rcases List.mem_append.1 hx with hx | hx
    · obtain ⟨m, hm⟩ := h1; exact DataW.trod_lt m _ _ _ hm x hx
    · exact trodAll_lt h2 x hx

theorem trodAll_below {w' : World} (hl : laidOutB P = true) (hb : Below w.heap.size w w') : ∀ {ts : List TypeId} {vs : List Value} {ds : List (DataW H)} {p : List MemPlace}, (ts.all fun t => P.readableRec t && decide (t < P.types.size)) = true → DataW.TrodAll enc P w 0 (fun _ => true) true ts vs ds p →
    DataW.TrodAll enc P w' 0 (fun b => decide (b < w.heap.size)) true ts vs ds p
  | [], vs, ds, p, _, h => by obtain ⟨rfl, rfl, rfl⟩ := trodAll_nil h; exact trodAll_mk0
  | t :: ts, vs, ds, p, hr, h => by
    obtain ⟨v, vs', d, ds', p1, q1, rfl, rfl, rfl, h1, h2⟩ := trodAll_cons h
    simp only [List.all_cons, Bool.and_eq_true, decide_eq_true_eq] at hr
    refine trodAll_cons_mk (Below.trod hl hr.1.1 hr.1.2 h1 hb fun x hx => ?_) (trodAll_below hl hb hr.2 h2)
    obtain ⟨m, hm⟩ := h1; exact DataW.trod_lt m _ _ _ hm x hx
end

end
end Go.Sx
