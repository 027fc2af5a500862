/- The symbolic executor: functions, from their code to their contract. -/
import Derived.Test.YtcbjclmjkilphaaSxT
import Derived.Below
set_option linter.unusedVariables false
set_option linter.unusedSimpArgs false
namespace Go.Sx
noncomputable section

abbrev Dr := (FuncId → List SV → AS → Tree (SV × AS)) → Array Oper → AS → Tree AS

def bodyT (P : Program) (C : Ctx) (dr : Dr) (n : Nat) (fn : Func) (body : Code) (st : AS) : Tree (SV × AS) :=
  (exec P C dr n body st).bind fun r => match r.1 with
    | .normal => (Tree.ofTr (absResults P fn.results r.2)).bind fun s => .ret (s, r.2)
    | .ret => (Tree.ofTr (absResults P fn.results r.2)).bind fun s => .ret (s, r.2)
    | _ => .fail

theorem fn_sound {P : Program} {C : Ctx} {dr : Dr} (hC : CtxOK P C) (hD : DrOK P C dr) {k : FuncId} {fn : Func} {body : Code} (hfn : P.funcs[k]? = some fn) (hbody : fn.body = some body) {n : Nat} {args : List SV} {st0 : AS} {R : SV × AS → Prop}
    (hs : (bodyT P C dr n fn body { st0 with tm := startTm fn args }).sat P R) {μ : Mu} {F : Nat → Prop} {w : World} {vs : Array Value} (hl : LH w μ F st0.hp) (hf : Fresh st0.next μ) (hr : Reps w μ F vs args) :
    Calls P k vs w fun e w' => ∃ v s st' μ' F', e = .returned v ∧ R (s, st') ∧ HS ⟨w, Tk st0.hp μ, F⟩ μ' F' st'.hp w' ∧ Rep w' μ' F' v s ∧ (∀ l q, μ l = some q → μ' l = some q) ∧ Fresh st'.next μ' := by
  have hs := Tree.sat_bind hs
  refine callsIn_wide.1 (callsIn_of_wp_marks (F := Fence.wide) (n := 0) hfn hbody trivial ?_ rfl)
  have hsim : Sim ⟨w, Tk st0.hp μ, F⟩ μ { st0 with tm := startTm fn args } { tmps := vs ++ Array.replicate (fn.ntmps - vs.size) undef, defers := [] } w := by
    refine ⟨μ, F, hl, hf, fun _ _ h => h, ?_, ?_, Marks.nil _ _ _⟩
    · intro t
      simp only [startTm, tget_def]
      simp only [List.getD, List.getElem?_append, List.length_map]
      split
      · rename_i hlt
        have hlt' : t < vs.size := by rw [hr.1]; exact hlt
        have := hr.2 t hlt
        simp only [List.getElem?_map, List.getElem?_eq_getElem hlt, Option.map_some, Option.getD_some]
        simp only [RepT]
        simpa [Array.getD_eq_getD_getElem?, Array.getElem?_append, hlt', List.getD, hlt] using this
      · by_cases h2 : t - args.length < fn.ntmps - args.length
        · simp [List.getElem?_replicate, h2, RepT]
        · simp [List.getElem?_replicate, h2, RepT]
    · simp [startTm, hr.1]
  refine Go.wpIn_mono (exec_sound hC hD n body _ _ hs _ _ _ _ hsim).wp ?_
  intro e a' w' hc
  have key : ∀ s' : AS, Tree.sat P ((Tree.ofTr (absResults P fn.results s')).bind fun s => Tree.ret (s, s')) R → Sim ⟨w, Tk st0.hp μ, F⟩ μ s' a' w' → LeavesInM Fence.wide 0 P fn a'.tmps
      (fun e w' => ∃ u s st' μ' F', e = .returned u ∧ R (s, st') ∧ HS ⟨w, Tk st0.hp μ, F⟩ μ' F' st'.hp w' ∧ Rep w' μ' F' u s ∧ (∀ l q, μ l = some q → μ' l = some q) ∧ Fresh st'.next μ') a'.defers .returning w' := by
    intro s' hq ⟨μ', F', e1, e2, e3, e4, e5, e6⟩
    have hq := Tree.sat_bind hq
    obtain ⟨s, h1, h2⟩ := Tree.sat_ofTr hq
    obtain ⟨Ds, d1, d2, d3⟩ := e6
    rw [d1]
    refine leaves_marks (tm := s'.tm) (fun w2 k1 k2 => ?_) Ds w' d2 d3 e1 e4
    obtain ⟨v, h3, h4⟩ := absResults_sound (hs_seq1 k1) k2 h1
    exact ⟨v, h3, v, s, s', μ', F', rfl, h2, k1, h4, e3, e2⟩
  cases e with
  | normal => obtain ⟨s', h1, h2⟩ := hc; exact key s' h1 h2
  | ret => obtain ⟨s', h1, h2⟩ := hc; exact key s' h1 h2
  | exit id => obtain ⟨s', h1, h2⟩ := hc; exact h1.elim
  | goto l => exact hc.elim
  | panic ch => exact hc.elim
  | outgrown => exact hc.elim

/-- A result, with its own rows taken as values that stay. -/
def froz (hp : Heap) : SV → Option (SV × List Prop × List Nat)
  | .tup cs => (views hp cs).map fun (a, p, l) => (.tup a, p, l)
  | s => view hp s

theorem froz_sound {P : Program} {w : World} {μ : Mu} {F : Nat → Prop} {hp : Heap} {v : Value} {s a : SV} {ps : List Prop} {ls : List Nat} (hl : LH w μ F hp) (hs : Rep w μ F v s) (he : froz hp s = some (a, ps, ls)) (hps : ∀ p ∈ ps, p) {G : Nat → Prop} (hFG : ∀ b, F b → G b)
    (hG : ∀ b, Opens hp μ ls b → G b) : Rep w emp G v a := by
  unfold froz at he
  split at he
  · rename_i cs
    rw [Option.map_eq_some_iff] at he
    obtain ⟨⟨as, p, l⟩, h1, h2⟩ := he
    simp only [Prod.mk.injEq] at h2
    obtain ⟨rfl, rfl, rfl⟩ := h2
    obtain ⟨h3, h4⟩ := views_sound (P := P) hl hFG h1 hps hG
    cases hs with
    | tup vs _ hlen hi => exact .tup vs as (by omega) fun i hi' => h4 i _ (by omega) (hi i (by omega))
  · exact view_sound (P := P) hl hs he hps hFG hG

/-- What a function returns, its arguments given by value. -/
def fnT (P : Program) (C : Ctx) (dr : Dr) (n : Nat) (fn : Func) (body : Code) (args : List SV) (h : Hint) : Tree SV :=
  (bodyT P C dr n fn body ⟨startTm fn args, [], 0, h⟩).bind fun r => match froz r.2.hp r.1 with
    | some (a, ps, _) => needT ps (.ret a)
    | none => .fail

theorem emp_mono {w : World} {μ : Mu} {F : Nat → Prop} {v : Value} {s : SV} (h : Rep w emp F v s) : Rep w μ F v s := Rep.mono (Ext.refl _ _) (fun _ h => h) (fun l q h => by simp [emp] at h) h

theorem ctrOK_of {P : Program} {C : Ctx} {dr : Dr} (hC : CtxOK P C) (hD : DrOK P C dr) {k : FuncId} {fn : Func} {body : Code} (hfn : P.funcs[k]? = some fn) (hbody : fn.body = some body) {c : Ctr}
    (h : ∀ ss r, (c ss).ev r → ∃ n hint, (fnT P C dr n fn body ss hint).sat P (· = r)) : CtrOK P k c := by
  intro ss vs w F r hF hr hev
  obtain ⟨n, hint, hs⟩ := h ss r hev
  have hs := Tree.sat_bind hs
  have hl : LH w emp F [] := ⟨Ext.refl _ _, fun b hb => hb, fun b hb => ⟨hF b hb, .inl hb⟩, fun l blk hg => by simp [hget_def] at hg, fun l l' blk blk' b o b' o' _ hg => by simp [hget_def] at hg⟩
  refine (fn_sound (st0 := ⟨[], [], 0, hint⟩) hC hD hfn hbody hs hl (fun l _ => rfl) hr).mono ?_
  rintro e w' ⟨v, s, st', μ', F', rfl, hR, hh, hrep, -, -⟩
  refine ⟨v, rfl, ?_⟩
  simp only at hR
  split at hR
  · rename_i a ps ls hfz
    obtain ⟨hps, hR⟩ := needT_sat hR
    simp only [Tree.sat] at hR; subst hR
    have hl' := hs_seq1 hh
    have hv := froz_sound (P := P) (G := fun b => F' b ∨ Opens st'.hp μ' ls b) hl' hrep hfz hps (fun b hb => .inl hb) (fun b hb => .inr hb)
    refine ⟨emp, _, ⟨hh.ext, fun b hb => .inl (hh.sub b hb), ?_, fun l blk hg => by simp [hget_def] at hg, fun l l' blk blk' b o b' o' _ hg => by simp [hget_def] at hg⟩, hv, fun l q h => by simp [emp] at h, fun l hl => (hl trivial).elim⟩
    rintro b (hb | ⟨l, _, blk, o, hg, hm⟩)
    · exact hh.fin b hb
    · obtain ⟨hat, _⟩ := hl'.blkAt hg hm
      obtain ⟨q, e1, e2, e3⟩ := hh.blk l blk hg
      rw [hm, Option.some.injEq] at e1; subst e1
      exact ⟨hat.lt, .inr e2.2⟩
  · exact hR.elim

/-- What a law's walk has to say. -/
theorem law_of {P : Program} {k : FuncId} {c : Ctr} (hc : CtrOK P k c) {ss : List SV} {vs : Array Value} {w : World} {F : Nat → Prop} (hF : ∀ b, F b → b < w.heap.size) (hr : Reps w emp F vs ss) {u : Value} (h : (c ss).ev (.d (.x u))) :
    Calls P k vs w fun e w' => e = .returned u ∧ RowKit.Below w.heap.size w w' := by
  refine (hc ss vs w F _ hF hr h).mono ?_
  rintro e w' ⟨v, rfl, μ', F', hh, hrep, -, -⟩
  obtain rfl : v = u := rep_x hrep
  refine ⟨rfl, hh.ext.os, hh.ext.tape, hh.ext.output, hh.ext.size, fun b hb => hh.ext.keep b ⟨hb, ?_⟩⟩
  rintro ⟨l, blk, o, hg, _⟩
  simp [hget_def] at hg

end
end Go.Sx
