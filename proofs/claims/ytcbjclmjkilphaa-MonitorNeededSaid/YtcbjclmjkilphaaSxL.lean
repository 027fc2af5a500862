/- The symbolic executor: a step of a region, guarded or not. -/
import Derived.Test.YtcbjclmjkilphaaSxKW
set_option linter.unusedVariables false
set_option linter.unusedSimpArgs false
namespace Go.Sx
noncomputable section

structure Ctx where
  ctr : FuncId → Option Ctr
  inl : FuncId → Bool

def goodF (P : Program) (k : FuncId) : Bool := match P.funcs[k]? with | some fn => fn.name != "runtime.NumGoroutine" && fn.body.isSome | none => false

structure CtxOK (P : Program) (C : Ctx) : Prop where
  ctr : ∀ k c, C.ctr k = some c → CtrOK P k c ∧ goodF P k = true
  inl : ∀ k, C.inl k = true → goodF P k = true

def callee (rho : Operand → Option SV) (c : Call) : Option (FuncId × List SV) :=
  match c.callee with
  | .value f => match rho f, evalAll rho c.args.toList with
    | some (.fn (.func k) fs cs), some as => some (k, fs ++ as ++ cs)
    | _, _ => none
  | _ => none

theorem getD_append_sv (xs ys : List SV) (i : Nat) : (xs ++ ys).getD i uv = if i < xs.length then xs.getD i uv else ys.getD (i - xs.length) uv := by
  simp only [List.getD, List.getElem?_append]; split <;> rfl

theorem getD_append_v (xs ys : Array Value) (i : Nat) : (xs ++ ys).getD i undef = if i < xs.size then xs.getD i undef else ys.getD (i - xs.size) undef := by
  simp only [Array.getD_eq_getD_getElem?, Array.getElem?_append]; split <;> rfl

theorem Reps.append {w : World} {μ : Mu} {F : Nat → Prop} {xs ys : Array Value} {as bs : List SV} (h1 : Reps w μ F xs as) (h2 : Reps w μ F ys bs) : Reps w μ F (xs ++ ys) (as ++ bs) := by
  refine ⟨by simp [h1.1, h2.1], fun i hi => ?_⟩
  rw [getD_append_sv, getD_append_v, h1.1]
  split
  · rename_i h; exact h1.2 i h
  · rename_i h; exact h2.2 _ (by simp at hi; omega)

theorem callee_run {P : Program} {w : World} {μ : Mu} {F : Nat → Prop} {ρ : Operand → Option SV} {σ : Operand → Value} {o : Oper} {c : Call} {k : FuncId} {args : List SV} (hρ : ∀ x s, ρ x = some s → Rep w μ F (σ x) s) (ho : o.op = .call c)
    (hg : goodF P k = true) (he : callee ρ c = some (k, args)) : ∃ vs, (execOp σ o).run P w = .ok (.enter k vs) w ∧ Reps w μ F vs args := by
  unfold callee at he
  split at he
  · rename_i f hcal
    split at he
    · rename_i k' fs cs as hf has
      simp only [Option.some.injEq, Prod.mk.injEq] at he
      obtain ⟨rfl, rfl⟩ := he
      have hfr := hρ f _ hf
      obtain ⟨h1, h2⟩ := evalAll_spec hρ has
      have harg : Reps w μ F (c.args.map σ) as := by
        refine ⟨by simpa using h1, fun i hi => ?_⟩
        have := h2 i hi
        simpa [Array.getD_eq_getD_getElem?, List.getD] using this
      generalize hv : σ f = v at hfr
      cases hfr with
      | fn _ vf vc _ _ e1 e2 e3 e4 =>
        refine ⟨vf ++ c.args.map σ ++ vc, ?_, Reps.append (Reps.append ⟨e1, e3⟩ harg) ⟨e2, e4⟩⟩
        unfold execOp
        rw [ho]
        simp only []
        have hr : (resolve σ c o.type).run P w = .ok { target := .fn (.func k') vc, args := vf ++ c.args.map σ } w := by
          unfold resolve; rw [hcal]; simp only [hv, Deferred.ofValue, Sem.run_pure]
        rw [run_andThen_ok hr]
        unfold goodF at hg
        split at hg
        · rename_i fn hfn
          simp only [Bool.and_eq_true, bne_iff_ne, ne_eq] at hg
          simp only [invoke, callFunc, Sem.run_bind, run_program, Result.andThen, hfn]
          rw [if_neg (by simpa using hg.1)]
          have : fn.body.isNone = false := by cases hb : fn.body <;> simp [hb] at hg ⊢
          simp only [this, Bool.false_eq_true, if_false, Sem.run_pure]
        · cases hg
    · cases he
  · cases he

def opTr (P : Program) (C : Ctx) (id : Nat) (hp : Heap) (ρ : Operand → Option SV) (o : Oper) : Tr (SV × Heap) :=
  match o.op with
  | .call c => match callee ρ c with
    | some (k, args) => match C.ctr k with
      | some ct => still hp (ctrCall hp ct args)
      | none => .fail
    | none => absOpF P id hp ρ o
  | _ => absOpF P id hp ρ o

theorem wp_of_out {P : Program} {w : World} {μ : Mu} {F : Nat → Prop} {hp hp' : Heap} {N : Nat → Prop} {s : SV} {o : Oper} {a : Act} {K : Act → World → Prop} {Q : Exit → Act → World → Prop} {r : Option Nat} (hnd : ∀ c, o.op ≠ .defer c) (h : OpOut P w μ F hp N hp' s ((execOp a.eval o).run P w))
    (hK : ∀ v w', Out w μ F hp N hp' v s w' → K (a.put o.dst v) w') : o.wpIn (FW r) 0 P a w K Q := by
  refine ⟨fun _ _ => trivial, ?_⟩
  rw [semAt_eq hnd]
  obtain ⟨w', ⟨v, h1, h2⟩ | ⟨h1, h2⟩⟩ := h
  · rw [h1]; exact hK v w' h2
  · rw [h1]; exact hK undef w' h2

theorem opTr_nd {P : Program} {C : Ctx} {id : Nat} {hp : Heap} {ρ : Operand → Option SV} {o : Oper} {r : SV × Heap} (he : (opTr P C id hp ρ o).ev r) : ∀ c, o.op ≠ .defer c := by
  intro c hc
  unfold opTr at he
  rw [hc] at he
  unfold absOpF at he
  rw [hc] at he
  unfold absOp at he
  rw [hc] at he
  exact he

theorem opTr_sound {P : Program} {C : Ctx} {w : World} {μ : Mu} {F : Nat → Prop} {hp hp' : Heap} {id : Nat} {ρ : Operand → Option SV} {o : Oper} {a : Act} {s : SV} {K : Act → World → Prop} {Q : Exit → Act → World → Prop} {r : Option Nat} (hC : CtxOK P C) (hl : LH w μ F hp) (hid : μ id = none)
    (hρ : ∀ x s, ρ x = some s → Rep w μ F (a.eval x) s) (he : (opTr P C id hp ρ o).ev (s, hp')) (hK : ∀ v w', Out w μ F hp (NewId id o) hp' v s w' → K (a.put o.dst v) w') : o.wpIn (FW r) 0 P a w K Q := by
  have hnd := opTr_nd he
  unfold opTr at he
  split at he
  · rename_i c hop
    split at he
    · rename_i k args hcal
      split at he
      · rename_i ct hct
        obtain ⟨h1, h2⟩ := hC.ctr k ct hct
        obtain ⟨r0, h3, h4⟩ := Tr.ev_bind he
        simp only [Tr.ev, Prod.mk.injEq] at h4
        obtain ⟨rfl, rfl⟩ := h4
        obtain ⟨vs, h5, h6⟩ := callee_run hρ hop h2 hcal
        refine ⟨fun _ _ => trivial, ?_⟩
        rw [semAt_eq hnd, h5]
        refine ⟨(fun h => by cases h), callsW r _ ((ctrCall_sound (N := NewId id o) hl h1 h6 h3).mono ?_)⟩
        rintro e w' ⟨v, rfl, ho⟩
        exact hK v w' ho
      · exact he.elim
    · exact wp_of_out hnd (absOpF_sound hl hid hρ he) hK
  · exact wp_of_out hnd (absOpF_sound hl hid hρ he) hK

/-! ### Guards -/

inductive GS where
  | free
  | skip
  | tagd (g : Nat) (w : Bool) (b : Option Bool)
  | bad

def gstat (ops : Array Oper) (tm : List TV) (o : Oper) : GS :=
  match o.guard with
  | none => .free
  | some (j, w) => match (ops[j]?).bind (·.dst) with
    | none => .bad
    | some g => match tget tm g with
      | .lit b => if b = w then .free else .skip
      | .ok (.d (.x (.bool b))) => .tagd g w (some b)
      | .tag _ _ (.d (.x (.bool _))) => .tagd g w none
      | _ => .bad

def gcond : Nat → List TV → Nat → Bool → Prop
  | 0, _, _, _ => True
  | n + 1, tm, g, w => match tget tm g with
    | .ok (.d (.x (.bool b))) => b = w
    | .tag g2 w2 (.d (.x (.bool b))) => gcond n tm g2 w2 ∧ b = w
    | _ => True

theorem gcond_sound {w : World} {μ : Mu} {F : Nat → Prop} {tm : List TV} {tmps : Array Value} (h : TmOK w μ F tm tmps) : ∀ (n g : Nat) (b : Bool), tmps.getD g undef = .bool b → gcond n tm g b
  | 0, _, _, _ => trivial
  | n + 1, g, b, hv => by
    unfold gcond
    have := h g
    split
    · rename_i b' ht
      rw [ht] at this
      have := rep_x this
      rw [hv] at this
      simp only [Value.bool.injEq] at this
      exact this.symm
    · rename_i g2 w2 b' ht
      rw [ht] at this
      by_cases hg2 : tmps.getD g2 undef = .bool w2
      · have h3 := rep_x (this.1 hg2)
        rw [hv] at h3
        simp only [Value.bool.injEq] at h3
        exact ⟨gcond_sound h n g2 w2 hg2, h3.symm⟩
      · have := this.2 hg2
        rw [hv] at this
        cases this
    · trivial

theorem wanted_iff {ops : Array Oper} {o : Oper} {tmps : Array Value} {j g : Nat} {b : Bool} (hg : o.guard = some (j, b)) (hd : (ops[j]?).bind (·.dst) = some g) : Region.wanted o (yielded ops tmps) = true ↔ tmps.getD g undef = .bool b := by
  unfold Region.wanted yielded
  rw [hg]
  simp only [hd, Option.bind_some, Array.getD_eq_getD_getElem?]
  cases h : tmps[g]? with
  | none => simp [undef]
  | some v => cases v <;> simp [undef]

/-! ### Choices of bools -/

def tvStrict (gt : Option (Nat × Bool)) : TV → Option SV
  | .cnd _ _ => none
  | tv => tvVal gt tv

def pickArg (tm : List TV) (gt : Option (Nat × Bool)) (tc : Nat) (want : Bool) : Operand → Option SV
  | .tmp t => match tget tm t with
    | .tag g w s => if g = tc ∧ w = want then some s else tvStrict gt (.tag g w s)
    | tv => tvStrict gt tv
  | .const v => some (ofValue v)
  | _ => none

def isB (b : Bool) : Operand → Bool
  | .const (.bool c) => b == c
  | _ => false

def mkPick (a b : Operand) (g p q : Bool) : Bool := if isB true a then g || q else if isB false b then g && p else bif g then p else q

def absPick (tm : List TV) (gt : Option (Nat × Bool)) (c a b : Operand) : Tr SV :=
  match c with
  | .tmp tc => match tvStrict gt (tget tm tc), pickArg tm gt tc true a, pickArg tm gt tc false b with
    | some (.d (.x (.bool g))), some (.d (.x (.bool p))), some (.d (.x (.bool q))) => .ret (.d (.x (.bool (mkPick a b g p q))))
    | _, _, _ => .fail
  | _ => .fail

theorem tvStrict_sound {w : World} {μ : Mu} {F : Nat → Prop} {tmps : Array Value} {v : Value} {tv : TV} {gt : Option (Nat × Bool)} {s : SV} (h : RepT w μ F tmps v tv) (hg : ∀ g b, gt = some (g, b) → tmps.getD g undef = .bool b)
    (he : tvStrict gt tv = some s) : Rep w μ F v s := by
  unfold tvStrict at he
  split at he
  · cases he
  · rename_i h'
    refine tvVal_sound h hg (fun p hp => ?_) he
    cases tv with
    | cnd q s' => exact (h' q s' rfl).elim
    | _ => cases hp

theorem pickArg_sound {w : World} {μ : Mu} {F : Nat → Prop} {tm : List TV} {a : Act} {gt : Option (Nat × Bool)} {tc : Nat} {want : Bool} {x : Operand} {s : SV} (h : TmOK w μ F tm a.tmps) (hg : ∀ g b, gt = some (g, b) → a.tmps.getD g undef = .bool b)
    (hc : a.tmps.getD tc undef = .bool want) (he : pickArg tm gt tc want x = some s) : Rep w μ F (a.eval x) s := by
  unfold pickArg at he
  split at he
  · rename_i t
    have := h t
    simp only [Act.eval]
    split at he
    · rename_i g w0 s0 ht
      rw [ht] at this
      split at he
      · rename_i e
        obtain ⟨rfl, rfl⟩ := e
        cases he
        exact this.1 hc
      · exact tvStrict_sound (tv := .tag g w0 s0) this hg he
    · exact tvStrict_sound this hg he
  · simp only [Option.some.injEq] at he; subst he; exact rep_ofValue w μ F _
  · cases he

theorem absPick_sound {P : Program} {w : World} {μ : Mu} {F : Nat → Prop} {hp : Heap} {N : Nat → Prop} {tm : List TV} {act : Act} {gt : Option (Nat × Bool)} {c a b : Operand} {o : Oper} {s : SV} (hl : LH w μ F hp) (h : TmOK w μ F tm act.tmps) (hg : ∀ g b, gt = some (g, b) → act.tmps.getD g undef = .bool b)
    (ho : o.op = .pick c a b) (he : (absPick tm gt c a b).ev s) : OpOut P w μ F hp N hp s ((execOp act.eval o).run P w) := by
  unfold absPick at he
  split at he
  · rename_i tc
    split at he
    · rename_i g p q h1 h2 h3
      simp only [Tr.ev] at he; subst he
      have hc := rep_x (tvStrict_sound (h tc) hg h1)
      have hc' : act.eval (.tmp tc) = .bool g := hc
      unfold execOp
      rw [ho]
      simp only [hc', asBool, Sem.run_bind, Sem.run_pure, Result.andThen]
      refine ⟨w, .inl ⟨_, rfl, out_same hl ?_⟩⟩
      cases g with
      | true =>
        have := rep_x (pickArg_sound h hg hc h2)
        simp only [if_true]
        rw [this]
        unfold mkPick
        split
        · rename_i hb
          have : p = true := by
            unfold isB at hb
            split at hb
            · rename_i c'
              simp only [pickArg, ofValue, Option.some.injEq, SV.d.injEq, DV.x.injEq, Value.bool.injEq] at h2
              rw [← h2]; simpa using hb.symm
            · cases hb
          subst this
          exact .d (.x _)
        · split
          · exact .d (.x _)
          · exact .d (.x _)
      | false =>
        have := rep_x (pickArg_sound h hg hc h3)
        simp only [Bool.false_eq_true, if_false]
        rw [this]
        unfold mkPick
        split
        · exact .d (.x _)
        · split
          · rename_i hb
            have : q = false := by
              unfold isB at hb
              split at hb
              · rename_i c'
                simp only [pickArg, ofValue, Option.some.injEq, SV.d.injEq, DV.x.injEq, Value.bool.injEq] at h3
                rw [← h3]; simpa using hb.symm
              · cases hb
            subst this
            exact .d (.x _)
          · exact .d (.x _)
    · exact he.elim
  · exact he.elim

end
end Go.Sx
