/- The symbolic executor: a whole region in the order of the text; code. -/
import Derived.Test.YtcbjclmjkilphaaSxL
set_option linter.unusedVariables false
set_option linter.unusedSimpArgs false
namespace Go.Sx
noncomputable section

theorem still_hp {hp hp' : Heap} {t : Tr SV} {s : SV} (h : (still hp t).ev (s, hp')) : hp' = hp := by
  obtain ⟨r, _, h2⟩ := Tr.ev_bind h
  simp only [Tr.ev, Prod.mk.injEq] at h2
  exact h2.2

theorem absOp_quiet {P : Program} {id : Nat} {hp hp' : Heap} {ρ : Operand → Option SV} {o : Oper} {s : SV} (hq : quietOp o.op = true) (he : (absOp P id hp ρ o).ev (s, hp')) : hp' = hp := by
  unfold absOp at he
  split at he
  all_goals first | (rename_i hop; rw [hop] at hq; first | (cases hq; done) | skip) | exact he.elim
  all_goals repeat' (first
    | exact still_hp he
    | exact he.elim
    | (simp only [Tr.ev, Prod.mk.injEq] at he; exact he.2)
    | (have := he.2; simp only [Tr.ev, Prod.mk.injEq] at this; exact this.2)
    | (simp only [quietOp, *] at hq; cases hq; done)
    | split at he)

theorem absOpF_quiet {P : Program} {id : Nat} {hp hp' : Heap} {ρ : Operand → Option SV} {o : Oper} {s : SV} (hq : quietOp o.op = true) (he : (absOpF P id hp ρ o).ev (s, hp')) : hp' = hp := by
  unfold absOpF at he
  split at he
  · split at he
    · rename_i hop _ _ _ _ h1 h2
      rw [hop] at hq
      simp only [quietOp, h1] at hq
      cases hq
    · exact absOp_quiet hq he
  · rename_i hop
    rw [hop] at hq; cases hq
  · exact absOp_quiet hq he

theorem opTr_quiet {P : Program} {C : Ctx} {id : Nat} {hp hp' : Heap} {ρ : Operand → Option SV} {o : Oper} {s : SV} (hq : quietOp o.op = true) (he : (opTr P C id hp ρ o).ev (s, hp')) : hp' = hp := by
  unfold opTr at he
  split at he
  · split at he
    · split at he
      · exact still_hp he
      · exact still_hp he
    · exact absOpF_quiet hq he
  · exact absOpF_quiet hq he

def opSlots (o : Oper) : List Nat := o.op.operands.toList.filterMap fun | .tmp t => some t | _ => none

def rhoR (tm : List TV) (gt : Option (Nat × Bool)) (ts : List Nat) : Operand → Option SV
  | .tmp t => if ts.contains t then tvVal gt (tget tm t) else none
  | x => rho tm gt x

def cndsT (tm : List TV) : List Nat → List Prop
  | [] => []
  | t :: r => tvCnd (tget tm t) ++ cndsT tm r

theorem cndsT_spec {tm : List TV} : ∀ {ts : List Nat}, (∀ p ∈ cndsT tm ts, p) → ∀ t ∈ ts, ∀ p ∈ tvCnd (tget tm t), p
  | [], _, t, hm => by cases hm
  | u :: r, h, t, hm => by
    rcases List.mem_cons.1 hm with e | hm'
    · subst e; exact fun p hp => h p (List.mem_append.2 (.inl hp))
    · exact cndsT_spec (ts := r) (fun q hq => h q (List.mem_append.2 (.inr hq))) t hm'

theorem rhoR_sound {w : World} {μ : Mu} {F : Nat → Prop} {tm : List TV} {a : Act} {gt : Option (Nat × Bool)} {ts : List Nat} (h : TmOK w μ F tm a.tmps) (hg : ∀ g b, gt = some (g, b) → a.tmps.getD g undef = .bool b) (hc : ∀ p ∈ cndsT tm ts, p) :
    ∀ x s, rhoR tm gt ts x = some s → Rep w μ F (a.eval x) s := by
  intro x s he
  cases x with
  | tmp t =>
    simp only [rhoR] at he
    split at he
    · rename_i hm
      exact tvVal_sound (h t) hg (cndsT_spec hc t (by simpa using hm)) he
    · cases he
  | const v => simp only [rhoR, rho, Option.some.injEq] at he; subst he; exact rep_ofValue w μ F v
  | func f => simp only [rhoR, rho, Option.some.injEq] at he; subst he; exact .fn _ _ _ _ _ rfl rfl (fun i hi => by simp at hi) (fun i hi => by simp at hi)
  | global g => simp [rhoR, rho] at he

def opAll (P : Program) (C : Ctx) (id : Nat) (tm : List TV) (hp : Heap) (gt : Option (Nat × Bool)) (o : Oper) : Tr (SV × Heap) :=
  match o.op with
  | .pick c a b => still hp (absPick tm gt c a b)
  | _ => needAll (cndsT tm (opSlots o)) (opTr P C id hp (rhoR tm gt (opSlots o)) o)

theorem opAll_sound {P : Program} {C : Ctx} {w : World} {μ : Mu} {F : Nat → Prop} {hp hp' : Heap} {id : Nat} {tm : List TV} {gt : Option (Nat × Bool)} {o : Oper} {a : Act} {s : SV} {K : Act → World → Prop} {Q : Exit → Act → World → Prop} {r : Option Nat} (hC : CtxOK P C) (hl : LH w μ F hp) (hid : μ id = none)
    (ht : TmOK w μ F tm a.tmps) (hg : ∀ g b, gt = some (g, b) → a.tmps.getD g undef = .bool b) (he : (opAll P C id tm hp gt o).ev (s, hp')) (hK : ∀ v w', Out w μ F hp (NewId id o) hp' v s w' → K (a.put o.dst v) w') : o.wpIn (FW r) 0 P a w K Q := by
  unfold opAll at he
  split at he
  · rename_i c x y hop
    obtain ⟨r0, h1, h2⟩ := Tr.ev_bind he
    simp only [Tr.ev, Prod.mk.injEq] at h2
    obtain ⟨rfl, rfl⟩ := h2
    exact wp_of_out (fun c h => by rw [hop] at h; cases h) (absPick_sound hl ht hg hop h1) hK
  · obtain ⟨h1, h2⟩ := needAll_ev he
    exact opTr_sound hC hl hid (rhoR_sound ht hg h1) h2 hK

theorem opAll_quiet {P : Program} {C : Ctx} {id : Nat} {tm : List TV} {hp hp' : Heap} {gt : Option (Nat × Bool)} {o : Oper} {s : SV} (hq : quietOp o.op = true) (he : (opAll P C id tm hp gt o).ev (s, hp')) : hp' = hp := by
  unfold opAll at he
  split at he
  · exact still_hp he
  · exact opTr_quiet hq (needAll_ev he).2

/-- What is reckoned under a guard that is not decided. -/
def specT (tm : List TV) (g : Nat) (w : Bool) (hp : Heap) : Tr (SV × Heap) → Tr (TV × Heap)
  | .ret (s, _) => .ret (.tag g w s, hp)
  | .need p t => .need (gcond 8 tm g w → p) (specT tm g w hp t)
  | .dneed p _ t => .need (gcond 8 tm g w → p) (specT tm g w hp t)
  | _ => .fail

theorem specT_ev {tm : List TV} {g : Nat} {w : Bool} {hp hp' : Heap} {tv : TV} : ∀ {t : Tr (SV × Heap)}, (specT tm g w hp t).ev (tv, hp') → hp' = hp ∧ ∃ s, tv = .tag g w s ∧ (gcond 8 tm g w → ∃ h, t.ev (s, h))
  | .ret (s, h0), h => by
    simp only [specT, Tr.ev, Prod.mk.injEq] at h
    exact ⟨h.2, s, h.1, fun _ => ⟨h0, rfl⟩⟩
  | .need p t, h => by
    obtain ⟨h1, h2⟩ := h
    obtain ⟨h3, s, h4, h5⟩ := specT_ev h2
    refine ⟨h3, s, h4, fun hg => ?_⟩
    obtain ⟨h0, h6⟩ := h5 hg
    exact ⟨h0, h1 hg, h6⟩
  | .dneed p _ t, h => by
    obtain ⟨h1, h2⟩ := h
    obtain ⟨h3, s, h4, h5⟩ := specT_ev h2
    refine ⟨h3, s, h4, fun hg => ?_⟩
    obtain ⟨h0, h6⟩ := h5 hg
    exact ⟨h0, h1 hg, h6⟩
  | .ite .., h => h.elim
  | .fail, h => h.elim

/-- An operation that is not quiet stands behind this slot. -/
def gNeedN (ops : Array Oper) : Nat → Nat → Bool
  | 0, _ => false
  | n + 1, g => ops.toList.any fun p => (match p.guard with | some (j, _) => (ops[j]?).bind (·.dst) == some g | none => false) && (!quietOp p.op || (match p.dst with | some d => gNeedN ops n d | none => false))
def gNeed (ops : Array Oper) (g : Nat) : Bool := gNeedN ops 8 g

/-- A choice whose test is decided, of what is decided. -/
def litArg (tm : List TV) : Operand → Option Bool
  | .const (.bool c) => some c
  | .tmp t => match tget tm t with
    | .lit c => some c
    | _ => none
  | _ => none
def pickLit (tm : List TV) (o : Oper) : Option Bool := match o.op with
  | .pick (.tmp tc) a b => match tget tm tc with
    | .lit true => litArg tm a
    | .lit false => litArg tm b
    | _ => none
  | _ => none

/-- A test on which memory hangs is decided where it is reckoned. -/
def litOf (rn : Bool) (ops : Array Oper) (d : Option Nat) (s : SV) (hp : Heap) : Tr (TV × Heap) := match d, s with
  | some g, .d (.x (.bool b)) => if (rn || gNeed ops g) = true then .ite b (.ret (.lit true, hp)) (.ret (.lit false, hp)) else .ret (.ok s, hp)
  | _, s => .ret (.ok s, hp)

theorem litOf_ev {rn : Bool} {ops : Array Oper} {d : Option Nat} {s : SV} {hp hp' : Heap} {tv : TV} (h : (litOf rn ops d s hp).ev (tv, hp')) : hp' = hp ∧ (tv = .ok s ∨ ∃ b, tv = .lit b ∧ s = .d (.x (.bool b))) := by
  unfold litOf at h
  split at h
  · rename_i g b
    split at h
    · rcases h with ⟨rfl, h⟩ | ⟨rfl, h⟩
      · simp only [Tr.ev, Prod.mk.injEq] at h; exact ⟨h.2, .inr ⟨true, h.1, rfl⟩⟩
      · simp only [Tr.ev, Prod.mk.injEq] at h; exact ⟨h.2, .inr ⟨false, h.1, rfl⟩⟩
    · simp only [Tr.ev, Prod.mk.injEq] at h; exact ⟨h.2, .inl h.1⟩
  · simp only [Tr.ev, Prod.mk.injEq] at h; exact ⟨h.2, .inl h.1⟩

def stepTr (rn : Bool) (P : Program) (C : Ctx) (ops : Array Oper) (id : Nat) (tm : List TV) (hp : Heap) (o : Oper) : Tr (TV × Heap) :=
  match gstat ops tm o with
  | .free => match pickLit tm o with
    | some b => .ret (.lit b, hp)
    | none => (opAll P C id tm hp none o).bind fun r => litOf rn ops o.dst r.1 r.2
  | .skip => .ret (.ok uv, hp)
  | .tagd g w _ => if quietOp o.op && o.dst != some g then specT tm g w hp (opAll P C id tm hp (some (g, w)) o) else .fail
  | .bad => .fail

def OutT (w : World) (μ : Mu) (F : Nat → Prop) (hp : Heap) (N : Nat → Prop) (hp' : Heap) (tmps : Array Value) (v : Value) (tv : TV) (w' : World) : Prop :=
  ∃ μ' F', HS ⟨w, Tk hp μ, F⟩ μ' F' hp' w' ∧ RepT w' μ' F' tmps v tv ∧ (∀ l q, μ l = some q → μ' l = some q) ∧ (∀ l, ¬ N l → μ' l = μ l)

theorem Act.put_tmps (a : Act) (d : Option Nat) (v : Value) : (a.put d v).tmps = match d with | some d => a.tmps.setIfInBounds d v | none => a.tmps := by
  cases d <;> rfl

theorem Act.put_defers (a : Act) (d : Option Nat) (v : Value) : (a.put d v).defers = a.defers := by cases d <;> rfl

theorem gstat_free {ops : Array Oper} {tm : List TV} {o : Oper} {w : World} {μ : Mu} {F : Nat → Prop} {tmps : Array Value} (h : TmOK w μ F tm tmps) (hg : gstat ops tm o = .free) : Region.wanted o (yielded ops tmps) = true := by
  unfold gstat at hg
  split at hg
  · rename_i h0; simp [Region.wanted, h0]
  · rename_i j b h0
    split at hg
    · cases hg
    · rename_i g hd
      split at hg
      · rename_i c ht
        split at hg
        · rename_i e; subst e
          have := h g
          rw [ht] at this
          exact (wanted_iff h0 hd).2 this
        · cases hg
      · cases hg
      · cases hg
      · cases hg
      · cases hg

theorem gstat_skip {ops : Array Oper} {tm : List TV} {o : Oper} {w : World} {μ : Mu} {F : Nat → Prop} {tmps : Array Value} (h : TmOK w μ F tm tmps) (hg : gstat ops tm o = .skip) : ¬ Region.wanted o (yielded ops tmps) = true := by
  unfold gstat at hg
  split at hg
  · cases hg
  · rename_i j b h0
    split at hg
    · cases hg
    · rename_i g hd
      split at hg
      · rename_i c ht
        split at hg
        · cases hg
        · rename_i e
          have := h g
          rw [ht] at this
          intro hw
          have h2 := (wanted_iff h0 hd).1 hw
          rw [show tmps.getD g undef = .bool c from this] at h2
          simp only [Value.bool.injEq] at h2
          exact e h2
      · cases hg
      · cases hg
      · rename_i vs ht
        have := h g
        rw [ht] at this
        intro hw
        have h2 := (wanted_iff h0 hd).1 hw
        rw [rep_x this] at h2
        cases h2
      · cases hg

theorem gstat_tagd {ops : Array Oper} {tm : List TV} {o : Oper} {g : Nat} {b : Bool} {c : Option Bool} (hg : gstat ops tm o = .tagd g b c) : ∃ j, o.guard = some (j, b) ∧ (ops[j]?).bind (·.dst) = some g ∧ (∀ x, c = some x → tget tm g = .ok (.d (.x (.bool x)))) := by
  unfold gstat at hg
  split at hg
  · cases hg
  · rename_i j b' h0
    split at hg
    · cases hg
    · rename_i g' hd
      split at hg
      · split at hg <;> cases hg
      · rename_i x ht
        cases hg
        exact ⟨j, h0, hd, fun y hy => by cases hy; exact ht⟩
      · cases hg
        exact ⟨j, h0, hd, fun y hy => by cases hy⟩
      · cases hg
      · cases hg

theorem litArg_sound {w : World} {μ : Mu} {F : Nat → Prop} {tm : List TV} {a : Act} {x : Operand} {b : Bool} (ht : TmOK w μ F tm a.tmps) (h : litArg tm x = some b) : a.eval x = .bool b := by
  unfold litArg at h
  split at h
  · simp only [Option.some.injEq] at h; subst h; rfl
  · rename_i t
    split at h
    · rename_i c hc
      simp only [Option.some.injEq] at h; subst h
      have := ht t
      rw [hc] at this
      exact this
    · cases h
  · cases h

theorem pickLit_sound {P : Program} {w : World} {μ : Mu} {F : Nat → Prop} {hp : Heap} {id : Nat} {tm : List TV} {o : Oper} {a : Act} {b : Bool} {K : Act → World → Prop} {Q : Exit → Act → World → Prop} {r : Option Nat} (hl : LH w μ F hp)
    (ht : TmOK w μ F tm a.tmps) (h : pickLit tm o = some b) (hK : ∀ v w', OutT w μ F hp (NewId id o) hp a.tmps v (.lit b) w' → K (a.put o.dst v) w') : o.wpIn (FW r) 0 P a w K Q := by
  unfold pickLit at h
  split at h
  · rename_i tc x y hop
    have key : ∀ c z, a.tmps.getD tc undef = .bool c → (if c then x else y) = z → litArg tm z = some b → o.wpIn (FW r) 0 P a w K Q := by
      intro c z hc hz hla
      have hv := litArg_sound ht hla
      refine wp_of_out (N := NewId id o) (s := .d (.x (.bool b))) (hp := hp) (hp' := hp) (μ := μ) (F := F) (fun c h => by rw [hop] at h; cases h) ?_ fun v w' ho => ?_
      · have hc' : a.eval (.tmp tc) = .bool c := hc
        unfold execOp
        rw [hop]
        simp only [hc', asBool, Sem.run_bind, Sem.run_pure, Result.andThen]
        refine ⟨w, .inl ⟨.bool b, ?_, out_same hl (.d (.x _))⟩⟩
        cases c <;> simp at hz <;> subst hz <;> simp [hv]
      · obtain ⟨μ', F', e1, e2, e3, e4⟩ := ho
        exact hK v w' ⟨μ', F', e1, rep_x e2, e3, e4⟩
    split at h
    · rename_i hc; exact key true x (by have := ht tc; rw [hc] at this; exact this) rfl h
    · rename_i hc; exact key false y (by have := ht tc; rw [hc] at this; exact this) rfl h
    · cases h
  · cases h

theorem stepTr_sound {rn : Bool} {P : Program} {C : Ctx} {w : World} {μ : Mu} {F : Nat → Prop} {hp hp' : Heap} {id : Nat} {ops : Array Oper} {tm : List TV} {o : Oper} {a : Act} {tv : TV} {K : Act → World → Prop} {Q : Exit → Act → World → Prop} {r : Option Nat} (hC : CtxOK P C) (hl : LH w μ F hp) (hid : μ id = none)
    (ht : TmOK w μ F tm a.tmps) (he : (stepTr rn P C ops id tm hp o).ev (tv, hp')) (hK : ∀ v w', OutT w μ F hp (NewId id o) hp' a.tmps v tv w' → K (a.put o.dst v) w') :
    if Region.wanted o (yielded ops a.tmps) then o.wpIn (FW r) 0 P a w K Q else K (a.put o.dst undef) w := by
  unfold stepTr at he
  split at he
  · rename_i hgs
    rw [if_pos (gstat_free ht hgs)]
    split at he
    · rename_i b hpl
      simp only [Tr.ev, Prod.mk.injEq] at he
      obtain ⟨rfl, rfl⟩ := he
      exact pickLit_sound hl ht hpl hK
    obtain ⟨r0, h1, h2⟩ := Tr.ev_bind he
    obtain ⟨rfl, h3⟩ := litOf_ev h2
    refine opAll_sound hC hl hid ht (fun g b e => by cases e) h1 fun v w' ho => hK v w' ?_
    obtain ⟨μ', F', e1, e2, e3, e4⟩ := ho
    refine ⟨μ', F', e1, ?_, e3, e4⟩
    rcases h3 with rfl | ⟨b, rfl, hs⟩
    · exact e2
    · rw [hs] at e2; exact rep_x e2
  · rename_i hgs
    rw [if_neg (gstat_skip ht hgs)]
    simp only [Tr.ev, Prod.mk.injEq] at he
    obtain ⟨rfl, rfl⟩ := he
    exact hK _ _ ⟨μ, F, hl, .d (.x _), fun _ _ h => h, fun _ _ => rfl⟩
  · rename_i g b c hgs
    split at he
    · rename_i hq
      simp only [Bool.and_eq_true, bne_iff_ne, ne_eq] at hq
      obtain ⟨rfl, s, rfl, h1⟩ := specT_ev he
      obtain ⟨j, h0, hd, _⟩ := gstat_tagd hgs
      split
      · rename_i hw
        have hb := (wanted_iff h0 hd).1 hw
        obtain ⟨h2, h3⟩ := h1 (gcond_sound ht _ _ _ hb)
        have := opAll_quiet hq.1 h3; subst this
        refine opAll_sound hC hl hid ht (fun g' b' e => by cases e; exact hb) h3 fun v w' ho => hK v w' ?_
        obtain ⟨μ', F', e1, e2, e3, e4⟩ := ho
        exact ⟨μ', F', e1, ⟨fun _ => e2, fun hne => (hne hb).elim⟩, e3, e4⟩
      · rename_i hw
        have hb : a.tmps.getD g undef ≠ .bool b := fun h => hw ((wanted_iff h0 hd).2 h)
        exact hK _ _ ⟨μ, F, hl, ⟨fun h => (hb h).elim, fun _ => rfl⟩, fun _ _ h => h, fun _ _ => rfl⟩
    · exact he.elim
  · exact he.elim

end
end Go.Sx
