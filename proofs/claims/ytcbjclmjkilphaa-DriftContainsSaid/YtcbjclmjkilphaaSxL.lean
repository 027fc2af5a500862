/- The symbolic executor: a step of a region, guarded or not. -/
import Derived.Test.YtcbjclmjkilphaaSxKW
import Derived.Laws.Externs
set_option linter.unusedVariables false
set_option linter.unusedSimpArgs false
namespace Go.Sx
noncomputable section

structure Ctx where
  ctr : FuncId → Option Ctr
  inl : FuncId → Bool

def goodF (P : Program) (k : FuncId) : Bool := match P.funcs[k]? with | some fn => fn.name != "runtime.NumGoroutine" && fn.body.isSome | none => false

structure CtxOK (P : Program) (C : Ctx) : Prop where
  ctr : ∀ k c, C.ctr k = some c → CtrOK P k c ∧ goodF P k = true
  inl : ∀ k, C.inl k = true → goodF P k = true

def callee (rho : Operand → Option SV) (c : Call) : Option (FuncId × List SV) :=
  match c.callee with
  | .value f => match rho f, evalAll rho c.args.toList with
    | some (.fn (.func k) fs cs), some as => some (k, fs ++ as ++ cs)
    | _, _ => none
  | _ => none

theorem getD_append_sv (xs ys : List SV) (i : Nat) : (xs ++ ys).getD i uv = if i < xs.length then xs.getD i uv else ys.getD (i - xs.length) uv := by
  simp only [List.getD, List.getElem?_append]; split <;> rfl

theorem getD_append_v (xs ys : Array Value) (i : Nat) : (xs ++ ys).getD i undef = if i < xs.size then xs.getD i undef else ys.getD (i - xs.size) undef := by
  simp only [Array.getD_eq_getD_getElem?, Array.getElem?_append]; split <;> rfl

theorem Reps.append {w : World} {μ : Mu} {F : Nat → Prop} {xs ys : Array Value} {as bs : List SV} (h1 : Reps w μ F xs as) (h2 : Reps w μ F ys bs) : Reps w μ F (xs ++ ys) (as ++ bs) := by
  refine ⟨by simp [h1.1, h2.1], fun i hi => ?_⟩
  rw [getD_append_sv, getD_append_v, h1.1]
  split
  · rename_i h; exact h1.2 i h
  · rename_i h; exact h2.2 _ (by simp at hi; omega)

theorem callee_run {P : Program} {w : World} {μ : Mu} {F : Nat → Prop} {ρ : Operand → Option SV} {σ : Operand → Value} {o : Oper} {c : Call} {k : FuncId} {args : List SV} (hρ : ∀ x s, ρ x = some s → Rep w μ F (σ x) s) (ho : o.op = .call c)
    (hg : goodF P k = true) (he : callee ρ c = some (k, args)) : ∃ vs, (execOp σ o).run P w = .ok (.enter k vs) w ∧ Reps w μ F vs args := by
  unfold callee at he
  split at he
  · rename_i f hcal
    split at he
    · rename_i k' fs cs as hf has
      simp only [Option.some.injEq, Prod.mk.injEq] at he
      obtain ⟨rfl, rfl⟩ := he
      have hfr := hρ f _ hf
      obtain ⟨h1, h2⟩ := evalAll_spec hρ has
      have harg : Reps w μ F (c.args.map σ) as := by
        refine ⟨by simpa using h1, fun i hi => ?_⟩
        have := h2 i hi
        simpa [Array.getD_eq_getD_getElem?, List.getD] using this
      generalize hv : σ f = v at hfr
      cases hfr with
      | fn _ vf vc _ _ e1 e2 e3 e4 =>
        refine ⟨vf ++ c.args.map σ ++ vc, ?_, Reps.append (Reps.append ⟨e1, e3⟩ harg) ⟨e2, e4⟩⟩
        unfold execOp
        rw [ho]
        simp only []
        have hr : (resolve σ c o.type).run P w = .ok { target := .fn (.func k') vc, args := vf ++ c.args.map σ } w := by
          unfold resolve; rw [hcal]; simp only [hv, Deferred.ofValue, Sem.run_pure]
        rw [run_andThen_ok hr]
        unfold goodF at hg
        split at hg
        · rename_i fn hfn
          simp only [Bool.and_eq_true, bne_iff_ne, ne_eq] at hg
          simp only [invoke, callFunc, Sem.run_bind, run_program, Result.andThen, hfn]
          rw [if_neg (by simpa using hg.1)]
          have : fn.body.isNone = false := by cases hb : fn.body <;> simp [hb] at hg ⊢
          simp only [this, Bool.false_eq_true, if_false, Sem.run_pure]
        · cases hg
    · cases he
  · cases he

/-! ### Functions without a text of their own: sums and differences of 64 bits -/

def u64v (n : Int) : SV := .d (.x (.int .u64 n))

def isExt (P : Program) (k : FuncId) (n : String) : Bool := match P.funcs[k]? with
  | some fn => fn.body.isNone && fn.name == n && fn.origin == ""
  | none => false

def absExt (P : Program) (k : FuncId) (args : List SV) : Tr SV := match args with
  | [.d (.x (.int .u64 x)), .d (.x (.int .u64 y)), .d (.x (.int .u64 c))] =>
    if isExt P k "math/bits.Add64" = true then .nd (0 ≤ x ∧ 0 ≤ y ∧ 0 ≤ c ∧ c ≤ 1) (.ret (.tup [u64v ((x + y + c) % 18446744073709551616), u64v ((x + y + c) / 18446744073709551616)]))
    else if isExt P k "math/bits.Sub64" = true then .nd (0 ≤ x ∧ 0 ≤ y ∧ y < 18446744073709551616 ∧ 0 ≤ c ∧ c ≤ 1) (.ret (.tup [u64v ((x + 18446744073709551616 - y - c) % 18446744073709551616), u64v (if x < y + c then 1 else 0)]))
    else .fail
  | _ => .fail

theorem isExt_spec {P : Program} {k : FuncId} {n : String} (h : isExt P k n = true) : ∃ fn, P.funcs[k]? = some fn ∧ fn.body.isNone = true ∧ fn.name = n ∧ fn.origin = "" := by
  unfold isExt at h
  split at h
  · rename_i fn hf
    simp only [Bool.and_eq_true, beq_iff_eq] at h
    exact ⟨fn, hf, h.1.1, h.1.2, h.2⟩
  · cases h

def sub64Entry : Array Value → Sem Value := fun args => do
  let (x, y, b) ← Extern.MathBitsCarry.three "Sub64" args
  pure (Extern.MathBitsCarry.pair ((x + Extern.MathBitsCarry.m64 - y - b) % Extern.MathBitsCarry.m64) (if x < y + b then 1 else 0))

theorem run_sub64 {P : Program} (x y b : Nat) (hb : b ≤ 1) (w : World) :
    (sub64Entry #[.int .u64 x, .int .u64 y, .int .u64 b]).run P w =
      .ok (.tuple #[.int .u64 (((x + 18446744073709551616 - y - b) % 18446744073709551616 : Nat) : Int), .int .u64 ((if x < y + b then 1 else 0 : Nat) : Int)]) w := by
  have : b = 0 ∨ b = 1 := by omega
  rcases this with rfl | rfl <;> rfl

theorem find_add (fn : Func) (h : fn.name = "math/bits.Add64") : Extern.find fn = some add64Entry := by
  obtain ⟨⟩ := fn; simp only at h; subst h; kernel_rfl
theorem find_sub (fn : Func) (h : fn.name = "math/bits.Sub64") : Extern.find fn = some sub64Entry := by
  obtain ⟨⟩ := fn; simp only at h; subst h; kernel_rfl
theorem findNext_add (fn : Func) (h : fn.name = "math/bits.Add64") (h2 : fn.origin = "") : Extern.findNext fn = none := by
  obtain ⟨⟩ := fn; simp only at h h2; subst h; subst h2; kernel_rfl
theorem findNext_sub (fn : Func) (h : fn.name = "math/bits.Sub64") (h2 : fn.origin = "") : Extern.findNext fn = none := by
  obtain ⟨⟩ := fn; simp only at h h2; subst h; subst h2; kernel_rfl

theorem rep_tup2 {w : World} {μ : Mu} {F : Nat → Prop} (a b : Int) : Rep w μ F (.tuple #[.int .u64 a, .int .u64 b]) (.tup [u64v a, u64v b]) := by
  refine .tup _ _ rfl fun i hi => ?_
  match i, hi with
  | 0, _ => exact .d (.x _)
  | 1, _ => exact .d (.x _)

theorem absExt_sound {P : Program} {w : World} {μ : Mu} {F : Nat → Prop} {k : FuncId} {vs : Array Value} {args : List SV} {r : SV} (hr : Reps w μ F vs args) (he : (absExt P k args).ev r) : ∃ v, (callFunc k vs).run P w = .ok (.value v) w ∧ Rep w μ F v r := by
  unfold absExt at he
  split at he
  · rename_i x y c
    have hvs : vs = #[.int .u64 x, .int .u64 y, .int .u64 c] := by
      have h0 := rep_x (hr.2 0 (by simp))
      have h1 := rep_x (hr.2 1 (by simp))
      have h2 := rep_x (hr.2 2 (by simp))
      have hs : vs.size = 3 := hr.1
      apply Array.ext
      · simpa using hs
      · intro i hi _
        have hi3 : i < 3 := by omega
        match i, hi3 with
        | 0, _ => simpa [Array.getD, hs] using h0
        | 1, _ => simpa [Array.getD, hs] using h1
        | 2, _ => simpa [Array.getD, hs] using h2
    subst hvs
    split at he
    · rename_i hx
      obtain ⟨fn, e1, e2, e3, e4⟩ := isExt_spec hx
      obtain ⟨⟨g1, g2, g3, g4⟩, rfl⟩ := he
      refine ⟨_, ?_, rep_tup2 _ _⟩
      rw [run_callFunc_extern e1 (by rw [e3]; kernel_rfl) e2 (findNext_add fn e3 e4) (find_add fn e3), run_add64 x y c g1 g2 g3 g4]
      rfl
    split at he
    · rename_i hx
      obtain ⟨fn, e1, e2, e3, e4⟩ := isExt_spec hx
      obtain ⟨⟨g1, g2, g3, g4, g5⟩, rfl⟩ := he
      refine ⟨_, ?_, rep_tup2 _ _⟩
      obtain ⟨X, rfl⟩ := Int.eq_ofNat_of_zero_le g1
      obtain ⟨Y, rfl⟩ := Int.eq_ofNat_of_zero_le g2
      obtain ⟨B, rfl⟩ := Int.eq_ofNat_of_zero_le g4
      rw [run_callFunc_extern e1 (by rw [e3]; kernel_rfl) e2 (findNext_sub fn e3 e4) (find_sub fn e3), run_sub64 X Y B (by omega)]
      simp only [Result.andThen]
      have a1 : (((X + 18446744073709551616 - Y - B) % 18446744073709551616 : Nat) : Int) = ((X : Int) + 18446744073709551616 - Y - B) % 18446744073709551616 := by omega
      have a2 : ((if X < Y + B then 1 else 0 : Nat) : Int) = if (X : Int) < Y + B then 1 else 0 := by split <;> split <;> omega
      rw [a1, a2]
    · exact he.elim
  · exact he.elim

theorem callee_ext {P : Program} {w : World} {μ : Mu} {F : Nat → Prop} {ρ : Operand → Option SV} {σ : Operand → Value} {o : Oper} {c : Call} {k : FuncId} {args : List SV} {r : SV} (hρ : ∀ x s, ρ x = some s → Rep w μ F (σ x) s) (ho : o.op = .call c)
    (he : callee ρ c = some (k, args)) (hx : (absExt P k args).ev r) : ∃ v, (execOp σ o).run P w = .ok (.value v) w ∧ Rep w μ F v r := by
  unfold callee at he
  split at he
  · rename_i f hcal
    split at he
    · rename_i k' fs cs as hf has
      simp only [Option.some.injEq, Prod.mk.injEq] at he
      obtain ⟨rfl, rfl⟩ := he
      have hfr := hρ f _ hf
      obtain ⟨h1, h2⟩ := evalAll_spec hρ has
      have harg : Reps w μ F (c.args.map σ) as := by
        refine ⟨by simpa using h1, fun i hi => ?_⟩
        have := h2 i hi
        simpa [Array.getD_eq_getD_getElem?, List.getD] using this
      generalize hv : σ f = v at hfr
      cases hfr with
      | fn _ vf vc _ _ e1 e2 e3 e4 =>
        obtain ⟨u, hu1, hu2⟩ := absExt_sound (Reps.append (Reps.append ⟨e1, e3⟩ harg) ⟨e2, e4⟩) hx
        refine ⟨u, ?_, hu2⟩
        unfold execOp
        rw [ho]
        simp only []
        have hr : (resolve σ c o.type).run P w = .ok { target := .fn (.func k') vc, args := vf ++ c.args.map σ } w := by
          unfold resolve; rw [hcal]; simp only [hv, Deferred.ofValue, Sem.run_pure]
        rw [run_andThen_ok hr]
        simp only [invoke]
        exact hu1
    · cases he
  · cases he

def opTr (P : Program) (C : Ctx) (id : Nat) (hp : Heap) (ρ : Operand → Option SV) (o : Oper) : Tr (SV × Heap) :=
  match o.op with
  | .call c => match callee ρ c with
    | some (k, args) => match C.ctr k with
      | some ct => still hp (ctrCall hp ct args)
      | none => still hp (absExt P k args)
    | none => absOpF P id hp ρ o
  | _ => absOpF P id hp ρ o

theorem wp_of_out {P : Program} {w : World} {μ : Mu} {F : Nat → Prop} {hp hp' : Heap} {N : Nat → Prop} {s : SV} {o : Oper} {a : Act} {K : Act → World → Prop} {Q : Exit → Act → World → Prop} {r : Option Nat} (hnd : ∀ c, o.op ≠ .defer c) (h : OpOut P w μ F hp N hp' s ((execOp a.eval o).run P w))
    (hK : ∀ v w', Out w μ F hp N hp' v s w' → K (a.put o.dst v) w') : o.wpIn (FW r) 0 P a w K Q := by
  refine ⟨fun _ _ => trivial, ?_⟩
  rw [semAt_eq hnd]
  obtain ⟨w', ⟨v, h1, h2⟩ | ⟨h1, h2⟩⟩ := h
  · rw [h1]; exact hK v w' h2
  · rw [h1]; exact hK undef w' h2

theorem opTr_nd {P : Program} {C : Ctx} {id : Nat} {hp : Heap} {ρ : Operand → Option SV} {o : Oper} {r : SV × Heap} (he : (opTr P C id hp ρ o).ev r) : ∀ c, o.op ≠ .defer c := by
  intro c hc
  unfold opTr at he
  rw [hc] at he
  unfold absOpF at he
  rw [hc] at he
  unfold absOp at he
  rw [hc] at he
  exact he

theorem opTr_sound {P : Program} {C : Ctx} {w : World} {μ : Mu} {F : Nat → Prop} {hp hp' : Heap} {id : Nat} {ρ : Operand → Option SV} {o : Oper} {a : Act} {s : SV} {K : Act → World → Prop} {Q : Exit → Act → World → Prop} {r : Option Nat} (hC : CtxOK P C) (hl : LH w μ F hp) (hid : μ id = none)
    (hρ : ∀ x s, ρ x = some s → Rep w μ F (a.eval x) s) (he : (opTr P C id hp ρ o).ev (s, hp')) (hK : ∀ v w', Out w μ F hp (NewId id o) hp' v s w' → K (a.put o.dst v) w') : o.wpIn (FW r) 0 P a w K Q := by
  have hnd := opTr_nd he
  unfold opTr at he
  split at he
  · rename_i c hop
    split at he
    · rename_i k args hcal
      split at he
      · rename_i ct hct
        obtain ⟨h1, h2⟩ := hC.ctr k ct hct
        obtain ⟨r0, h3, h4⟩ := Tr.ev_bind he
        simp only [Tr.ev, Prod.mk.injEq] at h4
        obtain ⟨rfl, rfl⟩ := h4
        obtain ⟨vs, h5, h6⟩ := callee_run hρ hop h2 hcal
        refine ⟨fun _ _ => trivial, ?_⟩
        rw [semAt_eq hnd, h5]
        refine ⟨(fun h => by cases h), callsW r _ ((ctrCall_sound (N := NewId id o) hl h1 h6 h3).mono ?_)⟩
        rintro e w' ⟨v, rfl, ho⟩
        exact hK v w' ho
      · obtain ⟨r0, h3, h4⟩ := Tr.ev_bind he
        simp only [Tr.ev, Prod.mk.injEq] at h4
        obtain ⟨rfl, rfl⟩ := h4
        obtain ⟨v, h5, h6⟩ := callee_ext hρ hop hcal h3
        exact wp_of_out hnd ⟨w, .inl ⟨v, h5, out_same hl h6⟩⟩ hK
    · exact wp_of_out hnd (absOpF_sound hl hid hρ he) hK
  · exact wp_of_out hnd (absOpF_sound hl hid hρ he) hK

/-! ### Guards -/

inductive GS where
  | free
  | skip
  | tagd (g : Nat) (w : Bool) (b : Option Bool)
  | bad

def gstat (ops : Array Oper) (tm : List TV) (o : Oper) : GS :=
  match o.guard with
  | none => .free
  | some (j, w) => match (ops[j]?).bind (·.dst) with
    | none => .bad
    | some g => match tget tm g with
      | .lit b => if b = w then .free else .skip
      | .ok (.d (.x (.bool b))) => .tagd g w (some b)
      | .tag _ _ (.d (.x (.bool _))) => .tagd g w none
      | .ok (.d (.x (.tuple _))) => .skip
      | _ => .bad

def gcond : Nat → List TV → Nat → Bool → Prop
  | 0, _, _, _ => True
  | n + 1, tm, g, w => match tget tm g with
    | .ok (.d (.x (.bool b))) => b = w
    | .tag g2 w2 (.d (.x (.bool b))) => gcond n tm g2 w2 ∧ b = w
    | _ => True

theorem gcond_sound {w : World} {μ : Mu} {F : Nat → Prop} {tm : List TV} {tmps : Array Value} (h : TmOK w μ F tm tmps) : ∀ (n g : Nat) (b : Bool), tmps.getD g undef = .bool b → gcond n tm g b
  | 0, _, _, _ => trivial
  | n + 1, g, b, hv => by
    unfold gcond
    have := h g
    split
    · rename_i b' ht
      rw [ht] at this
      have := rep_x this
      rw [hv] at this
      simp only [Value.bool.injEq] at this
      exact this.symm
    · rename_i g2 w2 b' ht
      rw [ht] at this
      by_cases hg2 : tmps.getD g2 undef = .bool w2
      · have h3 := rep_x (this.1 hg2)
        rw [hv] at h3
        simp only [Value.bool.injEq] at h3
        exact ⟨gcond_sound h n g2 w2 hg2, h3.symm⟩
      · have := this.2 hg2
        rw [hv] at this
        cases this
    · trivial

theorem wanted_iff {ops : Array Oper} {o : Oper} {tmps : Array Value} {j g : Nat} {b : Bool} (hg : o.guard = some (j, b)) (hd : (ops[j]?).bind (·.dst) = some g) : Region.wanted o (yielded ops tmps) = true ↔ tmps.getD g undef = .bool b := by
  unfold Region.wanted yielded
  rw [hg]
  simp only [hd, Option.bind_some, Array.getD_eq_getD_getElem?]
  cases h : tmps[g]? with
  | none => simp [undef]
  | some v => cases v <;> simp [undef]

/-! ### Choices of bools -/

def tvStrict (gt : Option (Nat × Bool)) : TV → Option SV
  | .cnd _ _ => none
  | tv => tvVal gt tv

def pickArg (tm : List TV) (gt : Option (Nat × Bool)) (tc : Nat) (want : Bool) : Operand → Option SV
  | .tmp t => match tget tm t with
    | .tag g w s => if g = tc ∧ w = want then some s else tvStrict gt (.tag g w s)
    | tv => tvStrict gt tv
  | .const v => some (ofValue v)
  | _ => none

def isB (b : Bool) : Operand → Bool
  | .const (.bool c) => b == c
  | _ => false

def mkPick (a b : Operand) (g p q : Bool) : Bool := if isB true a then g || q else if isB false b then g && p else bif g then p else q

def absPick (tm : List TV) (gt : Option (Nat × Bool)) (c a b : Operand) : Tr SV :=
  match c with
  | .tmp tc => match tget tm tc with
   | .lit true => Tr.ofOpt (pickArg tm gt tc true a)
   | .lit false => Tr.ofOpt (pickArg tm gt tc false b)
   | _ => match tvStrict gt (tget tm tc), pickArg tm gt tc true a, pickArg tm gt tc false b with
    | some (.d (.x (.bool g))), some (.d (.x (.bool p))), some (.d (.x (.bool q))) => .ret (.d (.x (.bool (mkPick a b g p q))))
    | _, _, _ => .fail
  | _ => .fail

theorem tvStrict_sound {w : World} {μ : Mu} {F : Nat → Prop} {tmps : Array Value} {v : Value} {tv : TV} {gt : Option (Nat × Bool)} {s : SV} (h : RepT w μ F tmps v tv) (hg : ∀ g b, gt = some (g, b) → tmps.getD g undef = .bool b)
    (he : tvStrict gt tv = some s) : Rep w μ F v s := by
  unfold tvStrict at he
  split at he
  · cases he
  · rename_i h'
    refine tvVal_sound h hg (fun p hp => ?_) he
    cases tv with
    | cnd q s' => exact (h' q s' rfl).elim
    | _ => cases hp

theorem pickArg_sound {w : World} {μ : Mu} {F : Nat → Prop} {tm : List TV} {a : Act} {gt : Option (Nat × Bool)} {tc : Nat} {want : Bool} {x : Operand} {s : SV} (h : TmOK w μ F tm a.tmps) (hg : ∀ g b, gt = some (g, b) → a.tmps.getD g undef = .bool b)
    (hc : a.tmps.getD tc undef = .bool want) (he : pickArg tm gt tc want x = some s) : Rep w μ F (a.eval x) s := by
  unfold pickArg at he
  split at he
  · rename_i t
    have := h t
    simp only [Act.eval]
    split at he
    · rename_i g w0 s0 ht
      rw [ht] at this
      split at he
      · rename_i e
        obtain ⟨rfl, rfl⟩ := e
        cases he
        exact this.1 hc
      · exact tvStrict_sound (tv := .tag g w0 s0) this hg he
    · exact tvStrict_sound this hg he
  · simp only [Option.some.injEq] at he; subst he; exact rep_ofValue w μ F _
  · cases he

theorem absPick_sound {P : Program} {w : World} {μ : Mu} {F : Nat → Prop} {hp : Heap} {N : Nat → Prop} {tm : List TV} {act : Act} {gt : Option (Nat × Bool)} {c a b : Operand} {o : Oper} {s : SV} (hl : LH w μ F hp) (h : TmOK w μ F tm act.tmps) (hg : ∀ g b, gt = some (g, b) → act.tmps.getD g undef = .bool b)
    (ho : o.op = .pick c a b) (he : (absPick tm gt c a b).ev s) : OpOut P w μ F hp N hp s ((execOp act.eval o).run P w) := by
  unfold absPick at he
  split at he
  · rename_i tc
    split at he
    · rename_i hl1
      have hc : act.tmps.getD tc undef = .bool true := by have := h tc; rw [hl1] at this; exact this
      have hc' : act.eval (.tmp tc) = .bool true := hc
      have hr := pickArg_sound h hg hc (Tr.ev_ofOpt he)
      unfold execOp
      rw [ho]
      simp only [hc', asBool, Sem.run_bind, Sem.run_pure, Result.andThen]
      exact ⟨w, .inl ⟨_, rfl, out_same hl hr⟩⟩
    · rename_i hl1
      have hc : act.tmps.getD tc undef = .bool false := by have := h tc; rw [hl1] at this; exact this
      have hc' : act.eval (.tmp tc) = .bool false := hc
      have hr := pickArg_sound h hg hc (Tr.ev_ofOpt he)
      unfold execOp
      rw [ho]
      simp only [hc', asBool, Sem.run_bind, Sem.run_pure, Result.andThen]
      exact ⟨w, .inl ⟨_, rfl, out_same hl hr⟩⟩
    split at he
    · rename_i g p q h1 h2 h3
      simp only [Tr.ev] at he; subst he
      have hc := rep_x (tvStrict_sound (h tc) hg h1)
      have hc' : act.eval (.tmp tc) = .bool g := hc
      unfold execOp
      rw [ho]
      simp only [hc', asBool, Sem.run_bind, Sem.run_pure, Result.andThen]
      refine ⟨w, .inl ⟨_, rfl, out_same hl ?_⟩⟩
      cases g with
      | true =>
        have := rep_x (pickArg_sound h hg hc h2)
        simp only [if_true]
        rw [this]
        unfold mkPick
        split
        · rename_i hb
          have : p = true := by
            unfold isB at hb
            split at hb
            · rename_i c'
              simp only [pickArg, ofValue, Option.some.injEq, SV.d.injEq, DV.x.injEq, Value.bool.injEq] at h2
              rw [← h2]; simpa using hb.symm
            · cases hb
          subst this
          exact .d (.x _)
        · split
          · exact .d (.x _)
          · exact .d (.x _)
      | false =>
        have := rep_x (pickArg_sound h hg hc h3)
        simp only [Bool.false_eq_true, if_false]
        rw [this]
        unfold mkPick
        split
        · exact .d (.x _)
        · split
          · rename_i hb
            have : q = false := by
              unfold isB at hb
              split at hb
              · rename_i c'
                simp only [pickArg, ofValue, Option.some.injEq, SV.d.injEq, DV.x.injEq, Value.bool.injEq] at h3
                rw [← h3]; simpa using hb.symm
              · cases hb
            subst this
            exact .d (.x _)
          · exact .d (.x _)
    · exact he.elim
  · exact he.elim

end
end Go.Sx
