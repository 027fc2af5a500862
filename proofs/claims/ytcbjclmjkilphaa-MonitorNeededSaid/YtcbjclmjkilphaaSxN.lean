/- The symbolic executor: code, in the order of the text. -/
import Derived.Test.YtcbjclmjkilphaaSxM
set_option linter.unusedVariables false
set_option linter.unusedSimpArgs false
namespace Go.Sx
noncomputable section

inductive Ex where
  | normal
  | exit (id : Nat)
  | goto (l : Nat)
  | ret

inductive Tree (α : Type) where
  | ret (a : α)
  | ite (b : Bool) (t e : Tree α)
  | need (p : Prop) (t : Tree α)
  | fail
  | code (c : Code) (st : AS) (k : Ex → AS → Tree α)

def Tree.bind {α β : Type} : Tree α → (α → Tree β) → Tree β
  | .ret a, f => f a
  | .ite b t e, f => .ite b (t.bind f) (e.bind f)
  | .need p t, f => .need p (t.bind f)
  | .fail, _ => .fail
  | .code c st k, f => .code c st fun e s => (k e s).bind f

def Tree.ofTr {α : Type} : Tr α → Tree α
  | .ret a => .ret a
  | .ite b t e => .ite b (ofTr t) (ofTr e)
  | .need p t => .need p (ofTr t)
  | .fail => .fail

/-! ### States -/

def Fresh (n : Nat) (μ : Mu) : Prop := ∀ l, n ≤ l → μ l = none

def Sim (p : Par) (μ0 : Mu) (st : AS) (a : Act) (w : World) : Prop :=
  ∃ μ F, HS p μ F st.hp w ∧ Fresh st.next μ ∧ (∀ l q, μ0 l = some q → μ l = some q) ∧ TmOK w μ F st.tm a.tmps ∧ st.tm.length ≤ a.tmps.size ∧ Marks p F w a.defers

def conc (p : Par) (μ0 : Mu) (Q : Ex → AS → Prop) : Exit → Act → World → Prop
  | .normal, a, w => ∃ st, Q .normal st ∧ Sim p μ0 st a w
  | .exit id, a, w => ∃ st, Q (.exit id) st ∧ Sim p μ0 st a w
  | .ret, a, w => ∃ st, Q .ret st ∧ Sim p μ0 st a w
  | _, _, _ => False

/-- Code does this. -/
def Triple (P : Program) (c : Code) (st : AS) (Q : Ex → AS → Prop) : Prop := ∀ p μ0 a w, Sim p μ0 st a w → WP P c (conc p μ0 Q) a w

def Tree.sat {α : Type} (P : Program) : Tree α → (α → Prop) → Prop
  | .ret a, Q => Q a
  | .ite b t e, Q => (b = true → t.sat P Q) ∧ (b = false → e.sat P Q)
  | .need p t, Q => p ∧ t.sat P Q
  | .fail, _ => False
  | .code c st k, Q => ∃ post : Ex → AS → Prop, Triple P c st post ∧ ∀ e s, post e s → (k e s).sat P Q

theorem Tree.sat_mono {α : Type} {P : Program} {Q R : α → Prop} (h : ∀ a, Q a → R a) : ∀ {t : Tree α}, t.sat P Q → t.sat P R
  | .ret a, x => h a x
  | .ite b t e, x => ⟨fun hb => Tree.sat_mono h (x.1 hb), fun hb => Tree.sat_mono h (x.2 hb)⟩
  | .need p t, x => ⟨x.1, Tree.sat_mono h x.2⟩
  | .fail, x => x
  | .code c st k, ⟨post, h1, h2⟩ => ⟨post, h1, fun e s hp => Tree.sat_mono h (h2 e s hp)⟩

theorem Tree.sat_bind {α β : Type} {P : Program} {f : α → Tree β} {Q : β → Prop} : ∀ {t : Tree α}, (t.bind f).sat P Q → t.sat P fun a => (f a).sat P Q
  | .ret a, x => x
  | .ite b t e, x => ⟨fun hb => Tree.sat_bind (x.1 hb), fun hb => Tree.sat_bind (x.2 hb)⟩
  | .need p t, x => ⟨x.1, Tree.sat_bind x.2⟩
  | .fail, x => x
  | .code c st k, ⟨post, h1, h2⟩ => ⟨post, h1, fun e s hp => Tree.sat_bind (h2 e s hp)⟩

theorem Tree.sat_ofTr {α : Type} {P : Program} {Q : α → Prop} : ∀ {t : Tr α}, (Tree.ofTr t).sat P Q → ∃ a, t.ev a ∧ Q a
  | .ret a, x => ⟨a, rfl, x⟩
  | .ite b t e, x => by
    cases b
    · obtain ⟨a, h1, h2⟩ := Tree.sat_ofTr (x.2 rfl); exact ⟨a, .inr ⟨rfl, h1⟩, h2⟩
    · obtain ⟨a, h1, h2⟩ := Tree.sat_ofTr (x.1 rfl); exact ⟨a, .inl ⟨rfl, h1⟩, h2⟩
  | .need p t, x => by obtain ⟨a, h1, h2⟩ := Tree.sat_ofTr x.2; exact ⟨a, ⟨x.1, h1⟩, h2⟩
  | .fail, x => x.elim

theorem hs_seq1 {p : Par} {μ : Mu} {F : Nat → Prop} {hp : Heap} {w : World} (h : HS p μ F hp w) : LH w μ F hp := by
  refine ⟨Ext.refl _ _, fun b hb => hb, fun b hb => ⟨(h.fin b hb).1, .inl hb⟩, fun l blk hg => ?_, h.inj⟩
  obtain ⟨q, h1, h2, h3⟩ := h.blk l blk hg
  refine ⟨q, h1, ?_, h3⟩
  cases q with
  | nil => trivial
  | pl b o => exact ⟨h2.1, .inl ⟨l, blk, o, hg, h1⟩⟩

theorem tk_par {p : Par} {μ : Mu} {F : Nat → Prop} {hp : Heap} {w : World} (h : HS p μ F hp w) {b : Nat} (hb : Tk hp μ b) : p.T b ∨ p.w0.heap.size ≤ b := by
  obtain ⟨l, blk, o, hg, hm⟩ := hb
  obtain ⟨q, h1, h2, h3⟩ := h.blk l blk hg
  rw [hm, Option.some.injEq] at h1; subst h1
  exact h2.2

theorem hs_seq2 {p : Par} {μ μ' : Mu} {F F' : Nat → Prop} {hp hp' : Heap} {w w' : World} (h : HS p μ F hp w) (k : HS ⟨w, Tk hp μ, F⟩ μ' F' hp' w') : HS p μ' F' hp' w' := by
  have hsz := h.ext.size
  have hplc : ∀ b, Tk hp μ b ∨ w.heap.size ≤ b → p.T b ∨ p.w0.heap.size ≤ b := fun b hb => hb.elim (tk_par h) fun hb => .inr (by omega)
  refine ⟨h.ext.trans (k.ext.mono fun b hb => ⟨by have := hb.1; simp only; omega, fun ht => ?_⟩), fun b hb => k.sub b (h.sub b hb), fun b hb => ⟨(k.fin b hb).1, ?_⟩, fun l blk hg => ?_, k.inj⟩
  · rcases tk_par h ht with h1 | h1
    · exact hb.2 h1
    · have := hb.1; omega
  · rcases (k.fin b hb).2 with h1 | h1 | h1
    · exact (h.fin b h1).2
    · exact .inr (tk_par h h1)
    · simp only at h1; exact .inr (.inr (by omega))
  · obtain ⟨q, h1, h2, h3⟩ := k.blk l blk hg
    refine ⟨q, h1, ?_, h3⟩
    cases q with
    | nil => trivial
    | pl b o => exact ⟨h2.1, hplc b h2.2⟩

theorem ext_F {w w' : World} {μ μ' : Mu} {F F' : Nat → Prop} {hp hp' : Heap} (hl : LH w μ F hp) (k : HS ⟨w, Tk hp μ, F⟩ μ' F' hp' w') : Ext F w w' :=
  k.ext.mono fun b hb => ⟨(hl.fin b hb).1, fun ⟨l, blk, o, hg, hm⟩ => (hl.blkAt hg hm).2 hb⟩

def putD (tm : List TV) (d : Option Nat) (tv : TV) : Option (List TV) :=
  match d with
  | none => some tm
  | some d => if d < tm.length ∧ noTag tm d = true then some (tm.set d tv) else none

def putG {β : Type} (tm : List TV) (d : Option Nat) (tv : TV) (k : List TV → β) (f : β) : β :=
  match d with
  | none => k tm
  | some d => bif noTagR tm d then setR tm d tv k f else f

theorem putG_eq {β : Type} {tm : List TV} {d : Option Nat} {tv : TV} {k : List TV → β} {f : β} : putG tm d tv k f = match putD tm d tv with | some t => k t | none => f := by
  unfold putG putD
  cases d with
  | none => rfl
  | some d =>
    simp only [noTagR_eq, setR_eq]
    cases noTag tm d with
    | false => simp
    | true => by_cases h : d < tm.length <;> simp [h]

def putF {β : Type} (tm : List TV) (d : Option Nat) (tv : TV) (q : Bool) (hp0 hp : Heap) (nx : Nat) (h : Hint) (k : AS → Tree β) : Tree β :=
  fTV tv fun tv => putG tm d tv (fun tm' => if q then fNat nx fun nx => k ⟨tm', hp0, nx, h⟩ else fHp hp fun hp => fNat nx fun nx => k ⟨tm', hp, nx, h⟩) .fail

theorem putF_eq {β : Type} {tm : List TV} {d : Option Nat} {tv : TV} {q : Bool} {hp0 hp : Heap} {nx : Nat} {h : Hint} {k : AS → Tree β} (hq : q = true → hp = hp0) : putF tm d tv q hp0 hp nx h k = match putD tm d tv with | some tm' => k ⟨tm', hp, nx, h⟩ | none => .fail := by
  unfold putF
  simp only [fTV_eq, putG_eq, fNat_eq, fHp_eq]
  cases q with
  | true => rw [hq rfl]; rfl
  | false => rfl

theorem RepT_put {w : World} {μ : Mu} {F : Nat → Prop} {tmps : Array Value} {v u : Value} {tv : TV} {d : Nat} (h : RepT w μ F tmps v tv) (hd : ∀ g b s, tv = .tag g b s → g ≠ d) (hlt : d < tmps.size) : RepT w μ F (tmps.setIfInBounds d u) v tv := by
  cases tv with
  | tag g b s =>
    have := hd g b s rfl
    simp only [RepT, getD_set g hlt, this, if_false]
    exact h
  | _ => exact h

/-- One step: the state behind it. -/
theorem sim_put {p : Par} {μ0 μ : Mu} {F : Nat → Prop} {st : AS} {a : Act} {w w' : World} {N : Nat → Prop} {hp' : Heap} {v : Value} {tv : TV} {d : Option Nat} {tm' : List TV} {nx : Nat} {h : Hint} (hs : HS p μ F st.hp w) (hf : Fresh st.next μ) (h0 : ∀ l q, μ0 l = some q → μ l = some q)
    (ht : TmOK w μ F st.tm a.tmps) (hsz : st.tm.length ≤ a.tmps.size) (hd : Marks p F w a.defers) (ho : OutT w μ F st.hp N hp' a.tmps v tv w') (hN : ∀ l, N l → l < nx) (hnx : st.next ≤ nx) (hpd : putD st.tm d tv = some tm') (htag : ∀ g b s, tv = .tag g b s → d ≠ some g) :
    Sim p μ0 ⟨tm', hp', nx, h⟩ (a.put d v) w' := by
  obtain ⟨μ', F', e1, e2, e3, e4⟩ := ho
  have hext := ext_F (hs_seq1 hs) e1
  have hfr : Fresh nx μ' := by
    intro l hl
    have : ¬ N l := fun hn => by have := hN l hn; omega
    rw [e4 l this]; exact hf l (by omega)
  refine ⟨μ', F', hs_seq2 hs e1, hfr, fun l q hq => e3 l q (h0 l q hq), ?_, ?_, by rw [Act.put_defers]; exact hd.step (hs_seq1 hs) e1⟩
  · cases d with
    | none =>
      simp only [putD, Option.some.injEq] at hpd; subst hpd
      exact fun t => (ht t).mono hext e1.sub e3
    | some d =>
      simp only [putD] at hpd
      split at hpd
      · rename_i hk
        simp only [Option.some.injEq] at hpd; subst hpd
        exact tmOK_put ht hext e1.sub e3 (by omega) hk.1 hk.2 (RepT_put e2 (fun g b s e he => htag g b s e (by rw [he])) (by omega))
      · cases hpd
  · cases d with
    | none => simp only [putD, Option.some.injEq] at hpd; subst hpd; exact hsz
    | some d =>
      simp only [putD] at hpd
      split at hpd
      · simp only [Option.some.injEq] at hpd; subst hpd; simp [Act.put]; exact hsz
      · cases hpd

/-! ### Regions in the order of the text -/

abbrev Inl := FuncId → List SV → AS → Tree (SV × AS)

def isInl (C : Ctx) (tm : List TV) (o : Oper) : Option (FuncId × List SV) :=
  match o.op with
  | .call c => match callee (rhoR tm none (opSlots o)) c with
    | some (k, args) => if (C.ctr k).isNone && C.inl k then some (k, args) else none
    | none => none
  | _ => none

def needT {α : Type} (l : List Prop) (t : Tree α) : Tree α := l.foldr (fun p t => .need p t) t

theorem needT_sat {α : Type} {P : Program} {l : List Prop} {t : Tree α} {Q : α → Prop} (h : (needT l t).sat P Q) : (∀ p ∈ l, p) ∧ t.sat P Q := by
  induction l with
  | nil => exact ⟨(fun p hp => by cases hp), h⟩
  | cons q l ih =>
    obtain ⟨h1, h2⟩ := h
    obtain ⟨h3, h4⟩ := ih h2
    exact ⟨fun p hp => (List.mem_cons.1 hp).elim (fun e => e ▸ h1) (h3 p), h4⟩

def branchB {α : Type} (h : Hint) (b : Bool) (kt kf : Hint → Tree α) : Tree α :=
  match h with
  | .t h' => .need (b = true) (kt h')
  | .f h' => .need (b = false) (kf h')
  | .br l r => .ite b (kt l) (kf r)
  | .run => match b with | true => kt .run | false => kf .run
  | h => .ite b (kt h) (kf h)

theorem branchB_sat {α : Type} {P : Program} {h : Hint} {b : Bool} {kt kf : Hint → Tree α} {Q : α → Prop} (hs : (branchB h b kt kf).sat P Q) : ∃ h', (b = true ∧ (kt h').sat P Q) ∨ (b = false ∧ (kf h').sat P Q) := by
  unfold branchB at hs
  split at hs
  · rename_i h'; exact ⟨h', .inl hs⟩
  · rename_i h'; exact ⟨h', .inr hs⟩
  · rename_i l r
    cases b
    · exact ⟨r, .inr ⟨rfl, hs.2 rfl⟩⟩
    · exact ⟨l, .inl ⟨rfl, hs.1 rfl⟩⟩
  · cases b
    · exact ⟨_, .inr ⟨rfl, hs⟩⟩
    · exact ⟨_, .inl ⟨rfl, hs⟩⟩
  · cases b
    · exact ⟨h, .inr ⟨rfl, hs.2 rfl⟩⟩
    · exact ⟨h, .inl ⟨rfl, hs.1 rfl⟩⟩

def nextOf (o : Oper) (n : Nat) : Nat := if quietOp o.op then n else n + 1

def doFree (P : Program) (C : Ctx) (inl : Inl) (o : Oper) (st : AS) (k : AS → Tree AS) : Tree AS :=
  match isInl C st.tm o with
  | some (f, args) => needT (cndsT st.tm (opSlots o)) ((inl f args st).bind fun r => putF st.tm o.dst (.ok r.1) false [] r.2.hp r.2.next r.2.hint k)
  | none => (Tree.ofTr (opAll P C st.next st.tm st.hp none o)).bind fun r => putF st.tm o.dst (.ok r.1) (quietOp o.op) st.hp r.2 (nextOf o st.next) st.hint k

def doSkip (o : Oper) (st : AS) (k : AS → Tree AS) : Tree AS :=
  putF st.tm o.dst (.ok uv) true st.hp st.hp st.next st.hint k

def doSpec (P : Program) (C : Ctx) (ops : Array Oper) (o : Oper) (st : AS) (k : AS → Tree AS) : Tree AS :=
  if quietOp o.op then
    (Tree.ofTr (stepTr P C ops st.next st.tm st.hp o)).bind fun r => putF st.tm o.dst r.1 false st.hp r.2 st.next st.hint k
  else .fail

def runOps (P : Program) (C : Ctx) (inl : Inl) (ops : Array Oper) : List Oper → AS → Tree AS
  | [], st => .ret st
  | o :: rest, st =>
    match gstat ops st.tm o with
    | .free => doFree P C inl o st (runOps P C inl ops rest)
    | .skip => doSkip o st (runOps P C inl ops rest)
    | .tagd g w (some b) =>
      if quietOp o.op && (isInl C st.tm o).isNone then doSpec P C ops o st (runOps P C inl ops rest)
      else branchB st.hint b
        (fun h => if w then doFree P C inl o { st with tm := st.tm.set g (.lit true), hint := h } (runOps P C inl ops rest) else doSkip o { st with tm := st.tm.set g (.lit true), hint := h } (runOps P C inl ops rest))
        (fun h => if w then doSkip o { st with tm := st.tm.set g (.lit false), hint := h } (runOps P C inl ops rest) else doFree P C inl o { st with tm := st.tm.set g (.lit false), hint := h } (runOps P C inl ops rest))
    | .tagd g w none => doSpec P C ops o st (runOps P C inl ops rest)
    | .bad => .fail

/-- A function that is walked in place: its value, and the state behind it. -/
def InlOK (P : Program) (C : Ctx) (inl : Inl) : Prop :=
  ∀ (k : FuncId) (args : List SV) (st : AS) (R : SV × AS → Prop), C.inl k = true → (inl k args st).sat P R → ∀ (μ : Mu) (F : Nat → Prop) (w : World) (vs : Array Value), LH w μ F st.hp → Fresh st.next μ → Reps w μ F vs args →
    Calls P k vs w fun e w' => ∃ v s st' μ' F', e = .returned v ∧ R (s, st') ∧ HS ⟨w, Tk st.hp μ, F⟩ μ' F' st'.hp w' ∧ Rep w' μ' F' v s ∧ (∀ l q, μ l = some q → μ' l = some q) ∧ Fresh st'.next μ'

theorem TmOK.lit {w : World} {μ : Mu} {F : Nat → Prop} {tm : List TV} {tmps : Array Value} {g : Nat} {b : Bool} (h : TmOK w μ F tm tmps) (hg : tget tm g = .ok (.d (.x (.bool b)))) : TmOK w μ F (tm.set g (.lit b)) tmps := by
  have hlt : g < tm.length := by
    rcases Nat.lt_or_ge g tm.length with h1 | h1
    · exact h1
    · simp [tget_def, List.getD, List.getElem?_eq_none h1] at hg
  intro t
  rw [tget_set _ _ _ _ hlt]
  split
  · rename_i e; subst e
    have := h t
    rw [hg] at this
    exact rep_x this
  · exact h t

end
end Go.Sx
