/- Part of a proof of the given statements of this seat (SxN, SxO, SxP, SxQ, SxR, SxS, SxT, SxU, SxV, SxW): no conditions beyond those typed here. -/
import Derived.Test.YtcbjclmjkilphaaSy01
import Derived.LoopN
import Derived.Orders
import Derived.Below
set_option linter.unusedVariables false
set_option linter.unusedSimpArgs false

/- The symbolic executor: code, in the order of the text. -/
namespace Go.Sx
noncomputable section

inductive Ex where
  | normal
  | exit (id : Nat)
  | goto (l : Nat)
  | ret

inductive Tree (α : Type) where
  | ret (a : α)
  | ite (b : Bool) (t e : Tree α)
  | need (p : Prop) (t : Tree α)
  | fail
  | code (c : Code) (st : AS) (k : Ex → AS → Tree α)

def Tree.bind {α β : Type} : Tree α → (α → Tree β) → Tree β
  | .ret a, f => f a
  | .ite b t e, f => .ite b (t.bind f) (e.bind f)
  | .need p t, f => .need p (t.bind f)
  | .fail, _ => .fail
  | .code c st k, f => .code c st fun e s => (k e s).bind f

def Tree.ofTr {α : Type} : Tr α → Tree α
  | .ret a => .ret a
  | .ite b t e => .ite b (ofTr t) (ofTr e)
  | .need p t => .need p (ofTr t)
  | .dneed p _ t => .need p (ofTr t)
  | .fail => .fail

/-! ### States -/

def Fresh (n : Nat) (μ : Mu) : Prop := ∀ l, n ≤ l → μ l = none

def Sim (p : Par) (μ0 : Mu) (st : AS) (a : Act) (w : World) : Prop :=
  ∃ μ F, HS p μ F st.hp w ∧ Fresh st.next μ ∧ (∀ l q, μ0 l = some q → μ l = some q) ∧ TmOK w μ F st.tm a.tmps ∧ st.tm.length ≤ a.tmps.size ∧ Marks p F w a.defers

def conc (p : Par) (μ0 : Mu) (Q : Ex → AS → Prop) : Exit → Act → World → Prop
  | .normal, a, w => ∃ st, Q .normal st ∧ Sim p μ0 st a w
  | .exit id, a, w => ∃ st, Q (.exit id) st ∧ Sim p μ0 st a w
  | .ret, a, w => ∃ st, Q .ret st ∧ Sim p μ0 st a w
  | _, _, _ => False

/-- Code does this. -/
def Triple (P : Program) (c : Code) (st : AS) (Q : Ex → AS → Prop) : Prop := ∀ p μ0 a w, Sim p μ0 st a w → WP P c (conc p μ0 Q) a w

def Tree.sat {α : Type} (P : Program) : Tree α → (α → Prop) → Prop
  | .ret a, Q => Q a
  | .ite b t e, Q => (b = true → t.sat P Q) ∧ (b = false → e.sat P Q)
  | .need p t, Q => p ∧ t.sat P Q
  | .fail, _ => False
  | .code c st k, Q => ∃ post : Ex → AS → Prop, Triple P c st post ∧ ∀ e s, post e s → (k e s).sat P Q

theorem Tree.sat_bind {α β : Type} {P : Program} {f : α → Tree β} {Q : β → Prop} : ∀ {t : Tree α}, (t.bind f).sat P Q → t.sat P fun a => (f a).sat P Q
  | .ret a, x => x
  | .ite b t e, x => ⟨fun hb => Tree.sat_bind (x.1 hb), fun hb => Tree.sat_bind (x.2 hb)⟩
  | .need p t, x => ⟨x.1, Tree.sat_bind x.2⟩
  | .fail, x => x
  | .code c st k, ⟨post, h1, h2⟩ => ⟨post, h1, fun e s hp => Tree.sat_bind (h2 e s hp)⟩

theorem Tree.sat_ofTr {α : Type} {P : Program} {Q : α → Prop} : ∀ {t : Tr α}, (Tree.ofTr t).sat P Q → ∃ a, t.ev a ∧ Q a
  | .ret a, x => ⟨a, rfl, x⟩
  | .ite b t e, x => by
    cases b
    · obtain ⟨a, h1, h2⟩ := Tree.sat_ofTr (x.2 rfl); exact ⟨a, .inr ⟨rfl, h1⟩, h2⟩
    · obtain ⟨a, h1, h2⟩ := Tree.sat_ofTr (x.1 rfl); exact ⟨a, .inl ⟨rfl, h1⟩, h2⟩
  | .need p t, x => by obtain ⟨a, h1, h2⟩ := Tree.sat_ofTr x.2; exact ⟨a, ⟨x.1, h1⟩, h2⟩
  | .dneed p _ t, x => by obtain ⟨a, h1, h2⟩ := Tree.sat_ofTr (t := t) x.2; exact ⟨a, ⟨x.1, h1⟩, h2⟩
  | .fail, x => x.elim

/-- The same; in a closed call every test is decided. -/
def decTr {α : Type} : Tr α → Tree α
  | .ret a => .ret a
  | .ite b t e => (match b with | true => decTr t | false => decTr e)
  | .need p t => .need p (decTr t)
  | .dneed p d t => (match d with | .isTrue _ => decTr t | .isFalse _ => .fail)
  | .fail => .fail
def ofTrH {α : Type} (h : Hint) (t : Tr α) : Tree α := match h with
  | .run => decTr t
  | _ => Tree.ofTr t
theorem sat_decTr {α : Type} {P : Program} {Q : α → Prop} : ∀ {t : Tr α}, (decTr t).sat P Q → ∃ a, t.ev a ∧ Q a
  | .ret a, x => ⟨a, rfl, x⟩
  | .ite b t e, x => by
    cases b
    · obtain ⟨a, h1, h2⟩ := sat_decTr (t := e) x; exact ⟨a, .inr ⟨rfl, h1⟩, h2⟩
    · obtain ⟨a, h1, h2⟩ := sat_decTr (t := t) x; exact ⟨a, .inl ⟨rfl, h1⟩, h2⟩
  | .need p t, x => by obtain ⟨a, h1, h2⟩ := sat_decTr (t := t) x.2; exact ⟨a, ⟨x.1, h1⟩, h2⟩
  | .dneed p d t, x => by
    cases d with
    | isTrue hp => obtain ⟨a, h1, h2⟩ := sat_decTr (t := t) x; exact ⟨a, ⟨hp, h1⟩, h2⟩
    | isFalse hp => exact x.elim
  | .fail, x => x.elim
theorem sat_ofTrH {α : Type} {P : Program} {Q : α → Prop} {h : Hint} {t : Tr α} (x : (ofTrH h t).sat P Q) : ∃ a, t.ev a ∧ Q a := by
  unfold ofTrH at x
  split at x
  · exact sat_decTr x
  · exact Tree.sat_ofTr x

theorem hs_seq1 {p : Par} {μ : Mu} {F : Nat → Prop} {hp : Heap} {w : World} (h : HS p μ F hp w) : LH w μ F hp := by
  refine ⟨Ext.refl _ _, fun b hb => hb, fun b hb => ⟨(h.fin b hb).1, .inl hb⟩, fun l blk hg => ?_, h.inj⟩
  obtain ⟨q, h1, h2, h3⟩ := h.blk l blk hg
  refine ⟨q, h1, ?_, h3⟩
  cases q with
  | nil => trivial
  | pl b o => exact ⟨h2.1, .inl ⟨l, blk, o, hg, h1⟩⟩

theorem tk_par {p : Par} {μ : Mu} {F : Nat → Prop} {hp : Heap} {w : World} (h : HS p μ F hp w) {b : Nat} (hb : Tk hp μ b) : p.T b ∨ p.w0.heap.size ≤ b := by
  obtain ⟨l, blk, o, hg, hm⟩ := hb
  obtain ⟨q, h1, h2, h3⟩ := h.blk l blk hg
  rw [hm, Option.some.injEq] at h1; subst h1
  exact h2.2

theorem hs_seq2 {p : Par} {μ μ' : Mu} {F F' : Nat → Prop} {hp hp' : Heap} {w w' : World} (h : HS p μ F hp w) (k : HS ⟨w, Tk hp μ, F⟩ μ' F' hp' w') : HS p μ' F' hp' w' := by
  have hsz := h.ext.size
  have hplc : ∀ b, Tk hp μ b ∨ w.heap.size ≤ b → p.T b ∨ p.w0.heap.size ≤ b := fun b hb => hb.elim (tk_par h) fun hb => .inr (by omega)
  refine ⟨h.ext.trans (k.ext.mono fun b hb => ⟨by have := hb.1; simp only; omega, fun ht => ?_⟩), fun b hb => k.sub b (h.sub b hb), fun b hb => ⟨(k.fin b hb).1, ?_⟩, fun l blk hg => ?_, k.inj⟩
  · rcases tk_par h ht with h1 | h1
    · exact hb.2 h1
    · have := hb.1; omega
  · rcases (k.fin b hb).2 with h1 | h1 | h1
    · exact (h.fin b h1).2
    · exact .inr (tk_par h h1)
    · simp only at h1; exact .inr (.inr (by omega))
  · obtain ⟨q, h1, h2, h3⟩ := k.blk l blk hg
    refine ⟨q, h1, ?_, h3⟩
    cases q with
    | nil => trivial
    | pl b o => exact ⟨h2.1, hplc b h2.2⟩

theorem ext_F {w w' : World} {μ μ' : Mu} {F F' : Nat → Prop} {hp hp' : Heap} (hl : LH w μ F hp) (k : HS ⟨w, Tk hp μ, F⟩ μ' F' hp' w') : Ext F w w' :=
  k.ext.mono fun b hb => ⟨(hl.fin b hb).1, fun ⟨l, blk, o, hg, hm⟩ => (hl.blkAt hg hm).2 hb⟩

def putD (tm : List TV) (d : Option Nat) (tv : TV) : Option (List TV) :=
  match d with
  | none => some tm
  | some d => if d < tm.length ∧ noTag tm d = true then some (tm.set d tv) else none

def putG {β : Type} (tm : List TV) (d : Option Nat) (tv : TV) (k : List TV → β) (f : β) : β :=
  match d with
  | none => k tm
  | some d => bif noTagR tm d then setR tm d tv k f else f

theorem putG_eq {β : Type} {tm : List TV} {d : Option Nat} {tv : TV} {k : List TV → β} {f : β} : putG tm d tv k f = match putD tm d tv with | some t => k t | none => f := by
  unfold putG putD
  cases d with
  | none => rfl
  | some d =>
    simp only [noTagR_eq, setR_eq]
    cases noTag tm d with
    | false => simp
    | true => by_cases h : d < tm.length <;> simp [h]

def putF {β : Type} (tm : List TV) (d : Option Nat) (tv : TV) (q : Bool) (hp0 hp : Heap) (nx : Nat) (h : Hint) (k : AS → Tree β) : Tree β :=
  fTV tv fun tv => putG tm d tv (fun tm' => if q then fNat nx fun nx => k ⟨tm', hp0, nx, h⟩ else fHp hp fun hp => fNat nx fun nx => k ⟨tm', hp, nx, h⟩) .fail

theorem putF_eq {β : Type} {tm : List TV} {d : Option Nat} {tv : TV} {q : Bool} {hp0 hp : Heap} {nx : Nat} {h : Hint} {k : AS → Tree β} (hq : q = true → hp = hp0) : putF tm d tv q hp0 hp nx h k = match putD tm d tv with | some tm' => k ⟨tm', hp, nx, h⟩ | none => .fail := by
  unfold putF
  simp only [fTV_eq, putG_eq, fNat_eq, fHp_eq]
  cases q with
  | true => rw [hq rfl]; rfl
  | false => rfl

theorem RepT_put {w : World} {μ : Mu} {F : Nat → Prop} {tmps : Array Value} {v u : Value} {tv : TV} {d : Nat} (h : RepT w μ F tmps v tv) (hd : ∀ g b s, tv = .tag g b s → g ≠ d) (hlt : d < tmps.size) : RepT w μ F (tmps.setIfInBounds d u) v tv := by
  cases tv with
  | tag g b s =>
    have := hd g b s rfl
    simp only [RepT, getD_set g hlt, this, if_false]
    exact h
  | _ => exact h

/-- One step: the state behind it. -/
theorem sim_put {p : Par} {μ0 μ : Mu} {F : Nat → Prop} {st : AS} {a : Act} {w w' : World} {N : Nat → Prop} {hp' : Heap} {v : Value} {tv : TV} {d : Option Nat} {tm' : List TV} {nx : Nat} {h : Hint} (hs : HS p μ F st.hp w) (hf : Fresh st.next μ) (h0 : ∀ l q, μ0 l = some q → μ l = some q)
    (ht : TmOK w μ F st.tm a.tmps) (hsz : st.tm.length ≤ a.tmps.size) (hd : Marks p F w a.defers) (ho : OutT w μ F st.hp N hp' a.tmps v tv w') (hN : ∀ l, N l → l < nx) (hnx : st.next ≤ nx) (hpd : putD st.tm d tv = some tm') (htag : ∀ g b s, tv = .tag g b s → d ≠ some g) :
    Sim p μ0 ⟨tm', hp', nx, h⟩ (a.put d v) w' := by
  obtain ⟨μ', F', e1, e2, e3, e4⟩ := ho
  have hext := ext_F (hs_seq1 hs) e1
  have hfr : Fresh nx μ' := by
    intro l hl
    have : ¬ N l := fun hn => by have := hN l hn; omega
    rw [e4 l this]; exact hf l (by omega)
  refine ⟨μ', F', hs_seq2 hs e1, hfr, fun l q hq => e3 l q (h0 l q hq), ?_, ?_, by rw [Act.put_defers]; exact hd.step (hs_seq1 hs) e1⟩
  · cases d with
    | none =>
      simp only [putD, Option.some.injEq] at hpd; subst hpd
      exact fun t => (ht t).mono hext e1.sub e3
    | some d =>
      simp only [putD] at hpd
      split at hpd
      · rename_i hk
        simp only [Option.some.injEq] at hpd; subst hpd
        exact tmOK_put ht hext e1.sub e3 (by omega) hk.1 hk.2 (RepT_put e2 (fun g b s e he => htag g b s e (by rw [he])) (by omega))
      · cases hpd
  · cases d with
    | none => simp only [putD, Option.some.injEq] at hpd; subst hpd; exact hsz
    | some d =>
      simp only [putD] at hpd
      split at hpd
      · simp only [Option.some.injEq] at hpd; subst hpd; simp [Act.put]; exact hsz
      · cases hpd

/-! ### Regions in the order of the text -/

abbrev Inl := FuncId → List SV → AS → Tree (SV × AS)

def isInl (C : Ctx) (tm : List TV) (o : Oper) : Option (FuncId × List SV) :=
  match o.op with
  | .call c => match callee (rhoR tm none (opSlots o)) c with
    | some (k, args) => if (C.ctr k).isNone && C.inl k then some (k, args) else none
    | none => none
  | _ => none

def needT {α : Type} (l : List Prop) (t : Tree α) : Tree α := l.foldr (fun p t => .need p t) t

theorem needT_sat {α : Type} {P : Program} {l : List Prop} {t : Tree α} {Q : α → Prop} (h : (needT l t).sat P Q) : (∀ p ∈ l, p) ∧ t.sat P Q := by
  induction l with
  | nil => exact ⟨(fun p hp => by cases hp), h⟩
  | cons q l ih =>
    obtain ⟨h1, h2⟩ := h
    obtain ⟨h3, h4⟩ := ih h2
    exact ⟨fun p hp => (List.mem_cons.1 hp).elim (fun e => e ▸ h1) (h3 p), h4⟩

def branchB {α : Type} (h : Hint) (b : Bool) (kt kf : Hint → Tree α) : Tree α :=
  match h with
  | .t h' => .need (b = true) (kt h')
  | .f h' => .need (b = false) (kf h')
  | .br l r => .ite b (kt l) (kf r)
  | .run => match b with | true => kt .run | false => kf .run
  | h => .ite b (kt h) (kf h)

theorem branchB_sat {α : Type} {P : Program} {h : Hint} {b : Bool} {kt kf : Hint → Tree α} {Q : α → Prop} (hs : (branchB h b kt kf).sat P Q) : ∃ h', (b = true ∧ (kt h').sat P Q) ∨ (b = false ∧ (kf h').sat P Q) := by
  unfold branchB at hs
  split at hs
  · rename_i h'; exact ⟨h', .inl hs⟩
  · rename_i h'; exact ⟨h', .inr hs⟩
  · rename_i l r
    cases b
    · exact ⟨r, .inr ⟨rfl, hs.2 rfl⟩⟩
    · exact ⟨l, .inl ⟨rfl, hs.1 rfl⟩⟩
  · cases b
    · exact ⟨_, .inr ⟨rfl, hs⟩⟩
    · exact ⟨_, .inl ⟨rfl, hs⟩⟩
  · cases b
    · exact ⟨h, .inr ⟨rfl, hs.2 rfl⟩⟩
    · exact ⟨h, .inl ⟨rfl, hs.1 rfl⟩⟩

def nextOf (C : Ctx) (o : Oper) (n : Nat) : Nat := if quietC C o.op then n else n + 1

/-! ### Rows that a callee may hand back are given up, and told as values that stay -/

/-- A value of this type may hold rows. -/
def refT (P : Program) : Nat → TypeId → Bool
  | 0, _ => true
  | n + 1, t => match P.underlying t with
    | some .bool => false
    | some (.int _) => false
    | some .string => false
    | some (.array _ e) => refT P n e
    | some (.struct fs) => fs.toList.any fun f => refT P n f.type
    | some (.tuple ts) => ts.toList.any fun t => refT P n t
    | _ => true

def rwS (hp : Heap) (ls : List Nat) (s : SV) : SV × List Prop := match s with
  | .row l b o n e => match view1 hp (.row l b o n e) with
    | some (a, ps, l) => if l.all (fun x => ls.contains x) = true then (a, ps) else (s, [])
    | none => (s, [])
  | s => (s, [])

def rwL (hp : Heap) (ls : List Nat) : List SV → List SV × List Prop
  | [] => ([], [])
  | s :: r => ((rwS hp ls s).1 :: (rwL hp ls r).1, (rwS hp ls s).2 ++ (rwL hp ls r).2)

def rwV (hp : Heap) (ls : List Nat) : SV → SV × List Prop
  | .agg cs => (.agg (rwL hp ls cs).1, (rwL hp ls cs).2)
  | s => rwS hp ls s

def rwTm (hp : Heap) (ls : List Nat) : List TV → List TV × List Prop
  | [] => ([], [])
  | .ok s :: r => (.ok (rwV hp ls s).1 :: (rwTm hp ls r).1, (rwV hp ls s).2 ++ (rwTm hp ls r).2)
  | tv :: r => (tv :: (rwTm hp ls r).1, (rwTm hp ls r).2)

def rwHp (hp : Heap) (ls : List Nat) : Nat → Heap → Heap × List Prop
  | _, [] => ([], [])
  | k, some (.cells cs) :: r => if ls.contains k then (none :: (rwHp hp ls (k + 1) r).1, (rwHp hp ls (k + 1) r).2) else (some (.cells (rwL hp ls cs).1) :: (rwHp hp ls (k + 1) r).1, (rwL hp ls cs).2 ++ (rwHp hp ls (k + 1) r).2)
  | k, b :: r => ((if ls.contains k then none else b) :: (rwHp hp ls (k + 1) r).1, (rwHp hp ls (k + 1) r).2)

section
variable {w : World} {μ : Mu} {F : Nat → Prop} {hp : Heap} {ls : List Nat}

theorem rwS_sound (P : Program) (hl : LH w μ F hp) {v : Value} {s : SV} (hs : Rep w μ F v s) (hps : ∀ p ∈ (rwS hp ls s).2, p) : Rep w μ (FrzF F hp μ ls) v (rwS hp ls s).1 := by
  have keep : Rep w μ (FrzF F hp μ ls) v s := hs.mono (Ext.refl _ _) (fun b h => .inl h) (fun _ _ h => h)
  unfold rwS at hps ⊢
  split
  · rename_i l b o n e
    simp only at hps
    split
    · rename_i a ps l' hv
      rw [hv] at hps
      simp only at hps
      split
      · rename_i hall
        rw [if_pos hall] at hps
        refine emp_up (view1_sound (P := P) hl hs hv hps (G := FrzF F hp μ ls) (fun b h => .inl h) fun b ⟨k, hk, x⟩ => .inr ⟨k, ?_, x⟩)
        have := (List.all_eq_true.1 hall) k hk
        simpa using this
      · exact keep
    · exact keep
  · exact keep
where
  emp_up {w : World} {μ : Mu} {G : Nat → Prop} {v : Value} {s : SV} (h : Rep w emp G v s) : Rep w μ G v s := Rep.mono (Ext.refl _ _) (fun _ h => h) (fun l q h => by simp [emp] at h) h

theorem rwL_sound (P : Program) (hl : LH w μ F hp) : ∀ {cs : List SV}, (∀ p ∈ (rwL hp ls cs).2, p) → (rwL hp ls cs).1.length = cs.length ∧ ∀ i v, i < cs.length → Rep w μ F v (cs.getD i uv) → Rep w μ (FrzF F hp μ ls) v ((rwL hp ls cs).1.getD i uv)
  | [], _ => ⟨rfl, fun i v hi => by simp at hi⟩
  | s :: r, hps => by
    simp only [rwL, List.mem_append] at hps
    obtain ⟨h1, h2⟩ := rwL_sound P hl (cs := r) fun p hp => hps p (.inr hp)
    refine ⟨by simp [rwL, h1], fun i v hi hr => ?_⟩
    cases i with
    | zero => exact rwS_sound P hl (by simpa using hr) fun p hp => hps p (.inl hp)
    | succ i => simpa [rwL] using h2 i v (by simpa using hi) (by simpa using hr)

theorem rwV_sound (P : Program) (hl : LH w μ F hp) {v : Value} {s : SV} (hs : Rep w μ F v s) (hps : ∀ p ∈ (rwV hp ls s).2, p) : Rep w μ (FrzF F hp μ ls) v (rwV hp ls s).1 := by
  unfold rwV at hps ⊢
  split
  · rename_i cs
    simp only at hps
    obtain ⟨h1, h2⟩ := rwL_sound P hl (cs := cs) hps
    cases hs with
    | agg vs _ hlen hi => exact .agg vs _ (by rw [h1]; exact hlen) fun i hi2 => h2 i _ (by omega) (hi i (by omega))
  · rename_i hne
    have : rwV hp ls s = rwS hp ls s := by
      cases s <;> first | rfl | exact (hne _ rfl).elim
    refine rwS_sound P hl hs ?_
    simpa using hps

theorem rwHp_get : ∀ {r : Heap} {k : Nat} {j : Nat} {blk : Blk}, hget (rwHp hp ls k r).1 j = some blk →
    k + j ∉ ls ∧ ∃ blk0, hget r j = some blk0 ∧ (blk = blk0 ∨ ∃ cs, blk0 = .cells cs ∧ blk = .cells (rwL hp ls cs).1 ∧ ∀ p ∈ (rwL hp ls cs).2, p ∈ (rwHp hp ls k r).2)
  | [], k, j, blk, h => by simp [rwHp, hget_def] at h
  | b :: r, k, 0, blk, h => by
    have e : hget (b :: r) 0 = b := by simp [hget_def]
    rw [e]
    unfold rwHp at h ⊢
    split at h
    · rename_i heq; cases heq
    · rename_i cs r' heq
      cases heq
      split at h
      · simp [hget_def] at h
      · rename_i hc
        rw [if_neg hc]
        simp only [hget_def, List.getD_cons_zero, Option.some.injEq] at h
        subst h
        exact ⟨by simpa using hc, _, rfl, .inr ⟨cs, rfl, rfl, fun p hp => List.mem_append.2 (.inl hp)⟩⟩
    · rename_i b' r' _ heq
      cases heq
      simp only [hget_def, List.getD_cons_zero] at h
      split at h
      · cases h
      · rename_i hc
        exact ⟨by simpa using hc, blk, h, .inl rfl⟩
  | b :: r, k, j + 1, blk, h => by
    have e : hget (b :: r) (j + 1) = hget r j := by simp [hget_def]
    rw [e]
    have key : hget (rwHp hp ls (k + 1) r).1 j = some blk ∧ ∀ p ∈ (rwHp hp ls (k + 1) r).2, p ∈ (rwHp hp ls k (b :: r)).2 := by
      unfold rwHp at h
      split at h
      · rename_i heq; cases heq
      · rename_i cs r' heq
        cases heq
        split at h
        · rename_i hc
          refine ⟨by simpa [hget_def] using h, fun p hp => ?_⟩
          conv => rw [rwHp]
          rw [if_pos hc]; exact hp
        · rename_i hc
          refine ⟨by simpa [hget_def] using h, fun p hp => ?_⟩
          conv => rw [rwHp]
          rw [if_neg hc]; exact List.mem_append.2 (.inr hp)
      · rename_i b' r' hne heq
        cases heq
        refine ⟨by simpa [hget_def] using h, fun p hp => ?_⟩
        rw [rwHp.eq_def]
        split
        · rename_i heq; cases heq
        · rename_i cs r2 heq; cases heq; exact (hne cs rfl).elim
        · rename_i heq; cases heq; exact hp
    obtain ⟨h1, blk0, h2, h3⟩ := rwHp_get (r := r) (k := k + 1) (j := j) key.1
    refine ⟨by rw [show k + (j + 1) = k + 1 + j by omega]; exact h1, blk0, h2, ?_⟩
    rcases h3 with h3 | ⟨cs, e1, e2, e3⟩
    · exact .inl h3
    · exact .inr ⟨cs, e1, e2, fun p hp => key.2 p (e3 p hp)⟩

theorem rwHp_sound (P : Program) (hl : LH w μ F hp) (hps : ∀ p ∈ (rwHp hp ls 0 hp).2, p) : Frz w μ F (FrzF F hp μ ls) hp (rwHp hp ls 0 hp).1 := by
  refine ⟨lh_frz hl fun k blk hg => ?_, fun b hb => tk_sub (fun k blk hg => ?_) hb, fun b hb => .inl hb, frzF_tk (w := w)⟩
  · obtain ⟨h1, blk0, h2, h3⟩ := rwHp_get hg
    rw [Nat.zero_add] at h1
    refine ⟨h1, blk0, h2, fun q hq hb => ?_⟩
    have keep : BlkAt w μ (FrzF F hp μ ls) q blk0 := hb.mono (Ext.refl _ _) (fun b h => .inl h) (fun _ _ h => h) (fun _ _ _ => rfl)
    rcases h3 with rfl | ⟨cs, rfl, rfl, h4⟩
    · exact keep
    · obtain ⟨k1, k2⟩ := rwL_sound P hl (ls := ls) (cs := cs) fun p hp => hps p (h4 p hp)
      cases q with
      | nil => exact hb.elim
      | pl b o =>
        obtain ⟨c, e, g1, g2, g3, g4⟩ := hb
        exact ⟨c, e, g1, by rw [k1]; exact g2, fun i hi => k2 i _ (by omega) (g3 i (by omega)), fun i hi => g4 i (by omega)⟩
  · obtain ⟨_, blk0, h2, _⟩ := rwHp_get hg
    exact ⟨blk0, h2⟩

theorem rwTm_sound (P : Program) (hl : LH w μ F hp) {tmps : Array Value} : ∀ {tm : List TV}, (∀ p ∈ (rwTm hp ls tm).2, p) → ∀ t, RepT w μ F tmps (tmps.getD t undef) (tget tm t) → RepT w μ (FrzF F hp μ ls) tmps (tmps.getD t undef) (tget (rwTm hp ls tm).1 t) := by
  have keep : ∀ (v : Value) (tv : TV), RepT w μ F tmps v tv → RepT w μ (FrzF F hp μ ls) tmps v tv := fun v tv h => h.mono (Ext.refl _ _) (fun b h => .inl h) (fun _ _ h => h)
  suffices H : ∀ {tm : List TV}, (∀ p ∈ (rwTm hp ls tm).2, p) → ∀ t v, RepT w μ F tmps v (tget tm t) → RepT w μ (FrzF F hp μ ls) tmps v (tget (rwTm hp ls tm).1 t) from fun {tm} h t hr => H (tm := tm) h t _ hr
  intro tm
  induction tm with
  | nil => intro _ t v h; simp only [rwTm]; exact keep _ _ h
  | cons a r ih =>
    intro hps t v h
    cases a with
    | ok s =>
      simp only [rwTm, List.mem_append] at hps ⊢
      cases t with
      | zero =>
        simp only [tget_def, List.getD_cons_zero] at h ⊢
        exact rwV_sound P hl h fun p hp => hps p (.inl hp)
      | succ t =>
        have := ih (fun p hp => hps p (.inr hp)) t v (by simpa [tget_def] using h)
        simpa [tget_def] using this
    | _ =>
      simp only [rwTm] at hps ⊢
      cases t with
      | zero => simp only [tget_def, List.getD_cons_zero] at h ⊢; exact keep _ _ h
      | succ t =>
        have := ih hps t v (by simpa [tget_def] using h)
        simpa [tget_def] using this

theorem rwTm_len : ∀ (tm : List TV), (rwTm hp ls tm).1.length = tm.length
  | [] => rfl
  | .ok s :: r => by simp [rwTm, rwTm_len r]
  | .unk :: r => by simp [rwTm, rwTm_len r]
  | .lit _ :: r => by simp [rwTm, rwTm_len r]
  | .cnd _ _ :: r => by simp [rwTm, rwTm_len r]
  | .tag _ _ _ :: r => by simp [rwTm, rwTm_len r]

/-- A state where these rows are told as values that stay. -/
def frzSt (ls : List Nat) (st : AS) : AS := { st with tm := (rwTm st.hp ls st.tm).1, hp := (rwHp st.hp ls 0 st.hp).1 }
def frzP (ls : List Nat) (st : AS) : List Prop := (rwTm st.hp ls st.tm).2 ++ (rwHp st.hp ls 0 st.hp).2

theorem frz_sim (P : Program) {p : Par} {μ0 : Mu} {st : AS} {a : Act} {w : World} {ls : List Nat} (hs : Sim p μ0 st a w) (hps : ∀ q ∈ frzP ls st, q) : Sim p μ0 (frzSt ls st) a w := by
  obtain ⟨μ, F, hh, hf, h0, ht, hsz, Ds, d1, d2, d3⟩ := hs
  have hl := hs_seq1 hh
  have fz := rwHp_sound P hl (ls := ls) fun q hq => hps q (List.mem_append.2 (.inr hq))
  refine ⟨μ, FrzF F st.hp μ ls, hs_seq2 hh (hs_widen fz.tk fz.up fz.dn fz.lh), hf, h0, fun t => rwTm_sound P hl (fun q hq => hps q (List.mem_append.2 (.inl hq))) t (ht t), by simpa [frzSt, rwTm_len] using hsz, Ds, d1, d2, fun D hD => ⟨(d3 D hD).1, (d3 D hD).2.1, fun hF => ?_⟩⟩
  rcases fz.dn D hF with h | h
  · exact (d3 D hD).2.2 h
  · obtain ⟨c, e, fr, hc⟩ := tk_cells hl h
    rw [(d3 D hD).2.1] at hc; cases hc
end

/-- The rows that this call takes and may hand back. -/
def frzOf (P : Program) (C : Ctx) (st : AS) (o : Oper) : List Nat := match o.op with
  | .call c => match callee (rhoR st.tm none (opSlots o)) c with
    | some (k, args) => match C.ctr k with
      | some _ => if refT P 20 o.type = true then (match views st.hp args with | some (_, _, ls) => ls | none => []) else []
      | none => []
    | none => []
  | _ => []

def fTmN {β : Type} : List TV → (List TV → β) → β
  | [], k => k []
  | a :: r, k => fTV a fun a => fTmN r fun r => k (a :: r)
theorem fTmN_eq {β : Type} (l : List TV) (k : List TV → β) : fTmN l k = k l := by
  induction l generalizing k with
  | nil => rfl
  | cons a r ih => simp [fTmN, ih]
def frcS {β : Type} (st : AS) (k : AS → β) : β := fTmN st.tm fun tm => fHp st.hp fun hp => k { st with tm := tm, hp := hp }
theorem frcS_eq {β : Type} (st : AS) (k : AS → β) : frcS st k = k st := by simp [frcS, fTmN_eq]

def doOp (P : Program) (C : Ctx) (o : Oper) (st : AS) (k : AS → Tree AS) : Tree AS :=
  (ofTrH st.hint (opAll P C st.next st.tm st.hp none o)).bind fun r => putF st.tm o.dst (.ok r.1) (quietC C o.op) st.hp r.2 (nextOf C o st.next) st.hint k

def doFree (P : Program) (C : Ctx) (inl : Inl) (o : Oper) (st : AS) (k : AS → Tree AS) : Tree AS :=
  match isInl C st.tm o with
  | some (f, args) => needT (cndsT st.tm (opSlots o)) ((inl f args st).bind fun r => putF st.tm o.dst (.ok r.1) false [] r.2.hp r.2.next r.2.hint k)
  | none => match frzOf P C st o with
    | [] => doOp P C o st k
    | l :: r => needT (frzP (l :: r) st) (frcS (frzSt (l :: r) st) fun st => doOp P C o st k)

def doSkip (o : Oper) (st : AS) (k : AS → Tree AS) : Tree AS :=
  putF st.tm o.dst (.ok uv) true st.hp st.hp st.next st.hint k

def doSpec (P : Program) (C : Ctx) (ops : Array Oper) (o : Oper) (st : AS) (k : AS → Tree AS) : Tree AS :=
  if quietC C o.op then
    (ofTrH st.hint (stepTr (isRun st.hint) P C ops st.next st.tm st.hp o)).bind fun r => putF st.tm o.dst r.1 false st.hp r.2 st.next st.hint k
  else .fail

def runOps (P : Program) (C : Ctx) (inl : Inl) (ops : Array Oper) : List Oper → AS → Tree AS
  | [], st => .ret st
  | o :: rest, st =>
    match gstat ops st.tm o with
    | .free => doFree P C inl o st (runOps P C inl ops rest)
    | .skip => doSkip o st (runOps P C inl ops rest)
    | .tagd g w (some b) =>
      if quietC C o.op && (isInl C st.tm o).isNone && !isRun st.hint then doSpec P C ops o st (runOps P C inl ops rest)
      else branchB st.hint b
        (fun h => if w then doFree P C inl o { st with tm := st.tm.set g (.lit true), hint := h } (runOps P C inl ops rest) else doSkip o { st with tm := st.tm.set g (.lit true), hint := h } (runOps P C inl ops rest))
        (fun h => if w then doSkip o { st with tm := st.tm.set g (.lit false), hint := h } (runOps P C inl ops rest) else doFree P C inl o { st with tm := st.tm.set g (.lit false), hint := h } (runOps P C inl ops rest))
    | .tagd g w none => doSpec P C ops o st (runOps P C inl ops rest)
    | .bad => .fail

/-- A function that is walked in place: its value, and the state behind it. -/
def InlOK (P : Program) (C : Ctx) (inl : Inl) : Prop :=
  ∀ (k : FuncId) (args : List SV) (st : AS) (R : SV × AS → Prop), C.inl k = true → (inl k args st).sat P R → ∀ (μ : Mu) (F : Nat → Prop) (w : World) (vs : Array Value), LH w μ F st.hp → Fresh st.next μ → Reps w μ F vs args →
    Calls P k vs w fun e w' => ∃ v s st' μ' F', e = .returned v ∧ R (s, st') ∧ HS ⟨w, Tk st.hp μ, F⟩ μ' F' st'.hp w' ∧ Rep w' μ' F' v s ∧ (∀ l q, μ l = some q → μ' l = some q) ∧ Fresh st'.next μ'

theorem TmOK.lit {w : World} {μ : Mu} {F : Nat → Prop} {tm : List TV} {tmps : Array Value} {g : Nat} {b : Bool} (h : TmOK w μ F tm tmps) (hg : tget tm g = .ok (.d (.x (.bool b)))) : TmOK w μ F (tm.set g (.lit b)) tmps := by
  have hlt : g < tm.length := by
    rcases Nat.lt_or_ge g tm.length with h1 | h1
    · exact h1
    · simp [tget_def, List.getD, List.getElem?_eq_none h1] at hg
  intro t
  rw [tget_set _ _ _ _ hlt]
  split
  · rename_i e; subst e
    have := h t
    rw [hg] at this
    exact rep_x this
  · exact h t

end
end Go.Sx

/- The symbolic executor: code, and that it is sound. -/
namespace Go.Sx
noncomputable section

/-- What holds behind a region. -/
def postR (Q : AS → Prop) : Ex → AS → Prop := fun e st => e = .normal ∧ Q st

theorem wanted_step {P : Program} {ops : Array Oper} {o : Oper} {rest : List Oper} {a : Act} {w : World} {Q : Exit → Act → World → Prop} {r : Option Nat}
    (h : if Region.wanted o (yielded ops a.tmps) then o.wpIn (FW r) 0 P a w (wpListIn (FW r) 0 P ops Q rest) Q else wpListIn (FW r) 0 P ops Q rest (a.put o.dst undef) w) : wpListIn (FW r) 0 P ops Q (o :: rest) a w := by
  unfold wpListIn
  split
  · rename_i hw; rw [if_pos hw] at h; exact h
  · rename_i hw; rw [if_neg hw] at h; exact ⟨fun _ _ => trivial, h⟩

theorem newId_lt {C : Ctx} {o : Oper} {n : Nat} : ∀ l, NewIdC C n o l → l < nextOf C o n := by
  rintro l ⟨rfl, hq⟩
  simp [nextOf, hq]

theorem le_nextOf {C : Ctx} (o : Oper) (n : Nat) : n ≤ nextOf C o n := by unfold nextOf; split <;> omega

theorem isInl_spec {C : Ctx} {tm : List TV} {o : Oper} {k : FuncId} {args : List SV} (h : isInl C tm o = some (k, args)) : ∃ c, o.op = .call c ∧ callee (rhoR tm none (opSlots o)) c = some (k, args) ∧ C.inl k = true := by
  unfold isInl at h
  split at h
  · rename_i c hop
    split at h
    · rename_i k' args' hc
      split at h
      · rename_i hk
        simp only [Option.some.injEq, Prod.mk.injEq] at h
        obtain ⟨rfl, rfl⟩ := h
        simp only [Bool.and_eq_true] at hk
        exact ⟨c, hop, hc, hk.2⟩
      · cases h
    · cases h
  · cases h

section
variable {P : Program} {C : Ctx} {inl : Inl} {ops : Array Oper} {p : Par} {μ0 : Mu} {Q : AS → Prop} {r : Option Nat}

theorem doOp_sound (hC : CtxOK P C) {o : Oper} {st : AS} {k : AS → Tree AS} {a : Act} {w : World} {K : Act → World → Prop} {Qx : Exit → Act → World → Prop} (hs : Sim p μ0 st a w) (hk : (doOp P C o st k).sat P Q)
    (hK : ∀ st' a' w', (k st').sat P Q → Sim p μ0 st' a' w' → K a' w') : o.wpIn (FW r) 0 P a w K Qx := by
  obtain ⟨μ, F, hh, hf, h0, ht, hsz, hd⟩ := hs
  unfold doOp at hk
  have hk := Tree.sat_bind hk
  obtain ⟨r0, h1, h2⟩ := sat_ofTrH hk
  rw [putF_eq (fun hq => opAll_quiet (s := r0.1) (hp' := r0.2) hq h1)] at h2
  split at h2
  · rename_i tm' hpd
    refine opAll_sound hC (hs_seq1 hh) (hf _ (Nat.le_refl _)) ht (fun g b e => by cases e) h1 fun v w' ho => hK _ _ _ h2 ?_
    obtain ⟨μ', F', e1, e2, e3, e4⟩ := ho
    exact sim_put (tv := .ok r0.1) hh hf h0 ht hsz hd ⟨μ', F', e1, e2, e3, e4⟩ newId_lt (le_nextOf _ _) hpd (fun g b s e => by cases e)
  · exact h2.elim

theorem doFree_sound (hC : CtxOK P C) (hI : InlOK P C inl) {o : Oper} {st : AS} {k : AS → Tree AS} {a : Act} {w : World} {K : Act → World → Prop} {Qx : Exit → Act → World → Prop} (hs : Sim p μ0 st a w) (hk : (doFree P C inl o st k).sat P Q)
    (hK : ∀ st' a' w', (k st').sat P Q → Sim p μ0 st' a' w' → K a' w') : o.wpIn (FW r) 0 P a w K Qx := by
  obtain ⟨μ, F, hh, hf, h0, ht, hsz, hd⟩ := hs
  unfold doFree at hk
  split at hk
  · rename_i f args hin
    obtain ⟨c, hop, hcal, hif⟩ := isInl_spec hin
    obtain ⟨hn, hk⟩ := needT_sat hk
    have hk := Tree.sat_bind hk
    obtain ⟨vs, h1, h2⟩ := callee_run (rhoR_sound ht (fun g b e => by cases e) hn) hop (hC.inl f hif) hcal
    refine ⟨fun _ _ => trivial, ?_⟩
    rw [semAt_eq (fun c h => by rw [hop] at h; cases h), h1]
    refine ⟨(fun h => by cases h), callsW r _ ((hI f args st _ hif hk μ F w vs (hs_seq1 hh) hf h2).mono ?_)⟩
    rintro e w' ⟨v, s, st', μ', F', rfl, hR, e1, e2, e3, e4⟩
    rw [putF_eq (fun h => by cases h)] at hR
    split at hR
    · rename_i tm' hpd
      refine hK _ _ _ hR ?_
      have hext := ext_F (hs_seq1 hh) e1
      refine ⟨μ', F', hs_seq2 hh e1, e4, fun l q hq => e3 l q (h0 l q hq), ?_, ?_, by rw [Act.put_defers]; exact hd.step (hs_seq1 hh) e1⟩
      · cases hdst : o.dst with
        | none =>
          rw [hdst] at hpd
          simp only [putD, Option.some.injEq] at hpd; subst hpd
          exact fun t => (ht t).mono hext e1.sub e3
        | some d =>
          rw [hdst] at hpd
          simp only [putD] at hpd
          split at hpd
          · rename_i hk2
            simp only [Option.some.injEq] at hpd; subst hpd
            exact tmOK_put ht hext e1.sub e3 (by omega) hk2.1 hk2.2 e2
          · cases hpd
      · cases hdst : o.dst with
        | none => rw [hdst] at hpd; simp only [putD, Option.some.injEq] at hpd; subst hpd; exact hsz
        | some d =>
          rw [hdst] at hpd
          simp only [putD] at hpd
          split at hpd
          · simp only [Option.some.injEq] at hpd; subst hpd; simp [Act.put]; exact hsz
          · cases hpd
    · exact hR.elim
  · split at hk
    · exact doOp_sound hC ⟨μ, F, hh, hf, h0, ht, hsz, hd⟩ hk hK
    · rename_i l r' _
      obtain ⟨hps, hk⟩ := needT_sat hk
      rw [frcS_eq] at hk
      exact doOp_sound hC (frz_sim P ⟨μ, F, hh, hf, h0, ht, hsz, hd⟩ hps) hk hK

theorem doSkip_sound {o : Oper} {st : AS} {k : AS → Tree AS} {a : Act} {w : World} {K : Act → World → Prop} (hs : Sim p μ0 st a w) (hk : (doSkip o st k).sat P Q) (hK : ∀ st' a' w', (k st').sat P Q → Sim p μ0 st' a' w' → K a' w') : K (a.put o.dst undef) w := by
  obtain ⟨μ, F, hh, hf, h0, ht, hsz, hd⟩ := hs
  unfold doSkip at hk
  rw [putF_eq (fun _ => rfl)] at hk
  split at hk
  · rename_i tm' hpd
    refine hK _ _ _ hk ?_
    exact sim_put (N := fun _ => False) (tv := .ok uv) hh hf h0 ht hsz hd ⟨μ, F, hs_seq1 hh, .d (.x _), fun _ _ h => h, fun _ _ => rfl⟩ (fun l h => h.elim) (Nat.le_refl _) hpd (fun g b s e => by cases e)
  · exact hk.elim

theorem doSpec_sound (hC : CtxOK P C) {o : Oper} {st : AS} {k : AS → Tree AS} {a : Act} {w : World} {K : Act → World → Prop} {Qx : Exit → Act → World → Prop} (hs : Sim p μ0 st a w) (hk : (doSpec P C ops o st k).sat P Q) (hK : ∀ st' a' w', (k st').sat P Q → Sim p μ0 st' a' w' → K a' w') :
    if Region.wanted o (yielded ops a.tmps) then o.wpIn (FW r) 0 P a w K Qx else K (a.put o.dst undef) w := by
  obtain ⟨μ, F, hh, hf, h0, ht, hsz, hd⟩ := hs
  unfold doSpec at hk
  split at hk
  · rename_i hq
    have hk := Tree.sat_bind hk
    obtain ⟨r0, h1, h2⟩ := sat_ofTrH hk
    rw [putF_eq (fun h => by cases h)] at h2
    split at h2
    · rename_i tm' hpd
      refine stepTr_sound hC (hs_seq1 hh) (hf _ (Nat.le_refl _)) ht h1 fun v w' ho => hK _ _ _ h2 ?_
      refine sim_put hh hf h0 ht hsz hd ho (fun l hl => by rw [NewIdC, hq] at hl; cases hl.2) (Nat.le_refl _) hpd (fun g b s e => ?_)
      unfold stepTr at h1
      split at h1
      · split at h1
        · simp only [Tr.ev] at h1; rw [h1] at e; cases e
        obtain ⟨r', h3, h4⟩ := Tr.ev_bind h1
        obtain ⟨tv, hp'⟩ := r0
        simp only at e
        obtain ⟨_, h5 | ⟨_, h5, _⟩⟩ := litOf_ev h4 <;> (rw [h5] at e; cases e)
      · simp only [Tr.ev] at h1; rw [h1] at e; cases e
      · split at h1
        · rename_i hq2
          simp only [Bool.and_eq_true, bne_iff_ne, ne_eq] at hq2
          obtain ⟨tv, hp'⟩ := r0
          obtain ⟨_, s', h4, _⟩ := specT_ev h1
          simp only at e
          rw [h4] at e
          cases e
          exact hq2.2
        · exact h1.elim
      · exact h1.elim
    · exact h2.elim
  · exact hk.elim

theorem runOps_sound (hC : CtxOK P C) (hI : InlOK P C inl) : ∀ (l : List Oper) (st : AS) (a : Act) (w : World), Sim p μ0 st a w → (runOps P C inl ops l st).sat P Q → wpListIn (FW r) 0 P ops (conc p μ0 (postR Q)) l a w
  | [], st, a, w, hs, hq => ⟨st, ⟨rfl, hq⟩, hs⟩
  | o :: rest, st, a, w, hs, hq => by
    have ih : ∀ st' a' w', (runOps P C inl ops rest st').sat P Q → Sim p μ0 st' a' w' → wpListIn (FW r) 0 P ops (conc p μ0 (postR Q)) rest a' w' := fun st' a' w' h1 h2 => runOps_sound hC hI rest st' a' w' h2 h1
    have hs0 := hs
    obtain ⟨μ, F, hh, hf, h0, ht, hsz, hd⟩ := hs
    apply wanted_step
    unfold runOps at hq
    split at hq
    · rename_i hgs
      rw [if_pos (gstat_free ht hgs)]
      exact doFree_sound hC hI hs0 hq ih
    · rename_i hgs
      rw [if_neg (gstat_skip ht hgs)]
      exact doSkip_sound hs0 hq ih
    · rename_i g w0 b hgs
      split at hq
      · exact doSpec_sound hC hs0 hq ih
      · obtain ⟨j, e1, e2, e3⟩ := gstat_tagd hgs
        have hg := e3 b rfl
        have hval : a.tmps.getD g undef = .bool b := by have := ht g; rw [hg] at this; exact rep_x this
        have hwant := wanted_iff (tmps := a.tmps) e1 e2
        obtain ⟨h', ⟨rfl, hq2⟩ | ⟨rfl, hq2⟩⟩ := branchB_sat hq
        · have hs1 : Sim p μ0 { st with tm := st.tm.set g (.lit true), hint := h' } a w := ⟨μ, F, hh, hf, h0, ht.lit hg, by simpa using hsz, hd⟩
          cases w0 with
          | true =>
            rw [if_pos (hwant.2 hval)]
            exact doFree_sound hC hI hs1 hq2 ih
          | false =>
            rw [if_neg (fun h => by have := hwant.1 h; rw [hval] at this; cases this)]
            exact doSkip_sound hs1 hq2 ih
        · have hs1 : Sim p μ0 { st with tm := st.tm.set g (.lit false), hint := h' } a w := ⟨μ, F, hh, hf, h0, ht.lit hg, by simpa using hsz, hd⟩
          cases w0 with
          | true =>
            rw [if_neg (fun h => by have := hwant.1 h; rw [hval] at this; cases this)]
            exact doSkip_sound hs1 hq2 ih
          | false =>
            rw [if_pos (hwant.2 hval)]
            exact doFree_sound hC hI hs1 hq2 ih
    · exact doSpec_sound hC hs0 hq ih
    · exact hq.elim
end

/-! ### Results -/

def absRes (P : Program) (st : AS) : ResultVar → Tr SV
  | .tmp t => Tr.ofOpt (tvStrict none (tget st.tm t))
  | .cell t ty => match tvStrict none (tget st.tm t) with
    | some p => absLoad P st.hp ty p
    | none => .fail

def absResults (P : Program) (rs : Array ResultVar) (st : AS) : Tr SV :=
  match rs.toList with
  | [] => .ret (.tup [])
  | [x] => absRes P st x
  | [x, y] => (absRes P st x).bind fun a => (absRes P st y).bind fun b => .ret (.tup [a, b])
  | [x, y, z] => (absRes P st x).bind fun a => (absRes P st y).bind fun b => (absRes P st z).bind fun c => .ret (.tup [a, b, c])
  | _ => .fail

def resOne (tmps : Array Value) : ResultVar → Sem Value
  | .tmp t => pure (tmps.getD t undef)
  | .cell a t => do loadVar t (← asAddr (tmps.getD a undef))

theorem absRes_sound {P : Program} {w : World} {μ : Mu} {F : Nat → Prop} {st : AS} {tmps : Array Value} {x : ResultVar} {s : SV} (hl : LH w μ F st.hp) (ht : TmOK w μ F st.tm tmps) (he : (absRes P st x).ev s) : ∃ v, (resOne tmps x).run P w = .ok v w ∧ Rep w μ F v s := by
  unfold absRes at he
  split at he
  · rename_i t
    exact ⟨_, rfl, tvStrict_sound (ht t) (fun g b e => by cases e) (Tr.ev_ofOpt he)⟩
  · rename_i t ty
    split at he
    · rename_i q hq
      have hr := tvStrict_sound (ht t) (fun g b e => by cases e) hq
      obtain ⟨u, h1, h2⟩ := absLoad_sound hl hr he
      refine ⟨u, ?_, h2⟩
      unfold resOne
      unfold Instr.loadAt at h1
      have key : ∀ v, (∃ ad, v = .pointer (some ad)) → (Instr.sureAddr v >>= loadVar ty : Sem Value).run P w = (asAddr v >>= loadVar ty : Sem Value).run P w := by
        rintro v ⟨ad, rfl⟩; rfl
      have hp : ∃ ad, tmps.getD t undef = .pointer (some ad) := by
        generalize tmps.getD t undef = v at hr
        cases hr with
        | ptr => exact ⟨_, rfl⟩
        | pix => exact ⟨_, rfl⟩
        | rop => exact ⟨_, rfl⟩
        | d hd => unfold absLoad at he; split at he <;> exact he.elim
        | _ => unfold absLoad at he; split at he <;> exact he.elim
      have := key _ hp
      simp only [bind, Sem.bind] at this h1 ⊢
      exact this.symm.trans h1
    · exact he.elim

def retV : List Value → Value
  | [v] => v
  | vs => .tuple vs.toArray

theorem results_run {P : Program} {fn : Func} {tmps : Array Value} {w : World} {rs : List ResultVar} (h : fn.results = rs.toArray) {vs : List Value} (hvs : ∀ i (hi : i < rs.length), ∃ v, vs[i]? = some v ∧ (resOne tmps rs[i]).run P w = .ok v w) (hlen : vs.length = rs.length) (hn : rs.length ≤ 3) :
    (results fn tmps).run P w = .ok (retV vs) w := by
  have hres : results fn tmps = (do let vs ← fn.results.mapM (resOne tmps); pure (if h : vs.size = 1 then vs[0] else .tuple vs) : Sem Value) := rfl
  rw [hres, h]
  clear h
  match rs, vs, hlen, hn, hvs with
  | [], [], _, _, hvs => simp [retV]
  | [x], [a], _, _, hvs =>
    obtain ⟨v, e1, e2⟩ := hvs 0 (by simp)
    simp at e1 e2; subst e1
    simp [e2, retV]
  | [x, y], [a, b], _, _, hvs =>
    obtain ⟨v, e1, e2⟩ := hvs 0 (by simp)
    simp at e1 e2; subst e1
    obtain ⟨v, e3, e4⟩ := hvs 1 (by simp)
    simp at e3 e4; subst e3
    simp [e2, e4, retV]
  | [x, y, z], [a, b, c], _, _, hvs =>
    obtain ⟨v, e1, e2⟩ := hvs 0 (by simp)
    simp at e1 e2; subst e1
    obtain ⟨v, e3, e4⟩ := hvs 1 (by simp)
    simp at e3 e4; subst e3
    obtain ⟨v, e5, e6⟩ := hvs 2 (by simp)
    simp at e5 e6; subst e5
    simp [e2, e4, e6, retV]

end
end Go.Sx

/- The symbolic executor: code, functions, loops. -/
namespace Go.Sx
noncomputable section

theorem absResults_sound {P : Program} {fn : Func} {w : World} {μ : Mu} {F : Nat → Prop} {st : AS} {tmps : Array Value} {s : SV} (hl : LH w μ F st.hp) (ht : TmOK w μ F st.tm tmps) (he : (absResults P fn.results st).ev s) : ∃ v, (results fn tmps).run P w = .ok v w ∧ Rep w μ F v s := by
  have hrs : fn.results = fn.results.toList.toArray := by simp
  unfold absResults at he
  split at he
  · rename_i h
    simp only [Tr.ev] at he; subst he
    rw [h] at hrs
    exact ⟨_, results_run hrs (vs := []) (fun i hi => by simp at hi) rfl (by simp), .tup _ _ rfl fun i hi => by simp at hi⟩
  · rename_i x h
    obtain ⟨v, h1, h2⟩ := absRes_sound hl ht he
    rw [h] at hrs
    refine ⟨_, results_run hrs (vs := [v]) (fun i hi => ?_) rfl (by simp), h2⟩
    obtain rfl : i = 0 := by simpa using hi
    exact ⟨v, rfl, h1⟩
  · rename_i x y h
    obtain ⟨a, h1, h2⟩ := Tr.ev_bind he
    obtain ⟨b, h3, h4⟩ := Tr.ev_bind h2
    simp only [Tr.ev] at h4; subst h4
    obtain ⟨u, e1, e2⟩ := absRes_sound hl ht h1
    obtain ⟨v, e3, e4⟩ := absRes_sound hl ht h3
    rw [h] at hrs
    refine ⟨_, results_run hrs (vs := [u, v]) (fun i hi => ?_) rfl (by simp), .tup _ _ rfl fun i hi => ?_⟩
    · match i, hi with
      | 0, _ => exact ⟨u, rfl, e1⟩
      | 1, _ => exact ⟨v, rfl, e3⟩
    · match i, hi with
      | 0, _ => exact e2
      | 1, _ => exact e4
  · rename_i x y z h
    obtain ⟨a, h1, h2⟩ := Tr.ev_bind he
    obtain ⟨b, h3, h4⟩ := Tr.ev_bind h2
    obtain ⟨c, h5, h6⟩ := Tr.ev_bind h4
    simp only [Tr.ev] at h6; subst h6
    obtain ⟨u, e1, e2⟩ := absRes_sound hl ht h1
    obtain ⟨v, e3, e4⟩ := absRes_sound hl ht h3
    obtain ⟨t, e5, e6⟩ := absRes_sound hl ht h5
    rw [h] at hrs
    refine ⟨_, results_run hrs (vs := [u, v, t]) (fun i hi => ?_) rfl (by simp), .tup _ _ rfl fun i hi => ?_⟩
    · match i, hi with
      | 0, _ => exact ⟨u, rfl, e1⟩
      | 1, _ => exact ⟨v, rfl, e3⟩
      | 2, _ => exact ⟨t, rfl, e5⟩
    · match i, hi with
      | 0, _ => exact e2
      | 1, _ => exact e4
      | 2, _ => exact e6
  · exact he.elim

def untag (tm : List TV) : List TV := tm.map fun | .tag _ _ _ => .unk | tv => tv

def untagF {β : Type} (tm : List TV) : (List TV → β) → β :=
  List.rec (motive := fun _ => (List TV → β) → β) (fun k => k []) (fun a _ ih k => TV.rec (motive := fun _ => β) (ih fun r => k (.unk :: r)) (fun b => ih fun r => k (.lit b :: r)) (fun s => ih fun r => k (.ok s :: r)) (fun p s => ih fun r => k (.cnd p s :: r)) (fun _ _ _ => ih fun r => k (.unk :: r)) a) tm

theorem untagF_eq {β : Type} (tm : List TV) (k : List TV → β) : untagF tm k = k (untag tm) := by
  induction tm generalizing k with
  | nil => rfl
  | cons a r ih => cases a <;> exact ih _

theorem tget_untag (tm : List TV) (t : Nat) : tget (untag tm) t = (match tget tm t with | .tag _ _ _ => .unk | tv => tv) := by
  simp only [tget_def, untag]
  simp only [List.getD, List.getElem?_map]
  cases tm[t]? <;> rfl

theorem TmOK.untag {w : World} {μ : Mu} {F : Nat → Prop} {tm : List TV} {tmps : Array Value} (h : TmOK w μ F tm tmps) : TmOK w μ F (Sx.untag tm) tmps := by
  intro t
  rw [tget_untag]
  have := h t
  split
  · trivial
  · exact this

theorem Sim.untag {p : Par} {μ0 : Mu} {st : AS} {a : Act} {w : World} (h : Sim p μ0 st a w) : Sim p μ0 { st with tm := Sx.untag st.tm } a w := by
  obtain ⟨μ, F, hh, hf, h0, ht, hsz, hd⟩ := h
  exact ⟨μ, F, hh, hf, h0, ht.untag, by simpa [Sx.untag] using hsz, hd⟩

/-- Where a call's body begins. -/
def startTm (fn : Func) (args : List SV) : List TV := args.map .ok ++ List.replicate (fn.ntmps - args.length) .unk

def rhoC (tm : List TV) : Operand → Option SV
  | .tmp t => tvStrict none (tget tm t)
  | x => rho tm none x

def exec (P : Program) (C : Ctx) (dr : (FuncId → List SV → AS → Tree (SV × AS)) → Array Oper → AS → Tree AS) : Nat → Code → AS → Tree (Ex × AS)
  | 0, _, _ => .fail
  | n + 1, c, st =>
    let inl : FuncId → List SV → AS → Tree (SV × AS) := fun k args st =>
      match P.funcs[k]? with
      | none => .fail
      | some fn => match fn.body with
        | none => .fail
        | some body => (exec P C dr n body { st with tm := startTm fn args }).bind fun r => match r.1 with
          | .normal => (Tree.ofTr (absResults P fn.results r.2)).bind fun s => .ret (s, r.2)
          | .ret => (Tree.ofTr (absResults P fn.results r.2)).bind fun s => .ret (s, r.2)
          | _ => .fail
    match c with
    | .skip => .ret (.normal, st)
    | .label _ => .ret (.normal, st)
    | .ret => .ret (.ret, st)
    | .exit id => .ret (.exit id, st)
    | .region _ ops false => untagF st.tm fun tm => (runOps P C inl ops ops.toList { st with tm := tm }).bind fun s => .ret (.normal, s)
    | .region _ ops true => untagF st.tm fun tm => (dr inl ops { st with tm := tm }).bind fun s => .ret (.normal, s)
    | .seq x y => (exec P C dr n x st).bind fun r => match r.1 with
      | .normal => exec P C dr n y r.2
      | e => .ret (e, r.2)
    | .cond x y z => match rhoC st.tm x with
      | some (.d (.x (.bool b))) => branchB st.hint b (fun h => exec P C dr n y { st with hint := h }) (fun h => exec P C dr n z { st with hint := h })
      | _ => .fail
    | .block id x => (exec P C dr n x st).bind fun r => match r.1 with
      | .exit id' => if id' = id then .ret (.normal, r.2) else .ret (.exit id', r.2)
      | e => .ret (e, r.2)
    | .loop x => match st.hint with
      | .u h => (exec P C dr n x { st with hint := h }).bind fun r => match r.1 with
        | .normal => exec P C dr n (.loop x) r.2
        | e => .ret (e, r.2)
      | .run => (exec P C dr n x st).bind fun r => match r.1 with
        | .normal => exec P C dr n (.loop x) r.2
        | e => .ret (e, r.2)
      | _ => .code (.loop x) st fun e s => .ret (e, s)
    | c => .code c st fun e s => .ret (e, s)

/-- The regions that draw their order are walked soundly. -/
def DrOK (P : Program) (C : Ctx) (dr : (FuncId → List SV → AS → Tree (SV × AS)) → Array Oper → AS → Tree AS) : Prop :=
  ∀ inl, InlOK P C inl → ∀ (id : Nat) (ops : Array Oper) (st : AS) (Q : AS → Prop), (dr inl ops st).sat P Q → Triple P (.region id ops true) st (postR Q)

theorem conc_mono {p : Par} {μ0 : Mu} {Q R : Ex → AS → Prop} (h : ∀ e s, Q e s → R e s) : ∀ e a w, conc p μ0 Q e a w → conc p μ0 R e a w := by
  intro e a w hc
  cases e <;> first | exact hc.elim | (obtain ⟨s, h1, h2⟩ := hc; exact ⟨s, h _ _ h1, h2⟩)

theorem Triple.mono {P : Program} {c : Code} {st : AS} {Q R : Ex → AS → Prop} (h : Triple P c st Q) (hq : ∀ e s, Q e s → R e s) : Triple P c st R :=
  fun p μ0 a w hs => WP.mono (conc_mono hq) (h p μ0 a w hs)

theorem exec_sound {P : Program} {C : Ctx} {dr : (FuncId → List SV → AS → Tree (SV × AS)) → Array Oper → AS → Tree AS} (hC : CtxOK P C) (hD : DrOK P C dr) :
    ∀ (n : Nat) (c : Code) (st : AS) (Q : Ex × AS → Prop), (exec P C dr n c st).sat P Q → Triple P c st fun e s => Q (e, s)
  | 0, c, st, Q, h => h.elim
  | n + 1, c, st, Q, h => by
    have ih := exec_sound hC hD n
    unfold exec at h
    generalize hinl : (fun (k : FuncId) (args : List SV) (st : AS) => (match P.funcs[k]? with
      | none => Tree.fail
      | some fn => match fn.body with
        | none => .fail
        | some body => (exec P C dr n body { st with tm := startTm fn args }).bind fun r => match r.1 with
          | .normal => (Tree.ofTr (absResults P fn.results r.2)).bind fun s => .ret (s, r.2)
          | .ret => (Tree.ofTr (absResults P fn.results r.2)).bind fun s => .ret (s, r.2)
          | _ => .fail : Tree (SV × AS))) = inl at h
    have hI : InlOK P C inl := by
      subst hinl
      intro k args st0 R hk hs μ F w vs hl hf hr
      simp only at hs
      split at hs
      · exact hs.elim
      · rename_i fn hfn
        split at hs
        · exact hs.elim
        · rename_i body hbody
          have hs := Tree.sat_bind hs
          refine callsIn_wide.1 (callsIn_of_wp_marks (F := Fence.wide) (n := 0) hfn hbody trivial ?_ rfl)
          have hsim : Sim ⟨w, Tk st0.hp μ, F⟩ μ { st0 with tm := startTm fn args } { tmps := vs ++ Array.replicate (fn.ntmps - vs.size) undef, defers := [] } w := by
            refine ⟨μ, F, hl, hf, fun _ _ h => h, ?_, ?_, Marks.nil _ _ _⟩
            · intro t
              simp only [startTm, tget_def]
              simp only [List.getD, List.getElem?_append, List.length_map]
              split
              · rename_i hlt
                have hlt' : t < vs.size := by rw [hr.1]; exact hlt
                have := hr.2 t hlt
                simp only [List.getElem?_map, List.getElem?_eq_getElem hlt, Option.map_some, Option.getD_some]
                simp only [RepT]
                simpa [Array.getD_eq_getD_getElem?, Array.getElem?_append, hlt', List.getD, hlt] using this
              · by_cases h2 : t - args.length < fn.ntmps - args.length
                · simp [List.getElem?_replicate, h2, RepT]
                · simp [List.getElem?_replicate, h2, RepT]
            · simp [startTm, hr.1]
          refine Go.wpIn_mono (ih body _ _ hs _ _ _ _ hsim).wp ?_
          intro e a' w' hc
          have key : ∀ s' : AS, Tree.sat P ((Tree.ofTr (absResults P fn.results s')).bind fun s => Tree.ret (s, s')) R → Sim ⟨w, Tk st0.hp μ, F⟩ μ s' a' w' → LeavesInM Fence.wide 0 P fn a'.tmps
              (fun e w' => ∃ u s st' μ' F', e = .returned u ∧ R (s, st') ∧ HS ⟨w, Tk st0.hp μ, F⟩ μ' F' st'.hp w' ∧ Rep w' μ' F' u s ∧ (∀ l q, μ l = some q → μ' l = some q) ∧ Fresh st'.next μ') a'.defers .returning w' := by
            intro s' hq ⟨μ', F', e1, e2, e3, e4, e5, e6⟩
            have hq := Tree.sat_bind hq
            obtain ⟨s, h1, h2⟩ := Tree.sat_ofTr hq
            obtain ⟨Ds, d1, d2, d3⟩ := e6
            rw [d1]
            refine leaves_marks (tm := s'.tm) (fun w2 k1 k2 => ?_) Ds w' d2 d3 e1 e4
            obtain ⟨v, h3, h4⟩ := absResults_sound (hs_seq1 k1) k2 h1
            exact ⟨v, h3, v, s, s', μ', F', rfl, h2, k1, h4, e3, e2⟩
          cases e with
          | normal => obtain ⟨s', h1, h2⟩ := hc; exact key s' h1 h2
          | ret => obtain ⟨s', h1, h2⟩ := hc; exact key s' h1 h2
          | exit id => obtain ⟨s', h1, h2⟩ := hc; exact h1.elim
          | goto l => exact hc.elim
          | panic ch => exact hc.elim
          | outgrown => exact hc.elim
    simp only at h
    split at h
    · exact fun p μ0 a w hs => WP_skip ⟨_, h, hs⟩
    · exact fun p μ0 a w hs => WP_label ⟨_, h, hs⟩
    · exact fun p μ0 a w hs => WP_ret ⟨_, h, hs⟩
    · exact fun p μ0 a w hs => WP_exit ⟨_, h, hs⟩
    · rename_i id ops
      rw [untagF_eq] at h
      intro p μ0 a w hs
      refine WP.mono ?_ (fun r _ => wpIn_region_list (runOps_sound hC hI ops.toList _ a w hs.untag (Tree.sat_bind h)))
      refine conc_mono ?_
      rintro e s ⟨rfl, hq⟩; exact hq
    · rename_i id ops
      rw [untagF_eq] at h
      intro p μ0 a w hs
      refine WP.mono ?_ (hD inl hI id ops _ _ (Tree.sat_bind h) p μ0 a w hs.untag)
      refine conc_mono ?_
      rintro e s ⟨rfl, hq⟩; exact hq
    · rename_i x y
      intro p μ0 a w hs
      refine WP_seq (WP.mono ?_ (ih x st _ (Tree.sat_bind h) p μ0 a w hs))
      intro e a' w' hc
      cases e with
      | normal => obtain ⟨s, h1, h2⟩ := hc; exact ih y s _ h1 p μ0 a' w' h2
      | exit id => obtain ⟨s, h1, h2⟩ := hc; exact ⟨s, h1, h2⟩
      | ret => obtain ⟨s, h1, h2⟩ := hc; exact ⟨s, h1, h2⟩
      | _ => exact hc.elim
    · rename_i x y z
      split at h
      · rename_i b hb
        intro p μ0 a w hs
        have hs0 := hs
        obtain ⟨μ, F, hh, hf, h0, ht, hsz, hd⟩ := hs
        have hval : a.eval x = .bool b := by
          cases x with
          | tmp t =>
            exact rep_x (tvStrict_sound (ht t) (fun g b e => by cases e) hb)
          | const v =>
            have hb' : some (ofValue v) = some (.d (.x (.bool b))) := hb
            simp only [Option.some.injEq] at hb'
            have := rep_ofValue w μ F v
            rw [hb'] at this
            exact rep_x this
          | func f => simp [rhoC, rho] at hb
          | global g => simp [rhoC, rho] at hb
        obtain ⟨h', ⟨rfl, hq2⟩ | ⟨rfl, hq2⟩⟩ := branchB_sat h
        · exact WP_cond_true hval (ih y _ _ hq2 p μ0 a w ⟨μ, F, hh, hf, h0, ht, hsz, hd⟩)
        · exact WP_cond_false hval (ih z _ _ hq2 p μ0 a w ⟨μ, F, hh, hf, h0, ht, hsz, hd⟩)
      · exact h.elim
    · rename_i id x
      intro p μ0 a w hs
      refine WP_block (WP.mono ?_ (ih x st _ (Tree.sat_bind h) p μ0 a w hs))
      intro e a' w' hc
      cases e with
      | normal => obtain ⟨s, h1, h2⟩ := hc; exact ⟨s, h1, h2⟩
      | exit id' =>
        obtain ⟨s, h1, h2⟩ := hc
        simp only [Exit.inBlock]
        simp only at h1
        split at h1
        · rename_i e; rw [if_pos e]; exact ⟨s, h1, h2⟩
        · rename_i e; rw [if_neg e]; exact ⟨s, h1, h2⟩
      | ret => obtain ⟨s, h1, h2⟩ := hc; exact ⟨s, h1, h2⟩
      | _ => exact hc.elim
    · rename_i x
      split at h
      · rename_i h' _
        intro p μ0 a w hs
        have hs1 : Sim p μ0 { st with hint := h' } a w := hs
        refine WP_loop_unroll (fun _ _ _ h => h) (fun _ _ h => h) (WP.mono ?_ (ih x _ _ (Tree.sat_bind h) p μ0 a w hs1))
        intro e a' w' hc
        cases e with
        | normal => obtain ⟨s, h1, h2⟩ := hc; exact ih (.loop x) s _ h1 p μ0 a' w' h2
        | exit id => obtain ⟨s, h1, h2⟩ := hc; exact ⟨s, h1, h2⟩
        | ret => obtain ⟨s, h1, h2⟩ := hc; exact ⟨s, h1, h2⟩
        | _ => exact hc.elim
      · intro p μ0 a w hs1
        refine WP_loop_unroll (fun _ _ _ h => h) (fun _ _ h => h) (WP.mono ?_ (ih x _ _ (Tree.sat_bind h) p μ0 a w hs1))
        intro e a' w' hc
        cases e with
        | normal => obtain ⟨s, h1, h2⟩ := hc; exact ih (.loop x) s _ h1 p μ0 a' w' h2
        | exit id => obtain ⟨s, h1, h2⟩ := hc; exact ⟨s, h1, h2⟩
        | ret => obtain ⟨s, h1, h2⟩ := hc; exact ⟨s, h1, h2⟩
        | _ => exact hc.elim
      · obtain ⟨post, h1, h2⟩ := h
        exact h1.mono h2
    · obtain ⟨post, h1, h2⟩ := h
      exact h1.mono h2

end
end Go.Sx

/- The symbolic executor: regions that draw their order. -/
namespace Go.Sx
noncomputable section

/-! ### A part of a state -/

def restrictH (hp : Heap) (L : List Nat) : Heap := L.foldl (fun h l => hset h l (hget hp l)) []

theorem hget_nil (l : Nat) : hget [] l = none := by simp [hget_def]

theorem hget_restrict_aux (hp : Heap) : ∀ (L : List Nat) (h0 : Heap) (l : Nat), hget (L.foldl (fun h l => hset h l (hget hp l)) h0) l = if l ∈ L then hget hp l else hget h0 l
  | [], h0, l => by simp
  | a :: L, h0, l => by
    simp only [List.foldl_cons, List.mem_cons]
    rw [hget_restrict_aux hp L (hset h0 a (hget hp a)) l, hget_hset]
    by_cases h1 : l ∈ L
    · simp [h1]
    · by_cases h2 : l = a
      · subst h2; simp [h1]
      · simp [h1, h2]

theorem hget_restrict (hp : Heap) (L : List Nat) (l : Nat) : hget (restrictH hp L) l = if l ∈ L then hget hp l else none := by
  unfold restrictH; rw [hget_restrict_aux, hget_nil]

theorem restrictH_congr {hp hp' : Heap} {L : List Nat} (h : ∀ l ∈ L, hget hp l = hget hp' l) : restrictH hp L = restrictH hp' L := by
  unfold restrictH
  suffices ∀ (M : List Nat) (h0 : Heap), (∀ l ∈ M, hget hp l = hget hp' l) → M.foldl (fun h l => hset h l (hget hp l)) h0 = M.foldl (fun h l => hset h l (hget hp' l)) h0 from this L [] h
  intro M
  induction M with
  | nil => intro h0 _; rfl
  | cons a M ih => intro h0 hM; simp only [List.foldl_cons]; rw [hM a (by simp)]; exact ih _ fun l hl => hM l (by simp [hl])

def restrictT (n : Nat) (tm : List TV) (ts : List Nat) : List TV := ts.foldl (fun r t => r.set t (tget tm t)) (List.replicate n .unk)

theorem restrictT_congr {n : Nat} {tm tm' : List TV} {ts : List Nat} (h : ∀ t ∈ ts, tget tm t = tget tm' t) : restrictT n tm ts = restrictT n tm' ts := by
  unfold restrictT
  suffices ∀ (M : List Nat) (h0 : List TV), (∀ t ∈ M, tget tm t = tget tm' t) → M.foldl (fun r t => r.set t (tget tm t)) h0 = M.foldl (fun r t => r.set t (tget tm' t)) h0 from this ts _ h
  intro M
  induction M with
  | nil => intro h0 _; rfl
  | cons a M ih => intro h0 hM; simp only [List.foldl_cons]; rw [hM a (by simp)]; exact ih _ fun l hl => hM l (by simp [hl])

theorem TmOK.restrict {w : World} {μ : Mu} {F : Nat → Prop} {tm : List TV} {tmps : Array Value} (h : TmOK w μ F tm tmps) (n : Nat) (ts : List Nat) : TmOK w μ F (restrictT n tm ts) tmps := by
  unfold restrictT
  suffices ∀ (M : List Nat) (h0 : List TV), TmOK w μ F h0 tmps → TmOK w μ F (M.foldl (fun r t => r.set t (tget tm t)) h0) tmps by
    refine this ts _ fun t => ?_
    have : tget (List.replicate n TV.unk) t = .unk := by
      simp only [tget_def]
      simp only [List.getD, List.getElem?_replicate]
      split <;> rfl
    rw [this]; trivial
  intro M
  induction M with
  | nil => intro h0 h1; exact h1
  | cons a M ih =>
    intro h0 h1
    simp only [List.foldl_cons]
    refine ih _ fun t => ?_
    simp only [tget_def]
    by_cases hta : t = a
    · subst hta
      by_cases hlt : t < h0.length
      · have hat := h t
        simp only [tget_def] at hat
        simpa [List.getD, List.getElem?_set_self hlt] using hat
      · have := h1 t
        simp only [tget_def] at this
        rw [List.set_eq_of_length_le (by omega)]; exact this
    · have := h1 t
      simp only [tget_def] at this
      simpa [List.getD, List.getElem?_set_ne (fun e => hta e.symm)] using this

theorem lh_sub {p : Par} {μ : Mu} {F : Nat → Prop} {hp hp2 : Heap} {w : World} (h : HS p μ F hp w) (hs : ∀ l blk, hget hp2 l = some blk → hget hp l = some blk) : LH w μ F hp2 := by
  refine ⟨Ext.refl _ _, fun b hb => hb, fun b hb => ⟨(h.fin b hb).1, .inl hb⟩, fun l blk hg => ?_, fun l l' b1 b2 b o b' o' hne h1 h2 => h.inj l l' b1 b2 b o b' o' hne (hs _ _ h1) (hs _ _ h2)⟩
  obtain ⟨q, h1, h2, h3⟩ := h.blk l blk (hs l blk hg)
  refine ⟨q, h1, ?_, h3⟩
  cases q with
  | nil => trivial
  | pl b o => exact ⟨h2.1, .inl ⟨l, blk, o, hg, h1⟩⟩

theorem lh_restrict {p : Par} {μ : Mu} {F : Nat → Prop} {hp : Heap} {w : World} (h : HS p μ F hp w) (L : List Nat) : LH w μ F (restrictH hp L) :=
  lh_sub h fun l blk hg => by rw [hget_restrict] at hg; split at hg; exact hg; cases hg

/-- A step that knew only a part of the heap. -/
theorem hs_lift {p : Par} {μ μ' : Mu} {F F' : Nat → Prop} {hp hp' hpG : Heap} {w w' : World} {L : List Nat} {id : Nat} (h : HS p μ F hp w) (k : HS ⟨w, Tk (restrictH hp L) μ, F⟩ μ' F' hp' w') (hμ : ∀ l q, μ l = some q → μ' l = some q) (hN : ∀ l, l ≠ id → μ' l = μ l)
    (hG : ∀ l, hget hpG l = if l ∈ L ∨ l = id then hget hp' l else hget hp l) : HS p μ' F' hpG w' := by
  have hsz := h.ext.size
  have hlr := lh_restrict h L
  have hsub : ∀ b, Tk (restrictH hp L) μ b → Tk hp μ b := by
    rintro b ⟨l, blk, o, hg, hm⟩
    rw [hget_restrict] at hg
    split at hg
    · exact ⟨l, blk, o, hg, hm⟩
    · cases hg
  have hplc : ∀ b, Tk (restrictH hp L) μ b ∨ w.heap.size ≤ b → p.T b ∨ p.w0.heap.size ≤ b := fun b hb => hb.elim (fun hb => tk_par h (hsub b hb)) fun hb => .inr (by omega)
  have hextF : Ext F w w' := ext_F hlr k
  -- an old block that is not in the part
  have hold : ∀ l blk b o, ¬ (l ∈ L ∨ l = id) → hget hp l = some blk → μ l = some (.pl b o) → b < w.heap.size ∧ ¬ Tk (restrictH hp L) μ b ∧ ¬ F b := by
    intro l blk b o hl hg hm
    obtain ⟨q, h1, h2, h3⟩ := h.blk l blk hg
    rw [hm, Option.some.injEq] at h1; subst h1
    refine ⟨h3.lt, ?_, h2.1⟩
    rintro ⟨l2, blk2, o2, hg2, hm2⟩
    rw [hget_restrict] at hg2
    split at hg2
    · rename_i hin
      exact h.inj l l2 blk blk2 b o b o2 (fun e => hl (.inl (e ▸ hin))) hg hg2 hm hm2 rfl
    · cases hg2
  refine ⟨h.ext.trans (k.ext.mono fun b hb => ⟨by have := hb.1; simp only; omega, fun ht => ?_⟩), fun b hb => k.sub b (h.sub b hb), fun b hb => ⟨(k.fin b hb).1, ?_⟩, fun l blk hg => ?_, fun l l' b1 b2 b o b' o' hne h1 h2 m1 m2 => ?_⟩
  · rcases tk_par h (hsub b ht) with h1 | h1
    · exact hb.2 h1
    · have := hb.1; omega
  · rcases (k.fin b hb).2 with h1 | h1 | h1
    · exact (h.fin b h1).2
    · exact .inr (tk_par h (hsub b h1))
    · simp only at h1; exact .inr (.inr (by omega))
  · rw [hG] at hg
    split at hg
    · obtain ⟨q, h1, h2, h3⟩ := k.blk l blk hg
      refine ⟨q, h1, ?_, h3⟩
      cases q with
      | nil => trivial
      | pl b o => exact ⟨h2.1, hplc b h2.2⟩
    · rename_i hl
      obtain ⟨q, h1, h2, h3⟩ := h.blk l blk hg
      refine ⟨q, hμ _ _ h1, ?_, h3.mono hextF k.sub hμ ?_⟩
      · cases q with
        | nil => trivial
        | pl b o =>
          obtain ⟨e1, e2, e3⟩ := hold l blk b o hl hg h1
          refine ⟨fun hf => ?_, h2.2⟩
          rcases (k.fin b hf).2 with h4 | h4 | h4
          · exact e3 h4
          · exact e2 h4
          · simp only at h4; omega
      · intro b o hq; subst hq
        obtain ⟨e1, e2, e3⟩ := hold l blk b o hl hg h1
        exact k.ext.keep b ⟨e1, e2⟩
  · have mix : ∀ l l' b1 b2 b o b' o', (l ∈ L ∨ l = id) → ¬ (l' ∈ L ∨ l' = id) → hget hp' l = some b1 → hget hp l' = some b2 → μ' l = some (.pl b o) → μ' l' = some (.pl b' o') → b ≠ b' := by
      intro l l' b1 b2 b o b' o' hin hout h1 h2 m1 m2
      have hm2 : μ l' = some (.pl b' o') := by rw [← hN l' fun e => hout (.inr e)]; exact m2
      obtain ⟨e1, e2, e3⟩ := hold l' b2 b' o' hout h2 hm2
      obtain ⟨q, f1, f2, f3⟩ := k.blk l b1 h1
      rw [m1, Option.some.injEq] at f1; subst f1
      intro he; subst he
      rcases f2.2 with h4 | h4
      · exact e2 h4
      · simp only at h4; omega
    rw [hG] at h1 h2
    by_cases c1 : l ∈ L ∨ l = id
    · rw [if_pos c1] at h1
      by_cases c2 : l' ∈ L ∨ l' = id
      · rw [if_pos c2] at h2; exact k.inj l l' b1 b2 b o b' o' hne h1 h2 m1 m2
      · rw [if_neg c2] at h2; exact mix l l' b1 b2 b o b' o' c1 c2 h1 h2 m1 m2
    · rw [if_neg c1] at h1
      by_cases c2 : l' ∈ L ∨ l' = id
      · rw [if_pos c2] at h2; exact fun e => mix l' l b2 b1 b' o' b o c2 c1 h2 h1 m2 m1 e.symm
      · rw [if_neg c2] at h2
        have f1 : μ l = some (.pl b o) := by rw [← hN l fun e => c1 (.inr e)]; exact m1
        have f2 : μ l' = some (.pl b' o') := by rw [← hN l' fun e => c2 (.inr e)]; exact m2
        exact h.inj l l' b1 b2 b o b' o' hne h1 h2 f1 f2

/-! ### Which operation must come before which -/

def binding (e : Edge) : Bool := Region.binds .any e

inductive Bef (ops : Array Oper) : Nat → Nat → Prop
  | edge {i k : Nat} {o : Oper} {e : Edge} (hk : ops[k]? = some o) (he : e ∈ o.after) (hb : binding e = true) (hi : e.on = i) : Bef ops i k
  | trans {i j k : Nat} (h1 : Bef ops i j) (h2 : Bef ops j k) : Bef ops i k

def bmOne (acc : List Nat) (o : Oper) : Nat := o.after.toList.foldl (fun s e => if binding e then s ||| (1 <<< e.on) ||| acc.getD e.on 0 else s) 0

/-- For each operation, the numbers of those that must come before it, as bits (a list in the order of the text). -/
def bms : List Oper → List Nat → List Nat
  | [], acc => acc
  | o :: r, acc => bms r (acc ++ [bmOne acc o])

theorem testBit_shift (n i : Nat) : (1 <<< n).testBit i = decide (n = i) := by
  rw [Nat.shiftLeft_eq, Nat.one_mul]; exact Nat.testBit_two_pow

theorem bmOne_bef {ops : Array Oper} {acc : List Nat} {k : Nat} {o : Oper} (ho : ops[k]? = some o) (hacc : ∀ j i, (acc.getD j 0).testBit i = true → Bef ops i j) : ∀ i, (bmOne acc o).testBit i = true → Bef ops i k := by
  unfold bmOne
  suffices ∀ (l : List Edge) (s : Nat), (∀ e ∈ l, e ∈ o.after) → (∀ i, s.testBit i = true → Bef ops i k) → ∀ i, (l.foldl (fun s e => if binding e then s ||| (1 <<< e.on) ||| acc.getD e.on 0 else s) s).testBit i = true → Bef ops i k from
    this o.after.toList 0 (fun e he => by simpa using he) (fun i h => by simp at h)
  intro l
  induction l with
  | nil => intro s _ hs i h; exact hs i h
  | cons e l ih =>
    intro s hl hs i h
    simp only [List.foldl_cons] at h
    refine ih _ (fun e' he' => hl e' (by simp [he'])) ?_ i h
    intro i' h'
    split at h'
    · rename_i hb
      have hedge : Bef ops e.on k := .edge ho (hl e (by simp)) hb rfl
      simp only [Nat.testBit_or, Bool.or_eq_true] at h'
      rcases h' with (h1 | h1) | h1
      · exact hs i' h1
      · rw [testBit_shift] at h1
        have := of_decide_eq_true h1; subst this
        exact hedge
      · exact .trans (hacc _ _ h1) hedge
    · exact hs i' h'

theorem bms_bef {ops : Array Oper} : ∀ (l : List Oper) (acc : List Nat), (∀ j, l[j]? = ops[acc.length + j]?) → (∀ j i, (acc.getD j 0).testBit i = true → Bef ops i j) → ∀ j i, ((bms l acc).getD j 0).testBit i = true → Bef ops i j
  | [], acc, _, h => h
  | o :: r, acc, hl, h => by
    have ho : ops[acc.length]? = some o := by simpa using (hl 0).symm
    refine bms_bef r _ (fun j => ?_) ?_
    · have := hl (j + 1)
      simpa [Nat.add_assoc, Nat.add_comm 1 j] using this
    · intro j i hb
      by_cases hj : j < acc.length
      · refine h j i ?_
        simpa [List.getD, List.getElem?_append, hj] using hb
      · by_cases hj2 : j = acc.length
        · subst hj2
          refine bmOne_bef ho h i ?_
          simpa [List.getD, List.getElem?_append] using hb
        · have : (acc ++ [bmOne acc o]).getD j 0 = 0 := by
            simp only [List.getD]; rw [List.getElem?_eq_none (by simp; omega)]; rfl
          rw [this] at hb; simp at hb

/-- What has been carried out is closed under 'before'. -/
def Closed (ops : Array Oper) (S : Nat → Bool) : Prop := ∀ k o e, S k = true → ops[k]? = some o → e ∈ o.after → binding e = true → S e.on = true

theorem Closed.bef {ops : Array Oper} {S : Nat → Bool} (h : Closed ops S) {i k : Nat} (hb : Bef ops i k) : S k = true → S i = true := by
  induction hb with
  | edge hk he hb hi => intro hs; rw [← hi]; exact h _ _ _ hs hk he hb
  | trans _ _ ih1 ih2 => intro hs; exact ih1 (ih2 hs)

end
end Go.Sx

/- The symbolic executor: regions that draw their order: one walk in the order of the text serves every order. -/
namespace Go.Sx
noncomputable section

/-- What an operation of such a region has read and written. -/
structure Ev where
  dst : Option Nat
  tv : TV
  ts : List Nat
  L : List Nat
  W : Delta
  id : Nat
  nq : Bool

def locs1 : SV → List Nat
  | .ptr l _ => [l]
  | .pix l _ _ _ _ _ => [l]
  | .row l _ _ _ _ => [l]
  | _ => []

def locs : SV → List Nat
  | .agg cs => cs.flatMap locs1
  | .fn _ a b => (a ++ b).flatMap locs1
  | .tup vs => vs.flatMap fun | .agg cs => cs.flatMap locs1 | s => locs1 s
  | s => locs1 s

def tvLocs : TV → List Nat
  | .ok s => locs s
  | .tag _ _ s => locs s
  | .cnd _ s => locs s
  | _ => []

/-- The slots of the guards on which an operation hangs. -/
def gslots (ops : Array Oper) (tm : List TV) (o : Oper) : List Nat :=
  match o.guard with
  | none => []
  | some (j, _) => match (ops[j]?).bind (·.dst) with
    | none => []
    | some g => g :: gchain 8 tm g
where
  gchain : Nat → List TV → Nat → List Nat
    | 0, _, _ => []
    | n + 1, tm, g => match tget tm g with
      | .tag g2 _ _ => g2 :: gchain n tm g2
      | _ => []

def restrictK {β : Type} (tm : List TV) (ts : List Nat) : List TV → (List TV → β) → β :=
  List.rec (motive := fun _ => List TV → (List TV → β) → β) (fun acc k => k acc) (fun t _ ih acc k => setR acc t (tget tm t) (fun acc => ih acc k) (ih acc k)) ts

theorem restrictK_eq {β : Type} (tm : List TV) (ts : List Nat) (acc : List TV) (k : List TV → β) : restrictK tm ts acc k = k (ts.foldl (fun r t => r.set t (tget tm t)) acc) := by
  induction ts generalizing acc with
  | nil => rfl
  | cons t ts ih =>
    show setR acc t (tget tm t) (fun acc => restrictK tm ts acc k) (restrictK tm ts acc k) = _
    rw [setR_eq, List.foldl_cons]
    simp only [ih]
    split
    · rfl
    · rename_i h; rw [List.set_eq_of_length_le (by omega)]

def isApp : Op → Bool
  | .call c => (match c.callee with | .builtin .append => true | _ => false)
  | _ => false
/-- The blocks of rows that lie in a block. -/
def inner (hp : Heap) (l : Nat) : List Nat := match hget hp l with
  | some (.cells cs) => (match dvsOf cs with
    | some _ => []
    | none => cs.flatMap locs)
  | _ => []
def deepL (o : Oper) (hp : Heap) (L : List Nat) : List Nat := match isApp o.op with
  | true => L ++ L.flatMap (inner hp)
  | false => L

def evOp (P : Program) (C : Ctx) (ops : Array Oper) (o : Oper) (st : AS) : Tr (Ev × AS) :=
  fNats (opSlots o ++ gslots ops st.tm o) fun ts =>
  fNats (deepL o st.hp ((opSlots o).flatMap fun t => tvLocs (tget st.tm t))) fun L =>
  restrictK st.tm ts (List.replicate st.tm.length .unk) fun rt =>
  (stepTr (isRun st.hint) P C ops st.next rt (restrictH st.hp L) o).bind fun r =>
    fTV r.1 fun tv =>
    fDl (if quietC C o.op then [] else (st.next :: L).map fun l => (l, hget r.2 l)) fun W =>
    putG st.tm o.dst tv (fun tm => fHp (happ st.hp W) fun hp => fNat (st.next + 1) fun nx => .ret (⟨o.dst, tv, ts, L, W, st.next, !quietC C o.op⟩, ⟨tm, hp, nx, st.hint⟩)) .fail

theorem evOp_eq {P : Program} {C : Ctx} {ops : Array Oper} {o : Oper} {st : AS} : evOp P C ops o st =
  (let ts := opSlots o ++ gslots ops st.tm o
  let L := deepL o st.hp ((opSlots o).flatMap fun t => tvLocs (tget st.tm t))
  (stepTr (isRun st.hint) P C ops st.next (restrictT st.tm.length st.tm ts) (restrictH st.hp L) o).bind fun r =>
    let W : Delta := if quietC C o.op then [] else (st.next :: L).map fun l => (l, hget r.2 l)
    match putD st.tm o.dst r.1 with
    | some tm => .ret (⟨o.dst, r.1, ts, L, W, st.next, !quietC C o.op⟩, ⟨tm, happ st.hp W, st.next + 1, st.hint⟩)
    | none => .fail) := by
  unfold evOp
  simp only [fNats_eq, fTV_eq, fDl_eq, putG_eq, fHp_eq, fNat_eq, restrictK_eq]
  rfl

theorem Tr.bind_ev {α β : Type} {f : α → Tr β} {a : α} {b : β} : ∀ {t : Tr α}, t.ev a → (f a).ev b → (t.bind f).ev b
  | .ret c, h, k => by simp only [Tr.ev] at h; subst h; exact k
  | .ite c t e, h, k => h.imp (fun h => ⟨h.1, Tr.bind_ev h.2 k⟩) (fun h => ⟨h.1, Tr.bind_ev h.2 k⟩)
  | .need p t, h, k => ⟨h.1, Tr.bind_ev h.2 k⟩
  | .dneed p _ t, h, k => ⟨h.1, Tr.bind_ev (t := t) h.2 k⟩
  | .fail, h, _ => h.elim

def evOps (P : Program) (C : Ctx) (ops : Array Oper) : List Oper → AS → Tr (List Ev × AS)
  | [], st => .ret ([], st)
  | o :: r, st => (evOp P C ops o st).bind fun x => (evOps P C ops r x.2).bind fun y => .ret (x.1 :: y.1, y.2)

def isSomeD (d : Option Nat) (ts : List Nat) : Bool := match d with | some t => ts.contains t | none => false

def clash (a b : Ev) : Bool :=
  isSomeD a.dst b.ts || isSomeD b.dst a.ts || (match a.dst, b.dst with | some x, some y => x == y | _, _ => false) ||
  a.W.any (fun e => b.L.contains e.1 || b.W.any fun f => f.1 == e.1) || b.W.any (fun e => a.L.contains e.1)

/-- The slot on whose bool a value hangs is not this one. -/
def tagNot (tv : TV) (d : Option Nat) : Bool := match tv, d with | .tag g _ _, some d => g != d | _, _ => true

def sameDst (a b : Ev) : Bool := match a.dst, b.dst with | some x, some y => x == y | _, _ => false

/-- a stands before b in the text: they may change places, or a comes first; and b does not write over a guard of a's. -/
def pairOK (bb : Nat) (i : Nat) (a b : Ev) : Bool := (bb.testBit i || !clash a b) && tagNot a.tv b.dst && !sameDst a b

def rowOK (bb : Nat) (b : Ev) : Nat → List Ev → Bool
  | _, [] => true
  | i, a :: r => pairOK bb i a b && rowOK bb b (i + 1) r

def allOK : List Nat → List Ev → List Ev → Bool
  | _, _, [] => true
  | bs, done, b :: r => rowOK (bs.headD 0) b 0 done && (b.W.all fun e => b.L.contains e.1 || (b.nq && e.1 == b.id)) && allOK bs.tail (done ++ [b]) r

def edgesOK : Nat → List Oper → Bool
  | _, [] => true
  | k, o :: r => (o.after.toList.all fun e => !binding e || decide (e.on < k)) && edgesOK (k + 1) r

/-- The same, one after the other, all that is held against what comes later reckoned ahead. -/
def dK (P : Program) (C : Ctx) (ops : Array Oper) : List Oper → List Nat → List Ev → AS → Tree AS
  | [], _, _, st => .ret st
  | o :: r, acc, done, st =>
    fNat (bmOne acc o) fun b => (ofTrH st.hint (evOp P C ops o st)).bind fun x =>
      match rowOK b x.1 0 done && (x.1.W.all fun e => x.1.L.contains e.1 || (x.1.nq && e.1 == x.1.id)) with
      | true => fNats (acc ++ [b]) fun acc => fSp (done ++ [x.1]) fun done => dK P C ops r acc done x.2
      | false => .fail

theorem bms_pre : ∀ (l : List Oper) (acc : List Nat), ∃ t, bms l acc = acc ++ t
  | [], acc => ⟨[], by simp [bms]⟩
  | o :: r, acc => by
    obtain ⟨t, h⟩ := bms_pre r (acc ++ [bmOne acc o])
    exact ⟨bmOne acc o :: t, by simp [bms, h]⟩

theorem dK_sat {P : Program} {C : Ctx} {ops : Array Oper} {Q : AS → Prop} : ∀ (l : List Oper) (acc : List Nat) (done : List Ev) (st : AS), (dK P C ops l acc done st).sat P Q →
    ∃ evs st', (evOps P C ops l st).ev (evs, st') ∧ allOK ((bms l acc).drop acc.length) done evs = true ∧ Q st'
  | [], acc, done, st, h => ⟨[], st, rfl, rfl, h⟩
  | o :: r, acc, done, st, h => by
    simp only [dK, fNat_eq, fNats_eq, fSp_eq] at h
    obtain ⟨x, h1, h2⟩ := sat_ofTrH (Tree.sat_bind h)
    split at h2
    · rename_i hb
      obtain ⟨evs, st', h3, h4, h5⟩ := dK_sat r _ _ _ h2
      refine ⟨x.1 :: evs, st', ?_, ?_, h5⟩
      · simp only [evOps]
        exact Tr.bind_ev h1 (Tr.bind_ev h3 rfl)
      · obtain ⟨t, ht⟩ := bms_pre r (acc ++ [bmOne acc o])
        simp only [bms, ht, List.append_assoc, List.drop_left] at h4 ⊢
        rw [show (acc ++ [bmOne acc o]).length = acc.length + 1 by simp, ← List.drop_drop, List.drop_left] at h4
        simp only [Bool.and_eq_true] at hb
        simp only [List.singleton_append, List.drop_succ_cons, List.drop_zero] at h4
        simp only [List.singleton_append, allOK, List.headD_cons, List.tail_cons, Bool.and_eq_true]
        exact ⟨hb, h4⟩
    · exact h2.elim

def drawn (P : Program) (C : Ctx) (ops : Array Oper) (st : AS) : Tree AS :=
  if edgesOK 0 ops.toList then untagF st.tm fun tm => dK P C ops ops.toList [] [] { st with tm := tm } else .fail

/-! ### States made of what has been carried out -/

structure St where
  tm : List TV
  hp : Heap

def ap (s : St) (e : Ev) : St := ⟨match e.dst with | some d => s.tm.set d e.tv | none => s.tm, happ s.hp e.W⟩

def foldE (S : Nat → Bool) : Nat → List Ev → St → St
  | _, [], s => s
  | k, e :: r, s => foldE S (k + 1) r (if S k then ap s e else s)

theorem length_ap (s : St) (e : Ev) : (ap s e).tm.length = s.tm.length := by unfold ap; cases e.dst <;> simp

theorem length_foldE (S : Nat → Bool) : ∀ (l : List Ev) (k : Nat) (s : St), (foldE S k l s).tm.length = s.tm.length
  | [], k, s => rfl
  | e :: r, k, s => by
    unfold foldE; rw [length_foldE S r]
    split
    · exact length_ap s e
    · rfl

theorem tget_ap (s : St) (e : Ev) (t : Nat) (h : e.dst ≠ some t) : tget (ap s e).tm t = tget s.tm t := by
  unfold ap
  cases hd : e.dst with
  | none => rfl
  | some d =>
    have : d ≠ t := fun he => h (by rw [hd, he])
    simp only [tget_def, List.getD, List.getElem?_set_ne this]

theorem tget_ap_same (s s' : St) (e : Ev) (t : Nat) (h : e.dst = some t) (hl : s.tm.length = s'.tm.length) : tget (ap s e).tm t = tget (ap s' e).tm t := by
  unfold ap
  simp only [h, tget_def, List.getD]
  by_cases hlt : t < s.tm.length
  · rw [List.getElem?_set_self hlt, List.getElem?_set_self (by omega)]
  · rw [List.getElem?_eq_none (by simp; omega), List.getElem?_eq_none (by simp; omega)]

def wkey (W : Delta) (l : Nat) : Bool := W.any fun e => e.1 == l

theorem happ_get (W : Delta) : ∀ (hp hp' : Heap) (l : Nat), (wkey W l = false → hget (happ hp W) l = hget hp l) ∧ (wkey W l = true → hget (happ hp W) l = hget (happ hp' W) l) := by
  unfold happ wkey
  induction W with
  | nil => intro hp hp' l; simp
  | cons e W ih =>
    intro hp hp' l
    simp only [List.foldl_cons, List.any_cons, Bool.or_eq_false_iff, Bool.or_eq_true]
    refine ⟨fun ⟨h1, h2⟩ => ?_, fun h => ?_⟩
    · rw [(ih _ hp l).1 h2, hget_hset, if_neg (by simp at h1; exact fun e => h1 e.symm)]
    · cases hw : W.any (fun e => e.1 == l) with
      | true => exact (ih _ _ l).2 hw
      | false =>
        rw [(ih _ hp l).1 hw, (ih _ hp l).1 hw, hget_hset, hget_hset]
        rcases h with h | h
        · have : l = e.1 := by simpa using Eq.symm (by simpa using h)
          simp [this]
        · rw [hw] at h; cases h

/-- Two sets that agree on those who write a slot. -/
theorem foldE_tm (S S' : Nat → Bool) (t : Nat) : ∀ (l : List Ev) (k : Nat) (s s' : St), s.tm.length = s'.tm.length → tget s.tm t = tget s'.tm t → (∀ j e, l[j]? = some e → e.dst = some t → S (k + j) = S' (k + j)) →
    tget (foldE S k l s).tm t = tget (foldE S' k l s').tm t
  | [], k, s, s', _, h, _ => h
  | e :: r, k, s, s', hl, h, hw => by
    unfold foldE
    refine foldE_tm S S' t r (k + 1) _ _ ?_ ?_ fun j e' hj hd => by have := hw (j + 1) e' (by simpa using hj) hd; rwa [show k + (j + 1) = k + 1 + j by omega] at this
    · split <;> split <;> simp [length_ap, hl]
    · by_cases hd : e.dst = some t
      · have := hw 0 e (by simp) hd
        simp only [Nat.add_zero] at this
        rw [← this]
        split
        · exact tget_ap_same s s' e t hd hl
        · exact h
      · split <;> split <;> simp only [tget_ap _ _ _ hd, h]

theorem foldE_hp (S S' : Nat → Bool) (l : Nat) : ∀ (es : List Ev) (k : Nat) (s s' : St), hget s.hp l = hget s'.hp l → (∀ j e, es[j]? = some e → wkey e.W l = true → S (k + j) = S' (k + j)) →
    hget (foldE S k es s).hp l = hget (foldE S' k es s').hp l
  | [], k, s, s', h, _ => h
  | e :: r, k, s, s', h, hw => by
    unfold foldE
    refine foldE_hp S S' l r (k + 1) _ _ ?_ fun j e' hj hd => by have := hw (j + 1) e' (by simpa using hj) hd; rwa [show k + (j + 1) = k + 1 + j by omega] at this
    cases hk : wkey e.W l with
    | true =>
      have := hw 0 e (by simp) hk
      simp only [Nat.add_zero] at this
      rw [← this]
      split
      · exact (happ_get e.W s.hp s'.hp l).2 hk
      · exact h
    | false =>
      have e1 : hget (ap s e).hp l = hget s.hp l := (happ_get e.W s.hp s.hp l).1 hk
      have e2 : hget (ap s' e).hp l = hget s'.hp l := (happ_get e.W s'.hp s'.hp l).1 hk
      split <;> split <;> simp only [e1, e2, h]

/-- The last one who writes a slot. -/
theorem foldE_tm_last (S : Nat → Bool) (t : Nat) {e : Ev} (hd : e.dst = some t) : ∀ (l : List Ev) (j k : Nat) (s s0 : St), l[j]? = some e → S (k + j) = true → (∀ j' e', j < j' → l[j']? = some e' → S (k + j') = true → e'.dst ≠ some t) → s.tm.length = s0.tm.length →
    tget (foldE S k l s).tm t = tget (ap s0 e).tm t
  | [], j, k, s, s0, hj, _, _, _ => by simp at hj
  | a :: r, 0, k, s, s0, hj, hS, hl, hlen => by
    simp only [List.getElem?_cons_zero, Option.some.injEq] at hj; subst hj
    unfold foldE
    simp only [Nat.add_zero] at hS
    rw [if_pos hS]
    have : tget (foldE S (k + 1) r (ap s a)).tm t = tget (foldE (fun _ => false) (k + 1) r (ap s a)).tm t := by
      refine foldE_tm _ _ t r (k + 1) _ _ rfl rfl fun j e' hj hd' => ?_
      cases hs : S (k + 1 + j) with
      | false => rfl
      | true => exact (hl (j + 1) e' (by omega) (by simpa using hj) (by rwa [show k + (j + 1) = k + 1 + j by omega]) hd').elim
    rw [this]
    have : ∀ (r : List Ev) (k : Nat) (s : St), foldE (fun _ => false) k r s = s := by
      intro r
      induction r with
      | nil => intro k s; rfl
      | cons x r ih => intro k s; unfold foldE; simp [ih]
    rw [this]
    exact tget_ap_same s s0 a t hd hlen
  | a :: r, j + 1, k, s, s0, hj, hS, hl, hlen => by
    unfold foldE
    refine foldE_tm_last S t hd r j (k + 1) _ s0 (by simpa using hj) (by rwa [show k + 1 + j = k + (j + 1) by omega]) (fun j' e' h1 h2 h3 => hl (j' + 1) e' (by omega) (by simpa using h2) (by rwa [show k + (j' + 1) = k + 1 + j' by omega])) ?_
    split <;> simp [length_ap, hlen]

theorem foldE_hp_last (S : Nat → Bool) (l : Nat) {e : Ev} (hd : wkey e.W l = true) : ∀ (es : List Ev) (j k : Nat) (s s0 : St), es[j]? = some e → S (k + j) = true → (∀ j' e', j < j' → es[j']? = some e' → S (k + j') = true → wkey e'.W l = false) →
    hget (foldE S k es s).hp l = hget (ap s0 e).hp l
  | [], j, k, s, s0, hj, _, _ => by simp at hj
  | a :: r, 0, k, s, s0, hj, hS, hl => by
    simp only [List.getElem?_cons_zero, Option.some.injEq] at hj; subst hj
    unfold foldE
    simp only [Nat.add_zero] at hS
    rw [if_pos hS]
    have : hget (foldE S (k + 1) r (ap s a)).hp l = hget (foldE (fun _ => false) (k + 1) r (ap s a)).hp l := by
      refine foldE_hp _ _ l r (k + 1) _ _ rfl fun j e' hj hd' => ?_
      cases hs : S (k + 1 + j) with
      | false => rfl
      | true => have := hl (j + 1) e' (by omega) (by simpa using hj) (by rwa [show k + (j + 1) = k + 1 + j by omega]); rw [hd'] at this; cases this
    rw [this]
    have : ∀ (r : List Ev) (k : Nat) (s : St), foldE (fun _ => false) k r s = s := by
      intro r
      induction r with
      | nil => intro k s; rfl
      | cons x r ih => intro k s; unfold foldE; simp [ih]
    rw [this]
    exact (happ_get a.W s.hp s0.hp l).2 hd
  | a :: r, j + 1, k, s, s0, hj, hS, hl => by
    unfold foldE
    exact foldE_hp_last S l hd r j (k + 1) _ s0 (by simpa using hj) (by rwa [show k + 1 + j = k + (j + 1) by omega]) (fun j' e' h1 h2 h3 => hl (j' + 1) e' (by omega) (by simpa using h2) (by rwa [show k + (j' + 1) = k + 1 + j' by omega]))

end
end Go.Sx

/- The symbolic executor: regions that draw their order: the theorem. -/
namespace Go.Sx
noncomputable section

theorem foldE_shift (S : Nat → Bool) : ∀ (l : List Ev) (k : Nat) (s : St), foldE S (k + 1) l s = foldE (fun i => S (i + 1)) k l s
  | [], k, s => rfl
  | e :: r, k, s => by unfold foldE; exact foldE_shift S r (k + 1) _

theorem foldE_cons (S : Nat → Bool) (k : Nat) (e : Ev) (r : List Ev) (s : St) : foldE S k (e :: r) s = foldE S (k + 1) r (if S k then ap s e else s) := rfl

theorem foldE_false : ∀ (l : List Ev) (k : Nat) (s : St), foldE (fun _ => false) k l s = s
  | [], k, s => rfl
  | e :: r, k, s => by rw [foldE_cons]; exact foldE_false r _ _

theorem foldE_congr {S S' : Nat → Bool} : ∀ (l : List Ev) (k : Nat) (s : St), (∀ j, j < l.length → S (k + j) = S' (k + j)) → foldE S k l s = foldE S' k l s
  | [], k, s, _ => rfl
  | e :: r, k, s, h => by
    unfold foldE
    have h0 := h 0 (by simp)
    simp only [Nat.add_zero] at h0
    rw [h0]
    exact foldE_congr r (k + 1) _ fun j hj => by have := h (j + 1) (by simpa using hj); rwa [show k + (j + 1) = k + 1 + j by omega] at this

theorem stepTr_quiet {rn : Bool} {P : Program} {C : Ctx} {ops : Array Oper} {id : Nat} {tm : List TV} {hp hp' : Heap} {o : Oper} {tv : TV} (hq : quietC C o.op = true) (he : (stepTr rn P C ops id tm hp o).ev (tv, hp')) : hp' = hp := by
  unfold stepTr at he
  split at he
  · split at he
    · simp only [Tr.ev, Prod.mk.injEq] at he; exact he.2
    obtain ⟨r, h1, h2⟩ := Tr.ev_bind he
    obtain ⟨rfl, _⟩ := litOf_ev h2
    exact opAll_quiet hq h1
  · simp only [Tr.ev, Prod.mk.injEq] at he; exact he.2
  · split at he
    · exact (specT_ev he).1
    · exact he.elim
  · exact he.elim

theorem stepTr_tag {rn : Bool} {P : Program} {C : Ctx} {ops : Array Oper} {id : Nat} {tm : List TV} {hp hp' : Heap} {o : Oper} {g : Nat} {b : Bool} {s : SV} (he : (stepTr rn P C ops id tm hp o).ev (.tag g b s, hp')) : o.dst ≠ some g ∧ ∃ j, o.guard = some (j, b) ∧ (ops[j]?).bind (·.dst) = some g := by
  unfold stepTr at he
  split at he
  · split at he
    · simp only [Tr.ev, Prod.mk.injEq] at he; cases he.1
    obtain ⟨r, h1, h2⟩ := Tr.ev_bind he
    obtain ⟨_, h3 | ⟨_, h3, _⟩⟩ := litOf_ev h2 <;> cases h3
  · simp only [Tr.ev, Prod.mk.injEq] at he; cases he.1
  · rename_i g' b' c hgs
    split at he
    · rename_i hq
      simp only [Bool.and_eq_true, bne_iff_ne, ne_eq] at hq
      obtain ⟨_, s', h1, _⟩ := specT_ev he
      cases h1
      obtain ⟨j, h3, h4, _⟩ := gstat_tagd hgs
      exact ⟨hq.2, j, h3, h4⟩
    · exact he.elim
  · exact he.elim

/-- What is known of an operation and what was written down of it. -/
structure EvOK (P : Program) (C : Ctx) (ops : Array Oper) (o : Oper) (tm : List TV) (hp : Heap) (e : Ev) : Prop where
  dst : e.dst = o.dst
  ts : ∀ t ∈ opSlots o, t ∈ e.ts
  tag : ∀ g b s, e.tv = .tag g b s → g ∈ e.ts ∧ o.dst ≠ some g
  len : ∀ d, o.dst = some d → d < tm.length
  run : ∃ rn hp', (stepTr rn P C ops e.id (restrictT tm.length tm e.ts) (restrictH hp e.L) o).ev (e.tv, hp') ∧ e.W = if quietC C o.op then [] else (e.id :: e.L).map fun l => (l, hget hp' l)
  nq : e.nq = !quietC C o.op

theorem evOp_spec {P : Program} {C : Ctx} {ops : Array Oper} {o : Oper} {st st' : AS} {e : Ev} (h : (evOp P C ops o st).ev (e, st')) : EvOK P C ops o st.tm st.hp e ∧ ⟨st'.tm, st'.hp⟩ = ap ⟨st.tm, st.hp⟩ e ∧ e.id = st.next ∧ st'.next = st.next + 1 := by
  rw [evOp_eq] at h
  obtain ⟨r, h1, h2⟩ := Tr.ev_bind h
  simp only at h2
  split at h2
  · rename_i tm' hpd
    simp only [Tr.ev, Prod.mk.injEq] at h2
    obtain ⟨rfl, rfl⟩ := h2
    obtain ⟨tv, hp'⟩ := r
    refine ⟨⟨rfl, fun t ht => List.mem_append.2 (.inl ht), ?_, ?_, ⟨_, hp', h1, rfl⟩, rfl⟩, ?_, rfl, rfl⟩
    · intro g b s htv
      simp only at htv; subst htv
      obtain ⟨h3, j, h4, h5⟩ := stepTr_tag h1
      refine ⟨List.mem_append.2 (.inr ?_), h3⟩
      unfold gslots
      simp only [h4, h5]
      exact List.mem_cons_self ..
    · intro d hd
      rw [hd] at hpd
      simp only [putD] at hpd
      split at hpd
      · rename_i hk; exact hk.1
      · cases hpd
    · cases hd : o.dst with
      | none => rw [hd] at hpd; simp only [putD, Option.some.injEq] at hpd; subst hpd; simp [ap, hd]
      | some d =>
        rw [hd] at hpd
        simp only [putD] at hpd
        split at hpd
        · simp only [Option.some.injEq] at hpd; subst hpd; simp [ap, hd]
        · cases hpd
  · exact h2.elim

theorem evOps_spec {P : Program} {C : Ctx} {ops : Array Oper} : ∀ (l : List Oper) (st stF : AS) (evs : List Ev), (evOps P C ops l st).ev (evs, stF) →
    evs.length = l.length ∧ ⟨stF.tm, stF.hp⟩ = foldE (fun _ => true) 0 evs ⟨st.tm, st.hp⟩ ∧ stF.next = st.next + l.length ∧
    ∀ j o e, l[j]? = some o → evs[j]? = some e → EvOK P C ops o (foldE (fun i => decide (i < j)) 0 evs ⟨st.tm, st.hp⟩).tm (foldE (fun i => decide (i < j)) 0 evs ⟨st.tm, st.hp⟩).hp e ∧ e.id = st.next + j
  | [], st, stF, evs, h => by
    simp only [evOps, Tr.ev, Prod.mk.injEq] at h
    obtain ⟨rfl, rfl⟩ := h
    exact ⟨rfl, rfl, rfl, fun j o e hj => by simp at hj⟩
  | o :: r, st, stF, evs, h => by
    simp only [evOps] at h
    obtain ⟨⟨e, st1⟩, h1, h2⟩ := Tr.ev_bind h
    obtain ⟨⟨es, st2⟩, h3, h4⟩ := Tr.ev_bind h2
    simp only [Tr.ev, Prod.mk.injEq] at h4
    obtain ⟨rfl, rfl⟩ := h4
    obtain ⟨e1, e2, e3, e4⟩ := evOp_spec h1
    obtain ⟨f1, f2, f3, f4⟩ := evOps_spec r st1 stF es h3
    refine ⟨by simp [f1], ?_, by rw [f3, e4]; simp; omega, ?_⟩
    · rw [f2, e2, foldE_cons, foldE_shift]
      rfl
    · intro j o' e' hj he
      cases j with
      | zero =>
        simp only [List.getElem?_cons_zero, Option.some.injEq] at hj he
        subst hj; subst he
        have : foldE (fun i => decide (i < 0)) 0 (e :: es) ⟨st.tm, st.hp⟩ = ⟨st.tm, st.hp⟩ := by
          have hf : (fun i : Nat => decide (i < 0)) = fun _ => false := by funext i; simp
          rw [hf]; exact foldE_false _ _ _
        rw [this]
        exact ⟨e1, e3⟩
      | succ j =>
        obtain ⟨g1, g2⟩ := f4 j o' e' (by simpa using hj) (by simpa using he)
        have : foldE (fun i => decide (i < j + 1)) 0 (e :: es) ⟨st.tm, st.hp⟩ = foldE (fun i => decide (i < j)) 0 es ⟨st1.tm, st1.hp⟩ := by
          rw [e2]
          rw [foldE_cons, foldE_shift, if_pos (by simp)]
          exact foldE_congr _ _ _ fun i _ => by simp
        rw [this]
        exact ⟨g1, by rw [g2, e4]; omega⟩

/-! ### The pairs -/

theorem rowOK_spec {bb : Nat} {b : Ev} : ∀ {l : List Ev} {i : Nat}, rowOK bb b i l = true → ∀ j a, l[j]? = some a → pairOK bb (i + j) a b = true
  | [], i, _, j, a, h => by simp at h
  | x :: r, i, h, j, a, hj => by
    simp only [rowOK, Bool.and_eq_true] at h
    cases j with
    | zero => simp only [List.getElem?_cons_zero, Option.some.injEq] at hj; subst hj; exact h.1
    | succ j =>
      have := rowOK_spec h.2 j a (by simpa using hj)
      rwa [show i + (j + 1) = i + 1 + j by omega]

theorem allOK_spec : ∀ {l : List Ev} {bs : List Nat} {done : List Ev}, allOK bs done l = true → ∀ k e, l[k]? = some e →
    (∀ i a, (done ++ l)[i]? = some a → i < done.length + k → pairOK (bs.getD k 0) i a e = true)
  | [], bs, done, _, k, e, h => by simp at h
  | b :: r, bs, done, h, k, e, hk => by
    simp only [allOK, Bool.and_eq_true] at h
    obtain ⟨⟨h1, _⟩, h2⟩ := h
    cases k with
    | zero =>
      simp only [List.getElem?_cons_zero, Option.some.injEq] at hk; subst hk
      intro i a hi hlt
      have hi' : done[i]? = some a := by
        rw [List.getElem?_append_left (by omega)] at hi; exact hi
      have := rowOK_spec h1 i a hi'
      cases bs <;> simpa using this
    | succ k =>
      have ih := allOK_spec h2 k e (by simpa using hk)
      intro i a hi hlt
      have := ih i a (by simpa using hi) (by simp; omega)
      cases bs <;> simpa using this

theorem edgesOK_spec : ∀ {l : List Oper} {k : Nat}, edgesOK k l = true → ∀ j o e, l[j]? = some o → e ∈ o.after → binding e = true → e.on < k + j
  | [], k, _, j, o, e, h => by simp at h
  | x :: r, k, h, j, o, e, hj => by
    simp only [edgesOK, Bool.and_eq_true] at h
    intro he hb
    cases j with
    | zero =>
      simp only [List.getElem?_cons_zero, Option.some.injEq] at hj; subst hj
      have := List.all_eq_true.1 h.1 e (by simpa using he)
      simpa [hb] using this
    | succ j =>
      have := edgesOK_spec h.2 j o e (by simpa using hj) he hb
      omega

theorem foldE_tag (S : Nat → Bool) (t : Nat) {g : Nat} {b : Bool} {s : SV} : ∀ (l : List Ev) (k : Nat) (s0 : St), tget (foldE S k l s0).tm t = .tag g b s → tget s0.tm t = .tag g b s ∨ ∃ j e, l[j]? = some e ∧ S (k + j) = true ∧ e.tv = .tag g b s ∧ e.dst = some t
  | [], k, s0, h => .inl h
  | e :: r, k, s0, h => by
    unfold foldE at h
    rcases foldE_tag S t r (k + 1) _ h with h1 | ⟨j, e', h1, h2, h3, h4⟩
    · split at h1
      · rename_i hS
        by_cases hd : e.dst = some t
        · by_cases hlt : t < s0.tm.length
          · right
            refine ⟨0, e, by simp, by simpa using hS, ?_, hd⟩
            unfold ap at h1
            simpa [hd, tget_def, List.getD, List.getElem?_set_self hlt] using h1
          · unfold ap at h1
            simp only [hd, tget_def, List.getD] at h1
            rw [List.getElem?_eq_none (by simp; omega)] at h1
            cases h1
        · rw [tget_ap _ _ _ hd] at h1; exact .inl h1
      · exact .inl h1
    · exact .inr ⟨j + 1, e', by simpa using h1, by rwa [show k + (j + 1) = k + 1 + j by omega], h3, h4⟩

theorem noTag_of {tm : List TV} {d : Nat} (h : ∀ t g b s, tget tm t = .tag g b s → g ≠ d) : noTag tm d = true := by
  unfold noTag
  rw [List.all_eq_true]
  intro tv htv
  obtain ⟨i, hi, rfl⟩ := List.mem_iff_getElem.1 htv
  have := h i
  simp only [tget_def] at this
  simp only [List.getD, List.getElem?_eq_getElem hi, Option.getD_some] at this
  split
  · rename_i g b s heq
    have := this g b s heq
    simpa using this
  · rfl

theorem hs_congr {p : Par} {μ : Mu} {F : Nat → Prop} {hp hp' : Heap} {w : World} (h : HS p μ F hp w) (he : ∀ l, hget hp' l = hget hp l) : HS p μ F hp' w :=
  ⟨h.ext, h.sub, h.fin, fun l blk hg => h.blk l blk (by rw [← he]; exact hg), fun l l' b1 b2 b o b' o' hne h1 h2 => h.inj l l' b1 b2 b o b' o' hne (by rw [← he]; exact h1) (by rw [← he]; exact h2)⟩

theorem tmOK_congr {w : World} {μ : Mu} {F : Nat → Prop} {tm tm' : List TV} {tmps : Array Value} (h : TmOK w μ F tm tmps) (he : ∀ t, tget tm' t = tget tm t) : TmOK w μ F tm' tmps := fun t => by rw [he]; exact h t

theorem happ_map (L : List Nat) (f : Nat → Option Blk) : ∀ (hp : Heap) (l : Nat), hget (happ hp (L.map fun l => (l, f l))) l = if l ∈ L then f l else hget hp l := by
  unfold happ
  induction L with
  | nil => intro hp l; simp
  | cons a L ih =>
    intro hp l
    simp only [List.map_cons, List.foldl_cons, List.mem_cons]
    rw [ih, hget_hset]
    by_cases h1 : l ∈ L
    · simp [h1]
    · by_cases h2 : l = a
      · subst h2; simp [h1]
      · simp [h1, h2]

end
end Go.Sx

/- The symbolic executor: regions that draw their order are walked soundly. -/
namespace Go.Sx
noncomputable section

def asSet (listed : Array Bool) : Nat → Bool := fun i => listed.getD i false

theorem asSet_set {listed : Array Bool} {k : Nat} (hk : k < listed.size) (i : Nat) : asSet (listed.setIfInBounds k true) i = (decide (i = k) || asSet listed i) := by
  unfold asSet
  by_cases h : i = k
  · subst h; simp [Array.getD, hk]
  · simp only [h, decide_false, Bool.false_or, Array.getD_eq_getD_getElem?]
    rw [Array.getElem?_setIfInBounds_ne (fun e => h e.symm)]

theorem clash_dst_ts {a b : Ev} {t : Nat} (h : a.dst = some t) (ht : t ∈ b.ts) : clash a b = true := by
  unfold clash isSomeD; simp [h, ht]

theorem clash_ts_dst {a b : Ev} {t : Nat} (h : b.dst = some t) (ht : t ∈ a.ts) : clash a b = true := by
  unfold clash isSomeD; simp [h, ht]

theorem wkey_mem {W : Delta} {l : Nat} (h : wkey W l = true) : ∃ e ∈ W, e.1 = l := by
  unfold wkey at h
  rw [List.any_eq_true] at h
  obtain ⟨e, h1, h2⟩ := h
  exact ⟨e, h1, by simpa using h2⟩

theorem clash_W_L {a b : Ev} {l : Nat} (h : wkey a.W l = true) (hl : l ∈ b.L) : clash a b = true := by
  obtain ⟨e, h1, h2⟩ := wkey_mem h
  unfold clash
  have : a.W.any (fun e => b.L.contains e.1 || b.W.any fun f => f.1 == e.1) = true := List.any_eq_true.2 ⟨e, h1, by simp [h2, hl]⟩
  simp only [this, Bool.or_true, Bool.true_or]

theorem clash_L_W {a b : Ev} {l : Nat} (h : wkey b.W l = true) (hl : l ∈ a.L) : clash a b = true := by
  obtain ⟨e, h1, h2⟩ := wkey_mem h
  unfold clash
  have : b.W.any (fun e => a.L.contains e.1) = true := List.any_eq_true.2 ⟨e, h1, by simp [h2, hl]⟩
  simp only [this, Bool.or_true]

theorem clash_W_W {a b : Ev} {l : Nat} (h : wkey a.W l = true) (h' : wkey b.W l = true) : clash a b = true := by
  obtain ⟨e, h1, h2⟩ := wkey_mem h
  obtain ⟨f, h3, h4⟩ := wkey_mem h'
  unfold clash
  have : a.W.any (fun e => b.L.contains e.1 || b.W.any fun f => f.1 == e.1) = true := List.any_eq_true.2 ⟨e, h1, by
    simp only [Bool.or_eq_true]; right; exact List.any_eq_true.2 ⟨f, h3, by simp [h2, h4]⟩⟩
  simp only [this, Bool.or_true, Bool.true_or]

theorem countP_lt {p q : Nat → Bool} {k : Nat} : ∀ {l : List Nat}, (∀ x ∈ l, p x = true → q x = true) → k ∈ l → q k = true → p k = false → l.countP p < l.countP q
  | [], _, hk, _, _ => by cases hk
  | x :: r, h, hk, hq, hp => by
    have hle : ∀ (l : List Nat), (∀ x ∈ l, p x = true → q x = true) → l.countP p ≤ l.countP q := fun l hl => List.countP_mono_left hl
    simp only [List.countP_cons]
    rcases List.mem_cons.1 hk with e | hk'
    · subst e
      have := hle r fun y hy => h y (by simp [hy])
      simp only [hp, hq, Bool.false_eq_true, if_false, if_true]; omega
    · have := countP_lt (fun y hy => h y (by simp [hy])) hk' hq hp
      have hx := h x (by simp)
      cases hpx : p x with
      | false => simp only [Bool.false_eq_true, if_false]; split <;> omega
      | true => rw [hx hpx]; simp only [if_true]; omega

section
variable {P : Program} {C : Ctx} {ops : Array Oper} {evs : List Ev} {s0 : St} {n0 : Nat}

/-- What the walk in the order of the text has shown. -/
structure Walked (P : Program) (C : Ctx) (ops : Array Oper) (evs : List Ev) (s0 : St) (n0 : Nat) : Prop where
  len : evs.length = ops.size
  ev : ∀ j o e, ops[j]? = some o → evs[j]? = some e → EvOK P C ops o (foldE (fun i => decide (i < j)) 0 evs s0).tm (foldE (fun i => decide (i < j)) 0 evs s0).hp e ∧ e.id = n0 + j
  pair : ∀ i k a e, i < k → evs[i]? = some a → evs[k]? = some e → (Bef ops i k ∨ clash a e = false) ∧ tagNot a.tv e.dst = true ∧ sameDst a e = false
  edge : ∀ j o e, ops[j]? = some o → e ∈ o.after → binding e = true → e.on < j
  tags : ∀ t g b s, tget s0.tm t ≠ .tag g b s

structure Inv (p : Par) (μ0 : Mu) (ops : Array Oper) (evs : List Ev) (s0 : St) (n0 : Nat) (S : Nat → Bool) (a : Act) (w : World) : Prop where
  closed : Closed ops S
  sim : ∃ μ F, HS p μ F (foldE S 0 evs s0).hp w ∧ (∀ l, n0 ≤ l → μ l ≠ none → ∃ i e, S i = true ∧ evs[i]? = some e ∧ e.id = l) ∧ (∀ l q, μ0 l = some q → μ l = some q) ∧ TmOK w μ F (foldE S 0 evs s0).tm a.tmps ∧ s0.tm.length ≤ a.tmps.size ∧ Marks p F w a.defers

theorem inv_step {p : Par} {μ0 : Mu} {S : Nat → Bool} {a : Act} {w : World} {K : Act → World → Prop} {Q : Exit → Act → World → Prop} {r : Option Nat} (hC : CtxOK P C) (hW : Walked P C ops evs s0 n0) (hI : Inv p μ0 ops evs s0 n0 S a w) {k : Nat} {o : Oper} (ho : ops[k]? = some o) (hk : S k = false)
    (hready : ∀ e ∈ o.after, binding e = true → S e.on = true) (hK : ∀ a' w', Inv p μ0 ops evs s0 n0 (fun i => decide (i = k) || S i) a' w' → K a' w') :
    if Region.wanted o (yielded ops a.tmps) then o.wpIn (FW r) 0 P a w K Q else K (a.put o.dst undef) w := by
  obtain ⟨hcl, μ, F, hh, hfr, h0, ht, hsz, hd⟩ := hI
  have hklt : k < evs.length := by
    rw [hW.len]
    exact (Array.getElem?_eq_some_iff.1 ho).1
  obtain ⟨e, he⟩ : ∃ e, evs[k]? = some e := ⟨_, List.getElem?_eq_getElem hklt⟩
  obtain ⟨hev, hid⟩ := hW.ev k o e ho he
  -- closed with k
  have hcl' : Closed ops (fun i => decide (i = k) || S i) := by
    intro j o' e' hj ho' he' hb
    simp only [Bool.or_eq_true, decide_eq_true_eq] at hj ⊢
    rcases hj with rfl | hj
    · rw [ho] at ho'; cases ho'
      exact .inr (hready e' he' hb)
    · exact .inr (hcl j o' e' hj ho' he' hb)
  have hbef : ∀ i, i < k → Bef ops i k → S i = true := by
    intro i hi hb
    have := hcl'.bef hb (by simp)
    simp only [Bool.or_eq_true, decide_eq_true_eq] at this
    rcases this with h | h
    · omega
    · exact h
  have haft : ∀ i, k < i → Bef ops k i → S i = false := by
    intro i hi hb
    cases hs : S i with
    | false => rfl
    | true => have := hcl.bef hb hs; rw [hk] at this; cases this
  -- who clashes
  have hlow : ∀ i x, i < k → evs[i]? = some x → clash x e = true → S i = true := by
    intro i x hi hx hc
    rcases (hW.pair i k x e hi hx he).1 with h | h
    · exact hbef i hi h
    · rw [hc] at h; cases h
  have hhigh : ∀ i x, k < i → evs[i]? = some x → clash e x = true → S i = false := by
    intro i x hi hx hc
    rcases (hW.pair k i e x hi he hx).1 with h | h
    · exact haft i hi h
    · rw [hc] at h; cases h
  have hlen1 : (foldE S 0 evs s0).tm.length = s0.tm.length := length_foldE ..
  have hlen2 : (foldE (fun i => decide (i < k)) 0 evs s0).tm.length = s0.tm.length := length_foldE ..
  -- the part that it reads is as in the text's order
  have htm : restrictT (foldE S 0 evs s0).tm.length (foldE S 0 evs s0).tm e.ts = restrictT (foldE (fun i => decide (i < k)) 0 evs s0).tm.length (foldE (fun i => decide (i < k)) 0 evs s0).tm e.ts := by
    rw [hlen1, hlen2]
    refine restrictT_congr fun t hte => foldE_tm _ _ t evs 0 s0 s0 rfl rfl fun j x hx hdx => ?_
    simp only [Nat.zero_add]
    rcases Nat.lt_trichotomy j k with h | h | h
    · rw [hlow j x h hx (clash_dst_ts hdx hte)]; simp [h]
    · subst h; rw [hk]; simp
    · rw [hhigh j x h hx (clash_ts_dst hdx hte)]; simp; omega
  have hhp : restrictH (foldE S 0 evs s0).hp e.L = restrictH (foldE (fun i => decide (i < k)) 0 evs s0).hp e.L := by
    refine restrictH_congr fun l hle => foldE_hp _ _ l evs 0 s0 s0 rfl fun j x hx hdx => ?_
    simp only [Nat.zero_add]
    rcases Nat.lt_trichotomy j k with h | h | h
    · rw [hlow j x h hx (clash_W_L hdx hle)]; simp [h]
    · subst h; rw [hk]; simp
    · rw [hhigh j x h hx (clash_L_W hdx hle)]; simp; omega
  obtain ⟨rn, hp', hrun, hWe⟩ := hev.run
  rw [← htm, ← hhp] at hrun
  have hidn : μ e.id = none := by
    cases hm : μ e.id with
    | none => rfl
    | some q =>
      obtain ⟨i, x, h1, h2, h3⟩ := hfr e.id (by omega) (by rw [hm]; simp)
      have hi : i < ops.size := by rw [← hW.len]; exact (List.getElem?_eq_some_iff.1 h2).1
      have := (hW.ev i _ x (Array.getElem?_eq_getElem hi) h2).2
      have : i = k := by omega
      subst this
      rw [hk] at h1; cases h1
  have hgone : hget (foldE S 0 evs s0).hp e.id = none := by
    cases hg : hget (foldE S 0 evs s0).hp e.id with
    | none => rfl
    | some blk => obtain ⟨q, h1, _⟩ := hh.blk _ _ hg; rw [hidn] at h1; cases h1
  refine stepTr_sound hC (lh_restrict hh e.L) hidn (ht.restrict _ _) hrun fun v w' hout => hK _ _ ⟨hcl', ?_⟩
  obtain ⟨μ', F', e1, e2, e3, e4⟩ := hout
  have hN : ∀ l, l ≠ e.id → μ' l = μ l := fun l hl => e4 l fun hn => hl hn.1
  -- the state behind it
  have hG : ∀ l, hget (ap (foldE S 0 evs s0) e).hp l = if l ∈ e.L ∨ l = e.id then hget hp' l else hget (foldE S 0 evs s0).hp l := by
    intro l
    unfold ap
    simp only [hWe]
    cases hq : quietC C o.op with
    | true =>
      have hs := stepTr_quiet hq hrun
      subst hs
      simp only [if_true, happ, List.foldl_nil, hget_restrict]
      by_cases h1 : l ∈ e.L
      · simp [h1]
      · by_cases h2 : l = e.id
        · subst h2; simp [h1, hgone]
        · simp [h1, h2]
    | false =>
      simp only [Bool.false_eq_true, if_false]
      rw [happ_map]
      simp only [List.mem_cons]
      by_cases h1 : l ∈ e.L
      · simp [h1]
      · by_cases h2 : l = e.id
        · simp [h2]
        · simp [h1, h2]
  have hs1 := hs_lift hh e1 e3 hN hG
  have hkey : ∀ l, wkey e.W l = true → l ∈ e.L ∨ l = e.id := by
    intro l hl
    obtain ⟨x, h1, h2⟩ := wkey_mem hl
    rw [hWe] at h1
    split at h1
    · cases h1
    · simp only [List.mem_map, List.mem_cons] at h1
      obtain ⟨y, h3, rfl⟩ := h1
      simp only at h2; subst h2
      exact h3.elim .inr .inl
  have hhpEq : ∀ l, hget (foldE (fun i => decide (i = k) || S i) 0 evs s0).hp l = hget (ap (foldE S 0 evs s0) e).hp l := by
    intro l
    cases hw : wkey e.W l with
    | true =>
      refine foldE_hp_last _ l hw evs k 0 s0 _ he (by simp) fun j' x hj hx hS => ?_
      simp only [Nat.zero_add, Bool.or_eq_true, decide_eq_true_eq] at hS
      cases hwx : wkey x.W l with
      | false => rfl
      | true =>
        have := hhigh j' x hj hx (clash_W_W hw hwx)
        rcases hS with h | h
        · omega
        · rw [this] at h; cases h
    | false =>
      have h1 : hget (ap (foldE S 0 evs s0) e).hp l = hget (foldE S 0 evs s0).hp l := (happ_get e.W _ [] l).1 hw
      rw [h1]
      refine foldE_hp _ _ l evs 0 s0 s0 rfl fun j x hx hwx => ?_
      simp only [Nat.zero_add]
      by_cases hjk : j = k
      · subst hjk; rw [he] at hx; cases hx; rw [hw] at hwx; cases hwx
      · simp [hjk]
  have htmEq : ∀ t, tget (foldE (fun i => decide (i = k) || S i) 0 evs s0).tm t = tget (ap (foldE S 0 evs s0) e).tm t := by
    intro t
    by_cases hd' : e.dst = some t
    · refine foldE_tm_last _ t hd' evs k 0 s0 _ he (by simp) (fun j' x hj hx hS hdx => ?_) hlen1.symm
      have := (hW.pair k j' e x hj he hx).2.2
      unfold sameDst at this
      simp [hd', hdx] at this
    · rw [tget_ap _ _ _ hd']
      refine foldE_tm _ _ t evs 0 s0 s0 rfl rfl fun j x hx hdx => ?_
      simp only [Nat.zero_add]
      by_cases hjk : j = k
      · subst hjk; rw [he] at hx; cases hx; exact (hd' hdx).elim
      · simp [hjk]
  have hext : Ext F w w' := ext_F (lh_restrict hh e.L) e1
  refine ⟨μ', F', hs_congr hs1 hhpEq, ?_, fun l q hq => e3 l q (h0 l q hq), tmOK_congr ?_ htmEq, ?_, by rw [Act.put_defers]; exact hd.step (lh_restrict hh e.L) e1⟩
  · intro l hl hm
    by_cases hle : l = e.id
    · exact ⟨k, e, by simp, he, hle.symm⟩
    · rw [hN l hle] at hm
      obtain ⟨i, x, h1, h2, h3⟩ := hfr l hl hm
      exact ⟨i, x, by simp [h1], h2, h3⟩
  · cases hdst : o.dst with
    | none =>
      have : (ap (foldE S 0 evs s0) e).tm = (foldE S 0 evs s0).tm := by unfold ap; rw [hev.dst, hdst]
      rw [this]
      exact fun t => (ht t).mono hext e1.sub e3
    | some d =>
      have hdl := hev.len d hdst
      rw [hlen2] at hdl
      have : (ap (foldE S 0 evs s0) e).tm = (foldE S 0 evs s0).tm.set d e.tv := by unfold ap; rw [hev.dst, hdst]
      rw [this]
      have hd1 : d < a.tmps.size := Nat.lt_of_lt_of_le hdl hsz
      have hd2 : d < (foldE S 0 evs s0).tm.length := by rw [hlen1]; exact hdl
      refine tmOK_put ht hext e1.sub e3 hd1 hd2 (noTag_of fun t g b s htag => ?_) (RepT_put e2 (fun g b s hg => ?_) hd1)
      · rcases foldE_tag S t evs 0 s0 htag with h1 | ⟨j, x, h1, h2, h3, h4⟩
        · exact (hW.tags t g b s h1).elim
        · simp only [Nat.zero_add] at h2
          intro hgd; subst hgd
          rcases Nat.lt_trichotomy j k with h | h | h
          · have := (hW.pair j k x e h h1 he).2.1
            unfold tagNot at this
            simp [h3, hev.dst, hdst] at this
          · subst h; rw [hk] at h2; cases h2
          · have hjl : j < ops.size := by rw [← hW.len]; exact (List.getElem?_eq_some_iff.1 h1).1
            have hx := (hW.ev j _ x (Array.getElem?_eq_getElem hjl) h1).1
            have hgt := (hx.tag g b s h3).1
            have := hhigh j x h h1 (clash_dst_ts (by rw [hev.dst, hdst]) hgt)
            rw [this] at h2; cases h2
      · have hne := (hev.tag g b s hg).2
        intro hgd; subst hgd
        exact hne hdst
  · cases hdst : o.dst with
    | none => exact hsz
    | some d => simp [Act.put]; exact hsz

theorem ready_spec {listed : Array Bool} {k : Nat} (h : k ∈ Region.ready .any ops listed) (hsz : listed.size = ops.size) : ∃ o, ops[k]? = some o ∧ asSet listed k = false ∧ ∀ e ∈ o.after, binding e = true → asSet listed e.on = true := by
  unfold Region.ready at h
  simp only [List.mem_filter, List.mem_range, Bool.and_eq_true, Bool.not_eq_true'] at h
  obtain ⟨hk, h1, h2⟩ := h
  refine ⟨ops[k], Array.getElem?_eq_getElem hk, ?_, ?_⟩
  · unfold asSet
    have hk' : k < listed.size := by omega
    simpa [Array.getD, hk'] using h1
  · intro e he hb
    rw [Array.getElem?_eq_getElem hk] at h2
    simp only [Option.map_some, Option.getD_some, Array.all_eq_true'] at h2
    have := h2 e he
    unfold binding at hb
    rw [hb] at this
    unfold asSet
    simpa using this

theorem ready_nil {listed : Array Bool} (h : Region.ready .any ops listed = []) (hsz : listed.size = ops.size) (hedge : ∀ j o e, ops[j]? = some o → e ∈ o.after → binding e = true → e.on < j) : ∀ k, k < ops.size → asSet listed k = true := by
  intro k
  induction k using Nat.strongRecOn with
  | _ k ih =>
    intro hk
    cases hs : asSet listed k with
    | true => rfl
    | false =>
      have : k ∈ Region.ready .any ops listed := by
        unfold Region.ready
        simp only [List.mem_filter, List.mem_range, Bool.and_eq_true, Bool.not_eq_true']
        refine ⟨hk, ?_, ?_⟩
        · unfold asSet at hs
          have hk' : k < listed.size := by omega
          simpa [Array.getD, hk'] using hs
        · rw [Array.getElem?_eq_getElem hk]
          simp only [Option.map_some, Option.getD_some, Array.all_eq_true']
          intro e he
          cases hb : binding e with
          | false => unfold binding at hb; simp [hb]
          | true =>
            have hlt := hedge k _ e (Array.getElem?_eq_getElem hk) he hb
            have := ih e.on hlt (by omega)
            unfold asSet at this
            simp [this]
      rw [h] at this; cases this

theorem any_sound {p : Par} {μ0 : Mu} {Qx : Exit → Act → World → Prop} {r : Option Nat} (hC : CtxOK P C) (hW : Walked P C ops evs s0 n0) (hQ : ∀ a w, Inv p μ0 ops evs s0 n0 (fun i => decide (i < ops.size)) a w → Qx .normal a w) :
    ∀ (fuel : Nat) (listed : Array Bool) (a : Act) (w : World), listed.size = ops.size → (List.range ops.size).countP (fun i => !asSet listed i) ≤ fuel → Inv p μ0 ops evs s0 n0 (asSet listed) a w → wpAnyIn (FW r) 0 P .any ops Qx fuel listed a w := by
  have fin : ∀ (listed : Array Bool) (a : Act) (w : World), listed.size = ops.size → (∀ k, k < ops.size → asSet listed k = true) → Inv p μ0 ops evs s0 n0 (asSet listed) a w → Qx .normal a w := by
    intro listed a w hsz hall hI
    refine hQ a w ?_
    have : asSet listed = fun i => decide (i < ops.size) := by
      funext i
      by_cases h : i < ops.size
      · simp [h, hall i h]
      · unfold asSet
        have : ¬ i < listed.size := by omega
        simp [h, Array.getD, this]
    rwa [this] at hI
  intro fuel
  induction fuel with
  | zero =>
    intro listed a w hsz hc hI
    have hall : ∀ k, k < ops.size → asSet listed k = true := by
      intro k hk
      have h0 : (List.range ops.size).countP (fun i => !asSet listed i) = 0 := by omega
      rw [List.countP_eq_zero] at h0
      have := h0 k (List.mem_range.2 hk)
      simpa using this
    refine ⟨?_, fin listed a w hsz hall hI⟩
    rw [List.eq_nil_iff_forall_not_mem]
    intro k hk
    obtain ⟨o, h1, h2, _⟩ := ready_spec hk hsz
    have := hall k (Array.getElem?_eq_some_iff.1 h1).1
    rw [h2] at this; cases this
  | succ fuel ih =>
    intro listed a w hsz hc hI
    refine ⟨fun hr => fin listed a w hsz (ready_nil hr hsz hW.edge) hI, fun k hk => ?_⟩
    obtain ⟨o, h1, h2, h3⟩ := ready_spec hk hsz
    have hklt : k < ops.size := (Array.getElem?_eq_some_iff.1 h1).1
    unfold wpOpIn
    rw [h1]
    simp only []
    have hstep := inv_step (r := r) (Q := Qx) (K := wpAnyIn (FW r) 0 P .any ops Qx fuel (listed.setIfInBounds k true)) hC hW hI h1 h2 h3 fun a' w' hI' => ih _ a' w' (by simpa using hsz) ?_ ?_
    · split
      · rename_i hw; rw [if_pos hw] at hstep; exact hstep
      · rename_i hw; rw [if_neg hw] at hstep; exact ⟨fun _ _ => trivial, hstep⟩
    · have hset : ∀ i, asSet (listed.setIfInBounds k true) i = (decide (i = k) || asSet listed i) := asSet_set (by omega)
      have hlt : (List.range ops.size).countP (fun i => !asSet (listed.setIfInBounds k true) i) < (List.range ops.size).countP (fun i => !asSet listed i) := by
        refine countP_lt (fun x _ hx => ?_) (List.mem_range.2 hklt) (by simp [h2]) (by rw [hset]; simp)
        rw [hset] at hx
        simp only [Bool.not_or, Bool.and_eq_true] at hx
        exact hx.2
      omega
    · have : asSet (listed.setIfInBounds k true) = fun i => decide (i = k) || asSet listed i := funext (asSet_set (by omega))
      rw [this]; exact hI'
end

theorem hs_drew {p : Par} {μ : Mu} {F : Nat → Prop} {hp : Heap} {w : World} (h : HS p μ F hp w) : HS p μ F hp w.drew := by
  refine ⟨h.ext.trans (Ext.drew _ w), h.sub, h.fin, fun l blk hg => ?_, h.inj⟩
  obtain ⟨q, h1, h2, h3⟩ := h.blk l blk hg
  exact ⟨q, h1, h2, h3.mono (Ext.drew F w) (fun _ h => h) (fun _ _ h => h) (fun _ _ _ => rfl)⟩

theorem drawn_ok {P : Program} {C : Ctx} (hC : CtxOK P C) (hm : P.follows .mixedOrders = true) : DrOK P C (fun _ => drawn P C) := by
  intro inl _ id ops st Q hq p μ0 a w hs
  obtain ⟨μ, F, hh, hf, h0, ht, hsz, hd⟩ := hs.untag
  simp only [drawn] at hq
  split at hq
  · rename_i hedge
    rw [untagF_eq] at hq
    obtain ⟨evs, stF, h1, hall, h2⟩ := dK_sat _ _ _ _ hq
    simp only [List.length_nil, List.drop_zero] at hall
    · skip
      obtain ⟨f1, f2, f3, f4⟩ := evOps_spec _ _ _ _ h1
      simp only [Array.length_toList] at f1 f3
      have hbm := bms_bef (ops := ops) ops.toList [] (fun j => by simp) (fun j i h => by simp at h)
      have hW : Walked P C ops evs ⟨Sx.untag st.tm, st.hp⟩ st.next := by
        refine ⟨f1, fun j o e hj he => f4 j o e (by simpa using hj) he, fun i k x e hik hx he => ?_, fun j o e hj he hb => ?_, fun t g b s htag => ?_⟩
        · have := allOK_spec hall k e he i x (by simpa using hx) (by simpa using hik)
          unfold pairOK at this
          simp only [Bool.and_eq_true, Bool.or_eq_true, Bool.not_eq_true'] at this
          exact ⟨this.1.1.imp (hbm k i) (fun h => h), this.1.2, this.2⟩
        · have := edgesOK_spec hedge j o e (by simpa using hj) he hb
          omega
        · rw [tget_untag] at htag
          split at htag
          · cases htag
          · rename_i h; exact h _ _ _ htag
      refine fun r _ => wpIn_region_any hm (any_sound (p := p) (μ0 := μ0) hC hW (fun a' w' hI => ?_) ops.size _ a _ (by simp) ?_ ?_)
      · obtain ⟨_, μ', F', e1, e2, e3, e4, e5, e6⟩ := hI
        have hfe : foldE (fun i => decide (i < ops.size)) 0 evs ⟨Sx.untag st.tm, st.hp⟩ = ⟨stF.tm, stF.hp⟩ := by
          rw [f2]; exact foldE_congr _ _ _ fun j hj => by simp; omega
        rw [hfe] at e1 e4
        refine ⟨stF, ⟨rfl, h2⟩, μ', F', e1, fun l hl => ?_, e3, e4, ?_, e6⟩
        · cases hm' : μ' l with
          | none => rfl
          | some q =>
            obtain ⟨i, e, g1, g2, g3⟩ := e2 l (by omega) (by rw [hm']; simp)
            have hi : i < ops.size := by rw [← f1]; exact (List.getElem?_eq_some_iff.1 g2).1
            have := (f4 i _ e (by rw [Array.getElem?_toList]; exact Array.getElem?_eq_getElem hi) g2).2
            simp only at this
            omega
        · have := congrArg (fun s => s.tm.length) hfe
          simp only [length_foldE] at this
          simp only at e5
          omega
      · refine Nat.le_trans List.countP_le_length ?_
        simp
      · have hS : asSet (Array.replicate ops.size false) = fun _ => false := by
          funext i; unfold asSet; simp [Array.getD_eq_getD_getElem?, Array.getElem?_replicate]
          split <;> rfl
        rw [hS]
        refine ⟨(fun k o e h => by cases h), μ, F, ?_, fun l hl hm' => (hm' (hf l hl)).elim, h0, ?_, hsz, hd⟩
        · rw [foldE_false]; exact hs_drew hh
        · rw [foldE_false]; exact fun t => (ht t).mono (Ext.drew F w) (fun _ h => h) (fun _ _ h => h)
  · exact hq.elim

end
end Go.Sx

/- The symbolic executor: functions, from their code to their contract. -/
namespace Go.Sx
noncomputable section

abbrev Dr := (FuncId → List SV → AS → Tree (SV × AS)) → Array Oper → AS → Tree AS

def bodyT (P : Program) (C : Ctx) (dr : Dr) (n : Nat) (fn : Func) (body : Code) (st : AS) : Tree (SV × AS) :=
  (exec P C dr n body st).bind fun r => match r.1 with
    | .normal => (Tree.ofTr (absResults P fn.results r.2)).bind fun s => .ret (s, r.2)
    | .ret => (Tree.ofTr (absResults P fn.results r.2)).bind fun s => .ret (s, r.2)
    | _ => .fail

theorem fn_sound {P : Program} {C : Ctx} {dr : Dr} (hC : CtxOK P C) (hD : DrOK P C dr) {k : FuncId} {fn : Func} {body : Code} (hfn : P.funcs[k]? = some fn) (hbody : fn.body = some body) {n : Nat} {args : List SV} {st0 : AS} {R : SV × AS → Prop}
    (hs : (bodyT P C dr n fn body { st0 with tm := startTm fn args }).sat P R) {μ : Mu} {F : Nat → Prop} {w : World} {vs : Array Value} (hl : LH w μ F st0.hp) (hf : Fresh st0.next μ) (hr : Reps w μ F vs args) :
    Calls P k vs w fun e w' => ∃ v s st' μ' F', e = .returned v ∧ R (s, st') ∧ HS ⟨w, Tk st0.hp μ, F⟩ μ' F' st'.hp w' ∧ Rep w' μ' F' v s ∧ (∀ l q, μ l = some q → μ' l = some q) ∧ Fresh st'.next μ' := by
  have hs := Tree.sat_bind hs
  refine callsIn_wide.1 (callsIn_of_wp_marks (F := Fence.wide) (n := 0) hfn hbody trivial ?_ rfl)
  have hsim : Sim ⟨w, Tk st0.hp μ, F⟩ μ { st0 with tm := startTm fn args } { tmps := vs ++ Array.replicate (fn.ntmps - vs.size) undef, defers := [] } w := by
    refine ⟨μ, F, hl, hf, fun _ _ h => h, ?_, ?_, Marks.nil _ _ _⟩
    · intro t
      simp only [startTm, tget_def]
      simp only [List.getD, List.getElem?_append, List.length_map]
      split
      · rename_i hlt
        have hlt' : t < vs.size := by rw [hr.1]; exact hlt
        have := hr.2 t hlt
        simp only [List.getElem?_map, List.getElem?_eq_getElem hlt, Option.map_some, Option.getD_some]
        simp only [RepT]
        simpa [Array.getD_eq_getD_getElem?, Array.getElem?_append, hlt', List.getD, hlt] using this
      · by_cases h2 : t - args.length < fn.ntmps - args.length
        · simp [List.getElem?_replicate, h2, RepT]
        · simp [List.getElem?_replicate, h2, RepT]
    · simp [startTm, hr.1]
  refine Go.wpIn_mono (exec_sound hC hD n body _ _ hs _ _ _ _ hsim).wp ?_
  intro e a' w' hc
  have key : ∀ s' : AS, Tree.sat P ((Tree.ofTr (absResults P fn.results s')).bind fun s => Tree.ret (s, s')) R → Sim ⟨w, Tk st0.hp μ, F⟩ μ s' a' w' → LeavesInM Fence.wide 0 P fn a'.tmps
      (fun e w' => ∃ u s st' μ' F', e = .returned u ∧ R (s, st') ∧ HS ⟨w, Tk st0.hp μ, F⟩ μ' F' st'.hp w' ∧ Rep w' μ' F' u s ∧ (∀ l q, μ l = some q → μ' l = some q) ∧ Fresh st'.next μ') a'.defers .returning w' := by
    intro s' hq ⟨μ', F', e1, e2, e3, e4, e5, e6⟩
    have hq := Tree.sat_bind hq
    obtain ⟨s, h1, h2⟩ := Tree.sat_ofTr hq
    obtain ⟨Ds, d1, d2, d3⟩ := e6
    rw [d1]
    refine leaves_marks (tm := s'.tm) (fun w2 k1 k2 => ?_) Ds w' d2 d3 e1 e4
    obtain ⟨v, h3, h4⟩ := absResults_sound (hs_seq1 k1) k2 h1
    exact ⟨v, h3, v, s, s', μ', F', rfl, h2, k1, h4, e3, e2⟩
  cases e with
  | normal => obtain ⟨s', h1, h2⟩ := hc; exact key s' h1 h2
  | ret => obtain ⟨s', h1, h2⟩ := hc; exact key s' h1 h2
  | exit id => obtain ⟨s', h1, h2⟩ := hc; exact h1.elim
  | goto l => exact hc.elim
  | panic ch => exact hc.elim
  | outgrown => exact hc.elim

/-- A result, with its own rows taken as values that stay. -/
def froz (hp : Heap) : SV → Option (SV × List Prop × List Nat)
  | .tup cs => (views hp cs).map fun (a, p, l) => (.tup a, p, l)
  | s => view hp s

theorem froz_sound {P : Program} {w : World} {μ : Mu} {F : Nat → Prop} {hp : Heap} {v : Value} {s a : SV} {ps : List Prop} {ls : List Nat} (hl : LH w μ F hp) (hs : Rep w μ F v s) (he : froz hp s = some (a, ps, ls)) (hps : ∀ p ∈ ps, p) {G : Nat → Prop} (hFG : ∀ b, F b → G b)
    (hG : ∀ b, Opens hp μ ls b → G b) : Rep w emp G v a := by
  unfold froz at he
  split at he
  · rename_i cs
    rw [Option.map_eq_some_iff] at he
    obtain ⟨⟨as, p, l⟩, h1, h2⟩ := he
    simp only [Prod.mk.injEq] at h2
    obtain ⟨rfl, rfl, rfl⟩ := h2
    obtain ⟨h3, h4⟩ := views_sound (P := P) hl hFG h1 hps hG
    cases hs with
    | tup vs _ hlen hi => exact .tup vs as (by omega) fun i hi' => h4 i _ (by omega) (hi i (by omega))
  · exact view_sound (P := P) hl hs he hps hFG hG

/-- What a function returns, its arguments given by value. -/
def fnT (P : Program) (C : Ctx) (dr : Dr) (n : Nat) (fn : Func) (body : Code) (args : List SV) (h : Hint) : Tree SV :=
  (bodyT P C dr n fn body ⟨startTm fn args, [], 0, h⟩).bind fun r => match froz r.2.hp r.1 with
    | some (a, ps, _) => needT ps (.ret a)
    | none => .fail

theorem ctrOK_of {P : Program} {C : Ctx} {dr : Dr} (hC : CtxOK P C) (hD : DrOK P C dr) {k : FuncId} {fn : Func} {body : Code} (hfn : P.funcs[k]? = some fn) (hbody : fn.body = some body) {c : Ctr}
    (h : ∀ ss r, (c ss).ev r → ∃ n hint, (fnT P C dr n fn body ss hint).sat P (· = r)) : CtrOK P k c := by
  intro ss vs w F r hF hr hev
  obtain ⟨n, hint, hs⟩ := h ss r hev
  have hs := Tree.sat_bind hs
  have hl : LH w emp F [] := ⟨Ext.refl _ _, fun b hb => hb, fun b hb => ⟨hF b hb, .inl hb⟩, fun l blk hg => by simp [hget_def] at hg, fun l l' blk blk' b o b' o' _ hg => by simp [hget_def] at hg⟩
  refine (fn_sound (st0 := ⟨[], [], 0, hint⟩) hC hD hfn hbody hs hl (fun l _ => rfl) hr).mono ?_
  rintro e w' ⟨v, s, st', μ', F', rfl, hR, hh, hrep, -, -⟩
  refine ⟨v, rfl, ?_⟩
  simp only at hR
  split at hR
  · rename_i a ps ls hfz
    obtain ⟨hps, hR⟩ := needT_sat hR
    simp only [Tree.sat] at hR; subst hR
    have hl' := hs_seq1 hh
    have hv := froz_sound (P := P) (G := fun b => F' b ∨ Opens st'.hp μ' ls b) hl' hrep hfz hps (fun b hb => .inl hb) (fun b hb => .inr hb)
    refine ⟨emp, _, ⟨hh.ext, fun b hb => .inl (hh.sub b hb), ?_, fun l blk hg => by simp [hget_def] at hg, fun l l' blk blk' b o b' o' _ hg => by simp [hget_def] at hg⟩, hv, fun l q h => by simp [emp] at h, fun l hl => (hl trivial).elim⟩
    rintro b (hb | ⟨l, _, blk, o, hg, hm⟩)
    · exact hh.fin b hb
    · obtain ⟨hat, _⟩ := hl'.blkAt hg hm
      obtain ⟨q, e1, e2, e3⟩ := hh.blk l blk hg
      rw [hm, Option.some.injEq] at e1; subst e1
      exact ⟨hat.lt, .inr e2.2⟩
  · exact hR.elim

/-- What a law's walk has to say. -/
theorem law_of {P : Program} {k : FuncId} {c : Ctr} (hc : CtrOK P k c) {ss : List SV} {vs : Array Value} {w : World} {F : Nat → Prop} (hF : ∀ b, F b → b < w.heap.size) (hr : Reps w emp F vs ss) {u : Value} (h : (c ss).ev (.d (.x u))) :
    Calls P k vs w fun e w' => e = .returned u ∧ RowKit.Below w.heap.size w w' := by
  refine (hc ss vs w F _ hF hr h).mono ?_
  rintro e w' ⟨v, rfl, μ', F', hh, hrep, -, -⟩
  obtain rfl : v = u := rep_x hrep
  refine ⟨rfl, hh.ext.os, hh.ext.tape, hh.ext.output, hh.ext.size, fun b hb => hh.ext.keep b ⟨hb, ?_⟩⟩
  rintro ⟨l, blk, o, hg, _⟩
  simp [hget_def] at hg

end
end Go.Sx

/- The symbolic executor: states told with fewer words, and loops. -/
namespace Go.Sx
noncomputable section

/-- Which name a name may get. -/
def rn (n0 : Nat) (ρ : List (Nat × Nat)) (l l' : Nat) : Prop := if l' < n0 then l = l' else ρ.contains (l, l') = true

def leD : DV → DV → Prop
  | .ro n e c, .ro n' e' c' => n = n' ∧ e = e' ∧ ∀ i j, i < n → j < e → c i j = c' i j
  | .x v, .ro n _ _ => v = .slice none 0 0 ∧ n = 0
  | .rf n e c, .ro n' e' c' => n = n' ∧ e = e' ∧ ∀ i j, i < n → j < e → c i j = c' i j
  | .rf n e c, .rf n' e' c' => n = n' ∧ e = e' ∧ ∀ i j, i < n → j < e → c i j = c' i j
  | a, b => a = b

mutual
def leSV (n0 : Nat) (ρ : List (Nat × Nat)) (nils : List Nat) : SV → SV → Prop
  | .d a, s' => match s' with
    | .d b => leD a b
    | .row l _ _ n _ => a = .x (.slice none 0 0) ∧ n = 0 ∧ nils.contains l = true
    | _ => False
  | .ptr l o, s' => match s' with
    | .ptr l' o' => rn n0 ρ l l' ∧ o = o'
    | _ => False
  | .pix l b n e i j, s' => match s' with
    | .pix l' b' n' e' i' j' => rn n0 ρ l l' ∧ b = b' ∧ n = n' ∧ e = e' ∧ i = i' ∧ j = j'
    | _ => False
  | .row l b o n e, s' => match s' with
    | .row l' b' o' n' e' => rn n0 ρ l l' ∧ b = b' ∧ o = o' ∧ n = n' ∧ e = e'
    | _ => False
  | .rop n c, s' => match s' with
    | .rop m d => n = m ∧ ∀ j, j < n → leD (c j) (d j)
    | _ => False
  | .agg cs, s' => match s' with
    | .agg ds => leSVs n0 ρ nils cs ds
    | _ => False
  | .fn f xs ys, s' => match s' with
    | .fn f' xs' ys' => f = f' ∧ leSVs n0 ρ nils xs xs' ∧ leSVs n0 ρ nils ys ys'
    | _ => False
  | .tup cs, s' => match s' with
    | .tup ds => leSVs n0 ρ nils cs ds
    | _ => False
  | .ifc t v, s' => match s' with
    | .ifc t' v' => t = t' ∧ leSV n0 ρ nils v v'
    | _ => False
def leSVs (n0 : Nat) (ρ : List (Nat × Nat)) (nils : List Nat) : List SV → List SV → Prop
  | [], ds => ds = []
  | c :: cs, ds => match ds with
    | d :: ds => leSV n0 ρ nils c d ∧ leSVs n0 ρ nils cs ds
    | [] => False
end

def leTV (n0 : Nat) (ρ : List (Nat × Nat)) (nils : List Nat) : TV → TV → Prop
  | _, .unk => True
  | .ok a, .ok b => leSV n0 ρ nils a b
  | .lit a, .lit b => a = b
  | .lit a, .ok b => b = .d (.x (.bool a))
  | _, _ => False

def leTm (n0 : Nat) (ρ : List (Nat × Nat)) (nils : List Nat) : List TV → List TV → Prop
  | _, [] => True
  | a :: as, b :: bs => leTV n0 ρ nils a b ∧ leTm n0 ρ nils as bs
  | [], _ => False

def leBlk (n0 : Nat) (ρ : List (Nat × Nat)) (nils : List Nat) : Blk → Blk → Prop
  | .cells cs, .cells ds => leSVs n0 ρ nils cs ds
  | .row n e c, .row n' e' c' => n = n' ∧ e = e' ∧ ∀ i j, i < n → j < e → c i j = c' i j
  | .cells cs, .row n e c => cs.length = n * e ∧ ∀ i j, i < n → j < e → cs.getD (i * e + j) uv = .d (c i j)
  | _, _ => False

def srcOf (n0 : Nat) (ρ : List (Nat × Nat)) (l : Nat) : Option Nat := if l < n0 then some l else (ρ.find? fun e => e.2 == l).map (·.1)

def leHp (n0 : Nat) (ρ : List (Nat × Nat)) (nils : List Nat) (hp : Heap) : Nat → Heap → Prop
  | _, [] => True
  | l, none :: r => leHp n0 ρ nils hp (l + 1) r
  | l, some b :: r => (match nils.contains l with
    | true => (match b with | .row n _ _ => n = 0 | _ => False)
    | false => match srcOf n0 ρ l with
      | some o => (match hget hp o with | some a => leBlk n0 ρ nils a b | none => False)
      | none => False) ∧ leHp n0 ρ nils hp (l + 1) r

def nodupB : List Nat → Bool
  | [] => true
  | a :: r => !r.contains a && nodupB r

def gcChk (n0 : Nat) (ρ : List (Nat × Nat)) (nils : List Nat) (next : Nat) (hp : Heap) : Bool :=
  decide (n0 ≤ next) && (ρ.all fun e => decide (n0 ≤ e.2) && decide (e.2 < next) && !(nils.contains e.2) && (!decide (e.1 < n0) || (hget hp e.1).isNone)) && (nils.all fun l => decide (n0 ≤ l) && decide (l < next)) && nodupB (ρ.map (·.1)) && nodupB (ρ.map (·.2))

def muOf (n0 : Nat) (ρ : List (Nat × Nat)) (nils : List Nat) (μ : Mu) : Mu := fun l => if l < n0 then μ l else if nils.contains l = true then some .nil else match (ρ.find? fun e => e.2 == l).map (·.1) with | some o => μ o | none => none

theorem nodupB_inj {l : List (Nat × Nat)} (h : nodupB (l.map (·.2)) = true) {e : Nat × Nat} (he : e ∈ l) : l.find? (fun f => f.2 == e.2) = some e := by
  induction l with
  | nil => cases he
  | cons a l ih =>
    simp only [List.map_cons, nodupB, Bool.and_eq_true, Bool.not_eq_true'] at h
    rcases List.mem_cons.1 he with rfl | he
    · simp
    · have hne : (a.2 == e.2) = false := by
        have : (l.map (·.2)).contains a.2 = false := h.1
        simp only [beq_eq_false_iff_ne, ne_eq]
        intro hh
        rw [List.contains_eq_mem, decide_eq_false_iff_not, hh] at this
        exact this (List.mem_map.2 ⟨e, he, rfl⟩)
      simp only [List.find?_cons, hne]
      exact ih h.2 he

theorem nodupB_fst {l : List (Nat × Nat)} (h : nodupB (l.map (·.1)) = true) {e f : Nat × Nat} (he : e ∈ l) (hf : f ∈ l) (hef : e.1 = f.1) : e = f := by
  induction l with
  | nil => cases he
  | cons a l ih =>
    simp only [List.map_cons, nodupB, Bool.and_eq_true, Bool.not_eq_true'] at h
    have hn : ∀ g ∈ l, g.1 ≠ a.1 := by
      intro g hg hh
      have := h.1
      rw [List.contains_eq_mem, decide_eq_false_iff_not, ← hh] at this
      exact this (List.mem_map.2 ⟨g, hg, rfl⟩)
    rcases List.mem_cons.1 he with rfl | he1
    · rcases List.mem_cons.1 hf with rfl | hf1
      · rfl
      · exact (hn _ hf1 hef.symm).elim
    · rcases List.mem_cons.1 hf with rfl | hf1
      · exact (hn _ he1 hef).elim
      · exact ih h.2 he1 hf1

variable {n0 : Nat} {ρ : List (Nat × Nat)} {nils : List Nat}

theorem rn_mu {next : Nat} {hp : Heap} (hk : gcChk n0 ρ nils next hp = true) {μ : Mu} {l l' : Nat} {q : Plc} (h : rn n0 ρ l l') (hm : μ l = some q) : muOf n0 ρ nils μ l' = some q := by
  unfold rn at h
  unfold muOf
  split at h
  · rename_i hlt; rw [if_pos hlt]; subst h; exact hm
  · rename_i hlt
    rw [if_neg hlt]
    rw [List.contains_iff_mem] at h
    simp only [gcChk, Bool.and_eq_true] at hk
    obtain ⟨⟨⟨⟨k1, k2⟩, k3⟩, k4⟩, k5⟩ := hk
    have := (List.all_eq_true.1 k2) _ h
    simp only [Bool.and_eq_true, Bool.not_eq_true'] at this
    rw [if_neg (by rw [this.1.2]; simp)]
    rw [nodupB_inj k5 h]
    exact hm

theorem nil_mu {next : Nat} {hp : Heap} (hk : gcChk n0 ρ nils next hp = true) {μ : Mu} {l : Nat} (h : nils.contains l = true) : muOf n0 ρ nils μ l = some .nil := by
  simp only [gcChk, Bool.and_eq_true] at hk
  obtain ⟨⟨⟨⟨k1, k2⟩, k3⟩, k4⟩, k5⟩ := hk
  have := (List.all_eq_true.1 k3) l (by simpa using h)
  simp only [Bool.and_eq_true, decide_eq_true_eq] at this
  unfold muOf
  rw [if_neg (by omega), if_pos h]

theorem leRo {w : World} {F : Nat → Prop} {v : Value} {n e : Nat} {c c' : Nat → Nat → DV} (h : RepD w F v (.ro n e c)) (hc : ∀ i j, i < n → j < e → c i j = c' i j) : RepD w F v (.ro n e c') := by
  cases h with
  | nil => exact .nil _ _
  | z => exact .z _ _ _ _
  | ro b o len cap esz cell f hF hcap hcell hone hrep => exact .ro b o n cap e c' f hF hcap hcell hone fun i j hi hj => by rw [← hc i j hi hj]; exact hrep i j hi hj

theorem leD_sound {w : World} {F : Nat → Prop} {v : Value} {a b : DV} (h : RepD w F v a) (hl : leD a b) : RepD w F v b := by
  cases a with
  | x u =>
    cases b with
    | x u' => simp only [leD] at hl; rw [← hl]; exact h
    | ro n' e' c' =>
      simp only [leD] at hl
      obtain ⟨rfl, rfl⟩ := hl
      obtain rfl := repd_x h
      exact .nil _ _
    | rf => simp only [leD] at hl; cases hl
  | rf n e c =>
    cases b with
    | x u => simp only [leD] at hl; cases hl
    | ro n' e' c' =>
      simp only [leD] at hl
      obtain ⟨rfl, rfl, hc⟩ := hl
      cases h with
      | rf _ _ _ _ h _ => exact leRo h hc
    | rf n' e' c' =>
      simp only [leD] at hl
      obtain ⟨rfl, rfl, hc⟩ := hl
      cases h with
      | rf _ _ _ _ h hx => exact .rf _ _ _ _ (leRo h hc) hx
  | ro n e c =>
    cases b with
    | x u => simp only [leD] at hl; cases hl
    | ro n' e' c' =>
      simp only [leD] at hl
      obtain ⟨rfl, rfl, hc⟩ := hl
      cases h with
      | nil => exact .nil _ _
      | z => exact .z _ _ _ _
      | ro b o len cap esz cell f hF hcap hcell hone hrep => exact .ro b o n cap e c' f hF hcap hcell hone fun i j hi hj => by rw [← hc i j hi hj]; exact hrep i j hi hj
    | rf => simp only [leD] at hl; cases hl

theorem leSVs_get : ∀ {cs ds : List SV}, leSVs n0 ρ nils cs ds → cs.length = ds.length ∧ ∀ i, i < cs.length → leSV n0 ρ nils (cs.getD i uv) (ds.getD i uv)
  | [], ds, h => by simp only [leSVs] at h; subst h; exact ⟨rfl, fun i hi => by simp at hi⟩
  | c :: cs, ds, h => by
    cases ds with
    | nil => simp only [leSVs] at h
    | cons d ds =>
      simp only [leSVs] at h
      obtain ⟨h1, h2⟩ := leSVs_get h.2
      refine ⟨by simp [h1], fun i hi => ?_⟩
      cases i with
      | zero => simpa using h.1
      | succ i => simpa using h2 i (by simpa using hi)

theorem leSV_sound {next : Nat} {hp : Heap} (hk : gcChk n0 ρ nils next hp = true) {w : World} {μ : Mu} {F : Nat → Prop} {v : Value} {s : SV} (h : Rep w μ F v s) : ∀ {s' : SV}, leSV n0 ρ nils s s' → Rep w (muOf n0 ρ nils μ) F v s' := by
  induction h with
  | d h =>
    intro s' hl
    simp only [leSV] at hl
    split at hl
    · exact .d (leD_sound h hl)
    · obtain ⟨rfl, rfl, hn⟩ := hl
      cases h with
      | x => exact .rnil _ _ _ _ (nil_mu hk hn)
    · exact hl.elim
  | ptr l off b o h =>
    intro s' hl
    simp only [leSV] at hl
    split at hl
    · obtain ⟨h1, rfl⟩ := hl; exact .ptr _ _ b o (rn_mu hk h1 h)
    · exact hl.elim
  | pix l base n esz i j b o h =>
    intro s' hl
    simp only [leSV] at hl
    split at hl
    · obtain ⟨h1, rfl, rfl, rfl, rfl, rfl⟩ := hl; exact .pix _ _ _ _ _ _ b o (rn_mu hk h1 h)
    · exact hl.elim
  | rnil l base off esz h =>
    intro s' hl
    simp only [leSV] at hl
    split at hl
    · obtain ⟨h1, rfl, rfl, rfl, rfl⟩ := hl; exact .rnil _ _ _ _ (rn_mu hk h1 h)
    · exact hl.elim
  | rz l base off esz b o q h =>
    intro s' hl
    simp only [leSV] at hl
    split at hl
    · obtain ⟨h1, rfl, rfl, rfl, rfl⟩ := hl; exact .rz _ _ _ _ b o q (rn_mu hk h1 h)
    · exact hl.elim
  | row l base off len esz b o cap h hc hz =>
    intro s' hl
    simp only [leSV] at hl
    split at hl
    · obtain ⟨h1, rfl, rfl, rfl, rfl⟩ := hl; exact .row _ _ _ _ _ b o cap (rn_mu hk h1 h) hc hz
    · exact hl.elim
  | rop b o n cell f hb hcell hone hrep =>
    intro s' hl
    simp only [leSV] at hl
    split at hl
    · obtain ⟨rfl, h1⟩ := hl
      exact .rop b o _ _ f hb hcell hone fun j hj => leD_sound (hrep j hj) (h1 j hj)
    · exact hl.elim
  | agg cs ss hl _ ih =>
    intro s' h
    simp only [leSV] at h
    split at h
    · obtain ⟨h1, h2⟩ := leSVs_get h
      exact .agg cs _ (by omega) fun i hi => ih i (by omega) (h2 i (by omega))
    · exact h.elim
  | fn f fs cs ss ts h1 h2 _ _ ih1 ih2 =>
    intro s' h
    simp only [leSV] at h
    split at h
    · obtain ⟨rfl, h3, h4⟩ := h
      obtain ⟨h5, h6⟩ := leSVs_get h3
      obtain ⟨h7, h8⟩ := leSVs_get h4
      exact .fn _ fs cs _ _ (by omega) (by omega) (fun i hi => ih1 i (by omega) (h6 i (by omega))) (fun i hi => ih2 i (by omega) (h8 i (by omega)))
    · exact h.elim
  | tup cs ss hl _ ih =>
    intro s' h
    simp only [leSV] at h
    split at h
    · obtain ⟨h1, h2⟩ := leSVs_get h
      exact .tup cs _ (by omega) fun i hi => ih i (by omega) (h2 i (by omega))
    · exact h.elim
  | ifc t v s _ ih =>
    intro s' h
    simp only [leSV] at h
    split at h
    · obtain ⟨rfl, h1⟩ := h; exact .ifc _ _ _ (ih h1)
    · exact h.elim

theorem leTm_get : ∀ {as bs : List TV}, leTm n0 ρ nils as bs → bs.length ≤ as.length ∧ ∀ t, leTV n0 ρ nils (tget as t) (tget bs t)
  | as, [], h => ⟨by simp, fun t => by simp only [tget_def]; simp [leTV]⟩
  | [], b :: bs, h => by simp [leTm] at h
  | a :: as, b :: bs, h => by
    simp only [leTm] at h
    obtain ⟨h1, h2⟩ := leTm_get h.2
    refine ⟨by simp; omega, fun t => ?_⟩
    cases t with
    | zero => simpa [tget_def] using h.1
    | succ t => simpa [tget_def] using h2 t

theorem leHp_get {hp : Heap} : ∀ {r : Heap} {l : Nat}, leHp n0 ρ nils hp l r → ∀ k b, hget r k = some b → (match nils.contains (l + k) with
    | true => (match b with | .row n _ _ => n = 0 | _ => False)
    | false => match srcOf n0 ρ (l + k) with
      | some o => (match hget hp o with | some a => leBlk n0 ρ nils a b | none => False)
      | none => False)
  | [], l, h, k, b, hg => by simp [hget_def] at hg
  | none :: r, l, h, k, b, hg => by
    cases k with
    | zero => simp [hget_def] at hg
    | succ k =>
      have := leHp_get (r := r) (l := l + 1) h k b (by simpa [hget_def] using hg)
      rwa [show l + 1 + k = l + (k + 1) by omega] at this
  | some c :: r, l, h, k, b, hg => by
    simp only [leHp] at h
    cases k with
    | zero =>
      obtain rfl : c = b := by simpa [hget_def] using hg
      exact h.1
    | succ k =>
      have := leHp_get (r := r) (l := l + 1) h.2 k b (by simpa [hget_def] using hg)
      rwa [show l + 1 + k = l + (k + 1) by omega] at this

/-- What is told of a state by fewer words. -/
def Gc (n0 : Nat) (s s' : AS) : Prop := ∀ p μ0 a w, (∀ l, n0 ≤ l → μ0 l = none) → Sim p μ0 s a w → Sim p μ0 s' a w

theorem Gc.refl (n0 : Nat) (s : AS) : Gc n0 s s := fun _ _ _ _ _ h => h
theorem Gc.trans {n0 : Nat} {a b c : AS} (h : Gc n0 a b) (k : Gc n0 b c) : Gc n0 a c := fun p μ0 x w h0 hs => k p μ0 x w h0 (h p μ0 x w h0 hs)

theorem leBlk_sound {next : Nat} {hp : Heap} (hk : gcChk n0 ρ nils next hp = true) {w : World} {μ : Mu} {F : Nat → Prop} {q : Plc} {a b : Blk} (h : BlkAt w μ F q a) (hl : leBlk n0 ρ nils a b) : BlkAt w (muOf n0 ρ nils μ) F q b := by
  cases q with
  | nil =>
    cases a with
    | cells cs => exact h.elim
    | row n e c =>
      cases b with
      | cells cs => exact hl.elim
      | row n' e' c' => simp only [leBlk] at hl; obtain ⟨rfl, rfl, _⟩ := hl; exact h
  | pl bb o =>
    cases a with
    | cells cs =>
      obtain ⟨c, e, h1, h2, h3, h4⟩ := h
      cases b with
      | cells ds =>
        simp only [leBlk] at hl
        obtain ⟨k1, k2⟩ := leSVs_get hl
        exact ⟨c, e, h1, by omega, fun i hi => leSV_sound hk (h3 i (by omega)) (k2 i (by omega)), fun i hi => h4 i (by omega)⟩
      | row n e' c' =>
        simp only [leBlk] at hl
        have hidx : ∀ i j, i < n → j < e' → i * e' + j < cs.length := by
          intro i j hi hj
          have : (i + 1) * e' ≤ n * e' := Nat.mul_le_mul_right _ hi
          rw [Nat.add_mul] at this; omega
        refine ⟨c, e, h1, by omega, fun i j hi hj => ?_, fun i j hi hj => h4 _ (hidx i j hi hj)⟩
        have := h3 _ (hidx i j hi hj)
        rw [hl.2 i j hi hj] at this
        exact rep_d this
    | row n e' c' =>
      obtain ⟨c, e, h1, h2, h3, h4⟩ := h
      cases b with
      | cells ds => exact hl.elim
      | row n' e'' c'' =>
        simp only [leBlk] at hl
        obtain ⟨rfl, rfl, hc⟩ := hl
        exact ⟨c, e, h1, h2, fun i j hi hj => by rw [← hc i j hi hj]; exact h3 i j hi hj, h4⟩

theorem gc_sound {s s' : AS} (ρ : List (Nat × Nat)) (nils : List Nat) (hk : gcChk n0 ρ nils s'.next s'.hp = true) (ht : leTm n0 ρ nils s.tm s'.tm) (hh : leHp n0 ρ nils s.hp 0 s'.hp) : Gc n0 s s' := by
  rintro p μ0 a w h00 ⟨μ, F, hs, hf, h0, htm, hsz, hd⟩
  obtain ⟨t1, t2⟩ := leTm_get ht
  have hk' := hk
  simp only [gcChk, Bool.and_eq_true, decide_eq_true_eq] at hk'
  obtain ⟨⟨⟨⟨k1, k2⟩, k3⟩, k4⟩, k5⟩ := hk'
  have hsrc : ∀ l b, hget s'.hp l = some b → (∃ q, muOf n0 ρ nils μ l = some q ∧ PlcOK p F q ∧ BlkAt w (muOf n0 ρ nils μ) F q b) ∧
      (nils.contains l = true ∨ ∃ o c, nils.contains l = false ∧ srcOf n0 ρ l = some o ∧ hget s.hp o = some c ∧ muOf n0 ρ nils μ l = μ o) := by
    intro l b hg
    have := leHp_get hh l b hg
    rw [Nat.zero_add] at this
    cases hn : nils.contains l with
    | true =>
      rw [hn] at this
      refine ⟨⟨.nil, nil_mu hk hn, trivial, ?_⟩, .inl rfl⟩
      cases b with
      | cells cs => exact this.elim
      | row n e c => exact this
    | false =>
      rw [hn] at this
      simp only at this
      split at this
      · rename_i o ho
        split at this
        · rename_i c hc
          have hmu : muOf n0 ρ nils μ l = μ o := by
            unfold muOf
            unfold srcOf at ho
            split at ho
            · rename_i hlt; rw [if_pos hlt]; simp only [Option.some.injEq] at ho; rw [ho]
            · rename_i hlt; rw [if_neg hlt, if_neg (by rw [hn]; simp), ho]
          obtain ⟨q, h1, h2, h3⟩ := hs.blk o c hc
          exact ⟨⟨q, by rw [hmu]; exact h1, h2, leBlk_sound hk h3 this⟩, .inr ⟨o, c, rfl, ho, hc, hmu⟩⟩
        · exact this.elim
      · exact this.elim
  refine ⟨muOf n0 ρ nils μ, F, ⟨hs.ext, hs.sub, hs.fin, fun l b hg => (hsrc l b hg).1, ?_⟩, ?_, ?_, ?_, by omega, hd⟩
  · intro l l' blk blk' b o b' o' hne g1 g2 m1 m2
    rcases (hsrc l blk g1).2 with e1 | ⟨x, c, n1, s1, c1, u1⟩
    · rw [nil_mu hk e1] at m1; cases m1
    · rcases (hsrc l' blk' g2).2 with e2 | ⟨x', c', n2, s2, c2, u2⟩
      · rw [nil_mu hk e2] at m2; cases m2
      · rw [u1] at m1; rw [u2] at m2
        refine hs.inj x x' c c' b o b' o' ?_ c1 c2 m1 m2
        intro hxx
        subst hxx
        have hfind : ∀ l, ¬ l < n0 → srcOf n0 ρ l = some x → (x, l) ∈ ρ := by
          intro l hl hx
          unfold srcOf at hx
          rw [if_neg hl, Option.map_eq_some_iff] at hx
          obtain ⟨e, he1, he2⟩ := hx
          have hm := List.mem_of_find?_eq_some he1
          have hp := List.find?_some he1
          simp only [beq_iff_eq] at hp
          subst he2; subst hp
          exact hm
        have hlow : ∀ l, l < n0 → srcOf n0 ρ l = some x → x = l := by
          intro l hl hx
          unfold srcOf at hx
          rw [if_pos hl, Option.some.injEq] at hx
          exact hx.symm
        have hno : ∀ l blk, hget s'.hp l = some blk → l < n0 → (l, l') ∈ ρ ∨ (∃ m, (l, m) ∈ ρ) → False := by
          intro l blk hg hl hm
          have : ∃ m, (l, m) ∈ ρ := hm.elim (fun h => ⟨_, h⟩) id
          obtain ⟨m, hm⟩ := this
          have := (List.all_eq_true.1 k2) _ hm
          simp only [Bool.and_eq_true, Bool.or_eq_true, Bool.not_eq_true', decide_eq_false_iff_not] at this
          rcases this.2 with h | h
          · exact h hl
          · rw [hg] at h; cases h
        by_cases a1 : l < n0
        · have b1 := hlow l a1 s1; subst b1
          by_cases a2 : l' < n0
          · exact hne (hlow l' a2 s2)
          · exact hno x blk g1 a1 (.inr ⟨l', hfind l' a2 s2⟩)
        · by_cases a2 : l' < n0
          · have b2 := hlow l' a2 s2; subst b2
            exact hno x blk' g2 a2 (.inr ⟨l, hfind l a1 s1⟩)
          · have := nodupB_fst k4 (hfind l a1 s1) (hfind l' a2 s2) rfl
            simp only [Prod.mk.injEq] at this
            exact hne this.2
  · intro l hl
    unfold muOf
    rw [if_neg (by omega)]
    rw [if_neg]
    · cases hfd : ρ.find? (fun e => e.2 == l) with
      | none => rfl
      | some e =>
        have hm := List.mem_of_find?_eq_some hfd
        have hp := List.find?_some hfd
        simp only [beq_iff_eq] at hp
        have := (List.all_eq_true.1 k2) _ hm
        simp only [Bool.and_eq_true, decide_eq_true_eq] at this
        omega
    · intro hn
      have := (List.all_eq_true.1 k3) l (by simpa using hn)
      simp only [Bool.and_eq_true, decide_eq_true_eq] at this
      omega
  · intro l q hq
    unfold muOf
    by_cases hlt : l < n0
    · rw [if_pos hlt]; exact h0 l q hq
    · rw [h00 l (by omega)] at hq; cases hq
  · intro t
    have h1 := t2 t
    have h2 := htm t
    generalize tget s.tm t = x at h1 h2
    generalize tget s'.tm t = y at h1 ⊢
    cases y with
    | unk => trivial
    | ok b =>
      cases x with
      | ok a => exact leSV_sound hk h2 h1
      | lit a => simp only [leTV] at h1; subst h1; simp only [RepT] at h2; rw [h2]; exact .d (.x _)
      | _ => exact h1.elim
    | lit b =>
      cases x with
      | lit a => simp only [leTV] at h1; subst h1; exact h2
      | _ => exact h1.elim
    | _ => cases x <;> exact h1.elim

/-- A loop: what is told at the head of each round. -/
theorem Triple.loop {P : Program} {body : Code} {st : AS} {post : Ex → AS → Prop} (I : Nat → AS → Prop) (h0 : ∃ n s, I n s ∧ Gc st.next st s)
    (hb : ∀ n s, I n s → Triple P body s fun e s' => match e with | .normal => ∃ m s'', m < n ∧ I m s'' ∧ Gc st.next s' s'' | e => ∃ s'', post e s'' ∧ Gc st.next s' s'') : Triple P (.loop body) st post := by
  intro p μ0 a w hs
  have hfr : ∀ l, st.next ≤ l → μ0 l = none := by
    obtain ⟨μ, F, _, hf, h0, _⟩ := hs
    intro l hl
    cases hm : μ0 l with
    | none => rfl
    | some q => have := h0 l q hm; rw [hf l hl] at this; cases this
  obtain ⟨n, s, hI, hg⟩ := h0
  have hs' := hg p μ0 a w hfr hs
  clear hs hg
  have key : ∀ n s a w, I n s → Sim p μ0 s a w → WP P (.loop body) (conc p μ0 post) a w := by
    intro n
    induction n using Nat.strongRecOn with
    | _ n ih =>
      intro s a w hI hs
      refine WP_loop_unroll (fun _ _ _ h => h) (fun _ _ h => h) (WP.mono ?_ (hb n s hI p μ0 a w hs))
      intro e a' w' hc
      cases e with
      | normal =>
        obtain ⟨s', ⟨m, s'', hm, hI', hg⟩, hs'⟩ := hc
        exact ih m hm s'' a' w' hI' (hg p μ0 a' w' hfr hs')
      | exit id => obtain ⟨s', ⟨s'', h1, hg⟩, h2⟩ := hc; exact ⟨s'', h1, hg p μ0 a' w' hfr h2⟩
      | ret => obtain ⟨s', ⟨s'', h1, hg⟩, h2⟩ := hc; exact ⟨s'', h1, hg p μ0 a' w' hfr h2⟩
      | _ => exact hc.elim
  exact key n s a w hI hs'

end
end Go.Sx

/- The symbolic executor: contracts that are reckoned. -/
namespace Go.Sx
noncomputable section

def Tree.toTr {α : Type} : Tree α → Tr α
  | .ret a => .ret a
  | .ite b t e => .ite b t.toTr e.toTr
  | .need p t => .need p t.toTr
  | .fail => .fail
  | .code .. => .fail

theorem Tree.toTr_sat {α : Type} {P : Program} {a : α} : ∀ {t : Tree α}, t.toTr.ev a → t.sat P (· = a)
  | .ret b, h => by simp only [Tree.toTr, Tr.ev] at h; simp only [Tree.sat]; exact h.symm
  | .ite b t e, h => by
    simp only [Tree.toTr, Tr.ev] at h
    simp only [Tree.sat]
    rcases h with ⟨rfl, h⟩ | ⟨rfl, h⟩
    · exact ⟨fun _ => Tree.toTr_sat h, fun h => by cases h⟩
    · exact ⟨fun h => (by cases h), fun _ => Tree.toTr_sat h⟩
  | .need p t, h => ⟨h.1, Tree.toTr_sat h.2⟩
  | .fail, h => h.elim
  | .code .., h => h.elim

/-- What a function returns, reckoned. -/
def autoC (P : Program) (C : Ctx) (n : Nat) (k : FuncId) (h : Hint) : Ctr := fun ss =>
  match P.funcs[k]? with
  | some fn => match fn.body with
    | some b => (fnT P C (fun _ => drawn P C) n fn b ss h).toTr
    | none => .fail
  | none => .fail

theorem autoC_ok {P : Program} {C : Ctx} (hC : CtxOK P C) (hm : P.follows .mixedOrders = true) (n : Nat) (k : FuncId) (h : Hint) : CtrOK P k (autoC P C n k h) := by
  cases hf : P.funcs[k]? with
  | none => intro ss vs w F r hF hr he; simp [autoC, hf, Tr.ev] at he
  | some fn =>
    cases hb : fn.body with
    | none => intro ss vs w F r hF hr he; simp [autoC, hf, hb, Tr.ev] at he
    | some b =>
      refine ctrOK_of hC (drawn_ok hC hm) hf hb fun ss r he => ⟨n, h, ?_⟩
      simp only [autoC, hf, hb] at he
      exact Tree.toTr_sat he

/-- Functions whose contract is given; those that hand back a new row; those that are walked in place; for all others the contract is reckoned, some calls deep. -/
def ctxO (P : Program) (man : FuncId → Option Ctr) (own : FuncId → Option Octr) (inl : FuncId → Bool) (fuel : Nat) (h : Hint) : Nat → Ctx
  | 0 => ⟨man, fun k => inl k && goodF P k, own⟩
  | d + 1 => ⟨fun k => match man k with
    | some c => some c
    | none => match own k with
      | some _ => none
      | none => if inl k then none else if goodF P k then some (autoC P (ctxO P man own inl fuel h d) fuel k h) else none, fun k => inl k && goodF P k, own⟩

theorem ctxO_ok {P : Program} {man : FuncId → Option Ctr} {own : FuncId → Option Octr} {inl : FuncId → Bool} {fuel : Nat} {h : Hint} (hm : P.follows .mixedOrders = true) (hman : ∀ k c, man k = some c → CtrOK P k c ∧ goodF P k = true) (hown : ∀ k c, own k = some c → OwnOK P k c ∧ goodF P k = true) : ∀ d, CtxOK P (ctxO P man own inl fuel h d)
  | 0 => ⟨hman, fun k hk => by simp only [ctxO, Bool.and_eq_true] at hk; exact hk.2, hown⟩
  | d + 1 => by
    refine ⟨fun k c hk => ?_, fun k hk => by simp only [ctxO, Bool.and_eq_true] at hk; exact hk.2, hown⟩
    simp only [ctxO] at hk
    split at hk
    · rename_i c' hc'
      simp only [Option.some.injEq] at hk; subst hk
      exact hman k _ hc'
    · split at hk
      · cases hk
      · split at hk
        · cases hk
        · split at hk
          · rename_i hg
            simp only [Option.some.injEq] at hk; subst hk
            exact ⟨autoC_ok (ctxO_ok hm hman hown d) hm fuel k h, hg⟩
          · cases hk

def ctxN (P : Program) (man : FuncId → Option Ctr) (inl : FuncId → Bool) (fuel : Nat) (h : Hint) (d : Nat) : Ctx := ctxO P man (fun _ => none) inl fuel h d

theorem ctxN_ok {P : Program} {man : FuncId → Option Ctr} {inl : FuncId → Bool} {fuel : Nat} {h : Hint} (hm : P.follows .mixedOrders = true) (hman : ∀ k c, man k = some c → CtrOK P k c ∧ goodF P k = true) (d : Nat) : CtxOK P (ctxN P man inl fuel h d) :=
  ctxO_ok hm hman (fun k c h => by cases h) d

end
end Go.Sx

