/- The symbolic executor: code, in the order of the text. -/
import Derived.Test.YtcbjclmjkilphaaSxM
set_option linter.unusedVariables false
set_option linter.unusedSimpArgs false
namespace Go.Sx
noncomputable section

inductive Ex where
  | normal
  | exit (id : Nat)
  | goto (l : Nat)
  | ret

inductive Tree (α : Type) where
  | ret (a : α)
  | ite (b : Bool) (t e : Tree α)
  | need (p : Prop) (t : Tree α)
  | fail
  | code (c : Code) (st : AS) (k : Ex → AS → Tree α)

def Tree.bind {α β : Type} : Tree α → (α → Tree β) → Tree β
  | .ret a, f => f a
  | .ite b t e, f => .ite b (t.bind f) (e.bind f)
  | .need p t, f => .need p (t.bind f)
  | .fail, _ => .fail
  | .code c st k, f => .code c st fun e s => (k e s).bind f

def Tree.ofTr {α : Type} : Tr α → Tree α
  | .ret a => .ret a
  | .ite b t e => .ite b (ofTr t) (ofTr e)
  | .need p t => .need p (ofTr t)
  | .dneed p _ t => .need p (ofTr t)
  | .fail => .fail

/-! ### States -/

def Fresh (n : Nat) (μ : Mu) : Prop := ∀ l, n ≤ l → μ l = none

def Sim (p : Par) (μ0 : Mu) (st : AS) (a : Act) (w : World) : Prop :=
  ∃ μ F, HS p μ F st.hp w ∧ Fresh st.next μ ∧ (∀ l q, μ0 l = some q → μ l = some q) ∧ TmOK w μ F st.tm a.tmps ∧ st.tm.length ≤ a.tmps.size ∧ Marks p F w a.defers

def conc (p : Par) (μ0 : Mu) (Q : Ex → AS → Prop) : Exit → Act → World → Prop
  | .normal, a, w => ∃ st, Q .normal st ∧ Sim p μ0 st a w
  | .exit id, a, w => ∃ st, Q (.exit id) st ∧ Sim p μ0 st a w
  | .ret, a, w => ∃ st, Q .ret st ∧ Sim p μ0 st a w
  | _, _, _ => False

/-- Code does this. -/
def Triple (P : Program) (c : Code) (st : AS) (Q : Ex → AS → Prop) : Prop := ∀ p μ0 a w, Sim p μ0 st a w → WP P c (conc p μ0 Q) a w

def Tree.sat {α : Type} (P : Program) : Tree α → (α → Prop) → Prop
  | .ret a, Q => Q a
  | .ite b t e, Q => (b = true → t.sat P Q) ∧ (b = false → e.sat P Q)
  | .need p t, Q => p ∧ t.sat P Q
  | .fail, _ => False
  | .code c st k, Q => ∃ post : Ex → AS → Prop, Triple P c st post ∧ ∀ e s, post e s → (k e s).sat P Q

theorem Tree.sat_mono {α : Type} {P : Program} {Q R : α → Prop} (h : ∀ a, Q a → R a) : ∀ {t : Tree α}, t.sat P Q → t.sat P R
  | .ret a, x => h a x
  | .ite b t e, x => ⟨fun hb => Tree.sat_mono h (x.1 hb), fun hb => Tree.sat_mono h (x.2 hb)⟩
  | .need p t, x => ⟨x.1, Tree.sat_mono h x.2⟩
  | .fail, x => x
  | .code c st k, ⟨post, h1, h2⟩ => ⟨post, h1, fun e s hp => Tree.sat_mono h (h2 e s hp)⟩

theorem Tree.sat_bind {α β : Type} {P : Program} {f : α → Tree β} {Q : β → Prop} : ∀ {t : Tree α}, (t.bind f).sat P Q → t.sat P fun a => (f a).sat P Q
  | .ret a, x => x
  | .ite b t e, x => ⟨fun hb => Tree.sat_bind (x.1 hb), fun hb => Tree.sat_bind (x.2 hb)⟩
  | .need p t, x => ⟨x.1, Tree.sat_bind x.2⟩
  | .fail, x => x
  | .code c st k, ⟨post, h1, h2⟩ => ⟨post, h1, fun e s hp => Tree.sat_bind (h2 e s hp)⟩

theorem Tree.sat_ofTr {α : Type} {P : Program} {Q : α → Prop} : ∀ {t : Tr α}, (Tree.ofTr t).sat P Q → ∃ a, t.ev a ∧ Q a
  | .ret a, x => ⟨a, rfl, x⟩
  | .ite b t e, x => by
    cases b
    · obtain ⟨a, h1, h2⟩ := Tree.sat_ofTr (x.2 rfl); exact ⟨a, .inr ⟨rfl, h1⟩, h2⟩
    · obtain ⟨a, h1, h2⟩ := Tree.sat_ofTr (x.1 rfl); exact ⟨a, .inl ⟨rfl, h1⟩, h2⟩
  | .need p t, x => by obtain ⟨a, h1, h2⟩ := Tree.sat_ofTr x.2; exact ⟨a, ⟨x.1, h1⟩, h2⟩
  | .dneed p _ t, x => by obtain ⟨a, h1, h2⟩ := Tree.sat_ofTr (t := t) x.2; exact ⟨a, ⟨x.1, h1⟩, h2⟩
  | .fail, x => x.elim

/-- The same; in a closed call every test is decided. -/
def decTr {α : Type} : Tr α → Tree α
  | .ret a => .ret a
  | .ite b t e => (match b with | true => decTr t | false => decTr e)
  | .need p t => .need p (decTr t)
  | .dneed p d t => (match d with | .isTrue _ => decTr t | .isFalse _ => .fail)
  | .fail => .fail
def ofTrH {α : Type} (h : Hint) (t : Tr α) : Tree α := match h with
  | .run => decTr t
  | _ => Tree.ofTr t
theorem sat_decTr {α : Type} {P : Program} {Q : α → Prop} : ∀ {t : Tr α}, (decTr t).sat P Q → ∃ a, t.ev a ∧ Q a
  | .ret a, x => ⟨a, rfl, x⟩
  | .ite b t e, x => by
    cases b
    · obtain ⟨a, h1, h2⟩ := sat_decTr (t := e) x; exact ⟨a, .inr ⟨rfl, h1⟩, h2⟩
    · obtain ⟨a, h1, h2⟩ := sat_decTr (t := t) x; exact ⟨a, .inl ⟨rfl, h1⟩, h2⟩
  | .need p t, x => by obtain ⟨a, h1, h2⟩ := sat_decTr (t := t) x.2; exact ⟨a, ⟨x.1, h1⟩, h2⟩
  | .dneed p d t, x => by
    cases d with
    | isTrue hp => obtain ⟨a, h1, h2⟩ := sat_decTr (t := t) x; exact ⟨a, ⟨hp, h1⟩, h2⟩
    | isFalse hp => exact x.elim
  | .fail, x => x.elim
theorem sat_ofTrH {α : Type} {P : Program} {Q : α → Prop} {h : Hint} {t : Tr α} (x : (ofTrH h t).sat P Q) : ∃ a, t.ev a ∧ Q a := by
  unfold ofTrH at x
  split at x
  · exact sat_decTr x
  · exact Tree.sat_ofTr x

theorem hs_seq1 {p : Par} {μ : Mu} {F : Nat → Prop} {hp : Heap} {w : World} (h : HS p μ F hp w) : LH w μ F hp := by
  refine ⟨Ext.refl _ _, fun b hb => hb, fun b hb => ⟨(h.fin b hb).1, .inl hb⟩, fun l blk hg => ?_, h.inj⟩
  obtain ⟨q, h1, h2, h3⟩ := h.blk l blk hg
  refine ⟨q, h1, ?_, h3⟩
  cases q with
  | nil => trivial
  | pl b o => exact ⟨h2.1, .inl ⟨l, blk, o, hg, h1⟩⟩

theorem tk_par {p : Par} {μ : Mu} {F : Nat → Prop} {hp : Heap} {w : World} (h : HS p μ F hp w) {b : Nat} (hb : Tk hp μ b) : p.T b ∨ p.w0.heap.size ≤ b := by
  obtain ⟨l, blk, o, hg, hm⟩ := hb
  obtain ⟨q, h1, h2, h3⟩ := h.blk l blk hg
  rw [hm, Option.some.injEq] at h1; subst h1
  exact h2.2

theorem hs_seq2 {p : Par} {μ μ' : Mu} {F F' : Nat → Prop} {hp hp' : Heap} {w w' : World} (h : HS p μ F hp w) (k : HS ⟨w, Tk hp μ, F⟩ μ' F' hp' w') : HS p μ' F' hp' w' := by
  have hsz := h.ext.size
  have hplc : ∀ b, Tk hp μ b ∨ w.heap.size ≤ b → p.T b ∨ p.w0.heap.size ≤ b := fun b hb => hb.elim (tk_par h) fun hb => .inr (by omega)
  refine ⟨h.ext.trans (k.ext.mono fun b hb => ⟨by have := hb.1; simp only; omega, fun ht => ?_⟩), fun b hb => k.sub b (h.sub b hb), fun b hb => ⟨(k.fin b hb).1, ?_⟩, fun l blk hg => ?_, k.inj⟩
  · rcases tk_par h ht with h1 | h1
    · exact hb.2 h1
    · have := hb.1; omega
  · rcases (k.fin b hb).2 with h1 | h1 | h1
    · exact (h.fin b h1).2
    · exact .inr (tk_par h h1)
    · simp only at h1; exact .inr (.inr (by omega))
  · obtain ⟨q, h1, h2, h3⟩ := k.blk l blk hg
    refine ⟨q, h1, ?_, h3⟩
    cases q with
    | nil => trivial
    | pl b o => exact ⟨h2.1, hplc b h2.2⟩

theorem ext_F {w w' : World} {μ μ' : Mu} {F F' : Nat → Prop} {hp hp' : Heap} (hl : LH w μ F hp) (k : HS ⟨w, Tk hp μ, F⟩ μ' F' hp' w') : Ext F w w' :=
  k.ext.mono fun b hb => ⟨(hl.fin b hb).1, fun ⟨l, blk, o, hg, hm⟩ => (hl.blkAt hg hm).2 hb⟩

def putD (tm : List TV) (d : Option Nat) (tv : TV) : Option (List TV) :=
  match d with
  | none => some tm
  | some d => if d < tm.length ∧ noTag tm d = true then some (tm.set d tv) else none

def putG {β : Type} (tm : List TV) (d : Option Nat) (tv : TV) (k : List TV → β) (f : β) : β :=
  match d with
  | none => k tm
  | some d => bif noTagR tm d then setR tm d tv k f else f

theorem putG_eq {β : Type} {tm : List TV} {d : Option Nat} {tv : TV} {k : List TV → β} {f : β} : putG tm d tv k f = match putD tm d tv with | some t => k t | none => f := by
  unfold putG putD
  cases d with
  | none => rfl
  | some d =>
    simp only [noTagR_eq, setR_eq]
    cases noTag tm d with
    | false => simp
    | true => by_cases h : d < tm.length <;> simp [h]

def putF {β : Type} (tm : List TV) (d : Option Nat) (tv : TV) (q : Bool) (hp0 hp : Heap) (nx : Nat) (h : Hint) (k : AS → Tree β) : Tree β :=
  fTV tv fun tv => putG tm d tv (fun tm' => if q then fNat nx fun nx => k ⟨tm', hp0, nx, h⟩ else fHp hp fun hp => fNat nx fun nx => k ⟨tm', hp, nx, h⟩) .fail

theorem putF_eq {β : Type} {tm : List TV} {d : Option Nat} {tv : TV} {q : Bool} {hp0 hp : Heap} {nx : Nat} {h : Hint} {k : AS → Tree β} (hq : q = true → hp = hp0) : putF tm d tv q hp0 hp nx h k = match putD tm d tv with | some tm' => k ⟨tm', hp, nx, h⟩ | none => .fail := by
  unfold putF
  simp only [fTV_eq, putG_eq, fNat_eq, fHp_eq]
  cases q with
  | true => rw [hq rfl]; rfl
  | false => rfl

theorem RepT_put {w : World} {μ : Mu} {F : Nat → Prop} {tmps : Array Value} {v u : Value} {tv : TV} {d : Nat} (h : RepT w μ F tmps v tv) (hd : ∀ g b s, tv = .tag g b s → g ≠ d) (hlt : d < tmps.size) : RepT w μ F (tmps.setIfInBounds d u) v tv := by
  cases tv with
  | tag g b s =>
    have := hd g b s rfl
    simp only [RepT, getD_set g hlt, this, if_false]
    exact h
  | _ => exact h

/-- One step: the state behind it. -/
theorem sim_put {p : Par} {μ0 μ : Mu} {F : Nat → Prop} {st : AS} {a : Act} {w w' : World} {N : Nat → Prop} {hp' : Heap} {v : Value} {tv : TV} {d : Option Nat} {tm' : List TV} {nx : Nat} {h : Hint} (hs : HS p μ F st.hp w) (hf : Fresh st.next μ) (h0 : ∀ l q, μ0 l = some q → μ l = some q)
    (ht : TmOK w μ F st.tm a.tmps) (hsz : st.tm.length ≤ a.tmps.size) (hd : Marks p F w a.defers) (ho : OutT w μ F st.hp N hp' a.tmps v tv w') (hN : ∀ l, N l → l < nx) (hnx : st.next ≤ nx) (hpd : putD st.tm d tv = some tm') (htag : ∀ g b s, tv = .tag g b s → d ≠ some g) :
    Sim p μ0 ⟨tm', hp', nx, h⟩ (a.put d v) w' := by
  obtain ⟨μ', F', e1, e2, e3, e4⟩ := ho
  have hext := ext_F (hs_seq1 hs) e1
  have hfr : Fresh nx μ' := by
    intro l hl
    have : ¬ N l := fun hn => by have := hN l hn; omega
    rw [e4 l this]; exact hf l (by omega)
  refine ⟨μ', F', hs_seq2 hs e1, hfr, fun l q hq => e3 l q (h0 l q hq), ?_, ?_, by rw [Act.put_defers]; exact hd.step (hs_seq1 hs) e1⟩
  · cases d with
    | none =>
      simp only [putD, Option.some.injEq] at hpd; subst hpd
      exact fun t => (ht t).mono hext e1.sub e3
    | some d =>
      simp only [putD] at hpd
      split at hpd
      · rename_i hk
        simp only [Option.some.injEq] at hpd; subst hpd
        exact tmOK_put ht hext e1.sub e3 (by omega) hk.1 hk.2 (RepT_put e2 (fun g b s e he => htag g b s e (by rw [he])) (by omega))
      · cases hpd
  · cases d with
    | none => simp only [putD, Option.some.injEq] at hpd; subst hpd; exact hsz
    | some d =>
      simp only [putD] at hpd
      split at hpd
      · simp only [Option.some.injEq] at hpd; subst hpd; simp [Act.put]; exact hsz
      · cases hpd

/-! ### Regions in the order of the text -/

abbrev Inl := FuncId → List SV → AS → Tree (SV × AS)

def isInl (C : Ctx) (tm : List TV) (o : Oper) : Option (FuncId × List SV) :=
  match o.op with
  | .call c => match callee (rhoR tm none (opSlots o)) c with
    | some (k, args) => if (C.ctr k).isNone && C.inl k then some (k, args) else none
    | none => none
  | _ => none

def needT {α : Type} (l : List Prop) (t : Tree α) : Tree α := l.foldr (fun p t => .need p t) t

theorem needT_sat {α : Type} {P : Program} {l : List Prop} {t : Tree α} {Q : α → Prop} (h : (needT l t).sat P Q) : (∀ p ∈ l, p) ∧ t.sat P Q := by
  induction l with
  | nil => exact ⟨(fun p hp => by cases hp), h⟩
  | cons q l ih =>
    obtain ⟨h1, h2⟩ := h
    obtain ⟨h3, h4⟩ := ih h2
    exact ⟨fun p hp => (List.mem_cons.1 hp).elim (fun e => e ▸ h1) (h3 p), h4⟩

def branchB {α : Type} (h : Hint) (b : Bool) (kt kf : Hint → Tree α) : Tree α :=
  match h with
  | .t h' => .need (b = true) (kt h')
  | .f h' => .need (b = false) (kf h')
  | .br l r => .ite b (kt l) (kf r)
  | .run => match b with | true => kt .run | false => kf .run
  | h => .ite b (kt h) (kf h)

theorem branchB_sat {α : Type} {P : Program} {h : Hint} {b : Bool} {kt kf : Hint → Tree α} {Q : α → Prop} (hs : (branchB h b kt kf).sat P Q) : ∃ h', (b = true ∧ (kt h').sat P Q) ∨ (b = false ∧ (kf h').sat P Q) := by
  unfold branchB at hs
  split at hs
  · rename_i h'; exact ⟨h', .inl hs⟩
  · rename_i h'; exact ⟨h', .inr hs⟩
  · rename_i l r
    cases b
    · exact ⟨r, .inr ⟨rfl, hs.2 rfl⟩⟩
    · exact ⟨l, .inl ⟨rfl, hs.1 rfl⟩⟩
  · cases b
    · exact ⟨_, .inr ⟨rfl, hs⟩⟩
    · exact ⟨_, .inl ⟨rfl, hs⟩⟩
  · cases b
    · exact ⟨h, .inr ⟨rfl, hs.2 rfl⟩⟩
    · exact ⟨h, .inl ⟨rfl, hs.1 rfl⟩⟩

def nextOf (o : Oper) (n : Nat) : Nat := if quietOp o.op then n else n + 1

/-! ### Rows that a callee may hand back are given up, and told as values that stay -/

/-- A value of this type may hold rows. -/
def refT (P : Program) : Nat → TypeId → Bool
  | 0, _ => true
  | n + 1, t => match P.underlying t with
    | some .bool => false
    | some (.int _) => false
    | some .string => false
    | some (.array _ e) => refT P n e
    | some (.struct fs) => fs.toList.any fun f => refT P n f.type
    | some (.tuple ts) => ts.toList.any fun t => refT P n t
    | _ => true

def rwS (hp : Heap) (ls : List Nat) (s : SV) : SV × List Prop := match s with
  | .row l b o n e => match view1 hp (.row l b o n e) with
    | some (a, ps, l) => if l.all (fun x => ls.contains x) = true then (a, ps) else (s, [])
    | none => (s, [])
  | s => (s, [])

def rwL (hp : Heap) (ls : List Nat) : List SV → List SV × List Prop
  | [] => ([], [])
  | s :: r => ((rwS hp ls s).1 :: (rwL hp ls r).1, (rwS hp ls s).2 ++ (rwL hp ls r).2)

def rwV (hp : Heap) (ls : List Nat) : SV → SV × List Prop
  | .agg cs => (.agg (rwL hp ls cs).1, (rwL hp ls cs).2)
  | s => rwS hp ls s

def rwTm (hp : Heap) (ls : List Nat) : List TV → List TV × List Prop
  | [] => ([], [])
  | .ok s :: r => (.ok (rwV hp ls s).1 :: (rwTm hp ls r).1, (rwV hp ls s).2 ++ (rwTm hp ls r).2)
  | tv :: r => (tv :: (rwTm hp ls r).1, (rwTm hp ls r).2)

def rwHp (hp : Heap) (ls : List Nat) : Nat → Heap → Heap × List Prop
  | _, [] => ([], [])
  | k, some (.cells cs) :: r => if ls.contains k then (none :: (rwHp hp ls (k + 1) r).1, (rwHp hp ls (k + 1) r).2) else (some (.cells (rwL hp ls cs).1) :: (rwHp hp ls (k + 1) r).1, (rwL hp ls cs).2 ++ (rwHp hp ls (k + 1) r).2)
  | k, b :: r => ((if ls.contains k then none else b) :: (rwHp hp ls (k + 1) r).1, (rwHp hp ls (k + 1) r).2)

section
variable {w : World} {μ : Mu} {F : Nat → Prop} {hp : Heap} {ls : List Nat}

theorem rwS_sound (P : Program) (hl : LH w μ F hp) {v : Value} {s : SV} (hs : Rep w μ F v s) (hps : ∀ p ∈ (rwS hp ls s).2, p) : Rep w μ (FrzF F hp μ ls) v (rwS hp ls s).1 := by
  have keep : Rep w μ (FrzF F hp μ ls) v s := hs.mono (Ext.refl _ _) (fun b h => .inl h) (fun _ _ h => h)
  unfold rwS at hps ⊢
  split
  · rename_i l b o n e
    simp only at hps
    split
    · rename_i a ps l' hv
      rw [hv] at hps
      simp only at hps
      split
      · rename_i hall
        rw [if_pos hall] at hps
        refine emp_up (view1_sound (P := P) hl hs hv hps (G := FrzF F hp μ ls) (fun b h => .inl h) fun b ⟨k, hk, x⟩ => .inr ⟨k, ?_, x⟩)
        have := (List.all_eq_true.1 hall) k hk
        simpa using this
      · exact keep
    · exact keep
  · exact keep
where
  emp_up {w : World} {μ : Mu} {G : Nat → Prop} {v : Value} {s : SV} (h : Rep w emp G v s) : Rep w μ G v s := Rep.mono (Ext.refl _ _) (fun _ h => h) (fun l q h => by simp [emp] at h) h

theorem rwL_sound (P : Program) (hl : LH w μ F hp) : ∀ {cs : List SV}, (∀ p ∈ (rwL hp ls cs).2, p) → (rwL hp ls cs).1.length = cs.length ∧ ∀ i v, i < cs.length → Rep w μ F v (cs.getD i uv) → Rep w μ (FrzF F hp μ ls) v ((rwL hp ls cs).1.getD i uv)
  | [], _ => ⟨rfl, fun i v hi => by simp at hi⟩
  | s :: r, hps => by
    simp only [rwL, List.mem_append] at hps
    obtain ⟨h1, h2⟩ := rwL_sound P hl (cs := r) fun p hp => hps p (.inr hp)
    refine ⟨by simp [rwL, h1], fun i v hi hr => ?_⟩
    cases i with
    | zero => exact rwS_sound P hl (by simpa using hr) fun p hp => hps p (.inl hp)
    | succ i => simpa [rwL] using h2 i v (by simpa using hi) (by simpa using hr)

theorem rwV_sound (P : Program) (hl : LH w μ F hp) {v : Value} {s : SV} (hs : Rep w μ F v s) (hps : ∀ p ∈ (rwV hp ls s).2, p) : Rep w μ (FrzF F hp μ ls) v (rwV hp ls s).1 := by
  unfold rwV at hps ⊢
  split
  · rename_i cs
    simp only at hps
    obtain ⟨h1, h2⟩ := rwL_sound P hl (cs := cs) hps
    cases hs with
    | agg vs _ hlen hi => exact .agg vs _ (by rw [h1]; exact hlen) fun i hi2 => h2 i _ (by omega) (hi i (by omega))
  · rename_i hne
    have : rwV hp ls s = rwS hp ls s := by
      cases s <;> first | rfl | exact (hne _ rfl).elim
    refine rwS_sound P hl hs ?_
    simpa using hps

theorem rwHp_get : ∀ {r : Heap} {k : Nat} {j : Nat} {blk : Blk}, hget (rwHp hp ls k r).1 j = some blk →
    k + j ∉ ls ∧ ∃ blk0, hget r j = some blk0 ∧ (blk = blk0 ∨ ∃ cs, blk0 = .cells cs ∧ blk = .cells (rwL hp ls cs).1 ∧ ∀ p ∈ (rwL hp ls cs).2, p ∈ (rwHp hp ls k r).2)
  | [], k, j, blk, h => by simp [rwHp, hget_def] at h
  | b :: r, k, 0, blk, h => by
    have e : hget (b :: r) 0 = b := by simp [hget_def]
    rw [e]
    unfold rwHp at h ⊢
    split at h
    · rename_i heq; cases heq
    · rename_i cs r' heq
      cases heq
      split at h
      · simp [hget_def] at h
      · rename_i hc
        rw [if_neg hc]
        simp only [hget_def, List.getD_cons_zero, Option.some.injEq] at h
        subst h
        exact ⟨by simpa using hc, _, rfl, .inr ⟨cs, rfl, rfl, fun p hp => List.mem_append.2 (.inl hp)⟩⟩
    · rename_i b' r' _ heq
      cases heq
      simp only [hget_def, List.getD_cons_zero] at h
      split at h
      · cases h
      · rename_i hc
        exact ⟨by simpa using hc, blk, h, .inl rfl⟩
  | b :: r, k, j + 1, blk, h => by
    have e : hget (b :: r) (j + 1) = hget r j := by simp [hget_def]
    rw [e]
    have key : hget (rwHp hp ls (k + 1) r).1 j = some blk ∧ ∀ p ∈ (rwHp hp ls (k + 1) r).2, p ∈ (rwHp hp ls k (b :: r)).2 := by
      unfold rwHp at h
      split at h
      · rename_i heq; cases heq
      · rename_i cs r' heq
        cases heq
        split at h
        · rename_i hc
          refine ⟨by simpa [hget_def] using h, fun p hp => ?_⟩
          conv => rw [rwHp]
          rw [if_pos hc]; exact hp
        · rename_i hc
          refine ⟨by simpa [hget_def] using h, fun p hp => ?_⟩
          conv => rw [rwHp]
          rw [if_neg hc]; exact List.mem_append.2 (.inr hp)
      · rename_i b' r' hne heq
        cases heq
        refine ⟨by simpa [hget_def] using h, fun p hp => ?_⟩
        rw [rwHp.eq_def]
        split
        · rename_i heq; cases heq
        · rename_i cs r2 heq; cases heq; exact (hne cs rfl).elim
        · rename_i heq; cases heq; exact hp
    obtain ⟨h1, blk0, h2, h3⟩ := rwHp_get (r := r) (k := k + 1) (j := j) key.1
    refine ⟨by rw [show k + (j + 1) = k + 1 + j by omega]; exact h1, blk0, h2, ?_⟩
    rcases h3 with h3 | ⟨cs, e1, e2, e3⟩
    · exact .inl h3
    · exact .inr ⟨cs, e1, e2, fun p hp => key.2 p (e3 p hp)⟩

theorem rwHp_sound (P : Program) (hl : LH w μ F hp) (hps : ∀ p ∈ (rwHp hp ls 0 hp).2, p) : Frz w μ F (FrzF F hp μ ls) hp (rwHp hp ls 0 hp).1 := by
  refine ⟨lh_frz hl fun k blk hg => ?_, fun b hb => tk_sub (fun k blk hg => ?_) hb, fun b hb => .inl hb, frzF_tk (w := w)⟩
  · obtain ⟨h1, blk0, h2, h3⟩ := rwHp_get hg
    rw [Nat.zero_add] at h1
    refine ⟨h1, blk0, h2, fun q hq hb => ?_⟩
    have keep : BlkAt w μ (FrzF F hp μ ls) q blk0 := hb.mono (Ext.refl _ _) (fun b h => .inl h) (fun _ _ h => h) (fun _ _ _ => rfl)
    rcases h3 with rfl | ⟨cs, rfl, rfl, h4⟩
    · exact keep
    · obtain ⟨k1, k2⟩ := rwL_sound P hl (ls := ls) (cs := cs) fun p hp => hps p (h4 p hp)
      cases q with
      | nil => exact hb.elim
      | pl b o =>
        obtain ⟨c, e, g1, g2, g3, g4⟩ := hb
        exact ⟨c, e, g1, by rw [k1]; exact g2, fun i hi => k2 i _ (by omega) (g3 i (by omega)), fun i hi => g4 i (by omega)⟩
  · obtain ⟨_, blk0, h2, _⟩ := rwHp_get hg
    exact ⟨blk0, h2⟩

theorem rwTm_sound (P : Program) (hl : LH w μ F hp) {tmps : Array Value} : ∀ {tm : List TV}, (∀ p ∈ (rwTm hp ls tm).2, p) → ∀ t, RepT w μ F tmps (tmps.getD t undef) (tget tm t) → RepT w μ (FrzF F hp μ ls) tmps (tmps.getD t undef) (tget (rwTm hp ls tm).1 t) := by
  have keep : ∀ (v : Value) (tv : TV), RepT w μ F tmps v tv → RepT w μ (FrzF F hp μ ls) tmps v tv := fun v tv h => h.mono (Ext.refl _ _) (fun b h => .inl h) (fun _ _ h => h)
  suffices H : ∀ {tm : List TV}, (∀ p ∈ (rwTm hp ls tm).2, p) → ∀ t v, RepT w μ F tmps v (tget tm t) → RepT w μ (FrzF F hp μ ls) tmps v (tget (rwTm hp ls tm).1 t) from fun {tm} h t hr => H (tm := tm) h t _ hr
  intro tm
  induction tm with
  | nil => intro _ t v h; simp only [rwTm]; exact keep _ _ h
  | cons a r ih =>
    intro hps t v h
    cases a with
    | ok s =>
      simp only [rwTm, List.mem_append] at hps ⊢
      cases t with
      | zero =>
        simp only [tget_def, List.getD_cons_zero] at h ⊢
        exact rwV_sound P hl h fun p hp => hps p (.inl hp)
      | succ t =>
        have := ih (fun p hp => hps p (.inr hp)) t v (by simpa [tget_def] using h)
        simpa [tget_def] using this
    | _ =>
      simp only [rwTm] at hps ⊢
      cases t with
      | zero => simp only [tget_def, List.getD_cons_zero] at h ⊢; exact keep _ _ h
      | succ t =>
        have := ih hps t v (by simpa [tget_def] using h)
        simpa [tget_def] using this

theorem rwTm_len : ∀ (tm : List TV), (rwTm hp ls tm).1.length = tm.length
  | [] => rfl
  | .ok s :: r => by simp [rwTm, rwTm_len r]
  | .unk :: r => by simp [rwTm, rwTm_len r]
  | .lit _ :: r => by simp [rwTm, rwTm_len r]
  | .cnd _ _ :: r => by simp [rwTm, rwTm_len r]
  | .tag _ _ _ :: r => by simp [rwTm, rwTm_len r]

/-- A state where these rows are told as values that stay. -/
def frzSt (ls : List Nat) (st : AS) : AS := { st with tm := (rwTm st.hp ls st.tm).1, hp := (rwHp st.hp ls 0 st.hp).1 }
def frzP (ls : List Nat) (st : AS) : List Prop := (rwTm st.hp ls st.tm).2 ++ (rwHp st.hp ls 0 st.hp).2

theorem frz_sim (P : Program) {p : Par} {μ0 : Mu} {st : AS} {a : Act} {w : World} {ls : List Nat} (hs : Sim p μ0 st a w) (hps : ∀ q ∈ frzP ls st, q) : Sim p μ0 (frzSt ls st) a w := by
  obtain ⟨μ, F, hh, hf, h0, ht, hsz, Ds, d1, d2, d3⟩ := hs
  have hl := hs_seq1 hh
  have fz := rwHp_sound P hl (ls := ls) fun q hq => hps q (List.mem_append.2 (.inr hq))
  refine ⟨μ, FrzF F st.hp μ ls, hs_seq2 hh (hs_widen fz.tk fz.up fz.dn fz.lh), hf, h0, fun t => rwTm_sound P hl (fun q hq => hps q (List.mem_append.2 (.inl hq))) t (ht t), by simpa [frzSt, rwTm_len] using hsz, Ds, d1, d2, fun D hD => ⟨(d3 D hD).1, (d3 D hD).2.1, fun hF => ?_⟩⟩
  rcases fz.dn D hF with h | h
  · exact (d3 D hD).2.2 h
  · obtain ⟨c, e, fr, hc⟩ := tk_cells hl h
    rw [(d3 D hD).2.1] at hc; cases hc
end

/-- The rows that this call takes and may hand back. -/
def frzOf (P : Program) (C : Ctx) (st : AS) (o : Oper) : List Nat := match o.op with
  | .call c => match callee (rhoR st.tm none (opSlots o)) c with
    | some (k, args) => match C.ctr k with
      | some _ => if refT P 20 o.type = true then (match views st.hp args with | some (_, _, ls) => ls | none => []) else []
      | none => []
    | none => []
  | _ => []

def fTmN {β : Type} : List TV → (List TV → β) → β
  | [], k => k []
  | a :: r, k => fTV a fun a => fTmN r fun r => k (a :: r)
theorem fTmN_eq {β : Type} (l : List TV) (k : List TV → β) : fTmN l k = k l := by
  induction l generalizing k with
  | nil => rfl
  | cons a r ih => simp [fTmN, ih]
def frcS {β : Type} (st : AS) (k : AS → β) : β := fTmN st.tm fun tm => fHp st.hp fun hp => k { st with tm := tm, hp := hp }
theorem frcS_eq {β : Type} (st : AS) (k : AS → β) : frcS st k = k st := by simp [frcS, fTmN_eq]

def doOp (P : Program) (C : Ctx) (o : Oper) (st : AS) (k : AS → Tree AS) : Tree AS :=
  (ofTrH st.hint (opAll P C st.next st.tm st.hp none o)).bind fun r => putF st.tm o.dst (.ok r.1) (quietOp o.op) st.hp r.2 (nextOf o st.next) st.hint k

def doFree (P : Program) (C : Ctx) (inl : Inl) (o : Oper) (st : AS) (k : AS → Tree AS) : Tree AS :=
  match isInl C st.tm o with
  | some (f, args) => needT (cndsT st.tm (opSlots o)) ((inl f args st).bind fun r => putF st.tm o.dst (.ok r.1) false [] r.2.hp r.2.next r.2.hint k)
  | none => match frzOf P C st o with
    | [] => doOp P C o st k
    | l :: r => needT (frzP (l :: r) st) (frcS (frzSt (l :: r) st) fun st => doOp P C o st k)

def doSkip (o : Oper) (st : AS) (k : AS → Tree AS) : Tree AS :=
  putF st.tm o.dst (.ok uv) true st.hp st.hp st.next st.hint k

def doSpec (P : Program) (C : Ctx) (ops : Array Oper) (o : Oper) (st : AS) (k : AS → Tree AS) : Tree AS :=
  if quietOp o.op then
    (ofTrH st.hint (stepTr (isRun st.hint) P C ops st.next st.tm st.hp o)).bind fun r => putF st.tm o.dst r.1 false st.hp r.2 st.next st.hint k
  else .fail

def runOps (P : Program) (C : Ctx) (inl : Inl) (ops : Array Oper) : List Oper → AS → Tree AS
  | [], st => .ret st
  | o :: rest, st =>
    match gstat ops st.tm o with
    | .free => doFree P C inl o st (runOps P C inl ops rest)
    | .skip => doSkip o st (runOps P C inl ops rest)
    | .tagd g w (some b) =>
      if quietOp o.op && (isInl C st.tm o).isNone && !isRun st.hint then doSpec P C ops o st (runOps P C inl ops rest)
      else branchB st.hint b
        (fun h => if w then doFree P C inl o { st with tm := st.tm.set g (.lit true), hint := h } (runOps P C inl ops rest) else doSkip o { st with tm := st.tm.set g (.lit true), hint := h } (runOps P C inl ops rest))
        (fun h => if w then doSkip o { st with tm := st.tm.set g (.lit false), hint := h } (runOps P C inl ops rest) else doFree P C inl o { st with tm := st.tm.set g (.lit false), hint := h } (runOps P C inl ops rest))
    | .tagd g w none => doSpec P C ops o st (runOps P C inl ops rest)
    | .bad => .fail

/-- A function that is walked in place: its value, and the state behind it. -/
def InlOK (P : Program) (C : Ctx) (inl : Inl) : Prop :=
  ∀ (k : FuncId) (args : List SV) (st : AS) (R : SV × AS → Prop), C.inl k = true → (inl k args st).sat P R → ∀ (μ : Mu) (F : Nat → Prop) (w : World) (vs : Array Value), LH w μ F st.hp → Fresh st.next μ → Reps w μ F vs args →
    Calls P k vs w fun e w' => ∃ v s st' μ' F', e = .returned v ∧ R (s, st') ∧ HS ⟨w, Tk st.hp μ, F⟩ μ' F' st'.hp w' ∧ Rep w' μ' F' v s ∧ (∀ l q, μ l = some q → μ' l = some q) ∧ Fresh st'.next μ'

theorem TmOK.lit {w : World} {μ : Mu} {F : Nat → Prop} {tm : List TV} {tmps : Array Value} {g : Nat} {b : Bool} (h : TmOK w μ F tm tmps) (hg : tget tm g = .ok (.d (.x (.bool b)))) : TmOK w μ F (tm.set g (.lit b)) tmps := by
  have hlt : g < tm.length := by
    rcases Nat.lt_or_ge g tm.length with h1 | h1
    · exact h1
    · simp [tget_def, List.getD, List.getElem?_eq_none h1] at hg
  intro t
  rw [tget_set _ _ _ _ hlt]
  split
  · rename_i e; subst e
    have := h t
    rw [hg] at this
    exact rep_x this
  · exact h t

end
end Go.Sx
