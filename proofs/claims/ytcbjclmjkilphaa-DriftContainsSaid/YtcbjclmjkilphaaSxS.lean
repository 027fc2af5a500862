/- The symbolic executor: regions that draw their order: the theorem. -/
import Derived.Test.YtcbjclmjkilphaaSxR
set_option linter.unusedVariables false
set_option linter.unusedSimpArgs false
namespace Go.Sx
noncomputable section

theorem foldE_shift (S : Nat → Bool) : ∀ (l : List Ev) (k : Nat) (s : St), foldE S (k + 1) l s = foldE (fun i => S (i + 1)) k l s
  | [], k, s => rfl
  | e :: r, k, s => by unfold foldE; exact foldE_shift S r (k + 1) _

theorem foldE_cons (S : Nat → Bool) (k : Nat) (e : Ev) (r : List Ev) (s : St) : foldE S k (e :: r) s = foldE S (k + 1) r (if S k then ap s e else s) := rfl

theorem foldE_false : ∀ (l : List Ev) (k : Nat) (s : St), foldE (fun _ => false) k l s = s
  | [], k, s => rfl
  | e :: r, k, s => by rw [foldE_cons]; exact foldE_false r _ _

theorem foldE_congr {S S' : Nat → Bool} : ∀ (l : List Ev) (k : Nat) (s : St), (∀ j, j < l.length → S (k + j) = S' (k + j)) → foldE S k l s = foldE S' k l s
  | [], k, s, _ => rfl
  | e :: r, k, s, h => by
    unfold foldE
    have h0 := h 0 (by simp)
    simp only [Nat.add_zero] at h0
    rw [h0]
    exact foldE_congr r (k + 1) _ fun j hj => by have := h (j + 1) (by simpa using hj); rwa [show k + (j + 1) = k + 1 + j by omega] at this

theorem stepTr_quiet {rn : Bool} {P : Program} {C : Ctx} {ops : Array Oper} {id : Nat} {tm : List TV} {hp hp' : Heap} {o : Oper} {tv : TV} (hq : quietOp o.op = true) (he : (stepTr rn P C ops id tm hp o).ev (tv, hp')) : hp' = hp := by
  unfold stepTr at he
  split at he
  · split at he
    · simp only [Tr.ev, Prod.mk.injEq] at he; exact he.2
    obtain ⟨r, h1, h2⟩ := Tr.ev_bind he
    obtain ⟨rfl, _⟩ := litOf_ev h2
    exact opAll_quiet hq h1
  · simp only [Tr.ev, Prod.mk.injEq] at he; exact he.2
  · split at he
    · exact (specT_ev he).1
    · exact he.elim
  · exact he.elim

theorem stepTr_tag {rn : Bool} {P : Program} {C : Ctx} {ops : Array Oper} {id : Nat} {tm : List TV} {hp hp' : Heap} {o : Oper} {g : Nat} {b : Bool} {s : SV} (he : (stepTr rn P C ops id tm hp o).ev (.tag g b s, hp')) : o.dst ≠ some g ∧ ∃ j, o.guard = some (j, b) ∧ (ops[j]?).bind (·.dst) = some g := by
  unfold stepTr at he
  split at he
  · split at he
    · simp only [Tr.ev, Prod.mk.injEq] at he; cases he.1
    obtain ⟨r, h1, h2⟩ := Tr.ev_bind he
    obtain ⟨_, h3 | ⟨_, h3, _⟩⟩ := litOf_ev h2 <;> cases h3
  · simp only [Tr.ev, Prod.mk.injEq] at he; cases he.1
  · rename_i g' b' c hgs
    split at he
    · rename_i hq
      simp only [Bool.and_eq_true, bne_iff_ne, ne_eq] at hq
      obtain ⟨_, s', h1, _⟩ := specT_ev he
      cases h1
      obtain ⟨j, h3, h4, _⟩ := gstat_tagd hgs
      exact ⟨hq.2, j, h3, h4⟩
    · exact he.elim
  · exact he.elim

/-- What is known of an operation and what was written down of it. -/
structure EvOK (P : Program) (C : Ctx) (ops : Array Oper) (o : Oper) (tm : List TV) (hp : Heap) (e : Ev) : Prop where
  dst : e.dst = o.dst
  ts : ∀ t ∈ opSlots o, t ∈ e.ts
  tag : ∀ g b s, e.tv = .tag g b s → g ∈ e.ts ∧ o.dst ≠ some g
  len : ∀ d, o.dst = some d → d < tm.length
  run : ∃ rn hp', (stepTr rn P C ops e.id (restrictT tm.length tm e.ts) (restrictH hp e.L) o).ev (e.tv, hp') ∧ e.W = if quietOp o.op then [] else (e.id :: e.L).map fun l => (l, hget hp' l)
  nq : e.nq = !quietOp o.op

theorem evOp_spec {P : Program} {C : Ctx} {ops : Array Oper} {o : Oper} {st st' : AS} {e : Ev} (h : (evOp P C ops o st).ev (e, st')) : EvOK P C ops o st.tm st.hp e ∧ ⟨st'.tm, st'.hp⟩ = ap ⟨st.tm, st.hp⟩ e ∧ e.id = st.next ∧ st'.next = st.next + 1 := by
  rw [evOp_eq] at h
  obtain ⟨r, h1, h2⟩ := Tr.ev_bind h
  simp only at h2
  split at h2
  · rename_i tm' hpd
    simp only [Tr.ev, Prod.mk.injEq] at h2
    obtain ⟨rfl, rfl⟩ := h2
    obtain ⟨tv, hp'⟩ := r
    refine ⟨⟨rfl, fun t ht => List.mem_append.2 (.inl ht), ?_, ?_, ⟨_, hp', h1, rfl⟩, rfl⟩, ?_, rfl, rfl⟩
    · intro g b s htv
      simp only at htv; subst htv
      obtain ⟨h3, j, h4, h5⟩ := stepTr_tag h1
      refine ⟨List.mem_append.2 (.inr ?_), h3⟩
      unfold gslots
      simp only [h4, h5]
      exact List.mem_cons_self ..
    · intro d hd
      rw [hd] at hpd
      simp only [putD] at hpd
      split at hpd
      · rename_i hk; exact hk.1
      · cases hpd
    · cases hd : o.dst with
      | none => rw [hd] at hpd; simp only [putD, Option.some.injEq] at hpd; subst hpd; simp [ap, hd]
      | some d =>
        rw [hd] at hpd
        simp only [putD] at hpd
        split at hpd
        · simp only [Option.some.injEq] at hpd; subst hpd; simp [ap, hd]
        · cases hpd
  · exact h2.elim

theorem evOps_spec {P : Program} {C : Ctx} {ops : Array Oper} : ∀ (l : List Oper) (st stF : AS) (evs : List Ev), (evOps P C ops l st).ev (evs, stF) →
    evs.length = l.length ∧ ⟨stF.tm, stF.hp⟩ = foldE (fun _ => true) 0 evs ⟨st.tm, st.hp⟩ ∧ stF.next = st.next + l.length ∧
    ∀ j o e, l[j]? = some o → evs[j]? = some e → EvOK P C ops o (foldE (fun i => decide (i < j)) 0 evs ⟨st.tm, st.hp⟩).tm (foldE (fun i => decide (i < j)) 0 evs ⟨st.tm, st.hp⟩).hp e ∧ e.id = st.next + j
  | [], st, stF, evs, h => by
    simp only [evOps, Tr.ev, Prod.mk.injEq] at h
    obtain ⟨rfl, rfl⟩ := h
    exact ⟨rfl, rfl, rfl, fun j o e hj => by simp at hj⟩
  | o :: r, st, stF, evs, h => by
    simp only [evOps] at h
    obtain ⟨⟨e, st1⟩, h1, h2⟩ := Tr.ev_bind h
    obtain ⟨⟨es, st2⟩, h3, h4⟩ := Tr.ev_bind h2
    simp only [Tr.ev, Prod.mk.injEq] at h4
    obtain ⟨rfl, rfl⟩ := h4
    obtain ⟨e1, e2, e3, e4⟩ := evOp_spec h1
    obtain ⟨f1, f2, f3, f4⟩ := evOps_spec r st1 stF es h3
    refine ⟨by simp [f1], ?_, by rw [f3, e4]; simp; omega, ?_⟩
    · rw [f2, e2, foldE_cons, foldE_shift]
      rfl
    · intro j o' e' hj he
      cases j with
      | zero =>
        simp only [List.getElem?_cons_zero, Option.some.injEq] at hj he
        subst hj; subst he
        have : foldE (fun i => decide (i < 0)) 0 (e :: es) ⟨st.tm, st.hp⟩ = ⟨st.tm, st.hp⟩ := by
          have hf : (fun i : Nat => decide (i < 0)) = fun _ => false := by funext i; simp
          rw [hf]; exact foldE_false _ _ _
        rw [this]
        exact ⟨e1, e3⟩
      | succ j =>
        obtain ⟨g1, g2⟩ := f4 j o' e' (by simpa using hj) (by simpa using he)
        have : foldE (fun i => decide (i < j + 1)) 0 (e :: es) ⟨st.tm, st.hp⟩ = foldE (fun i => decide (i < j)) 0 es ⟨st1.tm, st1.hp⟩ := by
          rw [e2]
          rw [foldE_cons, foldE_shift, if_pos (by simp)]
          exact foldE_congr _ _ _ fun i _ => by simp
        rw [this]
        exact ⟨g1, by rw [g2, e4]; omega⟩

/-! ### The pairs -/

theorem rowOK_spec {bb : Nat} {b : Ev} : ∀ {l : List Ev} {i : Nat}, rowOK bb b i l = true → ∀ j a, l[j]? = some a → pairOK bb (i + j) a b = true
  | [], i, _, j, a, h => by simp at h
  | x :: r, i, h, j, a, hj => by
    simp only [rowOK, Bool.and_eq_true] at h
    cases j with
    | zero => simp only [List.getElem?_cons_zero, Option.some.injEq] at hj; subst hj; exact h.1
    | succ j =>
      have := rowOK_spec h.2 j a (by simpa using hj)
      rwa [show i + (j + 1) = i + 1 + j by omega]

theorem allOK_spec : ∀ {l : List Ev} {bs : List Nat} {done : List Ev}, allOK bs done l = true → ∀ k e, l[k]? = some e →
    (∀ i a, (done ++ l)[i]? = some a → i < done.length + k → pairOK (bs.getD k 0) i a e = true)
  | [], bs, done, _, k, e, h => by simp at h
  | b :: r, bs, done, h, k, e, hk => by
    simp only [allOK, Bool.and_eq_true] at h
    obtain ⟨⟨h1, _⟩, h2⟩ := h
    cases k with
    | zero =>
      simp only [List.getElem?_cons_zero, Option.some.injEq] at hk; subst hk
      intro i a hi hlt
      have hi' : done[i]? = some a := by
        rw [List.getElem?_append_left (by omega)] at hi; exact hi
      have := rowOK_spec h1 i a hi'
      cases bs <;> simpa using this
    | succ k =>
      have ih := allOK_spec h2 k e (by simpa using hk)
      intro i a hi hlt
      have := ih i a (by simpa using hi) (by simp; omega)
      cases bs <;> simpa using this

theorem edgesOK_spec : ∀ {l : List Oper} {k : Nat}, edgesOK k l = true → ∀ j o e, l[j]? = some o → e ∈ o.after → binding e = true → e.on < k + j
  | [], k, _, j, o, e, h => by simp at h
  | x :: r, k, h, j, o, e, hj => by
    simp only [edgesOK, Bool.and_eq_true] at h
    intro he hb
    cases j with
    | zero =>
      simp only [List.getElem?_cons_zero, Option.some.injEq] at hj; subst hj
      have := List.all_eq_true.1 h.1 e (by simpa using he)
      simpa [hb] using this
    | succ j =>
      have := edgesOK_spec h.2 j o e (by simpa using hj) he hb
      omega

theorem foldE_tag (S : Nat → Bool) (t : Nat) {g : Nat} {b : Bool} {s : SV} : ∀ (l : List Ev) (k : Nat) (s0 : St), tget (foldE S k l s0).tm t = .tag g b s → tget s0.tm t = .tag g b s ∨ ∃ j e, l[j]? = some e ∧ S (k + j) = true ∧ e.tv = .tag g b s ∧ e.dst = some t
  | [], k, s0, h => .inl h
  | e :: r, k, s0, h => by
    unfold foldE at h
    rcases foldE_tag S t r (k + 1) _ h with h1 | ⟨j, e', h1, h2, h3, h4⟩
    · split at h1
      · rename_i hS
        by_cases hd : e.dst = some t
        · by_cases hlt : t < s0.tm.length
          · right
            refine ⟨0, e, by simp, by simpa using hS, ?_, hd⟩
            unfold ap at h1
            simpa [hd, tget_def, List.getD, List.getElem?_set_self hlt] using h1
          · unfold ap at h1
            simp only [hd, tget_def, List.getD] at h1
            rw [List.getElem?_eq_none (by simp; omega)] at h1
            cases h1
        · rw [tget_ap _ _ _ hd] at h1; exact .inl h1
      · exact .inl h1
    · exact .inr ⟨j + 1, e', by simpa using h1, by rwa [show k + (j + 1) = k + 1 + j by omega], h3, h4⟩

theorem noTag_of {tm : List TV} {d : Nat} (h : ∀ t g b s, tget tm t = .tag g b s → g ≠ d) : noTag tm d = true := by
  unfold noTag
  rw [List.all_eq_true]
  intro tv htv
  obtain ⟨i, hi, rfl⟩ := List.mem_iff_getElem.1 htv
  have := h i
  simp only [tget_def] at this
  simp only [List.getD, List.getElem?_eq_getElem hi, Option.getD_some] at this
  split
  · rename_i g b s heq
    have := this g b s heq
    simpa using this
  · rfl

theorem hs_congr {p : Par} {μ : Mu} {F : Nat → Prop} {hp hp' : Heap} {w : World} (h : HS p μ F hp w) (he : ∀ l, hget hp' l = hget hp l) : HS p μ F hp' w :=
  ⟨h.ext, h.sub, h.fin, fun l blk hg => h.blk l blk (by rw [← he]; exact hg), fun l l' b1 b2 b o b' o' hne h1 h2 => h.inj l l' b1 b2 b o b' o' hne (by rw [← he]; exact h1) (by rw [← he]; exact h2)⟩

theorem tmOK_congr {w : World} {μ : Mu} {F : Nat → Prop} {tm tm' : List TV} {tmps : Array Value} (h : TmOK w μ F tm tmps) (he : ∀ t, tget tm' t = tget tm t) : TmOK w μ F tm' tmps := fun t => by rw [he]; exact h t

theorem happ_map (L : List Nat) (f : Nat → Option Blk) : ∀ (hp : Heap) (l : Nat), hget (happ hp (L.map fun l => (l, f l))) l = if l ∈ L then f l else hget hp l := by
  unfold happ
  induction L with
  | nil => intro hp l; simp
  | cons a L ih =>
    intro hp l
    simp only [List.map_cons, List.foldl_cons, List.mem_cons]
    rw [ih, hget_hset]
    by_cases h1 : l ∈ L
    · simp [h1]
    · by_cases h2 : l = a
      · subst h2; simp [h1]
      · simp [h1, h2]

end
end Go.Sx
