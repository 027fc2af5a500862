/- Part of a proof of the given statements of this seat (SyS, SyT, SyTl, SyU, SyV, SyW, SyX, SyNa, SyNb): no conditions beyond those typed here. -/
import Derived.Test.YtpaejfeojdoikaaSw02
import Derived.Below
import Derived.KernelRfl
set_option linter.unusedVariables false
set_option linter.unusedSimpArgs false
set_option linter.unusedSectionVars false
set_option linter.constructorNameAsVariable false

namespace Go.Sx
noncomputable section
variable [Globs]
theorem foldE_shift (S : Nat → Bool) : ∀ (l : List Ev) (k : Nat) (s : St), foldE S (k + 1) l s = foldE (fun i => S (i + 1)) k l s
  | [], k, s => rfl
  | e :: r, k, s => by unfold foldE; exact foldE_shift S r (k + 1) _
theorem foldE_cons (S : Nat → Bool) (k : Nat) (e : Ev) (r : List Ev) (s : St) : foldE S k (e :: r) s = foldE S (k + 1) r (if S k then ap s e else s) := rfl
theorem foldE_false : ∀ (l : List Ev) (k : Nat) (s : St), foldE (fun _ => false) k l s = s
  | [], k, s => rfl
  | e :: r, k, s => by rw [foldE_cons]; exact foldE_false r _ _
theorem foldE_congr {S S' : Nat → Bool} : ∀ (l : List Ev) (k : Nat) (s : St), (∀ j, j < l.length → S (k + j) = S' (k + j)) → foldE S k l s = foldE S' k l s
  | [], k, s, _ => rfl
  | e :: r, k, s, h => by
    unfold foldE
    have h0 := h 0 (by simp)
    simp only [Nat.add_zero] at h0
    rw [h0]
    exact foldE_congr r (k + 1) _ fun j hj => by have := h (j + 1) (by simpa using hj); rwa [show k + (j + 1) = k + 1 + j by omega] at this
theorem stepTr_quiet {rn : Bool} {P : Program} {C : Ctx} {ops : Array Oper} {id : Nat} {tm : List TV} {hp hp' : Heap} {o : Oper} {tv : TV} (hq : quietC C o.op = true) (he : (stepTr rn P C ops id tm hp o).ev (tv, hp')) : hp' = hp := by
  unfold stepTr at he
  split at he
  · split at he
    · simp only [Tr.ev, Prod.mk.injEq] at he; exact he.2
    obtain ⟨r, h1, h2⟩ := Tr.ev_bind he
    obtain ⟨rfl, _⟩ := litOf_ev h2
    exact opAll_quiet hq h1
  · simp only [Tr.ev, Prod.mk.injEq] at he; exact he.2
  · split at he
    · exact (specT_ev he).1
    · exact he.elim
  · exact he.elim
theorem stepTr_tag {rn : Bool} {P : Program} {C : Ctx} {ops : Array Oper} {id : Nat} {tm : List TV} {hp hp' : Heap} {o : Oper} {g : Nat} {b : Bool} {s : SV} (he : (stepTr rn P C ops id tm hp o).ev (.tag g b s, hp')) : o.dst ≠ some g ∧ ∃ j, o.guard = some (j, b) ∧ (ops[j]?).bind (·.dst) = some g := by
  unfold stepTr at he
  split at he
  · split at he
    · simp only [Tr.ev, Prod.mk.injEq] at he; cases he.1
    obtain ⟨r, h1, h2⟩ := Tr.ev_bind he
    obtain ⟨_, h3 | ⟨_, h3, _⟩⟩ := litOf_ev h2 <;> cases h3
  · simp only [Tr.ev, Prod.mk.injEq] at he; cases he.1
  · rename_i g' b' c hgs
    split at he
    · rename_i hq
      simp only [Bool.and_eq_true, bne_iff_ne, ne_eq] at hq
      obtain ⟨_, s', h1, _⟩ := specT_ev he
      cases h1
      obtain ⟨j, h3, h4, _⟩ := gstat_tagd hgs
      exact ⟨hq.2, j, h3, h4⟩
    · exact he.elim
  · exact he.elim
structure EvOK (P : Program) (C : Ctx) (ops : Array Oper) (o : Oper) (tm : List TV) (hp : Heap) (e : Ev) : Prop where
  dst : e.dst = o.dst
  ts : ∀ t ∈ opSlots o, t ∈ e.ts
  tag : ∀ g b s, e.tv = .tag g b s → g ∈ e.ts ∧ o.dst ≠ some g
  len : ∀ d, o.dst = some d → d < tm.length
  run : ∃ rn hp', (stepTr rn P C ops e.id (restrictT tm.length tm e.ts) (restrictH hp e.L) o).ev (e.tv, hp') ∧ e.W = if quietC C o.op then [] else (e.id :: e.L).map fun l => (l, hget hp' l)
  nq : e.nq = !quietC C o.op
theorem evOp_spec {P : Program} {C : Ctx} {ops : Array Oper} {o : Oper} {st st' : AS} {e : Ev} (h : (evOp P C ops o st).ev (e, st')) : EvOK P C ops o st.tm st.hp e ∧ ⟨st'.tm, st'.hp⟩ = ap ⟨st.tm, st.hp⟩ e ∧ e.id = st.next ∧ st'.next = st.next + 1 := by
  rw [evOp_eq] at h
  obtain ⟨r, h1, h2⟩ := Tr.ev_bind h
  simp only at h2
  split at h2
  · rename_i tm' hpd
    simp only [Tr.ev, Prod.mk.injEq] at h2
    obtain ⟨rfl, rfl⟩ := h2
    obtain ⟨tv, hp'⟩ := r
    refine ⟨⟨rfl, fun t ht => List.mem_append.2 (.inl ht), ?_, ?_, ⟨_, hp', h1, rfl⟩, rfl⟩, ?_, rfl, rfl⟩
    · intro g b s htv
      simp only at htv; subst htv
      obtain ⟨h3, j, h4, h5⟩ := stepTr_tag h1
      refine ⟨List.mem_append.2 (.inr ?_), h3⟩
      unfold gslots
      simp only [h4, h5]
      exact List.mem_cons_self ..
    · intro d hd
      rw [hd] at hpd
      simp only [putD] at hpd
      split at hpd
      · rename_i hk; exact hk.1
      · cases hpd
    · cases hd : o.dst with
      | none => rw [hd] at hpd; simp only [putD, Option.some.injEq] at hpd; subst hpd; simp [ap, hd]
      | some d =>
        rw [hd] at hpd
        simp only [putD] at hpd
        split at hpd
        · simp only [Option.some.injEq] at hpd; subst hpd; simp [ap, hd]
        · cases hpd
  · exact h2.elim
theorem evOps_spec {P : Program} {C : Ctx} {ops : Array Oper} : ∀ (l : List Oper) (st stF : AS) (evs : List Ev), (evOps P C ops l st).ev (evs, stF) →
    evs.length = l.length ∧ ⟨stF.tm, stF.hp⟩ = foldE (fun _ => true) 0 evs ⟨st.tm, st.hp⟩ ∧ stF.next = st.next + l.length ∧
    ∀ j o e, l[j]? = some o → evs[j]? = some e → EvOK P C ops o (foldE (fun i => decide (i < j)) 0 evs ⟨st.tm, st.hp⟩).tm (foldE (fun i => decide (i < j)) 0 evs ⟨st.tm, st.hp⟩).hp e ∧ e.id = st.next + j
  | [], st, stF, evs, h => by
    simp only [evOps, Tr.ev, Prod.mk.injEq] at h
    obtain ⟨rfl, rfl⟩ := h
    exact ⟨rfl, rfl, rfl, fun j o e hj => by simp at hj⟩
  | o :: r, st, stF, evs, h => by
    simp only [evOps] at h
    obtain ⟨⟨e, st1⟩, h1, h2⟩ := Tr.ev_bind h
    obtain ⟨⟨es, st2⟩, h3, h4⟩ := Tr.ev_bind h2
    simp only [Tr.ev, Prod.mk.injEq] at h4
    obtain ⟨rfl, rfl⟩ := h4
    obtain ⟨e1, e2, e3, e4⟩ := evOp_spec h1
    obtain ⟨f1, f2, f3, f4⟩ := evOps_spec r st1 stF es h3
    refine ⟨by simp [f1], ?_, by rw [f3, e4]; simp; omega, ?_⟩
    · rw [f2, e2, foldE_cons, foldE_shift]
      rfl
    · intro j o' e' hj he
      cases j with
      | zero =>
        simp only [List.getElem?_cons_zero, Option.some.injEq] at hj he
        subst hj; subst he
        have : foldE (fun i => decide (i < 0)) 0 (e :: es) ⟨st.tm, st.hp⟩ = ⟨st.tm, st.hp⟩ := by
          have hf : (fun i : Nat => decide (i < 0)) = fun _ => false := by funext i; simp
          rw [hf]; exact foldE_false _ _ _
        rw [this]
        exact ⟨e1, e3⟩
      | succ j =>
        obtain ⟨g1, g2⟩ := f4 j o' e' (by simpa using hj) (by simpa using he)
        have : foldE (fun i => decide (i < j + 1)) 0 (e :: es) ⟨st.tm, st.hp⟩ = foldE (fun i => decide (i < j)) 0 es ⟨st1.tm, st1.hp⟩ := by
          rw [e2]
          rw [foldE_cons, foldE_shift, if_pos (by simp)]
          exact foldE_congr _ _ _ fun i _ => by simp
        rw [this]
        exact ⟨g1, by rw [g2, e4]; omega⟩
theorem rowOK_spec {bb : Nat} {b : Ev} : ∀ {l : List Ev} {i : Nat}, rowOK bb b i l = true → ∀ j a, l[j]? = some a → pairOK bb (i + j) a b = true
  | [], i, _, j, a, h => by simp at h
  | x :: r, i, h, j, a, hj => by
    simp only [rowOK, Bool.and_eq_true] at h
    cases j with
    | zero => simp only [List.getElem?_cons_zero, Option.some.injEq] at hj; subst hj; exact h.1
    | succ j =>
      have := rowOK_spec h.2 j a (by simpa using hj)
      rwa [show i + (j + 1) = i + 1 + j by omega]
theorem allOK_spec : ∀ {l : List Ev} {bs : List Nat} {done : List Ev}, allOK bs done l = true → ∀ k e, l[k]? = some e →
    (∀ i a, (done ++ l)[i]? = some a → i < done.length + k → pairOK (bs.getD k 0) i a e = true)
  | [], bs, done, _, k, e, h => by simp at h
  | b :: r, bs, done, h, k, e, hk => by
    simp only [allOK, Bool.and_eq_true] at h
    obtain ⟨⟨h1, _⟩, h2⟩ := h
    cases k with
    | zero =>
      simp only [List.getElem?_cons_zero, Option.some.injEq] at hk; subst hk
      intro i a hi hlt
      have hi' : done[i]? = some a := by
        rw [List.getElem?_append_left (by omega)] at hi; exact hi
      have := rowOK_spec h1 i a hi'
      cases bs <;> simpa using this
    | succ k =>
      have ih := allOK_spec h2 k e (by simpa using hk)
      intro i a hi hlt
      have := ih i a (by simpa using hi) (by simp; omega)
      cases bs <;> simpa using this
theorem edgesOK_spec : ∀ {l : List Oper} {k : Nat}, edgesOK k l = true → ∀ j o e, l[j]? = some o → e ∈ o.after → binding e = true → e.on < k + j
  | [], k, _, j, o, e, h => by simp at h
  | x :: r, k, h, j, o, e, hj => by
    simp only [edgesOK, Bool.and_eq_true] at h
    intro he hb
    cases j with
    | zero =>
      simp only [List.getElem?_cons_zero, Option.some.injEq] at hj; subst hj
      have := List.all_eq_true.1 h.1 e (by simpa using he)
      simpa [hb] using this
    | succ j =>
      have := edgesOK_spec h.2 j o e (by simpa using hj) he hb
      omega
theorem foldE_tag (S : Nat → Bool) (t : Nat) {g : Nat} {b : Bool} {s : SV} : ∀ (l : List Ev) (k : Nat) (s0 : St), tget (foldE S k l s0).tm t = .tag g b s → tget s0.tm t = .tag g b s ∨ ∃ j e, l[j]? = some e ∧ S (k + j) = true ∧ e.tv = .tag g b s ∧ e.dst = some t
  | [], k, s0, h => .inl h
  | e :: r, k, s0, h => by
    unfold foldE at h
    rcases foldE_tag S t r (k + 1) _ h with h1 | ⟨j, e', h1, h2, h3, h4⟩
    · split at h1
      · rename_i hS
        by_cases hd : e.dst = some t
        · by_cases hlt : t < s0.tm.length
          · right
            refine ⟨0, e, by simp, by simpa using hS, ?_, hd⟩
            unfold ap at h1
            simpa [hd, tget_def, List.getD, List.getElem?_set_self hlt] using h1
          · unfold ap at h1
            simp only [hd, tget_def, List.getD] at h1
            rw [List.getElem?_eq_none (by simp; omega)] at h1
            cases h1
        · rw [tget_ap _ _ _ hd] at h1; exact .inl h1
      · exact .inl h1
    · exact .inr ⟨j + 1, e', by simpa using h1, by rwa [show k + (j + 1) = k + 1 + j by omega], h3, h4⟩
theorem noTag_of {tm : List TV} {d : Nat} (h : ∀ t g b s, tget tm t = .tag g b s → g ≠ d) : noTag tm d = true := by
  unfold noTag
  rw [List.all_eq_true]
  intro tv htv
  obtain ⟨i, hi, rfl⟩ := List.mem_iff_getElem.1 htv
  have := h i
  simp only [tget_def] at this
  simp only [List.getD, List.getElem?_eq_getElem hi, Option.getD_some] at this
  split
  · rename_i g b s heq
    have := this g b s heq
    simpa using this
  · rfl
theorem hs_congr {p : Par} {μ : Mu} {F : Nat → Prop} {hp hp' : Heap} {w : World} (h : HS p μ F hp w) (he : ∀ l, hget hp' l = hget hp l) : HS p μ F hp' w :=
  ⟨h.ext, h.sub, h.fin, fun l blk hg => h.blk l blk (by rw [← he]; exact hg), fun l l' b1 b2 b o b' o' hne h1 h2 => h.inj l l' b1 b2 b o b' o' hne (by rw [← he]; exact h1) (by rw [← he]; exact h2)⟩
theorem tmOK_congr {w : World} {μ : Mu} {F : Nat → Prop} {tm tm' : List TV} {tmps : Array Value} (h : TmOK w μ F tm tmps) (he : ∀ t, tget tm' t = tget tm t) : TmOK w μ F tm' tmps := fun t => by rw [he]; exact h t
theorem happ_map (L : List Nat) (f : Nat → Option Blk) : ∀ (hp : Heap) (l : Nat), hget (happ hp (L.map fun l => (l, f l))) l = if l ∈ L then f l else hget hp l := by
  unfold happ
  induction L with
  | nil => intro hp l; simp
  | cons a L ih =>
    intro hp l
    simp only [List.map_cons, List.foldl_cons, List.mem_cons]
    rw [ih, hget_hset]
    by_cases h1 : l ∈ L
    · simp [h1]
    · by_cases h2 : l = a
      · subst h2; simp [h1]
      · simp [h1, h2]
end
end Go.Sx
namespace Go.Sx
noncomputable section
variable [Globs]
def asSet (listed : Array Bool) : Nat → Bool := fun i => listed.getD i false
theorem asSet_set {listed : Array Bool} {k : Nat} (hk : k < listed.size) (i : Nat) : asSet (listed.setIfInBounds k true) i = (decide (i = k) || asSet listed i) := by
  unfold asSet
  by_cases h : i = k
  · subst h; simp [Array.getD, hk]
  · simp only [h, decide_false, Bool.false_or, Array.getD_eq_getD_getElem?]
    rw [Array.getElem?_setIfInBounds_ne (fun e => h e.symm)]
theorem clash_dst_ts {a b : Ev} {t : Nat} (h : a.dst = some t) (ht : t ∈ b.ts) : clash a b = true := by
  unfold clash isSomeD; simp [h, ht]
theorem clash_ts_dst {a b : Ev} {t : Nat} (h : b.dst = some t) (ht : t ∈ a.ts) : clash a b = true := by
  unfold clash isSomeD; simp [h, ht]
theorem wkey_mem {W : Delta} {l : Nat} (h : wkey W l = true) : ∃ e ∈ W, e.1 = l := by
  unfold wkey at h
  rw [List.any_eq_true] at h
  obtain ⟨e, h1, h2⟩ := h
  exact ⟨e, h1, by simpa using h2⟩
theorem clash_W_L {a b : Ev} {l : Nat} (h : wkey a.W l = true) (hl : l ∈ b.L) : clash a b = true := by
  obtain ⟨e, h1, h2⟩ := wkey_mem h
  unfold clash
  have : a.W.any (fun e => b.L.contains e.1 || b.W.any fun f => f.1 == e.1) = true := List.any_eq_true.2 ⟨e, h1, by simp [h2, hl]⟩
  simp only [this, Bool.or_true, Bool.true_or]
theorem clash_L_W {a b : Ev} {l : Nat} (h : wkey b.W l = true) (hl : l ∈ a.L) : clash a b = true := by
  obtain ⟨e, h1, h2⟩ := wkey_mem h
  unfold clash
  have : b.W.any (fun e => a.L.contains e.1) = true := List.any_eq_true.2 ⟨e, h1, by simp [h2, hl]⟩
  simp only [this, Bool.or_true]
theorem clash_W_W {a b : Ev} {l : Nat} (h : wkey a.W l = true) (h' : wkey b.W l = true) : clash a b = true := by
  obtain ⟨e, h1, h2⟩ := wkey_mem h
  obtain ⟨f, h3, h4⟩ := wkey_mem h'
  unfold clash
  have : a.W.any (fun e => b.L.contains e.1 || b.W.any fun f => f.1 == e.1) = true := List.any_eq_true.2 ⟨e, h1, by
    simp only [Bool.or_eq_true]; right; exact List.any_eq_true.2 ⟨f, h3, by simp [h2, h4]⟩⟩
  simp only [this, Bool.or_true, Bool.true_or]
theorem countP_lt {p q : Nat → Bool} {k : Nat} : ∀ {l : List Nat}, (∀ x ∈ l, p x = true → q x = true) → k ∈ l → q k = true → p k = false → l.countP p < l.countP q
  | [], _, hk, _, _ => by cases hk
  | x :: r, h, hk, hq, hp => by
    have hle : ∀ (l : List Nat), (∀ x ∈ l, p x = true → q x = true) → l.countP p ≤ l.countP q := fun l hl => List.countP_mono_left hl
    simp only [List.countP_cons]
    rcases List.mem_cons.1 hk with e | hk'
    · subst e
      have := hle r fun y hy => h y (by simp [hy])
      simp only [hp, hq, Bool.false_eq_true, if_false, if_true]; omega
    · have := countP_lt (fun y hy => h y (by simp [hy])) hk' hq hp
      have hx := h x (by simp)
      cases hpx : p x with
      | false => simp only [Bool.false_eq_true, if_false]; split <;> omega
      | true => rw [hx hpx]; simp only [if_true]; omega
section
variable {P : Program} {C : Ctx} {ops : Array Oper} {evs : List Ev} {s0 : St} {n0 : Nat}
structure Walked (P : Program) (C : Ctx) (ops : Array Oper) (evs : List Ev) (s0 : St) (n0 : Nat) : Prop where
  len : evs.length ≤ ops.size
  ev : ∀ j o e, ops[j]? = some o → evs[j]? = some e → EvOK P C ops o (foldE (fun i => decide (i < j)) 0 evs s0).tm (foldE (fun i => decide (i < j)) 0 evs s0).hp e ∧ e.id = n0 + j
  pair : ∀ i k a e, i < k → evs[i]? = some a → evs[k]? = some e → (Bef ops i k ∨ clash a e = false) ∧ tagNot a.tv e.dst = true ∧ sameDst a e = false
  edge : ∀ j o e, ops[j]? = some o → e ∈ o.after → binding e = true → e.on < j
  tags : ∀ t g b s, tget s0.tm t ≠ .tag g b s
structure Inv (p : Par) (μ0 : Mu) (ops : Array Oper) (evs : List Ev) (s0 : St) (n0 : Nat) (S : Nat → Bool) (a : Act) (w : World) : Prop where
  closed : Closed ops S
  sim : ∃ μ F, HS p μ F (foldE S 0 evs s0).hp w ∧ (∀ l, n0 ≤ l → μ l ≠ none → ∃ i e, S i = true ∧ evs[i]? = some e ∧ e.id = l) ∧ (∀ l q, μ0 l = some q → μ l = some q) ∧ TmOK w μ F (foldE S 0 evs s0).tm a.tmps ∧ s0.tm.length ≤ a.tmps.size ∧ Marks p F w a.defers
theorem inv_step {p : Par} {μ0 : Mu} {S : Nat → Bool} {a : Act} {w : World} {K : Act → World → Prop} {Q : Exit → Act → World → Prop} {r : Option Nat} (hC : CtxOK P C) (hW : Walked P C ops evs s0 n0) (hI : Inv p μ0 ops evs s0 n0 S a w) {k : Nat} {o : Oper} (ho : ops[k]? = some o) (hklt : k < evs.length) (hk : S k = false)
    (hready : ∀ e ∈ o.after, binding e = true → S e.on = true) (hK : ∀ a' w', Inv p μ0 ops evs s0 n0 (fun i => decide (i = k) || S i) a' w' → K a' w') :
    if Region.wanted o (yielded ops a.tmps) then o.wpIn (FW r) 0 P a w K Q else K (a.put o.dst undef) w := by
  obtain ⟨hcl, μ, F, hh, hfr, h0, ht, hsz, hd⟩ := hI
  obtain ⟨e, he⟩ : ∃ e, evs[k]? = some e := ⟨_, List.getElem?_eq_getElem hklt⟩
  obtain ⟨hev, hid⟩ := hW.ev k o e ho he
  -- closed with k
  have hcl' : Closed ops (fun i => decide (i = k) || S i) := by
    intro j o' e' hj ho' he' hb
    simp only [Bool.or_eq_true, decide_eq_true_eq] at hj ⊢
    rcases hj with rfl | hj
    · rw [ho] at ho'; cases ho'
      exact .inr (hready e' he' hb)
    · exact .inr (hcl j o' e' hj ho' he' hb)
  have hbef : ∀ i, i < k → Bef ops i k → S i = true := by
    intro i hi hb
    have := hcl'.bef hb (by simp)
    simp only [Bool.or_eq_true, decide_eq_true_eq] at this
    rcases this with h | h
    · omega
    · exact h
  have haft : ∀ i, k < i → Bef ops k i → S i = false := by
    intro i hi hb
    cases hs : S i with
    | false => rfl
    | true => have := hcl.bef hb hs; rw [hk] at this; cases this
  -- who clashes
  have hlow : ∀ i x, i < k → evs[i]? = some x → clash x e = true → S i = true := by
    intro i x hi hx hc
    rcases (hW.pair i k x e hi hx he).1 with h | h
    · exact hbef i hi h
    · rw [hc] at h; cases h
  have hhigh : ∀ i x, k < i → evs[i]? = some x → clash e x = true → S i = false := by
    intro i x hi hx hc
    rcases (hW.pair k i e x hi he hx).1 with h | h
    · exact haft i hi h
    · rw [hc] at h; cases h
  have hlen1 : (foldE S 0 evs s0).tm.length = s0.tm.length := length_foldE ..
  have hlen2 : (foldE (fun i => decide (i < k)) 0 evs s0).tm.length = s0.tm.length := length_foldE ..
  -- the part that it reads is as in the text's order
  have htm : restrictT (foldE S 0 evs s0).tm.length (foldE S 0 evs s0).tm e.ts = restrictT (foldE (fun i => decide (i < k)) 0 evs s0).tm.length (foldE (fun i => decide (i < k)) 0 evs s0).tm e.ts := by
    rw [hlen1, hlen2]
    refine restrictT_congr fun t hte => foldE_tm _ _ t evs 0 s0 s0 rfl rfl fun j x hx hdx => ?_
    simp only [Nat.zero_add]
    rcases Nat.lt_trichotomy j k with h | h | h
    · rw [hlow j x h hx (clash_dst_ts hdx hte)]; simp [h]
    · subst h; rw [hk]; simp
    · rw [hhigh j x h hx (clash_ts_dst hdx hte)]; simp; omega
  have hhp : restrictH (foldE S 0 evs s0).hp e.L = restrictH (foldE (fun i => decide (i < k)) 0 evs s0).hp e.L := by
    refine restrictH_congr fun l hle => foldE_hp _ _ l evs 0 s0 s0 rfl fun j x hx hdx => ?_
    simp only [Nat.zero_add]
    rcases Nat.lt_trichotomy j k with h | h | h
    · rw [hlow j x h hx (clash_W_L hdx hle)]; simp [h]
    · subst h; rw [hk]; simp
    · rw [hhigh j x h hx (clash_L_W hdx hle)]; simp; omega
  obtain ⟨rn, hp', hrun, hWe⟩ := hev.run
  rw [← htm, ← hhp] at hrun
  have hidn : μ e.id = none := by
    cases hm : μ e.id with
    | none => rfl
    | some q =>
      obtain ⟨i, x, h1, h2, h3⟩ := hfr e.id (by omega) (by rw [hm]; simp)
      have hi : i < ops.size := Nat.lt_of_lt_of_le (List.getElem?_eq_some_iff.1 h2).1 hW.len
      have := (hW.ev i _ x (Array.getElem?_eq_getElem hi) h2).2
      have : i = k := by omega
      subst this
      rw [hk] at h1; cases h1
  have hgone : hget (foldE S 0 evs s0).hp e.id = none := by
    cases hg : hget (foldE S 0 evs s0).hp e.id with
    | none => rfl
    | some blk => obtain ⟨q, h1, _⟩ := hh.blk _ _ hg; rw [hidn] at h1; cases h1
  refine stepTr_sound hC (lh_restrict hh e.L) hd.1 hidn (ht.restrict _ _) hrun fun v w' hout => hK _ _ ⟨hcl', ?_⟩
  obtain ⟨μ', F', e1, e2, e3, e4⟩ := hout
  have hN : ∀ l, l ≠ e.id → μ' l = μ l := fun l hl => e4 l fun hn => hl hn.1
  -- the state behind it
  have hG : ∀ l, hget (ap (foldE S 0 evs s0) e).hp l = if l ∈ e.L ∨ l = e.id then hget hp' l else hget (foldE S 0 evs s0).hp l := by
    intro l
    unfold ap
    simp only [hWe]
    cases hq : quietC C o.op with
    | true =>
      have hs := stepTr_quiet hq hrun
      subst hs
      simp only [if_true, happ, List.foldl_nil, hget_restrict]
      by_cases h1 : l ∈ e.L
      · simp [h1]
      · by_cases h2 : l = e.id
        · subst h2; simp [h1, hgone]
        · simp [h1, h2]
    | false =>
      simp only [Bool.false_eq_true, if_false]
      rw [happ_map]
      simp only [List.mem_cons]
      by_cases h1 : l ∈ e.L
      · simp [h1]
      · by_cases h2 : l = e.id
        · simp [h2]
        · simp [h1, h2]
  have hs1 := hs_lift hh e1 e3 hN hG
  have hkey : ∀ l, wkey e.W l = true → l ∈ e.L ∨ l = e.id := by
    intro l hl
    obtain ⟨x, h1, h2⟩ := wkey_mem hl
    rw [hWe] at h1
    split at h1
    · cases h1
    · simp only [List.mem_map, List.mem_cons] at h1
      obtain ⟨y, h3, rfl⟩ := h1
      simp only at h2; subst h2
      exact h3.elim .inr .inl
  have hhpEq : ∀ l, hget (foldE (fun i => decide (i = k) || S i) 0 evs s0).hp l = hget (ap (foldE S 0 evs s0) e).hp l := by
    intro l
    cases hw : wkey e.W l with
    | true =>
      refine foldE_hp_last _ l hw evs k 0 s0 _ he (by simp) fun j' x hj hx hS => ?_
      simp only [Nat.zero_add, Bool.or_eq_true, decide_eq_true_eq] at hS
      cases hwx : wkey x.W l with
      | false => rfl
      | true =>
        have := hhigh j' x hj hx (clash_W_W hw hwx)
        rcases hS with h | h
        · omega
        · rw [this] at h; cases h
    | false =>
      have h1 : hget (ap (foldE S 0 evs s0) e).hp l = hget (foldE S 0 evs s0).hp l := (happ_get e.W _ [] l).1 hw
      rw [h1]
      refine foldE_hp _ _ l evs 0 s0 s0 rfl fun j x hx hwx => ?_
      simp only [Nat.zero_add]
      by_cases hjk : j = k
      · subst hjk; rw [he] at hx; cases hx; rw [hw] at hwx; cases hwx
      · simp [hjk]
  have htmEq : ∀ t, tget (foldE (fun i => decide (i = k) || S i) 0 evs s0).tm t = tget (ap (foldE S 0 evs s0) e).tm t := by
    intro t
    by_cases hd' : e.dst = some t
    · refine foldE_tm_last _ t hd' evs k 0 s0 _ he (by simp) (fun j' x hj hx hS hdx => ?_) hlen1.symm
      have := (hW.pair k j' e x hj he hx).2.2
      unfold sameDst at this
      simp [hd', hdx] at this
    · rw [tget_ap _ _ _ hd']
      refine foldE_tm _ _ t evs 0 s0 s0 rfl rfl fun j x hx hdx => ?_
      simp only [Nat.zero_add]
      by_cases hjk : j = k
      · subst hjk; rw [he] at hx; cases hx; exact (hd' hdx).elim
      · simp [hjk]
  have hext : Ext F w w' := ext_F (lh_restrict hh e.L) e1
  refine ⟨μ', F', hs_congr hs1 hhpEq, ?_, fun l q hq => e3 l q (h0 l q hq), tmOK_congr ?_ htmEq, ?_, by rw [Act.put_defers]; exact hd.step (lh_restrict hh e.L) e1⟩
  · intro l hl hm
    by_cases hle : l = e.id
    · exact ⟨k, e, by simp, he, hle.symm⟩
    · rw [hN l hle] at hm
      obtain ⟨i, x, h1, h2, h3⟩ := hfr l hl hm
      exact ⟨i, x, by simp [h1], h2, h3⟩
  · cases hdst : o.dst with
    | none =>
      have : (ap (foldE S 0 evs s0) e).tm = (foldE S 0 evs s0).tm := by unfold ap; rw [hev.dst, hdst]
      rw [this]
      exact fun t => (ht t).mono hext e1.sub e3
    | some d =>
      have hdl := hev.len d hdst
      rw [hlen2] at hdl
      have : (ap (foldE S 0 evs s0) e).tm = (foldE S 0 evs s0).tm.set d e.tv := by unfold ap; rw [hev.dst, hdst]
      rw [this]
      have hd1 : d < a.tmps.size := Nat.lt_of_lt_of_le hdl hsz
      have hd2 : d < (foldE S 0 evs s0).tm.length := by rw [hlen1]; exact hdl
      refine tmOK_put ht hext e1.sub e3 hd1 hd2 (noTag_of fun t g b s htag => ?_) (RepT_put e2 (fun g b s hg => ?_) hd1)
      · rcases foldE_tag S t evs 0 s0 htag with h1 | ⟨j, x, h1, h2, h3, h4⟩
        · exact (hW.tags t g b s h1).elim
        · simp only [Nat.zero_add] at h2
          intro hgd; subst hgd
          rcases Nat.lt_trichotomy j k with h | h | h
          · have := (hW.pair j k x e h h1 he).2.1
            unfold tagNot at this
            simp [h3, hev.dst, hdst] at this
          · subst h; rw [hk] at h2; cases h2
          · have hjl : j < ops.size := Nat.lt_of_lt_of_le (List.getElem?_eq_some_iff.1 h1).1 hW.len
            have hx := (hW.ev j _ x (Array.getElem?_eq_getElem hjl) h1).1
            have hgt := (hx.tag g b s h3).1
            have := hhigh j x h h1 (clash_dst_ts (by rw [hev.dst, hdst]) hgt)
            rw [this] at h2; cases h2
      · have hne := (hev.tag g b s hg).2
        intro hgd; subst hgd
        exact hne hdst
  · cases hdst : o.dst with
    | none => exact hsz
    | some d => simp [Act.put]; exact hsz
theorem ready_spec {listed : Array Bool} {k : Nat} (h : k ∈ Region.ready .any ops listed) (hsz : listed.size = ops.size) : ∃ o, ops[k]? = some o ∧ asSet listed k = false ∧ ∀ e ∈ o.after, binding e = true → asSet listed e.on = true := by
  unfold Region.ready at h
  simp only [List.mem_filter, List.mem_range, Bool.and_eq_true, Bool.not_eq_true'] at h
  obtain ⟨hk, h1, h2⟩ := h
  refine ⟨ops[k], Array.getElem?_eq_getElem hk, ?_, ?_⟩
  · unfold asSet
    have hk' : k < listed.size := by omega
    simpa [Array.getD, hk'] using h1
  · intro e he hb
    rw [Array.getElem?_eq_getElem hk] at h2
    simp only [Option.map_some, Option.getD_some, Array.all_eq_true'] at h2
    have := h2 e he
    unfold binding at hb
    rw [hb] at this
    unfold asSet
    simpa using this
theorem ready_nil {listed : Array Bool} (h : Region.ready .any ops listed = []) (hsz : listed.size = ops.size) (hedge : ∀ j o e, ops[j]? = some o → e ∈ o.after → binding e = true → e.on < j) : ∀ k, k < ops.size → asSet listed k = true := by
  intro k
  induction k using Nat.strongRecOn with
  | _ k ih =>
    intro hk
    cases hs : asSet listed k with
    | true => rfl
    | false =>
      have : k ∈ Region.ready .any ops listed := by
        unfold Region.ready
        simp only [List.mem_filter, List.mem_range, Bool.and_eq_true, Bool.not_eq_true']
        refine ⟨hk, ?_, ?_⟩
        · unfold asSet at hs
          have hk' : k < listed.size := by omega
          simpa [Array.getD, hk'] using hs
        · rw [Array.getElem?_eq_getElem hk]
          simp only [Option.map_some, Option.getD_some, Array.all_eq_true']
          intro e he
          cases hb : binding e with
          | false => unfold binding at hb; simp [hb]
          | true =>
            have hlt := hedge k _ e (Array.getElem?_eq_getElem hk) he hb
            have := ih e.on hlt (by omega)
            unfold asSet at this
            simp [this]
      rw [h] at this; cases this
theorem any_sound {p : Par} {μ0 : Mu} {Qx : Exit → Act → World → Prop} {r : Option Nat} (hC : CtxOK P C) (hW : Walked P C ops evs s0 n0) (hlen : evs.length = ops.size) (hQ : ∀ a w, Inv p μ0 ops evs s0 n0 (fun i => decide (i < ops.size)) a w → Qx .normal a w) :
    ∀ (fuel : Nat) (listed : Array Bool) (a : Act) (w : World), listed.size = ops.size → (List.range ops.size).countP (fun i => !asSet listed i) ≤ fuel → Inv p μ0 ops evs s0 n0 (asSet listed) a w → wpAnyIn (FW r) 0 P .any ops Qx fuel listed a w := by
  have fin : ∀ (listed : Array Bool) (a : Act) (w : World), listed.size = ops.size → (∀ k, k < ops.size → asSet listed k = true) → Inv p μ0 ops evs s0 n0 (asSet listed) a w → Qx .normal a w := by
    intro listed a w hsz hall hI
    refine hQ a w ?_
    have : asSet listed = fun i => decide (i < ops.size) := by
      funext i
      by_cases h : i < ops.size
      · simp [h, hall i h]
      · unfold asSet
        have : ¬ i < listed.size := by omega
        simp [h, Array.getD, this]
    rwa [this] at hI
  intro fuel
  induction fuel with
  | zero =>
    intro listed a w hsz hc hI
    have hall : ∀ k, k < ops.size → asSet listed k = true := by
      intro k hk
      have h0 : (List.range ops.size).countP (fun i => !asSet listed i) = 0 := by omega
      rw [List.countP_eq_zero] at h0
      have := h0 k (List.mem_range.2 hk)
      simpa using this
    refine ⟨?_, fin listed a w hsz hall hI⟩
    rw [List.eq_nil_iff_forall_not_mem]
    intro k hk
    obtain ⟨o, h1, h2, _⟩ := ready_spec hk hsz
    have := hall k (Array.getElem?_eq_some_iff.1 h1).1
    rw [h2] at this; cases this
  | succ fuel ih =>
    intro listed a w hsz hc hI
    refine ⟨fun hr => fin listed a w hsz (ready_nil hr hsz hW.edge) hI, fun k hk => ?_⟩
    obtain ⟨o, h1, h2, h3⟩ := ready_spec hk hsz
    have hklt : k < ops.size := (Array.getElem?_eq_some_iff.1 h1).1
    unfold wpOpIn
    rw [h1]
    simp only []
    have hstep := inv_step (r := r) (Q := Qx) (K := wpAnyIn (FW r) 0 P .any ops Qx fuel (listed.setIfInBounds k true)) hC hW hI h1 (by omega) h2 h3 fun a' w' hI' => ih _ a' w' (by simpa using hsz) ?_ ?_
    · split
      · rename_i hw; rw [if_pos hw] at hstep; exact hstep
      · rename_i hw; rw [if_neg hw] at hstep; exact ⟨fun _ _ => trivial, hstep⟩
    · have hset : ∀ i, asSet (listed.setIfInBounds k true) i = (decide (i = k) || asSet listed i) := asSet_set (by omega)
      have hlt : (List.range ops.size).countP (fun i => !asSet (listed.setIfInBounds k true) i) < (List.range ops.size).countP (fun i => !asSet listed i) := by
        refine countP_lt (fun x _ hx => ?_) (List.mem_range.2 hklt) (by simp [h2]) (by rw [hset]; simp)
        rw [hset] at hx
        simp only [Bool.not_or, Bool.and_eq_true] at hx
        exact hx.2
      omega
    · have : asSet (listed.setIfInBounds k true) = fun i => decide (i = k) || asSet listed i := funext (asSet_set (by omega))
      rw [this]; exact hI'
end
theorem hs_drew {p : Par} {μ : Mu} {F : Nat → Prop} {hp : Heap} {w : World} (h : HS p μ F hp w) : HS p μ F hp w.drew := by
  refine ⟨h.ext.trans (Ext.drew _ w), h.sub, h.fin, fun l blk hg => ?_, h.inj⟩
  obtain ⟨q, h1, h2, h3⟩ := h.blk l blk hg
  exact ⟨q, h1, h2, h3.mono (Ext.drew F w) (fun _ h => h) (fun _ _ h => h) (fun _ _ _ => rfl)⟩
theorem Marks.drew {p : Par} {F : Nat → Prop} {w : World} {ds : List Deferred} (h : Marks p F w ds) : Marks p F w.drew ds := ⟨h.1.mono (Ext.drew F w) fun _ h => h, h.2⟩
theorem drawn_ok {P : Program} {C : Ctx} (hC : CtxOK P C) (hm : P.follows .mixedOrders = true) : DrOK P C (fun _ => drawn P C) := by
  intro inl _ id ops st Q hq p μ0 a w hs
  obtain ⟨μ, F, hh, hf, h0, ht, hsz, hd⟩ := hs.untag
  simp only [drawn] at hq
  split at hq
  · rename_i hedge
    rw [untagF_eq] at hq
    obtain ⟨evs, stF, h1, hall, h2⟩ := dK_sat _ _ _ _ hq
    simp only [List.length_nil, List.drop_zero] at hall
    · skip
      obtain ⟨f1, f2, f3, f4⟩ := evOps_spec _ _ _ _ h1
      simp only [Array.length_toList] at f1 f3
      have hbm := bms_bef (ops := ops) ops.toList [] (fun j o h => by simpa using h) (fun j i h => by simp at h)
      have hW : Walked P C ops evs ⟨Sx.untag st.tm, st.hp⟩ st.next := by
        refine ⟨by omega, fun j o e hj he => f4 j o e (by simpa using hj) he, fun i k x e hik hx he => ?_, fun j o e hj he hb => ?_, fun t g b s htag => ?_⟩
        · have := allOK_spec hall k e he i x (by simpa using hx) (by simpa using hik)
          unfold pairOK at this
          simp only [Bool.and_eq_true, Bool.or_eq_true, Bool.not_eq_true'] at this
          exact ⟨this.1.1.imp (hbm k i) (fun h => h), this.1.2, this.2⟩
        · have := edgesOK_spec hedge j o e (by simpa using hj) he hb
          omega
        · rw [tget_untag] at htag
          split at htag
          · cases htag
          · rename_i h; exact h _ _ _ htag
      refine fun r _ => wpIn_region_any hm (any_sound (p := p) (μ0 := μ0) hC hW f1 (fun a' w' hI => ?_) ops.size _ a _ (by simp) ?_ ?_)
      · obtain ⟨_, μ', F', e1, e2, e3, e4, e5, e6⟩ := hI
        have hfe : foldE (fun i => decide (i < ops.size)) 0 evs ⟨Sx.untag st.tm, st.hp⟩ = ⟨stF.tm, stF.hp⟩ := by
          rw [f2]; exact foldE_congr _ _ _ fun j hj => by simp; omega
        rw [hfe] at e1 e4
        refine ⟨stF, ⟨rfl, h2⟩, μ', F', e1, fun l hl => ?_, e3, e4, ?_, e6⟩
        · cases hm' : μ' l with
          | none => rfl
          | some q =>
            obtain ⟨i, e, g1, g2, g3⟩ := e2 l (by omega) (by rw [hm']; simp)
            have hi : i < ops.size := by rw [← f1]; exact (List.getElem?_eq_some_iff.1 g2).1
            have := (f4 i _ e (by rw [Array.getElem?_toList]; exact Array.getElem?_eq_getElem hi) g2).2
            simp only at this
            omega
        · have := congrArg (fun s => s.tm.length) hfe
          simp only [length_foldE] at this
          simp only at e5
          omega
      · refine Nat.le_trans List.countP_le_length ?_
        simp
      · have hS : asSet (Array.replicate ops.size false) = fun _ => false := by
          funext i; unfold asSet; simp [Array.getD_eq_getD_getElem?, Array.getElem?_replicate]
          split <;> rfl
        rw [hS]
        refine ⟨(fun k o e h => by cases h), μ, F, ?_, fun l hl hm' => (hm' (hf l hl)).elim, h0, ?_, hsz, hd.drew⟩
        · rw [foldE_false]; exact hs_drew hh
        · rw [foldE_false]; exact fun t => (ht t).mono (Ext.drew F w) (fun _ h => h) (fun _ _ h => h)
  · exact hq.elim
end
end Go.Sx
namespace Go.Sx
noncomputable section
variable [Globs]
section
variable {P : Program} {C : Ctx} {ops : Array Oper} {evs : List Ev} {s0 : St} {n0 : Nat}
theorem any_soundL {p : Par} {μ0 : Mu} {Qx : Exit → Act → World → Prop} {r : Option Nat} (hC : CtxOK P C) (hW : Walked P C ops evs s0 n0) (hn : evs.length + 1 = ops.size) (hb : ∀ i, i < evs.length → Bef ops i evs.length)
    (hQ : ∀ a w, Inv p μ0 ops evs s0 n0 (fun i => decide (i < evs.length)) a w → wpOpIn (FW r) 0 P ops Qx evs.length (Qx .normal) a w) :
    ∀ (fuel : Nat) (listed : Array Bool) (a : Act) (w : World), listed.size = ops.size → (List.range ops.size).countP (fun i => !asSet listed i) ≤ fuel → asSet listed evs.length = false → Inv p μ0 ops evs s0 n0 (asSet listed) a w → wpAnyIn (FW r) 0 P .any ops Qx fuel listed a w := by
  intro fuel
  induction fuel with
  | zero =>
    intro listed a w hsz hc hl hI
    have h0 : (List.range ops.size).countP (fun i => !asSet listed i) = 0 := by omega
    rw [List.countP_eq_zero] at h0
    have := h0 evs.length (List.mem_range.2 (by omega))
    rw [hl] at this; simp at this
  | succ fuel ih =>
    intro listed a w hsz hc hl hI
    refine ⟨fun hr => ?_, fun k hk => ?_⟩
    · have := ready_nil hr hsz hW.edge evs.length (by omega)
      rw [hl] at this; cases this
    obtain ⟨o, h1, h2, h3⟩ := ready_spec hk hsz
    have hklt : k < ops.size := (Array.getElem?_eq_some_iff.1 h1).1
    have hset : ∀ i, asSet (listed.setIfInBounds k true) i = (decide (i = k) || asSet listed i) := asSet_set (by omega)
    by_cases hkl : k = evs.length
    · have hcl : Closed ops (fun i => decide (i = k) || asSet listed i) := by
        intro j o' e' hj ho' he' hbd
        simp only [Bool.or_eq_true, decide_eq_true_eq] at hj ⊢
        rcases hj with rfl | hj
        · rw [h1] at ho'; cases ho'
          exact .inr (h3 e' he' hbd)
        · exact .inr (hI.closed j o' e' hj ho' he' hbd)
      have hall : ∀ i, i < evs.length → asSet listed i = true := by
        intro i hi
        have := hcl.bef (hb i hi) (by simp [hkl])
        simp only [Bool.or_eq_true, decide_eq_true_eq] at this
        rcases this with h | h
        · omega
        · exact h
      have hS : asSet listed = fun i => decide (i < evs.length) := by
        funext i
        by_cases h : i < evs.length
        · simp [h, hall i h]
        · by_cases h' : i = evs.length
          · subst h'; simp [hl]
          · unfold asSet
            have : ¬ i < listed.size := by omega
            simp [h, Array.getD, this]
      rw [hS] at hI
      have hq := hQ a w hI
      have hfin : ∀ a' w', Qx .normal a' w' → wpAnyIn (FW r) 0 P .any ops Qx fuel (listed.setIfInBounds k true) a' w' := by
        intro a' w' hx
        have hr : Region.ready .any ops (listed.setIfInBounds k true) = [] := by
          rw [List.eq_nil_iff_forall_not_mem]
          intro i hi
          obtain ⟨o', g1, g2, _⟩ := ready_spec hi (by simpa using hsz)
          have hil : i < ops.size := (Array.getElem?_eq_some_iff.1 g1).1
          rw [hset, Bool.or_eq_false_iff] at g2
          have g3 := of_decide_eq_false g2.1
          have := hall i (by omega)
          rw [this] at g2; cases g2.2
        cases fuel with
        | zero => exact ⟨hr, hx⟩
        | succ f => exact ⟨fun _ => hx, fun i hi => by rw [hr] at hi; cases hi⟩
      rw [← hkl] at hq
      unfold wpOpIn at hq ⊢
      rw [h1] at hq ⊢
      simp only [] at hq ⊢
      split at hq
      · rename_i hw; rw [if_pos hw]; exact Oper.wpIn_mono hfin hq
      · rename_i hw; rw [if_neg hw]; exact ⟨hq.1, hfin _ _ hq.2⟩
    · unfold wpOpIn
      rw [h1]
      simp only []
      have hstep := inv_step (r := r) (Q := Qx) (K := wpAnyIn (FW r) 0 P .any ops Qx fuel (listed.setIfInBounds k true)) hC hW hI h1 (by omega) h2 h3 fun a' w' hI' => ih _ a' w' (by simpa using hsz) ?_ ?_ ?_
      · split
        · rename_i hw; rw [if_pos hw] at hstep; exact hstep
        · rename_i hw; rw [if_neg hw] at hstep; exact ⟨fun _ _ => trivial, hstep⟩
      · have hlt : (List.range ops.size).countP (fun i => !asSet (listed.setIfInBounds k true) i) < (List.range ops.size).countP (fun i => !asSet listed i) := by
          refine countP_lt (fun x _ hx => ?_) (List.mem_range.2 hklt) (by simp [h2]) (by rw [hset]; simp)
          rw [hset] at hx
          simp only [Bool.not_or, Bool.and_eq_true] at hx
          exact hx.2
        omega
      · rw [hset, hl]; simp; omega
      · have : asSet (listed.setIfInBounds k true) = fun i => decide (i = k) || asSet listed i := funext hset
        rw [this]; exact hI'
end
def isCallOp (o : Oper) : Bool := match o.op with
  | .call _ => true
  | _ => false
def lastAll (pre : List Oper) (o : Oper) : Bool := fNat (bmOne (bms pre []) o) fun b => (List.range pre.length).all fun i => b.testBit i
def drawnL (P : Program) (C : Ctx) (inl : Inl) (ops : Array Oper) (st : AS) : Tree AS :=
  match ops.toList.reverse with
  | [] => drawn P C ops st
  | o :: r => match isCallOp o && lastAll r.reverse o with
    | false => drawn P C ops st
    | true => if edgesOK 0 ops.toList then untagF st.tm fun tm => (dK P C ops r.reverse [] [] { st with tm := tm }).bind fun s => runOps P C inl ops [o] s else .fail
theorem drawnL_ok {P : Program} {C : Ctx} (hC : CtxOK P C) (hm : P.follows .mixedOrders = true) : DrOK P C (drawnL P C) := by
  intro inl hI id ops st Q hq
  unfold drawnL at hq
  split at hq
  · exact drawn_ok hC hm inl hI id ops st Q hq
  rename_i o rr hrev
  split at hq
  · exact drawn_ok hC hm inl hI id ops st Q hq
  rename_i hlast
  rw [Bool.and_eq_true] at hlast
  split at hq
  rotate_left
  · exact hq.elim
  rename_i hedge
  intro p μ0 a w hs
  obtain ⟨μ, F, hh, hf, h0, ht, hsz, hd⟩ := hs.untag
  rw [untagF_eq] at hq
  obtain ⟨pre, hpre⟩ : ∃ pre, rr.reverse = pre := ⟨_, rfl⟩
  rw [hpre] at hq hlast
  have hops : ops.toList = pre ++ [o] := by
    have := congrArg List.reverse hrev
    rw [List.reverse_reverse, List.reverse_cons, hpre] at this; exact this
  have hsize : ops.size = pre.length + 1 := by
    have := congrArg List.length hops
    simpa using this
  have hpo : ∀ j x, pre[j]? = some x → ops[j]? = some x := fun j x hx => by
    have hj : j < pre.length := (List.getElem?_eq_some_iff.1 hx).1
    rw [← Array.getElem?_toList, hops, List.getElem?_append_left hj]; exact hx
  have hop : ∀ j x, j < pre.length → ops[j]? = some x → pre[j]? = some x := fun j x hj hx => by
    rw [← Array.getElem?_toList, hops, List.getElem?_append_left hj] at hx; exact hx
  have hoL : ops[pre.length]? = some o := by
    rw [← Array.getElem?_toList, hops, List.getElem?_append_right (Nat.le_refl _), Nat.sub_self]; rfl
  obtain ⟨evs, stF, h1, hall, h2⟩ := dK_sat _ _ _ _ (Tree.sat_bind hq)
  simp only [List.length_nil, List.drop_zero] at hall
  obtain ⟨f1, f2, f3, f4⟩ := evOps_spec _ _ _ _ h1
  have f3 : stF.next = st.next + pre.length := f3
  have hbm := bms_bef (ops := ops) pre [] (fun j x h => by simpa using hpo j x h) (fun j i h => by simp at h)
  have hbl : ∀ i, i < evs.length → Bef ops i evs.length := by
    intro i hi
    have h3 := hlast.2
    unfold lastAll at h3
    rw [fNat_eq, List.all_eq_true] at h3
    have h4 := h3 i (List.mem_range.2 (by omega))
    rw [f1]
    exact bmOne_bef hoL hbm i h4
  have hW : Walked P C ops evs ⟨Sx.untag st.tm, st.hp⟩ st.next := by
    refine ⟨by omega, fun j x e hj he => f4 j x e (hop j x (by have := (List.getElem?_eq_some_iff.1 he).1; omega) hj) he, fun i k x e hik hx he => ?_, fun j x e hj he hb => ?_, fun t g b s htag => ?_⟩
    · have := allOK_spec hall k e he i x (by simpa using hx) (by simpa using hik)
      unfold pairOK at this
      simp only [Bool.and_eq_true, Bool.or_eq_true, Bool.not_eq_true'] at this
      exact ⟨this.1.1.imp (hbm k i) (fun h => h), this.1.2, this.2⟩
    · have := edgesOK_spec hedge j x e (by simpa using hj) he hb
      omega
    · rw [tget_untag] at htag
      split at htag
      · cases htag
      · rename_i h; exact h _ _ _ htag
  refine fun r _ => wpIn_region_any hm (any_soundL (p := p) (μ0 := μ0) hC hW (by omega) hbl (fun a' w' hI' => ?_) ops.size _ a _ (by simp) ?_ ?_ ?_)
  · obtain ⟨_, μ', F', e1, e2, e3, e4, e5, e6⟩ := hI'
    have hfe : foldE (fun i => decide (i < evs.length)) 0 evs ⟨Sx.untag st.tm, st.hp⟩ = ⟨stF.tm, stF.hp⟩ := by
      rw [f2]; exact foldE_congr _ _ _ fun j hj => by simp; omega
    rw [hfe] at e1 e4
    have hsim : Sim p μ0 stF a' w' := by
      refine ⟨μ', F', e1, fun l hl => ?_, e3, e4, ?_, e6⟩
      · cases hm' : μ' l with
        | none => rfl
        | some q =>
          obtain ⟨i, e, g1, g2, g3⟩ := e2 l (show st.next ≤ l by omega) (by rw [hm']; simp)
          have hi : i < pre.length := by rw [← f1]; exact (List.getElem?_eq_some_iff.1 g2).1
          have h9 : e.id = st.next + i := (f4 i _ e (List.getElem?_eq_getElem hi) g2).2
          omega
      · have := congrArg (fun s => s.tm.length) hfe
        simp only [length_foldE] at this
        simp only at e5
        omega
    have hl := runOps_sound (r := r) hC hI [o] stF a' w' hsim h2
    unfold wpListIn at hl
    unfold wpOpIn
    rw [f1, hoL]
    exact hl
  · refine Nat.le_trans List.countP_le_length ?_
    simp
  · unfold asSet
    simp [Array.getD_eq_getD_getElem?, Array.getElem?_replicate]
    split <;> rfl
  · have hS : asSet (Array.replicate ops.size false) = fun _ => false := by
      funext i; unfold asSet; simp [Array.getD_eq_getD_getElem?, Array.getElem?_replicate]
      split <;> rfl
    rw [hS]
    refine ⟨(fun k o e h => by cases h), μ, F, ?_, fun l hl hm' => (hm' (hf l hl)).elim, h0, ?_, hsz, hd.drew⟩
    · rw [foldE_false]; exact hs_drew hh
    · rw [foldE_false]; exact fun t => (ht t).mono (Ext.drew F w) (fun _ h => h) (fun _ _ h => h)
end
end Go.Sx
namespace Go.Sx
noncomputable section
variable [Globs]
abbrev Dr := (FuncId → List SV → AS → Tree (SV × AS)) → Array Oper → AS → Tree AS
def bodyT (P : Program) (C : Ctx) (dr : Dr) (n : Nat) (fn : Func) (body : Code) (st : AS) : Tree (SV × AS) :=
  (exec P C dr n body st).bind fun r => match r.1 with
    | .normal => (Tree.ofTr (absResults P fn.results r.2)).bind fun s => .ret (s, r.2)
    | .ret => (Tree.ofTr (absResults P fn.results r.2)).bind fun s => .ret (s, r.2)
    | _ => .fail
theorem fn_sound {P : Program} {C : Ctx} {dr : Dr} (hC : CtxOK P C) (hD : DrOK P C dr) {k : FuncId} {fn : Func} {body : Code} (hfn : P.funcs[k]? = some fn) (hbody : fn.body = some body) {n : Nat} {args : List SV} {st0 : AS} {R : SV × AS → Prop}
    (hs : (bodyT P C dr n fn body { st0 with tm := startTm fn args }).sat P R) {μ : Mu} {F : Nat → Prop} {w : World} {vs : Array Value} (hl : LH w μ F st0.hp) (hgl : GlobOK w F) (hf : Fresh st0.next μ) (hr : Reps w μ F vs args) :
    Calls P k vs w fun e w' => ∃ v s st' μ' F', e = .returned v ∧ R (s, st') ∧ HS ⟨w, Tk st0.hp μ, F⟩ μ' F' st'.hp w' ∧ Rep w' μ' F' v s ∧ (∀ l q, μ l = some q → μ' l = some q) ∧ Fresh st'.next μ' := by
  have hs := Tree.sat_bind hs
  refine callsIn_wide.1 (callsIn_of_wp_marks (F := Fence.wide) (n := 0) hfn hbody trivial ?_ rfl)
  have hsim : Sim ⟨w, Tk st0.hp μ, F⟩ μ { st0 with tm := startTm fn args } { tmps := vs ++ Array.replicate (fn.ntmps - vs.size) undef, defers := [] } w := by
    refine ⟨μ, F, hl, hf, fun _ _ h => h, ?_, ?_, Marks.nil _ _ _ hgl⟩
    · intro t
      simp only [startTm, tget_def]
      simp only [List.getD, List.getElem?_append, List.length_map]
      split
      · rename_i hlt
        have hlt' : t < vs.size := by rw [hr.1]; exact hlt
        have := hr.2 t hlt
        simp only [List.getElem?_map, List.getElem?_eq_getElem hlt, Option.map_some, Option.getD_some]
        simp only [RepT]
        simpa [Array.getD_eq_getD_getElem?, Array.getElem?_append, hlt', List.getD, hlt] using this
      · by_cases h2 : t - args.length < fn.ntmps - args.length
        · simp [List.getElem?_replicate, h2, RepT]
        · simp [List.getElem?_replicate, h2, RepT]
    · simp [startTm, hr.1]
  refine Go.wpIn_mono (exec_sound hC hD n body _ _ hs _ _ _ _ hsim).wp ?_
  intro e a' w' hc
  have key : ∀ s' : AS, Tree.sat P ((Tree.ofTr (absResults P fn.results s')).bind fun s => Tree.ret (s, s')) R → Sim ⟨w, Tk st0.hp μ, F⟩ μ s' a' w' → LeavesInM Fence.wide 0 P fn a'.tmps
      (fun e w' => ∃ u s st' μ' F', e = .returned u ∧ R (s, st') ∧ HS ⟨w, Tk st0.hp μ, F⟩ μ' F' st'.hp w' ∧ Rep w' μ' F' u s ∧ (∀ l q, μ l = some q → μ' l = some q) ∧ Fresh st'.next μ') a'.defers .returning w' := by
    intro s' hq ⟨μ', F', e1, e2, e3, e4, e5, e6⟩
    have hq := Tree.sat_bind hq
    obtain ⟨s, h1, h2⟩ := Tree.sat_ofTr hq
    obtain ⟨_, Ds, d1, d2, d3⟩ := e6
    rw [d1]
    refine leaves_marks (tm := s'.tm) (fun w2 k1 k2 => ?_) Ds w' d2 d3 e1 e4
    obtain ⟨v, h3, h4⟩ := absResults_sound (hs_seq1 k1) k2 h1
    exact ⟨v, h3, v, s, s', μ', F', rfl, h2, k1, h4, e3, e2⟩
  cases e with
  | normal => obtain ⟨s', h1, h2⟩ := hc; exact key s' h1 h2
  | ret => obtain ⟨s', h1, h2⟩ := hc; exact key s' h1 h2
  | exit id => obtain ⟨s', h1, h2⟩ := hc; exact h1.elim
  | goto l => exact hc.elim
  | panic ch => exact hc.elim
  | outgrown => exact hc.elim
def froz (hp : Heap) : SV → Option (SV × List Prop × List Nat)
  | .tup cs => (views hp cs).map fun (a, p, l) => (.tup a, p, l)
  | s => view hp s
theorem froz_sound {P : Program} {w : World} {μ : Mu} {F : Nat → Prop} {hp : Heap} {v : Value} {s a : SV} {ps : List Prop} {ls : List Nat} (hl : LH w μ F hp) (hs : Rep w μ F v s) (he : froz hp s = some (a, ps, ls)) (hps : ∀ p ∈ ps, p) {G : Nat → Prop} (hFG : ∀ b, F b → G b)
    (hG : ∀ b, Opens hp μ ls b → G b) : Rep w emp G v a := by
  unfold froz at he
  split at he
  · rename_i cs
    rw [Option.map_eq_some_iff] at he
    obtain ⟨⟨as, p, l⟩, h1, h2⟩ := he
    simp only [Prod.mk.injEq] at h2
    obtain ⟨rfl, rfl, rfl⟩ := h2
    obtain ⟨h3, h4⟩ := views_sound (P := P) hl hFG h1 hps hG
    cases hs with
    | tup vs _ hlen hi => exact .tup vs as (by omega) fun i hi' => h4 i _ (by omega) (hi i (by omega))
  · exact view_sound (P := P) hl hs he hps hFG hG
def fnT (P : Program) (C : Ctx) (dr : Dr) (n : Nat) (fn : Func) (body : Code) (args : List SV) (h : Hint) : Tree SV :=
  (bodyT P C dr n fn body ⟨startTm fn args, [], 0, h⟩).bind fun r => match froz r.2.hp r.1 with
    | some (a, ps, _) => needT ps (.ret a)
    | none => .fail
theorem ctrOK_of {P : Program} {C : Ctx} {dr : Dr} (hC : CtxOK P C) (hD : DrOK P C dr) {k : FuncId} {fn : Func} {body : Code} (hfn : P.funcs[k]? = some fn) (hbody : fn.body = some body) {c : Ctr}
    (h : ∀ ss r, (c ss).ev r → ∃ n hint, (fnT P C dr n fn body ss hint).sat P (· = r)) : CtrOK P k c := by
  intro ss vs w F r hF hgl hr hev
  obtain ⟨n, hint, hs⟩ := h ss r hev
  have hs := Tree.sat_bind hs
  have hl : LH w emp F [] := ⟨Ext.refl _ _, fun b hb => hb, fun b hb => ⟨hF b hb, .inl hb⟩, fun l blk hg => by simp [hget_def] at hg, fun l l' blk blk' b o b' o' _ hg => by simp [hget_def] at hg⟩
  refine (fn_sound (st0 := ⟨[], [], 0, hint⟩) hC hD hfn hbody hs hl hgl (fun l _ => rfl) hr).mono ?_
  rintro e w' ⟨v, s, st', μ', F', rfl, hR, hh, hrep, -, -⟩
  refine ⟨v, rfl, ?_⟩
  simp only at hR
  split at hR
  · rename_i a ps ls hfz
    obtain ⟨hps, hR⟩ := needT_sat hR
    simp only [Tree.sat] at hR; subst hR
    have hl' := hs_seq1 hh
    have hv := froz_sound (P := P) (G := fun b => F' b ∨ Opens st'.hp μ' ls b) hl' hrep hfz hps (fun b hb => .inl hb) (fun b hb => .inr hb)
    refine ⟨emp, _, ⟨hh.ext, fun b hb => .inl (hh.sub b hb), ?_, fun l blk hg => by simp [hget_def] at hg, fun l l' blk blk' b o b' o' _ hg => by simp [hget_def] at hg⟩, hv, fun l q h => by simp [emp] at h, fun l hl => (hl trivial).elim⟩
    rintro b (hb | ⟨l, _, blk, o, hg, hm⟩)
    · exact hh.fin b hb
    · obtain ⟨hat, _⟩ := hl'.blkAt hg hm
      obtain ⟨q, e1, e2, e3⟩ := hh.blk l blk hg
      rw [hm, Option.some.injEq] at e1; subst e1
      exact ⟨hat.lt, .inr e2.2⟩
  · exact hR.elim
theorem law_of {P : Program} {k : FuncId} {c : Ctr} (hc : CtrOK P k c) {ss : List SV} {vs : Array Value} {w : World} {F : Nat → Prop} (hF : ∀ b, F b → b < w.heap.size) (hgl : GlobOK w F) (hr : Reps w emp F vs ss) {u : Value} (h : (c ss).ev (.d (.x u))) :
    Calls P k vs w fun e w' => e = .returned u ∧ RowKit.Below w.heap.size w w' := by
  refine (hc ss vs w F _ hF hgl hr h).mono ?_
  rintro e w' ⟨v, rfl, μ', F', hh, hrep, -, -⟩
  obtain rfl : v = u := rep_x hrep
  refine ⟨rfl, hh.ext.os, hh.ext.tape, hh.ext.output, hh.ext.size, fun b hb => hh.ext.keep b ⟨hb, ?_⟩⟩
  rintro ⟨l, blk, o, hg, _⟩
  simp [hget_def] at hg
end
end Go.Sx
namespace Go.Sx
noncomputable section
variable [Globs]
def rn (n0 : Nat) (ρ : List (Nat × Nat)) (l l' : Nat) : Prop := if l' < n0 then l = l' else ρ.contains (l, l') = true
def leD : DV → DV → Prop
  | .ro n e c, .ro n' e' c' => n = n' ∧ e = e' ∧ ∀ i j, i < n → j < e → c i j = c' i j
  | .x v, .ro n _ _ => v = .slice none 0 0 ∧ n = 0
  | .rf n e c, .ro n' e' c' => n = n' ∧ e = e' ∧ ∀ i j, i < n → j < e → c i j = c' i j
  | .rf n e c, .rf n' e' c' => n = n' ∧ e = e' ∧ ∀ i j, i < n → j < e → c i j = c' i j
  | a, b => a = b
mutual
def leSV (n0 : Nat) (ρ : List (Nat × Nat)) (nils : List Nat) : SV → SV → Prop
  | .d a, s' => match s' with
    | .d b => leD a b
    | .row l _ _ n _ => a = .x (.slice none 0 0) ∧ n = 0 ∧ nils.contains l = true
    | _ => False
  | .ptr l o, s' => match s' with
    | .ptr l' o' => rn n0 ρ l l' ∧ o = o'
    | _ => False
  | .pix l b n e i j, s' => match s' with
    | .pix l' b' n' e' i' j' => rn n0 ρ l l' ∧ b = b' ∧ n = n' ∧ e = e' ∧ i = i' ∧ j = j'
    | _ => False
  | .row l b o n e, s' => match s' with
    | .row l' b' o' n' e' => rn n0 ρ l l' ∧ b = b' ∧ o = o' ∧ n = n' ∧ e = e'
    | _ => False
  | .rop n c, s' => match s' with
    | .rop m d => m ≤ n ∧ ∀ j, j < m → leD (c j) (d j)
    | _ => False
  | .agg cs, s' => match s' with
    | .agg ds => leSVs n0 ρ nils cs ds
    | _ => False
  | .fn f xs ys, s' => match s' with
    | .fn f' xs' ys' => f = f' ∧ leSVs n0 ρ nils xs xs' ∧ leSVs n0 ρ nils ys ys'
    | _ => False
  | .tup cs, s' => match s' with
    | .tup ds => leSVs n0 ρ nils cs ds
    | _ => False
  | .ifc t v, s' => match s' with
    | .ifc t' v' => t = t' ∧ leSV n0 ρ nils v v'
    | _ => False
def leSVs (n0 : Nat) (ρ : List (Nat × Nat)) (nils : List Nat) : List SV → List SV → Prop
  | [], ds => ds = []
  | c :: cs, ds => match ds with
    | d :: ds => leSV n0 ρ nils c d ∧ leSVs n0 ρ nils cs ds
    | [] => False
end
def leTV (n0 : Nat) (ρ : List (Nat × Nat)) (nils : List Nat) : TV → TV → Prop
  | _, .unk => True
  | .ok a, .ok b => leSV n0 ρ nils a b
  | .lit a, .lit b => a = b
  | .lit a, .ok b => b = .d (.x (.bool a))
  | _, _ => False
def leTm (n0 : Nat) (ρ : List (Nat × Nat)) (nils : List Nat) : List TV → List TV → Prop
  | _, [] => True
  | a :: as, b :: bs => leTV n0 ρ nils a b ∧ leTm n0 ρ nils as bs
  | [], _ => False
def leBlk (n0 : Nat) (ρ : List (Nat × Nat)) (nils : List Nat) : Blk → Blk → Prop
  | .cells cs, .cells ds => leSVs n0 ρ nils cs ds
  | .row n e c, .row n' e' c' => n = n' ∧ e = e' ∧ ∀ i j, i < n → j < e → c i j = c' i j
  | .cells cs, .row n e c => cs.length = n * e ∧ ∀ i j, i < n → j < e → cs.getD (i * e + j) uv = .d (c i j)
  | .iter s q, .iter s' q' => s = s' ∧ q = q'
  | _, _ => False
def srcOf (n0 : Nat) (ρ : List (Nat × Nat)) (l : Nat) : Option Nat := if l < n0 then some l else (ρ.find? fun e => e.2 == l).map (·.1)
def leHp (n0 : Nat) (ρ : List (Nat × Nat)) (nils : List Nat) (hp : Heap) : Nat → Heap → Prop
  | _, [] => True
  | l, none :: r => leHp n0 ρ nils hp (l + 1) r
  | l, some b :: r => (match nils.contains l with
    | true => (match b with | .row n _ _ => n = 0 | _ => False)
    | false => match srcOf n0 ρ l with
      | some o => (match hget hp o with | some a => leBlk n0 ρ nils a b | none => False)
      | none => False) ∧ leHp n0 ρ nils hp (l + 1) r
def nodupB : List Nat → Bool
  | [] => true
  | a :: r => !r.contains a && nodupB r
def gcChk (n0 : Nat) (ρ : List (Nat × Nat)) (nils : List Nat) (next : Nat) (hp : Heap) : Bool :=
  decide (n0 ≤ next) && (ρ.all fun e => decide (n0 ≤ e.2) && decide (e.2 < next) && !(nils.contains e.2) && (!decide (e.1 < n0) || (hget hp e.1).isNone)) && (nils.all fun l => decide (n0 ≤ l) && decide (l < next)) && nodupB (ρ.map (·.1)) && nodupB (ρ.map (·.2))
def muOf (n0 : Nat) (ρ : List (Nat × Nat)) (nils : List Nat) (μ : Mu) : Mu := fun l => if l < n0 then μ l else if nils.contains l = true then some .nil else match (ρ.find? fun e => e.2 == l).map (·.1) with | some o => μ o | none => none
theorem nodupB_inj {l : List (Nat × Nat)} (h : nodupB (l.map (·.2)) = true) {e : Nat × Nat} (he : e ∈ l) : l.find? (fun f => f.2 == e.2) = some e := by
  induction l with
  | nil => cases he
  | cons a l ih =>
    simp only [List.map_cons, nodupB, Bool.and_eq_true, Bool.not_eq_true'] at h
    rcases List.mem_cons.1 he with rfl | he
    · simp
    · have hne : (a.2 == e.2) = false := by
        have : (l.map (·.2)).contains a.2 = false := h.1
        simp only [beq_eq_false_iff_ne, ne_eq]
        intro hh
        rw [List.contains_eq_mem, decide_eq_false_iff_not, hh] at this
        exact this (List.mem_map.2 ⟨e, he, rfl⟩)
      simp only [List.find?_cons, hne]
      exact ih h.2 he
theorem nodupB_fst {l : List (Nat × Nat)} (h : nodupB (l.map (·.1)) = true) {e f : Nat × Nat} (he : e ∈ l) (hf : f ∈ l) (hef : e.1 = f.1) : e = f := by
  induction l with
  | nil => cases he
  | cons a l ih =>
    simp only [List.map_cons, nodupB, Bool.and_eq_true, Bool.not_eq_true'] at h
    have hn : ∀ g ∈ l, g.1 ≠ a.1 := by
      intro g hg hh
      have := h.1
      rw [List.contains_eq_mem, decide_eq_false_iff_not, ← hh] at this
      exact this (List.mem_map.2 ⟨g, hg, rfl⟩)
    rcases List.mem_cons.1 he with rfl | he1
    · rcases List.mem_cons.1 hf with rfl | hf1
      · rfl
      · exact (hn _ hf1 hef.symm).elim
    · rcases List.mem_cons.1 hf with rfl | hf1
      · exact (hn _ he1 hef).elim
      · exact ih h.2 he1 hf1
variable {n0 : Nat} {ρ : List (Nat × Nat)} {nils : List Nat}
theorem rn_mu {next : Nat} {hp : Heap} (hk : gcChk n0 ρ nils next hp = true) {μ : Mu} {l l' : Nat} {q : Plc} (h : rn n0 ρ l l') (hm : μ l = some q) : muOf n0 ρ nils μ l' = some q := by
  unfold rn at h
  unfold muOf
  split at h
  · rename_i hlt; rw [if_pos hlt]; subst h; exact hm
  · rename_i hlt
    rw [if_neg hlt]
    rw [List.contains_iff_mem] at h
    simp only [gcChk, Bool.and_eq_true] at hk
    obtain ⟨⟨⟨⟨k1, k2⟩, k3⟩, k4⟩, k5⟩ := hk
    have := (List.all_eq_true.1 k2) _ h
    simp only [Bool.and_eq_true, Bool.not_eq_true'] at this
    rw [if_neg (by rw [this.1.2]; simp)]
    rw [nodupB_inj k5 h]
    exact hm
theorem nil_mu {next : Nat} {hp : Heap} (hk : gcChk n0 ρ nils next hp = true) {μ : Mu} {l : Nat} (h : nils.contains l = true) : muOf n0 ρ nils μ l = some .nil := by
  simp only [gcChk, Bool.and_eq_true] at hk
  obtain ⟨⟨⟨⟨k1, k2⟩, k3⟩, k4⟩, k5⟩ := hk
  have := (List.all_eq_true.1 k3) l (by simpa using h)
  simp only [Bool.and_eq_true, decide_eq_true_eq] at this
  unfold muOf
  rw [if_neg (by omega), if_pos h]
theorem leRo {w : World} {F : Nat → Prop} {v : Value} {n e : Nat} {c c' : Nat → Nat → DV} (h : RepD w F v (.ro n e c)) (hc : ∀ i j, i < n → j < e → c i j = c' i j) : RepD w F v (.ro n e c') := by
  cases h with
  | nil => exact .nil _ _
  | z => exact .z _ _ _ _
  | ro b o len cap esz cell f hF hcap hcell hone hrep => exact .ro b o n cap e c' f hF hcap hcell hone fun i j hi hj => by rw [← hc i j hi hj]; exact hrep i j hi hj
theorem leD_sound {w : World} {F : Nat → Prop} {v : Value} {a b : DV} (h : RepD w F v a) (hl : leD a b) : RepD w F v b := by
  cases a with
  | x u =>
    cases b with
    | x u' => simp only [leD] at hl; rw [← hl]; exact h
    | ro n' e' c' =>
      simp only [leD] at hl
      obtain ⟨rfl, rfl⟩ := hl
      obtain rfl := repd_x h
      exact .nil _ _
    | rf => simp only [leD] at hl; cases hl
  | rf n e c =>
    cases b with
    | x u => simp only [leD] at hl; cases hl
    | ro n' e' c' =>
      simp only [leD] at hl
      obtain ⟨rfl, rfl, hc⟩ := hl
      cases h with
      | rf _ _ _ _ h _ => exact leRo h hc
    | rf n' e' c' =>
      simp only [leD] at hl
      obtain ⟨rfl, rfl, hc⟩ := hl
      cases h with
      | rf _ _ _ _ h hx => exact .rf _ _ _ _ (leRo h hc) hx
  | ro n e c =>
    cases b with
    | x u => simp only [leD] at hl; cases hl
    | ro n' e' c' =>
      simp only [leD] at hl
      obtain ⟨rfl, rfl, hc⟩ := hl
      cases h with
      | nil => exact .nil _ _
      | z => exact .z _ _ _ _
      | ro b o len cap esz cell f hF hcap hcell hone hrep => exact .ro b o n cap e c' f hF hcap hcell hone fun i j hi hj => by rw [← hc i j hi hj]; exact hrep i j hi hj
    | rf => simp only [leD] at hl; cases hl
theorem leSVs_get : ∀ {cs ds : List SV}, leSVs n0 ρ nils cs ds → cs.length = ds.length ∧ ∀ i, i < cs.length → leSV n0 ρ nils (cs.getD i uv) (ds.getD i uv)
  | [], ds, h => by simp only [leSVs] at h; subst h; exact ⟨rfl, fun i hi => by simp at hi⟩
  | c :: cs, ds, h => by
    cases ds with
    | nil => simp only [leSVs] at h
    | cons d ds =>
      simp only [leSVs] at h
      obtain ⟨h1, h2⟩ := leSVs_get h.2
      refine ⟨by simp [h1], fun i hi => ?_⟩
      cases i with
      | zero => simpa using h.1
      | succ i => simpa using h2 i (by simpa using hi)
theorem leSV_sound {next : Nat} {hp : Heap} (hk : gcChk n0 ρ nils next hp = true) {w : World} {μ : Mu} {F : Nat → Prop} {v : Value} {s : SV} (h : Rep w μ F v s) : ∀ {s' : SV}, leSV n0 ρ nils s s' → Rep w (muOf n0 ρ nils μ) F v s' := by
  induction h with
  | d h =>
    intro s' hl
    simp only [leSV] at hl
    split at hl
    · exact .d (leD_sound h hl)
    · obtain ⟨rfl, rfl, hn⟩ := hl
      cases h with
      | x => exact .rnil _ _ _ _ (nil_mu hk hn)
    · exact hl.elim
  | ptr l off b o h =>
    intro s' hl
    simp only [leSV] at hl
    split at hl
    · obtain ⟨h1, rfl⟩ := hl; exact .ptr _ _ b o (rn_mu hk h1 h)
    · exact hl.elim
  | pix l base n esz i j b o h =>
    intro s' hl
    simp only [leSV] at hl
    split at hl
    · obtain ⟨h1, rfl, rfl, rfl, rfl, rfl⟩ := hl; exact .pix _ _ _ _ _ _ b o (rn_mu hk h1 h)
    · exact hl.elim
  | rnil l base off esz h =>
    intro s' hl
    simp only [leSV] at hl
    split at hl
    · obtain ⟨h1, rfl, rfl, rfl, rfl⟩ := hl; exact .rnil _ _ _ _ (rn_mu hk h1 h)
    · exact hl.elim
  | rz l base off esz b o q h =>
    intro s' hl
    simp only [leSV] at hl
    split at hl
    · obtain ⟨h1, rfl, rfl, rfl, rfl⟩ := hl; exact .rz _ _ _ _ b o q (rn_mu hk h1 h)
    · exact hl.elim
  | row l base off len esz b o cap h hc hz =>
    intro s' hl
    simp only [leSV] at hl
    split at hl
    · obtain ⟨h1, rfl, rfl, rfl, rfl⟩ := hl; exact .row _ _ _ _ _ b o cap (rn_mu hk h1 h) hc hz
    · exact hl.elim
  | rop b o n cell f hb hcell hone hrep =>
    intro s' hl
    simp only [leSV] at hl
    split at hl
    · obtain ⟨h0, h1⟩ := hl
      exact .rop b o _ _ f (fun h => hb (by omega)) (fun j hj => hcell j (by omega)) (fun j hj => hone j (by omega)) fun j hj => leD_sound (hrep j (by omega)) (h1 j hj)
    · exact hl.elim
  | agg cs ss hl _ ih =>
    intro s' h
    simp only [leSV] at h
    split at h
    · obtain ⟨h1, h2⟩ := leSVs_get h
      exact .agg cs _ (by omega) fun i hi => ih i (by omega) (h2 i (by omega))
    · exact h.elim
  | fn f fs cs ss ts h1 h2 _ _ ih1 ih2 =>
    intro s' h
    simp only [leSV] at h
    split at h
    · obtain ⟨rfl, h3, h4⟩ := h
      obtain ⟨h5, h6⟩ := leSVs_get h3
      obtain ⟨h7, h8⟩ := leSVs_get h4
      exact .fn _ fs cs _ _ (by omega) (by omega) (fun i hi => ih1 i (by omega) (h6 i (by omega))) (fun i hi => ih2 i (by omega) (h8 i (by omega)))
    · exact h.elim
  | tup cs ss hl _ ih =>
    intro s' h
    simp only [leSV] at h
    split at h
    · obtain ⟨h1, h2⟩ := leSVs_get h
      exact .tup cs _ (by omega) fun i hi => ih i (by omega) (h2 i (by omega))
    · exact h.elim
  | ifc t v s _ ih =>
    intro s' h
    simp only [leSV] at h
    split at h
    · obtain ⟨rfl, h1⟩ := h; exact .ifc _ _ _ (ih h1)
    · exact h.elim
theorem leTm_get : ∀ {as bs : List TV}, leTm n0 ρ nils as bs → bs.length ≤ as.length ∧ ∀ t, leTV n0 ρ nils (tget as t) (tget bs t)
  | as, [], h => ⟨by simp, fun t => by simp only [tget_def]; simp [leTV]⟩
  | [], b :: bs, h => by simp [leTm] at h
  | a :: as, b :: bs, h => by
    simp only [leTm] at h
    obtain ⟨h1, h2⟩ := leTm_get h.2
    refine ⟨by simp; omega, fun t => ?_⟩
    cases t with
    | zero => simpa [tget_def] using h.1
    | succ t => simpa [tget_def] using h2 t
theorem leHp_get {hp : Heap} : ∀ {r : Heap} {l : Nat}, leHp n0 ρ nils hp l r → ∀ k b, hget r k = some b → (match nils.contains (l + k) with
    | true => (match b with | .row n _ _ => n = 0 | _ => False)
    | false => match srcOf n0 ρ (l + k) with
      | some o => (match hget hp o with | some a => leBlk n0 ρ nils a b | none => False)
      | none => False)
  | [], l, h, k, b, hg => by simp [hget_def] at hg
  | none :: r, l, h, k, b, hg => by
    cases k with
    | zero => simp [hget_def] at hg
    | succ k =>
      have := leHp_get (r := r) (l := l + 1) h k b (by simpa [hget_def] using hg)
      rwa [show l + 1 + k = l + (k + 1) by omega] at this
  | some c :: r, l, h, k, b, hg => by
    simp only [leHp] at h
    cases k with
    | zero =>
      obtain rfl : c = b := by simpa [hget_def] using hg
      exact h.1
    | succ k =>
      have := leHp_get (r := r) (l := l + 1) h.2 k b (by simpa [hget_def] using hg)
      rwa [show l + 1 + k = l + (k + 1) by omega] at this
def Gc (n0 : Nat) (s s' : AS) : Prop := ∀ p μ0 a w, (∀ l, n0 ≤ l → μ0 l = none) → Sim p μ0 s a w → Sim p μ0 s' a w
theorem Gc.refl (n0 : Nat) (s : AS) : Gc n0 s s := fun _ _ _ _ _ h => h
theorem Gc.trans {n0 : Nat} {a b c : AS} (h : Gc n0 a b) (k : Gc n0 b c) : Gc n0 a c := fun p μ0 x w h0 hs => k p μ0 x w h0 (h p μ0 x w h0 hs)
theorem leBlk_sound {next : Nat} {hp : Heap} (hk : gcChk n0 ρ nils next hp = true) {w : World} {μ : Mu} {F : Nat → Prop} {q : Plc} {a b : Blk} (h : BlkAt w μ F q a) (hl : leBlk n0 ρ nils a b) : BlkAt w (muOf n0 ρ nils μ) F q b := by
  cases q with
  | nil =>
    cases a with
    | cells cs => exact h.elim
    | row n e c =>
      cases b with
      | cells cs => exact hl.elim
      | row n' e' c' => simp only [leBlk] at hl; obtain ⟨rfl, rfl, _⟩ := hl; exact h
      | iter s q => exact hl.elim
    | iter s q => exact h.elim
  | pl bb o =>
    cases a with
    | cells cs =>
      obtain ⟨c, e, h1, h2, h3, h4⟩ := h
      cases b with
      | cells ds =>
        simp only [leBlk] at hl
        obtain ⟨k1, k2⟩ := leSVs_get hl
        exact ⟨c, e, h1, by omega, fun i hi => leSV_sound hk (h3 i (by omega)) (k2 i (by omega)), fun i hi => h4 i (by omega)⟩
      | row n e' c' =>
        simp only [leBlk] at hl
        have hidx : ∀ i j, i < n → j < e' → i * e' + j < cs.length := by
          intro i j hi hj
          have : (i + 1) * e' ≤ n * e' := Nat.mul_le_mul_right _ hi
          rw [Nat.add_mul] at this; omega
        refine ⟨c, e, h1, by omega, fun i j hi hj => ?_, fun i j hi hj => h4 _ (hidx i j hi hj)⟩
        have := h3 _ (hidx i j hi hj)
        rw [hl.2 i j hi hj] at this
        exact rep_d this
      | iter s q => exact hl.elim
    | row n e' c' =>
      obtain ⟨c, e, h1, h2, h3, h4⟩ := h
      cases b with
      | cells ds => exact hl.elim
      | row n' e'' c'' =>
        simp only [leBlk] at hl
        obtain ⟨rfl, rfl, hc⟩ := hl
        exact ⟨c, e, h1, h2, fun i j hi hj => by rw [← hc i j hi hj]; exact h3 i j hi hj, h4⟩
      | iter s q => exact hl.elim
    | iter s q =>
      cases b with
      | cells ds => exact hl.elim
      | row n' e'' c'' => exact hl.elim
      | iter s' q' =>
        simp only [leBlk] at hl
        obtain ⟨rfl, rfl⟩ := hl
        exact h
theorem gc_sound {s s' : AS} (ρ : List (Nat × Nat)) (nils : List Nat) (hk : gcChk n0 ρ nils s'.next s'.hp = true) (ht : leTm n0 ρ nils s.tm s'.tm) (hh : leHp n0 ρ nils s.hp 0 s'.hp) : Gc n0 s s' := by
  rintro p μ0 a w h00 ⟨μ, F, hs, hf, h0, htm, hsz, hd⟩
  obtain ⟨t1, t2⟩ := leTm_get ht
  have hk' := hk
  simp only [gcChk, Bool.and_eq_true, decide_eq_true_eq] at hk'
  obtain ⟨⟨⟨⟨k1, k2⟩, k3⟩, k4⟩, k5⟩ := hk'
  have hsrc : ∀ l b, hget s'.hp l = some b → (∃ q, muOf n0 ρ nils μ l = some q ∧ PlcOK p F q ∧ BlkAt w (muOf n0 ρ nils μ) F q b) ∧
      (nils.contains l = true ∨ ∃ o c, nils.contains l = false ∧ srcOf n0 ρ l = some o ∧ hget s.hp o = some c ∧ muOf n0 ρ nils μ l = μ o) := by
    intro l b hg
    have := leHp_get hh l b hg
    rw [Nat.zero_add] at this
    cases hn : nils.contains l with
    | true =>
      rw [hn] at this
      refine ⟨⟨.nil, nil_mu hk hn, trivial, ?_⟩, .inl rfl⟩
      cases b with
      | cells cs => exact this.elim
      | row n e c => exact this
      | iter s q => exact this.elim
    | false =>
      rw [hn] at this
      simp only at this
      split at this
      · rename_i o ho
        split at this
        · rename_i c hc
          have hmu : muOf n0 ρ nils μ l = μ o := by
            unfold muOf
            unfold srcOf at ho
            split at ho
            · rename_i hlt; rw [if_pos hlt]; simp only [Option.some.injEq] at ho; rw [ho]
            · rename_i hlt; rw [if_neg hlt, if_neg (by rw [hn]; simp), ho]
          obtain ⟨q, h1, h2, h3⟩ := hs.blk o c hc
          exact ⟨⟨q, by rw [hmu]; exact h1, h2, leBlk_sound hk h3 this⟩, .inr ⟨o, c, rfl, ho, hc, hmu⟩⟩
        · exact this.elim
      · exact this.elim
  refine ⟨muOf n0 ρ nils μ, F, ⟨hs.ext, hs.sub, hs.fin, fun l b hg => (hsrc l b hg).1, ?_⟩, ?_, ?_, ?_, by omega, hd⟩
  · intro l l' blk blk' b o b' o' hne g1 g2 m1 m2
    rcases (hsrc l blk g1).2 with e1 | ⟨x, c, n1, s1, c1, u1⟩
    · rw [nil_mu hk e1] at m1; cases m1
    · rcases (hsrc l' blk' g2).2 with e2 | ⟨x', c', n2, s2, c2, u2⟩
      · rw [nil_mu hk e2] at m2; cases m2
      · rw [u1] at m1; rw [u2] at m2
        refine hs.inj x x' c c' b o b' o' ?_ c1 c2 m1 m2
        intro hxx
        subst hxx
        have hfind : ∀ l, ¬ l < n0 → srcOf n0 ρ l = some x → (x, l) ∈ ρ := by
          intro l hl hx
          unfold srcOf at hx
          rw [if_neg hl, Option.map_eq_some_iff] at hx
          obtain ⟨e, he1, he2⟩ := hx
          have hm := List.mem_of_find?_eq_some he1
          have hp := List.find?_some he1
          simp only [beq_iff_eq] at hp
          subst he2; subst hp
          exact hm
        have hlow : ∀ l, l < n0 → srcOf n0 ρ l = some x → x = l := by
          intro l hl hx
          unfold srcOf at hx
          rw [if_pos hl, Option.some.injEq] at hx
          exact hx.symm
        have hno : ∀ l blk, hget s'.hp l = some blk → l < n0 → (l, l') ∈ ρ ∨ (∃ m, (l, m) ∈ ρ) → False := by
          intro l blk hg hl hm
          have : ∃ m, (l, m) ∈ ρ := hm.elim (fun h => ⟨_, h⟩) id
          obtain ⟨m, hm⟩ := this
          have := (List.all_eq_true.1 k2) _ hm
          simp only [Bool.and_eq_true, Bool.or_eq_true, Bool.not_eq_true', decide_eq_false_iff_not] at this
          rcases this.2 with h | h
          · exact h hl
          · rw [hg] at h; cases h
        by_cases a1 : l < n0
        · have b1 := hlow l a1 s1; subst b1
          by_cases a2 : l' < n0
          · exact hne (hlow l' a2 s2)
          · exact hno x blk g1 a1 (.inr ⟨l', hfind l' a2 s2⟩)
        · by_cases a2 : l' < n0
          · have b2 := hlow l' a2 s2; subst b2
            exact hno x blk' g2 a2 (.inr ⟨l, hfind l a1 s1⟩)
          · have := nodupB_fst k4 (hfind l a1 s1) (hfind l' a2 s2) rfl
            simp only [Prod.mk.injEq] at this
            exact hne this.2
  · intro l hl
    unfold muOf
    rw [if_neg (by omega)]
    rw [if_neg]
    · cases hfd : ρ.find? (fun e => e.2 == l) with
      | none => rfl
      | some e =>
        have hm := List.mem_of_find?_eq_some hfd
        have hp := List.find?_some hfd
        simp only [beq_iff_eq] at hp
        have := (List.all_eq_true.1 k2) _ hm
        simp only [Bool.and_eq_true, decide_eq_true_eq] at this
        omega
    · intro hn
      have := (List.all_eq_true.1 k3) l (by simpa using hn)
      simp only [Bool.and_eq_true, decide_eq_true_eq] at this
      omega
  · intro l q hq
    unfold muOf
    by_cases hlt : l < n0
    · rw [if_pos hlt]; exact h0 l q hq
    · rw [h00 l (by omega)] at hq; cases hq
  · intro t
    have h1 := t2 t
    have h2 := htm t
    generalize tget s.tm t = x at h1 h2
    generalize tget s'.tm t = y at h1 ⊢
    cases y with
    | unk => trivial
    | ok b =>
      cases x with
      | ok a => exact leSV_sound hk h2 h1
      | lit a => simp only [leTV] at h1; subst h1; simp only [RepT] at h2; rw [h2]; exact .d (.x _)
      | _ => exact h1.elim
    | lit b =>
      cases x with
      | lit a => simp only [leTV] at h1; subst h1; exact h2
      | _ => exact h1.elim
    | _ => cases x <;> exact h1.elim
theorem Triple.loop {P : Program} {body : Code} {st : AS} {post : Ex → AS → Prop} (I : Nat → AS → Prop) (h0 : ∃ n s, I n s ∧ Gc st.next st s)
    (hb : ∀ n s, I n s → Triple P body s fun e s' => match e with | .normal => ∃ m s'', m < n ∧ I m s'' ∧ Gc st.next s' s'' | e => ∃ s'', post e s'' ∧ Gc st.next s' s'') : Triple P (.loop body) st post := by
  intro p μ0 a w hs
  have hfr : ∀ l, st.next ≤ l → μ0 l = none := by
    obtain ⟨μ, F, _, hf, h0, _⟩ := hs
    intro l hl
    cases hm : μ0 l with
    | none => rfl
    | some q => have := h0 l q hm; rw [hf l hl] at this; cases this
  obtain ⟨n, s, hI, hg⟩ := h0
  have hs' := hg p μ0 a w hfr hs
  clear hs hg
  have key : ∀ n s a w, I n s → Sim p μ0 s a w → WP P (.loop body) (conc p μ0 post) a w := by
    intro n
    induction n using Nat.strongRecOn with
    | _ n ih =>
      intro s a w hI hs
      refine WP_loop_unroll (fun _ _ _ h => h) (fun _ _ h => h) (WP.mono ?_ (hb n s hI p μ0 a w hs))
      intro e a' w' hc
      cases e with
      | normal =>
        obtain ⟨s', ⟨m, s'', hm, hI', hg⟩, hs'⟩ := hc
        exact ih m hm s'' a' w' hI' (hg p μ0 a' w' hfr hs')
      | exit id => obtain ⟨s', ⟨s'', h1, hg⟩, h2⟩ := hc; exact ⟨s'', h1, hg p μ0 a' w' hfr h2⟩
      | ret => obtain ⟨s', ⟨s'', h1, hg⟩, h2⟩ := hc; exact ⟨s'', h1, hg p μ0 a' w' hfr h2⟩
      | _ => exact hc.elim
  exact key n s a w hI hs'
end
end Go.Sx
namespace Go.Sx
noncomputable section
variable [Globs]
def Tree.toTr {α : Type} : Tree α → Tr α
  | .ret a => .ret a
  | .ite b t e => .ite b t.toTr e.toTr
  | .need p t => .need p t.toTr
  | .fail => .fail
  | .code .. => .fail
theorem Tree.toTr_sat {α : Type} {P : Program} {a : α} : ∀ {t : Tree α}, t.toTr.ev a → t.sat P (· = a)
  | .ret b, h => by simp only [Tree.toTr, Tr.ev] at h; simp only [Tree.sat]; exact h.symm
  | .ite b t e, h => by
    simp only [Tree.toTr, Tr.ev] at h
    simp only [Tree.sat]
    rcases h with ⟨rfl, h⟩ | ⟨rfl, h⟩
    · exact ⟨fun _ => Tree.toTr_sat h, fun h => by cases h⟩
    · exact ⟨fun h => (by cases h), fun _ => Tree.toTr_sat h⟩
  | .need p t, h => ⟨h.1, Tree.toTr_sat h.2⟩
  | .fail, h => h.elim
  | .code .., h => h.elim
def autoC (P : Program) (C : Ctx) (n : Nat) (k : FuncId) (h : Hint) : Ctr := fun ss =>
  match P.funcs[k]? with
  | some fn => match fn.body with
    | some b => (fnT P C (fun _ => drawn P C) n fn b ss h).toTr
    | none => .fail
  | none => .fail
theorem autoC_ok {P : Program} {C : Ctx} (hC : CtxOK P C) (hm : P.follows .mixedOrders = true) (n : Nat) (k : FuncId) (h : Hint) : CtrOK P k (autoC P C n k h) := by
  cases hf : P.funcs[k]? with
  | none => intro ss vs w F r hF hgl hr he; simp [autoC, hf, Tr.ev] at he
  | some fn =>
    cases hb : fn.body with
    | none => intro ss vs w F r hF hgl hr he; simp [autoC, hf, hb, Tr.ev] at he
    | some b =>
      refine ctrOK_of hC (drawn_ok hC hm) hf hb fun ss r he => ⟨n, h, ?_⟩
      simp only [autoC, hf, hb] at he
      exact Tree.toTr_sat he
def ctxO (P : Program) (man : FuncId → Option Ctr) (own : FuncId → Option Octr) (inl : FuncId → Bool) (fuel : Nat) (h : Hint) : Nat → Ctx
  | 0 => ⟨man, fun k => inl k && goodF P k, own, fun _ => none⟩
  | d + 1 => ⟨fun k => match man k with
    | some c => some c
    | none => match own k with
      | some _ => none
      | none => if inl k then none else if goodF P k then some (autoC P (ctxO P man own inl fuel h d) fuel k h) else none, fun k => inl k && goodF P k, own, fun _ => none⟩
theorem ctxO_ok {P : Program} {man : FuncId → Option Ctr} {own : FuncId → Option Octr} {inl : FuncId → Bool} {fuel : Nat} {h : Hint} (hm : P.follows .mixedOrders = true) (hman : ∀ k c, man k = some c → CtrOK P k c ∧ goodF P k = true) (hown : ∀ k c, own k = some c → OwnOK P k c ∧ goodF P k = true) : ∀ d, CtxOK P (ctxO P man own inl fuel h d)
  | 0 => ⟨hman, fun k hk => by simp only [ctxO, Bool.and_eq_true] at hk; exact hk.2, hown, fun k m h => (by cases h)⟩
  | d + 1 => by
    refine ⟨fun k c hk => ?_, fun k hk => by simp only [ctxO, Bool.and_eq_true] at hk; exact hk.2, hown, fun k m h => by cases h⟩
    simp only [ctxO] at hk
    split at hk
    · rename_i c' hc'
      simp only [Option.some.injEq] at hk; subst hk
      exact hman k _ hc'
    · split at hk
      · cases hk
      · split at hk
        · cases hk
        · split at hk
          · rename_i hg
            simp only [Option.some.injEq] at hk; subst hk
            exact ⟨autoC_ok (ctxO_ok hm hman hown d) hm fuel k h, hg⟩
          · cases hk
def ctxN (P : Program) (man : FuncId → Option Ctr) (inl : FuncId → Bool) (fuel : Nat) (h : Hint) (d : Nat) : Ctx := ctxO P man (fun _ => none) inl fuel h d
theorem ctxN_ok {P : Program} {man : FuncId → Option Ctr} {inl : FuncId → Bool} {fuel : Nat} {h : Hint} (hm : P.follows .mixedOrders = true) (hman : ∀ k c, man k = some c → CtrOK P k c ∧ goodF P k = true) (d : Nat) : CtxOK P (ctxN P man inl fuel h d) :=
  ctxO_ok hm hman (fun k c h => by cases h) d
def withMu (P : Program) (C : Ctx) (mu : FuncId → Option MCtr) : Ctx := { C with inl := fun k => C.inl k || ((mu k).isSome && goodF P k), mu := mu }
theorem withMu_ok {P : Program} {C : Ctx} {mu : FuncId → Option MCtr} (hC : CtxOK P C) (hm : ∀ k m, mu k = some m → MuOK P k m) : CtxOK P (withMu P C mu) := by
  refine ⟨hC.ctr, fun k hk => ?_, hC.own, hm⟩
  simp only [withMu, Bool.or_eq_true, Bool.and_eq_true] at hk
  rcases hk with h | h
  · exact hC.inl k h
  · exact h.2
end
end Go.Sx
namespace Go.Sx
noncomputable section
variable [Globs]
def loopsIn : Code → List Code
  | .seq a b => loopsIn a ++ loopsIn b
  | .cond _ a b => loopsIn a ++ loopsIn b
  | .block _ a => loopsIn a
  | .loop a => a :: loopsIn a
  | .scope a => loopsIn a
  | _ => []
def loopN (c : Code) (n : Nat) : Code := (loopsIn c).getD n .skip
def fnOf (P : Program) (k : Nat) : Func := (P.funcs[k]?).getD default
def bodyOf (P : Program) (k : Nat) : Code := (fnOf P k).body.getD .skip
def codeK {α : Type} : Tree α → Ex → AS → Tree α
  | .code _ _ k => k
  | .need _ t => codeK t
  | _ => fun _ _ => .fail
def codeS {α : Type} : Tree α → AS
  | .code _ s _ => s
  | .need _ t => codeS t
  | _ => ⟨[], [], 0, .nil⟩
def sub {α : Type} : List Nat → Tree α → Tree α
  | [], t => t
  | 0 :: p, t => (match t with
    | .ite _ a _ => sub p a
    | .need _ a => sub p a
    | _ => .fail)
  | _ :: p, t => (match t with
    | .ite _ _ a => sub p a
    | _ => .fail)
def codeC {α : Type} : Tree α → Code
  | .code c _ _ => c
  | _ => .skip
def fTm {β : Type} : List TV → (List TV → β) → β
  | [], k => k []
  | a :: r, k => fTV a fun a => fTm r fun r => k (a :: r)
@[simp] theorem fTm_eq {β : Type} (l : List TV) (k : List TV → β) : fTm l k = k l := by
  induction l generalizing k with
  | nil => rfl
  | cons a r ih => simp [fTm, ih]
def frcO (o : Option AS) : Option AS := match o with
  | some st => fTm st.tm fun tm => fHp st.hp fun hp => fNat st.next fun nx => some ⟨tm, hp, nx, st.hint⟩
  | none => none
theorem frcO_eq (o : Option AS) : frcO o = o := by cases o <;> simp [frcO]
def ups (st : AS) (n : Nat) : AS := { st with next := n }
theorem CtrOK.mono {P : Program} {k : FuncId} {c d : Ctr} (h : CtrOK P k c) (hd : ∀ ss r, (d ss).ev r → (c ss).ev r) : CtrOK P k d :=
  fun ss vs w F r hF hgl hr he => h ss vs w F r hF hgl hr (hd ss r he)
def iv (n : Int) : SV := .d (.x (.int .i64 n))
def bv (b : Bool) : SV := .d (.x (.bool b))
def u8 (n : Int) : SV := .d (.x (.int .u8 n))
def w64 (n : Int) : Int := IntKind.wrap .i64 n
abbrev xi (n : Int) : DV := .x (.int .i64 n)
def ro64 (n : Nat) (c : Nat → Int) : SV := .d (.ro n 1 fun i _ => .x (.int .i64 (c i)))
def ro8 (n : Nat) (c : Nat → Int) : SV := .d (.ro n 1 fun i _ => .x (.int .u8 (c i)))
inductive Root where
  | base (l : Nat)
  | slot (t : Nat)
  | cell (r : Root) (i : Nat)
def idOf : SV → Option Nat
  | .ptr l _ => some l
  | .row l _ _ _ _ => some l
  | .pix l _ _ _ _ _ => some l
  | _ => none
def rootId (st : AS) : Root → Option Nat
  | .base l => some l
  | .slot t => match tget st.tm t with
    | .ok s => idOf s
    | _ => none
  | .cell r i => match rootId st r with
    | some l => match hget st.hp l with
      | some (.cells cs) => idOf (cs.getD i uv)
      | _ => none
    | none => none
def rhoOf (st : AS) : List (Root × Nat) → List (Nat × Nat)
  | [] => []
  | (r, n) :: rest => match rootId st r with
    | some l => fNat l fun l => (l, n) :: rhoOf st rest
    | none => rhoOf st rest
def rnF (n0 : Nat) (ρ : List (Nat × Nat)) (l : Nat) : Option Nat :=
  match ρ.find? fun e => e.1 == l with
  | some e => some e.2
  | none => if l < n0 then some l else none
def ren1 (n0 : Nat) (ρ : List (Nat × Nat)) : SV → Option SV
  | .d v => some (.d v)
  | .ptr l o => (rnF n0 ρ l).map fun l => .ptr l o
  | .pix l b n e i j => (rnF n0 ρ l).map fun l => .pix l b n e i j
  | .row l b o n e => (rnF n0 ρ l).map fun l => .row l b o n e
  | .rop n c => some (.rop n c)
  | .fn f [] [] => some (.fn f [] [])
  | _ => none
def renL (n0 : Nat) (ρ : List (Nat × Nat)) : List SV → Option (List SV)
  | [] => some []
  | s :: r => match ren1 n0 ρ s, renL n0 ρ r with
    | some a, some b => some (a :: b)
    | _, _ => none
def renSV (n0 : Nat) (ρ : List (Nat × Nat)) : SV → Option SV
  | .agg cs => (renL n0 ρ cs).map .agg
  | .tup cs => (renL n0 ρ cs).map .tup
  | .fn f xs ys => match renL n0 ρ xs, renL n0 ρ ys with
    | some a, some b => some (.fn f a b)
    | _, _ => none
  | s => ren1 n0 ρ s
def renC (n0 : Nat) (ρ : List (Nat × Nat)) : List SV → Option (List SV)
  | [] => some []
  | s :: r => match renSV n0 ρ s, renC n0 ρ r with
    | some a, some b => some (a :: b)
    | _, _ => none
def renBlk (n0 : Nat) (ρ : List (Nat × Nat)) : Option Blk → Option Blk
  | some (.cells cs) => (renC n0 ρ cs).map .cells
  | b => b
def renTV (n0 : Nat) (ρ : List (Nat × Nat)) : TV → TV
  | .ok s => match renSV n0 ρ s with
    | some s => .ok s
    | none => .unk
  | .lit b => .lit b
  | _ => .unk
def renTm (n0 : Nat) (ρ : List (Nat × Nat)) (keep : List Nat) : Nat → List TV → List TV
  | _, [] => []
  | t, a :: r => (if keep.contains t then renTV n0 ρ a else .unk) :: renTm n0 ρ keep (t + 1) r
def renHp (n0 : Nat) (ρ : List (Nat × Nat)) (drop : List Nat) : Nat → Nat → Heap → Heap
  | 0, _, _ => []
  | m + 1, l, [] => none :: renHp n0 ρ drop m (l + 1) []
  | m + 1, l, b :: r => (if (ρ.map (·.1)).contains l || drop.contains l then none else renBlk n0 ρ b) :: renHp n0 ρ drop m (l + 1) r
def newHp (n0 : Nat) (ρ : List (Nat × Nat)) (hp : Heap) : Nat → Nat → Heap
  | 0, _ => []
  | m + 1, l => (match ρ.find? fun e => e.2 == l with | some e => renBlk n0 ρ (hget hp e.1) | none => none) :: newHp n0 ρ hp m (l + 1)
def gcA (n0 : Nat) (roots : List (Root × Nat)) (keep drop : List Nat) (nx : Nat) (h : Hint) (st : AS) : Option AS :=
  let ρ := rhoOf st roots
  let hp := renHp n0 ρ drop n0 0 st.hp ++ newHp n0 ρ st.hp (nx - n0) n0
  if gcChk n0 ρ [] nx hp = true then some ⟨renTm n0 ρ keep 0 st.tm, hp, nx, h⟩ else none
theorem rnF_rn {n0 nx : Nat} {ρ : List (Nat × Nat)} {hp : Heap} (hk : gcChk n0 ρ [] nx hp = true) {l l' : Nat} (h : rnF n0 ρ l = some l') : rn n0 ρ l l' := by
  unfold rnF at h
  unfold rn
  split at h
  · rename_i e he
    simp only [Option.some.injEq] at h; subst h
    have hm := List.mem_of_find?_eq_some he
    have hp := List.find?_some he
    simp only [beq_iff_eq] at hp
    simp only [gcChk, Bool.and_eq_true] at hk
    have := (List.all_eq_true.1 hk.1.1.1.2) _ hm
    simp only [Bool.and_eq_true, decide_eq_true_eq] at this
    rw [if_neg (by omega), List.contains_iff_mem]
    rw [← hp]; exact hm
  · split at h
    · rename_i hlt
      simp only [Option.some.injEq] at h; subst h
      rw [if_pos hlt]
    · cases h
theorem ren1_le {n0 nx : Nat} {ρ : List (Nat × Nat)} {hp : Heap} (hk : gcChk n0 ρ [] nx hp = true) {s s' : SV} (h : ren1 n0 ρ s = some s') : leSV n0 ρ [] s s' := by
  unfold ren1 at h
  split at h
  · simp only [Option.some.injEq] at h; subst h
    simp only [leSV]
    rename_i v
    cases v <;> simp [leD]
  · rw [Option.map_eq_some_iff] at h; obtain ⟨l', h1, rfl⟩ := h
    simp only [leSV]; exact ⟨rnF_rn hk h1, trivial⟩
  · rw [Option.map_eq_some_iff] at h; obtain ⟨l', h1, rfl⟩ := h
    simp only [leSV]; exact ⟨rnF_rn hk h1, by simp⟩
  · rw [Option.map_eq_some_iff] at h; obtain ⟨l', h1, rfl⟩ := h
    simp only [leSV]; exact ⟨rnF_rn hk h1, by simp⟩
  · simp only [Option.some.injEq] at h; subst h; simp only [leSV]
    rename_i c
    exact ⟨Nat.le_refl _, fun j _ => by cases c j <;> simp [leD]⟩
  · simp only [Option.some.injEq] at h; subst h; simp [leSV, leSVs]
  · cases h
theorem renL_le {n0 nx : Nat} {ρ : List (Nat × Nat)} {hp : Heap} (hk : gcChk n0 ρ [] nx hp = true) : ∀ {cs ds : List SV}, renL n0 ρ cs = some ds → leSVs n0 ρ [] cs ds
  | [], ds, h => by simp only [renL, Option.some.injEq] at h; subst h; simp only [leSVs]
  | c :: cs, ds, h => by
    simp only [renL] at h
    split at h
    · rename_i a b h1 h2
      simp only [Option.some.injEq] at h; subst h
      simp only [leSVs]
      exact ⟨ren1_le hk h1, renL_le hk h2⟩
    · cases h
theorem renSV_le {n0 nx : Nat} {ρ : List (Nat × Nat)} {hp : Heap} (hk : gcChk n0 ρ [] nx hp = true) {s s' : SV} (h : renSV n0 ρ s = some s') : leSV n0 ρ [] s s' := by
  unfold renSV at h
  split at h
  · rw [Option.map_eq_some_iff] at h; obtain ⟨l', h1, rfl⟩ := h; simp only [leSV]; exact renL_le hk h1
  · rw [Option.map_eq_some_iff] at h; obtain ⟨l', h1, rfl⟩ := h; simp only [leSV]; exact renL_le hk h1
  · split at h
    · rename_i a b h1 h2
      simp only [Option.some.injEq] at h; subst h
      simp only [leSV]; exact ⟨trivial, renL_le hk h1, renL_le hk h2⟩
    · cases h
  · exact ren1_le hk h
theorem renC_le {n0 nx : Nat} {ρ : List (Nat × Nat)} {hp : Heap} (hk : gcChk n0 ρ [] nx hp = true) : ∀ {cs ds : List SV}, renC n0 ρ cs = some ds → leSVs n0 ρ [] cs ds
  | [], ds, h => by simp only [renC, Option.some.injEq] at h; subst h; simp only [leSVs]
  | c :: cs, ds, h => by
    simp only [renC] at h
    split at h
    · rename_i a b h1 h2
      simp only [Option.some.injEq] at h; subst h
      simp only [leSVs]
      exact ⟨renSV_le hk h1, renC_le hk h2⟩
    · cases h
theorem renBlk_le {n0 nx : Nat} {ρ : List (Nat × Nat)} {hp : Heap} (hk : gcChk n0 ρ [] nx hp = true) {a : Option Blk} {b : Blk} (h : renBlk n0 ρ a = some b) : ∃ c, a = some c ∧ leBlk n0 ρ [] c b := by
  unfold renBlk at h
  split at h
  · rw [Option.map_eq_some_iff] at h; obtain ⟨l', h1, rfl⟩ := h
    exact ⟨_, rfl, by simp only [leBlk]; exact renC_le hk h1⟩
  · rename_i x hx
    subst h
    refine ⟨b, rfl, ?_⟩
    cases b with
    | cells cs => exact (hx cs rfl).elim
    | row n e c => simp [leBlk]
    | iter s q => simp [leBlk]
theorem leTV_unk {n0 : Nat} {ρ : List (Nat × Nat)} {nils : List Nat} (a : TV) : leTV n0 ρ nils a .unk := by cases a <;> trivial
theorem renTm_le {n0 nx : Nat} {ρ : List (Nat × Nat)} {hp : Heap} {keep : List Nat} (hk : gcChk n0 ρ [] nx hp = true) : ∀ (t : Nat) (as : List TV), leTm n0 ρ [] as (renTm n0 ρ keep t as)
  | _, [] => by simp [renTm, leTm]
  | t, a :: r => by
    simp only [renTm, leTm]
    refine ⟨?_, renTm_le hk (t + 1) r⟩
    split
    · unfold renTV
      split
      · split
        · rename_i s' h1; exact renSV_le hk h1
        · exact leTV_unk _
      · simp [leTV]
      · exact leTV_unk _
    · exact leTV_unk _
theorem leHp_append {n0 : Nat} {ρ : List (Nat × Nat)} {nils : List Nat} {hp : Heap} : ∀ {a b : Heap} {l : Nat}, leHp n0 ρ nils hp l a → leHp n0 ρ nils hp (l + a.length) b → leHp n0 ρ nils hp l (a ++ b)
  | [], b, l, _, h => h
  | none :: a, b, l, h1, h2 => by
    simp only [List.cons_append, leHp] at h1 ⊢
    exact leHp_append h1 (by rwa [List.length_cons, show l + (a.length + 1) = l + 1 + a.length by omega] at h2)
  | some c :: a, b, l, h1, h2 => by
    simp only [List.cons_append, leHp] at h1 ⊢
    exact ⟨h1.1, leHp_append h1.2 (by rwa [List.length_cons, show l + (a.length + 1) = l + 1 + a.length by omega] at h2)⟩
theorem renHp_len {n0 : Nat} {ρ : List (Nat × Nat)} {drop : List Nat} : ∀ (m l : Nat) (hp : Heap), (renHp n0 ρ drop m l hp).length = m
  | 0, _, _ => rfl
  | m + 1, l, [] => by simp [renHp, renHp_len m]
  | m + 1, l, b :: r => by simp [renHp, renHp_len m]
theorem renHp_le {n0 nx : Nat} {ρ : List (Nat × Nat)} {drop : List Nat} {hp' hp : Heap} (hk : gcChk n0 ρ [] nx hp' = true) : ∀ (m l : Nat) (r : Heap), l + m ≤ n0 → (∀ k, hget r k = hget hp (l + k)) → leHp n0 ρ [] hp l (renHp n0 ρ drop m l r)
  | 0, l, r, _, _ => by simp [renHp, leHp]
  | m + 1, l, [], hl, hg => by
    simp only [renHp, leHp]
    refine renHp_le hk m (l + 1) [] (by omega) fun k => ?_
    have := hg (k + 1)
    rw [show l + 1 + k = l + (k + 1) by omega, ← this]; simp [hget_def]
  | m + 1, l, b :: r, hl, hg => by
    have ih : leHp n0 ρ [] hp (l + 1) (renHp n0 ρ drop m (l + 1) r) := by
      refine renHp_le hk m (l + 1) r (by omega) fun k => ?_
      have := hg (k + 1)
      rw [show l + 1 + k = l + (k + 1) by omega, ← this]; simp [hget_def]
    simp only [renHp]
    have h0 : b = hget hp l := by have := hg 0; simpa [hget_def] using this
    split
    · simp only [leHp]; exact ih
    · cases hb : renBlk n0 ρ b with
      | none => simp only [leHp]; exact ih
      | some c =>
        simp only [leHp]
        refine ⟨?_, ih⟩
        obtain ⟨c', e1, e2⟩ := renBlk_le hk hb
        have hlt : l < n0 := by omega
        simp only [List.contains_nil, srcOf, hlt, if_true, ← h0, e1]
        exact e2
theorem newHp_le {n0 nx : Nat} {ρ : List (Nat × Nat)} {hp' hp : Heap} (hk : gcChk n0 ρ [] nx hp' = true) : ∀ (m l : Nat), n0 ≤ l → leHp n0 ρ [] hp l (newHp n0 ρ hp m l)
  | 0, l, _ => by simp [newHp, leHp]
  | m + 1, l, hl => by
    have ih := newHp_le (hp := hp) hk m (l + 1) (by omega)
    simp only [newHp]
    generalize hx : (match ρ.find? fun e => e.2 == l with | some e => renBlk n0 ρ (hget hp e.1) | none => none) = x
    cases x with
    | none => simp only [leHp]; exact ih
    | some c =>
      simp only [leHp]
      refine ⟨?_, ih⟩
      split at hx
      · rename_i e he
        obtain ⟨c', e1, e2⟩ := renBlk_le hk hx
        have hlt : ¬ l < n0 := by omega
        simp only [List.contains_nil, srcOf, hlt, if_false, he, Option.map_some, e1]
        exact e2
      · cases hx
theorem gcA_sound {n0 : Nat} {roots : List (Root × Nat)} {keep drop : List Nat} {nx : Nat} {h : Hint} {s s' : AS} (he : gcA n0 roots keep drop nx h s = some s') : Gc n0 s s' := by
  unfold gcA at he
  simp only at he
  split at he
  · rename_i hk
    simp only [Option.some.injEq] at he; subst he
    refine gc_sound (rhoOf s roots) [] hk (renTm_le hk 0 s.tm) (leHp_append (renHp_le hk n0 0 s.hp (by omega) fun k => by rw [Nat.zero_add]) ?_)
    rw [renHp_len, Nat.zero_add]
    exact newHp_le hk _ _ (Nat.le_refl _)
  · cases he
theorem ctrOK_le {P : Program} {C : Ctx} {dr : Dr} (hC : CtxOK P C) (hD : DrOK P C dr) {k : FuncId} {c : Ctr} (hf : (P.funcs[k]?).isSome = true) (hb : (fnOf P k).body.isSome = true)
    (h : ∀ ss r, (c ss).ev r → ∃ ss' n hint, leSVs 0 [] [] ss ss' ∧ (fnT P C dr n (fnOf P k) (bodyOf P k) ss' hint).sat P (· = r)) : CtrOK P k c := by
  intro ss vs w F r hF hgl hr hev
  obtain ⟨ss', n, hint, hle, hs⟩ := h ss r hev
  obtain ⟨h1, h2⟩ := leSVs_get hle
  have hfn : P.funcs[k]? = some (fnOf P k) := by
    unfold fnOf
    cases hk : P.funcs[k]? with
    | none => rw [hk] at hf; cases hf
    | some f => rfl
  have hbody : (fnOf P k).body = some (bodyOf P k) := by
    unfold bodyOf
    cases hk : (fnOf P k).body with
    | none => rw [hk] at hb; cases hb
    | some f => rfl
  have hemp : muOf 0 [] [] emp = emp := by funext l; simp [muOf, emp]
  have hr' : Reps w emp F vs ss' := by
    refine ⟨by rw [← h1]; exact hr.1, fun i hi => ?_⟩
    have := leSV_sound (next := 0) (hp := []) (n0 := 0) (ρ := []) (nils := []) rfl (hr.2 i (by omega)) (h2 i (by omega))
    rwa [hemp] at this
  exact ctrOK_of (c := fun ts => .need (ts = ss') (.ret r)) hC hD hfn hbody (fun ts q hq => by
    obtain ⟨rfl, rfl⟩ := hq
    exact ⟨n, hint, hs⟩) ss' vs w F r hF hgl hr' ⟨rfl, rfl⟩
def cutT (n0 : Nat) (roots : List (Root × Nat)) (keep drop : List Nat) (nx : Nat) (h : Hint) (t : Tree (Ex × AS)) : Tree (Ex × AS) :=
  t.bind fun r => match gcA n0 roots keep drop nx h r.2 with | some s => .ret (r.1, s) | none => .fail
theorem loop_sat {P : Program} {C : Ctx} {dr : Dr} (hC : CtxOK P C) (hD : DrOK P C dr) {n n0 nx : Nat} {body : Code} {st : AS} {post : Ex → AS → Prop} {roots : List (Root × Nat)} {keep drop : List Nat} {h : Hint} (hn : st.next = n0)
    (I : Nat → AS → Prop) (h0 : ∃ m s, I m s ∧ Gc n0 st s)
    (hb : ∀ m s, I m s → (cutT n0 roots keep drop nx h (exec P C dr n body s)).sat P fun r => match r.1 with | .normal => ∃ m' s', m' < m ∧ I m' s' ∧ Gc n0 r.2 s' | e => ∃ s', post e s' ∧ Gc n0 r.2 s') :
    Triple P (.loop body) st post := by
  subst hn
  refine Triple.loop I h0 fun m s hI => ?_
  refine (exec_sound hC hD n body s _ (Tree.sat_bind (hb m s hI))).mono fun e s' hq => ?_
  split at hq
  · rename_i s2 hg
    have hg := gcA_sound hg
    simp only [Tree.sat] at hq
    cases e with
    | normal => obtain ⟨m', s3, h1, h2, h3⟩ := hq; exact ⟨m', s3, h1, h2, hg.trans h3⟩
    | _ => obtain ⟨s3, h1, h2⟩ := hq; exact ⟨s3, h1, hg.trans h2⟩
  · exact hq.elim
def entA {α : Type} (n0 : Nat) (roots : List (Root × Nat)) (keep drop : List Nat) (nx : Nat) (h : Hint) (t : Tree α) : Option AS := frcO (gcA n0 roots keep drop nx h (ups (codeS t) n0))
theorem entA_sound {α : Type} {n0 : Nat} {roots : List (Root × Nat)} {keep drop : List Nat} {nx : Nat} {h : Hint} {t : Tree α} {s' : AS} (he : entA n0 roots keep drop nx h t = some s') : Gc n0 (ups (codeS t) n0) s' := by
  unfold entA at he; rw [frcO_eq] at he; exact gcA_sound he
theorem Triple.ups {P : Program} {c : Code} {st : AS} {Q : Ex → AS → Prop} {n : Nat} (hn : st.next ≤ n) (h : Triple P c (ups st n) Q) : Triple P c st Q := by
  rintro p μ0 a w ⟨μ, F, h1, h2, h3⟩
  exact h p μ0 a w ⟨μ, F, h1, fun l hl => h2 l (Nat.le_trans hn hl), h3⟩
theorem code_sat {α : Type} {P : Program} {C : Ctx} {dr : Dr} (hC : CtxOK P C) (hD : DrOK P C dr) {n n0 nx : Nat} {c body : Code} {st : AS} {k : Ex → AS → Tree α} {Q : α → Prop} {roots : List (Root × Nat)} {keep drop : List Nat} {h : Hint} (hc : c = .loop body) (hn : Nat.ble st.next n0 = true)
    (I : Nat → AS → Prop) (post : Ex → AS → Prop) (h0 : ∃ m s, I m s ∧ Gc n0 (ups st n0) s)
    (hb : ∀ m s, I m s → (cutT n0 roots keep drop nx h (exec P C dr n body s)).sat P fun r => match r.1 with | .normal => ∃ m' s', m' < m ∧ I m' s' ∧ Gc n0 r.2 s' | e => ∃ s', post e s' ∧ Gc n0 r.2 s')
    (hk : ∀ e s, post e s → (k e s).sat P Q) : (Tree.code c st k).sat P Q := by
  subst hc
  exact ⟨post, Triple.ups (Nat.le_of_ble_eq_true hn) (loop_sat hC hD rfl I h0 hb), hk⟩
structure Sat {α : Type} (P : Program) (t : Tree α) (Q : α → Prop) : Prop where
  ok : t.sat P Q
theorem code_satS {α : Type} {P : Program} {C : Ctx} {dr : Dr} (hC : CtxOK P C) (hD : DrOK P C dr) {n n0 nx : Nat} {c body : Code} {st : AS} {k : Ex → AS → Tree α} {Q : α → Prop} {roots : List (Root × Nat)} {keep drop : List Nat} {h : Hint} (hc : c = .loop body) (hn : Nat.ble st.next n0 = true)
    (I : Nat → AS → Prop) (post : Ex → AS → Prop) (h0 : ∃ m s, I m s ∧ Gc n0 (ups st n0) s)
    (hb : ∀ m s, I m s → Sat P (cutT n0 roots keep drop nx h (exec P C dr n body s)) fun r => match r.1 with | .normal => ∃ m' s', m' < m ∧ I m' s' ∧ Gc n0 r.2 s' | e => ∃ s', post e s' ∧ Gc n0 r.2 s')
    (hk : ∀ e s, post e s → Sat P (k e s) Q) : (Tree.code c st k).sat P Q :=
  code_sat hC hD hc hn I post h0 (fun m s hI => (hb m s hI).ok) (fun e s hp => (hk e s hp).ok)
theorem Triple.gc {P : Program} {c : Code} {st st1 : AS} {Q : Ex → AS → Prop} {n0 : Nat} (hn : st.next ≤ n0) (hg : Gc n0 (Sx.ups st n0) st1) (h : Triple P c st1 Q) : Triple P c st Q := by
  refine Triple.ups hn fun p μ0 a w hs => h p μ0 a w (hg p μ0 a w ?_ hs)
  obtain ⟨μ, F, _, hf, h0, _⟩ := hs
  intro l hl
  cases hm : μ0 l with
  | none => rfl
  | some q => have := h0 l q hm; rw [hf l hl] at this; cases this
theorem code_cut {α : Type} {P : Program} {C : Ctx} {dr : Dr} (hC : CtxOK P C) (hD : DrOK P C dr) {n n0 : Nat} {c : Code} {st st1 : AS} {k : Ex → AS → Tree α} {Q : α → Prop} (hn : Nat.ble st.next n0 = true) (hg : Gc n0 (ups st n0) st1)
    (h : Sat P ((exec P C dr n c st1).bind fun r => k r.1 r.2) Q) : (Tree.code c st k).sat P Q :=
  ⟨fun e s => (k e s).sat P Q, Triple.gc (Nat.le_of_ble_eq_true hn) hg (exec_sound hC hD n c st1 _ (Tree.sat_bind h.ok)), fun e s h => h⟩
theorem ctrOK_leS {P : Program} {C : Ctx} {dr : Dr} (hC : CtxOK P C) (hD : DrOK P C dr) {k : FuncId} {c : Ctr} (hf : (P.funcs[k]?).isSome = true) (hb : (fnOf P k).body.isSome = true)
    (h : ∀ ss r, (c ss).ev r → ∃ ss' n hint, leSVs 0 [] [] ss ss' ∧ Sat P (fnT P C dr n (fnOf P k) (bodyOf P k) ss' hint) (· = r)) : CtrOK P k c :=
  ctrOK_le hC hD hf hb fun ss r hr => by
    obtain ⟨ss', n, hint, h1, h2⟩ := h ss r hr
    exact ⟨ss', n, hint, h1, h2.ok⟩
theorem ctrOK_leR {P : Program} {C : Ctx} {dr : Dr} (hC : CtxOK P C) (hD : DrOK P C dr) {k : FuncId} {c : Ctr} (hf : (P.funcs[k]?).isSome = true) (hb : (fnOf P k).body.isSome = true)
    (h : ∀ ss r, (c ss).ev r → ∃ ss' n hint, leSVs 0 [] [] ss ss' ∧ Sat P (fnT P C dr n (fnOf P k) (bodyOf P k) ss' hint) fun r' => leSV 0 [] [] r' r) : CtrOK P k c := by
  intro ss vs w F r hF hgl hr hev
  obtain ⟨ss', n, hint, hle, hs⟩ := h ss r hev
  obtain ⟨h1, h2⟩ := leSVs_get hle
  have hfn : P.funcs[k]? = some (fnOf P k) := by
    unfold fnOf
    cases hk : P.funcs[k]? with
    | none => rw [hk] at hf; cases hf
    | some f => rfl
  have hbody : (fnOf P k).body = some (bodyOf P k) := by
    unfold bodyOf
    cases hk : (fnOf P k).body with
    | none => rw [hk] at hb; cases hb
    | some f => rfl
  have hemp : muOf 0 [] [] emp = emp := by funext l; simp [muOf, emp]
  have hr' : Reps w emp F vs ss' := by
    refine ⟨by rw [← h1]; exact hr.1, fun i hi => ?_⟩
    have := leSV_sound (next := 0) (hp := []) (n0 := 0) (ρ := []) (nils := []) rfl (hr.2 i (by omega)) (h2 i (by omega))
    rwa [hemp] at this
  have hs := Tree.sat_bind hs.ok
  have hl : LH w emp F [] := ⟨Ext.refl _ _, fun b hb => hb, fun b hb => ⟨hF b hb, .inl hb⟩, fun l blk hg => by simp [hget_def] at hg, fun l l' blk blk' b o b' o' _ hg => by simp [hget_def] at hg⟩
  refine (fn_sound (st0 := ⟨[], [], 0, hint⟩) hC hD hfn hbody hs hl hgl (fun l _ => rfl) hr').mono ?_
  rintro e w' ⟨v, s, st', μ', F', rfl, hR, hh, hrep, -, -⟩
  refine ⟨v, rfl, ?_⟩
  simp only at hR
  split at hR
  · rename_i a ps ls hfz
    obtain ⟨hps, hR⟩ := needT_sat hR
    simp only [Tree.sat] at hR
    have hl' := hs_seq1 hh
    have hv := froz_sound (P := P) (G := fun b => F' b ∨ Opens st'.hp μ' ls b) hl' hrep hfz hps (fun b hb => .inl hb) (fun b hb => .inr hb)
    have hv2 := leSV_sound (next := 0) (hp := []) (n0 := 0) (ρ := []) (nils := []) rfl hv hR
    rw [hemp] at hv2
    refine ⟨emp, _, ⟨hh.ext, fun b hb => .inl (hh.sub b hb), ?_, fun l blk hg => by simp [hget_def] at hg, fun l l' blk blk' b o b' o' _ hg => by simp [hget_def] at hg⟩, hv2, fun l q h => by simp [emp] at h, fun l hl => (hl trivial).elim⟩
    rintro b (hb | ⟨l, _, blk, o, hg, hm⟩)
    · exact hh.fin b hb
    · obtain ⟨hat, _⟩ := hl'.blkAt hg hm
      obtain ⟨q, e1, e2, e3⟩ := hh.blk l blk hg
      rw [hm, Option.some.injEq] at e1; subst e1
      exact ⟨hat.lt, .inr e2.2⟩
  · exact hR.elim
def fnOT (P : Program) (C : Ctx) (dr : Dr) (n : Nat) (fn : Func) (body : Code) (args : List SV) (h : Hint) : Tree (Nat × Nat × (Nat → Nat → DV)) :=
  (bodyT P C dr n fn body ⟨startTm fn args, [], 0, h⟩).bind fun r => match r.1 with
    | .row l base off len esz => match absSrc r.2.hp (.row l base off len esz) esz with
      | some (m, cell, p) => .need p (.ret (m, esz, cell))
      | none => .fail
    | _ => .fail
theorem ownOK_leS {P : Program} {C : Ctx} {dr : Dr} (hC : CtxOK P C) (hD : DrOK P C dr) {k : FuncId} {c : Octr} (hf : (P.funcs[k]?).isSome = true) (hb : (fnOf P k).body.isSome = true)
    (h : ∀ ss n esz cell, (c ss).ev (n, esz, cell) → ∃ ss' fu hint, leSVs 0 [] [] ss ss' ∧ Sat P (fnOT P C dr fu (fnOf P k) (bodyOf P k) ss' hint) fun r => r.1 = n ∧ r.2.1 = esz ∧ ∀ i j, i < n → j < esz → r.2.2 i j = cell i j) : OwnOK P k c := by
  intro ss vs w F n esz cell hF hgl hr hev
  obtain ⟨ss', fu, hint, hle, hs⟩ := h ss n esz cell hev
  obtain ⟨h1, h2⟩ := leSVs_get hle
  have hfn : P.funcs[k]? = some (fnOf P k) := by
    unfold fnOf
    cases hk : P.funcs[k]? with
    | none => rw [hk] at hf; cases hf
    | some f => rfl
  have hbody : (fnOf P k).body = some (bodyOf P k) := by
    unfold bodyOf
    cases hk : (fnOf P k).body with
    | none => rw [hk] at hb; cases hb
    | some f => rfl
  have hr' : Reps w emp F vs ss' := by
    refine ⟨hr.1.trans h1, fun i hi => ?_⟩
    have hv := leSV_sound (next := 0) (hp := []) (n0 := 0) (ρ := []) (nils := []) rfl (hr.2 i (by omega)) (h2 i (by omega))
    have hemp : muOf 0 [] [] emp = emp := by funext l; simp [muOf, emp]
    rwa [hemp] at hv
  have hs := Tree.sat_bind hs.ok
  have hl : LH w emp F [] := ⟨Ext.refl _ _, fun b hb => hb, fun b hb => ⟨hF b hb, .inl hb⟩, fun l blk hg => by simp [hget_def] at hg, fun l l' blk blk' b o b' o' _ hg => by simp [hget_def] at hg⟩
  refine (fn_sound (st0 := ⟨[], [], 0, hint⟩) hC hD hfn hbody hs hl hgl (fun l _ => rfl) hr').mono ?_
  rintro e w' ⟨v, s, st', μ', F', rfl, hR, hh, hrep, -, -⟩
  refine ⟨v, rfl, ?_⟩
  simp only at hR
  split at hR
  · rename_i l base off len es
    split at hR
    · rename_i m cl p hsrc
      obtain ⟨hp0, hR⟩ := hR
      simp only [Tree.sat] at hR
      obtain ⟨rfl, rfl, hcl⟩ := hR
      obtain ⟨rfl, blk, hg, hni⟩ := absSrc_row hsrc
      have hl' := hs_seq1 hh
      obtain ⟨news, n1, n2, n3, n4⟩ := absSrc_sound (P := P) hl' hrep hsrc hp0
      have hrun := (n2 w' fun _ => rfl).2
      have hnil : ∀ (hz : m = 0) (u : Value), Rep w' (upd emp 0 .nil) F' u (.row 0 0 0 m es) → Out w emp F [] (fun l => l = 0) [some (.row m es cell)] u (.row 0 0 0 m es) w' := by
        intro hz u hu
        refine ⟨upd emp 0 .nil, F', ⟨hh.ext, hh.sub, hh.fin, ?_, ?_⟩, hu, fun l q hq => by simp [emp] at hq, fun l hl' => by unfold upd; rw [if_neg hl']⟩
        · intro l blk hg
          cases l with
          | zero =>
            simp [hget_def] at hg; subst hg
            exact ⟨.nil, by simp [upd], trivial, hz⟩
          | succ l => simp [hget_def] at hg
        · intro l l' blk blk' b o b' o' hne hg hg'
          cases l <;> cases l' <;> simp [hget_def] at hg hg'
          exact (hne rfl).elim
      cases hrep with
      | rnil => exact hnil rfl _ (.rnil _ _ _ _ (by simp [upd]))
      | rz _ _ _ _ b o => exact hnil rfl _ (.rz _ _ _ _ _ _ .nil (by simp [upd]))
      | row _ _ _ _ _ b o cap hm hc hz =>
        obtain ⟨q, q1, q2, q3⟩ := hh.blk l blk hg
        rw [hm] at q1; simp only [Option.some.injEq] at q1; subst q1
        have hobj : ∃ c e, w'.heap[b]? = some (.cells c e (0, 0)) := by
          cases blk with
          | cells cs => obtain ⟨c, e, hh', _⟩ := q3; exact ⟨c, e, hh'⟩
          | row _ _ _ => obtain ⟨c, e, hh', _⟩ := q3; exact ⟨c, e, hh'⟩
          | iter s q => exact (hni s q rfl).elim
        obtain ⟨c, e, hh'⟩ := hobj
        have hsz : o + base + (off + cap) * es ≤ c.size := by unfold bsz at hz; rw [hh'] at hz; exact hz
        have hle' : o + base + off * es + m * es ≤ c.size := by
          have : m * es ≤ cap * es := Nat.mul_le_mul_right _ hc
          rw [Nat.add_mul] at hsz; omega
        have hdet := firstCells_det hh' hle' hrun
        have hidx : ∀ i j, i < m → j < es → i * es + j < m * es := by
          intro i j hi hj
          have : (i + 1) * es ≤ m * es := Nat.mul_le_mul_right _ hi
          rw [Nat.add_mul] at this; omega
        refine ⟨upd emp 0 (.pl b (o + base + off * es)), F', ⟨hh.ext, hh.sub, hh.fin, ?_, ?_⟩, ?_, fun l q hq => by simp [emp] at hq, fun l hl' => by unfold upd; rw [if_neg hl']⟩
        · intro l blk' hg'
          cases l with
          | zero =>
            simp [hget_def] at hg'; subst hg'
            refine ⟨.pl b (o + base + off * es), by simp [upd], q2, c, e, hh', hle', fun i j hi hj => ?_, fun i j hi hj => ?_⟩
            · rw [← hdet _ (hidx i j hi hj), ← hcl i j hi hj]
              exact n3 i j hi hj
            · rw [← hdet _ (hidx i j hi hj)]
              refine n4 _ ?_
              have := hidx i j hi hj
              rw [← n1] at this
              exact getD_mem this
          | succ l => simp [hget_def] at hg'
        · intro l l' blk blk' b o b' o' hne hg hg'
          cases l <;> cases l' <;> simp [hget_def] at hg hg'
          exact (hne rfl).elim
        · have := Rep.row (w := w') (μ := upd emp 0 (.pl b (o + base + off * es))) (F := F') 0 0 0 m es b (o + base + off * es) cap (by simp [upd]) hc (by rw [Nat.add_mul] at hz; simp; omega)
          simpa using this
    · exact hR.elim
  · exact hR.elim
end
end Go.Sx
namespace Go.Sx
noncomputable section
variable [Globs]
abbrev Gh := Nat → Option (Array Value × TypeId)
def noGh : Gh := fun _ => none
def GhOK (p : Par) (μ : Mu) (F : Nat → Prop) (hp : Heap) (w : World) (B : Gh) : Prop :=
  ∀ b c, B b = some c → w.heap[b]? = some (.cells c.1 c.2 (0, 0)) ∧ ¬ F b ∧ ¬ Tk hp μ b ∧ (p.w0.heap.size ≤ b ∨ p.T b)
def SimG (p : Par) (μ0 : Mu) (st : AS) (B : Gh) (a : Act) (w : World) : Prop :=
  ∃ μ F, HS p μ F st.hp w ∧ Fresh st.next μ ∧ (∀ l q, μ0 l = some q → μ l = some q) ∧ TmOK w μ F st.tm a.tmps ∧ st.tm.length ≤ a.tmps.size ∧ Marks p F w a.defers ∧ GhOK p μ F st.hp w B
theorem SimG.sim {p : Par} {μ0 : Mu} {st : AS} {B : Gh} {a : Act} {w : World} (h : SimG p μ0 st B a w) : Sim p μ0 st a w := by
  obtain ⟨μ, F, h1, h2, h3, h4, h5, h6, _⟩ := h
  exact ⟨μ, F, h1, h2, h3, h4, h5, h6⟩
theorem simG_open {p : Par} {μ0 : Mu} {st : AS} {B : Gh} {a : Act} {w : World} (h : SimG p μ0 st B a w) : ∃ p', Sim p' μ0 st a w ∧ ∀ s a' w', Sim p' μ0 s a' w' → SimG p μ0 s B a' w' := by
  obtain ⟨μ, F, hh, hf, h0, ht, hsz, ⟨hgl, Ds, d1, d2, d3⟩, hB⟩ := h
  have hsize := hh.ext.size
  have touch : ∀ b, (Tk st.hp μ b ∨ b ∈ Ds) → p.T b ∨ p.w0.heap.size ≤ b := fun b hb => hb.elim (tk_par hh) fun hb => (d3 b hb).1.symm
  refine ⟨⟨w, fun b => Tk st.hp μ b ∨ b ∈ Ds, F⟩, ⟨μ, F, ⟨Ext.refl _ _, fun b hb => hb, fun b hb => ⟨(hh.fin b hb).1, .inl hb⟩, fun l blk hg => ?_, hh.inj⟩, hf, h0, ht, hsz, hgl, Ds, d1, d2, fun D hD => ⟨.inr (.inr hD), (d3 D hD).2⟩⟩, ?_⟩
  · obtain ⟨q, h1, h2, h3⟩ := hh.blk l blk hg
    refine ⟨q, h1, ?_, h3⟩
    cases q with
    | nil => trivial
    | pl b o => exact ⟨h2.1, .inl (.inl ⟨l, blk, o, hg, h1⟩)⟩
  · rintro s a' w' ⟨μ', F', k, kf, k0, kt, ksz, ⟨kgl, Es, e1, e2, e3⟩⟩
    have plc : ∀ b, ((Tk st.hp μ b ∨ b ∈ Ds) ∨ w.heap.size ≤ b) → p.T b ∨ p.w0.heap.size ≤ b := fun b hb => hb.elim (touch b) fun hb => .inr (by omega)
    refine ⟨μ', F', ⟨hh.ext.trans (k.ext.mono fun b hb => ⟨by have := hb.1; simp only; omega, fun ht => ?_⟩), fun b hb => k.sub b (hh.sub b hb), fun b hb => ⟨(k.fin b hb).1, ?_⟩, fun l blk hg => ?_, k.inj⟩, kf, k0, kt, ksz, ⟨kgl, Es, e1, e2, fun D hD => ⟨?_, (e3 D hD).2⟩⟩, fun b c hb => ?_⟩
    · rcases touch b ht with h1 | h1
      · exact hb.2 h1
      · have := hb.1; omega
    · rcases (k.fin b hb).2 with h1 | h1 | h1
      · exact (hh.fin b h1).2
      · exact .inr (touch b h1)
      · simp only at h1; exact .inr (.inr (by omega))
    · obtain ⟨q, h1, h2, h3⟩ := k.blk l blk hg
      refine ⟨q, h1, ?_, h3⟩
      cases q with
      | nil => trivial
      | pl b o => exact ⟨h2.1, plc b h2.2⟩
    · rcases (e3 D hD).1 with h1 | h1
      · exact (plc D (.inr h1)).symm
      · exact (plc D (.inl h1)).symm
    · obtain ⟨g1, g2, g3, g4⟩ := hB b c hb
      have hlt : b < w.heap.size := (Array.getElem?_eq_some_iff.1 g1).1
      have hnT : ¬ (Tk st.hp μ b ∨ b ∈ Ds) := by
        rintro (h | h)
        · exact g3 h
        · have := (d3 b h).2.1
          rw [g1] at this; cases this
      refine ⟨(k.ext.keep b ⟨hlt, hnT⟩).trans g1, fun hf => ?_, ?_, g4⟩
      · rcases (k.fin b hf).2 with h1 | h1 | h1
        · exact g2 h1
        · exact hnT h1
        · simp only at h1; omega
      · rintro ⟨l, blk, o, hg, hm⟩
        obtain ⟨q, h1, h2, h3⟩ := k.blk l blk hg
        rw [hm, Option.some.injEq] at h1; subst h1
        rcases h2.2 with h4 | h4
        · exact hnT h4
        · simp only at h4; omega
def concG (p : Par) (μ0 : Mu) (Q : Ex → AS → Gh → Prop) : Exit → Act → World → Prop
  | .normal, a, w => ∃ st B, Q .normal st B ∧ SimG p μ0 st B a w
  | .exit id, a, w => ∃ st B, Q (.exit id) st B ∧ SimG p μ0 st B a w
  | .ret, a, w => ∃ st B, Q .ret st B ∧ SimG p μ0 st B a w
  | _, _, _ => False
def TripleG (P : Program) (c : Code) (st : AS) (B : Gh) (Q : Ex → AS → Gh → Prop) : Prop := ∀ p μ0 a w, SimG p μ0 st B a w → WP P c (concG p μ0 Q) a w
theorem concG_mono {p : Par} {μ0 : Mu} {Q R : Ex → AS → Gh → Prop} (h : ∀ e s B, Q e s B → R e s B) : ∀ e a w, concG p μ0 Q e a w → concG p μ0 R e a w := by
  intro e a w hc
  cases e <;> first | exact hc.elim | (obtain ⟨s, B, h1, h2⟩ := hc; exact ⟨s, B, h _ _ _ h1, h2⟩)
theorem TripleG.mono {P : Program} {c : Code} {st : AS} {B : Gh} {Q R : Ex → AS → Gh → Prop} (h : TripleG P c st B Q) (hq : ∀ e s B, Q e s B → R e s B) : TripleG P c st B R :=
  fun p μ0 a w hs => WP.mono (concG_mono hq) (h p μ0 a w hs)
theorem Triple.lift {P : Program} {c : Code} {st : AS} {B : Gh} {Q : Ex → AS → Prop} (h : Triple P c st Q) : TripleG P c st B fun e s B' => Q e s ∧ B' = B := by
  intro p μ0 a w hs
  obtain ⟨p', h1, h2⟩ := simG_open hs
  refine WP.mono ?_ (h p' μ0 a w h1)
  intro e a' w' hc
  cases e <;> first | exact hc.elim | (obtain ⟨s, k1, k2⟩ := hc; exact ⟨s, B, ⟨k1, rfl⟩, h2 _ _ _ k2⟩)
def Tree.satG {α : Type} (P : Program) : Tree α → Gh → (α → Gh → Prop) → Prop
  | .ret a, B, Q => Q a B
  | .ite b t e, B, Q => (b = true → t.satG P B Q) ∧ (b = false → e.satG P B Q)
  | .need p t, B, Q => p ∧ t.satG P B Q
  | .fail, _, _ => False
  | .code c st k, B, Q => ∃ post : Ex → AS → Gh → Prop, TripleG P c st B post ∧ ∀ e s B', post e s B' → (k e s).satG P B' Q
theorem Tree.satG_mono {α : Type} {P : Program} {Q R : α → Gh → Prop} (h : ∀ a B, Q a B → R a B) : ∀ {t : Tree α} {B : Gh}, t.satG P B Q → t.satG P B R
  | .ret a, B, x => h a B x
  | .ite b t e, B, x => ⟨fun hb => Tree.satG_mono h (x.1 hb), fun hb => Tree.satG_mono h (x.2 hb)⟩
  | .need p t, B, x => ⟨x.1, Tree.satG_mono h x.2⟩
  | .fail, B, x => x
  | .code c st k, B, ⟨post, h1, h2⟩ => ⟨post, h1, fun e s B' hp => Tree.satG_mono h (h2 e s B' hp)⟩
theorem Tree.satG_bind {α β : Type} {P : Program} {f : α → Tree β} {Q : β → Gh → Prop} : ∀ {t : Tree α} {B : Gh}, (t.bind f).satG P B Q → t.satG P B fun a B' => (f a).satG P B' Q
  | .ret a, B, x => x
  | .ite b t e, B, x => ⟨fun hb => Tree.satG_bind (x.1 hb), fun hb => Tree.satG_bind (x.2 hb)⟩
  | .need p t, B, x => ⟨x.1, Tree.satG_bind x.2⟩
  | .fail, B, x => x
  | .code c st k, B, ⟨post, h1, h2⟩ => ⟨post, h1, fun e s B' hp => Tree.satG_bind (h2 e s B' hp)⟩
def clean {α : Type} : Tree α → Tree α
  | .ret a => .ret a
  | .ite b t e => .ite b (clean t) (clean e)
  | .need p t => .need p (clean t)
  | _ => .fail
theorem clean_satG {α : Type} {P : Program} {B : Gh} {Q : α → Gh → Prop} : ∀ {t : Tree α}, (clean t).satG P B Q → t.sat P fun a => Q a B
  | .ret a, x => x
  | .ite b t e, x => ⟨fun hb => clean_satG (x.1 hb), fun hb => clean_satG (x.2 hb)⟩
  | .need p t, x => ⟨x.1, clean_satG x.2⟩
  | .fail, x => x.elim
  | .code c st k, x => x.elim
structure SatG {α : Type} (P : Program) (t : Tree α) (B : Gh) (Q : α → Gh → Prop) : Prop where
  ok : t.satG P B Q
def inlNo : FuncId → List SV → AS → Tree (SV × AS) := fun _ _ _ => .fail
theorem inlNo_ok (P : Program) (C : Ctx) : InlOK P C inlNo := fun k args st R _ h => h.elim
def execG (P : Program) (C : Ctx) (stop : Nat → Bool) : Nat → Code → AS → Tree (Ex × AS)
  | 0, _, _ => .fail
  | n + 1, c, st =>
    match c with
    | .skip => .ret (.normal, st)
    | .label _ => .ret (.normal, st)
    | .ret => .ret (.ret, st)
    | .exit id => .ret (.exit id, st)
    | .region id ops d => match stop id with
      | true => .code (.region id ops d) st fun e s => .ret (e, s)
      | false => match d with
        | false => untagF st.tm fun tm => (clean (runOps P C inlNo ops ops.toList { st with tm := tm })).bind fun s => .ret (.normal, s)
        | true => untagF st.tm fun tm => (clean (drawn P C ops { st with tm := tm })).bind fun s => .ret (.normal, s)
    | .seq x y => (execG P C stop n x st).bind fun r => match r.1 with
      | .normal => execG P C stop n y r.2
      | e => .ret (e, r.2)
    | .cond x y z => match rhoC st.tm x with
      | some (.d (.x (.bool b))) => branchB st.hint b (fun h => execG P C stop n y { st with hint := h }) (fun h => execG P C stop n z { st with hint := h })
      | _ => .fail
    | .block id x => (execG P C stop n x st).bind fun r => match r.1 with
      | .exit id' => if id' = id then .ret (.normal, r.2) else .ret (.exit id', r.2)
      | e => .ret (e, r.2)
    | .scope x => execG P C stop n x st
    | c => .code c st fun e s => .ret (e, s)
theorem branchB_satG {α : Type} {P : Program} {h : Hint} {b : Bool} {kt kf : Hint → Tree α} {B : Gh} {Q : α → Gh → Prop} (hs : (branchB h b kt kf).satG P B Q) : ∃ h', (b = true ∧ (kt h').satG P B Q) ∨ (b = false ∧ (kf h').satG P B Q) := by
  unfold branchB at hs
  split at hs
  · rename_i h'; exact ⟨h', .inl hs⟩
  · rename_i h'; exact ⟨h', .inr hs⟩
  · rename_i l r
    cases b
    · exact ⟨r, .inr ⟨rfl, hs.2 rfl⟩⟩
    · exact ⟨l, .inl ⟨rfl, hs.1 rfl⟩⟩
  · cases b
    · exact ⟨.run, .inr ⟨rfl, hs⟩⟩
    · exact ⟨.run, .inl ⟨rfl, hs⟩⟩
  · cases b
    · exact ⟨_, .inr ⟨rfl, hs.2 rfl⟩⟩
    · exact ⟨_, .inl ⟨rfl, hs.1 rfl⟩⟩
theorem execG_sound {P : Program} {C : Ctx} {stop : Nat → Bool} (hC : CtxOK P C) (hD : DrOK P C fun _ => drawn P C) :
    ∀ (n : Nat) (c : Code) (st : AS) (B : Gh) (Q : Ex × AS → Gh → Prop), (execG P C stop n c st).satG P B Q → TripleG P c st B fun e s B' => Q (e, s) B'
  | 0, c, st, B, Q, h => h.elim
  | n + 1, c, st, B, Q, h => by
    have ih := execG_sound hC hD (stop := stop) n
    unfold execG at h
    split at h
    · exact fun p μ0 a w hs => WP_skip ⟨_, _, h, hs⟩
    · exact fun p μ0 a w hs => WP_label ⟨_, _, h, hs⟩
    · exact fun p μ0 a w hs => WP_ret ⟨_, _, h, hs⟩
    · exact fun p μ0 a w hs => WP_exit ⟨_, _, h, hs⟩
    · rename_i id ops d
      split at h
      · obtain ⟨post, h1, h2⟩ := h
        exact h1.mono h2
      · split at h
        · rw [untagF_eq] at h
          have h := clean_satG (Tree.satG_bind h)
          have key : Triple P (.region id ops false) st (postR fun s => Q (.normal, s) B) := by
            intro p μ0 a w hs
            exact fun r _ => wpIn_region_list (runOps_sound hC (inlNo_ok P C) ops.toList _ a w hs.untag h)
          refine key.lift.mono ?_
          rintro e s B' ⟨⟨rfl, hq⟩, rfl⟩; exact hq
        · rw [untagF_eq] at h
          have h := clean_satG (Tree.satG_bind h)
          have key : Triple P (.region id ops true) st (postR fun s => Q (.normal, s) B) := by
            intro p μ0 a w hs
            exact hD inlNo (inlNo_ok P C) id ops _ _ h p μ0 a w hs.untag
          refine key.lift.mono ?_
          rintro e s B' ⟨⟨rfl, hq⟩, rfl⟩; exact hq
    · rename_i x y
      intro p μ0 a w hs
      refine WP_seq (WP.mono ?_ (ih x st B _ (Tree.satG_bind h) p μ0 a w hs))
      intro e a' w' hc
      cases e with
      | normal =>
        obtain ⟨s, B', h1, h2⟩ := hc
        exact ih y s B' _ h1 p μ0 a' w' h2
      | exit id => obtain ⟨s, B', h1, h2⟩ := hc; exact ⟨s, B', h1, h2⟩
      | ret => obtain ⟨s, B', h1, h2⟩ := hc; exact ⟨s, B', h1, h2⟩
      | _ => exact hc.elim
    · rename_i x y z
      split at h
      · rename_i b hb
        intro p μ0 a w hs
        have hs0 := hs
        obtain ⟨μ, F, hh, hf, h0, ht, hsz, hd, hB⟩ := hs
        have hval : a.eval x = .bool b := by
          cases x with
          | tmp t =>
            exact rep_x (tvStrict_sound (ht t) (fun g b e => by cases e) hb)
          | const v =>
            have hb' : some (ofValue v) = some (.d (.x (.bool b))) := hb
            simp only [Option.some.injEq] at hb'
            have := rep_ofValue w μ F v
            rw [hb'] at this
            exact rep_x this
          | func f => simp [rhoC, rho] at hb
          | global g => simp only [rhoC, rho] at hb; split at hb <;> cases hb
        obtain ⟨h', ⟨rfl, hq2⟩ | ⟨rfl, hq2⟩⟩ := branchB_satG h
        · exact WP_cond_true hval (ih y _ B _ hq2 p μ0 a w ⟨μ, F, hh, hf, h0, ht, hsz, hd, hB⟩)
        · exact WP_cond_false hval (ih z _ B _ hq2 p μ0 a w ⟨μ, F, hh, hf, h0, ht, hsz, hd, hB⟩)
      · exact h.elim
    · rename_i id x
      intro p μ0 a w hs
      refine WP_block (WP.mono ?_ (ih x st B _ (Tree.satG_bind h) p μ0 a w hs))
      intro e a' w' hc
      cases e with
      | normal => obtain ⟨s, B', h1, h2⟩ := hc; exact ⟨s, B', h1, h2⟩
      | exit id' =>
        obtain ⟨s, B', h1, h2⟩ := hc
        simp only [Exit.inBlock]
        simp only at h1
        split at h1
        · rename_i e; rw [if_pos e]; exact ⟨s, B', h1, h2⟩
        · rename_i e; rw [if_neg e]; exact ⟨s, B', h1, h2⟩
      | ret => obtain ⟨s, B', h1, h2⟩ := hc; exact ⟨s, B', h1, h2⟩
      | _ => exact hc.elim
    · rename_i x
      intro p μ0 a w hs
      refine WP_scope (WP.mono ?_ (ih x st B _ h p μ0 a w hs))
      intro e a' w' hc
      cases e <;> exact hc
    · obtain ⟨post, h1, h2⟩ := h
      exact h1.mono h2
theorem fresh_of {μ0 : Mu} {n : Nat} {p : Par} {st : AS} {B : Gh} {a : Act} {w : World} (h : SimG p μ0 st B a w) (hn : st.next ≤ n) : ∀ l, n ≤ l → μ0 l = none := by
  obtain ⟨μ, F, _, hf, h0, _⟩ := h
  intro l hl
  cases hm : μ0 l with
  | none => rfl
  | some q => have := h0 l q hm; rw [hf l (by omega)] at this; cases this
theorem Gc.lift {n0 : Nat} {s s' : AS} (hg : Gc n0 s s') {p : Par} {μ0 : Mu} {B : Gh} {a : Act} {w : World} (h0 : ∀ l, n0 ≤ l → μ0 l = none) (h : SimG p μ0 s B a w) : SimG p μ0 s' B a w := by
  obtain ⟨p', h1, h2⟩ := simG_open h
  exact h2 _ _ _ (hg p' μ0 a w h0 h1)
theorem TripleG.loop {P : Program} {body : Code} {st : AS} {B : Gh} {post : Ex → AS → Gh → Prop} (I : Nat → AS → Gh → Prop) (h0 : ∃ n s, I n s B ∧ Gc st.next st s)
    (hb : ∀ n s B, I n s B → TripleG P body s B fun e s' B' => match e with | .normal => ∃ m s'', m < n ∧ I m s'' B' ∧ Gc st.next s' s'' | e => ∃ s'', post e s'' B' ∧ Gc st.next s' s'') : TripleG P (.loop body) st B post := by
  intro p μ0 a w hs
  have hfr := fresh_of hs (Nat.le_refl _)
  obtain ⟨n, s, hI, hg⟩ := h0
  have hs' := hg.lift hfr hs
  clear hs hg
  have key : ∀ n s B a w, I n s B → SimG p μ0 s B a w → WP P (.loop body) (concG p μ0 post) a w := by
    intro n
    induction n using Nat.strongRecOn with
    | _ n ih =>
      intro s B a w hI hs
      refine WP_loop_unroll (fun _ _ _ h => h) (fun _ _ h => h) (WP.mono ?_ (hb n s B hI p μ0 a w hs))
      intro e a' w' hc
      cases e with
      | normal =>
        obtain ⟨s', B', ⟨m, s'', hm, hI', hg⟩, hs'⟩ := hc
        exact ih m hm s'' B' a' w' hI' (hg.lift hfr hs')
      | exit id => obtain ⟨s', B', ⟨s'', h1, hg⟩, h2⟩ := hc; exact ⟨s'', B', h1, hg.lift hfr h2⟩
      | ret => obtain ⟨s', B', ⟨s'', h1, hg⟩, h2⟩ := hc; exact ⟨s'', B', h1, hg.lift hfr h2⟩
      | _ => exact hc.elim
  exact key n s B a w hI hs'
theorem TripleG.ups {P : Program} {c : Code} {st : AS} {B : Gh} {Q : Ex → AS → Gh → Prop} {n : Nat} (hn : st.next ≤ n) (h : TripleG P c (ups st n) B Q) : TripleG P c st B Q := by
  rintro p μ0 a w ⟨μ, F, h1, h2, h3⟩
  exact h p μ0 a w ⟨μ, F, h1, fun l hl => h2 l (Nat.le_trans hn hl), h3⟩
theorem loop_satG {P : Program} {C : Ctx} {stop : Nat → Bool} (hC : CtxOK P C) (hD : DrOK P C fun _ => drawn P C) {n n0 nx : Nat} {body : Code} {st : AS} {B : Gh} {post : Ex → AS → Gh → Prop} {roots : List (Root × Nat)} {keep drop : List Nat} {h : Hint} (hn : st.next = n0)
    (I : Nat → AS → Gh → Prop) (h0 : ∃ m s, I m s B ∧ Gc n0 st s)
    (hb : ∀ m s B, I m s B → SatG P (cutT n0 roots keep drop nx h (execG P C stop n body s)) B fun r B' => match r.1 with | .normal => ∃ m' s', m' < m ∧ I m' s' B' ∧ Gc n0 r.2 s' | e => ∃ s', post e s' B' ∧ Gc n0 r.2 s') :
    TripleG P (.loop body) st B post := by
  subst hn
  refine TripleG.loop I h0 fun m s B hI => ?_
  refine (execG_sound hC hD n body s B _ (Tree.satG_bind (hb m s B hI).ok)).mono fun e s' B' hq => ?_
  split at hq
  · rename_i s2 hg
    have hg := gcA_sound hg
    simp only [Tree.satG] at hq
    cases e with
    | normal => obtain ⟨m', s3, h1, h2, h3⟩ := hq; exact ⟨m', s3, h1, h2, hg.trans h3⟩
    | _ => obtain ⟨s3, h1, h2⟩ := hq; exact ⟨s3, h1, hg.trans h2⟩
  · exact hq.elim
theorem code_satG {α : Type} {P : Program} {C : Ctx} {stop : Nat → Bool} (hC : CtxOK P C) (hD : DrOK P C fun _ => drawn P C) {n n0 nx : Nat} {c body : Code} {st : AS} {B : Gh} {k : Ex → AS → Tree α} {Q : α → Gh → Prop} {roots : List (Root × Nat)} {keep drop : List Nat} {h : Hint} (hc : c = .loop body) (hn : Nat.ble st.next n0 = true)
    (I : Nat → AS → Gh → Prop) (post : Ex → AS → Gh → Prop) (h0 : ∃ m s, I m s B ∧ Gc n0 (ups st n0) s)
    (hb : ∀ m s B, I m s B → SatG P (cutT n0 roots keep drop nx h (execG P C stop n body s)) B fun r B' => match r.1 with | .normal => ∃ m' s', m' < m ∧ I m' s' B' ∧ Gc n0 r.2 s' | e => ∃ s', post e s' B' ∧ Gc n0 r.2 s')
    (hk : ∀ e s B', post e s B' → SatG P (k e s) B' Q) : (Tree.code c st k).satG P B Q := by
  subst hc
  exact ⟨post, TripleG.ups (Nat.le_of_ble_eq_true hn) (loop_satG hC hD rfl I h0 hb), fun e s B' hp => (hk e s B' hp).ok⟩
theorem SatG.of_eq {α : Type} {P : Program} {t u : Tree α} {B : Gh} {Q : α → Gh → Prop} (e : t = u) (h : SatG P u B Q) : SatG P t B Q := e ▸ h
theorem SatG.mono {α : Type} {P : Program} {t : Tree α} {B : Gh} {Q R : α → Gh → Prop} (h : SatG P t B Q) (hq : ∀ a B, Q a B → R a B) : SatG P t B R := ⟨Tree.satG_mono hq h.ok⟩
theorem cut_satG {α : Type} {P : Program} {c : Code} {st : AS} {B : Gh} {k : Ex → AS → Tree α} {Q : α → Gh → Prop} (post : Ex → AS → Gh → Prop) (h : TripleG P c st B post) (hk : ∀ e s B', post e s B' → SatG P (k e s) B' Q) : (Tree.code c st k).satG P B Q :=
  ⟨post, h, fun e s B' hp => (hk e s B' hp).ok⟩
section
variable {P : Program} {C : Ctx} {inl : Inl} {ops : Array Oper} {p : Par} {μ0 : Mu} {Q : AS → Prop} {r : Option Nat} {Qx : Exit → Act → World → Prop}
theorem runOps_pre (hC : CtxOK P C) (hI : InlOK P C inl) {l2 : List Oper} (hQ : ∀ st a w, Q st → Sim p μ0 st a w → wpListIn (FW r) 0 P ops Qx l2 a w) : ∀ (l : List Oper) (st : AS) (a : Act) (w : World), Sim p μ0 st a w → (runOps P C inl ops l st).sat P Q → wpListIn (FW r) 0 P ops Qx (l ++ l2) a w
  | [], st, a, w, hs, hq => hQ st a w hq hs
  | o :: rest, st, a, w, hs, hq => by
    have ih : ∀ st' a' w', (runOps P C inl ops rest st').sat P Q → Sim p μ0 st' a' w' → wpListIn (FW r) 0 P ops Qx (rest ++ l2) a' w' := fun st' a' w' h1 h2 => runOps_pre hC hI hQ rest st' a' w' h2 h1
    have hs0 := hs
    obtain ⟨μ, F, hh, hf, h0, ht, hsz, hd⟩ := hs
    apply wanted_step
    unfold runOps at hq
    split at hq
    · rename_i hgs
      rw [if_pos (gstat_free ht hgs)]
      exact doFree_sound hC hI hs0 hq ih
    · rename_i hgs
      rw [if_neg (gstat_skip ht hgs)]
      exact doSkip_sound hs0 hq ih
    · rename_i g w0 b hgs
      split at hq
      · exact doSpec_sound hC hs0 hq ih
      · obtain ⟨j, e1, e2, e3⟩ := gstat_tagd hgs
        have hg := e3 b rfl
        have hval : a.tmps.getD g undef = .bool b := by have := ht g; rw [hg] at this; exact rep_x this
        have hwant := wanted_iff (tmps := a.tmps) e1 e2
        obtain ⟨h', ⟨rfl, hq2⟩ | ⟨rfl, hq2⟩⟩ := branchB_sat hq
        · have hs1 : Sim p μ0 { st with tm := st.tm.set g (.lit true), hint := h' } a w := ⟨μ, F, hh, hf, h0, ht.lit hg, by simpa using hsz, hd⟩
          cases w0 with
          | true =>
            rw [if_pos (hwant.2 hval)]
            exact doFree_sound hC hI hs1 hq2 ih
          | false =>
            rw [if_neg (fun h => by have := hwant.1 h; rw [hval] at this; cases this)]
            exact doSkip_sound hs1 hq2 ih
        · have hs1 : Sim p μ0 { st with tm := st.tm.set g (.lit false), hint := h' } a w := ⟨μ, F, hh, hf, h0, ht.lit hg, by simpa using hsz, hd⟩
          cases w0 with
          | true =>
            rw [if_neg (fun h => by have := hwant.1 h; rw [hval] at this; cases this)]
            exact doSkip_sound hs1 hq2 ih
          | false =>
            rw [if_pos (hwant.2 hval)]
            exact doFree_sound hC hI hs1 hq2 ih
    · exact doSpec_sound hC hs0 hq ih
    · exact hq.elim
end
theorem runOps_listG {P : Program} {C : Ctx} {inl : Inl} (hC : CtxOK P C) (hI : InlOK P C inl) {ops : Array Oper} {p : Par} {μ0 : Mu} {st : AS} {B : Gh} {a : Act} {w : World} {Q : AS → Prop} {l : List Oper} (hs : SimG p μ0 st B a w) (hq : (runOps P C inl ops l st).sat P Q) {r : Option Nat} {Qx : Exit → Act → World → Prop} {l2 : List Oper}
    (hk : ∀ st a w, Q st → SimG p μ0 st B a w → wpListIn (FW r) 0 P ops Qx l2 a w) : wpListIn (FW r) 0 P ops Qx (l ++ l2) a w := by
  obtain ⟨p', h1, h2⟩ := simG_open hs
  exact runOps_pre hC hI (fun st a w hq hs => hk st a w hq (h2 _ _ _ hs)) l st a w h1 hq
end
end Go.Sx
namespace Go.Sx
noncomputable section
variable [Globs]
theorem drawn_last {P : Program} {C : Ctx} (hC : CtxOK P C) (hm : P.follows .mixedOrders = true) {id : Nat} {ops : Array Oper} {pre : List Oper} {o : Oper} (hops : ops.toList = pre ++ [o]) (hlast : lastAll pre o = true) (hedge : edgesOK 0 ops.toList = true)
    {p : Par} {μ0 : Mu} {st : AS} {a : Act} {w : World} {Q : AS → Prop} {K : Exit → Act → World → Prop} (hs : Sim p μ0 st a w) (hq : (dK P C ops pre [] [] { st with tm := Sx.untag st.tm }).sat P Q)
    (hk : ∀ r s a' w', Q s → Sim p μ0 s a' w' → wpListIn (FW r) 0 P ops K [o] a' w') : WP P (.region id ops true) K a w := by
  obtain ⟨μ, F, hh, hf, h0, ht, hsz, hd⟩ := hs.untag
  have hsize : ops.size = pre.length + 1 := by
    have := congrArg List.length hops
    simpa using this
  have hpo : ∀ j x, pre[j]? = some x → ops[j]? = some x := fun j x hx => by
    have hj : j < pre.length := (List.getElem?_eq_some_iff.1 hx).1
    rw [← Array.getElem?_toList, hops, List.getElem?_append_left hj]; exact hx
  have hop : ∀ j x, j < pre.length → ops[j]? = some x → pre[j]? = some x := fun j x hj hx => by
    rw [← Array.getElem?_toList, hops, List.getElem?_append_left hj] at hx; exact hx
  have hoL : ops[pre.length]? = some o := by
    rw [← Array.getElem?_toList, hops, List.getElem?_append_right (Nat.le_refl _), Nat.sub_self]; rfl
  obtain ⟨evs, stF, h1, hall, h2⟩ := dK_sat _ _ _ _ hq
  simp only [List.length_nil, List.drop_zero] at hall
  obtain ⟨f1, f2, f3, f4⟩ := evOps_spec _ _ _ _ h1
  have f3 : stF.next = st.next + pre.length := f3
  have hbm := bms_bef (ops := ops) pre [] (fun j x h => by simpa using hpo j x h) (fun j i h => by simp at h)
  have hbl : ∀ i, i < evs.length → Bef ops i evs.length := by
    intro i hi
    have h3 := hlast
    unfold lastAll at h3
    rw [fNat_eq, List.all_eq_true] at h3
    have h4 := h3 i (List.mem_range.2 (by omega))
    rw [f1]
    exact bmOne_bef hoL hbm i h4
  have hW : Walked P C ops evs ⟨Sx.untag st.tm, st.hp⟩ st.next := by
    refine ⟨by omega, fun j x e hj he => f4 j x e (hop j x (by have := (List.getElem?_eq_some_iff.1 he).1; omega) hj) he, fun i k x e hik hx he => ?_, fun j x e hj he hb => ?_, fun t g b s htag => ?_⟩
    · have := allOK_spec hall k e he i x (by simpa using hx) (by simpa using hik)
      unfold pairOK at this
      simp only [Bool.and_eq_true, Bool.or_eq_true, Bool.not_eq_true'] at this
      exact ⟨this.1.1.imp (hbm k i) (fun h => h), this.1.2, this.2⟩
    · have := edgesOK_spec hedge j x e (by simpa using hj) he hb
      omega
    · rw [tget_untag] at htag
      split at htag
      · cases htag
      · rename_i h; exact h _ _ _ htag
  refine fun r _ => wpIn_region_any hm (any_soundL (p := p) (μ0 := μ0) hC hW (by omega) hbl (fun a' w' hI' => ?_) ops.size _ a _ (by simp) ?_ ?_ ?_)
  · obtain ⟨_, μ', F', e1, e2, e3, e4, e5, e6⟩ := hI'
    have hfe : foldE (fun i => decide (i < evs.length)) 0 evs ⟨Sx.untag st.tm, st.hp⟩ = ⟨stF.tm, stF.hp⟩ := by
      rw [f2]; exact foldE_congr _ _ _ fun j hj => by simp; omega
    rw [hfe] at e1 e4
    have hsim : Sim p μ0 stF a' w' := by
      refine ⟨μ', F', e1, fun l hl => ?_, e3, e4, ?_, e6⟩
      · cases hm' : μ' l with
        | none => rfl
        | some q =>
          obtain ⟨i, e, g1, g2, g3⟩ := e2 l (show st.next ≤ l by omega) (by rw [hm']; simp)
          have hi : i < pre.length := by rw [← f1]; exact (List.getElem?_eq_some_iff.1 g2).1
          have h9 : e.id = st.next + i := (f4 i _ e (List.getElem?_eq_getElem hi) g2).2
          omega
      · have := congrArg (fun s => s.tm.length) hfe
        simp only [length_foldE] at this
        simp only at e5
        omega
    have hl := hk r stF a' w' h2 hsim
    unfold wpListIn at hl
    unfold wpOpIn
    rw [f1, hoL]
    exact hl
  · refine Nat.le_trans List.countP_le_length ?_
    simp
  · unfold asSet
    simp [Array.getD_eq_getD_getElem?, Array.getElem?_replicate]
    split <;> rfl
  · have hS : asSet (Array.replicate ops.size false) = fun _ => false := by
      funext i; unfold asSet; simp [Array.getD_eq_getD_getElem?, Array.getElem?_replicate]
      split <;> rfl
    rw [hS]
    refine ⟨(fun k o e h => by cases h), μ, F, ?_, fun l hl hm' => (hm' (hf l hl)).elim, h0, ?_, hsz, hd.drew⟩
    · rw [foldE_false]; exact hs_drew hh
    · rw [foldE_false]; exact fun t => (ht t).mono (Ext.drew F w) (fun _ h => h) (fun _ _ h => h)
def ghSet (B : Gh) (b : Nat) (c : Array Value × TypeId) : Gh := fun k => if k = b then some c else B k
theorem simG_store {p : Par} {μ0 : Mu} {st : AS} {B : Gh} {a : Act} {w : World} (h : SimG p μ0 st B a w) {b : Nat} {c cs : Array Value} {e : TypeId} (hb : B b = some (c, e)) (hs : cs.size = c.size) : SimG p μ0 st (ghSet B b (cs, e)) a (w.setRow b cs) := by
  obtain ⟨μ, F, hh, hf, h0, ht, hsz, ⟨hgl, Ds, d1, d2, d3⟩, hB⟩ := h
  obtain ⟨g1, g2, g3, g4⟩ := hB b _ hb
  have hext := fun (G : Nat → Prop) (hG : ¬ G b) => Ext.setRow G w b c cs e _ g1 hG hs
  have hF := hext F g2
  have hlt : b < w.heap.size := (Array.getElem?_eq_some_iff.1 g1).1
  refine ⟨μ, F, ⟨hh.ext.trans (hext _ fun hx => ?_), hh.sub, fun k hk => ⟨by have := (hh.fin k hk).1; simpa using this, (hh.fin k hk).2⟩, fun l blk hg => ?_, hh.inj⟩, hf, h0, fun t => (ht t).mono hF (fun _ h => h) (fun _ _ h => h), hsz, ⟨hgl.mono hF fun _ h => h, Ds, d1, d2, fun D hD => ?_⟩, fun k x hk => ?_⟩
  · rcases g4 with h1 | h1
    · have := hx.1; omega
    · exact hx.2 h1
  · obtain ⟨q, h1, h2, h3⟩ := hh.blk l blk hg
    refine ⟨q, h1, h2, h3.mono hF (fun _ h => h) (fun _ _ h => h) fun k o hq => ?_⟩
    subst hq
    exact setRow_heap_other w b k cs fun e => g3 (e ▸ ⟨l, blk, o, hg, h1⟩)
  · obtain ⟨e1, e2, e3⟩ := d3 D hD
    refine ⟨e1, ?_, e3⟩
    rw [setRow_heap_other w b D cs fun e => by subst e; rw [g1] at e2; cases e2]; exact e2
  · unfold ghSet at hk
    split at hk
    · rename_i e1; subst e1
      simp only [Option.some.injEq] at hk; subst hk
      exact ⟨setRow_heap_same w k c e _ cs g1, g2, g3, g4⟩
    · rename_i hne
      obtain ⟨k1, k2, k3, k4⟩ := hB k x hk
      exact ⟨by rw [setRow_heap_other w b k cs hne]; exact k1, k2, k3, k4⟩
theorem store_opG {P : Program} {p : Par} {μ0 : Mu} {st : AS} {B : Gh} {a : Act} {w : World} {o : Oper} {t : TypeId} {x y : Operand} {b off : Nat} {v : Value} {c : Array Value} {e : TypeId} {ops : Array Oper} {r : Option Nat} {Qx : Exit → Act → World → Prop} (hs : SimG p μ0 st B a w)
    (hop : o.op = .store t x y) (hg : o.guard = none) (hd : o.dst = none) (hx : a.eval x = .pointer (some ⟨b, off, none⟩)) (hy : a.eval y = v) (hv : v.cells = #[v]) (h1 : v.oneCell' = true) (ht : tsz P t = some 1) (hb : B b = some (c, e)) (hoff : off < c.size)
    (hK : ∀ w', SimG p μ0 st (ghSet B b (c.setIfInBounds off v, e)) a w' → Qx .normal a w') : wpListIn (FW r) 0 P ops Qx [o] a w := by
  have hw : Region.wanted o (yielded ops a.tmps) = true := by unfold Region.wanted; rw [hg]
  have hcell := (hs : SimG p μ0 st B a w)
  obtain ⟨μ, F, hh, hf, h0, htm, hsz, hdm, hB⟩ := hcell
  obtain ⟨g1, g2, g3, g4⟩ := hB b _ hb
  have hrun : (Instr.storeAt t (.pointer (some ⟨b, off, none⟩)) v).run P w = .ok () (w.setRow b (c.setIfInBounds off v)) := by
    have h2 := run_storeCells_at P b off e v.cells.toList 0 c w g1 (by rw [hv]; simp; omega) (by rw [hv]; simpa using h1)
    unfold Instr.storeAt storeVar
    simp only [Instr.sureAddr, Sem.run_bind, Sem.run_pure, Result.andThen, run_tsz w ht]
    rw [if_neg (by rw [hv]; simp)]
    rw [hv] at h2
    have e1 : (c.toList.take (off + 0) ++ [v] ++ c.toList.drop (off + 0 + 1)).toArray = c.setIfInBounds off v := by
      apply Array.ext'
      simp only [Nat.add_zero, Array.toList_setIfInBounds, List.append_assoc]
      rw [List.set_eq_take_append_cons_drop, if_pos (by simpa using hoff)]
      rfl
    rw [hv]
    simp only [Nat.add_zero] at h2 e1
    rw [show ([v] : List Value).length = 1 from rfl] at h2
    rw [e1] at h2
    exact h2
  apply wanted_step
  rw [if_pos hw]
  refine ⟨fun _ _ => trivial, ?_⟩
  rw [semAt_eq (fun c h => by rw [hop] at h; cases h)]
  unfold execOp
  rw [hop]
  simp only [hx, hy, Sem.run_bind, hrun, Result.andThen, Sem.run_pure]
  have this := simG_store hs hb (cs := c.setIfInBounds off v) (by simp)
  have e9 : a.put o.dst undef = a := by rw [hd]; rfl
  show Qx .normal (a.put o.dst undef) _
  rw [e9]
  exact hK _ this
end
end Go.Sx
