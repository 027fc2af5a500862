/- The symbolic executor: how a proof cuts a function at its loops. -/
import Derived.Test.YtcbjclmjkilphaaSxW
import Derived.KernelRfl
set_option linter.unusedVariables false
set_option linter.unusedSimpArgs false
namespace Go.Sx
noncomputable section

/-- The bodies of the loops of a text, in its order, the outer ahead of the inner. -/
def loopsIn : Code → List Code
  | .seq a b => loopsIn a ++ loopsIn b
  | .cond _ a b => loopsIn a ++ loopsIn b
  | .block _ a => loopsIn a
  | .loop a => a :: loopsIn a
  | _ => []

def loopN (c : Code) (n : Nat) : Code := (loopsIn c).getD n .skip

def fnOf (P : Program) (k : Nat) : Func := (P.funcs[k]?).getD default
def bodyOf (P : Program) (k : Nat) : Code := (fnOf P k).body.getD .skip

/-- What follows the first cut, and the state at it. -/
def codeK {α : Type} : Tree α → Ex → AS → Tree α
  | .code _ _ k => k
  | .need _ t => codeK t
  | _ => fun _ _ => .fail

def codeS {α : Type} : Tree α → AS
  | .code _ s _ => s
  | .need _ t => codeS t
  | _ => ⟨[], [], 0, .nil⟩

/-- A part of a tree: 0 is the way where a test holds, and the way on; 1 the other one. -/
def sub {α : Type} : List Nat → Tree α → Tree α
  | [], t => t
  | 0 :: p, t => (match t with
    | .ite _ a _ => sub p a
    | .need _ a => sub p a
    | _ => .fail)
  | _ :: p, t => (match t with
    | .ite _ _ a => sub p a
    | _ => .fail)
def codeC {α : Type} : Tree α → Code
  | .code c _ _ => c
  | _ => .skip
def fTm {β : Type} : List TV → (List TV → β) → β
  | [], k => k []
  | a :: r, k => fTV a fun a => fTm r fun r => k (a :: r)
@[simp] theorem fTm_eq {β : Type} (l : List TV) (k : List TV → β) : fTm l k = k l := by
  induction l generalizing k with
  | nil => rfl
  | cons a r ih => simp [fTm, ih]
def frcO (o : Option AS) : Option AS := match o with
  | some st => fTm st.tm fun tm => fHp st.hp fun hp => fNat st.next fun nx => some ⟨tm, hp, nx, st.hint⟩
  | none => none
theorem frcO_eq (o : Option AS) : frcO o = o := by cases o <;> simp [frcO]
def ups (st : AS) (n : Nat) : AS := { st with next := n }

/-- A contract that says less than another one. -/
theorem CtrOK.mono {P : Program} {k : FuncId} {c d : Ctr} (h : CtrOK P k c) (hd : ∀ ss r, (d ss).ev r → (c ss).ev r) : CtrOK P k d :=
  fun ss vs w F r hF hr he => h ss vs w F r hF hr (hd ss r he)

def iv (n : Int) : SV := .d (.x (.int .i64 n))
def bv (b : Bool) : SV := .d (.x (.bool b))
def u8 (n : Int) : SV := .d (.x (.int .u8 n))
def w64 (n : Int) : Int := IntKind.wrap .i64 n
abbrev xi (n : Int) : DV := .x (.int .i64 n)
/-- A slice of ints that is only read. -/
def ro64 (n : Nat) (c : Nat → Int) : SV := .d (.ro n 1 fun i _ => .x (.int .i64 (c i)))
def ro8 (n : Nat) (c : Nat → Int) : SV := .d (.ro n 1 fun i _ => .x (.int .u8 (c i)))
def row64 (n : Nat) (c : Nat → Int) : Blk := .row n 1 fun i _ => .x (.int .i64 (c i))

/-! ### A state cut down to what a loop needs, under names of its own -/

inductive Root where
  | base (l : Nat)
  | slot (t : Nat)
  | cell (r : Root) (i : Nat)

def idOf : SV → Option Nat
  | .ptr l _ => some l
  | .row l _ _ _ _ => some l
  | .pix l _ _ _ _ _ => some l
  | _ => none

def rootId (st : AS) : Root → Option Nat
  | .base l => some l
  | .slot t => match tget st.tm t with
    | .ok s => idOf s
    | _ => none
  | .cell r i => match rootId st r with
    | some l => match hget st.hp l with
      | some (.cells cs) => idOf (cs.getD i uv)
      | _ => none
    | none => none

def rhoOf (st : AS) : List (Root × Nat) → List (Nat × Nat)
  | [] => []
  | (r, n) :: rest => match rootId st r with
    | some l => fNat l fun l => (l, n) :: rhoOf st rest
    | none => rhoOf st rest

def rnF (n0 : Nat) (ρ : List (Nat × Nat)) (l : Nat) : Option Nat :=
  match ρ.find? fun e => e.1 == l with
  | some e => some e.2
  | none => if l < n0 then some l else none

def ren1 (n0 : Nat) (ρ : List (Nat × Nat)) : SV → Option SV
  | .d v => some (.d v)
  | .ptr l o => (rnF n0 ρ l).map fun l => .ptr l o
  | .pix l b n e i j => (rnF n0 ρ l).map fun l => .pix l b n e i j
  | .row l b o n e => (rnF n0 ρ l).map fun l => .row l b o n e
  | .rop n c => some (.rop n c)
  | _ => none

def renL (n0 : Nat) (ρ : List (Nat × Nat)) : List SV → Option (List SV)
  | [] => some []
  | s :: r => match ren1 n0 ρ s, renL n0 ρ r with
    | some a, some b => some (a :: b)
    | _, _ => none

def renSV (n0 : Nat) (ρ : List (Nat × Nat)) : SV → Option SV
  | .agg cs => (renL n0 ρ cs).map .agg
  | .tup cs => (renL n0 ρ cs).map .tup
  | .fn f xs ys => match renL n0 ρ xs, renL n0 ρ ys with
    | some a, some b => some (.fn f a b)
    | _, _ => none
  | s => ren1 n0 ρ s

/-- The cells of a variable: what cannot be kept is forgotten only with the whole variable. -/
def renBlk (n0 : Nat) (ρ : List (Nat × Nat)) : Option Blk → Option Blk
  | some (.cells cs) => (renL n0 ρ cs).map .cells
  | b => b

def renTV (n0 : Nat) (ρ : List (Nat × Nat)) : TV → TV
  | .ok s => match renSV n0 ρ s with
    | some s => .ok s
    | none => .unk
  | .lit b => .lit b
  | _ => .unk

def renTm (n0 : Nat) (ρ : List (Nat × Nat)) (keep : List Nat) : Nat → List TV → List TV
  | _, [] => []
  | t, a :: r => (if keep.contains t then renTV n0 ρ a else .unk) :: renTm n0 ρ keep (t + 1) r

def renHp (n0 : Nat) (ρ : List (Nat × Nat)) (drop : List Nat) : Nat → Nat → Heap → Heap
  | 0, _, _ => []
  | m + 1, l, [] => none :: renHp n0 ρ drop m (l + 1) []
  | m + 1, l, b :: r => (if (ρ.map (·.1)).contains l || drop.contains l then none else renBlk n0 ρ b) :: renHp n0 ρ drop m (l + 1) r

/-- The new names, one after the other. -/
def newHp (n0 : Nat) (ρ : List (Nat × Nat)) (hp : Heap) : Nat → Nat → Heap
  | 0, _ => []
  | m + 1, l => (match ρ.find? fun e => e.2 == l with | some e => renBlk n0 ρ (hget hp e.1) | none => none) :: newHp n0 ρ hp m (l + 1)

def gcA (n0 : Nat) (roots : List (Root × Nat)) (keep drop : List Nat) (nx : Nat) (h : Hint) (st : AS) : Option AS :=
  let ρ := rhoOf st roots
  let hp := renHp n0 ρ drop n0 0 st.hp ++ newHp n0 ρ st.hp (nx - n0) n0
  if gcChk n0 ρ [] nx hp = true then some ⟨renTm n0 ρ keep 0 st.tm, hp, nx, h⟩ else none

theorem rnF_rn {n0 nx : Nat} {ρ : List (Nat × Nat)} {hp : Heap} (hk : gcChk n0 ρ [] nx hp = true) {l l' : Nat} (h : rnF n0 ρ l = some l') : rn n0 ρ l l' := by
  unfold rnF at h
  unfold rn
  split at h
  · rename_i e he
    simp only [Option.some.injEq] at h; subst h
    have hm := List.mem_of_find?_eq_some he
    have hp := List.find?_some he
    simp only [beq_iff_eq] at hp
    simp only [gcChk, Bool.and_eq_true] at hk
    have := (List.all_eq_true.1 hk.1.1.1.2) _ hm
    simp only [Bool.and_eq_true, decide_eq_true_eq] at this
    rw [if_neg (by omega), List.contains_iff_mem]
    rw [← hp]; exact hm
  · split at h
    · rename_i hlt
      simp only [Option.some.injEq] at h; subst h
      rw [if_pos hlt]
    · cases h

theorem ren1_le {n0 nx : Nat} {ρ : List (Nat × Nat)} {hp : Heap} (hk : gcChk n0 ρ [] nx hp = true) {s s' : SV} (h : ren1 n0 ρ s = some s') : leSV n0 ρ [] s s' := by
  unfold ren1 at h
  split at h
  · simp only [Option.some.injEq] at h; subst h
    simp only [leSV]
    rename_i v
    cases v <;> simp [leD]
  · rw [Option.map_eq_some_iff] at h; obtain ⟨l', h1, rfl⟩ := h
    simp only [leSV]; exact ⟨rnF_rn hk h1, trivial⟩
  · rw [Option.map_eq_some_iff] at h; obtain ⟨l', h1, rfl⟩ := h
    simp only [leSV]; exact ⟨rnF_rn hk h1, by simp⟩
  · rw [Option.map_eq_some_iff] at h; obtain ⟨l', h1, rfl⟩ := h
    simp only [leSV]; exact ⟨rnF_rn hk h1, by simp⟩
  · simp only [Option.some.injEq] at h; subst h; simp only [leSV]
  · cases h

theorem renL_le {n0 nx : Nat} {ρ : List (Nat × Nat)} {hp : Heap} (hk : gcChk n0 ρ [] nx hp = true) : ∀ {cs ds : List SV}, renL n0 ρ cs = some ds → leSVs n0 ρ [] cs ds
  | [], ds, h => by simp only [renL, Option.some.injEq] at h; subst h; simp only [leSVs]
  | c :: cs, ds, h => by
    simp only [renL] at h
    split at h
    · rename_i a b h1 h2
      simp only [Option.some.injEq] at h; subst h
      simp only [leSVs]
      exact ⟨ren1_le hk h1, renL_le hk h2⟩
    · cases h

theorem renSV_le {n0 nx : Nat} {ρ : List (Nat × Nat)} {hp : Heap} (hk : gcChk n0 ρ [] nx hp = true) {s s' : SV} (h : renSV n0 ρ s = some s') : leSV n0 ρ [] s s' := by
  unfold renSV at h
  split at h
  · rw [Option.map_eq_some_iff] at h; obtain ⟨l', h1, rfl⟩ := h; simp only [leSV]; exact renL_le hk h1
  · rw [Option.map_eq_some_iff] at h; obtain ⟨l', h1, rfl⟩ := h; simp only [leSV]; exact renL_le hk h1
  · split at h
    · rename_i a b h1 h2
      simp only [Option.some.injEq] at h; subst h
      simp only [leSV]; exact ⟨trivial, renL_le hk h1, renL_le hk h2⟩
    · cases h
  · exact ren1_le hk h

theorem renBlk_le {n0 nx : Nat} {ρ : List (Nat × Nat)} {hp : Heap} (hk : gcChk n0 ρ [] nx hp = true) {a : Option Blk} {b : Blk} (h : renBlk n0 ρ a = some b) : ∃ c, a = some c ∧ leBlk n0 ρ [] c b := by
  unfold renBlk at h
  split at h
  · rw [Option.map_eq_some_iff] at h; obtain ⟨l', h1, rfl⟩ := h
    exact ⟨_, rfl, by simp only [leBlk]; exact renL_le hk h1⟩
  · rename_i x hx
    subst h
    refine ⟨b, rfl, ?_⟩
    cases b with
    | cells cs => exact (hx cs rfl).elim
    | row n e c => simp [leBlk]

theorem leTV_unk {n0 : Nat} {ρ : List (Nat × Nat)} {nils : List Nat} (a : TV) : leTV n0 ρ nils a .unk := by cases a <;> trivial

theorem renTm_le {n0 nx : Nat} {ρ : List (Nat × Nat)} {hp : Heap} {keep : List Nat} (hk : gcChk n0 ρ [] nx hp = true) : ∀ (t : Nat) (as : List TV), leTm n0 ρ [] as (renTm n0 ρ keep t as)
  | _, [] => by simp [renTm, leTm]
  | t, a :: r => by
    simp only [renTm, leTm]
    refine ⟨?_, renTm_le hk (t + 1) r⟩
    split
    · unfold renTV
      split
      · split
        · rename_i s' h1; exact renSV_le hk h1
        · exact leTV_unk _
      · simp [leTV]
      · exact leTV_unk _
    · exact leTV_unk _

theorem leHp_append {n0 : Nat} {ρ : List (Nat × Nat)} {nils : List Nat} {hp : Heap} : ∀ {a b : Heap} {l : Nat}, leHp n0 ρ nils hp l a → leHp n0 ρ nils hp (l + a.length) b → leHp n0 ρ nils hp l (a ++ b)
  | [], b, l, _, h => h
  | none :: a, b, l, h1, h2 => by
    simp only [List.cons_append, leHp] at h1 ⊢
    exact leHp_append h1 (by rwa [List.length_cons, show l + (a.length + 1) = l + 1 + a.length by omega] at h2)
  | some c :: a, b, l, h1, h2 => by
    simp only [List.cons_append, leHp] at h1 ⊢
    exact ⟨h1.1, leHp_append h1.2 (by rwa [List.length_cons, show l + (a.length + 1) = l + 1 + a.length by omega] at h2)⟩

theorem renHp_len {n0 : Nat} {ρ : List (Nat × Nat)} {drop : List Nat} : ∀ (m l : Nat) (hp : Heap), (renHp n0 ρ drop m l hp).length = m
  | 0, _, _ => rfl
  | m + 1, l, [] => by simp [renHp, renHp_len m]
  | m + 1, l, b :: r => by simp [renHp, renHp_len m]

theorem renHp_le {n0 nx : Nat} {ρ : List (Nat × Nat)} {drop : List Nat} {hp' hp : Heap} (hk : gcChk n0 ρ [] nx hp' = true) : ∀ (m l : Nat) (r : Heap), l + m ≤ n0 → (∀ k, hget r k = hget hp (l + k)) → leHp n0 ρ [] hp l (renHp n0 ρ drop m l r)
  | 0, l, r, _, _ => by simp [renHp, leHp]
  | m + 1, l, [], hl, hg => by
    simp only [renHp, leHp]
    refine renHp_le hk m (l + 1) [] (by omega) fun k => ?_
    have := hg (k + 1)
    rw [show l + 1 + k = l + (k + 1) by omega, ← this]; simp [hget_def]
  | m + 1, l, b :: r, hl, hg => by
    have ih : leHp n0 ρ [] hp (l + 1) (renHp n0 ρ drop m (l + 1) r) := by
      refine renHp_le hk m (l + 1) r (by omega) fun k => ?_
      have := hg (k + 1)
      rw [show l + 1 + k = l + (k + 1) by omega, ← this]; simp [hget_def]
    simp only [renHp]
    have h0 : b = hget hp l := by have := hg 0; simpa [hget_def] using this
    split
    · simp only [leHp]; exact ih
    · cases hb : renBlk n0 ρ b with
      | none => simp only [leHp]; exact ih
      | some c =>
        simp only [leHp]
        refine ⟨?_, ih⟩
        obtain ⟨c', e1, e2⟩ := renBlk_le hk hb
        have hlt : l < n0 := by omega
        simp only [List.contains_nil, srcOf, hlt, if_true, ← h0, e1]
        exact e2

theorem newHp_le {n0 nx : Nat} {ρ : List (Nat × Nat)} {hp' hp : Heap} (hk : gcChk n0 ρ [] nx hp' = true) : ∀ (m l : Nat), n0 ≤ l → leHp n0 ρ [] hp l (newHp n0 ρ hp m l)
  | 0, l, _ => by simp [newHp, leHp]
  | m + 1, l, hl => by
    have ih := newHp_le (hp := hp) hk m (l + 1) (by omega)
    simp only [newHp]
    generalize hx : (match ρ.find? fun e => e.2 == l with | some e => renBlk n0 ρ (hget hp e.1) | none => none) = x
    cases x with
    | none => simp only [leHp]; exact ih
    | some c =>
      simp only [leHp]
      refine ⟨?_, ih⟩
      split at hx
      · rename_i e he
        obtain ⟨c', e1, e2⟩ := renBlk_le hk hx
        have hlt : ¬ l < n0 := by omega
        simp only [List.contains_nil, srcOf, hlt, if_false, he, Option.map_some, e1]
        exact e2
      · cases hx

theorem gcA_sound {n0 : Nat} {roots : List (Root × Nat)} {keep drop : List Nat} {nx : Nat} {h : Hint} {s s' : AS} (he : gcA n0 roots keep drop nx h s = some s') : Gc n0 s s' := by
  unfold gcA at he
  simp only at he
  split at he
  · rename_i hk
    simp only [Option.some.injEq] at he; subst he
    refine gc_sound (rhoOf s roots) [] hk (renTm_le hk 0 s.tm) (leHp_append (renHp_le hk n0 0 s.hp (by omega) fun k => by rw [Nat.zero_add]) ?_)
    rw [renHp_len, Nat.zero_add]
    exact newHp_le hk _ _ (Nat.le_refl _)
  · cases he

/-- A contract, from a walk over arguments told in other words. -/
theorem ctrOK_le {P : Program} {C : Ctx} {dr : Dr} (hC : CtxOK P C) (hD : DrOK P C dr) {k : FuncId} {c : Ctr} (hf : (P.funcs[k]?).isSome = true) (hb : (fnOf P k).body.isSome = true)
    (h : ∀ ss r, (c ss).ev r → ∃ ss' n hint, leSVs 0 [] [] ss ss' ∧ (fnT P C dr n (fnOf P k) (bodyOf P k) ss' hint).sat P (· = r)) : CtrOK P k c := by
  intro ss vs w F r hF hr hev
  obtain ⟨ss', n, hint, hle, hs⟩ := h ss r hev
  obtain ⟨h1, h2⟩ := leSVs_get hle
  have hfn : P.funcs[k]? = some (fnOf P k) := by
    unfold fnOf
    cases hk : P.funcs[k]? with
    | none => rw [hk] at hf; cases hf
    | some f => rfl
  have hbody : (fnOf P k).body = some (bodyOf P k) := by
    unfold bodyOf
    cases hk : (fnOf P k).body with
    | none => rw [hk] at hb; cases hb
    | some f => rfl
  have hemp : muOf 0 [] [] emp = emp := by funext l; simp [muOf, emp]
  have hr' : Reps w emp F vs ss' := by
    refine ⟨by rw [← h1]; exact hr.1, fun i hi => ?_⟩
    have := leSV_sound (next := 0) (hp := []) (n0 := 0) (ρ := []) (nils := []) rfl (hr.2 i (by omega)) (h2 i (by omega))
    rwa [hemp] at this
  exact ctrOK_of (c := fun ts => .need (ts = ss') (.ret r)) hC hD hfn hbody (fun ts q hq => by
    obtain ⟨rfl, rfl⟩ := hq
    exact ⟨n, hint, hs⟩) ss' vs w F r hF hr' ⟨rfl, rfl⟩

/-- A walk whose end states are cut down. -/
def cutT (n0 : Nat) (roots : List (Root × Nat)) (keep drop : List Nat) (nx : Nat) (h : Hint) (t : Tree (Ex × AS)) : Tree (Ex × AS) :=
  t.bind fun r => match gcA n0 roots keep drop nx h r.2 with | some s => .ret (r.1, s) | none => .fail

/-- A loop, its body walked by the executor; behind each round the state is cut down. -/
theorem loop_sat {P : Program} {C : Ctx} {dr : Dr} (hC : CtxOK P C) (hD : DrOK P C dr) {n n0 nx : Nat} {body : Code} {st : AS} {post : Ex → AS → Prop} {roots : List (Root × Nat)} {keep drop : List Nat} {h : Hint} (hn : st.next = n0)
    (I : Nat → AS → Prop) (h0 : ∃ m s, I m s ∧ Gc n0 st s)
    (hb : ∀ m s, I m s → (cutT n0 roots keep drop nx h (exec P C dr n body s)).sat P fun r => match r.1 with | .normal => ∃ m' s', m' < m ∧ I m' s' ∧ Gc n0 r.2 s' | e => ∃ s', post e s' ∧ Gc n0 r.2 s') :
    Triple P (.loop body) st post := by
  subst hn
  refine Triple.loop I h0 fun m s hI => ?_
  refine (exec_sound hC hD n body s _ (Tree.sat_bind (hb m s hI))).mono fun e s' hq => ?_
  split at hq
  · rename_i s2 hg
    have hg := gcA_sound hg
    simp only [Tree.sat] at hq
    cases e with
    | normal => obtain ⟨m', s3, h1, h2, h3⟩ := hq; exact ⟨m', s3, h1, h2, hg.trans h3⟩
    | _ => obtain ⟨s3, h1, h2⟩ := hq; exact ⟨s3, h1, hg.trans h2⟩
  · exact hq.elim

/-- The state at a loop, cut down. -/
def entA {α : Type} (n0 : Nat) (roots : List (Root × Nat)) (keep drop : List Nat) (nx : Nat) (h : Hint) (t : Tree α) : Option AS := frcO (gcA n0 roots keep drop nx h (ups (codeS t) n0))
theorem entA_sound {α : Type} {n0 : Nat} {roots : List (Root × Nat)} {keep drop : List Nat} {nx : Nat} {h : Hint} {t : Tree α} {s' : AS} (he : entA n0 roots keep drop nx h t = some s') : Gc n0 (ups (codeS t) n0) s' := by
  unfold entA at he; rw [frcO_eq] at he; exact gcA_sound he

theorem Triple.ups {P : Program} {c : Code} {st : AS} {Q : Ex → AS → Prop} {n : Nat} (hn : st.next ≤ n) (h : Triple P c (ups st n) Q) : Triple P c st Q := by
  rintro p μ0 a w ⟨μ, F, h1, h2, h3⟩
  exact h p μ0 a w ⟨μ, F, h1, fun l hl => h2 l (Nat.le_trans hn hl), h3⟩

/-- A tree at a loop. -/
theorem code_sat {α : Type} {P : Program} {C : Ctx} {dr : Dr} (hC : CtxOK P C) (hD : DrOK P C dr) {n n0 nx : Nat} {c body : Code} {st : AS} {k : Ex → AS → Tree α} {Q : α → Prop} {roots : List (Root × Nat)} {keep drop : List Nat} {h : Hint} (hc : c = .loop body) (hn : Nat.ble st.next n0 = true)
    (I : Nat → AS → Prop) (post : Ex → AS → Prop) (h0 : ∃ m s, I m s ∧ Gc n0 (ups st n0) s)
    (hb : ∀ m s, I m s → (cutT n0 roots keep drop nx h (exec P C dr n body s)).sat P fun r => match r.1 with | .normal => ∃ m' s', m' < m ∧ I m' s' ∧ Gc n0 r.2 s' | e => ∃ s', post e s' ∧ Gc n0 r.2 s')
    (hk : ∀ e s, post e s → (k e s).sat P Q) : (Tree.code c st k).sat P Q := by
  subst hc
  exact ⟨post, Triple.ups (Nat.le_of_ble_eq_true hn) (loop_sat hC hD rfl I h0 hb), hk⟩

/-- What a tree comes to, kept behind a word: the elaborator looks through all others. -/
structure Sat {α : Type} (P : Program) (t : Tree α) (Q : α → Prop) : Prop where
  ok : t.sat P Q

theorem code_satS {α : Type} {P : Program} {C : Ctx} {dr : Dr} (hC : CtxOK P C) (hD : DrOK P C dr) {n n0 nx : Nat} {c body : Code} {st : AS} {k : Ex → AS → Tree α} {Q : α → Prop} {roots : List (Root × Nat)} {keep drop : List Nat} {h : Hint} (hc : c = .loop body) (hn : Nat.ble st.next n0 = true)
    (I : Nat → AS → Prop) (post : Ex → AS → Prop) (h0 : ∃ m s, I m s ∧ Gc n0 (ups st n0) s)
    (hb : ∀ m s, I m s → Sat P (cutT n0 roots keep drop nx h (exec P C dr n body s)) fun r => match r.1 with | .normal => ∃ m' s', m' < m ∧ I m' s' ∧ Gc n0 r.2 s' | e => ∃ s', post e s' ∧ Gc n0 r.2 s')
    (hk : ∀ e s, post e s → Sat P (k e s) Q) : (Tree.code c st k).sat P Q :=
  code_sat hC hD hc hn I post h0 (fun m s hI => (hb m s hI).ok) (fun e s hp => (hk e s hp).ok)

theorem ctrOK_leS {P : Program} {C : Ctx} {dr : Dr} (hC : CtxOK P C) (hD : DrOK P C dr) {k : FuncId} {c : Ctr} (hf : (P.funcs[k]?).isSome = true) (hb : (fnOf P k).body.isSome = true)
    (h : ∀ ss r, (c ss).ev r → ∃ ss' n hint, leSVs 0 [] [] ss ss' ∧ Sat P (fnT P C dr n (fnOf P k) (bodyOf P k) ss' hint) (· = r)) : CtrOK P k c :=
  ctrOK_le hC hD hf hb fun ss r hr => by
    obtain ⟨ss', n, hint, h1, h2⟩ := h ss r hr
    exact ⟨ss', n, hint, h1, h2.ok⟩

end
end Go.Sx
