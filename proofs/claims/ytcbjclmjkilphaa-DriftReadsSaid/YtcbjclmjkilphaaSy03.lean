/- Part of a proof of the given statements of this seat (SxX, SxY, SxZ): no conditions beyond those typed here. -/
import Derived.Test.YtcbjclmjkilphaaSy02
import Derived.KernelRfl
import Derived.DataReads
import Derived.ChangeSame
import Derived.Carry
import Derived.OpenShut
import Derived.WalkKit
import Derived.ProofKit
set_option linter.unusedVariables false
set_option linter.unusedSimpArgs false

/- The symbolic executor: how a proof cuts a function at its loops. -/
namespace Go.Sx
noncomputable section

/-- The bodies of the loops of a text, in its order, the outer ahead of the inner. -/
def loopsIn : Code → List Code
  | .seq a b => loopsIn a ++ loopsIn b
  | .cond _ a b => loopsIn a ++ loopsIn b
  | .block _ a => loopsIn a
  | .loop a => a :: loopsIn a
  | _ => []

def loopN (c : Code) (n : Nat) : Code := (loopsIn c).getD n .skip

def fnOf (P : Program) (k : Nat) : Func := (P.funcs[k]?).getD default
def bodyOf (P : Program) (k : Nat) : Code := (fnOf P k).body.getD .skip

/-- What follows the first cut, and the state at it. -/
def codeK {α : Type} : Tree α → Ex → AS → Tree α
  | .code _ _ k => k
  | .need _ t => codeK t
  | _ => fun _ _ => .fail

def codeS {α : Type} : Tree α → AS
  | .code _ s _ => s
  | .need _ t => codeS t
  | _ => ⟨[], [], 0, .nil⟩

/-- A part of a tree: 0 is the way where a test holds, and the way on; 1 the other one. -/
def sub {α : Type} : List Nat → Tree α → Tree α
  | [], t => t
  | 0 :: p, t => (match t with
    | .ite _ a _ => sub p a
    | .need _ a => sub p a
    | _ => .fail)
  | _ :: p, t => (match t with
    | .ite _ _ a => sub p a
    | _ => .fail)
def codeC {α : Type} : Tree α → Code
  | .code c _ _ => c
  | _ => .skip
def fTm {β : Type} : List TV → (List TV → β) → β
  | [], k => k []
  | a :: r, k => fTV a fun a => fTm r fun r => k (a :: r)
@[simp] theorem fTm_eq {β : Type} (l : List TV) (k : List TV → β) : fTm l k = k l := by
  induction l generalizing k with
  | nil => rfl
  | cons a r ih => simp [fTm, ih]
def frcO (o : Option AS) : Option AS := match o with
  | some st => fTm st.tm fun tm => fHp st.hp fun hp => fNat st.next fun nx => some ⟨tm, hp, nx, st.hint⟩
  | none => none
theorem frcO_eq (o : Option AS) : frcO o = o := by cases o <;> simp [frcO]
def ups (st : AS) (n : Nat) : AS := { st with next := n }

/-- A contract that says less than another one. -/
theorem CtrOK.mono {P : Program} {k : FuncId} {c d : Ctr} (h : CtrOK P k c) (hd : ∀ ss r, (d ss).ev r → (c ss).ev r) : CtrOK P k d :=
  fun ss vs w F r hF hr he => h ss vs w F r hF hr (hd ss r he)

def iv (n : Int) : SV := .d (.x (.int .i64 n))
def bv (b : Bool) : SV := .d (.x (.bool b))
def u8 (n : Int) : SV := .d (.x (.int .u8 n))
def w64 (n : Int) : Int := IntKind.wrap .i64 n
abbrev xi (n : Int) : DV := .x (.int .i64 n)
/-- A slice of ints that is only read. -/
def ro64 (n : Nat) (c : Nat → Int) : SV := .d (.ro n 1 fun i _ => .x (.int .i64 (c i)))
def ro8 (n : Nat) (c : Nat → Int) : SV := .d (.ro n 1 fun i _ => .x (.int .u8 (c i)))
def row64 (n : Nat) (c : Nat → Int) : Blk := .row n 1 fun i _ => .x (.int .i64 (c i))

/-! ### A state cut down to what a loop needs, under names of its own -/

inductive Root where
  | base (l : Nat)
  | slot (t : Nat)
  | cell (r : Root) (i : Nat)

def idOf : SV → Option Nat
  | .ptr l _ => some l
  | .row l _ _ _ _ => some l
  | .pix l _ _ _ _ _ => some l
  | _ => none

def rootId (st : AS) : Root → Option Nat
  | .base l => some l
  | .slot t => match tget st.tm t with
    | .ok s => idOf s
    | _ => none
  | .cell r i => match rootId st r with
    | some l => match hget st.hp l with
      | some (.cells cs) => idOf (cs.getD i uv)
      | _ => none
    | none => none

def rhoOf (st : AS) : List (Root × Nat) → List (Nat × Nat)
  | [] => []
  | (r, n) :: rest => match rootId st r with
    | some l => fNat l fun l => (l, n) :: rhoOf st rest
    | none => rhoOf st rest

def rnF (n0 : Nat) (ρ : List (Nat × Nat)) (l : Nat) : Option Nat :=
  match ρ.find? fun e => e.1 == l with
  | some e => some e.2
  | none => if l < n0 then some l else none

def ren1 (n0 : Nat) (ρ : List (Nat × Nat)) : SV → Option SV
  | .d v => some (.d v)
  | .ptr l o => (rnF n0 ρ l).map fun l => .ptr l o
  | .pix l b n e i j => (rnF n0 ρ l).map fun l => .pix l b n e i j
  | .row l b o n e => (rnF n0 ρ l).map fun l => .row l b o n e
  | .rop n c => some (.rop n c)
  | _ => none

def renL (n0 : Nat) (ρ : List (Nat × Nat)) : List SV → Option (List SV)
  | [] => some []
  | s :: r => match ren1 n0 ρ s, renL n0 ρ r with
    | some a, some b => some (a :: b)
    | _, _ => none

def renSV (n0 : Nat) (ρ : List (Nat × Nat)) : SV → Option SV
  | .agg cs => (renL n0 ρ cs).map .agg
  | .tup cs => (renL n0 ρ cs).map .tup
  | .fn f xs ys => match renL n0 ρ xs, renL n0 ρ ys with
    | some a, some b => some (.fn f a b)
    | _, _ => none
  | s => ren1 n0 ρ s

/-- The cells of a variable: what cannot be kept is forgotten only with the whole variable. -/
def renBlk (n0 : Nat) (ρ : List (Nat × Nat)) : Option Blk → Option Blk
  | some (.cells cs) => (renL n0 ρ cs).map .cells
  | b => b

def renTV (n0 : Nat) (ρ : List (Nat × Nat)) : TV → TV
  | .ok s => match renSV n0 ρ s with
    | some s => .ok s
    | none => .unk
  | .lit b => .lit b
  | _ => .unk

def renTm (n0 : Nat) (ρ : List (Nat × Nat)) (keep : List Nat) : Nat → List TV → List TV
  | _, [] => []
  | t, a :: r => (if keep.contains t then renTV n0 ρ a else .unk) :: renTm n0 ρ keep (t + 1) r

def renHp (n0 : Nat) (ρ : List (Nat × Nat)) (drop : List Nat) : Nat → Nat → Heap → Heap
  | 0, _, _ => []
  | m + 1, l, [] => none :: renHp n0 ρ drop m (l + 1) []
  | m + 1, l, b :: r => (if (ρ.map (·.1)).contains l || drop.contains l then none else renBlk n0 ρ b) :: renHp n0 ρ drop m (l + 1) r

/-- The new names, one after the other. -/
def newHp (n0 : Nat) (ρ : List (Nat × Nat)) (hp : Heap) : Nat → Nat → Heap
  | 0, _ => []
  | m + 1, l => (match ρ.find? fun e => e.2 == l with | some e => renBlk n0 ρ (hget hp e.1) | none => none) :: newHp n0 ρ hp m (l + 1)

def gcA (n0 : Nat) (roots : List (Root × Nat)) (keep drop : List Nat) (nx : Nat) (h : Hint) (st : AS) : Option AS :=
  let ρ := rhoOf st roots
  let hp := renHp n0 ρ drop n0 0 st.hp ++ newHp n0 ρ st.hp (nx - n0) n0
  if gcChk n0 ρ [] nx hp = true then some ⟨renTm n0 ρ keep 0 st.tm, hp, nx, h⟩ else none

theorem rnF_rn {n0 nx : Nat} {ρ : List (Nat × Nat)} {hp : Heap} (hk : gcChk n0 ρ [] nx hp = true) {l l' : Nat} (h : rnF n0 ρ l = some l') : rn n0 ρ l l' := by
  unfold rnF at h
  unfold rn
  split at h
  · rename_i e he
    simp only [Option.some.injEq] at h; subst h
    have hm := List.mem_of_find?_eq_some he
    have hp := List.find?_some he
    simp only [beq_iff_eq] at hp
    simp only [gcChk, Bool.and_eq_true] at hk
    have := (List.all_eq_true.1 hk.1.1.1.2) _ hm
    simp only [Bool.and_eq_true, decide_eq_true_eq] at this
    rw [if_neg (by omega), List.contains_iff_mem]
    rw [← hp]; exact hm
  · split at h
    · rename_i hlt
      simp only [Option.some.injEq] at h; subst h
      rw [if_pos hlt]
    · cases h

theorem ren1_le {n0 nx : Nat} {ρ : List (Nat × Nat)} {hp : Heap} (hk : gcChk n0 ρ [] nx hp = true) {s s' : SV} (h : ren1 n0 ρ s = some s') : leSV n0 ρ [] s s' := by
  unfold ren1 at h
  split at h
  · simp only [Option.some.injEq] at h; subst h
    simp only [leSV]
    rename_i v
    cases v <;> simp [leD]
  · rw [Option.map_eq_some_iff] at h; obtain ⟨l', h1, rfl⟩ := h
    simp only [leSV]; exact ⟨rnF_rn hk h1, trivial⟩
  · rw [Option.map_eq_some_iff] at h; obtain ⟨l', h1, rfl⟩ := h
    simp only [leSV]; exact ⟨rnF_rn hk h1, by simp⟩
  · rw [Option.map_eq_some_iff] at h; obtain ⟨l', h1, rfl⟩ := h
    simp only [leSV]; exact ⟨rnF_rn hk h1, by simp⟩
  · simp only [Option.some.injEq] at h; subst h; simp only [leSV]
    rename_i c
    exact ⟨trivial, fun j _ => by cases c j <;> simp [leD]⟩
  · cases h

theorem renL_le {n0 nx : Nat} {ρ : List (Nat × Nat)} {hp : Heap} (hk : gcChk n0 ρ [] nx hp = true) : ∀ {cs ds : List SV}, renL n0 ρ cs = some ds → leSVs n0 ρ [] cs ds
  | [], ds, h => by simp only [renL, Option.some.injEq] at h; subst h; simp only [leSVs]
  | c :: cs, ds, h => by
    simp only [renL] at h
    split at h
    · rename_i a b h1 h2
      simp only [Option.some.injEq] at h; subst h
      simp only [leSVs]
      exact ⟨ren1_le hk h1, renL_le hk h2⟩
    · cases h

theorem renSV_le {n0 nx : Nat} {ρ : List (Nat × Nat)} {hp : Heap} (hk : gcChk n0 ρ [] nx hp = true) {s s' : SV} (h : renSV n0 ρ s = some s') : leSV n0 ρ [] s s' := by
  unfold renSV at h
  split at h
  · rw [Option.map_eq_some_iff] at h; obtain ⟨l', h1, rfl⟩ := h; simp only [leSV]; exact renL_le hk h1
  · rw [Option.map_eq_some_iff] at h; obtain ⟨l', h1, rfl⟩ := h; simp only [leSV]; exact renL_le hk h1
  · split at h
    · rename_i a b h1 h2
      simp only [Option.some.injEq] at h; subst h
      simp only [leSV]; exact ⟨trivial, renL_le hk h1, renL_le hk h2⟩
    · cases h
  · exact ren1_le hk h

theorem renBlk_le {n0 nx : Nat} {ρ : List (Nat × Nat)} {hp : Heap} (hk : gcChk n0 ρ [] nx hp = true) {a : Option Blk} {b : Blk} (h : renBlk n0 ρ a = some b) : ∃ c, a = some c ∧ leBlk n0 ρ [] c b := by
  unfold renBlk at h
  split at h
  · rw [Option.map_eq_some_iff] at h; obtain ⟨l', h1, rfl⟩ := h
    exact ⟨_, rfl, by simp only [leBlk]; exact renL_le hk h1⟩
  · rename_i x hx
    subst h
    refine ⟨b, rfl, ?_⟩
    cases b with
    | cells cs => exact (hx cs rfl).elim
    | row n e c => simp [leBlk]

theorem leTV_unk {n0 : Nat} {ρ : List (Nat × Nat)} {nils : List Nat} (a : TV) : leTV n0 ρ nils a .unk := by cases a <;> trivial

theorem renTm_le {n0 nx : Nat} {ρ : List (Nat × Nat)} {hp : Heap} {keep : List Nat} (hk : gcChk n0 ρ [] nx hp = true) : ∀ (t : Nat) (as : List TV), leTm n0 ρ [] as (renTm n0 ρ keep t as)
  | _, [] => by simp [renTm, leTm]
  | t, a :: r => by
    simp only [renTm, leTm]
    refine ⟨?_, renTm_le hk (t + 1) r⟩
    split
    · unfold renTV
      split
      · split
        · rename_i s' h1; exact renSV_le hk h1
        · exact leTV_unk _
      · simp [leTV]
      · exact leTV_unk _
    · exact leTV_unk _

theorem leHp_append {n0 : Nat} {ρ : List (Nat × Nat)} {nils : List Nat} {hp : Heap} : ∀ {a b : Heap} {l : Nat}, leHp n0 ρ nils hp l a → leHp n0 ρ nils hp (l + a.length) b → leHp n0 ρ nils hp l (a ++ b)
  | [], b, l, _, h => h
  | none :: a, b, l, h1, h2 => by
    simp only [List.cons_append, leHp] at h1 ⊢
    exact leHp_append h1 (by rwa [List.length_cons, show l + (a.length + 1) = l + 1 + a.length by omega] at h2)
  | some c :: a, b, l, h1, h2 => by
    simp only [List.cons_append, leHp] at h1 ⊢
    exact ⟨h1.1, leHp_append h1.2 (by rwa [List.length_cons, show l + (a.length + 1) = l + 1 + a.length by omega] at h2)⟩

theorem renHp_len {n0 : Nat} {ρ : List (Nat × Nat)} {drop : List Nat} : ∀ (m l : Nat) (hp : Heap), (renHp n0 ρ drop m l hp).length = m
  | 0, _, _ => rfl
  | m + 1, l, [] => by simp [renHp, renHp_len m]
  | m + 1, l, b :: r => by simp [renHp, renHp_len m]

theorem renHp_le {n0 nx : Nat} {ρ : List (Nat × Nat)} {drop : List Nat} {hp' hp : Heap} (hk : gcChk n0 ρ [] nx hp' = true) : ∀ (m l : Nat) (r : Heap), l + m ≤ n0 → (∀ k, hget r k = hget hp (l + k)) → leHp n0 ρ [] hp l (renHp n0 ρ drop m l r)
  | 0, l, r, _, _ => by simp [renHp, leHp]
  | m + 1, l, [], hl, hg => by
    simp only [renHp, leHp]
    refine renHp_le hk m (l + 1) [] (by omega) fun k => ?_
    have := hg (k + 1)
    rw [show l + 1 + k = l + (k + 1) by omega, ← this]; simp [hget_def]
  | m + 1, l, b :: r, hl, hg => by
    have ih : leHp n0 ρ [] hp (l + 1) (renHp n0 ρ drop m (l + 1) r) := by
      refine renHp_le hk m (l + 1) r (by omega) fun k => ?_
      have := hg (k + 1)
      rw [show l + 1 + k = l + (k + 1) by omega, ← this]; simp [hget_def]
    simp only [renHp]
    have h0 : b = hget hp l := by have := hg 0; simpa [hget_def] using this
    split
    · simp only [leHp]; exact ih
    · cases hb : renBlk n0 ρ b with
      | none => simp only [leHp]; exact ih
      | some c =>
        simp only [leHp]
        refine ⟨?_, ih⟩
        obtain ⟨c', e1, e2⟩ := renBlk_le hk hb
        have hlt : l < n0 := by omega
        simp only [List.contains_nil, srcOf, hlt, if_true, ← h0, e1]
        exact e2

theorem newHp_le {n0 nx : Nat} {ρ : List (Nat × Nat)} {hp' hp : Heap} (hk : gcChk n0 ρ [] nx hp' = true) : ∀ (m l : Nat), n0 ≤ l → leHp n0 ρ [] hp l (newHp n0 ρ hp m l)
  | 0, l, _ => by simp [newHp, leHp]
  | m + 1, l, hl => by
    have ih := newHp_le (hp := hp) hk m (l + 1) (by omega)
    simp only [newHp]
    generalize hx : (match ρ.find? fun e => e.2 == l with | some e => renBlk n0 ρ (hget hp e.1) | none => none) = x
    cases x with
    | none => simp only [leHp]; exact ih
    | some c =>
      simp only [leHp]
      refine ⟨?_, ih⟩
      split at hx
      · rename_i e he
        obtain ⟨c', e1, e2⟩ := renBlk_le hk hx
        have hlt : ¬ l < n0 := by omega
        simp only [List.contains_nil, srcOf, hlt, if_false, he, Option.map_some, e1]
        exact e2
      · cases hx

theorem gcA_sound {n0 : Nat} {roots : List (Root × Nat)} {keep drop : List Nat} {nx : Nat} {h : Hint} {s s' : AS} (he : gcA n0 roots keep drop nx h s = some s') : Gc n0 s s' := by
  unfold gcA at he
  simp only at he
  split at he
  · rename_i hk
    simp only [Option.some.injEq] at he; subst he
    refine gc_sound (rhoOf s roots) [] hk (renTm_le hk 0 s.tm) (leHp_append (renHp_le hk n0 0 s.hp (by omega) fun k => by rw [Nat.zero_add]) ?_)
    rw [renHp_len, Nat.zero_add]
    exact newHp_le hk _ _ (Nat.le_refl _)
  · cases he

/-- A contract, from a walk over arguments told in other words. -/
theorem ctrOK_le {P : Program} {C : Ctx} {dr : Dr} (hC : CtxOK P C) (hD : DrOK P C dr) {k : FuncId} {c : Ctr} (hf : (P.funcs[k]?).isSome = true) (hb : (fnOf P k).body.isSome = true)
    (h : ∀ ss r, (c ss).ev r → ∃ ss' n hint, leSVs 0 [] [] ss ss' ∧ (fnT P C dr n (fnOf P k) (bodyOf P k) ss' hint).sat P (· = r)) : CtrOK P k c := by
  intro ss vs w F r hF hr hev
  obtain ⟨ss', n, hint, hle, hs⟩ := h ss r hev
  obtain ⟨h1, h2⟩ := leSVs_get hle
  have hfn : P.funcs[k]? = some (fnOf P k) := by
    unfold fnOf
    cases hk : P.funcs[k]? with
    | none => rw [hk] at hf; cases hf
    | some f => rfl
  have hbody : (fnOf P k).body = some (bodyOf P k) := by
    unfold bodyOf
    cases hk : (fnOf P k).body with
    | none => rw [hk] at hb; cases hb
    | some f => rfl
  have hemp : muOf 0 [] [] emp = emp := by funext l; simp [muOf, emp]
  have hr' : Reps w emp F vs ss' := by
    refine ⟨by rw [← h1]; exact hr.1, fun i hi => ?_⟩
    have := leSV_sound (next := 0) (hp := []) (n0 := 0) (ρ := []) (nils := []) rfl (hr.2 i (by omega)) (h2 i (by omega))
    rwa [hemp] at this
  exact ctrOK_of (c := fun ts => .need (ts = ss') (.ret r)) hC hD hfn hbody (fun ts q hq => by
    obtain ⟨rfl, rfl⟩ := hq
    exact ⟨n, hint, hs⟩) ss' vs w F r hF hr' ⟨rfl, rfl⟩

/-- A walk whose end states are cut down. -/
def cutT (n0 : Nat) (roots : List (Root × Nat)) (keep drop : List Nat) (nx : Nat) (h : Hint) (t : Tree (Ex × AS)) : Tree (Ex × AS) :=
  t.bind fun r => match gcA n0 roots keep drop nx h r.2 with | some s => .ret (r.1, s) | none => .fail

/-- A loop, its body walked by the executor; behind each round the state is cut down. -/
theorem loop_sat {P : Program} {C : Ctx} {dr : Dr} (hC : CtxOK P C) (hD : DrOK P C dr) {n n0 nx : Nat} {body : Code} {st : AS} {post : Ex → AS → Prop} {roots : List (Root × Nat)} {keep drop : List Nat} {h : Hint} (hn : st.next = n0)
    (I : Nat → AS → Prop) (h0 : ∃ m s, I m s ∧ Gc n0 st s)
    (hb : ∀ m s, I m s → (cutT n0 roots keep drop nx h (exec P C dr n body s)).sat P fun r => match r.1 with | .normal => ∃ m' s', m' < m ∧ I m' s' ∧ Gc n0 r.2 s' | e => ∃ s', post e s' ∧ Gc n0 r.2 s') :
    Triple P (.loop body) st post := by
  subst hn
  refine Triple.loop I h0 fun m s hI => ?_
  refine (exec_sound hC hD n body s _ (Tree.sat_bind (hb m s hI))).mono fun e s' hq => ?_
  split at hq
  · rename_i s2 hg
    have hg := gcA_sound hg
    simp only [Tree.sat] at hq
    cases e with
    | normal => obtain ⟨m', s3, h1, h2, h3⟩ := hq; exact ⟨m', s3, h1, h2, hg.trans h3⟩
    | _ => obtain ⟨s3, h1, h2⟩ := hq; exact ⟨s3, h1, hg.trans h2⟩
  · exact hq.elim

/-- The state at a loop, cut down. -/
def entA {α : Type} (n0 : Nat) (roots : List (Root × Nat)) (keep drop : List Nat) (nx : Nat) (h : Hint) (t : Tree α) : Option AS := frcO (gcA n0 roots keep drop nx h (ups (codeS t) n0))
theorem entA_sound {α : Type} {n0 : Nat} {roots : List (Root × Nat)} {keep drop : List Nat} {nx : Nat} {h : Hint} {t : Tree α} {s' : AS} (he : entA n0 roots keep drop nx h t = some s') : Gc n0 (ups (codeS t) n0) s' := by
  unfold entA at he; rw [frcO_eq] at he; exact gcA_sound he

theorem Triple.ups {P : Program} {c : Code} {st : AS} {Q : Ex → AS → Prop} {n : Nat} (hn : st.next ≤ n) (h : Triple P c (ups st n) Q) : Triple P c st Q := by
  rintro p μ0 a w ⟨μ, F, h1, h2, h3⟩
  exact h p μ0 a w ⟨μ, F, h1, fun l hl => h2 l (Nat.le_trans hn hl), h3⟩

/-- A tree at a loop. -/
theorem code_sat {α : Type} {P : Program} {C : Ctx} {dr : Dr} (hC : CtxOK P C) (hD : DrOK P C dr) {n n0 nx : Nat} {c body : Code} {st : AS} {k : Ex → AS → Tree α} {Q : α → Prop} {roots : List (Root × Nat)} {keep drop : List Nat} {h : Hint} (hc : c = .loop body) (hn : Nat.ble st.next n0 = true)
    (I : Nat → AS → Prop) (post : Ex → AS → Prop) (h0 : ∃ m s, I m s ∧ Gc n0 (ups st n0) s)
    (hb : ∀ m s, I m s → (cutT n0 roots keep drop nx h (exec P C dr n body s)).sat P fun r => match r.1 with | .normal => ∃ m' s', m' < m ∧ I m' s' ∧ Gc n0 r.2 s' | e => ∃ s', post e s' ∧ Gc n0 r.2 s')
    (hk : ∀ e s, post e s → (k e s).sat P Q) : (Tree.code c st k).sat P Q := by
  subst hc
  exact ⟨post, Triple.ups (Nat.le_of_ble_eq_true hn) (loop_sat hC hD rfl I h0 hb), hk⟩

/-- What a tree comes to, kept behind a word: the elaborator looks through all others. -/
structure Sat {α : Type} (P : Program) (t : Tree α) (Q : α → Prop) : Prop where
  ok : t.sat P Q

theorem code_satS {α : Type} {P : Program} {C : Ctx} {dr : Dr} (hC : CtxOK P C) (hD : DrOK P C dr) {n n0 nx : Nat} {c body : Code} {st : AS} {k : Ex → AS → Tree α} {Q : α → Prop} {roots : List (Root × Nat)} {keep drop : List Nat} {h : Hint} (hc : c = .loop body) (hn : Nat.ble st.next n0 = true)
    (I : Nat → AS → Prop) (post : Ex → AS → Prop) (h0 : ∃ m s, I m s ∧ Gc n0 (ups st n0) s)
    (hb : ∀ m s, I m s → Sat P (cutT n0 roots keep drop nx h (exec P C dr n body s)) fun r => match r.1 with | .normal => ∃ m' s', m' < m ∧ I m' s' ∧ Gc n0 r.2 s' | e => ∃ s', post e s' ∧ Gc n0 r.2 s')
    (hk : ∀ e s, post e s → Sat P (k e s) Q) : (Tree.code c st k).sat P Q :=
  code_sat hC hD hc hn I post h0 (fun m s hI => (hb m s hI).ok) (fun e s hp => (hk e s hp).ok)

theorem ctrOK_leS {P : Program} {C : Ctx} {dr : Dr} (hC : CtxOK P C) (hD : DrOK P C dr) {k : FuncId} {c : Ctr} (hf : (P.funcs[k]?).isSome = true) (hb : (fnOf P k).body.isSome = true)
    (h : ∀ ss r, (c ss).ev r → ∃ ss' n hint, leSVs 0 [] [] ss ss' ∧ Sat P (fnT P C dr n (fnOf P k) (bodyOf P k) ss' hint) (· = r)) : CtrOK P k c :=
  ctrOK_le hC hD hf hb fun ss r hr => by
    obtain ⟨ss', n, hint, h1, h2⟩ := h ss r hr
    exact ⟨ss', n, hint, h1, h2.ok⟩

/-- A contract, from a walk that tells arguments and results in other words. -/
theorem ctrOK_leR {P : Program} {C : Ctx} {dr : Dr} (hC : CtxOK P C) (hD : DrOK P C dr) {k : FuncId} {c : Ctr} (hf : (P.funcs[k]?).isSome = true) (hb : (fnOf P k).body.isSome = true)
    (h : ∀ ss r, (c ss).ev r → ∃ ss' n hint, leSVs 0 [] [] ss ss' ∧ Sat P (fnT P C dr n (fnOf P k) (bodyOf P k) ss' hint) fun r' => leSV 0 [] [] r' r) : CtrOK P k c := by
  intro ss vs w F r hF hr hev
  obtain ⟨ss', n, hint, hle, hs⟩ := h ss r hev
  obtain ⟨h1, h2⟩ := leSVs_get hle
  have hfn : P.funcs[k]? = some (fnOf P k) := by
    unfold fnOf
    cases hk : P.funcs[k]? with
    | none => rw [hk] at hf; cases hf
    | some f => rfl
  have hbody : (fnOf P k).body = some (bodyOf P k) := by
    unfold bodyOf
    cases hk : (fnOf P k).body with
    | none => rw [hk] at hb; cases hb
    | some f => rfl
  have hemp : muOf 0 [] [] emp = emp := by funext l; simp [muOf, emp]
  have hr' : Reps w emp F vs ss' := by
    refine ⟨by rw [← h1]; exact hr.1, fun i hi => ?_⟩
    have := leSV_sound (next := 0) (hp := []) (n0 := 0) (ρ := []) (nils := []) rfl (hr.2 i (by omega)) (h2 i (by omega))
    rwa [hemp] at this
  have hs := Tree.sat_bind hs.ok
  have hl : LH w emp F [] := ⟨Ext.refl _ _, fun b hb => hb, fun b hb => ⟨hF b hb, .inl hb⟩, fun l blk hg => by simp [hget_def] at hg, fun l l' blk blk' b o b' o' _ hg => by simp [hget_def] at hg⟩
  refine (fn_sound (st0 := ⟨[], [], 0, hint⟩) hC hD hfn hbody hs hl (fun l _ => rfl) hr').mono ?_
  rintro e w' ⟨v, s, st', μ', F', rfl, hR, hh, hrep, -, -⟩
  refine ⟨v, rfl, ?_⟩
  simp only at hR
  split at hR
  · rename_i a ps ls hfz
    obtain ⟨hps, hR⟩ := needT_sat hR
    simp only [Tree.sat] at hR
    have hl' := hs_seq1 hh
    have hv := froz_sound (P := P) (G := fun b => F' b ∨ Opens st'.hp μ' ls b) hl' hrep hfz hps (fun b hb => .inl hb) (fun b hb => .inr hb)
    have hv2 := leSV_sound (next := 0) (hp := []) (n0 := 0) (ρ := []) (nils := []) rfl hv hR
    rw [hemp] at hv2
    refine ⟨emp, _, ⟨hh.ext, fun b hb => .inl (hh.sub b hb), ?_, fun l blk hg => by simp [hget_def] at hg, fun l l' blk blk' b o b' o' _ hg => by simp [hget_def] at hg⟩, hv2, fun l q h => by simp [emp] at h, fun l hl => (hl trivial).elim⟩
    rintro b (hb | ⟨l, _, blk, o, hg, hm⟩)
    · exact hh.fin b hb
    · obtain ⟨hat, _⟩ := hl'.blkAt hg hm
      obtain ⟨q, e1, e2, e3⟩ := hh.blk l blk hg
      rw [hm, Option.some.injEq] at e1; subst e1
      exact ⟨hat.lt, .inr e2.2⟩
  · exact hR.elim

/-! ### Functions whose result is a row of their own -/

end
end Go.Sx

/- The arguments of a law, as the executor wants them. -/
namespace Go.Sx
noncomputable section

def okFs (g : TypeId → List DV → Prop) : List Field → List DV → Prop
  | [], ds => ds = []
  | f :: fs, ds => ∃ a b, ds = a ++ b ∧ g f.type a ∧ okFs g fs b

def okAs (g : List DV → Prop) : Nat → List DV → Prop
  | 0, ds => ds = []
  | m + 1, ds => ∃ a b, ds = a ++ b ∧ g a ∧ okAs g m b

/-- The cells of a value of a type. -/
def okT (P : Program) : Nat → TypeId → List DV → Prop
  | 0, _, _ => False
  | n + 1, t, ds => match P.underlying t with
    | some .bool => ∃ b, ds = [.x (.bool b)]
    | some (.int k) => ∃ i, (Lit.int k i).wf = true ∧ ds = [.x (.int k i)]
    | some .string => ∃ s, s.size ≤ maxLen ∧ ds = [.x (.string s)]
    | some (.slice e) => ∃ m cell, m ≤ maxLen ∧ ds = [.ro m (P.cellsOf e) cell] ∧ ∀ i, i < m → okT P n e ((List.range (P.cellsOf e)).map (cell i))
    | some (.struct fs) => okFs (okT P n) fs.toList ds
    | some (.array m e) => okAs (okT P n e) m ds
    | _ => False

def layFs (P : Program) (g : TypeId → Bool) : Nat → List Field → Nat → Bool
  | off, [], tot => off == tot
  | off, f :: r, tot => f.offset == off && g f.type && layFs P g (off + P.cellsOf f.type) r tot

/-- A type whose values are opened here. -/
def layB (P : Program) : Nat → TypeId → Bool
  | 0, _ => false
  | n + 1, t => match P.underlying t with
    | some .bool => P.cellsOf t == 1
    | some (.int _) => P.cellsOf t == 1
    | some .string => P.cellsOf t == 1
    | some (.slice e) => P.cellsOf t == 1 && layB P n e && decide (0 < P.cellsOf e)
    | some (.struct fs) => layFs P (layB P n) 0 fs.toList (P.cellsOf t)
    | some (.array m e) => P.cellsOf t == m * P.cellsOf e && layB P n e
    | _ => false

/-- Cells and what they stand for. -/
def RL (w : World) (F : Nat → Prop) (cs : List Value) (ds : List DV) : Prop := cs.length = ds.length ∧ ∀ i, i < cs.length → RepD w F (cs.getD i undef) (ds.getD i (.x undef)) ∧ (cs.getD i undef).oneCell' = true

theorem RL.one {w : World} {F : Nat → Prop} {v : Value} {d : DV} (h : RepD w F v d) (h1 : v.oneCell' = true) : RL w F [v] [d] :=
  ⟨rfl, fun i hi => by obtain rfl : i = 0 := by simpa using hi
                       exact ⟨h, h1⟩⟩

theorem RL.append {w : World} {F : Nat → Prop} {a b : List Value} {x y : List DV} (h : RL w F a x) (k : RL w F b y) : RL w F (a ++ b) (x ++ y) := by
  refine ⟨by simp [h.1, k.1], fun i hi => ?_⟩
  simp only [List.getD, List.getElem?_append, h.1]
  split
  · rename_i hlt; exact h.2 i (by rw [h.1]; exact hlt)
  · rename_i hge
    exact k.2 _ (by rw [List.length_append, h.1] at hi; omega)

section
variable {H : Type} {enc : TypeId × Value → H} {P : Program} {w : World} {base : Nat} {sp : Nat → Bool} {held : Bool} {F : Nat → Prop}

theorem open_fields {n k : Nat} (ih : ∀ (k : Nat) (t : TypeId) (cs : List Value) (d : DataW H) (ps : List MemPlace), layB P n t = true → DataW.trod enc P w base sp held k t cs = some (d, ps) → (∀ p ∈ ps, F p.block) → cs.length = P.cellsOf t ∧ ∃ ds, okT P n t ds ∧ RL w F cs ds) (cs : List Value) :
    ∀ (fs : List Field) (off : Nat) (xs : List (DataW H × List MemPlace)), layFs P (layB P n) off fs cs.length = true → (fs.mapM fun f => DataW.trod enc P w base sp held k f.type ((cs.drop f.offset).take (P.cellsOf f.type))) = some xs → (∀ p ∈ xs.flatMap (·.2), F p.block) →
      ∃ ds, okFs (okT P n) fs ds ∧ RL w F (cs.drop off) ds
  | [], off, xs, hl, _, _ => by
    simp only [layFs, beq_iff_eq] at hl
    subst hl
    exact ⟨[], rfl, by simp, fun i hi => by simp at hi⟩
  | f :: fs, off, xs, hl, hm, hp => by
    simp only [layFs, Bool.and_eq_true, beq_iff_eq] at hl
    obtain ⟨⟨rfl, h2⟩, h3⟩ := hl
    rw [List.mapM_cons] at hm
    simp only [Option.pure_def, Option.bind_eq_bind, Option.bind_eq_some_iff, Option.some.injEq] at hm
    obtain ⟨y, hy, ys, hys, rfl⟩ := hm
    obtain ⟨l1, d1, o1, r1⟩ := ih k f.type _ y.1 y.2 h2 hy (fun p hp' => hp p (by simp [hp']))
    obtain ⟨d2, o2, r2⟩ := open_fields ih cs fs _ ys h3 hys (fun p hp' => hp p (by simp only [List.flatMap_cons, List.mem_append]; exact .inr hp'))
    refine ⟨d1 ++ d2, ⟨d1, d2, rfl, o1, o2⟩, ?_⟩
    have := r1.append r2
    rwa [← List.drop_drop, List.take_append_drop] at this

theorem open_elems {n k : Nat} {e : TypeId} (ih : ∀ (k : Nat) (t : TypeId) (cs : List Value) (d : DataW H) (ps : List MemPlace), layB P n t = true → DataW.trod enc P w base sp held k t cs = some (d, ps) → (∀ p ∈ ps, F p.block) → cs.length = P.cellsOf t ∧ ∃ ds, okT P n t ds ∧ RL w F cs ds) (he : layB P n e = true) :
    ∀ (m : Nat) (cs : List Value), cs.length = m * P.cellsOf e → (∀ i, i < m → ∃ x, DataW.trod enc P w base sp held k e ((cs.drop (i * P.cellsOf e)).take (P.cellsOf e)) = some x ∧ ∀ p ∈ x.2, F p.block) →
      ∃ ds, okAs (okT P n e) m ds ∧ RL w F cs ds
  | 0, cs, hl, _ => by
    rw [Nat.zero_mul] at hl
    obtain rfl := List.length_eq_zero_iff.1 hl
    exact ⟨[], rfl, rfl, fun i hi => by simp at hi⟩
  | m + 1, cs, hl, hm => by
    obtain ⟨x, hx, hp⟩ := hm 0 (by omega)
    rw [Nat.zero_mul, List.drop_zero] at hx
    obtain ⟨l1, d1, o1, r1⟩ := ih k e _ x.1 x.2 he hx hp
    obtain ⟨d2, o2, r2⟩ := open_elems (e := e) ih he m (cs.drop (P.cellsOf e)) (by rw [List.length_drop, hl, Nat.add_mul]; omega) (fun i hi => by
      obtain ⟨y, hy, hq⟩ := hm (i + 1) (by omega)
      refine ⟨y, ?_, hq⟩
      rw [List.drop_drop, show P.cellsOf e + i * P.cellsOf e = (i + 1) * P.cellsOf e by rw [Nat.add_mul]; omega]
      exact hy)
    refine ⟨d1 ++ d2, ⟨d1, d2, rfl, o1, o2⟩, ?_⟩
    have := r1.append r2
    rwa [List.take_append_drop] at this

theorem cells_get {a : Addr} {m : Nat} {c : List Value} (h : w.cells? base a m = some c) : c.length = m ∧ ∀ j, j < m → w.cell? (a.add j) = some (c.getD j undef) := by
  unfold World.cells? at h
  split at h
  · have h1 := mapM_some_length h
    rw [List.length_range] at h1
    refine ⟨h1, fun j hj => ?_⟩
    have := mapM_some_get h j j (by simp [hj])
    rw [this]
    simp [List.getD, List.getElem?_eq_getElem (show j < c.length by omega)]
  · cases h

theorem open_trod : ∀ (n k : Nat) (t : TypeId) (cs : List Value) (d : DataW H) (ps : List MemPlace), layB P n t = true → DataW.trod enc P w base sp held k t cs = some (d, ps) → (∀ p ∈ ps, F p.block) →
    cs.length = P.cellsOf t ∧ ∃ ds, okT P n t ds ∧ RL w F cs ds
  | 0, _, _, _, _, _, hl, _, _ => by cases hl
  | _ + 1, 0, _, _, _, _, _, ht, _ => by cases ht
  | n + 1, k + 1, t, cs, d, ps, hl, ht, hp => by
    have ih := open_trod n
    unfold layB at hl
    unfold DataW.trod at ht
    unfold okT
    split at hl
    · rename_i hu
      simp only [beq_iff_eq] at hl
      simp only [hu] at ht ⊢
      split at ht
      all_goals try (rename_i hh; cases hh; done)
      all_goals try (cases ht; done)
      · exact ⟨by rw [hl]; rfl, _, ⟨_, rfl⟩, RL.one (.x _) rfl⟩
    · rename_i kd hu
      simp only [beq_iff_eq] at hl
      simp only [hu] at ht ⊢
      split at ht
      all_goals try (rename_i hh; cases hh; done)
      all_goals try (cases ht; done)
      · rename_i hh
        cases hh
        split at ht
        · rename_i hk
          obtain ⟨rfl, hw⟩ := hk
          exact ⟨by rw [hl]; rfl, _, ⟨_, hw, rfl⟩, RL.one (.x _) rfl⟩
        · cases ht
    · rename_i hu
      simp only [beq_iff_eq] at hl
      simp only [hu] at ht ⊢
      split at ht
      all_goals try (rename_i hh; cases hh; done)
      all_goals try (cases ht; done)
      · split at ht
        · rename_i hk
          exact ⟨by rw [hl]; rfl, _, ⟨_, hk, rfl⟩, RL.one (.x _) rfl⟩
        · cases ht
    · rename_i e hu
      simp only [Bool.and_eq_true, beq_iff_eq, decide_eq_true_eq] at hl
      obtain ⟨hl, hz⟩ := hl
      simp only [hu] at ht ⊢
      split at ht
      all_goals try (rename_i hh; cases hh; done)
      all_goals try (cases ht; done)
      · exact ⟨by rw [hl.1]; rfl, [.ro 0 (P.cellsOf e) fun _ _ => .x undef], ⟨0, _, Nat.zero_le _, rfl, fun i hi => by omega⟩, RL.one (.nil _ _) rfl⟩
      · rename_i e' a len cap h1
        cases h1
        split at ht
        · rename_i hk
          simp only [Option.bind_eq_some_iff, Option.map_eq_some_iff] at ht
          obtain ⟨elems, h1, rest, h2, h3⟩ := ht
          simp only [Prod.mk.injEq] at h3
          obtain ⟨rfl, rfl⟩ := h3
          have hlen := mapM_some_length h1
          rw [List.length_range] at hlen
          have hel : ∀ i, i < len → ∃ c x, w.cells? base (a.add (i * P.cellsOf e)) (P.cellsOf e) = some c ∧ DataW.trod enc P w base sp held k e c = some x ∧ ∀ p ∈ x.2, F p.block := by
            intro i hi
            have := mapM_some_get h1 i i (by simp [hi])
            rw [List.getElem?_eq_getElem (by omega)] at this
            obtain ⟨c, hc, hx⟩ := Option.bind_eq_some_iff.1 this
            refine ⟨c, _, hc, hx, fun p hp' => hp p ?_⟩
            refine List.mem_append.2 (.inr (List.mem_flatMap.2 ⟨elems[i], List.mem_append.2 (.inl (List.getElem_mem _)), hp'⟩))
          have hch : ∀ i, ∃ c ds, i < len → w.cells? base (a.add (i * P.cellsOf e)) (P.cellsOf e) = some c ∧ c.length = P.cellsOf e ∧ okT P n e ds ∧ RL w F c ds := by
            intro i
            by_cases hi : i < len
            · obtain ⟨c, x, g1, g2, g3⟩ := hel i hi
              obtain ⟨g4, ds, g5, g6⟩ := ih k e c x.1 x.2 hl.2 g2 g3
              exact ⟨c, ds, fun _ => ⟨g1, g4, g5, g6⟩⟩
            · exact ⟨[], [], fun h => (hi h).elim⟩
          have hch2 : ∃ cf : Nat → List Value, ∃ df : Nat → List DV, ∀ i, i < len → w.cells? base (a.add (i * P.cellsOf e)) (P.cellsOf e) = some (cf i) ∧ (cf i).length = P.cellsOf e ∧ okT P n e (df i) ∧ RL w F (cf i) (df i) :=
            ⟨fun i => (hch i).choose, fun i => (hch i).choose_spec.choose, fun i hi => (hch i).choose_spec.choose_spec hi⟩
          obtain ⟨cf, df, hcd⟩ := hch2
          refine ⟨by rw [hl.1]; rfl, [.ro len (P.cellsOf e) fun i j => (df i).getD j (.x undef)], ⟨len, _, by omega, rfl, fun i hi => ?_⟩, RL.one ?_ rfl⟩
          · obtain ⟨-, g2, g3, g4⟩ := hcd i hi
            have : (List.range (P.cellsOf e)).map (fun j => (df i).getD j (.x undef)) = df i := by
              apply List.ext_getElem
              · simp [← g4.1, g2]
              · intro j h1 h2
                simp [List.getD, h2]
            rw [this]; exact g3
          · by_cases h0 : len = 0
            · subst h0; exact .z _ _ _ _
            · · have hspot : a.spot = none := by
                  obtain ⟨g1, g2, -⟩ := hcd 0 (by omega)
                  have := (cells_get g1).2 0 (by omega)
                  simpa [Addr.add] using World.cell?_spot this
                obtain ⟨b, o, sp'⟩ := a
                simp only at hspot; subst hspot
                refine .ro b o len cap _ _ (fun i j => (cf i).getD j undef) (fun _ => hp (.cell b (o + 0)) ?_) hk.2.1 (fun i j hi hj => ?_) (fun i j hi hj => ?_) (fun i j hi hj => ?_)
                · refine List.mem_append.2 (.inl (List.mem_map.2 ⟨0, ?_, rfl⟩))
                  rw [List.mem_range]
                  exact Nat.mul_pos (by omega) (by omega)
                · obtain ⟨g1, g2, -⟩ := hcd i hi
                  have := (cells_get g1).2 j hj
                  rw [add_none, add_none] at this
                  rw [← Nat.add_assoc]; exact this
                · obtain ⟨g1, g2, -, g4⟩ := hcd i hi
                  exact (g4.2 j (by omega)).2
                · obtain ⟨g1, g2, -, g4⟩ := hcd i hi
                  exact (g4.2 j (by omega)).1
        · cases ht
    · rename_i fs hu
      simp only [hu] at ht ⊢
      split at ht
      all_goals try (rename_i hh; cases hh; done)
      all_goals try (cases ht; done)
      · rename_i hc
        simp only [Option.map_eq_some_iff] at ht
        obtain ⟨xs, h1, h2⟩ := ht
        simp only [Prod.mk.injEq] at h2
        obtain ⟨rfl, rfl⟩ := h2
        rw [← hc] at hl
        refine ⟨hc, ?_⟩
        have := open_fields (k := k) ih cs fs.toList 0 xs hl h1 hp
        rwa [List.drop_zero] at this
    · rename_i m e hu
      simp only [Bool.and_eq_true, beq_iff_eq] at hl
      simp only [hu] at ht ⊢
      split at ht
      all_goals try (rename_i hh; cases hh; done)
      all_goals try (cases ht; done)
      · rename_i hc
        simp only [Option.map_eq_some_iff] at ht
        obtain ⟨xs, h1, h2⟩ := ht
        simp only [Prod.mk.injEq] at h2
        obtain ⟨rfl, rfl⟩ := h2
        refine ⟨hc, open_elems (k := k) ih hl.2 m cs (by rw [hc, hl.1]) fun i hi => ?_⟩
        have hlen := mapM_some_length h1
        rw [List.length_range] at hlen
        have := mapM_some_get h1 i i (by simp [hi])
        rw [List.getElem?_eq_getElem (by omega)] at this
        exact ⟨_, this, fun p hp' => hp p (List.mem_flatMap.2 ⟨xs[i], List.getElem_mem _, hp'⟩)⟩
    · cases hl
end

end
end Go.Sx

/- The arguments of a law, all of them; what its walk hands back. -/
namespace Go.Sx
noncomputable section
open Go.ChangeShapes Go.WideShapes Go.ChangeAt Go.RowKit

def svT (P : Program) (t : TypeId) (ds : List DV) : SV :=
  match P.underlying t with
  | some (.struct _) => .agg (ds.map .d)
  | some (.array _ _) => .agg (ds.map .d)
  | _ => .d (ds.headD (.x undef))

def okArgs (P : Program) (n : Nat) : List TypeId → List SV → Prop
  | [], ss => ss = []
  | t :: ts, ss => ∃ ds r, ss = svT P t ds :: r ∧ okT P n t ds ∧ okArgs P n ts r

section
variable {H : Type} {enc : TypeId × Value → H} {P : Program} {w : World} {sp : Nat → Bool} {held : Bool} {F : Nat → Prop}

theorem open_arg {n : Nat} {t : TypeId} {v : Value} {d : DataW H} {p : List MemPlace} {r : Reach} {base : Nat} (hl : layB P n t = true) (h : DataW.Trod enc P w 0 sp held t v d p) (hv : Value.okWide P w r base t v) (hp : ∀ q ∈ p, F q.block) :
    ∃ ds, okT P n t ds ∧ Rep w emp F v (svT P t ds) := by
  obtain ⟨k, hk⟩ := h
  obtain ⟨hlen, ds, ho, hr⟩ := open_trod n k t v.cells.toList d p hl hk hp
  refine ⟨ds, ho, ?_⟩
  have hagg : ∀ cs, v = .agg cs → Rep w emp F v (.agg (ds.map .d)) := by
    rintro cs rfl
    have hsz : cs.size = ds.length := by have := hr.1; simpa [Value.cells] using this
    refine .agg cs _ (by simpa using hsz) fun i hi => ?_
    have hi' : i < ds.length := by simpa using hi
    have := (hr.2 i (by simpa [Value.cells, hsz] using hi')).1
    have e1 : (Value.agg cs).cells.toList.getD i undef = cs.getD i undef := by simp [Value.cells, List.getD, Array.getD_eq_getD_getElem?]
    have e2 : (ds.map SV.d).getD i uv = .d (ds.getD i (.x undef)) := by simp [List.getD, hi']
    rw [e1] at this
    rw [e2]; exact .d this
  have hone : v.cells = #[v] → Rep w emp F v (.d (ds.headD (.x undef))) := by
    intro hc
    rw [hc] at hr
    have := (hr.2 0 (by simp)).1
    have e : ds.headD (.x undef) = ds.getD 0 (.x undef) := by cases ds <;> rfl
    rw [e]; exact .d (by simpa using this)
  unfold svT
  unfold Value.okWide at hv
  split
  · rename_i hu; rw [hu] at hv; obtain ⟨cs, rfl, _⟩ := hv; exact hagg cs rfl
  · rename_i hu; rw [hu] at hv; obtain ⟨cs, rfl, _⟩ := hv; exact hagg cs rfl
  · rename_i h1 h2
    split at hv
    · rename_i hu; exact (h1 _ hu).elim
    · rename_i hu; exact (h2 _ _ hu).elim
    · refine hone ?_
      unfold Cell.okWide Cell.ok at hv
      cases v <;> first | rfl | (exfalso; revert hv; split <;> first | (intro hv; cases hv; done) | simp_all)

theorem open_args {n : Nat} {r : Reach} {base : Nat} : ∀ {ts : List TypeId} {vs : List Value} {ds : List (DataW H)} {p : List MemPlace}, (ts.all fun t => layB P n t) = true → DataW.TrodAll enc P w 0 sp held ts vs ds p → (∀ (j : Nat) t v, ts[j]? = some t → vs[j]? = some v → Value.okWide P w r base t v) → (∀ q ∈ p, F q.block) →
    ∃ ss, okArgs P n ts ss ∧ vs.length = ss.length ∧ ∀ i, i < ss.length → Rep w emp F (vs.getD i undef) (ss.getD i uv)
  | [], vs, ds, p, _, h, _, _ => by
    obtain ⟨rfl, rfl, rfl⟩ := trodAll_nil h
    exact ⟨[], rfl, rfl, fun i hi => by simp at hi⟩
  | t :: ts, vs, ds, p, hl, h, hv, hp => by
    obtain ⟨v, vs', d, ds', p1, q1, rfl, rfl, rfl, h1, h2⟩ := trodAll_cons h
    simp only [List.all_cons, Bool.and_eq_true] at hl
    obtain ⟨ds1, o1, r1⟩ := open_arg (F := F) hl.1 h1 (hv 0 t v rfl rfl) (fun q hq => hp q (List.mem_append.2 (.inl hq)))
    obtain ⟨ss, o2, l2, r2⟩ := open_args (ts := ts) hl.2 h2 (fun j t v a b => hv (j + 1) t v (by simpa using a) (by simpa using b)) (fun q hq => hp q (List.mem_append.2 (.inr hq)))
    refine ⟨svT P t ds1 :: ss, ⟨ds1, ss, rfl, o1, o2⟩, by simp [l2], fun i hi => ?_⟩
    cases i with
    | zero => simpa using r1
    | succ i => simpa using r2 i (by simpa using hi)

theorem trodAll_lt : ∀ {ts : List TypeId} {vs : List Value} {ds : List (DataW H)} {p : List MemPlace}, DataW.TrodAll enc P w 0 sp held ts vs ds p → ∀ x ∈ p, x.block < w.heap.size
  | [], vs, ds, p, h => by obtain ⟨rfl, rfl, rfl⟩ := trodAll_nil h; intro x hx; cases hx
  | t :: ts, vs, ds, p, h => by
    obtain ⟨v, vs', d, ds', p1, q1, rfl, rfl, rfl, h1, h2⟩ := trodAll_cons h
    intro x hx
    rcases List.mem_append.1 hx with hx | hx
    · obtain ⟨m, hm⟩ := h1; exact DataW.trod_lt m _ _ _ hm x hx
    · exact trodAll_lt h2 x hx

theorem trodAll_below {w' : World} (hl : laidOutB P = true) (hb : Below w.heap.size w w') : ∀ {ts : List TypeId} {vs : List Value} {ds : List (DataW H)} {p : List MemPlace}, (ts.all fun t => P.readableRec t && decide (t < P.types.size)) = true → DataW.TrodAll enc P w 0 (fun _ => true) true ts vs ds p →
    DataW.TrodAll enc P w' 0 (fun b => decide (b < w.heap.size)) true ts vs ds p
  | [], vs, ds, p, _, h => by obtain ⟨rfl, rfl, rfl⟩ := trodAll_nil h; exact trodAll_mk0
  | t :: ts, vs, ds, p, hr, h => by
    obtain ⟨v, vs', d, ds', p1, q1, rfl, rfl, rfl, h1, h2⟩ := trodAll_cons h
    simp only [List.all_cons, Bool.and_eq_true, decide_eq_true_eq] at hr
    refine trodAll_cons_mk (Below.trod hl hr.1.1 hr.1.2 h1 hb fun x hx => ?_) (trodAll_below hl hb hr.2 h2)
    obtain ⟨m, hm⟩ := h1; exact DataW.trod_lt m _ _ _ hm x hx
end

end
end Go.Sx

