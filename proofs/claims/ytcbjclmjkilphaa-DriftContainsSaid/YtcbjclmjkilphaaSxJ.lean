/- The symbolic executor: temporaries, calls by contract, one step of a region. -/
import Derived.Test.YtcbjclmjkilphaaSxI
set_option linter.unusedVariables false
set_option linter.unusedSimpArgs false
namespace Go.Sx
noncomputable section

inductive Hint where
  | nil
  | t (h : Hint)
  | f (h : Hint)
  | u (h : Hint)
  | br (l r : Hint)
  | run

def isRun : Hint → Bool
  | .run => true
  | _ => false

structure AS where
  tm : List TV
  hp : Heap
  next : Nat
  hint : Hint

/-! ### Forcing: what the kernel is to reckon before it goes on -/

def fNat {β : Type} (n : Nat) (k : Nat → β) : β := match n with | 0 => k 0 | m + 1 => k (m + 1)
def fV {β : Type} (v : Value) (k : Value → β) : β := match v with | .int kd e => k (.int kd e) | .bool b => k (.bool b) | v => k v
def fDV {β : Type} (d : DV) (k : DV → β) : β := match d with | .x v => fV v fun v => k (.x v) | .ro n e c => k (.ro n e c)
def fSV1 {β : Type} (s : SV) (k : SV → β) : β := match s with | .d d => fDV d fun d => k (.d d) | .ptr l o => fNat l fun l => fNat o fun o => k (.ptr l o) | .row l b o n e => fNat l fun l => k (.row l b o n e) | s => k s
def fSVs {β : Type} : List SV → (List SV → β) → β
  | [], k => k []
  | s :: r, k => fSV1 s fun s => fSVs r fun r => k (s :: r)
def fSV {β : Type} (s : SV) (k : SV → β) : β := match s with | .agg cs => fSVs cs fun cs => k (.agg cs) | .tup cs => fSVs cs fun cs => k (.tup cs) | s => fSV1 s k
def fTV {β : Type} (tv : TV) (k : TV → β) : β := match tv with | .ok s => fSV s fun s => k (.ok s) | .tag g w s => fSV s fun s => k (.tag g w s) | tv => k tv
def fBlk {β : Type} (b : Option Blk) (k : Option Blk → β) : β := match b with | some (.cells cs) => fSVs cs fun cs => k (some (.cells cs)) | b => k b
def fHp {β : Type} : Heap → (Heap → β) → β
  | [], k => k []
  | b :: r, k => fBlk b fun b => fHp r fun r => k (b :: r)
def fSp {α β : Type} : List α → (List α → β) → β
  | [], k => k []
  | b :: r, k => fSp r fun r => k (b :: r)
def fNats {β : Type} : List Nat → (List Nat → β) → β
  | [], k => k []
  | b :: r, k => fNat b fun b => fNats r fun r => k (b :: r)
def fDl {β : Type} : Delta → (Delta → β) → β
  | [], k => k []
  | (l, b) :: r, k => fNat l fun l => fBlk b fun b => fDl r fun r => k ((l, b) :: r)

@[simp] theorem fNat_eq {β : Type} (n : Nat) (k : Nat → β) : fNat n k = k n := by cases n <;> rfl
@[simp] theorem fV_eq {β : Type} (v : Value) (k : Value → β) : fV v k = k v := by cases v <;> rfl
@[simp] theorem fDV_eq {β : Type} (v : DV) (k : DV → β) : fDV v k = k v := by cases v <;> simp [fDV]
@[simp] theorem fSV1_eq {β : Type} (v : SV) (k : SV → β) : fSV1 v k = k v := by cases v <;> simp [fSV1]
@[simp] theorem fSVs_eq {β : Type} (l : List SV) (k : List SV → β) : fSVs l k = k l := by
  induction l generalizing k with
  | nil => rfl
  | cons a r ih => simp [fSVs, ih]
@[simp] theorem fSV_eq {β : Type} (v : SV) (k : SV → β) : fSV v k = k v := by cases v <;> simp [fSV]
@[simp] theorem fTV_eq {β : Type} (v : TV) (k : TV → β) : fTV v k = k v := by cases v <;> simp [fTV]
@[simp] theorem fBlk_eq {β : Type} (v : Option Blk) (k : Option Blk → β) : fBlk v k = k v := by
  cases v with
  | none => rfl
  | some b => cases b <;> simp [fBlk]
@[simp] theorem fHp_eq {β : Type} (l : Heap) (k : Heap → β) : fHp l k = k l := by
  induction l generalizing k with
  | nil => rfl
  | cons a r ih => simp [fHp, ih]
@[simp] theorem fSp_eq {α β : Type} (l : List α) (k : List α → β) : fSp l k = k l := by
  induction l generalizing k with
  | nil => rfl
  | cons a r ih => simp [fSp, ih]
@[simp] theorem fNats_eq {β : Type} (l : List Nat) (k : List Nat → β) : fNats l k = k l := by
  induction l generalizing k with
  | nil => rfl
  | cons a r ih => simp [fNats, ih]
@[simp] theorem fDl_eq {β : Type} (l : Delta) (k : Delta → β) : fDl l k = k l := by
  induction l generalizing k with
  | nil => rfl
  | cons a r ih => obtain ⟨x, b⟩ := a; simp [fDl, ih]

def tget (tm : List TV) : Nat → TV := List.rec (motive := fun _ => Nat → TV) (fun _ => .unk) (fun a _ ih n => Nat.rec (motive := fun _ => TV) a (fun m _ => ih m) n) tm

theorem tget_def (tm : List TV) (l : Nat) : tget tm l = tm.getD l .unk := by
  induction tm generalizing l with
  | nil => rfl
  | cons a r ih =>
    cases l with
    | zero => rfl
    | succ l => simp only [List.getD_cons_succ, ← ih]; rfl

def RepT (w : World) (μ : Mu) (F : Nat → Prop) (tmps : Array Value) (v : Value) : TV → Prop
  | .unk => True
  | .lit b => v = .bool b
  | .ok s => Rep w μ F v s
  | .cnd p s => p → Rep w μ F v s
  | .tag t want s => (tmps.getD t undef = .bool want → Rep w μ F v s) ∧ (tmps.getD t undef ≠ .bool want → v = undef)

def TmOK (w : World) (μ : Mu) (F : Nat → Prop) (tm : List TV) (tmps : Array Value) : Prop := ∀ t, RepT w μ F tmps (tmps.getD t undef) (tget tm t)

theorem RepT.mono {w w' : World} {μ μ' : Mu} {F F' : Nat → Prop} (he : Ext F w w') (hF : ∀ b, F b → F' b) (hμ : ∀ l q, μ l = some q → μ' l = some q) {tmps : Array Value} {v : Value} {tv : TV} (h : RepT w μ F tmps v tv) : RepT w' μ' F' tmps v tv := by
  cases tv with
  | unk => trivial
  | lit b => exact h
  | ok s => exact Rep.mono he hF hμ h
  | cnd p s => exact fun hp => Rep.mono he hF hμ (h hp)
  | tag t want s => exact ⟨fun ht => Rep.mono he hF hμ (h.1 ht), h.2⟩

def noTag (tm : List TV) (d : Nat) : Bool := tm.all fun | .tag t _ _ => t != d | _ => true

def noTagR (l : List TV) (d : Nat) : Bool := List.rec (motive := fun _ => Bool) true (fun a _ ih => TV.rec (motive := fun _ => Bool) ih (fun _ => ih) (fun _ => ih) (fun _ _ => ih) (fun t _ _ => Bool.rec (motive := fun _ => Bool) ih false (Nat.beq t d)) a) l

theorem noTagR_eq (l : List TV) (d : Nat) : noTagR l d = noTag l d := by
  induction l with
  | nil => rfl
  | cons a r ih =>
    unfold noTag at ih ⊢
    rw [List.all_cons, ← ih]
    cases a with
    | tag t w s =>
      show (Bool.rec (noTagR r d) false (Nat.beq t d) : Bool) = (t != d && noTagR r d)
      have : (t == d) = Nat.beq t d := by
        cases h : Nat.beq t d with
        | true => have := Nat.eq_of_beq_eq_true h; simp [this]
        | false => have := Nat.ne_of_beq_eq_false h; simp [this]
      simp only [bne, this]
      cases Nat.beq t d <;> rfl
    | _ => rfl

def setR {β : Type} (l : List TV) : Nat → TV → (List TV → β) → β → β :=
  List.rec (motive := fun _ => Nat → TV → (List TV → β) → β → β) (fun _ _ _ f => f) (fun a r ih n v k f => Nat.rec (motive := fun _ => β) (k (v :: r)) (fun m _ => ih m v (fun r' => k (a :: r')) f) n) l

theorem setR_eq {β : Type} (l : List TV) (n : Nat) (v : TV) (k : List TV → β) (f : β) : setR l n v k f = if n < l.length then k (l.set n v) else f := by
  induction l generalizing n k with
  | nil => simp; rfl
  | cons a r ih =>
    cases n with
    | zero => simp; rfl
    | succ n =>
      show setR r n v (fun r' => k (a :: r')) f = _
      rw [ih]
      simp

theorem noTag_spec {tm : List TV} {d : Nat} (h : noTag tm d = true) {t g : Nat} {w : Bool} {s : SV} (ht : tget tm t = .tag g w s) : g ≠ d := by
  simp only [tget_def] at ht
  unfold noTag at h
  rw [List.all_eq_true] at h
  by_cases hlt : t < tm.length
  · have hm : tm.getD t .unk ∈ tm := by simp [List.getD, hlt]
    have := h _ hm
    rw [ht] at this
    simpa using this
  · simp [List.getD, List.getElem?_eq_none (by omega : tm.length ≤ t)] at ht

theorem getD_set {tmps : Array Value} {d : Nat} {v : Value} (t : Nat) (hd : d < tmps.size) : (tmps.setIfInBounds d v).getD t undef = if t = d then v else tmps.getD t undef := by
  by_cases h : t = d
  · subst h; simp [Array.getD, hd]
  · simp only [h, if_false, Array.getD_eq_getD_getElem?]
    rw [Array.getElem?_setIfInBounds_ne (fun e => h e.symm)]

theorem tget_set (tm : List TV) (d t : Nat) (tv : TV) (hd : d < tm.length) : tget (tm.set d tv) t = if t = d then tv else tget tm t := by
  simp only [tget_def]
  by_cases h : t = d
  · subst h; simp [List.getD, hd]
  · simp only [h, if_false, List.getD, List.getElem?_set_ne (fun e => h e.symm)]

/-- What a result is, once it lies in its slot. -/
theorem tmOK_put {w w' : World} {μ μ' : Mu} {F F' : Nat → Prop} {tm : List TV} {tmps : Array Value} {d : Nat} {v : Value} {tv : TV} (h : TmOK w μ F tm tmps) (he : Ext F w w') (hF : ∀ b, F b → F' b) (hμ : ∀ l q, μ l = some q → μ' l = some q)
    (hd : d < tmps.size) (hd' : d < tm.length) (hn : noTag tm d = true) (hv : RepT w' μ' F' (tmps.setIfInBounds d v) v tv) : TmOK w' μ' F' (tm.set d tv) (tmps.setIfInBounds d v) := by
  intro t
  rw [tget_set _ _ _ _ hd', getD_set t hd]
  by_cases htd : t = d
  · simp only [htd, if_true]; exact hv
  · simp only [htd, if_false]
    have := (h t).mono he hF hμ
    cases ht : tget tm t with
    | tag g w0 s =>
      rw [ht] at this
      have hg := noTag_spec hn ht
      simp only [RepT, getD_set g hd, hg, if_false]
      exact this
    | _ => rw [ht] at this; exact this

/-! ### Operands -/

def tvVal (gt : Option (Nat × Bool)) : TV → Option SV
  | .ok s => some s
  | .lit b => some (.d (.x (.bool b)))
  | .cnd _ s => some s
  | .tag g w s => match gt with
    | some (g', w') => if g = g' ∧ w = w' then some s else none
    | none => none
  | .unk => none

def tvCnd : TV → List Prop
  | .cnd p _ => [p]
  | _ => []

def rho (tm : List TV) (gt : Option (Nat × Bool)) : Operand → Option SV
  | .tmp t => tvVal gt (tget tm t)
  | .const v => some (ofValue v)
  | .func f => some (.fn (.func f) [] [])
  | .global _ => none

def cnds (tm : List TV) : List Operand → List Prop
  | [] => []
  | .tmp t :: r => tvCnd (tget tm t) ++ cnds tm r
  | _ :: r => cnds tm r

theorem cnds_spec {tm : List TV} : ∀ {xs : List Operand}, (∀ p ∈ cnds tm xs, p) → ∀ t, .tmp t ∈ xs → ∀ p ∈ tvCnd (tget tm t), p
  | [], _, t, hm => by cases hm
  | x :: r, h, t, hm => by
    rcases List.mem_cons.1 hm with e | hm'
    · subst e
      exact fun p hp => h p (List.mem_append.2 (.inl hp))
    · refine cnds_spec (xs := r) (fun q hq => h q ?_) t hm'
      cases x with
      | tmp u => exact List.mem_append.2 (.inr hq)
      | _ => exact hq

theorem tvVal_sound {w : World} {μ : Mu} {F : Nat → Prop} {tmps : Array Value} {v : Value} {tv : TV} {gt : Option (Nat × Bool)} {s : SV} (h : RepT w μ F tmps v tv) (hg : ∀ g b, gt = some (g, b) → tmps.getD g undef = .bool b)
    (hc : ∀ p ∈ tvCnd tv, p) (he : tvVal gt tv = some s) : Rep w μ F v s := by
  cases tv with
  | unk => cases he
  | lit b => cases he; simp only [RepT] at h; rw [h]; exact .d (.x _)
  | ok s' => cases he; exact h
  | cnd p s' => cases he; exact h (hc p (List.mem_singleton.2 rfl))
  | tag g b s' =>
    simp only [tvVal] at he
    split at he
    · rename_i g' b'
      split at he
      · rename_i e
        obtain ⟨rfl, rfl⟩ := e
        cases he
        exact h.1 (hg _ _ rfl)
      · cases he
    · cases he

def needAll {α : Type} (l : List Prop) (t : Tr α) : Tr α := l.foldr (fun p t => .need p t) t

theorem needAll_ev {α : Type} {l : List Prop} {t : Tr α} {a : α} (h : (needAll l t).ev a) : (∀ p ∈ l, p) ∧ t.ev a := by
  induction l with
  | nil => exact ⟨(fun p hp => by cases hp), h⟩
  | cons q l ih =>
    obtain ⟨h1, h2⟩ := h
    obtain ⟨h3, h4⟩ := ih h2
    exact ⟨fun p hp => (List.mem_cons.1 hp).elim (fun e => e ▸ h1) (h3 p), h4⟩

theorem rho_sound {w : World} {μ : Mu} {F : Nat → Prop} {tm : List TV} {a : Act} {gt : Option (Nat × Bool)} {xs : List Operand} (h : TmOK w μ F tm a.tmps) (hg : ∀ g b, gt = some (g, b) → a.tmps.getD g undef = .bool b) (hc : ∀ p ∈ cnds tm xs, p)
    {x : Operand} {s : SV} (hx : x ∈ xs ∨ ∀ t, x ≠ .tmp t) (he : rho tm gt x = some s) : Rep w μ F (a.eval x) s := by
  cases x with
  | tmp t =>
    have hx : Operand.tmp t ∈ xs := hx.resolve_right fun h => h t rfl
    exact tvVal_sound (h t) hg (cnds_spec hc t hx) he
  | const v => simp only [rho, Option.some.injEq] at he; subst he; exact rep_ofValue w μ F v
  | func f => simp only [rho, Option.some.injEq] at he; subst he; exact .fn _ _ _ _ _ rfl rfl (fun i hi => by simp at hi) (fun i hi => by simp at hi)
  | global g => simp [rho] at he

/-! ### Contracts -/

abbrev Ctr := List SV → Tr SV

def emp : Mu := fun _ => none

/-- A contract: whatever memory the arguments lie in, the function returns what the tree says, and touches nothing that was there. -/
def CtrOK (P : Program) (k : FuncId) (c : Ctr) : Prop :=
  ∀ (ss : List SV) (vs : Array Value) (w : World) (F : Nat → Prop) (r : SV), (∀ b, F b → b < w.heap.size) → Reps w emp F vs ss → (c ss).ev r →
    Calls P k vs w fun e w' => ∃ v, e = .returned v ∧ Out w emp F [] (fun _ => True) [] v r w'

def noId1 : SV → Bool
  | .d _ => true
  | _ => false

def noId : SV → Bool
  | .agg cs => cs.all noId1
  | .tup cs => cs.all fun | .agg ds => ds.all noId1 | s => noId1 s
  | s => noId1 s

/-- How an argument is seen by a function that only reads. -/
def view1 (hp : Heap) : SV → Option (SV × List Prop × List Nat)
  | .d v => some (.d v, [], [])
  | .rop n c => some (.rop n c, [], [])
  | .row l base off len esz => match absSrc hp (.row l base off len esz) esz with
    | some (n, cell, p) => some (.d (.ro n esz cell), [p], [l])
    | none => none
  | .fn f xs ys => if xs.all noId = true ∧ ys.all noId = true then some (.fn f xs ys, [], []) else none
  | _ => none

def viewL (hp : Heap) : List SV → Option (List SV × List Prop × List Nat)
  | [] => some ([], [], [])
  | s :: r => match view1 hp s, viewL hp r with
    | some (a, p, l), some (as, ps, ls) => some (a :: as, p ++ ps, l ++ ls)
    | _, _ => none

def view (hp : Heap) : SV → Option (SV × List Prop × List Nat)
  | .agg cs => (viewL hp cs).map fun (a, p, l) => (.agg a, p, l)
  | s => view1 hp s

def views (hp : Heap) : List SV → Option (List SV × List Prop × List Nat)
  | [] => some ([], [], [])
  | s :: r => match view hp s, views hp r with
    | some (a, p, l), some (as, ps, ls) => some (a :: as, p ++ ps, l ++ ls)
    | _, _ => none

def flat1 : SV → Bool
  | .d (.x _) => true
  | _ => false

def flat : SV → Bool
  | .agg cs => cs.all flat1
  | .tup cs => cs.all fun | .agg ds => ds.all flat1 | s => flat1 s
  | s => flat1 s

def ctrCall (hp : Heap) (c : Ctr) (args : List SV) : Tr SV :=
  match views hp args with
  | none => .fail
  | some (as, ps, ls) => needAll ps ((c as).bind fun r => if noId r && (ls.isEmpty || flat r) then .ret r else .fail)

end
end Go.Sx
