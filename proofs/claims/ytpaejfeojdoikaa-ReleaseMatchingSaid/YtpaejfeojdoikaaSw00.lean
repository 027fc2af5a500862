/- Part of a proof of the given statements of this seat (SyAa, SyAb, SyAc, SyAd, SyAe, SyAf, SyAg): no conditions beyond those typed here. -/
import Derived.WalkKit
import Derived.ChangeKeysEq
set_option linter.unusedVariables false
set_option linter.unusedSimpArgs false
set_option linter.unusedSectionVars false
set_option linter.constructorNameAsVariable false

namespace Go.Sx
noncomputable section
inductive DV where
  | x (v : Value)
  | ro (len esz : Nat) (cell : Nat → Nat → DV)
  | rf (len esz : Nat) (cell : Nat → Nat → DV)
inductive SV where
  | d (v : DV)
  | ptr (l off : Nat)
  | pix (l base n esz i j : Nat)
  | row (l base off len esz : Nat)
  | rop (n : Nat) (cell : Nat → DV)
  | agg (cs : List SV)
  | fn (f : Fn) (first cap : List SV)
  | tup (vs : List SV)
  | ifc (t : TypeId) (v : SV)
inductive TV where
  | unk
  | lit (b : Bool)
  | ok (s : SV)
  | cnd (p : Prop) (s : SV)
  | tag (t : Nat) (want : Bool) (s : SV)
inductive Blk where
  | cells (cs : List SV)
  | row (n esz : Nat) (cell : Nat → Nat → DV)
  | iter (s : ByteArray) (pos : Nat)
inductive Plc where
  | nil
  | pl (b o : Nat)
abbrev Heap := List (Option Blk)
abbrev Delta := List (Nat × Option Blk)
abbrev Mu := Nat → Option Plc
def uv : SV := .d (.x undef)
def hget (hp : Heap) : Nat → Option Blk := List.rec (motive := fun _ => Nat → Option Blk) (fun _ => none) (fun a _ ih n => Nat.rec (motive := fun _ => Option Blk) a (fun m _ => ih m) n) hp
theorem hget_def (hp : Heap) (l : Nat) : hget hp l = hp.getD l none := by
  induction hp generalizing l with
  | nil => rfl
  | cons a r ih =>
    cases l with
    | zero => rfl
    | succ l => simp only [List.getD_cons_succ, ← ih]; rfl
def hset : Heap → Nat → Option Blk → Heap
  | [], 0, b => [b]
  | [], l + 1, b => none :: hset [] l b
  | _ :: hp, 0, b => b :: hp
  | c :: hp, l + 1, b => c :: hset hp l b
def happ (hp : Heap) (dl : Delta) : Heap := dl.foldl (fun h e => hset h e.1 e.2) hp
theorem hget_hset (hp : Heap) (l : Nat) (b : Option Blk) (k : Nat) : hget (hset hp l b) k = if k = l then b else hget hp k := by
  induction hp generalizing l k with
  | nil =>
    induction l generalizing k with
    | zero => cases k <;> simp [hset, hget_def]
    | succ l ih =>
      cases k with
      | zero => simp [hset, hget_def]
      | succ k => have := ih k; simp only [hset, hget_def, List.getD_cons_succ] at this ⊢; simpa using this
  | cons c hp ih =>
    cases l with
    | zero => cases k <;> simp [hset, hget_def]
    | succ l =>
      cases k with
      | zero => simp [hset, hget_def]
      | succ k => have := ih l k; simp only [hset, hget_def, List.getD_cons_succ] at this ⊢; simpa using this
def bsz (w : World) (b : Nat) : Nat := match w.heap[b]? with | some (.cells c _ _) => c.size | _ => 0
structure Ext (F : Nat → Prop) (w w' : World) : Prop where
  os : w'.os = w.os
  tape : w'.tape = w.tape
  output : w'.output = w.output
  size : w.heap.size ≤ w'.heap.size
  keep : ∀ b, F b → w'.heap[b]? = w.heap[b]?
  bsz : ∀ b, bsz w b ≤ bsz w' b
theorem Ext.refl (F : Nat → Prop) (w : World) : Ext F w w := ⟨rfl, rfl, rfl, Nat.le_refl _, fun _ _ => rfl, fun _ => Nat.le_refl _⟩
theorem Ext.trans {F : Nat → Prop} {a b c : World} (h : Ext F a b) (k : Ext F b c) : Ext F a c :=
  ⟨k.os.trans h.os, k.tape.trans h.tape, k.output.trans h.output, Nat.le_trans h.size k.size, fun i hi => (k.keep i hi).trans (h.keep i hi), fun i => Nat.le_trans (h.bsz i) (k.bsz i)⟩
theorem Ext.mono {F G : Nat → Prop} {a b : World} (h : Ext F a b) (hg : ∀ i, G i → F i) : Ext G a b := ⟨h.os, h.tape, h.output, h.size, fun i hi => h.keep i (hg i hi), h.bsz⟩
theorem Ext.cell {F : Nat → Prop} {w w' : World} (h : Ext F w w') {b o : Nat} (hb : F b) : w'.cell? ⟨b, o, none⟩ = w.cell? ⟨b, o, none⟩ := by
  simp only [World.cell?, h.keep b hb]
theorem bsz_alloc (w : World) (o : Obj) (b : Nat) : bsz w b ≤ bsz (w.alloc o) b := by
  unfold bsz
  by_cases h : b < w.heap.size
  · rw [RowKit.Below.heap_alloc w o b h]; exact Nat.le_refl _
  · have : w.heap[b]? = none := by simp; omega
    simp [this]
theorem Ext.alloc (F : Nat → Prop) (w : World) (o : Obj) (hF : ∀ b, F b → b < w.heap.size) : Ext F w (w.alloc o) :=
  ⟨rfl, rfl, rfl, by simp, fun b hb => RowKit.Below.heap_alloc w o b (hF b hb), bsz_alloc w o⟩
theorem Ext.drew (F : Nat → Prop) (w : World) : Ext F w w.drew := ⟨rfl, rfl, rfl, Nat.le_refl _, fun _ _ => rfl, fun _ => Nat.le_refl _⟩
theorem setRow_heap_same (w : World) (g : Nat) (cur : Array Value) (e : TypeId) (fr : Nat × Nat) (cs : Array Value) (hg : w.heap[g]? = some (.cells cur e fr)) :
    (w.setRow g cs).heap[g]? = some (.cells cs e fr) := by
  simp [World.setRow, Array.getElem?_modify, hg]
theorem setRow_heap_other (w : World) (g k : Nat) (cs : Array Value) (h : k ≠ g) : (w.setRow g cs).heap[k]? = w.heap[k]? := by
  simp only [World.setRow, Array.getElem?_modify]; rw [if_neg (by omega)]
theorem Ext.setRow (F : Nat → Prop) (w : World) (g : Nat) (cur cs : Array Value) (e : TypeId) (fr : Nat × Nat) (hg : w.heap[g]? = some (.cells cur e fr)) (hF : ¬ F g) (hs : cs.size = cur.size) : Ext F w (w.setRow g cs) := by
  refine ⟨rfl, rfl, rfl, by simp, fun b hb => setRow_heap_other w g b cs (fun h => hF (h ▸ hb)), fun b => ?_⟩
  by_cases h : b = g
  · subst h
    simp only [Sx.bsz, hg, setRow_heap_same w b cur e fr cs hg, hs]
    exact Nat.le_refl _
  · simp only [Sx.bsz, setRow_heap_other w g b cs h]
    exact Nat.le_refl _
inductive RepD (w : World) (F : Nat → Prop) : Value → DV → Prop
  | x (v : Value) : RepD w F v (.x v)
  | nil (esz : Nat) (cell : Nat → Nat → DV) : RepD w F (.slice none 0 0) (.ro 0 esz cell)
  | z (a : Addr) (cap esz : Nat) (cell : Nat → Nat → DV) : RepD w F (.slice (some a) 0 cap) (.ro 0 esz cell)
  | ro (b o len cap esz : Nat) (cell : Nat → Nat → DV) (f : Nat → Nat → Value) (hF : len ≠ 0 → F b) (hc : len ≤ cap)
      (hcell : ∀ i j, i < len → j < esz → w.cell? ⟨b, o + (i * esz + j), none⟩ = some (f i j))
      (hone : ∀ i j, i < len → j < esz → (f i j).oneCell' = true) (hrep : ∀ i j, i < len → j < esz → RepD w F (f i j) (cell i j)) : RepD w F (.slice (some ⟨b, o, none⟩) len cap) (.ro len esz cell)
  | rf (v : Value) (len esz : Nat) (cell : Nat → Nat → DV) (h : RepD w F v (.ro len esz cell)) (hc : ∃ a, v = .slice a len len) : RepD w F v (.rf len esz cell)
theorem RepD.mono {w w' : World} {F F' : Nat → Prop} (he : Ext F w w') (hF : ∀ b, F b → F' b) {v : Value} {s : DV} (h : RepD w F v s) : RepD w' F' v s := by
  induction h with
  | x v => exact .x v
  | nil esz cell => exact .nil esz cell
  | rf v len esz cell _ hc ih => exact .rf v len esz cell ih hc
  | z a cap esz cell => exact .z a cap esz cell
  | ro b o len cap esz cell f hb hc hcell hone _ ih =>
    refine .ro b o len cap esz cell f (fun h => hF _ (hb h)) hc (fun i j hi hj => ?_) hone ih
    rw [he.cell (hb (by omega))]; exact hcell i j hi hj
inductive Rep (w : World) (μ : Mu) (F : Nat → Prop) : Value → SV → Prop
  | d {v : Value} {s : DV} (h : RepD w F v s) : Rep w μ F v (.d s)
  | ptr (l off b o : Nat) (h : μ l = some (.pl b o)) : Rep w μ F (.pointer (some ⟨b, o + off, none⟩)) (.ptr l off)
  | pix (l base n esz i j b o : Nat) (h : μ l = some (.pl b o)) : Rep w μ F (.pointer (some ⟨b, o + base + i * esz + j, none⟩)) (.pix l base n esz i j)
  | rnil (l base off esz : Nat) (h : μ l = some .nil) : Rep w μ F (.slice none 0 0) (.row l base off 0 esz)
  | rz (l base off esz b o : Nat) (q : Plc) (h : μ l = some q) : Rep w μ F (.slice (some ⟨b, o, none⟩) 0 0) (.row l base off 0 esz)
  | row (l base off len esz b o cap : Nat) (h : μ l = some (.pl b o)) (hc : len ≤ cap) (hz : o + base + (off + cap) * esz ≤ bsz w b) : Rep w μ F (.slice (some ⟨b, o + base + off * esz, none⟩) len cap) (.row l base off len esz)
  | rop (b o n : Nat) (cell : Nat → DV) (f : Nat → Value) (hF : n ≠ 0 → F b) (hcell : ∀ j, j < n → w.cell? ⟨b, o + j, none⟩ = some (f j))
      (hone : ∀ j, j < n → (f j).oneCell' = true) (hrep : ∀ j, j < n → RepD w F (f j) (cell j)) : Rep w μ F (.pointer (some ⟨b, o, none⟩)) (.rop n cell)
  | agg (cs : Array Value) (ss : List SV) (hl : cs.size = ss.length) (h : ∀ i, i < ss.length → Rep w μ F (cs.getD i undef) (ss.getD i uv)) : Rep w μ F (.agg cs) (.agg ss)
  | fn (f : Fn) (fs cs : Array Value) (ss ts : List SV) (h1 : fs.size = ss.length) (h2 : cs.size = ts.length) (h3 : ∀ i, i < ss.length → Rep w μ F (fs.getD i undef) (ss.getD i uv))
      (h4 : ∀ i, i < ts.length → Rep w μ F (cs.getD i undef) (ts.getD i uv)) : Rep w μ F (.func f fs cs) (.fn f ss ts)
  | tup (cs : Array Value) (ss : List SV) (hl : cs.size = ss.length) (h : ∀ i, i < ss.length → Rep w μ F (cs.getD i undef) (ss.getD i uv)) : Rep w μ F (.tuple cs) (.tup ss)
  | ifc (t : TypeId) (v : Value) (s : SV) (h : Rep w μ F v s) : Rep w μ F (.iface t v) (.ifc t s)
theorem Rep.mono {w w' : World} {μ μ' : Mu} {F F' : Nat → Prop} (he : Ext F w w') (hF : ∀ b, F b → F' b) (hμ : ∀ l q, μ l = some q → μ' l = some q) {v : Value} {s : SV} (h : Rep w μ F v s) : Rep w' μ' F' v s := by
  induction h with
  | d h => exact .d (h.mono he hF)
  | ptr l off b o h => exact .ptr l off b o (hμ _ _ h)
  | pix l base n esz i j b o h => exact .pix l base n esz i j b o (hμ _ _ h)
  | rnil l base off esz h => exact .rnil l base off esz (hμ _ _ h)
  | rz l base off esz b o q h => exact .rz l base off esz b o q (hμ _ _ h)
  | row l base off len esz b o cap h hc hz => exact .row l base off len esz b o cap (hμ _ _ h) hc (Nat.le_trans hz (he.bsz b))
  | rop b o n cell f hb hcell hone hrep =>
    exact .rop b o n cell f (fun h => hF _ (hb h)) (fun j hj => by rw [he.cell (hb (by omega))]; exact hcell j hj) hone (fun j hj => (hrep j hj).mono he hF)
  | agg cs ss hl _ ih => exact .agg cs ss hl ih
  | fn f fs cs ss ts h1 h2 _ _ ih1 ih2 => exact .fn f fs cs ss ts h1 h2 ih1 ih2
  | tup cs ss hl _ ih => exact .tup cs ss hl ih
  | ifc t v s _ ih => exact .ifc t v s ih
def BlkAt (w : World) (μ : Mu) (F : Nat → Prop) : Plc → Blk → Prop
  | .nil, .row n _ _ => n = 0
  | .nil, .cells _ => False
  | .nil, .iter _ _ => False
  | .pl b o, .iter s pos => o = 0 ∧ w.heap[b]? = some (.stringIter s pos)
  | .pl b o, .cells cs => ∃ c e, w.heap[b]? = some (.cells c e (0, 0)) ∧ o + cs.length ≤ c.size ∧ (∀ i, i < cs.length → Rep w μ F (c.getD (o + i) undef) (cs.getD i uv)) ∧ ∀ i, i < cs.length → (c.getD (o + i) undef).oneCell' = true
  | .pl b o, .row n esz cell => ∃ c e, w.heap[b]? = some (.cells c e (0, 0)) ∧ o + n * esz ≤ c.size ∧ (∀ i j, i < n → j < esz → RepD w F (c.getD (o + (i * esz + j)) undef) (cell i j)) ∧ ∀ i j, i < n → j < esz → (c.getD (o + (i * esz + j)) undef).oneCell' = true
structure Par where
  w0 : World
  T : Nat → Prop
  F : Nat → Prop
def PlcOK (p : Par) (F : Nat → Prop) : Plc → Prop
  | .nil => True
  | .pl b _ => ¬ F b ∧ (p.T b ∨ p.w0.heap.size ≤ b)
structure HS (p : Par) (μ : Mu) (F : Nat → Prop) (hp : Heap) (w : World) : Prop where
  ext : Ext (fun b => b < p.w0.heap.size ∧ ¬ p.T b) p.w0 w
  sub : ∀ b, p.F b → F b
  fin : ∀ b, F b → b < w.heap.size ∧ (p.F b ∨ p.T b ∨ p.w0.heap.size ≤ b)
  blk : ∀ l blk, hget hp l = some blk → ∃ q, μ l = some q ∧ PlcOK p F q ∧ BlkAt w μ F q blk
  inj : ∀ l l' blk blk' b o b' o', l ≠ l' → hget hp l = some blk → hget hp l' = some blk' → μ l = some (.pl b o) → μ l' = some (.pl b' o') → b ≠ b'
theorem BlkAt.lt {w : World} {μ : Mu} {F : Nat → Prop} {b o : Nat} {blk : Blk} (h : BlkAt w μ F (.pl b o) blk) : b < w.heap.size := by
  cases blk with
  | cells cs => obtain ⟨c, e, hg, _⟩ := h; exact (Array.getElem?_eq_some_iff.1 hg).1
  | row n esz cell => obtain ⟨c, e, hg, _⟩ := h; exact (Array.getElem?_eq_some_iff.1 hg).1
  | iter s pos => exact (Array.getElem?_eq_some_iff.1 h.2).1
theorem BlkAt.mono {w w' : World} {μ μ' : Mu} {F F' : Nat → Prop} (he : Ext F w w') (hF : ∀ b, F b → F' b) (hμ : ∀ l q, μ l = some q → μ' l = some q) {q : Plc} {blk : Blk}
    (hk : ∀ b o, q = .pl b o → w'.heap[b]? = w.heap[b]?) (h : BlkAt w μ F q blk) : BlkAt w' μ' F' q blk := by
  cases q with
  | nil => cases blk <;> exact h
  | pl b o =>
    cases blk with
    | cells cs =>
      obtain ⟨c, e, hg, hs, hc, h1⟩ := h
      exact ⟨c, e, by rw [hk b o rfl]; exact hg, hs, fun i hi => (hc i hi).mono he hF hμ, h1⟩
    | row n esz cell =>
      obtain ⟨c, e, hg, hs, hc, h1⟩ := h
      exact ⟨c, e, by rw [hk b o rfl]; exact hg, hs, fun i j hi hj => (hc i j hi hj).mono he hF, h1⟩
    | iter s pos => exact ⟨h.1, by rw [hk b o rfl]; exact h.2⟩
end
end Go.Sx
namespace Go.Sx
noncomputable section
inductive Tr (α : Type) where
  | ret (a : α)
  | ite (b : Bool) (t e : Tr α)
  | need (p : Prop) (t : Tr α)
  | dneed (p : Prop) (d : Decidable p) (t : Tr α)
  | fail
abbrev Tr.nd {α : Type} (p : Prop) [d : Decidable p] (t : Tr α) : Tr α := .dneed p d t
def Tr.bind {α β : Type} : Tr α → (α → Tr β) → Tr β
  | .ret a, f => f a
  | .ite b t e, f => .ite b (t.bind f) (e.bind f)
  | .need p t, f => .need p (t.bind f)
  | .dneed p d t, f => .dneed p d (t.bind f)
  | .fail, _ => .fail
def Tr.ev {α : Type} : Tr α → α → Prop
  | .ret a, x => x = a
  | .ite b t e, x => (b = true ∧ t.ev x) ∨ (b = false ∧ e.ev x)
  | .need p t, x => p ∧ t.ev x
  | .dneed p _ t, x => p ∧ t.ev x
  | .fail, _ => False
def Tr.sat {α : Type} : Tr α → (α → Prop) → Prop
  | .ret a, Q => Q a
  | .ite b t e, Q => (b = true → t.sat Q) ∧ (b = false → e.sat Q)
  | .need p t, Q => p ∧ t.sat Q
  | .dneed p _ t, Q => p ∧ t.sat Q
  | .fail, _ => False
theorem Tr.ev_bind {α β : Type} {f : α → Tr β} {b : β} : ∀ {t : Tr α}, (t.bind f).ev b → ∃ a, t.ev a ∧ (f a).ev b
  | .ret a, h => ⟨a, rfl, h⟩
  | .ite c t e, h => by
    rcases h with ⟨hc, h⟩ | ⟨hc, h⟩
    · obtain ⟨a, h1, h2⟩ := Tr.ev_bind h; exact ⟨a, .inl ⟨hc, h1⟩, h2⟩
    · obtain ⟨a, h1, h2⟩ := Tr.ev_bind h; exact ⟨a, .inr ⟨hc, h1⟩, h2⟩
  | .need p t, h => by obtain ⟨a, h1, h2⟩ := Tr.ev_bind h.2; exact ⟨a, ⟨h.1, h1⟩, h2⟩
  | .dneed p _ t, h => by obtain ⟨a, h1, h2⟩ := Tr.ev_bind (t := t) h.2; exact ⟨a, ⟨h.1, h1⟩, h2⟩
  | .fail, h => h.elim
def Tr.ofOpt {α : Type} : Option α → Tr α
  | some a => .ret a
  | none => .fail
theorem Tr.ev_ofOpt {α : Type} {o : Option α} {a : α} (h : (Tr.ofOpt o).ev a) : o = some a := by
  cases o with
  | none => exact h.elim
  | some b => simp only [Tr.ofOpt, Tr.ev] at h; rw [h]
def pureRun {α : Type} (P : Program) : Sem α → Option α
  | .pure a => some a
  | .program k => pureRun P (k P)
  | _ => none
theorem pureRun_run {α : Type} {P : Program} : ∀ {s : Sem α} {a : α} (w : World), pureRun P s = some a → s.run P w = .ok a w
  | .pure b, a, w, h => by simp only [pureRun, Option.some.injEq] at h; subst h; rfl
  | .program k, a, w, h => by simp only [pureRun] at h; exact pureRun_run (s := k P) w h
  | .load .., _, _, h => by simp [pureRun] at h
  | .store .., _, _, h => by simp [pureRun] at h
  | .new .., _, _, h => by simp [pureRun] at h
  | .shape .., _, _, h => by simp [pureRun] at h
  | .freeze .., _, _, h => by simp [pureRun] at h
  | .frozen .., _, _, h => by simp [pureRun] at h
  | .getObj .., _, _, h => by simp [pureRun] at h
  | .setObj .., _, _, h => by simp [pureRun] at h
  | .choose .., _, _, h => by simp [pureRun] at h
  | .sys .., _, _, h => by simp [pureRun] at h
  | .mark .., _, _, h => by simp [pureRun] at h
  | .halt .., _, _, h => by simp [pureRun] at h
def svcells : SV → List SV
  | .agg cs => cs
  | s => [s]
def ofValue : Value → SV
  | .agg cs => .agg (cs.toList.map fun v => .d (.x v))
  | .tuple cs => .tup (cs.toList.map fun v => .d (.x v))
  | v => .d (.x v)
theorem getD_map_toList (cs : Array Value) (i : Nat) (h : i < cs.size) : (cs.toList.map fun v => SV.d (.x v)).getD i uv = .d (.x (cs.getD i undef)) := by
  simp [List.getD, h, Array.getD]
theorem rep_ofValue (w : World) (μ : Mu) (F : Nat → Prop) (v : Value) : Rep w μ F v (ofValue v) := by
  have h : ∀ (cs : Array Value), ∀ i, i < (cs.toList.map fun v => SV.d (.x v)).length → Rep w μ F (cs.getD i undef) ((cs.toList.map fun v => SV.d (.x v)).getD i uv) := by
    intro cs i hi
    rw [getD_map_toList cs i (by simpa using hi)]; exact .d (.x _)
  cases v with
  | agg cs => exact .agg cs _ (by simp) (h cs)
  | tuple cs => exact .tup cs _ (by simp) (h cs)
  | _ => exact .d (.x _)
def exact1 : SV → Option Value
  | .d (.x v) => some v
  | _ => none
def exactL : List SV → Option (List Value)
  | [] => some []
  | s :: r => match exact1 s, exactL r with
    | some v, some vs => some (v :: vs)
    | _, _ => none
def exact : SV → Option Value
  | .d (.x v) => some v
  | .agg cs => (exactL cs).map fun l => .agg l.toArray
  | _ => none
theorem exactL_spec : ∀ {cs : List SV} {vs : List Value}, exactL cs = some vs → vs.length = cs.length ∧ ∀ i, i < cs.length → cs.getD i uv = .d (.x (vs.getD i undef))
  | [], vs, h => by simp [exactL] at h; subst h; simp
  | s :: r, vs, h => by
    simp only [exactL] at h
    split at h
    · rename_i v vs' h1 h2
      simp only [Option.some.injEq] at h; subst h
      obtain ⟨hl, hr⟩ := exactL_spec h2
      refine ⟨by simp [hl], fun i hi => ?_⟩
      cases i with
      | zero =>
        unfold exact1 at h1
        split at h1
        · simp only [Option.some.injEq] at h1; subst h1; simp
        · cases h1
      | succ i => simpa using hr i (by simpa using hi)
    · cases h
theorem repd_x {w : World} {F : Nat → Prop} {v u : Value} (h : RepD w F v (.x u)) : v = u := by
  generalize hs : DV.x u = s at h
  cases h with
  | x v => cases hs; rfl
  | nil => cases hs
  | z => cases hs
  | ro => cases hs
  | rf => cases hs
theorem rep_x {w : World} {μ : Mu} {F : Nat → Prop} {v u : Value} (h : Rep w μ F v (.d (.x u))) : v = u := by
  generalize hs : SV.d (.x u) = s at h
  cases h with
  | d hd => cases hs; exact repd_x hd
  | _ => cases hs
theorem rep_d {w : World} {μ : Mu} {F : Nat → Prop} {v : Value} {u : DV} (h : Rep w μ F v (.d u)) : RepD w F v u := by
  generalize hs : SV.d u = s at h
  cases h with
  | d hd => cases hs; exact hd
  | _ => cases hs
theorem exact_spec {w : World} {μ : Mu} {F : Nat → Prop} {v u : Value} {s : SV} (h : exact s = some u) (hr : Rep w μ F v s) : v = u := by
  unfold exact at h
  split at h
  · simp only [Option.some.injEq] at h; subst h
    exact rep_x hr
  · rename_i cs
    cases hr with
    | agg cs' _ hl hi =>
      cases he : exactL cs with
      | none => simp [he] at h
      | some vs =>
        simp only [he, Option.map_some, Option.some.injEq] at h
        obtain ⟨h1, h2⟩ := exactL_spec he
        subst h
        congr 1
        apply Array.ext
        · simp [hl, h1]
        · intro i hi1 hi2
          have hic : i < cs.length := by omega
          have := hi i hic
          rw [h2 i hic] at this
          have heq := rep_x this
          have h3 : i < vs.length := by omega
          simpa [Array.getD, hi1, List.getD, h3] using heq
  · cases h
def isAggT (P : Program) (t : TypeId) : Bool := match P.underlying t with | some (.struct _) | some (.array _ _) => true | _ => false
def tsz (P : Program) (t : TypeId) : Option Nat := (P.info? t).map (·.size)
theorem run_isAggT {P : Program} {t : TypeId} (w : World) {d : TypeDesc} (h : P.underlying t = some d) : (isAgg t).run P w = .ok (isAggT P t) w := by
  unfold isAgg isAggT
  simp only [Sem.run_bind, run_underlying h, Result.andThen]
  cases d <;> simp [h, pure, Sem.run]
theorem run_tsz {P : Program} {t : TypeId} (w : World) {n : Nat} (h : tsz P t = some n) : (sizeOf t).run P w = .ok n w := by
  unfold tsz at h
  unfold sizeOf typeInfo
  cases hi : P.info? t with
  | none => simp [hi] at h
  | some i => simp only [hi, Option.map_some, Option.some.injEq] at h; subst h; simp [Sem.run_bind, program, Sem.run, hi, Result.andThen, pure]
theorem add_none (b o j : Nat) : (⟨b, o, none⟩ : Addr).add j = ⟨b, o + j, none⟩ := by unfold Addr.add; split <;> simp_all
def shapeT (P : Program) (t : TypeId) : Option (Bool × Nat) :=
  match P.underlying t with
  | none => none
  | some _ => if isAggT P t then (tsz P t).map fun n => (true, n) else some (false, 1)
def ofCells (s : Bool × Nat) (f : Nat → SV) : SV := if s.1 then .agg ((List.range s.2).map f) else f 0
def ofCellsV (s : Bool × Nat) (f : Nat → Value) : Value := if s.1 then .agg ((List.range s.2).map f).toArray else f 0
theorem run_loadVar {P : Program} {t : TypeId} {w : World} {s : Bool × Nat} (hs : shapeT P t = some s) (b o : Nat) (f : Nat → Value) (hf : ∀ j, j < s.2 → w.cell? ⟨b, o + j, none⟩ = some (f j)) :
    (loadVar t ⟨b, o, none⟩).run P w = .ok (ofCellsV s f) w := by
  unfold shapeT at hs
  cases hu : P.underlying t with
  | none => simp [hu] at hs
  | some d =>
    simp only [hu] at hs
    unfold loadVar
    simp only [Sem.run_bind, run_isAggT w hu, Result.andThen]
    cases ha : isAggT P t with
    | true =>
      simp only [ha, if_true] at hs ⊢
      cases hn : tsz P t with
      | none => simp [hn] at hs
      | some n =>
        simp only [hn, Option.map_some, Option.some.injEq] at hs; subst hs
        have hl := run_loadCells (P := P) w ⟨b, o, none⟩ n f (fun j hj => by rw [add_none]; exact hf j hj)
        simp only [Sem.run_bind, run_tsz w hn, Result.andThen, hl, ofCellsV, if_true, pure, Sem.run]
    | false =>
      simp only [ha, Bool.false_eq_true, if_false, Option.some.injEq] at hs ⊢; subst hs
      have h0 := hf 0 (by simp)
      simp only [Nat.add_zero] at h0
      simp [load, Sem.run, h0, ofCellsV]
theorem rep_ofCells {w : World} {μ : Mu} {F : Nat → Prop} {s : Bool × Nat} {f : Nat → Value} {g : Nat → SV} (h : ∀ j, j < s.2 → Rep w μ F (f j) (g j)) (h1 : s.1 = false → s.2 = 1) :
    Rep w μ F (ofCellsV s f) (ofCells s g) := by
  unfold ofCellsV ofCells
  split
  · refine .agg _ _ (by simp) (fun i hi => ?_)
    simp only [List.length_map, List.length_range] at hi
    simp [hi, Array.getD, List.getD]
    exact h i hi
  · rename_i hf
    exact h 0 (by rw [h1 (by simpa using hf)]; omega)
theorem shapeT_one {P : Program} {t : TypeId} {s : Bool × Nat} (h : shapeT P t = some s) : s.1 = false → s.2 = 1 := by
  unfold shapeT at h
  split at h
  · cases h
  · split at h
    · cases hn : tsz P t with
      | none => simp [hn] at h
      | some n => simp only [hn, Option.map_some, Option.some.injEq] at h; subst h; simp
    · simp only [Option.some.injEq] at h; subst h; simp
def intsOf (k : IntKind) : List SV → Option (List Int)
  | [] => some []
  | .d (.x (.int k' n)) :: r => if k = k' then (intsOf k r).map (n :: ·) else none
  | _ => none
def boolsOf : List SV → Option (List Bool)
  | [] => some []
  | .d (.x (.bool n)) :: r => (boolsOf r).map (n :: ·)
  | _ => none
def stringsOf : List SV → Option (List ByteArray)
  | [] => some []
  | .d (.x (.string n)) :: r => (stringsOf r).map (n :: ·)
  | _ => none
theorem intsOf_spec {k : IntKind} : ∀ {cs : List SV} {ns : List Int}, intsOf k cs = some ns → ∀ i, i < cs.length → cs.getD i uv = .d (.x (.int k (ns.getD i 0)))
  | [], ns, h, i, hi => by simp at hi
  | s :: r, ns, h, i, hi => by
    unfold intsOf at h
    split at h
    · contradiction
    · rename_i k' n r' heq
      simp only [List.cons.injEq] at heq
      obtain ⟨rfl, rfl⟩ := heq
      split at h
      · rename_i hk; subst hk
        rw [Option.map_eq_some_iff] at h
        obtain ⟨ns', h1, rfl⟩ := h
        cases i with
        | zero => simp
        | succ i => simpa using intsOf_spec h1 i (by simpa using hi)
      · cases h
    · cases h
theorem boolsOf_spec : ∀ {cs : List SV} {ns : List Bool}, boolsOf cs = some ns → ∀ i, i < cs.length → cs.getD i uv = .d (.x (.bool (ns.getD i false)))
  | [], ns, h, i, hi => by simp at hi
  | s :: r, ns, h, i, hi => by
    unfold boolsOf at h
    split at h
    · contradiction
    · rename_i n r' heq
      simp only [List.cons.injEq] at heq
      obtain ⟨rfl, rfl⟩ := heq
      rw [Option.map_eq_some_iff] at h
      obtain ⟨ns', h1, rfl⟩ := h
      cases i with
      | zero => simp
      | succ i => simpa using boolsOf_spec h1 i (by simpa using hi)
    · cases h
theorem stringsOf_spec : ∀ {cs : List SV} {ns : List ByteArray}, stringsOf cs = some ns → ∀ i, i < cs.length → cs.getD i uv = .d (.x (.string (ns.getD i ByteArray.empty)))
  | [], ns, h, i, hi => by simp at hi
  | s :: r, ns, h, i, hi => by
    unfold stringsOf at h
    split at h
    · contradiction
    · rename_i n r' heq
      simp only [List.cons.injEq] at heq
      obtain ⟨rfl, rfl⟩ := heq
      rw [Option.map_eq_some_iff] at h
      obtain ⟨ns', h1, rfl⟩ := h
      cases i with
      | zero => simp
      | succ i => simpa using stringsOf_spec h1 i (by simpa using hi)
    · cases h
def selCol (col : List SV) (i : Nat) : SV :=
  match col with
  | .d (.x (.int k _)) :: _ => match intsOf k col with | some ns => .d (.x (.int k (ns.getD i 0))) | none => col.getD i uv
  | .d (.x (.bool _)) :: _ => match boolsOf col with | some ns => .d (.x (.bool (ns.getD i false))) | none => col.getD i uv
  | .d (.x (.string _)) :: _ => match stringsOf col with | some ns => .d (.x (.string (ns.getD i ByteArray.empty))) | none => col.getD i uv
  | _ => col.getD i uv
theorem selCol_eq (col : List SV) (i : Nat) (h : i < col.length) : selCol col i = col.getD i uv := by
  unfold selCol
  split
  · split
    · rename_i h1; exact (intsOf_spec h1 i h).symm
    · rfl
  · split
    · rename_i h1; exact (boolsOf_spec h1 i h).symm
    · rfl
  · split
    · rename_i h1; exact (stringsOf_spec h1 i h).symm
    · rfl
  · rfl
def absLoad (P : Program) (hp : Heap) (t : TypeId) (p : SV) : Tr SV :=
  match shapeT P t with
  | none => .fail
  | some s =>
    match p with
    | .ptr l off =>
      match hget hp l with
      | some (.cells cs) => if off + s.2 ≤ cs.length then .ret (ofCells s fun j => cs.getD (off + j) uv) else .fail
      | some (.row n esz cell) => if off = 0 ∧ s.2 ≤ n * esz then .ret (ofCells s fun j => .d (cell (j / esz) (j % esz))) else .fail
      | _ => .fail
    | .pix l base n esz i j =>
      match hget hp l with
      | some (.row n' esz' cell) => if base = 0 ∧ esz = esz' ∧ j + s.2 ≤ esz then .nd (i < n') (.ret (ofCells s fun k => .d (cell i (j + k)))) else .fail
      | some (.cells cs) => if base + n * esz ≤ cs.length ∧ j + s.2 ≤ esz then .nd (i < n) (.ret (ofCells s fun k => selCol ((List.range n).map fun a => cs.getD (base + a * esz + (j + k)) uv) i)) else .fail
      | _ => .fail
    | .rop n cell => if s.2 ≤ n then .ret (ofCells s fun j => .d (cell j)) else .fail
    | _ => .fail
def Tk (hp : Heap) (μ : Mu) : Nat → Prop := fun b => ∃ l blk o, hget hp l = some blk ∧ μ l = some (.pl b o)
def LH (w : World) (μ : Mu) (F : Nat → Prop) (hp : Heap) : Prop := HS ⟨w, Tk hp μ, F⟩ μ F hp w
theorem LH.blkAt {w : World} {μ : Mu} {F : Nat → Prop} {hp : Heap} (h : LH w μ F hp) {l b o : Nat} {blk : Blk} (hg : hget hp l = some blk) (hm : μ l = some (.pl b o)) : BlkAt w μ F (.pl b o) blk ∧ ¬ F b := by
  obtain ⟨q, h1, h2, h3⟩ := h.blk l blk hg
  rw [hm, Option.some.injEq] at h1; subst h1
  exact ⟨h3, h2.1⟩
theorem cell_of_heap {w : World} {b : Nat} {c : Array Value} {e : TypeId} {fr : Nat × Nat} (hg : w.heap[b]? = some (.cells c e fr)) {o : Nat} (ho : o < c.size) : w.cell? ⟨b, o, none⟩ = some (c.getD o undef) := by
  rw [cell_of_row w b o c e fr hg]; simp [Array.getD, ho]
theorem absLoad_sound {P : Program} {w : World} {μ : Mu} {F : Nat → Prop} {hp : Heap} {t : TypeId} {p : SV} {v : Value} {s : SV} (hl : LH w μ F hp) (hp0 : Rep w μ F v p) (he : (absLoad P hp t p).ev s) :
    ∃ u, (Instr.loadAt t v).run P w = .ok u w ∧ Rep w μ F u s := by
  unfold absLoad at he
  cases hs : shapeT P t with
  | none => simp only [hs] at he; exact he.elim
  | some sh =>
    have h1 := shapeT_one hs
    simp only [hs] at he
    cases hp0 with
    | ptr l off b o hm =>
      simp only [] at he
      cases hh : hget hp l with
      | none => simp only [hh] at he; exact he.elim
      | some blk =>
        cases blk with
        | row n esz cell =>
          simp only [hh] at he
          split at he
          · rename_i hle
            obtain ⟨h0, hle⟩ := hle
            subst h0
            simp only [Tr.ev] at he; subst he
            obtain ⟨⟨c, e, hg, hsz, hc, _⟩, _⟩ := hl.blkAt hh hm
            refine ⟨ofCellsV sh fun j => c.getD (o + j) undef, ?_, rep_ofCells (fun j hj => .d ?_) h1⟩
            · unfold Instr.loadAt
              simp only [Instr.sureAddr, Sem.run_bind, Sem.run_pure, Result.andThen]
              exact run_loadVar hs b (o + 0) _ (fun j hj => by rw [Nat.add_zero]; exact cell_of_heap hg (by omega))
            · have h2 : 0 < esz := by
                rcases Nat.eq_zero_or_pos esz with h | h
                · subst h; simp at hle; omega
                · exact h
              have h3 : j / esz < n := (Nat.div_lt_iff_lt_mul h2).2 (by omega)
              have := hc (j / esz) (j % esz) h3 (Nat.mod_lt _ h2)
              rw [Nat.div_add_mod'] at this
              exact this
          · exact he.elim
        | iter => simp only [hh] at he; exact he.elim
        | cells cs =>
          simp only [hh] at he
          split at he
          · rename_i hle
            simp only [Tr.ev] at he; subst he
            obtain ⟨⟨c, e, hg, hsz, hc, _⟩, _⟩ := hl.blkAt hh hm
            refine ⟨ofCellsV sh fun j => c.getD (o + (off + j)) undef, ?_, rep_ofCells (fun j hj => hc _ (by omega)) h1⟩
            unfold Instr.loadAt
            simp only [Instr.sureAddr, Sem.run_bind, Sem.run_pure, Result.andThen]
            exact run_loadVar hs b (o + off) _ (fun j hj => by rw [show o + off + j = o + (off + j) by omega]; exact cell_of_heap hg (by omega))
          · exact he.elim
    | pix l base n esz i j b o hm =>
      simp only [] at he
      cases hh : hget hp l with
      | none => simp only [hh] at he; exact he.elim
      | some blk =>
        cases blk with
        | cells cs =>
          simp only [hh] at he
          split at he
          · rename_i hle
            obtain ⟨hbn, hj⟩ := hle
            simp only [Tr.ev] at he; obtain ⟨hi, he⟩ := he; subst he
            obtain ⟨⟨c, e, hg, hsz, hc, _⟩, _⟩ := hl.blkAt hh hm
            have hb : ∀ k, k < sh.2 → base + i * esz + (j + k) < cs.length := by
              intro k hk
              have : (i + 1) * esz ≤ n * esz := Nat.mul_le_mul_right _ hi
              rw [Nat.add_mul] at this
              omega
            refine ⟨ofCellsV sh fun k => c.getD (o + (base + i * esz + (j + k))) undef, ?_, rep_ofCells (fun k hk => ?_) h1⟩
            · unfold Instr.loadAt
              simp only [Instr.sureAddr, Sem.run_bind, Sem.run_pure, Result.andThen]
              exact run_loadVar hs b (o + base + i * esz + j) _ (fun k hk => by rw [show o + base + i * esz + j + k = o + (base + i * esz + (j + k)) by omega]; exact cell_of_heap hg (by have := hb k hk; omega))
            · rw [selCol_eq _ _ (by simpa using hi)]
              have := hc (base + i * esz + (j + k)) (hb k hk)
              simpa [List.getD, hi] using this
          · exact he.elim
        | row n' esz' cell =>
          simp only [hh] at he
          split at he
          · rename_i hle
            obtain ⟨rfl, rfl, hj⟩ := hle
            simp only [Tr.ev] at he; obtain ⟨hi, he⟩ := he; subst he
            obtain ⟨⟨c, e, hg, hsz, hc, _⟩, _⟩ := hl.blkAt hh hm
            have hb : ∀ k, k < sh.2 → o + (i * esz + (j + k)) < c.size := by
              intro k hk
              have : (i + 1) * esz ≤ n' * esz := Nat.mul_le_mul_right _ hi
              rw [Nat.add_mul] at this
              omega
            refine ⟨ofCellsV sh fun k => c.getD (o + (i * esz + (j + k))) undef, ?_, rep_ofCells (fun k hk => .d (hc i (j + k) hi (by omega))) h1⟩
            unfold Instr.loadAt
            simp only [Instr.sureAddr, Sem.run_bind, Sem.run_pure, Result.andThen]
            exact run_loadVar hs b (o + 0 + i * esz + j) _ (fun k hk => by rw [show o + 0 + i * esz + j + k = o + (i * esz + (j + k)) by omega]; exact cell_of_heap hg (hb k hk))
          · exact he.elim
        | iter => simp only [hh] at he; exact he.elim
    | rop b o n cell f hF hcell _ hrep =>
      simp only [] at he
      split at he
      · rename_i hle
        simp only [Tr.ev] at he; subst he
        refine ⟨ofCellsV sh f, ?_, rep_ofCells (fun j hj => .d (hrep j (by omega))) h1⟩
        unfold Instr.loadAt
        simp only [Instr.sureAddr, Sem.run_bind, Sem.run_pure, Result.andThen]
        exact run_loadVar hs b o f (fun j hj => hcell j (by omega))
      · exact he.elim
    | _ => exact he.elim
end
end Go.Sx
namespace Go.Sx
noncomputable section
def Out (w : World) (μ : Mu) (F : Nat → Prop) (hp : Heap) (N : Nat → Prop) (hp' : Heap) (v : Value) (s : SV) (w' : World) : Prop :=
  ∃ μ' F', HS ⟨w, Tk hp μ, F⟩ μ' F' hp' w' ∧ Rep w' μ' F' v s ∧ (∀ l q, μ l = some q → μ' l = some q) ∧ (∀ l, ¬ N l → μ' l = μ l)
theorem out_same {w : World} {μ : Mu} {F : Nat → Prop} {hp : Heap} {N : Nat → Prop} {v : Value} {s : SV} (hl : LH w μ F hp) (h : Rep w μ F v s) : Out w μ F hp N hp v s w :=
  ⟨μ, F, hl, h, fun _ _ h => h, fun _ _ => rfl⟩
def upd (μ : Mu) (l : Nat) (q : Plc) : Mu := fun k => if k = l then some q else μ k
theorem upd_ext {μ : Mu} {l : Nat} {q : Plc} (h : μ l = none) : ∀ k r, μ k = some r → upd μ l q k = some r := by
  intro k r hk
  unfold upd
  split
  · rename_i he; subst he; rw [h] at hk; cases hk
  · exact hk
theorem LH.none {w : World} {μ : Mu} {F : Nat → Prop} {hp : Heap} (h : LH w μ F hp) {l : Nat} (hm : μ l = none) : hget hp l = none := by
  cases hg : hget hp l with
  | none => rfl
  | some blk => obtain ⟨q, h1, _⟩ := h.blk l blk hg; rw [hm] at h1; cases h1
theorem hs_alloc {w : World} {μ : Mu} {F : Nat → Prop} {hp : Heap} {id : Nat} {blk : Blk} {ob : Obj} (hl : LH w μ F hp) (hid : μ id = none)
    (hb : BlkAt (w.alloc ob) (upd μ id (.pl w.heap.size 0)) F (.pl w.heap.size 0) blk) :
    HS ⟨w, Tk hp μ, F⟩ (upd μ id (.pl w.heap.size 0)) F (hset hp id (some blk)) (w.alloc ob) := by
  have hext : Ext F w (w.alloc ob) := Ext.alloc F w ob fun b hb => (hl.fin b hb).1
  refine ⟨Ext.alloc _ w ob fun b hb => hb.1, fun b hb => hb, fun b hb => ⟨?_, .inl hb⟩, ?_, ?_⟩
  · have := (hl.fin b hb).1; simp; omega
  · intro l blk' hg
    rw [hget_hset] at hg
    split at hg
    · rename_i he; subst he
      simp only [Option.some.injEq] at hg; subst hg
      exact ⟨.pl w.heap.size 0, by simp [upd], ⟨fun h => by have := (hl.fin _ h).1; omega, .inr (Nat.le_refl _)⟩, hb⟩
    · rename_i hne
      obtain ⟨q, h1, h2, h3⟩ := hl.blk l blk' hg
      refine ⟨q, upd_ext hid _ _ h1, h2, h3.mono hext (fun _ h => h) (upd_ext hid) ?_⟩
      intro b o hq; subst hq
      exact RowKit.Below.heap_alloc w ob b h3.lt
  · intro l l' blk1 blk2 b o b' o' hne h1 h2 m1 m2
    rw [hget_hset] at h1 h2
    have old : ∀ k bb bo bk, k ≠ id → hget hp k = some bk → upd μ id (.pl w.heap.size 0) k = some (.pl bb bo) → bb < w.heap.size ∧ μ k = some (.pl bb bo) := by
      intro k bb bo bk hk hg hm
      have hm' : μ k = some (.pl bb bo) := by simpa [upd, hk] using hm
      exact ⟨(hl.blkAt hg hm').1.lt, hm'⟩
    by_cases e1 : l = id
    · have e2 : l' ≠ id := fun h => hne (e1.trans h.symm)
      rw [if_neg e2] at h2
      obtain ⟨hlt, _⟩ := old l' b' o' blk2 e2 h2 m2
      have : b = w.heap.size := by subst e1; simp [upd] at m1; omega
      omega
    · rw [if_neg e1] at h1
      obtain ⟨hlt, hm1⟩ := old l b o blk1 e1 h1 m1
      by_cases e2 : l' = id
      · have : b' = w.heap.size := by subst e2; simp [upd] at m2; omega
        omega
      · rw [if_neg e2] at h2
        obtain ⟨_, hm2⟩ := old l' b' o' blk2 e2 h2 m2
        exact hl.inj l l' blk1 blk2 b o b' o' hne h1 h2 hm1 hm2
theorem upd_other {μ : Mu} {l : Nat} {q : Plc} : ∀ k, ¬ k = l → upd μ l q k = μ k := fun k h => by simp [upd, h]
theorem out_alloc {w : World} {μ : Mu} {F : Nat → Prop} {hp : Heap} {id : Nat} {blk : Blk} {ob : Obj} {v : Value} {s : SV} (hl : LH w μ F hp) (hid : μ id = none)
    (hb : BlkAt (w.alloc ob) (upd μ id (.pl w.heap.size 0)) F (.pl w.heap.size 0) blk) (hv : Rep (w.alloc ob) (upd μ id (.pl w.heap.size 0)) F v s) :
    Out w μ F hp (· = id) (hset hp id (some blk)) v s (w.alloc ob) :=
  ⟨_, F, hs_alloc hl hid hb, hv, upd_ext hid, upd_other⟩
theorem heap_alloc_at (w : World) (o : Obj) : (w.alloc o).heap[w.heap.size]? = some o := by show (w.heap.push o)[w.heap.size]? = _; simp
theorem blkAt_new {w : World} {μ μ' : Mu} {F : Nat → Prop} {c : Array Value} {e : TypeId} {cs : List SV} (hF : ∀ b, F b → b < w.heap.size) (hμ : ∀ l q, μ l = some q → μ' l = some q) (hs : cs.length ≤ c.size)
    (h : ∀ i, i < cs.length → Rep w μ F (c.getD i undef) (cs.getD i uv)) (h1 : ∀ i, i < cs.length → (c.getD i undef).oneCell' = true) : BlkAt (w.alloc (.cells c e)) μ' F (.pl w.heap.size 0) (.cells cs) :=
  ⟨c, e, heap_alloc_at w _, by omega, fun i hi => by rw [Nat.zero_add]; exact (h i hi).mono (Ext.alloc F w _ hF) (fun _ h => h) hμ, fun i hi => by rw [Nat.zero_add]; exact h1 i hi⟩
theorem rep_svcells {w : World} {μ : Mu} {F : Nat → Prop} {v : Value} {s : SV} (h : Rep w μ F v s) (hone : ∀ u, s = .d (.x u) → u.oneCell' = true) : v.cells.size = (svcells s).length ∧ ∀ i, i < (svcells s).length → Rep w μ F (v.cells.getD i undef) ((svcells s).getD i uv) := by
  have one : ∀ (v : Value) (s : SV), svcells s = [s] → v.cells = #[v] → Rep w μ F v s → v.cells.size = (svcells s).length ∧ ∀ i, i < (svcells s).length → Rep w μ F (v.cells.getD i undef) ((svcells s).getD i uv) := by
    intro v s h1 h2 h
    rw [h1, h2]
    refine ⟨rfl, fun i hi => ?_⟩
    have : i = 0 := by simpa using hi
    subst this
    simpa using h
  cases h with
  | agg cs ss hl h => exact ⟨hl, h⟩
  | d hd =>
    refine one _ _ rfl ?_ (.d hd)
    cases hd with
    | x => have := hone v rfl; cases v <;> first | rfl | simp [Value.oneCell'] at this
    | rf _ _ _ _ _ hc => obtain ⟨a, rfl⟩ := hc; rfl
    | _ => rfl
  | _ => exact one _ _ rfl rfl (by first | exact .ptr _ _ _ _ ‹_› | exact .pix _ _ _ _ _ _ _ _ ‹_› | exact .rnil _ _ _ _ ‹_› | exact .rz _ _ _ _ _ _ _ ‹_› | exact .row _ _ _ _ _ _ _ _ ‹_› ‹_› ‹_› | exact .rop _ _ _ _ _ ‹_› ‹_› ‹_› ‹_› | exact .fn _ _ _ _ _ ‹_› ‹_› ‹_› ‹_› | exact .tup _ _ ‹_› ‹_› | exact .ifc _ _ _ ‹_›)
def cellOK : SV → Bool
  | .d (.x v) => v.oneCell'
  | .agg _ | .tup _ => false
  | _ => true
theorem cellOK_one {w : World} {μ : Mu} {F : Nat → Prop} {v : Value} {s : SV} (h : Rep w μ F v s) (hk : cellOK s = true) : v.oneCell' = true := by
  cases h with
  | d hd => cases hd with
    | x u => exact hk
    | rf _ _ _ _ _ hc => obtain ⟨a, rfl⟩ := hc; rfl
    | _ => rfl
  | agg => cases hk
  | tup => cases hk
  | _ => rfl
def boxOK : SV → Bool
  | .d (.x v) => v.oneCell'
  | _ => true
theorem all_cellOK {cs : List SV} (h : cs.all cellOK = true) : ∀ i, i < cs.length → cellOK (cs.getD i uv) = true := by
  intro i hi
  rw [List.all_eq_true] at h
  refine h _ ?_
  simp [List.getD, hi]
def absBox (id : Nat) (hp : Heap) (s : SV) : Tr (SV × Heap) :=
  if boxOK s ∧ (svcells s).all cellOK = true then .ret (.ptr id 0, hset hp id (some (.cells (svcells s)))) else .fail
theorem absBox_sound {P : Program} {w : World} {μ : Mu} {F : Nat → Prop} {hp hp' : Heap} {id : Nat} {t : TypeId} {v : Value} {s r : SV} (hl : LH w μ F hp) (hid : μ id = none) (hv : Rep w μ F v s)
    (he : (absBox id hp s).ev (r, hp')) : ∃ u w', (Instr.box t v).run P w = .ok u w' ∧ Out w μ F hp (· = id) hp' u r w' := by
  unfold absBox at he
  split at he
  · rename_i hb
    simp only [Tr.ev, Prod.mk.injEq] at he; obtain ⟨rfl, rfl⟩ := he
    obtain ⟨h1, h2⟩ := rep_svcells hv (fun u hu => by subst hu; exact hb.1)
    refine ⟨.pointer (some ⟨w.heap.size, 0, none⟩), w.alloc (.cells v.cells t), rfl, out_alloc hl hid (blkAt_new (fun b hb => (hl.fin b hb).1) (upd_ext hid) (by omega) h2 (fun i hi => cellOK_one (h2 i hi) (all_cellOK hb.2 i hi))) ?_⟩
    exact .ptr id 0 w.heap.size 0 (by simp [upd])
  · exact he.elim
def absAlloc (P : Program) (id : Nat) (hp : Heap) (t : TypeId) : Tr (SV × Heap) :=
  match pureRun P (zeroValue t) with
  | some z => absBox id hp (ofValue z)
  | none => .fail
theorem absAlloc_sound {P : Program} {w : World} {μ : Mu} {F : Nat → Prop} {hp hp' : Heap} {id : Nat} {t : TypeId} {r : SV} (hl : LH w μ F hp) (hid : μ id = none)
    (he : (absAlloc P id hp t).ev (r, hp')) : ∃ u w', (Instr.alloc t true (.tuple #[])).run P w = .ok u w' ∧ Out w μ F hp (· = id) hp' u r w' := by
  unfold absAlloc at he
  split at he
  · rename_i z hz
    have hz' := pureRun_run w hz
    obtain ⟨u, w', h1, h2⟩ := absBox_sound (P := P) (t := t) hl hid (rep_ofValue w μ F z) he
    refine ⟨u, w', ?_, h2⟩
    unfold Instr.alloc
    simp only [Sem.run_bind, hz', Result.andThen]
    exact h1
  · exact he.elim
def absPart (P : Program) (t : TypeId) (cs : List SV) (off : Nat) : Option SV :=
  match shapeT P t with
  | none => none
  | some s => if off + s.2 ≤ cs.length then some (ofCells s fun j => cs.getD (off + j) uv) else none
theorem extract_eq_range (cs : Array Value) (off n : Nat) (h : off + n ≤ cs.size) : cs.extract off (off + n) = ((List.range n).map fun j => cs.getD (off + j) undef).toArray := by
  apply Array.ext
  · simp; omega
  · intro i h1 h2
    simp at h1 h2
    have : off + i < cs.size := by omega
    simp [Array.getD, this]
theorem absPart_sound {P : Program} {w : World} {μ : Mu} {F : Nat → Prop} {t : TypeId} {cs : Array Value} {ss : List SV} {off : Nat} {s : SV} (hl : cs.size = ss.length)
    (h : ∀ i, i < ss.length → Rep w μ F (cs.getD i undef) (ss.getD i uv)) (he : absPart P t ss off = some s) : ∃ u, (part t cs off).run P w = .ok u w ∧ Rep w μ F u s := by
  unfold absPart at he
  cases hs : shapeT P t with
  | none => simp [hs] at he
  | some sh =>
    simp only [hs] at he
    split at he
    · rename_i hle
      simp only [Option.some.injEq] at he; subst he
      refine ⟨ofCellsV sh fun j => cs.getD (off + j) undef, ?_, rep_ofCells (fun j hj => h _ (by omega)) (shapeT_one hs)⟩
      unfold shapeT at hs
      cases hu : P.underlying t with
      | none => simp [hu] at hs
      | some d =>
        simp only [hu] at hs
        unfold part
        simp only [Sem.run_bind, run_isAggT w hu, Result.andThen]
        cases ha : isAggT P t with
        | true =>
          simp only [ha, if_true] at hs ⊢
          cases hn : tsz P t with
          | none => simp [hn] at hs
          | some n =>
            simp only [hn, Option.map_some, Option.some.injEq] at hs; subst hs
            simp only [Sem.run_bind, run_tsz w hn, Result.andThen, pure, Sem.run, ofCellsV, if_true]
            rw [extract_eq_range cs off n (by simp only at hle; omega)]
        | false =>
          simp only [ha, Bool.false_eq_true, if_false, Option.some.injEq] at hs ⊢; subst hs
          have : off < cs.size := by simp only at hle; omega
          simp [this, ofCellsV, Array.getD, pure, Sem.run]
    · cases he
def absField (P : Program) (t : TypeId) (s : SV) (fi : Nat) : Tr SV :=
  match P.underlying t, s with
  | some (.struct fields), .agg cs =>
    match fields[fi]? with
    | some f => Tr.ofOpt (absPart P f.type cs f.offset)
    | none => .fail
  | _, _ => .fail
theorem absField_sound {P : Program} {w : World} {μ : Mu} {F : Nat → Prop} {t : TypeId} {v : Value} {s r : SV} {fi : Nat} (hv : Rep w μ F v s) (he : (absField P t s fi).ev r) :
    ∃ u, (Instr.field t v fi).run P w = .ok u w ∧ Rep w μ F u r := by
  unfold absField at he
  split at he
  · rename_i fields cs hu
    split at he
    · rename_i f hf
      cases hv with
      | agg vs _ hl h =>
        obtain ⟨u, h1, h2⟩ := absPart_sound hl h (Tr.ev_ofOpt he)
        refine ⟨u, ?_, h2⟩
        unfold Instr.field
        simp only [Sem.run_bind, run_underlying hu, Result.andThen, hf, asAgg, Sem.run_pure]
        exact h1
    · exact he.elim
  · exact he.elim
def absFieldAddr (P : Program) (t : TypeId) (p : SV) (fi : Nat) : Tr SV :=
  match P.underlying t with
  | some (.struct fields) =>
    match fields[fi]? with
    | some f =>
      match tsz P f.type with
      | some (_ + 1) =>
        match p with
        | .ptr l off => .ret (.ptr l (off + f.offset))
        | .pix l base n esz i j => .ret (.pix l base n esz i (j + f.offset))
        | .rop n cell => if f.offset ≤ n then .ret (.rop (n - f.offset) fun j => cell (j + f.offset)) else .fail
        | _ => .fail
      | _ => .fail
    | none => .fail
  | _ => .fail
theorem absFieldAddr_sound {P : Program} {w : World} {μ : Mu} {F : Nat → Prop} {t : TypeId} {v : Value} {s r : SV} {fi : Nat} (hv : Rep w μ F v s) (he : (absFieldAddr P t s fi).ev r) :
    ∃ u, (Instr.fieldAt t v fi).run P w = .ok u w ∧ Rep w μ F u r := by
  unfold absFieldAddr at he
  split at he
  · rename_i fields hu
    split at he
    · rename_i f hf
      split at he
      · rename_i n hn
        have key : ∀ b o, (Instr.fieldAt t (.pointer (some ⟨b, o, none⟩)) fi).run P w = .ok (.pointer (some ⟨b, o + f.offset, none⟩)) w := by
          intro b o
          unfold Instr.fieldAt
          simp only [Sem.run_bind, run_underlying hu, Result.andThen, hf, Instr.sureAddr, Sem.run_pure, fieldPlace, run_tsz w hn, Nat.add_one_ne_zero, if_false, add_none]
        split at he
        · rename_i l off
          simp only [Tr.ev] at he; subst he
          cases hv with
          | ptr _ _ b o hm => exact ⟨_, key b (o + off), by rw [Nat.add_assoc]; exact .ptr l _ b o hm⟩
        · rename_i l base n' esz i j
          simp only [Tr.ev] at he; subst he
          cases hv with
          | pix _ _ _ _ _ _ b o hm => exact ⟨_, key b _, by rw [Nat.add_assoc]; exact .pix l base n' esz i _ b o hm⟩
        · rename_i n' cell
          split at he
          · rename_i hle
            simp only [Tr.ev] at he; subst he
            cases hv with
            | rop b o _ _ f' hF hcell hone hrep =>
              exact ⟨_, key b o, .rop b _ _ _ (fun j => f' (j + f.offset)) (fun h => hF (by omega)) (fun j hj => by rw [Nat.add_assoc, Nat.add_comm f.offset j]; exact hcell _ (by omega)) (fun j hj => hone _ (by omega)) (fun j hj => hrep _ (by omega))⟩
          · exact he.elim
        · exact he.elim
      · exact he.elim
    · exact he.elim
  · exact he.elim
end
end Go.Sx
namespace Go.Sx
noncomputable section
def setRange (cs : List SV) (off : Nat) (xs : List SV) : List SV := cs.take off ++ xs ++ cs.drop (off + xs.length)
theorem getD_setRange (cs xs : List SV) (off i : Nat) (h : off + xs.length ≤ cs.length) : (setRange cs off xs).getD i uv = if off ≤ i ∧ i < off + xs.length then xs.getD (i - off) uv else cs.getD i uv := by
  unfold setRange
  simp only [List.getD]
  rw [List.append_assoc, List.getElem?_append]
  simp only [List.length_take]
  by_cases h1 : i < off
  · rw [if_pos (by omega), if_neg (by omega), List.getElem?_take, if_pos h1]
  · rw [if_neg (by omega), List.getElem?_append, Nat.min_eq_left (by omega)]
    by_cases h2 : i < off + xs.length
    · rw [if_pos (by omega), if_pos (by omega)]
    · rw [if_neg (by omega), if_neg (by omega), List.getElem?_drop]
      congr 2; omega
theorem length_setRange (cs xs : List SV) (off : Nat) (h : off + xs.length ≤ cs.length) : (setRange cs off xs).length = cs.length := by
  unfold setRange; simp; omega
def absFill (place : Nat → Option (Nat × Nat)) (cs : List SV) : List (Nat × SV) → Option (List SV)
  | [] => some cs
  | (i, s) :: rest =>
    match place i with
    | none => none
    | some (off, size) => if boxOK s ∧ (svcells s).length = size ∧ off + size ≤ cs.length then absFill place (setRange cs off (svcells s)) rest else none
theorem foldl_set (off : Nat) : ∀ (xs : List Value) (k : Nat) (c : Array Value), let r := (xs.zipIdx k).foldl (fun cs (p : Value × Nat) => cs.setIfInBounds (off + p.2) p.1) c
    r.size = c.size ∧ ∀ i, i < c.size → r.getD i undef = if off + k ≤ i ∧ i < off + k + xs.length then xs.getD (i - (off + k)) undef else c.getD i undef
  | [], k, c => by simp; intro i _ h1 h2; omega
  | x :: xs, k, c => by
    have ih := foldl_set off xs (k + 1) (c.setIfInBounds (off + k) x)
    simp only [List.zipIdx_cons, List.foldl_cons] at ih ⊢
    obtain ⟨h1, h2⟩ := ih
    refine ⟨by simpa using h1, fun i hi => ?_⟩
    rw [h2 i (by simpa using hi)]
    by_cases ha : off + (k + 1) ≤ i ∧ i < off + (k + 1) + xs.length
    · rw [if_pos ha, if_pos (by simp; omega)]
      have : i - (off + k) = (i - (off + (k + 1))) + 1 := by omega
      rw [this]; simp
    · rw [if_neg ha]
      by_cases hb : i = off + k
      · subst hb
        rw [if_pos (by simp)]
        simp [Array.getD, hi]
      · rw [if_neg (by simp; omega)]
        simp [Array.getD, hi, Array.getElem_setIfInBounds, hb, Ne.symm hb]
def Reps (w : World) (μ : Mu) (F : Nat → Prop) (c : Array Value) (cs : List SV) : Prop := c.size = cs.length ∧ ∀ i, i < cs.length → Rep w μ F (c.getD i undef) (cs.getD i uv)
theorem boxOK_one {s : SV} (h : boxOK s = true) : ∀ u, s = .d (.x u) → u.oneCell' = true := fun u hu => by subst hu; exact h
inductive RepsP (w : World) (μ : Mu) (F : Nat → Prop) : List (Nat × Value) → List (Nat × SV) → Prop
  | nil : RepsP w μ F [] []
  | cons (i : Nat) {v : Value} {s : SV} {r : List (Nat × Value)} {t : List (Nat × SV)} (h : Rep w μ F v s) (hr : RepsP w μ F r t) : RepsP w μ F ((i, v) :: r) ((i, s) :: t)
theorem absFill_sound {w : World} {μ : Mu} {F : Nat → Prop} {place : Nat → Option (Nat × Nat)} {ps : List (Nat × Value)} {ss : List (Nat × SV)} (hp : RepsP w μ F ps ss) :
    ∀ {c : Array Value} {cs r : List SV}, Reps w μ F c cs → absFill place cs ss = some r → ∃ c', Instr.fill place c ps = some c' ∧ Reps w μ F c' r := by
  induction hp with
  | nil => intro c cs r hc he; simp only [absFill, Option.some.injEq] at he; subst he; exact ⟨c, rfl, hc⟩
  | @cons i v s r' t h hr ih =>
    intro c cs r hc he
    simp only [absFill] at he
    split at he
    · cases he
    · rename_i off size hpl
      split at he
      · rename_i hk
        obtain ⟨hb, hsz, hle⟩ := hk
        obtain ⟨h1, h2⟩ := rep_svcells h (boxOK_one hb)
        have hf := foldl_set off v.cells.toList 0 c
        simp only [Nat.add_zero] at hf
        have heq : (v.cells.zipIdx.foldl (fun cs (x : Value × Nat) => cs.setIfInBounds (off + x.2) x.1) c) = ((v.cells.toList.zipIdx 0).foldl (fun cs (p : Value × Nat) => cs.setIfInBounds (off + p.2) p.1) c) := by
          rw [← Array.foldl_toList, Array.toList_zipIdx]
        have hreps : Reps w μ F (v.cells.zipIdx.foldl (fun cs (x : Value × Nat) => cs.setIfInBounds (off + x.2) x.1) c) (setRange cs off (svcells s)) := by
          rw [heq]
          refine ⟨by rw [hf.1, hc.1, length_setRange _ _ _ (by omega)], fun k hk => ?_⟩
          rw [length_setRange _ _ _ (by omega)] at hk
          rw [hf.2 k (by rw [hc.1]; exact hk), getD_setRange _ _ _ _ (by omega)]
          simp only [Array.length_toList]
          by_cases hin : off ≤ k ∧ k < off + (svcells s).length
          · rw [if_pos hin, if_pos (by omega)]
            have := h2 (k - off) (by omega)
            simpa [Array.getD, List.getD, show k - off < v.cells.size by omega] using this
          · rw [if_neg hin, if_neg (by omega)]
            exact hc.2 k hk
        obtain ⟨c', e1, e2⟩ := ih hreps he
        refine ⟨c', ?_, e2⟩
        simp only [Instr.fill, hpl]
        rw [if_neg (by have := hc.1; simp; omega)]
        exact e1
      · cases he
def absBuild (P : Program) (t : TypeId) (ps : List (Nat × SV)) : Tr SV :=
  match pureRun P (zeroValue t), P.underlying t with
  | some z, some (.struct fields) =>
    match pureRun P (fields.mapM fun f => do pure (f.offset, ← sizeOf f.type)) with
    | some places => if boxOK (ofValue z) then Tr.ofOpt ((absFill (places[·]?) (svcells (ofValue z)) ps).map .agg) else .fail
    | none => .fail
  | some z, some (.array _ elem) =>
    match tsz P elem with
    | some size => if boxOK (ofValue z) then Tr.ofOpt ((absFill (fun i => some (i * size, size)) (svcells (ofValue z)) ps).map .agg) else .fail
    | none => .fail
  | _, _ => .fail
theorem reps_value {w : World} {μ : Mu} {F : Nat → Prop} {v : Value} {s : SV} (h : Rep w μ F v s) (hb : boxOK s = true) : Reps w μ F v.cells (svcells s) := rep_svcells h (boxOK_one hb)
theorem absBuild_sound {P : Program} {w : World} {μ : Mu} {F : Nat → Prop} {t : TypeId} {ps : Array (Nat × Value)} {ss : List (Nat × SV)} {r : SV} (hp : RepsP w μ F ps.toList ss) (he : (absBuild P t ss).ev r) :
    ∃ u, (Instr.build t ps).run P w = .ok u w ∧ Rep w μ F u r := by
  unfold absBuild at he
  split at he
  · rename_i z fields hz hu
    split at he
    · rename_i places hpl
      split at he
      · rename_i hb
        have he2 := Tr.ev_ofOpt he
        rw [Option.map_eq_some_iff] at he2
        obtain ⟨r', he2, rfl⟩ := he2
        obtain ⟨c', e1, e2⟩ := absFill_sound hp (reps_value (rep_ofValue w μ F z) hb) he2
        refine ⟨.agg c', ?_, .agg c' r' e2.1 e2.2⟩
        unfold Instr.build
        simp only [Sem.run_bind, pureRun_run w hz, run_underlying hu, Result.andThen, pureRun_run w hpl, e1]
        rfl
      · exact he.elim
    · exact he.elim
  · rename_i z n elem hz hu
    split at he
    · rename_i size hs
      split at he
      · rename_i hb
        have he2 := Tr.ev_ofOpt he
        rw [Option.map_eq_some_iff] at he2
        obtain ⟨r', he2, rfl⟩ := he2
        obtain ⟨c', e1, e2⟩ := absFill_sound hp (reps_value (rep_ofValue w μ F z) hb) he2
        refine ⟨.agg c', ?_, .agg c' r' e2.1 e2.2⟩
        unfold Instr.build
        simp only [Sem.run_bind, pureRun_run w hz, run_underlying hu, Result.andThen, run_tsz w hs, e1, pure, Sem.run]
      · exact he.elim
    · exact he.elim
  · exact he.elim
def absBuildSlice (P : Program) (id : Nat) (hp : Heap) (t : TypeId) (len : Nat) (ps : List (Nat × SV)) : Tr (SV × Heap) :=
  match P.underlying t with
  | some (.slice elem) =>
    match tsz P elem, pureRun P (zeroValue elem) with
    | some size, some z =>
      if len * size ≤ 16777216 ∧ z.cells.size = size ∧ boxOK (ofValue z) then
        match absFill (fun i => some (i * size, size)) ((List.range (len * size)).map fun k => (svcells (ofValue z)).getD (k % size) uv) ps with
        | some cs => if cs.all cellOK = true then .ret (.row id 0 0 len size, hset hp id (some (.cells cs))) else .fail
        | none => .fail
      else .fail
    | _, _ => .fail
  | _ => .fail
theorem absFill_length {place : Nat → Option (Nat × Nat)} : ∀ {ss : List (Nat × SV)} {cs r : List SV}, absFill place cs ss = some r → r.length = cs.length
  | [], cs, r, h => by simp only [absFill, Option.some.injEq] at h; rw [h]
  | (i, s) :: rest, cs, r, h => by
    simp only [absFill] at h
    split at h
    · cases h
    · split at h
      · rename_i hk
        rw [absFill_length h, length_setRange _ _ _ (by omega)]
      · cases h
theorem absBuildSlice_sound {P : Program} {w : World} {μ : Mu} {F : Nat → Prop} {hp hp' : Heap} {id : Nat} {t : TypeId} {len : Nat} {ps : Array (Nat × Value)} {ss : List (Nat × SV)} {r : SV} (hl : LH w μ F hp) (hid : μ id = none)
    (hps : RepsP w μ F ps.toList ss) (he : (absBuildSlice P id hp t len ss).ev (r, hp')) : ∃ u w', (Instr.buildSlice t len ps).run P w = .ok u w' ∧ Out w μ F hp (· = id) hp' u r w' := by
  unfold absBuildSlice at he
  split at he
  · rename_i elem hu
    split at he
    · rename_i size z hs hz
      split at he
      · rename_i hk
        obtain ⟨hsm, hzs, hzb⟩ := hk
        split at he
        · rename_i cs hf
          split at he
          rotate_left
          · exact he.elim
          rename_i hall
          simp only [Tr.ev, Prod.mk.injEq] at he; obtain ⟨rfl, rfl⟩ := he
          have hlen := absFill_length hf
          simp only [List.length_map, List.length_range] at hlen
          have hzr := reps_value (rep_ofValue w μ F z) hzb
          have h0 : Reps w μ F ((Array.range (len * size)).map fun k => z.cells[k % z.cells.size]!) ((List.range (len * size)).map fun k => (svcells (ofValue z)).getD (k % size) uv) := by
            refine ⟨by simp, fun i hi => ?_⟩
            simp only [List.length_map, List.length_range] at hi
            have hpos : 0 < size := Nat.pos_of_ne_zero fun h => by subst h; simp at hi
            have hlt : i % size < z.cells.size := by rw [hzs]; exact Nat.mod_lt _ hpos
            have := hzr.2 (i % size) (by rw [← hzr.1]; exact hlt)
            simp only [List.getD, List.getElem?_map, List.getElem?_range hi, Option.map_some, Option.getD_some]
            have hlt2 : i % size < size := by omega
            simpa [Array.getD, hi, hzs, hlt2, List.getD, getElem!_pos, hlt] using this
          obtain ⟨c', e1, e2⟩ := absFill_sound hps h0 hf
          have hrun : (Instr.buildSlice t len ps).run P w = .ok (.slice (some ⟨w.heap.size, 0, none⟩) len len) (w.alloc (.cells c' elem)) := by
            unfold Instr.buildSlice
            simp only [Sem.run_bind, run_underlying hu, Result.andThen, run_tsz w hs]
            rw [if_neg (by simp; omega)]
            by_cases h00 : len * size = 0
            · have hz0 : ((Array.range (len * size)).map fun k => z.cells[k % z.cells.size]!) = #[] := by simp [h00]
              rw [hz0] at e1
              simp only [h00, if_true, Sem.run_bind, pure, Sem.run, Result.andThen]
              have : ((Array.range 0).map fun x => (#[] : Array Value)[x % (#[] : Array Value).size]!) = #[] := by simp
              rw [this, e1]
              rfl
            · simp only [h00, if_false, Sem.run_bind, pureRun_run w hz, Result.andThen, pure, Sem.run, e1]
              rfl
          refine ⟨_, _, hrun, out_alloc hl hid (blkAt_new (fun b hb => (hl.fin b hb).1) (upd_ext hid) (by have := e2.1; omega) e2.2 (fun i hi => cellOK_one (e2.2 i hi) (all_cellOK hall i hi))) ?_⟩
          have hb : bsz (w.alloc (.cells c' elem)) w.heap.size = len * size := by
            unfold bsz; rw [heap_alloc_at]; simp [e2.1, hlen]
          have := Rep.row (w := w.alloc (.cells c' elem)) (μ := upd μ id (.pl w.heap.size 0)) (F := F) id 0 0 len size w.heap.size 0 len (by simp [upd]) (Nat.le_refl _) (by rw [hb]; simp)
          simpa using this
        · exact he.elim
      · exact he.elim
    · exact he.elim
  · exact he.elim
end
end Go.Sx
namespace Go.Sx
noncomputable section
theorem hs_update {w : World} {μ : Mu} {F : Nat → Prop} {hp : Heap} {l b o : Nat} {blk blk' : Blk} {c cs' : Array Value} {e : TypeId} (hl : LH w μ F hp) (hg : hget hp l = some blk) (hm : μ l = some (.pl b o))
    (hh : w.heap[b]? = some (.cells c e (0, 0))) (hsz : cs'.size = c.size) (hb : BlkAt (w.setRow b cs') μ F (.pl b o) blk') :
    HS ⟨w, Tk hp μ, F⟩ μ F (hset hp l (some blk')) (w.setRow b cs') := by
  have hF : ¬ F b := (hl.blkAt hg hm).2
  have hext : Ext F w (w.setRow b cs') := Ext.setRow F w b c cs' e _ hh hF hsz
  have hT : Tk hp μ b := ⟨l, blk, o, hg, hm⟩
  refine ⟨Ext.setRow _ w b c cs' e _ hh (fun h => h.2 hT) hsz, fun b hb => hb, fun b' hb' => ⟨by have := (hl.fin b' hb').1; simp [World.setRow]; exact this, .inl hb'⟩, ?_, ?_⟩
  · intro l' blk1 hg1
    rw [hget_hset] at hg1
    split at hg1
    · rename_i he; subst he
      simp only [Option.some.injEq] at hg1; subst hg1
      obtain ⟨q, h1, h2, h3⟩ := hl.blk l' blk hg
      rw [hm, Option.some.injEq] at h1; subst h1
      exact ⟨_, hm, h2, hb⟩
    · rename_i hne
      obtain ⟨q, h1, h2, h3⟩ := hl.blk l' blk1 hg1
      refine ⟨q, h1, h2, h3.mono hext (fun _ h => h) (fun _ _ h => h) ?_⟩
      intro b' o' hq; subst hq
      exact setRow_heap_other w b b' cs' (hl.inj l' l blk1 blk b' o' b o hne hg1 hg h1 hm)
  · intro l1 l2 blk1 blk2 b1 o1 b2 o2 hne h1 h2 m1 m2
    rw [hget_hset] at h1 h2
    by_cases e1 : l1 = l
    · rw [if_neg (fun h => hne (e1.trans h.symm))] at h2
      subst e1
      exact hl.inj l1 l2 blk blk2 b1 o1 b2 o2 hne hg h2 m1 m2
    · rw [if_neg e1] at h1
      by_cases e2 : l2 = l
      · subst e2
        exact hl.inj l1 l2 blk1 blk b1 o1 b2 o2 hne h1 hg m1 m2
      · rw [if_neg e2] at h2
        exact hl.inj l1 l2 blk1 blk2 b1 o1 b2 o2 hne h1 h2 m1 m2
def selD (c : Bool) (x y : DV) : DV :=
  match x, y with
  | .x (.int k a), .x (.int k' b) => if k = k' then .x (.int k (bif c then a else b)) else bif c then x else y
  | .x (.bool a), .x (.bool b) => .x (.bool (bif c then a else b))
  | .x (.string a), .x (.string b) => .x (.string (bif c then a else b))
  | _, _ => bif c then x else y
theorem selD_eq (c : Bool) (x y : DV) : selD c x y = bif c then x else y := by
  unfold selD
  split
  · split
    · rename_i h; subst h; cases c <;> rfl
    · rfl
  · cases c <;> rfl
  · cases c <;> rfl
  · rfl
def dvsOf : List SV → Option (List DV)
  | [] => some []
  | .d v :: r => (dvsOf r).map (v :: ·)
  | _ :: _ => none
theorem dvsOf_spec : ∀ {cs : List SV} {ds : List DV}, dvsOf cs = some ds → ds.length = cs.length ∧ ∀ i, i < cs.length → cs.getD i uv = .d (ds.getD i (.x undef))
  | [], ds, h => by simp only [dvsOf, Option.some.injEq] at h; subst h; simp
  | .d v :: r, ds, h => by
    simp only [dvsOf, Option.map_eq_some_iff] at h
    obtain ⟨ds', h1, rfl⟩ := h
    obtain ⟨h2, h3⟩ := dvsOf_spec h1
    refine ⟨by simp [h2], fun i hi => ?_⟩
    cases i with
    | zero => simp
    | succ i => simpa using h3 i (by simpa using hi)
  | .ptr .. :: _, ds, h => by simp [dvsOf] at h
  | .pix .. :: _, ds, h => by simp [dvsOf] at h
  | .row .. :: _, ds, h => by simp [dvsOf] at h
  | .rop .. :: _, ds, h => by simp [dvsOf] at h
  | .agg .. :: _, ds, h => by simp [dvsOf] at h
  | .fn .. :: _, ds, h => by simp [dvsOf] at h
  | .tup .. :: _, ds, h => by simp [dvsOf] at h
  | .ifc .. :: _, ds, h => by simp [dvsOf] at h
def selS (c : Bool) (x y : SV) : SV :=
  match x, y with
  | .d a, .d b => .d (selD c a b)
  | _, _ => bif c then x else y
theorem selS_eq (c : Bool) (x y : SV) : selS c x y = bif c then x else y := by
  unfold selS
  split
  · rw [selD_eq]; cases c <;> rfl
  · rfl
def setPix (cs : List SV) (base m esz i j n : Nat) (xs : List SV) : List SV :=
  (List.range cs.length).map fun k => if base ≤ k ∧ k < base + m * esz ∧ j ≤ (k - base) % esz ∧ (k - base) % esz < j + n then selS (decide ((k - base) / esz = i)) (xs.getD ((k - base) % esz - j) uv) (cs.getD k uv) else cs.getD k uv
theorem length_setPix (cs : List SV) (base m esz i j n : Nat) (xs : List SV) : (setPix cs base m esz i j n xs).length = cs.length := by simp [setPix]
theorem getD_setPix {cs : List SV} {base m esz i j n : Nat} {xs : List SV} (hi : i < m) (hj : j + n ≤ esz) {k : Nat} (hk : k < cs.length) :
    (setPix cs base m esz i j n xs).getD k uv = if base + i * esz + j ≤ k ∧ k < base + i * esz + j + n then xs.getD (k - (base + i * esz + j)) uv else cs.getD k uv := by
  have e0 : (setPix cs base m esz i j n xs).getD k uv = if base ≤ k ∧ k < base + m * esz ∧ j ≤ (k - base) % esz ∧ (k - base) % esz < j + n then selS (decide ((k - base) / esz = i)) (xs.getD ((k - base) % esz - j) uv) (cs.getD k uv) else cs.getD k uv := by
    simp [setPix, List.getD, hk]
  rw [e0]
  have hm : (i + 1) * esz ≤ m * esz := Nat.mul_le_mul_right _ hi
  rw [Nat.add_mul] at hm
  by_cases h1 : base + i * esz + j ≤ k ∧ k < base + i * esz + j + n
  · obtain ⟨r, hr⟩ : ∃ r, k - base = i * esz + r := ⟨k - base - i * esz, by omega⟩
    have hrl : r < esz := by omega
    have e2 : (k - base) % esz = k - base - i * esz := by rw [hr, Nat.mul_add_mod_self_right, Nat.mod_eq_of_lt hrl]; omega
    have e3 : (k - base) / esz = i := by
      rw [hr, Nat.add_comm, Nat.add_mul_div_right _ _ (by omega), Nat.div_eq_of_lt hrl]; omega
    rw [if_pos h1, if_pos (by omega), selS_eq, e3, e2]
    simp only [decide_true, cond_true]
    congr 1; omega
  · rw [if_neg h1]
    split
    · rename_i h2
      rw [selS_eq]
      by_cases e3 : (k - base) / esz = i
      · exfalso
        have := Nat.div_add_mod (k - base) esz
        rw [e3, Nat.mul_comm] at this
        omega
      · simp [e3]
    · rfl
def absStore (P : Program) (hp : Heap) (t : TypeId) (p s : SV) : Tr Heap :=
  match tsz P t with
  | none => .fail
  | some n =>
    let xs := svcells s
    if boxOK s ∧ xs.length = n ∧ xs.all cellOK then
      match p with
      | .ptr l off =>
        match hget hp l with
        | some (.cells cs) => if off + n ≤ cs.length then .ret (hset hp l (some (.cells (setRange cs off xs)))) else .fail
        | some (.row m e _) => if off = 0 ∧ n = m * e then .ret (hset hp l (some (.cells xs))) else .fail
        | _ => .fail
      | .pix l base m esz i j =>
        match hget hp l with
        | some (.row n' esz' cell) =>
          match dvsOf xs with
          | some ds =>
            if base = 0 ∧ esz = esz' ∧ j + n ≤ esz then
              .nd (i < n') (.ret (hset hp l (some (.row n' esz fun a b => if j ≤ b ∧ b < j + n then selD (decide (a = i)) (ds.getD (b - j) (.x undef)) (cell a b) else cell a b))))
            else .fail
          | none => .fail
        | some (.cells cs) => if base + m * esz ≤ cs.length ∧ j + n ≤ esz then .nd (i < m) (.ret (hset hp l (some (.cells (setPix cs base m esz i j n xs))))) else .fail
        | _ => .fail
      | _ => .fail
    else .fail
theorem list_take_drop_getD (c : Array Value) (off : Nat) (vs : List Value) (i : Nat) (h : off + vs.length ≤ c.size) :
    ((c.toList.take off ++ vs ++ c.toList.drop (off + vs.length)).toArray).getD i undef = if off ≤ i ∧ i < off + vs.length then vs.getD (i - off) undef else c.getD i undef := by
  simp only [Array.getD_eq_getD_getElem?, List.getElem?_toArray]
  rw [List.append_assoc, List.getElem?_append]
  simp only [List.length_take, Array.length_toList]
  by_cases h1 : i < off
  · rw [if_pos (by omega), if_neg (by omega), List.getElem?_take, if_pos h1]; simp
  · rw [if_neg (by omega), List.getElem?_append, Nat.min_eq_left (by omega)]
    by_cases h2 : i < off + vs.length
    · rw [if_pos (by omega), if_pos (by omega)]; simp [List.getD]
    · rw [if_neg (by omega), if_neg (by omega), List.getElem?_drop]
      rw [show off + vs.length + (i - off - vs.length) = i by omega]; simp
theorem absStore_sound {P : Program} {w : World} {μ : Mu} {F : Nat → Prop} {hp hp' : Heap} {t : TypeId} {pv v : Value} {p s : SV} (hl : LH w μ F hp) (hpv : Rep w μ F pv p) (hv : Rep w μ F v s)
    (he : (absStore P hp t p s).ev hp') : ∃ w', (Instr.storeAt t pv v).run P w = .ok () w' ∧ HS ⟨w, Tk hp μ, F⟩ μ F hp' w' := by
  unfold absStore at he
  split at he
  · exact he.elim
  · rename_i n hn
    simp only [] at he
    split at he
    · rename_i hk
      obtain ⟨hb, hlen, hall⟩ := hk
      obtain ⟨h1, h2⟩ := rep_svcells hv (boxOK_one hb)
      have hone : ∀ u ∈ v.cells.toList, u.oneCell' = true := by
        intro u hu
        rw [List.mem_iff_getElem] at hu
        obtain ⟨i, hi, rfl⟩ := hu
        have hi' : i < (svcells s).length := by simp at hi; omega
        have := h2 i hi'
        have hi2 : i < v.cells.size := by simpa using hi
        simp only [Array.getD, hi2, dite_true] at this
        refine cellOK_one this ?_
        rw [List.all_eq_true] at hall
        refine hall _ ?_
        simp [List.getD, hi']
      have hone' : ∀ i, i < v.cells.toList.length → (v.cells.toList.getD i undef).oneCell' = true := by
        intro i hi
        refine hone _ ?_
        simp at hi
        simp [List.getD, hi]
      have run : ∀ b q (c : Array Value) e, w.heap[b]? = some (.cells c e (0, 0)) → q + n ≤ c.size →
          (Instr.storeAt t (.pointer (some ⟨b, q, none⟩)) v).run P w = .ok () (w.setRow b (c.toList.take q ++ v.cells.toList ++ c.toList.drop (q + v.cells.toList.length)).toArray) := by
        intro b q c e hh hq
        have := run_storeCells_at P b q e v.cells.toList 0 c w hh (by simp; omega) hone
        simp only [Nat.add_zero] at this
        unfold Instr.storeAt storeVar
        simp only [Instr.sureAddr, Sem.run_bind, Sem.run_pure, Result.andThen, run_tsz w hn]
        rw [if_neg (by omega)]
        exact this
      cases hpv with
      | ptr l off b o hm =>
        simp only [] at he
        split at he
        · rename_i cs hg
          split at he
          · rename_i hle
            simp only [Tr.ev] at he; subst he
            obtain ⟨⟨c, e, hh, hsz, hc, hc1⟩, hF⟩ := hl.blkAt hg hm
            refine ⟨_, run b (o + off) c e hh (by omega), hs_update hl hg hm hh (by simp; omega) ?_⟩
            have hext : Ext F w (w.setRow b (c.toList.take (o + off) ++ v.cells.toList ++ c.toList.drop (o + off + v.cells.toList.length)).toArray) := Ext.setRow F w b c _ e _ hh hF (by simp; omega)
            refine ⟨_, e, setRow_heap_same w b c e _ _ hh, by rw [length_setRange _ _ _ (by omega)]; simp; omega, fun i hi => ?_, fun i hi => ?_⟩
            rotate_left
            · rw [length_setRange _ _ _ (by omega)] at hi
              rw [list_take_drop_getD c (o + off) _ _ (by simp; omega)]
              split
              · exact hone' _ (by simp at *; omega)
              · exact hc1 i hi
            rw [length_setRange _ _ _ (by omega)] at hi
            rw [list_take_drop_getD c (o + off) _ _ (by simp; omega), getD_setRange _ _ _ _ (by omega)]
            simp only [Array.length_toList]
            by_cases hin : off ≤ i ∧ i < off + (svcells s).length
            · rw [if_pos hin, if_pos (by omega)]
              have := (h2 (i - off) (by omega)).mono hext (fun _ h => h) (fun _ _ h => h)
              rw [show o + i - (o + off) = i - off by omega]
              simpa [Array.getD, List.getD, show i - off < v.cells.size by omega] using this
            · rw [if_neg hin, if_neg (by omega)]
              exact (hc i hi).mono hext (fun _ h => h) (fun _ _ h => h)
          · exact he.elim
        · rename_i m ez cell hg
          split at he
          · rename_i hle
            obtain ⟨h00, hle⟩ := hle
            subst h00
            simp only [Tr.ev] at he; subst he
            obtain ⟨⟨c, e, hh, hsz, hc, hc1⟩, hF⟩ := hl.blkAt hg hm
            refine ⟨_, run b (o + 0) c e hh (by omega), hs_update hl hg hm hh (by simp; omega) ?_⟩
            have hext : Ext F w (w.setRow b (c.toList.take (o + 0) ++ v.cells.toList ++ c.toList.drop (o + 0 + v.cells.toList.length)).toArray) := Ext.setRow F w b c _ e _ hh hF (by simp; omega)
            refine ⟨_, e, setRow_heap_same w b c e _ _ hh, by simp; omega, fun i hi => ?_, fun i hi => ?_⟩
            rotate_left
            · rw [list_take_drop_getD c (o + 0) _ _ (by simp; omega)]
              rw [if_pos (by simp; omega)]
              exact hone' _ (by simp at *; omega)
            rw [list_take_drop_getD c (o + 0) _ _ (by simp; omega)]
            simp only [Array.length_toList]
            rw [if_pos (by omega)]
            have := (h2 i (by omega)).mono hext (fun _ h => h) (fun _ _ h => h)
            rw [show o + i - (o + 0) = i by omega]
            simpa [Array.getD, List.getD, show i < v.cells.size by omega] using this
          · exact he.elim
        · exact he.elim
      | pix l base m esz i j b o hm =>
        simp only [] at he
        split at he
        · rename_i n' esz' cell hg
          split at he
          rotate_left
          · exact he.elim
          rename_i ds hds
          split at he
          · rename_i hle
            obtain ⟨rfl, rfl, hj⟩ := hle
            simp only [Tr.ev] at he; obtain ⟨hi, rfl⟩ := he
            obtain ⟨⟨c, e, hh, hsz, hc, hc1⟩, hF⟩ := hl.blkAt hg hm
            obtain ⟨hd1, hd2⟩ := dvsOf_spec hds
            have hq : o + 0 + i * esz + j + n ≤ c.size := by
              have : (i + 1) * esz ≤ n' * esz := Nat.mul_le_mul_right _ hi
              rw [Nat.add_mul] at this
              omega
            refine ⟨_, run b (o + 0 + i * esz + j) c e hh hq, hs_update hl hg hm hh (by simp; omega) ?_⟩
            have hext : Ext F w (w.setRow b (c.toList.take (o + 0 + i * esz + j) ++ v.cells.toList ++ c.toList.drop (o + 0 + i * esz + j + v.cells.toList.length)).toArray) := Ext.setRow F w b c _ e _ hh hF (by simp; omega)
            refine ⟨_, e, setRow_heap_same w b c e _ _ hh, by simp; omega, fun a k ha hk => ?_, fun a k ha hk => ?_⟩
            rotate_left
            · rw [list_take_drop_getD c _ _ _ (by simp; omega)]
              split
              · exact hone' _ (by simp at *; omega)
              · exact hc1 a k ha hk
            rw [list_take_drop_getD c _ _ _ (by simp; omega)]
            simp only [Array.length_toList]
            have hrow : a ≠ i → (a * esz + k < i * esz + j ∨ i * esz + j + n ≤ a * esz + k) := by
              intro hne
              rcases Nat.lt_or_gt_of_ne hne with hlt | hgt
              · have : (a + 1) * esz ≤ i * esz := Nat.mul_le_mul_right _ hlt
                rw [Nat.add_mul] at this; omega
              · have : (i + 1) * esz ≤ a * esz := Nat.mul_le_mul_right _ hgt
                rw [Nat.add_mul] at this; omega
            have hold := (hc a k ha hk).mono hext (fun _ h => h)
            by_cases hai : a = i
            · subst hai
              by_cases hin : j ≤ k ∧ k < j + n
              · rw [if_pos hin, if_pos (by omega), selD_eq]
                simp only [decide_true, cond_true]
                have := (h2 (k - j) (by omega)).mono hext (fun _ h => h) (fun _ _ h => h)
                rw [hd2 (k - j) (by omega)] at this
                rw [show o + (a * esz + k) - (o + 0 + a * esz + j) = k - j by omega]
                have hd := rep_d this
                simpa [Array.getD, List.getD, show k - j < v.cells.size by omega] using hd
              · rw [if_neg hin, if_neg (by omega)]
                exact hold
            · have := hrow hai
              rw [if_neg (by omega)]
              split
              · rw [selD_eq]; simp only [hai, decide_false, cond_false]; exact hold
              · exact hold
          · exact he.elim
        · rename_i cs hg
          split at he
          · rename_i hle
            obtain ⟨hbm, hj⟩ := hle
            simp only [Tr.ev] at he; obtain ⟨hi, rfl⟩ := he
            obtain ⟨⟨c, e, hh, hsz, hc, hc1⟩, hF⟩ := hl.blkAt hg hm
            have hme : (i + 1) * esz ≤ m * esz := Nat.mul_le_mul_right _ hi
            rw [Nat.add_mul] at hme
            refine ⟨_, run b (o + base + i * esz + j) c e hh (by omega), hs_update hl hg hm hh (by simp; omega) ?_⟩
            have hext : Ext F w (w.setRow b (c.toList.take (o + base + i * esz + j) ++ v.cells.toList ++ c.toList.drop (o + base + i * esz + j + v.cells.toList.length)).toArray) := Ext.setRow F w b c _ e _ hh hF (by simp; omega)
            refine ⟨_, e, setRow_heap_same w b c e _ _ hh, by rw [length_setPix]; simp; omega, fun k hk => ?_, fun k hk => ?_⟩
            rotate_left
            · rw [length_setPix] at hk
              rw [list_take_drop_getD c _ _ _ (by simp; omega)]
              split
              · exact hone' _ (by simp at *; omega)
              · exact hc1 k hk
            rw [length_setPix] at hk
            rw [list_take_drop_getD c _ _ _ (by simp; omega), getD_setPix hi hj hk]
            simp only [Array.length_toList]
            by_cases hin : base + i * esz + j ≤ k ∧ k < base + i * esz + j + n
            · rw [if_pos hin, if_pos (by omega)]
              have := (h2 (k - (base + i * esz + j)) (by omega)).mono hext (fun _ h => h) (fun _ _ h => h)
              rw [show o + k - (o + base + i * esz + j) = k - (base + i * esz + j) by omega]
              simpa [Array.getD, List.getD, show k - (base + i * esz + j) < v.cells.size by omega] using this
            · rw [if_neg hin, if_neg (by omega)]
              exact (hc k hk).mono hext (fun _ h => h) (fun _ _ h => h)
          · exact he.elim
        · exact he.elim
      | _ => exact he.elim
    · exact he.elim
def absIndexAddr (P : Program) (hp : Heap) (t : TypeId) (x ix : SV) : Tr SV :=
  match ix with
  | .d (.x (.int k i)) =>
    match P.underlying t, x with
    | some (.slice elem), .d (.ro len esz cell) =>
      if tsz P elem = some esz then .nd (0 ≤ i ∧ i < len) (.ret (.rop esz fun j => cell i.toNat j)) else .fail
    | some (.slice elem), .row l base off len esz =>
      if tsz P elem = some esz then .nd (0 ≤ i ∧ i < len) (.ret (.pix l base (off + len) esz (off + i.toNat) 0)) else .fail
    | some (.array n elem), .ptr l off =>
      match tsz P elem with
      | some esz => .nd (0 ≤ i ∧ i < n) (.ret (.pix l off n esz i.toNat 0))
      | none => .fail
    | some (.array n elem), .pix l base m e a j =>
      match tsz P elem with
      | some esz => .nd (0 ≤ i ∧ i < n) (.ret (.pix l base m e a (j + i.toNat * esz)))
      | none => .fail
    | some (.array n elem), .rop m cell =>
      match tsz P elem with
      | some esz => if n * esz ≤ m then .nd (0 ≤ i ∧ i < n) (.ret (.rop esz fun j => cell (i.toNat * esz + j))) else .fail
      | none => .fail
    | some (.slice elem), .d (.x (.slice ad n c)) =>
      match tsz P elem with
      | some esz => .need (∃ b o, ad = some ⟨b, o, none⟩) (.nd (0 ≤ i ∧ i < n) (.ret (.d (.x (.pointer (ad.map fun a => ⟨a.block, a.off + i.toNat * esz, none⟩))))))
      | none => .fail
    | _, _ => .fail
  | _ => .fail
theorem absIndexAddr_sound {P : Program} {w : World} {μ : Mu} {F : Nat → Prop} {hp : Heap} {t : TypeId} {xv iv : Value} {x ix r : SV} (hx : Rep w μ F xv x) (hi : Rep w μ F iv ix) (he : (absIndexAddr P hp t x ix).ev r) :
    ∃ u, (Instr.indexAt t xv iv).run P w = .ok u w ∧ Rep w μ F u r := by
  unfold absIndexAddr at he
  split at he
  · rename_i k i
    have := rep_x hi; subst this
    split at he
    · rename_i elem len esz cell hu
      split at he
      · rename_i hs
        obtain ⟨hb, he⟩ := he
        simp only [Tr.ev] at he; subst he
        generalize hsv : SV.d (.ro len esz cell) = sv at hx
        cases hx with
        | d hd =>
          simp only [SV.d.injEq] at hsv; subst hsv
          generalize hdv : DV.ro len esz cell = dv at hd
          cases hd with
          | x => cases hdv
          | rf => cases hdv
          | nil => cases hdv; omega
          | z => cases hdv; omega
          | ro b o len' cap esz' cell' f hF hc hcell hone hrep =>
            cases hdv
            refine ⟨.pointer (some ⟨b, o + i.toNat * esz, none⟩), ?_, ?_⟩
            · unfold Instr.indexAt
              simp only [asIntOf, Sem.run_bind, Sem.run_pure, Result.andThen, run_underlying hu]
              rw [if_pos (by omega)]
              simp only [Sem.run_bind, run_tsz w hs, Result.andThen, Sem.run_pure, add_none]
            · refine .rop b _ esz _ (fun j => f i.toNat j) (fun _ => hF (by omega)) (fun j hj => ?_) (fun j hj => hone _ _ (by omega) hj) (fun j hj => hrep _ _ (by omega) hj)
              rw [Nat.add_assoc]; exact hcell _ _ (by omega) hj
        | _ => cases hsv
      · exact he.elim
    · rename_i elem l base off len esz hu
      split at he
      · rename_i hs
        obtain ⟨hb, he⟩ := he
        simp only [Tr.ev] at he; subst he
        cases hx with
        | rnil => omega
        | rz => omega
        | row _ _ _ _ _ b o cap hm hc hz =>
          refine ⟨.pointer (some ⟨b, o + base + off * esz + i.toNat * esz, none⟩), ?_, ?_⟩
          · unfold Instr.indexAt
            simp only [asIntOf, Sem.run_bind, Sem.run_pure, Result.andThen, run_underlying hu]
            rw [if_pos (by omega)]
            simp only [Sem.run_bind, run_tsz w hs, Result.andThen, Sem.run_pure, add_none]
          · have := Rep.pix (w := w) (F := F) l base (off + len) esz (off + i.toNat) 0 b o hm
            rw [show o + base + (off + i.toNat) * esz + 0 = o + base + off * esz + i.toNat * esz by rw [Nat.add_mul]; omega] at this
            exact this
      · exact he.elim
    · rename_i n elem l off hu
      split at he
      · rename_i esz hs
        obtain ⟨hb, he⟩ := he
        simp only [Tr.ev] at he; subst he
        cases hx with
        | ptr _ _ b o hm =>
          refine ⟨.pointer (some ⟨b, o + off + i.toNat * esz, none⟩), ?_, ?_⟩
          · unfold Instr.indexAt
            simp only [asIntOf, Sem.run_bind, Sem.run_pure, Result.andThen, run_underlying hu, Instr.sureAddr]
            rw [if_pos (by omega)]
            simp only [Sem.run_bind, run_tsz w hs, Result.andThen, Sem.run_pure, add_none]
          · have := Rep.pix (w := w) (F := F) l off n esz i.toNat 0 b o hm
            rw [Nat.add_zero] at this
            exact this
      · exact he.elim
    · rename_i n elem l base m e a j hu
      split at he
      · rename_i esz hs
        obtain ⟨hb, he⟩ := he
        simp only [Tr.ev] at he; subst he
        cases hx with
        | pix _ _ _ _ _ _ b o hm =>
          refine ⟨.pointer (some ⟨b, o + base + a * e + j + i.toNat * esz, none⟩), ?_, ?_⟩
          · unfold Instr.indexAt
            simp only [asIntOf, Sem.run_bind, Sem.run_pure, Result.andThen, run_underlying hu, Instr.sureAddr]
            rw [if_pos (by omega)]
            simp only [Sem.run_bind, run_tsz w hs, Result.andThen, Sem.run_pure, add_none]
          · have := Rep.pix (w := w) (F := F) l base m e a (j + i.toNat * esz) b o hm
            rw [← Nat.add_assoc] at this
            exact this
      · exact he.elim
    · rename_i n elem m cell hu
      split at he
      · rename_i esz hs
        split at he
        · rename_i hle
          obtain ⟨hb, he⟩ := he
          simp only [Tr.ev] at he; subst he
          cases hx with
          | rop b o _ _ f hF hcell hone hrep =>
            have hlt : ∀ j, j < esz → i.toNat * esz + j < m := by
              intro j hj
              have : (i.toNat + 1) * esz ≤ n * esz := Nat.mul_le_mul_right _ (by omega)
              rw [Nat.add_mul] at this; omega
            refine ⟨.pointer (some ⟨b, o + i.toNat * esz, none⟩), ?_, ?_⟩
            · unfold Instr.indexAt
              simp only [asIntOf, Sem.run_bind, Sem.run_pure, Result.andThen, run_underlying hu, Instr.sureAddr]
              rw [if_pos (by omega)]
              simp only [Sem.run_bind, run_tsz w hs, Result.andThen, Sem.run_pure, add_none]
            · refine .rop b _ esz _ (fun j => f (i.toNat * esz + j)) (fun h => hF (by have := hlt 0 (by omega); omega)) (fun j hj => ?_) (fun j hj => hone _ (hlt j hj)) (fun j hj => hrep _ (hlt j hj))
              rw [Nat.add_assoc]; exact hcell _ (hlt j hj)
        · exact he.elim
      · exact he.elim
    · rename_i elem ad n c hu
      split at he
      · rename_i esz hs
        obtain ⟨⟨b, o, rfl⟩, hb, he⟩ := he
        simp only [Tr.ev] at he; subst he
        have := rep_x hx; subst this
        refine ⟨.pointer (some ⟨b, o + i.toNat * esz, none⟩), ?_, .d (.x _)⟩
        unfold Instr.indexAt
        simp only [asIntOf, Sem.run_bind, Sem.run_pure, Result.andThen, run_underlying hu]
        rw [if_pos (by omega)]
        simp only [Sem.run_bind, run_tsz w hs, Result.andThen, Sem.run_pure, add_none]
      · exact he.elim
    · exact he.elim
  · exact he.elim
end
end Go.Sx
namespace Go.Sx
noncomputable section
def eqFieldsA (eqv : TypeId → SV → SV → Option Bool) (P : Program) (xs ys : List SV) : List Field → Option Bool
  | [] => some true
  | f :: fs =>
    if f.name ≠ "_" then
      match absPart P f.type xs f.offset, absPart P f.type ys f.offset with
      | some a, some b =>
        match eqv f.type a b, eqFieldsA eqv P xs ys fs with
        | some p, some q => some (p && q)
        | _, _ => none
      | _, _ => none
    else eqFieldsA eqv P xs ys fs
def eqItemsA (eqv : TypeId → SV → SV → Option Bool) (P : Program) (xs ys : List SV) (e : TypeId) (c : Nat) : List Nat → Option Bool
  | [] => some true
  | i :: is =>
    match absPart P e xs (i * c), absPart P e ys (i * c) with
    | some a, some b =>
      match eqv e a b, eqItemsA eqv P xs ys e c is with
      | some p, some q => some (p && q)
      | _, _ => none
    | _, _ => none
def eqV (P : Program) : Nat → TypeId → SV → SV → Option Bool
  | 0, _, _, _ => none
  | d + 1, t, x, y =>
    match P.underlying t, x, y with
    | some .bool, .d (.x (.bool a)), .d (.x (.bool b)) => some (a == b)
    | some (.int _), .d (.x (.int k a)), .d (.x (.int k' b)) => if k = k' then some (a == b) else none
    | some .string, .d (.x (.string a)), .d (.x (.string b)) => some (a == b)
    | some (.struct fs), .agg xs, .agg ys => if P.stoodInHeld t then none else eqFieldsA (eqV P d) P xs ys fs.toList
    | some (.array n e), .agg xs, .agg ys => if (P.info? e).isSome = true then eqItemsA (eqV P d) P xs ys e (P.cellsOf e) (List.range n) else none
    | _, _, _ => none
theorem eqV_sound {P : Program} {w : World} {μ : Mu} {F : Nat → Prop} : ∀ (d e : Nat) {t : TypeId} {xv yv : Value} {x y : SV} {r : Bool}, Rep w μ F xv x → Rep w μ F yv y → eqV P d t x y = some r →
    (Op.equalIn (d + e) t xv yv).run P w = .ok r w
  | 0, e, t, xv, yv, x, y, r, _, _, h => by simp [eqV] at h
  | d + 1, e, t, xv, yv, x, y, r, hx, hy, h => by
    unfold eqV at h
    rw [show d + 1 + e = (d + e) + 1 by omega]
    split at h
    · rename_i a b hu
      simp only [Option.some.injEq] at h; subst h
      rw [rep_x hx, rep_x hy]; exact run_equalIn_bool' w _ t a b hu
    · rename_i k0 k a k' b hu
      split at h
      · rename_i hk; subst hk
        simp only [Option.some.injEq] at h; subst h
        rw [rep_x hx, rep_x hy]; exact run_equalIn_int w _ t k k0 a b hu
      · cases h
    · rename_i a b hu
      simp only [Option.some.injEq] at h; subst h
      rw [rep_x hx, rep_x hy, run_equalIn_string w _ t a b hu, beq_toListBytes]
    · rename_i fs xs ys hu
      split at h
      · cases h
      · rename_i hst
        cases hx with
        | agg cx _ hlx hix =>
          cases hy with
          | agg cy _ hly hiy =>
            have hfs : P.fieldsOf t = fs := by simp [Program.fieldsOf, hu]
            rw [run_equalIn_struct w (d + e) t cx cy (by rw [hfs]; exact hu) (by simpa using hst), hfs]
            clear hfs hu
            generalize fs.toList = l at h ⊢
            induction l generalizing r with
            | nil => simp only [eqFieldsA, Option.some.injEq] at h; subst h; rfl
            | cons f l ih =>
              unfold eqFieldsA at h
              unfold Op.eqFields
              split at h
              · rename_i hn
                rw [if_pos hn]
                split at h
                · rename_i a b ha hb
                  split at h
                  · rename_i p q hp hq
                    simp only [Option.some.injEq] at h; subst h
                    obtain ⟨ua, ra, repa⟩ := absPart_sound hlx hix ha
                    obtain ⟨ub, rb, repb⟩ := absPart_sound hly hiy hb
                    have := eqV_sound d e repa repb hp
                    simp only [Sem.run_bind, ra, Result.andThen, rb, this]
                    cases p with
                    | true => simp only [Bool.not_true, Bool.false_eq_true, if_false, Bool.true_and]; exact ih _ hq
                    | false => simp
                  · cases h
                · cases h
              · rename_i hn
                rw [if_neg hn]
                exact ih _ h
    · rename_i n el xs ys hu
      split at h
      · rename_i hin
        obtain ⟨inf, hinf⟩ := Option.isSome_iff_exists.1 hin
        cases hx with
        | agg cx _ hlx hix =>
          cases hy with
          | agg cy _ hly hiy =>
            rw [run_equalIn_array w (d + e) cx cy hu hinf]
            generalize List.range n = l at h ⊢
            induction l generalizing r with
            | nil => simp only [eqItemsA, Option.some.injEq] at h; subst h; simp [Op.eqItems]
            | cons j l ih =>
              unfold eqItemsA at h
              unfold Op.eqItems
              split at h
              · rename_i a b ha hb
                split at h
                · rename_i p q hp hq
                  simp only [Option.some.injEq] at h; subst h
                  obtain ⟨ua, ra, repa⟩ := absPart_sound hlx hix ha
                  obtain ⟨ub, rb, repb⟩ := absPart_sound hly hiy hb
                  have := eqV_sound d e repa repb hp
                  simp only [Sem.run_bind, ra, Result.andThen, rb, this]
                  cases p with
                  | true => simp only [Bool.not_true, Bool.false_eq_true, if_false, Bool.true_and]; exact ih _ hq
                  | false => simp
                · cases h
              · cases h
      · cases h
    · cases h
def absBin (P : Program) (op : BinOp) (t : TypeId) (x y : Operand) (a b : SV) : Tr SV :=
  match op, a, b with
  | .quo, .d (.x (.int k m)), .d (.x (.int k' n)) => if k = k' then .nd (n ≠ 0) (.ret (.d (.x (.int k (k.wrap (m.tdiv n)))))) else .fail
  | .rem, .d (.x (.int k m)), .d (.x (.int k' n)) => if k = k' then .nd (n ≠ 0) (.ret (.d (.x (.int k (m.tmod n))))) else .fail
  | .shl, .d (.x (.int k m)), .d (.x (.int _ n)) => .nd (0 ≤ n) (.ret (.d (.x (.int k (k.wrap (m * 2 ^ (min n.toNat k.bits)))))))
  | .shr, .d (.x (.int k m)), .d (.x (.int _ n)) => .nd (0 ≤ n) (.ret (.d (.x (.int k (m.fdiv (2 ^ (min n.toNat k.bits)))))))
  | .eql, .agg xs, .agg ys => if P.eqGuardType P.depth t then .fail else match eqV P 100 t (.agg xs) (.agg ys) with | some r => .ret (.d (.x (.bool r))) | none => .fail
  | .neq, .agg xs, .agg ys => if P.eqGuardType P.depth t then .fail else match eqV P 100 t (.agg xs) (.agg ys) with | some r => .ret (.d (.x (.bool (!r)))) | none => .fail
  | _, _, _ =>
    match exact a, exact b with
    | some u, some v =>
      match pureRun P (do eqGuard op t x y u v; binOp op t u v) with
      | some r => if (ofValue r matches .d _) then .ret (ofValue r) else .fail
      | none => .fail
    | _, _ => .fail
theorem run_andThen_ok {α β : Type} {P : Program} {s : Sem α} {f : α → Sem β} {w w' : World} {a : α} (h : s.run P w = .ok a w') : (do let x ← s; f x).run P w = (f a).run P w' := by
  simp only [Sem.run_bind, h, Result.andThen]
theorem absBin_sound {P : Program} {w : World} {μ : Mu} {F : Nat → Prop} {op : BinOp} {t : TypeId} {x y : Operand} {av bv : Value} {a b r : SV} (ha : Rep w μ F av a) (hb : Rep w μ F bv b) (he : (absBin P op t x y a b).ev r) :
    ∃ u, ((do eqGuard op t x y av bv; binOp op t av bv) : Sem Value).run P w = .ok u w ∧ Rep w μ F u r := by
  have hint : ∀ (op : BinOp) (k k' : IntKind) (m n : Int), (op = .quo ∨ op = .rem ∨ op = .shl ∨ op = .shr) → (eqGuard op t x y (.int k m) (.int k' n)).run P w = .ok () w := by
    intro op k k' m n h
    rcases h with rfl | rfl | rfl | rfl <;> rfl
  unfold absBin at he
  split at he
  · rename_i k m k' n
    split at he
    · rename_i hk; subst hk
      obtain ⟨hn, he⟩ := he
      simp only [Tr.ev] at he; subst he
      rw [rep_x ha, rep_x hb]
      refine ⟨_, ?_, .d (.x _)⟩
      rw [run_andThen_ok (hint .quo k k m n (by simp))]
      simp [binOp, Op.intDiv, hn]
    · exact he.elim
  · rename_i k m k' n
    split at he
    · rename_i hk; subst hk
      obtain ⟨hn, he⟩ := he
      simp only [Tr.ev] at he; subst he
      rw [rep_x ha, rep_x hb]
      refine ⟨_, ?_, .d (.x _)⟩
      rw [run_andThen_ok (hint .rem k k m n (by simp))]
      simp [binOp, Op.intDiv, hn]
    · exact he.elim
  · rename_i k m k' n
    obtain ⟨hn, he⟩ := he
    simp only [Tr.ev] at he; subst he
    rw [rep_x ha, rep_x hb]
    refine ⟨_, ?_, .d (.x _)⟩
    rw [run_andThen_ok (hint .shl k k' m n (by simp))]
    simp [binOp, Op.shift, show ¬ n < 0 by omega]
  · rename_i k m k' n
    obtain ⟨hn, he⟩ := he
    simp only [Tr.ev] at he; subst he
    rw [rep_x ha, rep_x hb]
    refine ⟨_, ?_, .d (.x _)⟩
    rw [run_andThen_ok (hint .shr k k' m n (by simp))]
    simp [binOp, Op.shift, show ¬ n < 0 by omega]
  · rename_i xs ys
    split at he
    · exact he.elim
    · rename_i hg
      split at he
      · rename_i q hq
        simp only [Tr.ev] at he; subst he
        cases ha with
        | agg cx _ hlx hix =>
          cases hb with
          | agg cy _ hly hiy =>
            refine ⟨_, ?_, .d (.x _)⟩
            rw [run_andThen_ok (run_eqGuard_agg w .eql t x y cx cy (by simpa using hg)), run_eql_struct, eqV_sound 100 9900 (.agg cx xs hlx hix) (.agg cy ys hly hiy) hq]
            rfl
      · exact he.elim
  · rename_i xs ys
    split at he
    · exact he.elim
    · rename_i hg
      split at he
      · rename_i q hq
        simp only [Tr.ev] at he; subst he
        cases ha with
        | agg cx _ hlx hix =>
          cases hb with
          | agg cy _ hly hiy =>
            refine ⟨_, ?_, .d (.x _)⟩
            rw [run_andThen_ok (run_eqGuard_agg w .neq t x y cx cy (by simpa using hg)), run_neq_struct, eqV_sound 100 9900 (.agg cx xs hlx hix) (.agg cy ys hly hiy) hq]
            rfl
      · exact he.elim
  · split at he
    · rename_i u v hu hv
      split at he
      · rename_i q hq
        split at he
        · simp only [Tr.ev] at he; subst he
          rw [exact_spec hu ha, exact_spec hv hb]
          exact ⟨q, pureRun_run w hq, rep_ofValue w μ F q⟩
        · exact he.elim
      · exact he.elim
    · exact he.elim
def absPure (P : Program) (s : Sem Value) : Tr SV :=
  match pureRun P s with
  | some r => .ret (ofValue r)
  | none => .fail
theorem absPure_sound {P : Program} {w : World} {μ : Mu} {F : Nat → Prop} {s : Sem Value} {r : SV} (he : (absPure P s).ev r) : ∃ u, s.run P w = .ok u w ∧ Rep w μ F u r := by
  unfold absPure at he
  split at he
  · rename_i q hq
    simp only [Tr.ev] at he; subst he
    exact ⟨q, pureRun_run w hq, rep_ofValue w μ F q⟩
  · exact he.elim
def absBound (x : Option SV) (dflt bound : Nat) : Option (Nat × Prop) :=
  match x with
  | none => some (dflt, True)
  | some (.d (.x (.int _ i))) => some (i.toNat, 0 ≤ i ∧ i.toNat ≤ bound)
  | _ => none
theorem run_sliceBounds {P : Program} {w : World} {μ : Mu} {F : Nat → Prop} {isS : Bool} {len cap top l h : Nat} {lo hi : Option Value} {slo shi : Option SV} {pl ph : Prop}
    (hlo : ∀ v, lo = some v → ∃ s, slo = some s ∧ Rep w μ F v s) (hhi : ∀ v, hi = some v → ∃ s, shi = some s ∧ Rep w μ F v s) (hlo0 : lo = none → slo = none) (hhi0 : hi = none → shi = none)
    (ht : top ≤ cap) (htl : len ≤ top) (eh : absBound shi len top = some (h, ph)) (el : absBound slo 0 h = some (l, pl)) (hph : ph) (hpl : pl) :
    (Instr.sliceBounds isS len cap lo hi none).run P w = .ok (l, h, cap) w ∧ l ≤ h ∧ h ≤ top := by
  have hhi' : ∃ e : (match hi with | some v => Instr.sliceBound v cap (if isS then .sliceAcap else .sliceAlen) | none => (pure len : Sem Nat)).run P w = .ok h w, h ≤ top := by
    cases hi with
    | none =>
      rw [hhi0 rfl] at eh
      simp only [absBound, Option.some.injEq, Prod.mk.injEq] at eh
      exact ⟨by rw [← eh.1]; rfl, by omega⟩
    | some v =>
      obtain ⟨s, hs, hr⟩ := hhi v rfl
      subst hs
      unfold absBound at eh
      split at eh
      · contradiction
      · rename_i k i heq
        simp only [Option.some.injEq] at heq; subst heq
        simp only [Option.some.injEq, Prod.mk.injEq] at eh
        obtain ⟨rfl, rfl⟩ := eh
        have := rep_x hr; subst this
        exact ⟨run_sliceBound w k i cap _ hph.1 (by omega), hph.2⟩
      · cases eh
  obtain ⟨e1, e2⟩ := hhi'
  have hlo' : ∃ e : (match lo with | some v => Instr.sliceBound v h (if (none : Option Value).isSome then .slice3C else .sliceB) | none => (pure 0 : Sem Nat)).run P w = .ok l w, l ≤ h := by
    cases lo with
    | none =>
      rw [hlo0 rfl] at el
      simp only [absBound, Option.some.injEq, Prod.mk.injEq] at el
      exact ⟨by rw [← el.1]; rfl, by omega⟩
    | some v =>
      obtain ⟨s, hs, hr⟩ := hlo v rfl
      subst hs
      unfold absBound at el
      split at el
      · contradiction
      · rename_i k i heq
        simp only [Option.some.injEq] at heq; subst heq
        simp only [Option.some.injEq, Prod.mk.injEq] at el
        obtain ⟨rfl, rfl⟩ := el
        have := rep_x hr; subst this
        exact ⟨run_sliceBound w k i h _ hpl.1 (by omega), hpl.2⟩
      · cases el
  obtain ⟨e3, e4⟩ := hlo'
  refine ⟨?_, e4, e2⟩
  unfold Instr.sliceBounds
  simp only [Sem.run_bind, Sem.run_pure, Result.andThen]
  cases hi <;> cases lo <;> simp only [Sem.run_bind, Sem.run_pure, Result.andThen] at e1 e3 ⊢ <;> simp_all
def absSlice (P : Program) (t : TypeId) (x : SV) (lo hi : Option SV) : Tr SV :=
  match P.underlying t, x with
  | some .string, .d (.x (.string s)) =>
    match absBound hi s.size s.size with
    | some (h, ph) => match absBound lo 0 h with
      | some (l, pl) => .need (ph ∧ pl) (.ret (.d (.x (.string (s.extract l h)))))
      | none => .fail
    | none => .fail
  | some (.slice elem), .d (.ro len esz cell) =>
    match absBound hi len len with
    | some (h, ph) => match absBound lo 0 h with
      | some (l, pl) => if tsz P elem = some esz then .need (ph ∧ pl) (.ret (.d (.ro (h - l) esz fun i j => cell (l + i) j))) else .fail
      | none => .fail
    | none => .fail
  | some (.slice elem), .row m base off len esz =>
    match absBound hi len len with
    | some (h, ph) => match absBound lo 0 h with
      | some (l, pl) => if tsz P elem = some esz then .need (ph ∧ pl) (.ret (.row m base (off + l) (h - l) esz)) else .fail
      | none => .fail
    | none => .fail
  | some (.array n elem), .ptr m off =>
    match absBound hi n n with
    | some (h, ph) => match absBound lo 0 h with
      | some (l, pl) => match tsz P elem with
        | some esz => .need (ph ∧ pl) (.ret (.row m off l (h - l) esz))
        | none => .fail
      | none => .fail
    | none => .fail
  | some (.array n elem), .rop m cell =>
    match absBound hi n n with
    | some (h, ph) => match absBound lo 0 h with
      | some (l, pl) => match tsz P elem with
        | some esz => if n * esz ≤ m ∧ 0 < esz then .need (ph ∧ pl) (.ret (.d (.ro (h - l) esz fun i j => cell ((l + i) * esz + j)))) else .fail
        | none => .fail
      | none => .fail
    | none => .fail
  | _, _ => .fail
theorem absSlice_sound {P : Program} {w : World} {μ : Mu} {F : Nat → Prop} {hp : Heap} {t : TypeId} {xv : Value} {x r : SV} {lo hi : Option Value} {slo shi : Option SV} (hl : LH w μ F hp)
    (hlo : ∀ v, lo = some v → ∃ s, slo = some s ∧ Rep w μ F v s) (hhi : ∀ v, hi = some v → ∃ s, shi = some s ∧ Rep w μ F v s) (hlo0 : lo = none → slo = none) (hhi0 : hi = none → shi = none)
    (hx : Rep w μ F xv x) (hbz : ∀ m off, x = .ptr m off → ∀ n elem esz, P.underlying t = some (.array n elem) → tsz P elem = some esz → ∀ b o, μ m = some (.pl b o) → o + off + n * esz ≤ bsz w b) (he : (absSlice P t x slo shi).ev r) :
    ∃ u, (Instr.sliceAt t xv lo hi none).run P w = .ok u w ∧ Rep w μ F u r := by
  unfold absSlice at he
  split at he
  · rename_i s hu
    split at he
    · rename_i h ph eh
      split at he
      · rename_i l pl el
        obtain ⟨⟨hph, hpl⟩, he⟩ := he
        simp only [Tr.ev] at he; subst he
        obtain ⟨hr, h1, h2⟩ := run_sliceBounds (P := P) (isS := false) (cap := s.size) hlo hhi hlo0 hhi0 (Nat.le_refl _) (Nat.le_refl _) eh el hph hpl
        rw [rep_x hx]
        refine ⟨.string (s.extract l h), ?_, .d (.x _)⟩
        unfold Instr.sliceAt
        simp only [Sem.run_bind, run_underlying hu, Result.andThen]
        unfold Instr.slice
        simp only [Sem.run_bind, run_underlying hu, Result.andThen, Option.isSome_none, Bool.false_eq_true, if_false, hr, Sem.run_pure]
      · exact he.elim
    · exact he.elim
  · rename_i elem len esz cell hu
    split at he
    · rename_i h ph eh
      split at he
      · rename_i l pl el
        split at he
        · rename_i hs
          obtain ⟨⟨hph, hpl⟩, he⟩ := he
          simp only [Tr.ev] at he; subst he
          have hd := rep_d hx
          generalize hdv : DV.ro len esz cell = dv at hd
          cases hd with
          | x => cases hdv
          | rf => cases hdv
          | nil =>
            cases hdv
            obtain ⟨hr, h1, h2⟩ := run_sliceBounds (P := P) (isS := true) (cap := 0) hlo hhi hlo0 hhi0 (Nat.le_refl _) (Nat.le_refl _) eh el hph hpl
            have : h = 0 := by omega
            subst this
            have : l = 0 := by omega
            subst this
            refine ⟨.slice none 0 0, ?_, .d (.nil _ _)⟩
            unfold Instr.sliceAt
            simp only [Sem.run_bind, run_underlying hu, Result.andThen]
            unfold Instr.slice
            simp only [Sem.run_bind, run_underlying hu, Result.andThen, hr, run_tsz w hs, Sem.run_pure]
            simp
          | z a cap esz' cell' =>
            cases hdv
            obtain ⟨hr, h1, h2⟩ := run_sliceBounds (P := P) (isS := true) (cap := cap) hlo hhi hlo0 hhi0 (Nat.zero_le _) (Nat.le_refl _) eh el hph hpl
            have : h = 0 := by omega
            subst this
            have : l = 0 := by omega
            subst this
            refine ⟨.slice (some a) 0 cap, ?_, .d (.z a cap _ _)⟩
            unfold Instr.sliceAt
            simp only [Sem.run_bind, run_underlying hu, Result.andThen]
            unfold Instr.slice
            simp only [Sem.run_bind, run_underlying hu, Result.andThen, hr, run_tsz w hs, Sem.run_pure]
            by_cases hcl : cap = 0
            · subst hcl; simp
            · simp [hcl, Addr.add]
          | ro b o len' cap esz' cell' f hF hc hcell hone hrep =>
            cases hdv
            obtain ⟨hr, h1, h2⟩ := run_sliceBounds (P := P) (isS := true) (cap := cap) hlo hhi hlo0 hhi0 hc (Nat.le_refl _) eh el hph hpl
            by_cases hcl : cap = l
            · refine ⟨.slice (some ⟨b, o, none⟩) (h - l) (cap - l), ?_, .d (.ro b o _ _ esz _ (fun i j => f (l + i) j) (fun h => by omega) (by omega) (fun i j hi => by omega) (fun i j hi => by omega) (fun i j hi => by omega))⟩
              unfold Instr.sliceAt
              simp only [Sem.run_bind, run_underlying hu, Result.andThen]
              unfold Instr.slice
              simp only [Sem.run_bind, run_underlying hu, Result.andThen, hr, run_tsz w hs, Sem.run_pure]
              rw [if_pos hcl]
            · refine ⟨.slice (some ⟨b, o + l * esz, none⟩) (h - l) (cap - l), ?_, .d (.ro b _ _ _ esz _ (fun i j => f (l + i) j) (fun h => hF (by omega)) (by omega) (fun i j hi hj => ?_) (fun i j hi hj => hone _ _ (by omega) hj) (fun i j hi hj => hrep _ _ (by omega) hj))⟩
              · unfold Instr.sliceAt
                simp only [Sem.run_bind, run_underlying hu, Result.andThen]
                unfold Instr.slice
                simp only [Sem.run_bind, run_underlying hu, Result.andThen, hr, run_tsz w hs, Sem.run_pure, hcl, if_false, Option.map_some, add_none]
              · rw [show o + l * esz + (i * esz + j) = o + ((l + i) * esz + j) by rw [Nat.add_mul]; omega]
                exact hcell _ _ (by omega) hj
        · exact he.elim
      · exact he.elim
    · exact he.elim
  · rename_i elem m base off len esz hu
    split at he
    · rename_i h ph eh
      split at he
      · rename_i l pl el
        split at he
        · rename_i hs
          obtain ⟨⟨hph, hpl⟩, he⟩ := he
          simp only [Tr.ev] at he; subst he
          cases hx with
          | rnil _ _ _ _ hm =>
            obtain ⟨hr, h1, h2⟩ := run_sliceBounds (P := P) (isS := true) (cap := 0) hlo hhi hlo0 hhi0 (Nat.le_refl _) (Nat.le_refl _) eh el hph hpl
            have : h = 0 := by omega
            subst this
            have : l = 0 := by omega
            subst this
            refine ⟨.slice none 0 0, ?_, .rnil _ _ _ _ hm⟩
            unfold Instr.sliceAt
            simp only [Sem.run_bind, run_underlying hu, Result.andThen]
            unfold Instr.slice
            simp only [Sem.run_bind, run_underlying hu, Result.andThen, hr, run_tsz w hs, Sem.run_pure]
            simp
          | rz _ _ _ _ b' o' q hm =>
            obtain ⟨hr, h1, h2⟩ := run_sliceBounds (P := P) (isS := true) (cap := 0) hlo hhi hlo0 hhi0 (Nat.le_refl _) (Nat.le_refl _) eh el hph hpl
            have : h = 0 := by omega
            subst this
            have : l = 0 := by omega
            subst this
            refine ⟨.slice (some ⟨b', o', none⟩) 0 0, ?_, .rz _ _ _ _ b' o' q hm⟩
            unfold Instr.sliceAt
            simp only [Sem.run_bind, run_underlying hu, Result.andThen]
            unfold Instr.slice
            simp only [Sem.run_bind, run_underlying hu, Result.andThen, hr, run_tsz w hs, Sem.run_pure]
            simp
          | row _ _ _ _ _ b o cap hm hc hz =>
            obtain ⟨hr, h1, h2⟩ := run_sliceBounds (P := P) (isS := true) (cap := cap) hlo hhi hlo0 hhi0 hc (Nat.le_refl _) eh el hph hpl
            by_cases hcl : cap = l
            · refine ⟨.slice (some ⟨b, o + base + off * esz, none⟩) (h - l) (cap - l), ?_, ?_⟩
              · unfold Instr.sliceAt
                simp only [Sem.run_bind, run_underlying hu, Result.andThen]
                unfold Instr.slice
                simp only [Sem.run_bind, run_underlying hu, Result.andThen, hr, run_tsz w hs, Sem.run_pure]
                rw [if_pos hcl]
              · rw [show h - l = 0 by omega, show cap - l = 0 by omega]
                exact .rz _ _ _ _ _ _ _ hm
            · refine ⟨.slice (some ⟨b, o + base + off * esz + l * esz, none⟩) (h - l) (cap - l), ?_, ?_⟩
              · unfold Instr.sliceAt
                simp only [Sem.run_bind, run_underlying hu, Result.andThen]
                unfold Instr.slice
                simp only [Sem.run_bind, run_underlying hu, Result.andThen, hr, run_tsz w hs, Sem.run_pure, hcl, if_false, Option.map_some, add_none]
              · have := Rep.row (w := w) (F := F) m base (off + l) (h - l) esz b o (cap - l) hm (by omega) (by rw [show off + l + (cap - l) = off + cap by omega]; exact hz)
                rw [Nat.add_mul, ← Nat.add_assoc] at this
                exact this
        · exact he.elim
      · exact he.elim
    · exact he.elim
  · rename_i n elem m off hu
    split at he
    · rename_i h ph eh
      split at he
      · rename_i l pl el
        split at he
        · rename_i esz hs
          obtain ⟨⟨hph, hpl⟩, he⟩ := he
          simp only [Tr.ev] at he; subst he
          cases hx with
          | ptr _ _ b o hm =>
            obtain ⟨hr, h1, h2⟩ := run_sliceBounds (P := P) (isS := false) (cap := n) hlo hhi hlo0 hhi0 (Nat.le_refl _) (Nat.le_refl _) eh el hph hpl
            have hz := hbz m off rfl n elem esz hu hs b o hm
            by_cases hcl : n = l
            · refine ⟨.slice (some ⟨b, o + off, none⟩) (h - l) (n - l), ?_, ?_⟩
              · unfold Instr.sliceAt
                simp only [Sem.run_bind, run_underlying hu, Result.andThen, Instr.sureAddr, Sem.run_pure, hr, run_tsz w hs]
                rw [if_pos hcl]
              · rw [show h - l = 0 by omega, show n - l = 0 by omega]
                exact .rz _ _ _ _ _ _ _ hm
            · refine ⟨.slice (some ⟨b, o + off + l * esz, none⟩) (h - l) (n - l), ?_, ?_⟩
              · unfold Instr.sliceAt
                simp only [Sem.run_bind, run_underlying hu, Result.andThen, Instr.sureAddr, Sem.run_pure, hr, run_tsz w hs, hcl, if_false, add_none]
              · exact .row m off l (h - l) esz b o (n - l) hm (by omega) (by rw [show l + (n - l) = n by omega]; exact hz)
        · exact he.elim
      · exact he.elim
    · exact he.elim
  · rename_i n elem m cell hu
    split at he
    · rename_i h ph eh
      split at he
      · rename_i l pl el
        split at he
        · rename_i esz hs
          split at he
          · rename_i hle
            obtain ⟨⟨hph, hpl⟩, he⟩ := he
            simp only [Tr.ev] at he; subst he
            cases hx with
            | rop b o _ _ f hF hcell hone hrep =>
              obtain ⟨hr, h1, h2⟩ := run_sliceBounds (P := P) (isS := false) (cap := n) hlo hhi hlo0 hhi0 (Nat.le_refl _) (Nat.le_refl _) eh el hph hpl
              have hlt : ∀ i j, i < h - l → j < esz → (l + i) * esz + j < m := by
                intro i j hi hj
                have : (l + i + 1) * esz ≤ n * esz := Nat.mul_le_mul_right _ (by omega)
                rw [Nat.add_mul] at this; omega
              by_cases hcl : n = l
              · refine ⟨.slice (some ⟨b, o, none⟩) (h - l) (n - l), ?_, .d (.ro b o _ _ esz _ (fun i j => f ((l + i) * esz + j)) (fun h => by omega) (by omega) (fun i j hi => by omega) (fun i j hi => by omega) (fun i j hi => by omega))⟩
                unfold Instr.sliceAt
                simp only [Sem.run_bind, run_underlying hu, Result.andThen, Instr.sureAddr, Sem.run_pure, hr, run_tsz w hs]
                rw [if_pos hcl]
              · refine ⟨.slice (some ⟨b, o + l * esz, none⟩) (h - l) (n - l), ?_, ?_⟩
                · unfold Instr.sliceAt
                  simp only [Sem.run_bind, run_underlying hu, Result.andThen, Instr.sureAddr, Sem.run_pure, hr, run_tsz w hs, hcl, if_false, add_none]
                · have hpos := hle.2
                  · refine .d (.ro b _ _ _ esz _ (fun i j => f ((l + i) * esz + j)) (fun hne => hF (by have := hlt 0 0 (by omega) hpos; omega)) (by omega) (fun i j hi hj => ?_) (fun i j hi hj => hone _ (hlt i j hi hj)) (fun i j hi hj => hrep _ (hlt i j hi hj)))
                    rw [show o + l * esz + (i * esz + j) = o + ((l + i) * esz + j) by rw [Nat.add_mul]; omega]
                    exact hcell _ (hlt i j hi hj)
          · exact he.elim
        · exact he.elim
      · exact he.elim
    · exact he.elim
  · exact he.elim
def absSlice3 (P : Program) (t : TypeId) (x hi mx : SV) : Tr SV :=
  match P.underlying t, x, hi, mx with
  | some (.slice elem), .d (.ro len esz cell), .d (.x (.int _ i)), .d (.x (.int _ j)) =>
    if tsz P elem = some esz then .need (i = (len : Int) ∧ j = (len : Int)) (.ret (.d (.rf len esz cell))) else .fail
  | some (.slice elem), .d (.x (.slice none 0 0)), .d (.x (.int _ i)), .d (.x (.int _ j)) =>
    match tsz P elem with
    | some _ => .need (i = 0 ∧ j = 0) (.ret (.d (.x (.slice none 0 0))))
    | none => .fail
  | _, _, _, _ => .fail
theorem run_bounds3 {P : Program} (w : World) {len cap : Nat} {k k' : IntKind} (h : len ≤ cap) : (Instr.sliceBounds true len cap none (some (.int k (len : Int))) (some (.int k' (len : Int)))).run P w = .ok (0, len, len) w := by
  have e1 := fun code => run_sliceBound (P := P) w k' (len : Int) cap code (by omega) (by omega)
  have e2 := fun code => run_sliceBound (P := P) w k (len : Int) len code (by omega) (by omega)
  simp only [Int.toNat_natCast] at e1 e2
  unfold Instr.sliceBounds
  simp only [Sem.run_bind, Sem.run_pure, Result.andThen, e1, e2]
theorem absSlice3_sound {P : Program} {w : World} {μ : Mu} {F : Nat → Prop} {t : TypeId} {x sh sm r : SV} {v hv mv : Value} (hx : Rep w μ F v x) (hh : Rep w μ F hv sh) (hm : Rep w μ F mv sm) (he : (absSlice3 P t x sh sm).ev r) :
    ∃ u, (Instr.sliceAt t v none (some hv) (some mv)).run P w = .ok u w ∧ Rep w μ F u r := by
  unfold absSlice3 at he
  split at he
  · rename_i elem len esz cell k i k' j hu
    split at he
    · rename_i hs
      obtain ⟨⟨rfl, rfl⟩, he⟩ := he
      simp only [Tr.ev] at he; subst he
      obtain rfl := rep_x hh
      obtain rfl := rep_x hm
      have hd := rep_d hx
      have hd0 := hd
      generalize hdv : DV.ro len esz cell = dv at hd
      cases hd with
      | x => cases hdv
      | rf => cases hdv
      | nil =>
        cases hdv
        refine ⟨.slice none 0 0, ?_, .d (.rf _ _ _ _ (.nil _ _) ⟨_, rfl⟩)⟩
        unfold Instr.sliceAt
        simp only [Sem.run_bind, run_underlying hu, Result.andThen]
        unfold Instr.slice
        simp only [Sem.run_bind, run_underlying hu, Result.andThen, run_bounds3 (P := P) w (Nat.le_refl 0), run_tsz w hs, Sem.run_pure]
        rfl
      | z a cap esz' cell' =>
        cases hdv
        refine ⟨.slice (some a) 0 0, ?_, .d (.rf _ _ _ _ (.z a 0 _ _) ⟨_, rfl⟩)⟩
        unfold Instr.sliceAt
        simp only [Sem.run_bind, run_underlying hu, Result.andThen]
        unfold Instr.slice
        simp only [Sem.run_bind, run_underlying hu, Result.andThen, run_bounds3 (P := P) w (Nat.zero_le cap), run_tsz w hs, Sem.run_pure]
        rfl
      | ro b o len' cap esz' cell' f hF hc hcell hone hrep =>
        cases hdv
        refine ⟨.slice (some ⟨b, o, none⟩) len len, ?_, .d (.rf _ _ _ _ (.ro b o len len esz cell f hF (Nat.le_refl _) hcell hone hrep) ⟨_, rfl⟩)⟩
        unfold Instr.sliceAt
        simp only [Sem.run_bind, run_underlying hu, Result.andThen]
        unfold Instr.slice
        simp only [Sem.run_bind, run_underlying hu, Result.andThen, run_bounds3 (P := P) w hc, run_tsz w hs, Sem.run_pure]
        by_cases h0 : len = 0
        · rw [if_pos h0]; rfl
        · rw [if_neg h0, Option.map_some, Nat.zero_mul, add_none]; rfl
    · exact he.elim
  · rename_i elem k i k' j hu
    split at he
    · rename_i e hs
      obtain ⟨⟨rfl, rfl⟩, he⟩ := he
      simp only [Tr.ev] at he; subst he
      obtain rfl := rep_x hh
      obtain rfl := rep_x hm
      obtain rfl := rep_x hx
      refine ⟨.slice none 0 0, ?_, hx⟩
      unfold Instr.sliceAt
      simp only [Sem.run_bind, run_underlying hu, Result.andThen]
      unfold Instr.slice
      have := run_bounds3 (P := P) (k := k) (k' := k') w (Nat.le_refl 0)
      simp only [Int.natCast_zero] at this
      simp only [Sem.run_bind, run_underlying hu, Result.andThen, this, run_tsz w hs, Sem.run_pure]
      rfl
    · exact he.elim
  · exact he.elim
end
end Go.Sx
namespace Go.Sx
noncomputable section
def dsAt (ds : List DV) (k : Nat) : DV := match ds with
  | [d] => d
  | ds => ds.getD k (.x undef)
theorem dsAt_eq {ds : List DV} {k : Nat} (h : k < ds.length) : dsAt ds k = ds.getD k (.x undef) := by
  unfold dsAt
  split
  · have : k = 0 := by simpa using h
    subst this; rfl
  · rfl
def absSrc (hp : Heap) (x : SV) (esz : Nat) : Option (Nat × (Nat → Nat → DV) × Prop) :=
  match x with
  | .d (.x (.slice none 0 0)) => some (0, (fun _ _ => .x undef), True)
  | .d (.x (.string s)) => if esz = 1 then some (s.size, (fun i _ => .x (.int .u8 (s.data.getD i 0).toNat)), True) else none
  | .d (.ro len esz' cell) => if esz' = esz then some (len, cell, True) else none
  | .row l base off len esz' =>
    match hget hp l with
    | some (.row n esz'' cell) => if base = 0 ∧ esz' = esz ∧ esz'' = esz then some (len, (fun i j => cell (off + i) j), off + len ≤ n) else none
    | some (.cells cs) =>
      match dvsOf cs with
      | some ds => if esz' = esz then some (len, (fun i j => dsAt ds (base + (off + i) * esz + j)), base + (off + len) * esz ≤ cs.length) else none
      | none => none
    | _ => none
  | _ => none
def SrcAt (P : Program) (w : World) (F : Nat → Prop) (v : Value) (esz n : Nat) (cell : Nat → Nat → DV) : Prop :=
  ∃ news : List Value, news.length = n * esz ∧ (∀ w1, (∀ a, w1.cell? a = w.cell? a) → (Builtin.lenOf v).run P w1 = .ok n w1 ∧ (Builtin.firstCells esz n v).run P w1 = .ok news.toArray w1) ∧
    (∀ i j, i < n → j < esz → RepD w F (news.getD (i * esz + j) undef) (cell i j)) ∧ ∀ u ∈ news, u.oneCell' = true
theorem src_of_cells {P : Program} {w : World} {F : Nat → Prop} {b q n cap esz : Nat} {cell : Nat → Nat → DV} (f : Nat → Value) (hcell : ∀ k, k < n * esz → w.cell? ⟨b, q + k, none⟩ = some (f k))
    (hrep : ∀ i j, i < n → j < esz → RepD w F (f (i * esz + j)) (cell i j)) (hone : ∀ k, k < n * esz → (f k).oneCell' = true) : SrcAt P w F (.slice (some ⟨b, q, none⟩) n cap) esz n cell := by
  refine ⟨(List.range (n * esz)).map f, by simp, fun w1 hw => ⟨rfl, ?_⟩, fun i j hi hj => ?_, fun u hu => ?_⟩
  · refine run_firstCells_some w1 esz n _ n cap _ (by simp) (fun j v hv => ?_)
    rw [add_none, hw]
    have hj : j < n * esz := by
      have := (List.getElem?_eq_some_iff.1 hv).1; simpa using this
    rw [hcell j hj]
    simpa [hj] using hv
  · have hlt : i * esz + j < n * esz := by
      have : (i + 1) * esz ≤ n * esz := Nat.mul_le_mul_right _ hi
      rw [Nat.add_mul] at this; omega
    have := hrep i j hi hj
    simpa [List.getD, hlt] using this
  · simp only [List.mem_map, List.mem_range] at hu
    obtain ⟨k, hk, rfl⟩ := hu
    exact hone k hk
theorem split_idx {k n esz : Nat} (h : k < n * esz) : k / esz < n ∧ k % esz < esz ∧ k / esz * esz + k % esz = k := by
  have hpos : 0 < esz := Nat.pos_of_ne_zero fun he => by subst he; simp at h
  refine ⟨(Nat.div_lt_iff_lt_mul hpos).2 h, Nat.mod_lt _ hpos, ?_⟩
  rw [Nat.mul_comm]; exact Nat.div_add_mod k esz
theorem absSrc_sound {P : Program} {w : World} {μ : Mu} {F : Nat → Prop} {hp : Heap} {v : Value} {x : SV} {esz n : Nat} {cell : Nat → Nat → DV} {p : Prop} (hl : LH w μ F hp) (hx : Rep w μ F v x) (he : absSrc hp x esz = some (n, cell, p)) (hp0 : p) :
    SrcAt P w F v esz n cell := by
  unfold absSrc at he
  split at he
  · simp only [Option.some.injEq, Prod.mk.injEq] at he
    obtain ⟨rfl, rfl, rfl⟩ := he
    rw [rep_x hx]
    exact ⟨[], by simp, fun w1 _ => ⟨rfl, by simp [Builtin.firstCells]⟩, fun i j hi => by omega, fun u hu => by cases hu⟩
  · rename_i s
    split at he
    · rename_i h1; subst h1
      simp only [Option.some.injEq, Prod.mk.injEq] at he
      obtain ⟨rfl, rfl, rfl⟩ := he
      rw [rep_x hx]
      refine ⟨(s.data.map fun b => Value.int .u8 b.toNat).toList, by simp, fun w1 _ => ⟨rfl, ?_⟩, fun i j hi hj => ?_, fun u hu => ?_⟩
      · simp only [Builtin.firstCells, Sem.run_pure, Array.toArray_toList]
        have : (s.extract 0 s.size) = s := by simp
        rw [this]
      · have hj0 : j = 0 := by omega
        subst hj0
        have hi' : i < s.data.size := hi
        simp only [Nat.mul_one, Nat.add_zero, List.getD, Array.getElem?_toList, Array.getElem?_map, Array.getElem?_eq_getElem hi', Option.map_some, Option.getD_some, Array.getD, hi', dite_true]
        exact .x _
      · simp at hu
        obtain ⟨b, _, rfl⟩ := hu
        rfl
    · cases he
  · rename_i len esz' cell'
    split at he
    · rename_i h1; subst h1
      simp only [Option.some.injEq, Prod.mk.injEq] at he
      obtain ⟨rfl, rfl, rfl⟩ := he
      have hd := rep_d hx
      generalize hdv : DV.ro len esz' cell' = dv at hd
      cases hd with
      | x => cases hdv
      | rf => cases hdv
      | nil =>
        cases hdv
        exact ⟨[], by simp, fun w1 _ => ⟨rfl, by simp [Builtin.firstCells]⟩, fun i j hi => by omega, fun u hu => by cases hu⟩
      | z =>
        cases hdv
        exact ⟨[], by simp, fun w1 _ => ⟨rfl, by simp [Builtin.firstCells, loadCells, loadCellsFrom]⟩, fun i j hi => by omega, fun u hu => by cases hu⟩
      | ro b o len2 cap esz2 cell2 f hF hc hcell hone hrep =>
        cases hdv
        refine src_of_cells (fun k => f (k / esz') (k % esz')) (fun k hk => ?_) (fun i j hi hj => ?_) (fun k hk => ?_)
        · obtain ⟨h1, h2, h3⟩ := split_idx hk
          have := hcell _ _ h1 h2
          rwa [h3] at this
        · have h1 : (i * esz' + j) / esz' = i := by rw [Nat.mul_comm, Nat.mul_add_div (by omega), Nat.div_eq_of_lt hj]; omega
          have h2 : (i * esz' + j) % esz' = j := by rw [Nat.mul_comm, Nat.mul_add_mod, Nat.mod_eq_of_lt hj]
          simp only [h1, h2]; exact hrep i j hi hj
        · obtain ⟨h1, h2, h3⟩ := split_idx hk
          exact hone _ _ h1 h2
    · cases he
  · rename_i l base off len esz'
    split at he
    · rename_i n' esz'' cell' hg
      split at he
      · rename_i hk
        obtain ⟨rfl, e1, e2⟩ := hk
        subst e2; subst e1
        simp only [Option.some.injEq, Prod.mk.injEq] at he
        obtain ⟨rfl, rfl, rfl⟩ := he
        cases hx with
        | rnil => exact ⟨[], by simp, fun w1 _ => ⟨rfl, by simp [Builtin.firstCells]⟩, fun i j hi => by omega, fun u hu => by cases hu⟩
        | rz _ _ _ _ b o => exact ⟨[], by simp, fun w1 _ => ⟨rfl, by simp [Builtin.firstCells, loadCells, loadCellsFrom]⟩, fun i j hi => by omega, fun u hu => by cases hu⟩
        | row _ _ _ _ _ b o cap hm hc hz =>
          obtain ⟨⟨c, e, hh, hsz, hcc, hc1⟩, hF⟩ := hl.blkAt hg hm
          have hlt : ∀ k, k < len * esz' → off * esz' + k < n' * esz' := by
            intro k hk
            have : (off + len) * esz' ≤ n' * esz' := Nat.mul_le_mul_right _ hp0
            rw [Nat.add_mul] at this; omega
          refine src_of_cells (fun k => c.getD (o + (off * esz' + k)) undef) (fun k hk => ?_) (fun i j hi hj => ?_) (fun k hk => ?_)
          · have := hlt k hk
            rw [show o + 0 + off * esz' + k = o + (off * esz' + k) by omega]
            exact cell_of_heap hh (by omega)
          · have := hcc (off + i) j (by omega) hj
            rw [show o + (off * esz' + (i * esz' + j)) = o + ((off + i) * esz' + j) by rw [Nat.add_mul]; omega]
            exact this
          · obtain ⟨h1, h2, h3⟩ := split_idx (hlt k hk)
            have := hc1 _ _ h1 h2
            rwa [h3] at this
      · cases he
    · rename_i cs hg
      split at he
      · rename_i ds hds
        split at he
        · rename_i h1; subst h1
          simp only [Option.some.injEq, Prod.mk.injEq] at he
          obtain ⟨rfl, rfl, rfl⟩ := he
          obtain ⟨hd1, hd2⟩ := dvsOf_spec hds
          cases hx with
          | rnil => exact ⟨[], by simp, fun w1 _ => ⟨rfl, by simp [Builtin.firstCells]⟩, fun i j hi => by omega, fun u hu => by cases hu⟩
          | rz _ _ _ _ b o => exact ⟨[], by simp, fun w1 _ => ⟨rfl, by simp [Builtin.firstCells, loadCells, loadCellsFrom]⟩, fun i j hi => by omega, fun u hu => by cases hu⟩
          | row _ _ _ _ _ b o cap hm hc hz =>
            obtain ⟨⟨c, e, hh, hsz, hcc, hc1⟩, hF⟩ := hl.blkAt hg hm
            have hlt : ∀ k, k < len * esz' → base + off * esz' + k < cs.length := by
              intro k hk
              rw [Nat.add_mul] at hp0; omega
            refine src_of_cells (fun k => c.getD (o + (base + off * esz' + k)) undef) (fun k hk => ?_) (fun i j hi hj => ?_) (fun k hk => ?_)
            · have := hlt k hk
              rw [show o + base + off * esz' + k = o + (base + off * esz' + k) by omega]
              exact cell_of_heap hh (by omega)
            · have hk : i * esz' + j < len * esz' := by
                have : (i + 1) * esz' ≤ len * esz' := Nat.mul_le_mul_right _ hi
                rw [Nat.add_mul] at this; omega
              have h3 := hlt _ hk
              have := hcc _ h3
              rw [hd2 _ h3] at this
              have := rep_d this
              rw [show base + (off + i) * esz' + j = base + off * esz' + (i * esz' + j) by rw [Nat.add_mul]; omega, dsAt_eq (by omega)]
              exact this
            · exact hc1 _ (hlt k hk)
        · cases he
      · cases he
    · cases he
  · cases he
def ownOf : SV → Option (Option Nat)
  | .d (.x (.slice none 0 0)) => some none
  | .d (.rf _ _ _) => some none
  | .row l _ _ _ _ => some (some l)
  | _ => none
def hdrop (hp : Heap) : Option Nat → Heap
  | none => hp
  | some l => hset hp l none
def isSrcT : TypeDesc → Bool
  | .slice _ => true
  | .string => true
  | _ => false
def absSrcD (hp : Heap) (s : SV) (esz m : Nat) : Option (Nat × (Nat → Nat → DV) × Prop) := match s with
  | .d (.rf n e c) => match Nat.blt 0 m with
    | true => absSrc hp (.d (.ro n e c)) esz
    | false => none
  | s => absSrc hp s esz
def absAppend (P : Program) (id : Nat) (hp : Heap) (st xt : TypeId) (s x : SV) : Tr (SV × Heap) :=
  match P.underlying st, P.underlying xt with
  | some (.slice elem), some xd =>
    match P.info? elem, ownOf s with
    | some i, some own =>
      match i.zero, absSrc hp x i.size with
      | some z, some (m, c2, p2) => match absSrcD hp s i.size m with
       | some (n, c1, p1) =>
        if z.cells.size = i.size ∧ 0 < i.size ∧ 0 < i.bytes ∧ isSrcT xd = true then
          .need (p1 ∧ p2 ∧ (n + m) * i.bytes ≤ 140737488355328) (.ret (.row id 0 0 (n + m) i.size, hset (hdrop hp own) id (some (.row (n + m) i.size fun a b => selD (decide (a < n)) (c1 a b) (c2 (a - n) b)))))
        else .fail
       | none => .fail
      | _, _ => .fail
    | _, _ => .fail
  | _, _ => .fail
theorem appendRow {w : World} {F : Nat → Prop} {esz n m : Nat} {c1 c2 : Nat → Nat → DV} {olds news : List Value} (hol : olds.length = n * esz) (hnl : news.length = m * esz)
    (h1 : ∀ i j, i < n → j < esz → RepD w F (olds.getD (i * esz + j) undef) (c1 i j)) (h2 : ∀ i j, i < m → j < esz → RepD w F (news.getD (i * esz + j) undef) (c2 i j)) :
    ∀ i j, i < n + m → j < esz → RepD w F ((olds ++ news).getD (i * esz + j) undef) (selD (decide (i < n)) (c1 i j) (c2 (i - n) j)) := by
  intro i j hi hj
  rw [selD_eq]
  by_cases hn : i < n
  · have hlt : i * esz + j < olds.length := by
      have : (i + 1) * esz ≤ n * esz := Nat.mul_le_mul_right _ hn
      rw [Nat.add_mul] at this; omega
    simp only [hn, decide_true, cond_true]
    have := h1 i j hn hj
    simpa [List.getD, List.getElem?_append, hlt] using this
  · have hge : olds.length ≤ i * esz + j := by
      have : n * esz ≤ i * esz := Nat.mul_le_mul_right _ (by omega)
      omega
    simp only [hn, decide_false, cond_false]
    have := h2 (i - n) j (by omega) hj
    have he : i * esz + j - olds.length = (i - n) * esz + j := by
      have : i = (i - n) + n := by omega
      rw [hol]; conv => lhs; rw [this, Nat.add_mul]
      omega
    simpa [List.getD, List.getElem?_append, show ¬ (i * esz + j < olds.length) by omega, he] using this
theorem absSrcD_sound {P : Program} {w : World} {μ : Mu} {F : Nat → Prop} {hp : Heap} {v : Value} {x : SV} {esz n m : Nat} {cell : Nat → Nat → DV} {p : Prop} (hl : LH w μ F hp) (hx : Rep w μ F v x) (he : absSrcD hp x esz m = some (n, cell, p)) (hp0 : p) :
    SrcAt P w F v esz n cell := by
  unfold absSrcD at he
  split at he
  · rename_i len e c
    split at he
    · have hd := rep_d hx
      generalize hdv : DV.rf len e c = dv at hd
      cases hd with
      | rf _ _ _ _ h hc => cases hdv; exact absSrc_sound hl (.d h) he hp0
      | _ => cases hdv
    · cases he
  · exact absSrc_sound hl hx he hp0
theorem absSrcD_cases {hp : Heap} {x : SV} {esz n m : Nat} {cell : Nat → Nat → DV} {p : Prop} (he : absSrcD hp x esz m = some (n, cell, p)) : (∃ e c, x = .d (.rf n e c) ∧ 0 < m) ∨ absSrc hp x esz = some (n, cell, p) := by
  unfold absSrcD at he
  split at he
  · rename_i len e c
    split at he
    · rename_i hb
      have hm : 0 < m := Nat.le_of_ble_eq_true hb
      unfold absSrc at he
      simp only at he
      split at he
      · simp only [Option.some.injEq, Prod.mk.injEq] at he
        obtain ⟨rfl, _⟩ := he
        exact .inl ⟨_, _, rfl, hm⟩
      · cases he
    · cases he
  · exact .inr he
end
end Go.Sx
