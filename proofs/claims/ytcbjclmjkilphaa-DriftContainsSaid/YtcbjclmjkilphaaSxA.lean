/- The symbolic executor: values, heaps, and what it means that they stand for the model's. -/
import Derived.WalkKit
set_option linter.unusedVariables false
set_option linter.unusedSimpArgs false
namespace Go.Sx
noncomputable section

inductive DV where
  | x (v : Value)
  | ro (len esz : Nat) (cell : Nat → Nat → DV)

inductive SV where
  | d (v : DV)
  | ptr (l off : Nat)
  | pix (l base n esz i j : Nat)
  | row (l base off len esz : Nat)
  | rop (n : Nat) (cell : Nat → DV)
  | agg (cs : List SV)
  | fn (f : Fn) (first cap : List SV)
  | tup (vs : List SV)
  | ifc (t : TypeId) (v : SV)

inductive TV where
  | unk
  | lit (b : Bool)
  | ok (s : SV)
  | cnd (p : Prop) (s : SV)
  | tag (t : Nat) (want : Bool) (s : SV)

inductive Blk where
  | cells (cs : List SV)
  | row (n esz : Nat) (cell : Nat → Nat → DV)

inductive Plc where
  | nil
  | pl (b o : Nat)

abbrev Heap := List (Option Blk)
abbrev Delta := List (Nat × Option Blk)
abbrev Mu := Nat → Option Plc

def uv : SV := .d (.x undef)

def hget (hp : Heap) : Nat → Option Blk := List.rec (motive := fun _ => Nat → Option Blk) (fun _ => none) (fun a _ ih n => Nat.rec (motive := fun _ => Option Blk) a (fun m _ => ih m) n) hp

theorem hget_def (hp : Heap) (l : Nat) : hget hp l = hp.getD l none := by
  induction hp generalizing l with
  | nil => rfl
  | cons a r ih =>
    cases l with
    | zero => rfl
    | succ l => simp only [List.getD_cons_succ, ← ih]; rfl

def hset : Heap → Nat → Option Blk → Heap
  | [], 0, b => [b]
  | [], l + 1, b => none :: hset [] l b
  | _ :: hp, 0, b => b :: hp
  | c :: hp, l + 1, b => c :: hset hp l b

def happ (hp : Heap) (dl : Delta) : Heap := dl.foldl (fun h e => hset h e.1 e.2) hp

theorem hget_hset (hp : Heap) (l : Nat) (b : Option Blk) (k : Nat) : hget (hset hp l b) k = if k = l then b else hget hp k := by
  induction hp generalizing l k with
  | nil =>
    induction l generalizing k with
    | zero => cases k <;> simp [hset, hget_def]
    | succ l ih =>
      cases k with
      | zero => simp [hset, hget_def]
      | succ k => have := ih k; simp only [hset, hget_def, List.getD_cons_succ] at this ⊢; simpa using this
  | cons c hp ih =>
    cases l with
    | zero => cases k <;> simp [hset, hget_def]
    | succ l =>
      cases k with
      | zero => simp [hset, hget_def]
      | succ k => have := ih l k; simp only [hset, hget_def, List.getD_cons_succ] at this ⊢; simpa using this

/-! ### Worlds -/

def bsz (w : World) (b : Nat) : Nat := match w.heap[b]? with | some (.cells c _ _) => c.size | _ => 0

structure Ext (F : Nat → Prop) (w w' : World) : Prop where
  os : w'.os = w.os
  tape : w'.tape = w.tape
  output : w'.output = w.output
  size : w.heap.size ≤ w'.heap.size
  keep : ∀ b, F b → w'.heap[b]? = w.heap[b]?
  bsz : ∀ b, bsz w b ≤ bsz w' b

theorem Ext.refl (F : Nat → Prop) (w : World) : Ext F w w := ⟨rfl, rfl, rfl, Nat.le_refl _, fun _ _ => rfl, fun _ => Nat.le_refl _⟩
theorem Ext.trans {F : Nat → Prop} {a b c : World} (h : Ext F a b) (k : Ext F b c) : Ext F a c :=
  ⟨k.os.trans h.os, k.tape.trans h.tape, k.output.trans h.output, Nat.le_trans h.size k.size, fun i hi => (k.keep i hi).trans (h.keep i hi), fun i => Nat.le_trans (h.bsz i) (k.bsz i)⟩
theorem Ext.mono {F G : Nat → Prop} {a b : World} (h : Ext F a b) (hg : ∀ i, G i → F i) : Ext G a b := ⟨h.os, h.tape, h.output, h.size, fun i hi => h.keep i (hg i hi), h.bsz⟩

theorem Ext.cell {F : Nat → Prop} {w w' : World} (h : Ext F w w') {b o : Nat} (hb : F b) : w'.cell? ⟨b, o, none⟩ = w.cell? ⟨b, o, none⟩ := by
  simp only [World.cell?, h.keep b hb]

theorem bsz_alloc (w : World) (o : Obj) (b : Nat) : bsz w b ≤ bsz (w.alloc o) b := by
  unfold bsz
  by_cases h : b < w.heap.size
  · rw [RowKit.Below.heap_alloc w o b h]; exact Nat.le_refl _
  · have : w.heap[b]? = none := by simp; omega
    simp [this]

theorem Ext.alloc (F : Nat → Prop) (w : World) (o : Obj) (hF : ∀ b, F b → b < w.heap.size) : Ext F w (w.alloc o) :=
  ⟨rfl, rfl, rfl, by simp, fun b hb => RowKit.Below.heap_alloc w o b (hF b hb), bsz_alloc w o⟩

theorem Ext.drew (F : Nat → Prop) (w : World) : Ext F w w.drew := ⟨rfl, rfl, rfl, Nat.le_refl _, fun _ _ => rfl, fun _ => Nat.le_refl _⟩

theorem setRow_heap_same (w : World) (g : Nat) (cur : Array Value) (e : TypeId) (fr : Nat × Nat) (cs : Array Value) (hg : w.heap[g]? = some (.cells cur e fr)) :
    (w.setRow g cs).heap[g]? = some (.cells cs e fr) := by
  simp [World.setRow, Array.getElem?_modify, hg]

theorem setRow_heap_other (w : World) (g k : Nat) (cs : Array Value) (h : k ≠ g) : (w.setRow g cs).heap[k]? = w.heap[k]? := by
  simp only [World.setRow, Array.getElem?_modify]; rw [if_neg (by omega)]

theorem Ext.setRow (F : Nat → Prop) (w : World) (g : Nat) (cur cs : Array Value) (e : TypeId) (fr : Nat × Nat) (hg : w.heap[g]? = some (.cells cur e fr)) (hF : ¬ F g) (hs : cs.size = cur.size) : Ext F w (w.setRow g cs) := by
  refine ⟨rfl, rfl, rfl, by simp, fun b hb => setRow_heap_other w g b cs (fun h => hF (h ▸ hb)), fun b => ?_⟩
  by_cases h : b = g
  · subst h
    simp only [Sx.bsz, hg, setRow_heap_same w b cur e fr cs hg, hs]
    exact Nat.le_refl _
  · simp only [Sx.bsz, setRow_heap_other w g b cs h]
    exact Nat.le_refl _

/-! ### Standing for -/

inductive RepD (w : World) (F : Nat → Prop) : Value → DV → Prop
  | x (v : Value) : RepD w F v (.x v)
  | nil (esz : Nat) (cell : Nat → Nat → DV) : RepD w F (.slice none 0 0) (.ro 0 esz cell)
  | z (a : Addr) (cap esz : Nat) (cell : Nat → Nat → DV) : RepD w F (.slice (some a) 0 cap) (.ro 0 esz cell)
  | ro (b o len cap esz : Nat) (cell : Nat → Nat → DV) (f : Nat → Nat → Value) (hF : len ≠ 0 → F b) (hc : len ≤ cap)
      (hcell : ∀ i j, i < len → j < esz → w.cell? ⟨b, o + (i * esz + j), none⟩ = some (f i j))
      (hone : ∀ i j, i < len → j < esz → (f i j).oneCell' = true) (hrep : ∀ i j, i < len → j < esz → RepD w F (f i j) (cell i j)) : RepD w F (.slice (some ⟨b, o, none⟩) len cap) (.ro len esz cell)

theorem RepD.mono {w w' : World} {F F' : Nat → Prop} (he : Ext F w w') (hF : ∀ b, F b → F' b) {v : Value} {s : DV} (h : RepD w F v s) : RepD w' F' v s := by
  induction h with
  | x v => exact .x v
  | nil esz cell => exact .nil esz cell
  | z a cap esz cell => exact .z a cap esz cell
  | ro b o len cap esz cell f hb hc hcell hone _ ih =>
    refine .ro b o len cap esz cell f (fun h => hF _ (hb h)) hc (fun i j hi hj => ?_) hone ih
    rw [he.cell (hb (by omega))]; exact hcell i j hi hj

inductive Rep (w : World) (μ : Mu) (F : Nat → Prop) : Value → SV → Prop
  | d {v : Value} {s : DV} (h : RepD w F v s) : Rep w μ F v (.d s)
  | ptr (l off b o : Nat) (h : μ l = some (.pl b o)) : Rep w μ F (.pointer (some ⟨b, o + off, none⟩)) (.ptr l off)
  | pix (l base n esz i j b o : Nat) (h : μ l = some (.pl b o)) : Rep w μ F (.pointer (some ⟨b, o + base + i * esz + j, none⟩)) (.pix l base n esz i j)
  | rnil (l base off esz : Nat) (h : μ l = some .nil) : Rep w μ F (.slice none 0 0) (.row l base off 0 esz)
  | rz (l base off esz b o : Nat) (q : Plc) (h : μ l = some q) : Rep w μ F (.slice (some ⟨b, o, none⟩) 0 0) (.row l base off 0 esz)
  | row (l base off len esz b o cap : Nat) (h : μ l = some (.pl b o)) (hc : len ≤ cap) (hz : o + base + (off + cap) * esz ≤ bsz w b) : Rep w μ F (.slice (some ⟨b, o + base + off * esz, none⟩) len cap) (.row l base off len esz)
  | rop (b o n : Nat) (cell : Nat → DV) (f : Nat → Value) (hF : n ≠ 0 → F b) (hcell : ∀ j, j < n → w.cell? ⟨b, o + j, none⟩ = some (f j))
      (hone : ∀ j, j < n → (f j).oneCell' = true) (hrep : ∀ j, j < n → RepD w F (f j) (cell j)) : Rep w μ F (.pointer (some ⟨b, o, none⟩)) (.rop n cell)
  | agg (cs : Array Value) (ss : List SV) (hl : cs.size = ss.length) (h : ∀ i, i < ss.length → Rep w μ F (cs.getD i undef) (ss.getD i uv)) : Rep w μ F (.agg cs) (.agg ss)
  | fn (f : Fn) (fs cs : Array Value) (ss ts : List SV) (h1 : fs.size = ss.length) (h2 : cs.size = ts.length) (h3 : ∀ i, i < ss.length → Rep w μ F (fs.getD i undef) (ss.getD i uv))
      (h4 : ∀ i, i < ts.length → Rep w μ F (cs.getD i undef) (ts.getD i uv)) : Rep w μ F (.func f fs cs) (.fn f ss ts)
  | tup (cs : Array Value) (ss : List SV) (hl : cs.size = ss.length) (h : ∀ i, i < ss.length → Rep w μ F (cs.getD i undef) (ss.getD i uv)) : Rep w μ F (.tuple cs) (.tup ss)
  | ifc (t : TypeId) (v : Value) (s : SV) (h : Rep w μ F v s) : Rep w μ F (.iface t v) (.ifc t s)

theorem Rep.mono {w w' : World} {μ μ' : Mu} {F F' : Nat → Prop} (he : Ext F w w') (hF : ∀ b, F b → F' b) (hμ : ∀ l q, μ l = some q → μ' l = some q) {v : Value} {s : SV} (h : Rep w μ F v s) : Rep w' μ' F' v s := by
  induction h with
  | d h => exact .d (h.mono he hF)
  | ptr l off b o h => exact .ptr l off b o (hμ _ _ h)
  | pix l base n esz i j b o h => exact .pix l base n esz i j b o (hμ _ _ h)
  | rnil l base off esz h => exact .rnil l base off esz (hμ _ _ h)
  | rz l base off esz b o q h => exact .rz l base off esz b o q (hμ _ _ h)
  | row l base off len esz b o cap h hc hz => exact .row l base off len esz b o cap (hμ _ _ h) hc (Nat.le_trans hz (he.bsz b))
  | rop b o n cell f hb hcell hone hrep =>
    exact .rop b o n cell f (fun h => hF _ (hb h)) (fun j hj => by rw [he.cell (hb (by omega))]; exact hcell j hj) hone (fun j hj => (hrep j hj).mono he hF)
  | agg cs ss hl _ ih => exact .agg cs ss hl ih
  | fn f fs cs ss ts h1 h2 _ _ ih1 ih2 => exact .fn f fs cs ss ts h1 h2 ih1 ih2
  | tup cs ss hl _ ih => exact .tup cs ss hl ih
  | ifc t v s _ ih => exact .ifc t v s ih

/-- The cells of a variable. -/
def BlkAt (w : World) (μ : Mu) (F : Nat → Prop) : Plc → Blk → Prop
  | .nil, .row n _ _ => n = 0
  | .nil, .cells _ => False
  | .pl b o, .cells cs => ∃ c e, w.heap[b]? = some (.cells c e (0, 0)) ∧ o + cs.length ≤ c.size ∧ (∀ i, i < cs.length → Rep w μ F (c.getD (o + i) undef) (cs.getD i uv)) ∧ ∀ i, i < cs.length → (c.getD (o + i) undef).oneCell' = true
  | .pl b o, .row n esz cell => ∃ c e, w.heap[b]? = some (.cells c e (0, 0)) ∧ o + n * esz ≤ c.size ∧ (∀ i j, i < n → j < esz → RepD w F (c.getD (o + (i * esz + j)) undef) (cell i j)) ∧ ∀ i j, i < n → j < esz → (c.getD (o + (i * esz + j)) undef).oneCell' = true

structure Par where
  w0 : World
  T : Nat → Prop
  F : Nat → Prop

def PlcOK (p : Par) (F : Nat → Prop) : Plc → Prop
  | .nil => True
  | .pl b _ => ¬ F b ∧ (p.T b ∨ p.w0.heap.size ≤ b)

structure HS (p : Par) (μ : Mu) (F : Nat → Prop) (hp : Heap) (w : World) : Prop where
  ext : Ext (fun b => b < p.w0.heap.size ∧ ¬ p.T b) p.w0 w
  sub : ∀ b, p.F b → F b
  fin : ∀ b, F b → b < w.heap.size ∧ (p.F b ∨ p.T b ∨ p.w0.heap.size ≤ b)
  blk : ∀ l blk, hget hp l = some blk → ∃ q, μ l = some q ∧ PlcOK p F q ∧ BlkAt w μ F q blk
  inj : ∀ l l' blk blk' b o b' o', l ≠ l' → hget hp l = some blk → hget hp l' = some blk' → μ l = some (.pl b o) → μ l' = some (.pl b' o') → b ≠ b'

theorem BlkAt.lt {w : World} {μ : Mu} {F : Nat → Prop} {b o : Nat} {blk : Blk} (h : BlkAt w μ F (.pl b o) blk) : b < w.heap.size := by
  cases blk with
  | cells cs => obtain ⟨c, e, hg, _⟩ := h; exact (Array.getElem?_eq_some_iff.1 hg).1
  | row n esz cell => obtain ⟨c, e, hg, _⟩ := h; exact (Array.getElem?_eq_some_iff.1 hg).1

/-- A block that has not been touched. -/
theorem BlkAt.mono {w w' : World} {μ μ' : Mu} {F F' : Nat → Prop} (he : Ext F w w') (hF : ∀ b, F b → F' b) (hμ : ∀ l q, μ l = some q → μ' l = some q) {q : Plc} {blk : Blk}
    (hk : ∀ b o, q = .pl b o → w'.heap[b]? = w.heap[b]?) (h : BlkAt w μ F q blk) : BlkAt w' μ' F' q blk := by
  cases q with
  | nil => cases blk <;> exact h
  | pl b o =>
    cases blk with
    | cells cs =>
      obtain ⟨c, e, hg, hs, hc, h1⟩ := h
      exact ⟨c, e, by rw [hk b o rfl]; exact hg, hs, fun i hi => (hc i hi).mono he hF hμ, h1⟩
    | row n esz cell =>
      obtain ⟨c, e, hg, hs, hc, h1⟩ := h
      exact ⟨c, e, by rw [hk b o rfl]; exact hg, hs, fun i j hi hj => (hc i j hi hj).mono he hF, h1⟩

end
end Go.Sx
