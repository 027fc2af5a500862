/- The symbolic executor: single operations (first part: reading, making, storing). -/
import Derived.Test.YtcbjclmjkilphaaSxA
set_option linter.unusedVariables false
set_option linter.unusedSimpArgs false
namespace Go.Sx
noncomputable section

inductive Tr (α : Type) where
  | ret (a : α)
  | ite (b : Bool) (t e : Tr α)
  | need (p : Prop) (t : Tr α)
  | dneed (p : Prop) (d : Decidable p) (t : Tr α)
  | fail

/-- What is needed, and can be decided where all is closed. -/
abbrev Tr.nd {α : Type} (p : Prop) [d : Decidable p] (t : Tr α) : Tr α := .dneed p d t

def Tr.bind {α β : Type} : Tr α → (α → Tr β) → Tr β
  | .ret a, f => f a
  | .ite b t e, f => .ite b (t.bind f) (e.bind f)
  | .need p t, f => .need p (t.bind f)
  | .dneed p d t, f => .dneed p d (t.bind f)
  | .fail, _ => .fail

/-- What a tree comes to. -/
def Tr.ev {α : Type} : Tr α → α → Prop
  | .ret a, x => x = a
  | .ite b t e, x => (b = true ∧ t.ev x) ∨ (b = false ∧ e.ev x)
  | .need p t, x => p ∧ t.ev x
  | .dneed p _ t, x => p ∧ t.ev x
  | .fail, _ => False

def Tr.sat {α : Type} : Tr α → (α → Prop) → Prop
  | .ret a, Q => Q a
  | .ite b t e, Q => (b = true → t.sat Q) ∧ (b = false → e.sat Q)
  | .need p t, Q => p ∧ t.sat Q
  | .dneed p _ t, Q => p ∧ t.sat Q
  | .fail, _ => False

theorem Tr.sat_ev {α : Type} {Q : α → Prop} : ∀ {t : Tr α}, t.sat Q → ∃ a, t.ev a ∧ Q a
  | .ret a, h => ⟨a, rfl, h⟩
  | .ite b t e, h => by
    cases b
    · obtain ⟨a, h1, h2⟩ := Tr.sat_ev (h.2 rfl); exact ⟨a, .inr ⟨rfl, h1⟩, h2⟩
    · obtain ⟨a, h1, h2⟩ := Tr.sat_ev (h.1 rfl); exact ⟨a, .inl ⟨rfl, h1⟩, h2⟩
  | .need p t, h => by obtain ⟨a, h1, h2⟩ := Tr.sat_ev h.2; exact ⟨a, ⟨h.1, h1⟩, h2⟩
  | .dneed p _ t, h => by obtain ⟨a, h1, h2⟩ := Tr.sat_ev (t := t) h.2; exact ⟨a, ⟨h.1, h1⟩, h2⟩
  | .fail, h => h.elim

theorem Tr.ev_bind {α β : Type} {f : α → Tr β} {b : β} : ∀ {t : Tr α}, (t.bind f).ev b → ∃ a, t.ev a ∧ (f a).ev b
  | .ret a, h => ⟨a, rfl, h⟩
  | .ite c t e, h => by
    rcases h with ⟨hc, h⟩ | ⟨hc, h⟩
    · obtain ⟨a, h1, h2⟩ := Tr.ev_bind h; exact ⟨a, .inl ⟨hc, h1⟩, h2⟩
    · obtain ⟨a, h1, h2⟩ := Tr.ev_bind h; exact ⟨a, .inr ⟨hc, h1⟩, h2⟩
  | .need p t, h => by obtain ⟨a, h1, h2⟩ := Tr.ev_bind h.2; exact ⟨a, ⟨h.1, h1⟩, h2⟩
  | .dneed p _ t, h => by obtain ⟨a, h1, h2⟩ := Tr.ev_bind (t := t) h.2; exact ⟨a, ⟨h.1, h1⟩, h2⟩
  | .fail, h => h.elim

def Tr.ofOpt {α : Type} : Option α → Tr α
  | some a => .ret a
  | none => .fail

theorem Tr.ev_ofOpt {α : Type} {o : Option α} {a : α} (h : (Tr.ofOpt o).ev a) : o = some a := by
  cases o with
  | none => exact h.elim
  | some b => simp only [Tr.ofOpt, Tr.ev] at h; rw [h]

/-! ### What touches no memory -/

def pureRun {α : Type} (P : Program) : Sem α → Option α
  | .pure a => some a
  | .program k => pureRun P (k P)
  | _ => none

theorem pureRun_run {α : Type} {P : Program} : ∀ {s : Sem α} {a : α} (w : World), pureRun P s = some a → s.run P w = .ok a w
  | .pure b, a, w, h => by simp only [pureRun, Option.some.injEq] at h; subst h; rfl
  | .program k, a, w, h => by simp only [pureRun] at h; exact pureRun_run (s := k P) w h
  | .load .., _, _, h => by simp [pureRun] at h
  | .store .., _, _, h => by simp [pureRun] at h
  | .new .., _, _, h => by simp [pureRun] at h
  | .shape .., _, _, h => by simp [pureRun] at h
  | .freeze .., _, _, h => by simp [pureRun] at h
  | .frozen .., _, _, h => by simp [pureRun] at h
  | .getObj .., _, _, h => by simp [pureRun] at h
  | .setObj .., _, _, h => by simp [pureRun] at h
  | .choose .., _, _, h => by simp [pureRun] at h
  | .sys .., _, _, h => by simp [pureRun] at h
  | .mark .., _, _, h => by simp [pureRun] at h
  | .halt .., _, _, h => by simp [pureRun] at h

/-! ### Values -/

def svcells : SV → List SV
  | .agg cs => cs
  | s => [s]

def ofValue : Value → SV
  | .agg cs => .agg (cs.toList.map fun v => .d (.x v))
  | .tuple cs => .tup (cs.toList.map fun v => .d (.x v))
  | v => .d (.x v)

theorem getD_map_toList (cs : Array Value) (i : Nat) (h : i < cs.size) : (cs.toList.map fun v => SV.d (.x v)).getD i uv = .d (.x (cs.getD i undef)) := by
  simp [List.getD, h, Array.getD]

theorem rep_ofValue (w : World) (μ : Mu) (F : Nat → Prop) (v : Value) : Rep w μ F v (ofValue v) := by
  have h : ∀ (cs : Array Value), ∀ i, i < (cs.toList.map fun v => SV.d (.x v)).length → Rep w μ F (cs.getD i undef) ((cs.toList.map fun v => SV.d (.x v)).getD i uv) := by
    intro cs i hi
    rw [getD_map_toList cs i (by simpa using hi)]; exact .d (.x _)
  cases v with
  | agg cs => exact .agg cs _ (by simp) (h cs)
  | tuple cs => exact .tup cs _ (by simp) (h cs)
  | _ => exact .d (.x _)

/-- The exact value, if there is one. -/
def exact1 : SV → Option Value
  | .d (.x v) => some v
  | _ => none

def exactL : List SV → Option (List Value)
  | [] => some []
  | s :: r => match exact1 s, exactL r with
    | some v, some vs => some (v :: vs)
    | _, _ => none

def exact : SV → Option Value
  | .d (.x v) => some v
  | .agg cs => (exactL cs).map fun l => .agg l.toArray
  | _ => none

theorem exactL_spec : ∀ {cs : List SV} {vs : List Value}, exactL cs = some vs → vs.length = cs.length ∧ ∀ i, i < cs.length → cs.getD i uv = .d (.x (vs.getD i undef))
  | [], vs, h => by simp [exactL] at h; subst h; simp
  | s :: r, vs, h => by
    simp only [exactL] at h
    split at h
    · rename_i v vs' h1 h2
      simp only [Option.some.injEq] at h; subst h
      obtain ⟨hl, hr⟩ := exactL_spec h2
      refine ⟨by simp [hl], fun i hi => ?_⟩
      cases i with
      | zero =>
        unfold exact1 at h1
        split at h1
        · simp only [Option.some.injEq] at h1; subst h1; simp
        · cases h1
      | succ i => simpa using hr i (by simpa using hi)
    · cases h

theorem repd_x {w : World} {F : Nat → Prop} {v u : Value} (h : RepD w F v (.x u)) : v = u := by
  generalize hs : DV.x u = s at h
  cases h with
  | x v => cases hs; rfl
  | nil => cases hs
  | z => cases hs
  | ro => cases hs

theorem rep_x {w : World} {μ : Mu} {F : Nat → Prop} {v u : Value} (h : Rep w μ F v (.d (.x u))) : v = u := by
  generalize hs : SV.d (.x u) = s at h
  cases h with
  | d hd => cases hs; exact repd_x hd
  | _ => cases hs

theorem rep_d {w : World} {μ : Mu} {F : Nat → Prop} {v : Value} {u : DV} (h : Rep w μ F v (.d u)) : RepD w F v u := by
  generalize hs : SV.d u = s at h
  cases h with
  | d hd => cases hs; exact hd
  | _ => cases hs

theorem exact_spec {w : World} {μ : Mu} {F : Nat → Prop} {v u : Value} {s : SV} (h : exact s = some u) (hr : Rep w μ F v s) : v = u := by
  unfold exact at h
  split at h
  · simp only [Option.some.injEq] at h; subst h
    exact rep_x hr
  · rename_i cs
    cases hr with
    | agg cs' _ hl hi =>
      cases he : exactL cs with
      | none => simp [he] at h
      | some vs =>
        simp only [he, Option.map_some, Option.some.injEq] at h
        obtain ⟨h1, h2⟩ := exactL_spec he
        subst h
        congr 1
        apply Array.ext
        · simp [hl, h1]
        · intro i hi1 hi2
          have hic : i < cs.length := by omega
          have := hi i hic
          rw [h2 i hic] at this
          have heq := rep_x this
          have h3 : i < vs.length := by omega
          simpa [Array.getD, hi1, List.getD, h3] using heq
  · cases h

/-! ### Types -/

def isAggT (P : Program) (t : TypeId) : Bool := match P.underlying t with | some (.struct _) | some (.array _ _) => true | _ => false
def tsz (P : Program) (t : TypeId) : Option Nat := (P.info? t).map (·.size)

theorem run_isAggT {P : Program} {t : TypeId} (w : World) {d : TypeDesc} (h : P.underlying t = some d) : (isAgg t).run P w = .ok (isAggT P t) w := by
  unfold isAgg isAggT
  simp only [Sem.run_bind, run_underlying h, Result.andThen]
  cases d <;> simp [h, pure, Sem.run]

theorem run_tsz {P : Program} {t : TypeId} (w : World) {n : Nat} (h : tsz P t = some n) : (sizeOf t).run P w = .ok n w := by
  unfold tsz at h
  unfold sizeOf typeInfo
  cases hi : P.info? t with
  | none => simp [hi] at h
  | some i => simp only [hi, Option.map_some, Option.some.injEq] at h; subst h; simp [Sem.run_bind, program, Sem.run, hi, Result.andThen, pure]

theorem add_none (b o j : Nat) : (⟨b, o, none⟩ : Addr).add j = ⟨b, o + j, none⟩ := by unfold Addr.add; split <;> simp_all

/-! ### Loads -/

/-- The type of what is loaded: how many cells, and whether they come as one value of several cells. -/
def shapeT (P : Program) (t : TypeId) : Option (Bool × Nat) :=
  match P.underlying t with
  | none => none
  | some _ => if isAggT P t then (tsz P t).map fun n => (true, n) else some (false, 1)

def ofCells (s : Bool × Nat) (f : Nat → SV) : SV := if s.1 then .agg ((List.range s.2).map f) else f 0

def ofCellsV (s : Bool × Nat) (f : Nat → Value) : Value := if s.1 then .agg ((List.range s.2).map f).toArray else f 0

theorem run_loadVar {P : Program} {t : TypeId} {w : World} {s : Bool × Nat} (hs : shapeT P t = some s) (b o : Nat) (f : Nat → Value) (hf : ∀ j, j < s.2 → w.cell? ⟨b, o + j, none⟩ = some (f j)) :
    (loadVar t ⟨b, o, none⟩).run P w = .ok (ofCellsV s f) w := by
  unfold shapeT at hs
  cases hu : P.underlying t with
  | none => simp [hu] at hs
  | some d =>
    simp only [hu] at hs
    unfold loadVar
    simp only [Sem.run_bind, run_isAggT w hu, Result.andThen]
    cases ha : isAggT P t with
    | true =>
      simp only [ha, if_true] at hs ⊢
      cases hn : tsz P t with
      | none => simp [hn] at hs
      | some n =>
        simp only [hn, Option.map_some, Option.some.injEq] at hs; subst hs
        have hl := run_loadCells (P := P) w ⟨b, o, none⟩ n f (fun j hj => by rw [add_none]; exact hf j hj)
        simp only [Sem.run_bind, run_tsz w hn, Result.andThen, hl, ofCellsV, if_true, pure, Sem.run]
    | false =>
      simp only [ha, Bool.false_eq_true, if_false, Option.some.injEq] at hs ⊢; subst hs
      have h0 := hf 0 (by simp)
      simp only [Nat.add_zero] at h0
      simp [load, Sem.run, h0, ofCellsV]

theorem rep_ofCells {w : World} {μ : Mu} {F : Nat → Prop} {s : Bool × Nat} {f : Nat → Value} {g : Nat → SV} (h : ∀ j, j < s.2 → Rep w μ F (f j) (g j)) (h1 : s.1 = false → s.2 = 1) :
    Rep w μ F (ofCellsV s f) (ofCells s g) := by
  unfold ofCellsV ofCells
  split
  · refine .agg _ _ (by simp) (fun i hi => ?_)
    simp only [List.length_map, List.length_range] at hi
    simp [hi, Array.getD, List.getD]
    exact h i hi
  · rename_i hf
    exact h 0 (by rw [h1 (by simpa using hf)]; omega)

theorem shapeT_one {P : Program} {t : TypeId} {s : Bool × Nat} (h : shapeT P t = some s) : s.1 = false → s.2 = 1 := by
  unfold shapeT at h
  split at h
  · cases h
  · split at h
    · cases hn : tsz P t with
      | none => simp [hn] at h
      | some n => simp only [hn, Option.map_some, Option.some.injEq] at h; subst h; simp
    · simp only [Option.some.injEq] at h; subst h; simp

/-- All numbers of one kind; all bools; all strings. -/
def intsOf (k : IntKind) : List SV → Option (List Int)
  | [] => some []
  | .d (.x (.int k' n)) :: r => if k = k' then (intsOf k r).map (n :: ·) else none
  | _ => none
def boolsOf : List SV → Option (List Bool)
  | [] => some []
  | .d (.x (.bool n)) :: r => (boolsOf r).map (n :: ·)
  | _ => none
def stringsOf : List SV → Option (List ByteArray)
  | [] => some []
  | .d (.x (.string n)) :: r => (stringsOf r).map (n :: ·)
  | _ => none

theorem intsOf_spec {k : IntKind} : ∀ {cs : List SV} {ns : List Int}, intsOf k cs = some ns → ∀ i, i < cs.length → cs.getD i uv = .d (.x (.int k (ns.getD i 0)))
  | [], ns, h, i, hi => by simp at hi
  | s :: r, ns, h, i, hi => by
    unfold intsOf at h
    split at h
    · contradiction
    · rename_i k' n r' heq
      simp only [List.cons.injEq] at heq
      obtain ⟨rfl, rfl⟩ := heq
      split at h
      · rename_i hk; subst hk
        rw [Option.map_eq_some_iff] at h
        obtain ⟨ns', h1, rfl⟩ := h
        cases i with
        | zero => simp
        | succ i => simpa using intsOf_spec h1 i (by simpa using hi)
      · cases h
    · cases h

theorem boolsOf_spec : ∀ {cs : List SV} {ns : List Bool}, boolsOf cs = some ns → ∀ i, i < cs.length → cs.getD i uv = .d (.x (.bool (ns.getD i false)))
  | [], ns, h, i, hi => by simp at hi
  | s :: r, ns, h, i, hi => by
    unfold boolsOf at h
    split at h
    · contradiction
    · rename_i n r' heq
      simp only [List.cons.injEq] at heq
      obtain ⟨rfl, rfl⟩ := heq
      rw [Option.map_eq_some_iff] at h
      obtain ⟨ns', h1, rfl⟩ := h
      cases i with
      | zero => simp
      | succ i => simpa using boolsOf_spec h1 i (by simpa using hi)
    · cases h

theorem stringsOf_spec : ∀ {cs : List SV} {ns : List ByteArray}, stringsOf cs = some ns → ∀ i, i < cs.length → cs.getD i uv = .d (.x (.string (ns.getD i ByteArray.empty)))
  | [], ns, h, i, hi => by simp at hi
  | s :: r, ns, h, i, hi => by
    unfold stringsOf at h
    split at h
    · contradiction
    · rename_i n r' heq
      simp only [List.cons.injEq] at heq
      obtain ⟨rfl, rfl⟩ := heq
      rw [Option.map_eq_some_iff] at h
      obtain ⟨ns', h1, rfl⟩ := h
      cases i with
      | zero => simp
      | succ i => simpa using stringsOf_spec h1 i (by simpa using hi)
    · cases h

def selCol (col : List SV) (i : Nat) : SV :=
  match col with
  | .d (.x (.int k _)) :: _ => match intsOf k col with | some ns => .d (.x (.int k (ns.getD i 0))) | none => col.getD i uv
  | .d (.x (.bool _)) :: _ => match boolsOf col with | some ns => .d (.x (.bool (ns.getD i false))) | none => col.getD i uv
  | .d (.x (.string _)) :: _ => match stringsOf col with | some ns => .d (.x (.string (ns.getD i ByteArray.empty))) | none => col.getD i uv
  | _ => col.getD i uv

theorem selCol_eq (col : List SV) (i : Nat) (h : i < col.length) : selCol col i = col.getD i uv := by
  unfold selCol
  split
  · split
    · rename_i h1; exact (intsOf_spec h1 i h).symm
    · rfl
  · split
    · rename_i h1; exact (boolsOf_spec h1 i h).symm
    · rfl
  · split
    · rename_i h1; exact (stringsOf_spec h1 i h).symm
    · rfl
  · rfl

def absLoad (P : Program) (hp : Heap) (t : TypeId) (p : SV) : Tr SV :=
  match shapeT P t with
  | none => .fail
  | some s =>
    match p with
    | .ptr l off =>
      match hget hp l with
      | some (.cells cs) => if off + s.2 ≤ cs.length then .ret (ofCells s fun j => cs.getD (off + j) uv) else .fail
      | _ => .fail
    | .pix l base n esz i j =>
      match hget hp l with
      | some (.row n' esz' cell) => if base = 0 ∧ esz = esz' ∧ j + s.2 ≤ esz then .nd (i < n') (.ret (ofCells s fun k => .d (cell i (j + k)))) else .fail
      | some (.cells cs) => if base + n * esz ≤ cs.length ∧ j + s.2 ≤ esz then .nd (i < n) (.ret (ofCells s fun k => selCol ((List.range n).map fun a => cs.getD (base + a * esz + (j + k)) uv) i)) else .fail
      | _ => .fail
    | .rop n cell => if s.2 ≤ n then .ret (ofCells s fun j => .d (cell j)) else .fail
    | _ => .fail

def Tk (hp : Heap) (μ : Mu) : Nat → Prop := fun b => ∃ l blk o, hget hp l = some blk ∧ μ l = some (.pl b o)
def LH (w : World) (μ : Mu) (F : Nat → Prop) (hp : Heap) : Prop := HS ⟨w, Tk hp μ, F⟩ μ F hp w

theorem LH.blkAt {w : World} {μ : Mu} {F : Nat → Prop} {hp : Heap} (h : LH w μ F hp) {l b o : Nat} {blk : Blk} (hg : hget hp l = some blk) (hm : μ l = some (.pl b o)) : BlkAt w μ F (.pl b o) blk ∧ ¬ F b := by
  obtain ⟨q, h1, h2, h3⟩ := h.blk l blk hg
  rw [hm, Option.some.injEq] at h1; subst h1
  exact ⟨h3, h2.1⟩

theorem cell_of_heap {w : World} {b : Nat} {c : Array Value} {e : TypeId} {fr : Nat × Nat} (hg : w.heap[b]? = some (.cells c e fr)) {o : Nat} (ho : o < c.size) : w.cell? ⟨b, o, none⟩ = some (c.getD o undef) := by
  rw [cell_of_row w b o c e fr hg]; simp [Array.getD, ho]

theorem absLoad_sound {P : Program} {w : World} {μ : Mu} {F : Nat → Prop} {hp : Heap} {t : TypeId} {p : SV} {v : Value} {s : SV} (hl : LH w μ F hp) (hp0 : Rep w μ F v p) (he : (absLoad P hp t p).ev s) :
    ∃ u, (Instr.loadAt t v).run P w = .ok u w ∧ Rep w μ F u s := by
  unfold absLoad at he
  cases hs : shapeT P t with
  | none => simp only [hs] at he; exact he.elim
  | some sh =>
    have h1 := shapeT_one hs
    simp only [hs] at he
    cases hp0 with
    | ptr l off b o hm =>
      simp only [] at he
      cases hh : hget hp l with
      | none => simp only [hh] at he; exact he.elim
      | some blk =>
        cases blk with
        | row => simp only [hh] at he; exact he.elim
        | cells cs =>
          simp only [hh] at he
          split at he
          · rename_i hle
            simp only [Tr.ev] at he; subst he
            obtain ⟨⟨c, e, hg, hsz, hc, _⟩, _⟩ := hl.blkAt hh hm
            refine ⟨ofCellsV sh fun j => c.getD (o + (off + j)) undef, ?_, rep_ofCells (fun j hj => hc _ (by omega)) h1⟩
            unfold Instr.loadAt
            simp only [Instr.sureAddr, Sem.run_bind, Sem.run_pure, Result.andThen]
            exact run_loadVar hs b (o + off) _ (fun j hj => by rw [show o + off + j = o + (off + j) by omega]; exact cell_of_heap hg (by omega))
          · exact he.elim
    | pix l base n esz i j b o hm =>
      simp only [] at he
      cases hh : hget hp l with
      | none => simp only [hh] at he; exact he.elim
      | some blk =>
        cases blk with
        | cells cs =>
          simp only [hh] at he
          split at he
          · rename_i hle
            obtain ⟨hbn, hj⟩ := hle
            simp only [Tr.ev] at he; obtain ⟨hi, he⟩ := he; subst he
            obtain ⟨⟨c, e, hg, hsz, hc, _⟩, _⟩ := hl.blkAt hh hm
            have hb : ∀ k, k < sh.2 → base + i * esz + (j + k) < cs.length := by
              intro k hk
              have : (i + 1) * esz ≤ n * esz := Nat.mul_le_mul_right _ hi
              rw [Nat.add_mul] at this
              omega
            refine ⟨ofCellsV sh fun k => c.getD (o + (base + i * esz + (j + k))) undef, ?_, rep_ofCells (fun k hk => ?_) h1⟩
            · unfold Instr.loadAt
              simp only [Instr.sureAddr, Sem.run_bind, Sem.run_pure, Result.andThen]
              exact run_loadVar hs b (o + base + i * esz + j) _ (fun k hk => by rw [show o + base + i * esz + j + k = o + (base + i * esz + (j + k)) by omega]; exact cell_of_heap hg (by have := hb k hk; omega))
            · rw [selCol_eq _ _ (by simpa using hi)]
              have := hc (base + i * esz + (j + k)) (hb k hk)
              simpa [List.getD, hi] using this
          · exact he.elim
        | row n' esz' cell =>
          simp only [hh] at he
          split at he
          · rename_i hle
            obtain ⟨rfl, rfl, hj⟩ := hle
            simp only [Tr.ev] at he; obtain ⟨hi, he⟩ := he; subst he
            obtain ⟨⟨c, e, hg, hsz, hc, _⟩, _⟩ := hl.blkAt hh hm
            have hb : ∀ k, k < sh.2 → o + (i * esz + (j + k)) < c.size := by
              intro k hk
              have : (i + 1) * esz ≤ n' * esz := Nat.mul_le_mul_right _ hi
              rw [Nat.add_mul] at this
              omega
            refine ⟨ofCellsV sh fun k => c.getD (o + (i * esz + (j + k))) undef, ?_, rep_ofCells (fun k hk => .d (hc i (j + k) hi (by omega))) h1⟩
            unfold Instr.loadAt
            simp only [Instr.sureAddr, Sem.run_bind, Sem.run_pure, Result.andThen]
            exact run_loadVar hs b (o + 0 + i * esz + j) _ (fun k hk => by rw [show o + 0 + i * esz + j + k = o + (i * esz + (j + k)) by omega]; exact cell_of_heap hg (hb k hk))
          · exact he.elim
    | rop b o n cell f hF hcell _ hrep =>
      simp only [] at he
      split at he
      · rename_i hle
        simp only [Tr.ev] at he; subst he
        refine ⟨ofCellsV sh f, ?_, rep_ofCells (fun j hj => .d (hrep j (by omega))) h1⟩
        unfold Instr.loadAt
        simp only [Instr.sureAddr, Sem.run_bind, Sem.run_pure, Result.andThen]
        exact run_loadVar hs b o f (fun j hj => hcell j (by omega))
      · exact he.elim
    | _ => exact he.elim

end
end Go.Sx
