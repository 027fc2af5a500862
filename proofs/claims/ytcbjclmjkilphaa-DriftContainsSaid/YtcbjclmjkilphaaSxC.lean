/- The symbolic executor: single operations (second part). -/
import Derived.Test.YtcbjclmjkilphaaSxB
set_option linter.unusedVariables false
set_option linter.unusedSimpArgs false
namespace Go.Sx
noncomputable section

/-- What an operation leaves: a value and a world that stand for what was reckoned. -/
def Out (w : World) (μ : Mu) (F : Nat → Prop) (hp : Heap) (N : Nat → Prop) (hp' : Heap) (v : Value) (s : SV) (w' : World) : Prop :=
  ∃ μ' F', HS ⟨w, Tk hp μ, F⟩ μ' F' hp' w' ∧ Rep w' μ' F' v s ∧ (∀ l q, μ l = some q → μ' l = some q) ∧ (∀ l, ¬ N l → μ' l = μ l)

theorem out_same {w : World} {μ : Mu} {F : Nat → Prop} {hp : Heap} {N : Nat → Prop} {v : Value} {s : SV} (hl : LH w μ F hp) (h : Rep w μ F v s) : Out w μ F hp N hp v s w :=
  ⟨μ, F, hl, h, fun _ _ h => h, fun _ _ => rfl⟩

def upd (μ : Mu) (l : Nat) (q : Plc) : Mu := fun k => if k = l then some q else μ k

theorem upd_ext {μ : Mu} {l : Nat} {q : Plc} (h : μ l = none) : ∀ k r, μ k = some r → upd μ l q k = some r := by
  intro k r hk
  unfold upd
  split
  · rename_i he; subst he; rw [h] at hk; cases hk
  · exact hk

theorem LH.none {w : World} {μ : Mu} {F : Nat → Prop} {hp : Heap} (h : LH w μ F hp) {l : Nat} (hm : μ l = none) : hget hp l = none := by
  cases hg : hget hp l with
  | none => rfl
  | some blk => obtain ⟨q, h1, _⟩ := h.blk l blk hg; rw [hm] at h1; cases h1

/-- A new block. -/
theorem hs_alloc {w : World} {μ : Mu} {F : Nat → Prop} {hp : Heap} {id : Nat} {blk : Blk} {ob : Obj} (hl : LH w μ F hp) (hid : μ id = none)
    (hb : BlkAt (w.alloc ob) (upd μ id (.pl w.heap.size 0)) F (.pl w.heap.size 0) blk) :
    HS ⟨w, Tk hp μ, F⟩ (upd μ id (.pl w.heap.size 0)) F (hset hp id (some blk)) (w.alloc ob) := by
  have hext : Ext F w (w.alloc ob) := Ext.alloc F w ob fun b hb => (hl.fin b hb).1
  refine ⟨Ext.alloc _ w ob fun b hb => hb.1, fun b hb => hb, fun b hb => ⟨?_, .inl hb⟩, ?_, ?_⟩
  · have := (hl.fin b hb).1; simp; omega
  · intro l blk' hg
    rw [hget_hset] at hg
    split at hg
    · rename_i he; subst he
      simp only [Option.some.injEq] at hg; subst hg
      exact ⟨.pl w.heap.size 0, by simp [upd], ⟨fun h => by have := (hl.fin _ h).1; omega, .inr (Nat.le_refl _)⟩, hb⟩
    · rename_i hne
      obtain ⟨q, h1, h2, h3⟩ := hl.blk l blk' hg
      refine ⟨q, upd_ext hid _ _ h1, h2, h3.mono hext (fun _ h => h) (upd_ext hid) ?_⟩
      intro b o hq; subst hq
      exact RowKit.Below.heap_alloc w ob b h3.lt
  · intro l l' blk1 blk2 b o b' o' hne h1 h2 m1 m2
    rw [hget_hset] at h1 h2
    have old : ∀ k bb bo bk, k ≠ id → hget hp k = some bk → upd μ id (.pl w.heap.size 0) k = some (.pl bb bo) → bb < w.heap.size ∧ μ k = some (.pl bb bo) := by
      intro k bb bo bk hk hg hm
      have hm' : μ k = some (.pl bb bo) := by simpa [upd, hk] using hm
      exact ⟨(hl.blkAt hg hm').1.lt, hm'⟩
    by_cases e1 : l = id
    · have e2 : l' ≠ id := fun h => hne (e1.trans h.symm)
      rw [if_neg e2] at h2
      obtain ⟨hlt, _⟩ := old l' b' o' blk2 e2 h2 m2
      have : b = w.heap.size := by subst e1; simp [upd] at m1; omega
      omega
    · rw [if_neg e1] at h1
      obtain ⟨hlt, hm1⟩ := old l b o blk1 e1 h1 m1
      by_cases e2 : l' = id
      · have : b' = w.heap.size := by subst e2; simp [upd] at m2; omega
        omega
      · rw [if_neg e2] at h2
        obtain ⟨_, hm2⟩ := old l' b' o' blk2 e2 h2 m2
        exact hl.inj l l' blk1 blk2 b o b' o' hne h1 h2 hm1 hm2

theorem upd_other {μ : Mu} {l : Nat} {q : Plc} : ∀ k, ¬ k = l → upd μ l q k = μ k := fun k h => by simp [upd, h]

theorem out_alloc {w : World} {μ : Mu} {F : Nat → Prop} {hp : Heap} {id : Nat} {blk : Blk} {ob : Obj} {v : Value} {s : SV} (hl : LH w μ F hp) (hid : μ id = none)
    (hb : BlkAt (w.alloc ob) (upd μ id (.pl w.heap.size 0)) F (.pl w.heap.size 0) blk) (hv : Rep (w.alloc ob) (upd μ id (.pl w.heap.size 0)) F v s) :
    Out w μ F hp (· = id) (hset hp id (some blk)) v s (w.alloc ob) :=
  ⟨_, F, hs_alloc hl hid hb, hv, upd_ext hid, upd_other⟩

theorem heap_alloc_at (w : World) (o : Obj) : (w.alloc o).heap[w.heap.size]? = some o := by show (w.heap.push o)[w.heap.size]? = _; simp

/-- A new block of known cells. -/
theorem blkAt_new {w : World} {μ μ' : Mu} {F : Nat → Prop} {c : Array Value} {e : TypeId} {cs : List SV} (hF : ∀ b, F b → b < w.heap.size) (hμ : ∀ l q, μ l = some q → μ' l = some q) (hs : cs.length ≤ c.size)
    (h : ∀ i, i < cs.length → Rep w μ F (c.getD i undef) (cs.getD i uv)) (h1 : ∀ i, i < cs.length → (c.getD i undef).oneCell' = true) : BlkAt (w.alloc (.cells c e)) μ' F (.pl w.heap.size 0) (.cells cs) :=
  ⟨c, e, heap_alloc_at w _, by omega, fun i hi => by rw [Nat.zero_add]; exact (h i hi).mono (Ext.alloc F w _ hF) (fun _ h => h) hμ, fun i hi => by rw [Nat.zero_add]; exact h1 i hi⟩

theorem rep_svcells {w : World} {μ : Mu} {F : Nat → Prop} {v : Value} {s : SV} (h : Rep w μ F v s) (hone : ∀ u, s = .d (.x u) → u.oneCell' = true) : v.cells.size = (svcells s).length ∧ ∀ i, i < (svcells s).length → Rep w μ F (v.cells.getD i undef) ((svcells s).getD i uv) := by
  have one : ∀ (v : Value) (s : SV), svcells s = [s] → v.cells = #[v] → Rep w μ F v s → v.cells.size = (svcells s).length ∧ ∀ i, i < (svcells s).length → Rep w μ F (v.cells.getD i undef) ((svcells s).getD i uv) := by
    intro v s h1 h2 h
    rw [h1, h2]
    refine ⟨rfl, fun i hi => ?_⟩
    have : i = 0 := by simpa using hi
    subst this
    simpa using h
  cases h with
  | agg cs ss hl h => exact ⟨hl, h⟩
  | d hd =>
    refine one _ _ rfl ?_ (.d hd)
    cases hd with
    | x => have := hone v rfl; cases v <;> first | rfl | simp [Value.oneCell'] at this
    | _ => rfl
  | _ => exact one _ _ rfl rfl (by first | exact .ptr _ _ _ _ ‹_› | exact .pix _ _ _ _ _ _ _ _ ‹_› | exact .rnil _ _ _ _ ‹_› | exact .rz _ _ _ _ _ _ _ ‹_› | exact .row _ _ _ _ _ _ _ _ ‹_› ‹_› ‹_› | exact .rop _ _ _ _ _ ‹_› ‹_› ‹_› ‹_› | exact .fn _ _ _ _ _ ‹_› ‹_› ‹_› ‹_› | exact .tup _ _ ‹_› ‹_› | exact .ifc _ _ _ ‹_›)

/-- No aggregate behind an exact value; no tuple. -/
def cellOK : SV → Bool
  | .d (.x v) => v.oneCell'
  | .agg _ | .tup _ => false
  | _ => true

theorem cellOK_one {w : World} {μ : Mu} {F : Nat → Prop} {v : Value} {s : SV} (h : Rep w μ F v s) (hk : cellOK s = true) : v.oneCell' = true := by
  cases h with
  | d hd => cases hd with
    | x u => exact hk
    | _ => rfl
  | agg => cases hk
  | tup => cases hk
  | _ => rfl

def boxOK : SV → Bool
  | .d (.x v) => v.oneCell'
  | _ => true

theorem all_cellOK {cs : List SV} (h : cs.all cellOK = true) : ∀ i, i < cs.length → cellOK (cs.getD i uv) = true := by
  intro i hi
  rw [List.all_eq_true] at h
  refine h _ ?_
  simp [List.getD, hi]

def absBox (id : Nat) (hp : Heap) (s : SV) : Tr (SV × Heap) :=
  if boxOK s ∧ (svcells s).all cellOK = true then .ret (.ptr id 0, hset hp id (some (.cells (svcells s)))) else .fail

theorem absBox_sound {P : Program} {w : World} {μ : Mu} {F : Nat → Prop} {hp hp' : Heap} {id : Nat} {t : TypeId} {v : Value} {s r : SV} (hl : LH w μ F hp) (hid : μ id = none) (hv : Rep w μ F v s)
    (he : (absBox id hp s).ev (r, hp')) : ∃ u w', (Instr.box t v).run P w = .ok u w' ∧ Out w μ F hp (· = id) hp' u r w' := by
  unfold absBox at he
  split at he
  · rename_i hb
    simp only [Tr.ev, Prod.mk.injEq] at he; obtain ⟨rfl, rfl⟩ := he
    obtain ⟨h1, h2⟩ := rep_svcells hv (fun u hu => by subst hu; exact hb.1)
    refine ⟨.pointer (some ⟨w.heap.size, 0, none⟩), w.alloc (.cells v.cells t), rfl, out_alloc hl hid (blkAt_new (fun b hb => (hl.fin b hb).1) (upd_ext hid) (by omega) h2 (fun i hi => cellOK_one (h2 i hi) (all_cellOK hb.2 i hi))) ?_⟩
    exact .ptr id 0 w.heap.size 0 (by simp [upd])
  · exact he.elim

def absAlloc (P : Program) (id : Nat) (hp : Heap) (t : TypeId) : Tr (SV × Heap) :=
  match pureRun P (zeroValue t) with
  | some z => absBox id hp (ofValue z)
  | none => .fail

theorem absAlloc_sound {P : Program} {w : World} {μ : Mu} {F : Nat → Prop} {hp hp' : Heap} {id : Nat} {t : TypeId} {r : SV} (hl : LH w μ F hp) (hid : μ id = none)
    (he : (absAlloc P id hp t).ev (r, hp')) : ∃ u w', (Instr.alloc t true (.tuple #[])).run P w = .ok u w' ∧ Out w μ F hp (· = id) hp' u r w' := by
  unfold absAlloc at he
  split at he
  · rename_i z hz
    have hz' := pureRun_run w hz
    obtain ⟨u, w', h1, h2⟩ := absBox_sound (P := P) (t := t) hl hid (rep_ofValue w μ F z) he
    refine ⟨u, w', ?_, h2⟩
    unfold Instr.alloc
    simp only [Sem.run_bind, hz', Result.andThen]
    exact h1
  · exact he.elim

/-! ### Parts of a value -/

def absPart (P : Program) (t : TypeId) (cs : List SV) (off : Nat) : Option SV :=
  match shapeT P t with
  | none => none
  | some s => if off + s.2 ≤ cs.length then some (ofCells s fun j => cs.getD (off + j) uv) else none

theorem extract_eq_range (cs : Array Value) (off n : Nat) (h : off + n ≤ cs.size) : cs.extract off (off + n) = ((List.range n).map fun j => cs.getD (off + j) undef).toArray := by
  apply Array.ext
  · simp; omega
  · intro i h1 h2
    simp at h1 h2
    have : off + i < cs.size := by omega
    simp [Array.getD, this]

theorem absPart_sound {P : Program} {w : World} {μ : Mu} {F : Nat → Prop} {t : TypeId} {cs : Array Value} {ss : List SV} {off : Nat} {s : SV} (hl : cs.size = ss.length)
    (h : ∀ i, i < ss.length → Rep w μ F (cs.getD i undef) (ss.getD i uv)) (he : absPart P t ss off = some s) : ∃ u, (part t cs off).run P w = .ok u w ∧ Rep w μ F u s := by
  unfold absPart at he
  cases hs : shapeT P t with
  | none => simp [hs] at he
  | some sh =>
    simp only [hs] at he
    split at he
    · rename_i hle
      simp only [Option.some.injEq] at he; subst he
      refine ⟨ofCellsV sh fun j => cs.getD (off + j) undef, ?_, rep_ofCells (fun j hj => h _ (by omega)) (shapeT_one hs)⟩
      unfold shapeT at hs
      cases hu : P.underlying t with
      | none => simp [hu] at hs
      | some d =>
        simp only [hu] at hs
        unfold part
        simp only [Sem.run_bind, run_isAggT w hu, Result.andThen]
        cases ha : isAggT P t with
        | true =>
          simp only [ha, if_true] at hs ⊢
          cases hn : tsz P t with
          | none => simp [hn] at hs
          | some n =>
            simp only [hn, Option.map_some, Option.some.injEq] at hs; subst hs
            simp only [Sem.run_bind, run_tsz w hn, Result.andThen, pure, Sem.run, ofCellsV, if_true]
            rw [extract_eq_range cs off n (by simp only at hle; omega)]
        | false =>
          simp only [ha, Bool.false_eq_true, if_false, Option.some.injEq] at hs ⊢; subst hs
          have : off < cs.size := by simp only at hle; omega
          simp [this, ofCellsV, Array.getD, pure, Sem.run]
    · cases he

def absField (P : Program) (t : TypeId) (s : SV) (fi : Nat) : Tr SV :=
  match P.underlying t, s with
  | some (.struct fields), .agg cs =>
    match fields[fi]? with
    | some f => Tr.ofOpt (absPart P f.type cs f.offset)
    | none => .fail
  | _, _ => .fail

theorem absField_sound {P : Program} {w : World} {μ : Mu} {F : Nat → Prop} {t : TypeId} {v : Value} {s r : SV} {fi : Nat} (hv : Rep w μ F v s) (he : (absField P t s fi).ev r) :
    ∃ u, (Instr.field t v fi).run P w = .ok u w ∧ Rep w μ F u r := by
  unfold absField at he
  split at he
  · rename_i fields cs hu
    split at he
    · rename_i f hf
      cases hv with
      | agg vs _ hl h =>
        obtain ⟨u, h1, h2⟩ := absPart_sound hl h (Tr.ev_ofOpt he)
        refine ⟨u, ?_, h2⟩
        unfold Instr.field
        simp only [Sem.run_bind, run_underlying hu, Result.andThen, hf, asAgg, Sem.run_pure]
        exact h1
    · exact he.elim
  · exact he.elim

def absFieldAddr (P : Program) (t : TypeId) (p : SV) (fi : Nat) : Tr SV :=
  match P.underlying t with
  | some (.struct fields) =>
    match fields[fi]? with
    | some f =>
      match tsz P f.type with
      | some (_ + 1) =>
        match p with
        | .ptr l off => .ret (.ptr l (off + f.offset))
        | .pix l base n esz i j => .ret (.pix l base n esz i (j + f.offset))
        | .rop n cell => if f.offset ≤ n then .ret (.rop (n - f.offset) fun j => cell (f.offset + j)) else .fail
        | _ => .fail
      | _ => .fail
    | none => .fail
  | _ => .fail

theorem absFieldAddr_sound {P : Program} {w : World} {μ : Mu} {F : Nat → Prop} {t : TypeId} {v : Value} {s r : SV} {fi : Nat} (hv : Rep w μ F v s) (he : (absFieldAddr P t s fi).ev r) :
    ∃ u, (Instr.fieldAt t v fi).run P w = .ok u w ∧ Rep w μ F u r := by
  unfold absFieldAddr at he
  split at he
  · rename_i fields hu
    split at he
    · rename_i f hf
      split at he
      · rename_i n hn
        have key : ∀ b o, (Instr.fieldAt t (.pointer (some ⟨b, o, none⟩)) fi).run P w = .ok (.pointer (some ⟨b, o + f.offset, none⟩)) w := by
          intro b o
          unfold Instr.fieldAt
          simp only [Sem.run_bind, run_underlying hu, Result.andThen, hf, Instr.sureAddr, Sem.run_pure, fieldPlace, run_tsz w hn, Nat.add_one_ne_zero, if_false, add_none]
        split at he
        · rename_i l off
          simp only [Tr.ev] at he; subst he
          cases hv with
          | ptr _ _ b o hm => exact ⟨_, key b (o + off), by rw [Nat.add_assoc]; exact .ptr l _ b o hm⟩
        · rename_i l base n' esz i j
          simp only [Tr.ev] at he; subst he
          cases hv with
          | pix _ _ _ _ _ _ b o hm => exact ⟨_, key b _, by rw [Nat.add_assoc]; exact .pix l base n' esz i _ b o hm⟩
        · rename_i n' cell
          split at he
          · rename_i hle
            simp only [Tr.ev] at he; subst he
            cases hv with
            | rop b o _ _ f' hF hcell hone hrep =>
              exact ⟨_, key b o, .rop b _ _ _ (fun j => f' (f.offset + j)) (fun h => hF (by omega)) (fun j hj => by rw [Nat.add_assoc]; exact hcell _ (by omega)) (fun j hj => hone _ (by omega)) (fun j hj => hrep _ (by omega))⟩
          · exact he.elim
        · exact he.elim
      · exact he.elim
    · exact he.elim
  · exact he.elim

end
end Go.Sx
