/- The symbolic executor: single operations (third part). -/
import Derived.Test.YtcbjclmjkilphaaSxC
set_option linter.unusedVariables false
set_option linter.unusedSimpArgs false
namespace Go.Sx
noncomputable section

/-! ### Literals of structs, arrays and slices -/

def setRange (cs : List SV) (off : Nat) (xs : List SV) : List SV := cs.take off ++ xs ++ cs.drop (off + xs.length)

theorem getD_setRange (cs xs : List SV) (off i : Nat) (h : off + xs.length ≤ cs.length) : (setRange cs off xs).getD i uv = if off ≤ i ∧ i < off + xs.length then xs.getD (i - off) uv else cs.getD i uv := by
  unfold setRange
  simp only [List.getD]
  rw [List.append_assoc, List.getElem?_append]
  simp only [List.length_take]
  by_cases h1 : i < off
  · rw [if_pos (by omega), if_neg (by omega), List.getElem?_take, if_pos h1]
  · rw [if_neg (by omega), List.getElem?_append, Nat.min_eq_left (by omega)]
    by_cases h2 : i < off + xs.length
    · rw [if_pos (by omega), if_pos (by omega)]
    · rw [if_neg (by omega), if_neg (by omega), List.getElem?_drop]
      congr 2; omega

theorem length_setRange (cs xs : List SV) (off : Nat) (h : off + xs.length ≤ cs.length) : (setRange cs off xs).length = cs.length := by
  unfold setRange; simp; omega

def absFill (place : Nat → Option (Nat × Nat)) (cs : List SV) : List (Nat × SV) → Option (List SV)
  | [] => some cs
  | (i, s) :: rest =>
    match place i with
    | none => none
    | some (off, size) => if boxOK s ∧ (svcells s).length = size ∧ off + size ≤ cs.length then absFill place (setRange cs off (svcells s)) rest else none

theorem foldl_set (off : Nat) : ∀ (xs : List Value) (k : Nat) (c : Array Value), let r := (xs.zipIdx k).foldl (fun cs (p : Value × Nat) => cs.setIfInBounds (off + p.2) p.1) c
    r.size = c.size ∧ ∀ i, i < c.size → r.getD i undef = if off + k ≤ i ∧ i < off + k + xs.length then xs.getD (i - (off + k)) undef else c.getD i undef
  | [], k, c => by simp; intro i _ h1 h2; omega
  | x :: xs, k, c => by
    have ih := foldl_set off xs (k + 1) (c.setIfInBounds (off + k) x)
    simp only [List.zipIdx_cons, List.foldl_cons] at ih ⊢
    obtain ⟨h1, h2⟩ := ih
    refine ⟨by simpa using h1, fun i hi => ?_⟩
    rw [h2 i (by simpa using hi)]
    by_cases ha : off + (k + 1) ≤ i ∧ i < off + (k + 1) + xs.length
    · rw [if_pos ha, if_pos (by simp; omega)]
      have : i - (off + k) = (i - (off + (k + 1))) + 1 := by omega
      rw [this]; simp
    · rw [if_neg ha]
      by_cases hb : i = off + k
      · subst hb
        rw [if_pos (by simp)]
        simp [Array.getD, hi]
      · rw [if_neg (by simp; omega)]
        simp [Array.getD, hi, Array.getElem_setIfInBounds, hb, Ne.symm hb]

def Reps (w : World) (μ : Mu) (F : Nat → Prop) (c : Array Value) (cs : List SV) : Prop := c.size = cs.length ∧ ∀ i, i < cs.length → Rep w μ F (c.getD i undef) (cs.getD i uv)

theorem boxOK_one {s : SV} (h : boxOK s = true) : ∀ u, s = .d (.x u) → u.oneCell' = true := fun u hu => by subst hu; exact h

inductive RepsP (w : World) (μ : Mu) (F : Nat → Prop) : List (Nat × Value) → List (Nat × SV) → Prop
  | nil : RepsP w μ F [] []
  | cons (i : Nat) {v : Value} {s : SV} {r : List (Nat × Value)} {t : List (Nat × SV)} (h : Rep w μ F v s) (hr : RepsP w μ F r t) : RepsP w μ F ((i, v) :: r) ((i, s) :: t)

theorem absFill_sound {w : World} {μ : Mu} {F : Nat → Prop} {place : Nat → Option (Nat × Nat)} {ps : List (Nat × Value)} {ss : List (Nat × SV)} (hp : RepsP w μ F ps ss) :
    ∀ {c : Array Value} {cs r : List SV}, Reps w μ F c cs → absFill place cs ss = some r → ∃ c', Instr.fill place c ps = some c' ∧ Reps w μ F c' r := by
  induction hp with
  | nil => intro c cs r hc he; simp only [absFill, Option.some.injEq] at he; subst he; exact ⟨c, rfl, hc⟩
  | @cons i v s r' t h hr ih =>
    intro c cs r hc he
    simp only [absFill] at he
    split at he
    · cases he
    · rename_i off size hpl
      split at he
      · rename_i hk
        obtain ⟨hb, hsz, hle⟩ := hk
        obtain ⟨h1, h2⟩ := rep_svcells h (boxOK_one hb)
        have hf := foldl_set off v.cells.toList 0 c
        simp only [Nat.add_zero] at hf
        have heq : (v.cells.zipIdx.foldl (fun cs (x : Value × Nat) => cs.setIfInBounds (off + x.2) x.1) c) = ((v.cells.toList.zipIdx 0).foldl (fun cs (p : Value × Nat) => cs.setIfInBounds (off + p.2) p.1) c) := by
          rw [← Array.foldl_toList, Array.toList_zipIdx]
        have hreps : Reps w μ F (v.cells.zipIdx.foldl (fun cs (x : Value × Nat) => cs.setIfInBounds (off + x.2) x.1) c) (setRange cs off (svcells s)) := by
          rw [heq]
          refine ⟨by rw [hf.1, hc.1, length_setRange _ _ _ (by omega)], fun k hk => ?_⟩
          rw [length_setRange _ _ _ (by omega)] at hk
          rw [hf.2 k (by rw [hc.1]; exact hk), getD_setRange _ _ _ _ (by omega)]
          simp only [Array.length_toList]
          by_cases hin : off ≤ k ∧ k < off + (svcells s).length
          · rw [if_pos hin, if_pos (by omega)]
            have := h2 (k - off) (by omega)
            simpa [Array.getD, List.getD, show k - off < v.cells.size by omega] using this
          · rw [if_neg hin, if_neg (by omega)]
            exact hc.2 k hk
        obtain ⟨c', e1, e2⟩ := ih hreps he
        refine ⟨c', ?_, e2⟩
        simp only [Instr.fill, hpl]
        rw [if_neg (by have := hc.1; simp; omega)]
        exact e1
      · cases he

def absBuild (P : Program) (t : TypeId) (ps : List (Nat × SV)) : Tr SV :=
  match pureRun P (zeroValue t), P.underlying t with
  | some z, some (.struct fields) =>
    match pureRun P (fields.mapM fun f => do pure (f.offset, ← sizeOf f.type)) with
    | some places => if boxOK (ofValue z) then Tr.ofOpt ((absFill (places[·]?) (svcells (ofValue z)) ps).map .agg) else .fail
    | none => .fail
  | some z, some (.array _ elem) =>
    match tsz P elem with
    | some size => if boxOK (ofValue z) then Tr.ofOpt ((absFill (fun i => some (i * size, size)) (svcells (ofValue z)) ps).map .agg) else .fail
    | none => .fail
  | _, _ => .fail

theorem reps_value {w : World} {μ : Mu} {F : Nat → Prop} {v : Value} {s : SV} (h : Rep w μ F v s) (hb : boxOK s = true) : Reps w μ F v.cells (svcells s) := rep_svcells h (boxOK_one hb)

theorem absBuild_sound {P : Program} {w : World} {μ : Mu} {F : Nat → Prop} {t : TypeId} {ps : Array (Nat × Value)} {ss : List (Nat × SV)} {r : SV} (hp : RepsP w μ F ps.toList ss) (he : (absBuild P t ss).ev r) :
    ∃ u, (Instr.build t ps).run P w = .ok u w ∧ Rep w μ F u r := by
  unfold absBuild at he
  split at he
  · rename_i z fields hz hu
    split at he
    · rename_i places hpl
      split at he
      · rename_i hb
        have he2 := Tr.ev_ofOpt he
        rw [Option.map_eq_some_iff] at he2
        obtain ⟨r', he2, rfl⟩ := he2
        obtain ⟨c', e1, e2⟩ := absFill_sound hp (reps_value (rep_ofValue w μ F z) hb) he2
        refine ⟨.agg c', ?_, .agg c' r' e2.1 e2.2⟩
        unfold Instr.build
        simp only [Sem.run_bind, pureRun_run w hz, run_underlying hu, Result.andThen, pureRun_run w hpl, e1]
        rfl
      · exact he.elim
    · exact he.elim
  · rename_i z n elem hz hu
    split at he
    · rename_i size hs
      split at he
      · rename_i hb
        have he2 := Tr.ev_ofOpt he
        rw [Option.map_eq_some_iff] at he2
        obtain ⟨r', he2, rfl⟩ := he2
        obtain ⟨c', e1, e2⟩ := absFill_sound hp (reps_value (rep_ofValue w μ F z) hb) he2
        refine ⟨.agg c', ?_, .agg c' r' e2.1 e2.2⟩
        unfold Instr.build
        simp only [Sem.run_bind, pureRun_run w hz, run_underlying hu, Result.andThen, run_tsz w hs, e1, pure, Sem.run]
      · exact he.elim
    · exact he.elim
  · exact he.elim

/-- A slice literal: a block of known cells. -/
def absBuildSlice (P : Program) (id : Nat) (hp : Heap) (t : TypeId) (len : Nat) (ps : List (Nat × SV)) : Tr (SV × Heap) :=
  match P.underlying t with
  | some (.slice elem) =>
    match tsz P elem, pureRun P (zeroValue elem) with
    | some size, some z =>
      if len * size ≤ 16777216 ∧ z.cells.size = size ∧ boxOK (ofValue z) then
        match absFill (fun i => some (i * size, size)) ((List.range (len * size)).map fun k => (svcells (ofValue z)).getD (k % size) uv) ps with
        | some cs => if cs.all cellOK = true then .ret (.row id 0 0 len size, hset hp id (some (.cells cs))) else .fail
        | none => .fail
      else .fail
    | _, _ => .fail
  | _ => .fail

theorem absFill_length {place : Nat → Option (Nat × Nat)} : ∀ {ss : List (Nat × SV)} {cs r : List SV}, absFill place cs ss = some r → r.length = cs.length
  | [], cs, r, h => by simp only [absFill, Option.some.injEq] at h; rw [h]
  | (i, s) :: rest, cs, r, h => by
    simp only [absFill] at h
    split at h
    · cases h
    · split at h
      · rename_i hk
        rw [absFill_length h, length_setRange _ _ _ (by omega)]
      · cases h

theorem absBuildSlice_sound {P : Program} {w : World} {μ : Mu} {F : Nat → Prop} {hp hp' : Heap} {id : Nat} {t : TypeId} {len : Nat} {ps : Array (Nat × Value)} {ss : List (Nat × SV)} {r : SV} (hl : LH w μ F hp) (hid : μ id = none)
    (hps : RepsP w μ F ps.toList ss) (he : (absBuildSlice P id hp t len ss).ev (r, hp')) : ∃ u w', (Instr.buildSlice t len ps).run P w = .ok u w' ∧ Out w μ F hp (· = id) hp' u r w' := by
  unfold absBuildSlice at he
  split at he
  · rename_i elem hu
    split at he
    · rename_i size z hs hz
      split at he
      · rename_i hk
        obtain ⟨hsm, hzs, hzb⟩ := hk
        split at he
        · rename_i cs hf
          split at he
          rotate_left
          · exact he.elim
          rename_i hall
          simp only [Tr.ev, Prod.mk.injEq] at he; obtain ⟨rfl, rfl⟩ := he
          have hlen := absFill_length hf
          simp only [List.length_map, List.length_range] at hlen
          have hzr := reps_value (rep_ofValue w μ F z) hzb
          have h0 : Reps w μ F ((Array.range (len * size)).map fun k => z.cells[k % z.cells.size]!) ((List.range (len * size)).map fun k => (svcells (ofValue z)).getD (k % size) uv) := by
            refine ⟨by simp, fun i hi => ?_⟩
            simp only [List.length_map, List.length_range] at hi
            have hpos : 0 < size := Nat.pos_of_ne_zero fun h => by subst h; simp at hi
            have hlt : i % size < z.cells.size := by rw [hzs]; exact Nat.mod_lt _ hpos
            have := hzr.2 (i % size) (by rw [← hzr.1]; exact hlt)
            simp only [List.getD, List.getElem?_map, List.getElem?_range hi, Option.map_some, Option.getD_some]
            have hlt2 : i % size < size := by omega
            simpa [Array.getD, hi, hzs, hlt2, List.getD, getElem!_pos, hlt] using this
          obtain ⟨c', e1, e2⟩ := absFill_sound hps h0 hf
          have hrun : (Instr.buildSlice t len ps).run P w = .ok (.slice (some ⟨w.heap.size, 0, none⟩) len len) (w.alloc (.cells c' elem)) := by
            unfold Instr.buildSlice
            simp only [Sem.run_bind, run_underlying hu, Result.andThen, run_tsz w hs]
            rw [if_neg (by simp; omega)]
            by_cases h00 : len * size = 0
            · have hz0 : ((Array.range (len * size)).map fun k => z.cells[k % z.cells.size]!) = #[] := by simp [h00]
              rw [hz0] at e1
              simp only [h00, if_true, Sem.run_bind, pure, Sem.run, Result.andThen]
              have : ((Array.range 0).map fun x => (#[] : Array Value)[x % (#[] : Array Value).size]!) = #[] := by simp
              rw [this, e1]
              rfl
            · simp only [h00, if_false, Sem.run_bind, pureRun_run w hz, Result.andThen, pure, Sem.run, e1]
              rfl
          refine ⟨_, _, hrun, out_alloc hl hid (blkAt_new (fun b hb => (hl.fin b hb).1) (upd_ext hid) (by have := e2.1; omega) e2.2 (fun i hi => cellOK_one (e2.2 i hi) (all_cellOK hall i hi))) ?_⟩
          have hb : bsz (w.alloc (.cells c' elem)) w.heap.size = len * size := by
            unfold bsz; rw [heap_alloc_at]; simp [e2.1, hlen]
          have := Rep.row (w := w.alloc (.cells c' elem)) (μ := upd μ id (.pl w.heap.size 0)) (F := F) id 0 0 len size w.heap.size 0 len (by simp [upd]) (Nat.le_refl _) (by rw [hb]; simp)
          simpa using this
        · exact he.elim
      · exact he.elim
    · exact he.elim
  · exact he.elim

end
end Go.Sx
