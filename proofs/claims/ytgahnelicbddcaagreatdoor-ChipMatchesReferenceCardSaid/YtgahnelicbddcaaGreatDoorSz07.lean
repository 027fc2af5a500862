/- Part of a proof of the given statements of this seat (SyMu, SyMv, SyMw, SyMx): no conditions beyond those typed here. -/
import Derived.Test.YtgahnelicbddcaaGreatDoorSz03
import Derived.Test.YtgahnelicbddcaaGreatDoorSz05
set_option linter.unusedVariables false
set_option linter.unusedSimpArgs false
set_option linter.unusedSectionVars false

namespace Go.Sx
noncomputable section
variable [Globs]

mutual
def mapS (τ : Nat → Nat) : SV → SV
  | .d v => .d v
  | .ptr l o => .ptr (τ l) o
  | .pix l b n e i j => .pix (τ l) b n e i j
  | .row l b o n e => .row (τ l) b o n e
  | .rop n c => .rop n c
  | .agg cs => .agg (mapSs τ cs)
  | .fn f xs ys => .fn f (mapSs τ xs) (mapSs τ ys)
  | .tup cs => .tup (mapSs τ cs)
  | .ifc t v => .ifc t (mapS τ v)
def mapSs (τ : Nat → Nat) : List SV → List SV
  | [] => []
  | x :: r => mapS τ x :: mapSs τ r
end
def mapB (τ : Nat → Nat) : Blk → Blk
  | .cells cs => .cells (mapSs τ cs)
  | .row n e c => .row n e c
  | .iter s p => .iter s p
theorem mapSs_len (τ : Nat → Nat) : ∀ l : List SV, (mapSs τ l).length = l.length
  | [] => by simp [mapSs]
  | x :: r => by simp [mapSs, mapSs_len τ r]
theorem mapSs_get (τ : Nat → Nat) : ∀ (l : List SV) (i : Nat), i < l.length → (mapSs τ l).getD i uv = mapS τ (l.getD i uv)
  | [], i, h => by simp at h
  | x :: r, 0, h => by simp [mapSs]
  | x :: r, i + 1, h => by
    have := mapSs_get τ r i (by simpa using h)
    simp only [mapSs, List.getD_cons_succ]; exact this
theorem map_rep {w : World} {μ μ' : Mu} {F : Nat → Prop} {τ : Nat → Nat} (hτ : ∀ l q, μ l = some q → μ' (τ l) = some q) {v : Value} {s : SV} (h : Rep w μ F v s) : Rep w μ' F v (mapS τ s) := by
  induction h with
  | d h => unfold mapS; exact .d h
  | ptr l off b o h => unfold mapS; exact .ptr _ off b o (hτ _ _ h)
  | pix l base n esz i j b o h => unfold mapS; exact .pix _ base n esz i j b o (hτ _ _ h)
  | rnil l base off esz h => unfold mapS; exact .rnil _ base off esz (hτ _ _ h)
  | rz l base off esz b o q h => unfold mapS; exact .rz _ base off esz b o q (hτ _ _ h)
  | row l base off len esz b o cap h hc hz => unfold mapS; exact .row _ base off len esz b o cap (hτ _ _ h) hc hz
  | rop b o n cell f hb hcell hone hrep => unfold mapS; exact .rop b o n cell f hb hcell hone hrep
  | agg cs ss hl _ ih =>
    unfold mapS
    exact .agg cs _ (by rw [mapSs_len]; exact hl) fun i hi => by
      rw [mapSs_len] at hi
      rw [mapSs_get τ ss i hi]; exact ih i hi
  | fn f fs cs ss ts h1 h2 _ _ ih1 ih2 =>
    unfold mapS
    exact .fn f fs cs _ _ (by rw [mapSs_len]; exact h1) (by rw [mapSs_len]; exact h2) (fun i hi => by
      rw [mapSs_len] at hi
      rw [mapSs_get τ ss i hi]; exact ih1 i hi) fun i hi => by
      rw [mapSs_len] at hi
      rw [mapSs_get τ ts i hi]; exact ih2 i hi
  | tup cs ss hl _ ih =>
    unfold mapS
    exact .tup cs _ (by rw [mapSs_len]; exact hl) fun i hi => by
      rw [mapSs_len] at hi
      rw [mapSs_get τ ss i hi]; exact ih i hi
  | ifc t v s _ ih => unfold mapS; exact .ifc t v _ ih
theorem map_blk {w : World} {μ μ' : Mu} {F : Nat → Prop} {τ : Nat → Nat} (hτ : ∀ l q, μ l = some q → μ' (τ l) = some q) {q : Plc} {b : Blk} (h : BlkAt w μ F q b) : BlkAt w μ' F q (mapB τ b) := by
  cases q with
  | nil => cases b <;> simp only [mapB, BlkAt] at h ⊢; exact h
  | pl p o =>
    cases b with
    | cells cs =>
      simp only [mapB, BlkAt] at h ⊢
      obtain ⟨c, e, h1, h2, h3, h4⟩ := h
      refine ⟨c, e, h1, by rw [mapSs_len]; exact h2, fun i hi => ?_, fun i hi => ?_⟩
      · rw [mapSs_len] at hi
        rw [mapSs_get τ cs i hi]; exact map_rep hτ (h3 i hi)
      · rw [mapSs_len] at hi; exact h4 i hi
    | row n e c => exact h
    | iter s k => exact h
theorem blk_keep {w w' : World} {μ μ' : Mu} {F F' : Nat → Prop} {T : Nat → Prop} (he : Ext (fun b => b < w.heap.size ∧ ¬ T b) w w') (hF : ∀ b, F b → F' b) (hT : ∀ b, F b → b < w.heap.size ∧ ¬ T b) (hμ : ∀ l q, μ l = some q → μ' l = some q) {q : Plc} {b : Blk}
    (hq : ∀ p o, q = .pl p o → ¬ T p) (h : BlkAt w μ F q b) : BlkAt w' μ' F' q b := by
  have heF : Ext F w w' := ⟨he.os, he.tape, he.output, he.size, fun b hb => he.keep b (hT b hb), he.bsz⟩
  cases q with
  | nil => cases b <;> exact h
  | pl p o =>
    have hp := h.lt
    have hk := he.keep p ⟨hp, hq p o rfl⟩
    cases b with
    | cells cs =>
      obtain ⟨c, e, h1, h2, h3, h4⟩ := h
      exact ⟨c, e, by rw [hk]; exact h1, h2, fun i hi => (h3 i hi).mono heF hF hμ, h4⟩
    | row n e cell =>
      obtain ⟨c, e', h1, h2, h3, h4⟩ := h
      exact ⟨c, e', by rw [hk]; exact h1, h2, fun i j hi hj => (h3 i j hi hj).mono heF hF, h4⟩
    | iter s k => exact ⟨h.1, by rw [hk]; exact h.2⟩

def idxOf (ls : List Nat) (l : Nat) : Option Nat := match ls with
  | [] => none
  | a :: r => if a = l then some 0 else (idxOf r l).map (· + 1)
theorem idxOf_some {ls : List Nat} {l i : Nat} (h : idxOf ls l = some i) : i < ls.length ∧ ls.getD i 0 = l := by
  induction ls generalizing i with
  | nil => cases h
  | cons a r ih =>
    unfold idxOf at h
    split at h
    · cases h; rename_i e; exact ⟨by simp, by simpa using e⟩
    · rw [Option.map_eq_some_iff] at h
      obtain ⟨j, h1, rfl⟩ := h
      obtain ⟨h2, h3⟩ := ih h1
      exact ⟨by simpa using h2, by simpa using h3⟩
theorem idxOf_at {ls : List Nat} (hn : ls.Nodup) {i : Nat} (hi : i < ls.length) : idxOf ls (ls.getD i 0) = some i := by
  induction ls generalizing i with
  | nil => simp at hi
  | cons a r ih =>
    rw [List.nodup_cons] at hn
    unfold idxOf
    cases i with
    | zero => rw [if_pos (by simp)]
    | succ i =>
      have hi' : i < r.length := by simpa using hi
      have : a ≠ r.getD i 0 := by
        intro e
        apply hn.1
        rw [e, List.getD_eq_getElem?_getD, List.getElem?_eq_getElem hi']
        exact List.getElem_mem hi'
      rw [List.getD_cons_succ, if_neg this, ih hn.2 hi']; rfl
theorem idxOf_lt {ls : List Nat} {nx l : Nat} (h : ∀ a ∈ ls, a < nx) (hl : nx ≤ l) : idxOf ls l = none := by
  cases hi : idxOf ls l with
  | none => rfl
  | some i =>
    obtain ⟨h1, h2⟩ := idxOf_some hi
    have : l ∈ ls := by
      rw [← h2, List.getD_eq_getElem?_getD, List.getElem?_eq_getElem h1]; exact List.getElem_mem h1
    have := h l this
    omega
def unlab (ls : List Nat) (nx i : Nat) : Nat := if i < ls.length then ls.getD i 0 else nx + (i - ls.length)
def mergeF {α : Type} (ls : List Nat) (nx : Nat) (f g : Nat → α) (l : Nat) : α := match idxOf ls l with
  | some i => g i
  | none => if l < nx then f l else g (ls.length + (l - nx))
def mergeH (ls : List Nat) (nx : Nat) (hp hp0 : Heap) : Heap := (List.range (nx + hp0.length)).map (mergeF ls nx (hget hp) (fun i => (hget hp0 i).map (mapB (unlab ls nx))))
theorem hget_ge {hp : Heap} {l : Nat} (h : hp.length ≤ l) : hget hp l = none := by
  rw [hget_def, List.getD_eq_getElem?_getD, List.getElem?_eq_none h]; rfl
theorem mergeH_get {ls : List Nat} {nx : Nat} {hp hp0 : Heap} (hls : ∀ a ∈ ls, a < nx) (l : Nat) : hget (mergeH ls nx hp hp0) l = mergeF ls nx (hget hp) (fun i => (hget hp0 i).map (mapB (unlab ls nx))) l := by
  rw [hget_def, List.getD_eq_getElem?_getD]
  unfold mergeH
  rw [List.getElem?_map]
  rcases Nat.lt_or_ge l (nx + hp0.length) with h | h
  · rw [List.getElem?_range h]; rfl
  · rw [List.getElem?_eq_none (by simpa using h)]
    unfold mergeF
    rw [idxOf_lt hls (by omega)]
    simp only
    rw [if_neg (by omega), hget_ge (by omega)]; rfl
theorem CallsTo.frame {P : Program} {k : FuncId} {hp hp0 : Heap} {nx : Nat} {args args0 : List SV} {R : SV → Heap → Nat → Prop} (ls : List Nat) (hn : ls.Nodup) (hls : ∀ a ∈ ls, a < nx)
    (hs : CallsTo P k hp0 ls.length args0 R)
    (hb : ∀ i blk, hget hp0 i = some blk → i < ls.length ∧ ∃ blk', hget hp (ls.getD i 0) = some blk' ∧ ∀ (w : World) (μ μ0 : Mu) (F : Nat → Prop) (q : Plc), (∀ j, j < ls.length → μ0 j = μ (ls.getD j 0)) → BlkAt w μ F q blk' → BlkAt w μ0 F q blk)
    (ha : ∀ (w : World) (μ μ0 : Mu) (F : Nat → Prop) (vs : Array Value), (∀ j, j < ls.length → μ0 j = μ (ls.getD j 0)) → Reps w μ F vs args → Reps w μ0 F vs args0) :
    CallsTo P k hp nx args fun s hp' nx' => ∃ s0 hp0' n0, R s0 hp0' n0 ∧ s = mapS (unlab ls nx) s0 ∧ nx' = nx + (n0 - ls.length) ∧ hp' = mergeH ls nx hp hp0' := by
  intro μ F w vs hl hgl hf hr
  obtain ⟨μ0, hμ0⟩ : ∃ μ0 : Mu, μ0 = fun i => if i < ls.length then μ (ls.getD i 0) else none := ⟨_, rfl⟩
  have h0 : ∀ j, j < ls.length → μ0 j = μ (ls.getD j 0) := fun j hj => by rw [hμ0]; exact if_pos hj
  have h0f : Fresh ls.length μ0 := fun l hl => by rw [hμ0]; exact if_neg (by omega)
  have hTk : ∀ b, Tk hp0 μ0 b → Tk hp μ b := by
    rintro b ⟨i, blk, o, h1, h2⟩
    obtain ⟨hi, blk', h3, _⟩ := hb i blk h1
    exact ⟨ls.getD i 0, blk', o, h3, by rw [← h0 i hi]; exact h2⟩
  have hl0 : LH w μ0 F hp0 := by
    refine ⟨Ext.refl _ _, fun b h => h, fun b h => ⟨(hl.fin b h).1, .inl h⟩, fun i blk hi => ?_, fun i i' blk blk' b o b' o' hne hi hi' hm hm' => ?_⟩
    · obtain ⟨hlt, blk', h3, h4⟩ := hb i blk hi
      obtain ⟨q, k1, k2, k3⟩ := hl.blk _ _ h3
      refine ⟨q, by rw [h0 i hlt]; exact k1, ?_, h4 w μ μ0 F q h0 k3⟩
      cases q with
      | nil => trivial
      | pl b o => exact ⟨k2.1, .inl ⟨i, blk, o, hi, by rw [h0 i hlt]; exact k1⟩⟩
    · obtain ⟨hlt, a, h3, _⟩ := hb i blk hi
      obtain ⟨hlt', a', h3', _⟩ := hb i' blk' hi'
      rw [h0 _ hlt] at hm
      rw [h0 _ hlt'] at hm'
      refine hl.inj _ _ _ _ _ _ _ _ (fun e => hne ?_) h3 h3' hm hm'
      have := idxOf_at hn hlt
      rw [e, idxOf_at hn hlt'] at this
      exact (Option.some.inj this).symm
  refine (hs μ0 F w vs hl0 hgl h0f (ha w μ μ0 F vs h0 hr)).mono ?_
  rintro e w' ⟨v, s, hp', nx', μ', F', rfl, hR, hh, hrep, hext, hfr⟩
  obtain ⟨μ1, hμ1⟩ : ∃ μ1 : Mu, μ1 = mergeF ls nx μ μ' := ⟨_, rfl⟩
  have m1 : ∀ i, i < ls.length → μ1 (ls.getD i 0) = μ' i := fun i hi => by rw [hμ1]; unfold mergeF; rw [idxOf_at hn hi]
  have m2 : ∀ l, idxOf ls l = none → l < nx → μ1 l = μ l := fun l h h2 => by rw [hμ1]; unfold mergeF; rw [h]; exact if_pos h2
  have m3 : ∀ l, nx ≤ l → μ1 l = μ' (ls.length + (l - nx)) := fun l h => by rw [hμ1]; unfold mergeF; rw [idxOf_lt hls h]; exact if_neg (by omega)
  have hτ : ∀ i q, μ' i = some q → μ1 (unlab ls nx i) = some q := by
    intro i q hq
    unfold unlab
    split
    · rename_i h; rw [m1 i h]; exact hq
    · rename_i h; rw [m3 _ (by omega), show ls.length + (nx + (i - ls.length) - nx) = i by omega]; exact hq
  have hsub : ∀ l q, μ l = some q → μ1 l = some q := by
    intro l q hq
    have hlt : l < nx := by
      rcases Nat.lt_or_ge l nx with h | h
      · exact h
      · rw [hf l h] at hq; cases hq
    cases hi : idxOf ls l with
    | none => rw [m2 l hi hlt]; exact hq
    | some i =>
      obtain ⟨h1, h2⟩ := idxOf_some hi
      rw [← h2, m1 i h1]
      exact hext i q (by rw [h0 i h1, h2]; exact hq)
  have hFT : ∀ b, F b → b < w.heap.size ∧ ¬ Tk hp0 μ0 b := by
    intro b hb
    refine ⟨(hl.fin b hb).1, ?_⟩
    rintro ⟨i, blk, o, h1, h2⟩
    exact (hl0.blkAt h1 h2).2 hb
  have small : ∀ i blk, hget hp' i = some blk → ∃ q, μ' i = some q ∧ PlcOK ⟨w, Tk hp μ, F⟩ F' q ∧ BlkAt w' μ1 F' q (mapB (unlab ls nx) blk) := by
    intro i blk hi
    obtain ⟨q, k1, k2, k3⟩ := hh.blk i blk hi
    refine ⟨q, k1, ?_, map_blk hτ k3⟩
    cases q with
    | nil => trivial
    | pl b o => exact ⟨k2.1, k2.2.imp (hTk b) id⟩
  have other : ∀ l blk, idxOf ls l = none → l < nx → hget hp l = some blk → ∀ b o, μ l = some (.pl b o) → b < w.heap.size ∧ ¬ Tk hp0 μ0 b ∧ ¬ F b := by
    intro l blk hi hlt hg b o hm
    obtain ⟨h1, h2⟩ := hl.blkAt hg hm
    refine ⟨h1.lt, ?_, h2⟩
    rintro ⟨i, blk0, o', h3, h4⟩
    obtain ⟨hlt', blk', h5, _⟩ := hb i blk0 h3
    rw [h0 i hlt'] at h4
    refine hl.inj l (ls.getD i 0) blk blk' b o b o' (fun e => ?_) hg h5 hm h4 rfl
    rw [e, idxOf_at hn hlt'] at hi; cases hi
  refine ⟨v, _, _, _, μ1, F', rfl, ⟨s, hp', nx', hR, rfl, rfl, rfl⟩, ⟨?_, hh.sub, fun b hb => ?_, fun l blk hg => ?_, fun l l' blk blk' b o b' o' hne hg hg' hm hm' => ?_⟩, map_rep hτ hrep, hsub, fun l h => ?_⟩
  · exact ⟨hh.ext.os, hh.ext.tape, hh.ext.output, hh.ext.size, fun b hb => hh.ext.keep b ⟨hb.1, fun h => hb.2 (hTk b h)⟩, hh.ext.bsz⟩
  · obtain ⟨k1, k2⟩ := hh.fin b hb
    exact ⟨k1, k2.imp id (fun h => h.imp (hTk b) id)⟩
  · rw [mergeH_get hls] at hg
    unfold mergeF at hg
    cases hi : idxOf ls l with
    | some i =>
      rw [hi] at hg
      simp only [Option.map_eq_some_iff] at hg
      obtain ⟨blk0, h1, rfl⟩ := hg
      obtain ⟨q, k1, k2, k3⟩ := small i blk0 h1
      obtain ⟨h2, h3⟩ := idxOf_some hi
      exact ⟨q, by rw [← h3, m1 i h2]; exact k1, k2, k3⟩
    | none =>
      rw [hi] at hg
      simp only at hg
      by_cases hlt : l < nx
      · rw [if_pos hlt] at hg
        obtain ⟨q, k1, k2, k3⟩ := hl.blk l blk hg
        refine ⟨q, by rw [m2 l hi hlt]; exact k1, ?_, blk_keep hh.ext hh.sub hFT hsub (fun p o e => ?_) k3⟩
        · cases q with
          | nil => trivial
          | pl b o =>
            obtain ⟨o1, o2, o3⟩ := other l blk hi hlt hg b o k1
            refine ⟨fun h => ?_, k2.2⟩
            rcases (hh.fin b h).2 with h | h | h
            · exact o3 h
            · exact o2 h
            · exact absurd o1 (Nat.not_lt.2 h)
        · subst e
          exact (other l blk hi hlt hg p o k1).2.1
      · rw [if_neg hlt, Option.map_eq_some_iff] at hg
        obtain ⟨blk0, h1, rfl⟩ := hg
        obtain ⟨q, k1, k2, k3⟩ := small _ blk0 h1
        exact ⟨q, by rw [m3 l (by omega)]; exact k1, k2, k3⟩
  · have cls : ∀ l blk b o, hget (mergeH ls nx hp hp') l = some blk → μ1 l = some (.pl b o) → (∃ i blk0, hget hp' i = some blk0 ∧ μ' i = some (.pl b o) ∧ l = unlab ls nx i) ∨ (hget hp l = some blk ∧ μ l = some (.pl b o) ∧ b < w.heap.size ∧ ¬ Tk hp0 μ0 b) := by
      intro l blk b o hg hm
      rw [mergeH_get hls] at hg
      unfold mergeF at hg
      cases hi : idxOf ls l with
      | some i =>
        rw [hi] at hg
        simp only [Option.map_eq_some_iff] at hg
        obtain ⟨blk0, h1, rfl⟩ := hg
        obtain ⟨h2, h3⟩ := idxOf_some hi
        rw [← h3, m1 i h2] at hm
        exact .inl ⟨i, blk0, h1, hm, by unfold unlab; rw [if_pos h2]; exact h3.symm⟩
      | none =>
        rw [hi] at hg
        simp only at hg
        by_cases hlt : l < nx
        · rw [if_pos hlt] at hg
          rw [m2 l hi hlt] at hm
          have := other l blk hi hlt hg b o hm
          exact .inr ⟨hg, hm, this.1, this.2.1⟩
        · rw [if_neg hlt, Option.map_eq_some_iff] at hg
          obtain ⟨blk0, h1, rfl⟩ := hg
          rw [m3 l (by omega)] at hm
          exact .inl ⟨_, blk0, h1, hm, by unfold unlab; rw [if_neg (by omega)]; omega⟩
    have sb : ∀ i blk0 b o, hget hp' i = some blk0 → μ' i = some (.pl b o) → Tk hp0 μ0 b ∨ w.heap.size ≤ b := by
      intro i blk0 b o h1 h2
      obtain ⟨q, k1, k2, _⟩ := hh.blk i blk0 h1
      rw [h2] at k1; cases k1
      exact k2.2
    rcases cls l blk b o hg hm with ⟨i, a, h1, h2, e1⟩ | ⟨h1, h2, h3, h4⟩ <;> rcases cls l' blk' b' o' hg' hm' with ⟨i', a', h1', h2', e2⟩ | ⟨h1', h2', h3', h4'⟩
    · refine hh.inj i i' a a' b o b' o' (fun e => hne ?_) h1 h1' h2 h2'
      rw [e1, e2, e]
    · rintro rfl
      rcases sb i a b o h1 h2 with h | h
      · exact h4' h
      · omega
    · rintro rfl
      rcases sb i' a' b o' h1' h2' with h | h
      · exact h4 h
      · omega
    · exact hl.inj l l' blk blk' b o b' o' hne h1 h1' h2 h2'
  · rw [m3 l (by omega)]
    exact hfr _ (by omega)
end
end Go.Sx

namespace Go.Sx
noncomputable section
variable [Globs]

mutual
def inS (p : Nat → Bool) : SV → Bool
  | .d _ => true
  | .ptr l _ => p l
  | .pix l _ _ _ _ _ => p l
  | .row l _ _ _ _ => p l
  | .rop _ _ => true
  | .agg cs => inSs p cs
  | .fn _ xs ys => inSs p xs && inSs p ys
  | .tup cs => inSs p cs
  | .ifc _ v => inS p v
def inSs (p : Nat → Bool) : List SV → Bool
  | [] => true
  | x :: r => inS p x && inSs p r
end
def inB (p : Nat → Bool) : Blk → Bool
  | .cells cs => inSs p cs
  | .row _ _ _ => true
  | .iter _ _ => true
theorem inSs_get {p : Nat → Bool} : ∀ {l : List SV} {i : Nat}, inSs p l = true → i < l.length → inS p (l.getD i uv) = true
  | [], i, _, h => by simp at h
  | x :: r, 0, h, _ => by
    simp only [inSs, Bool.and_eq_true] at h
    exact h.1
  | x :: r, i + 1, h, hi => by
    simp only [inSs, Bool.and_eq_true] at h
    rw [List.getD_cons_succ]
    exact inSs_get h.2 (by simpa using hi)
def muR (p : Nat → Bool) (μ : Mu) : Mu := fun l => if p l = true then μ l else none
theorem in_rep {w : World} {μ : Mu} {F : Nat → Prop} {p : Nat → Bool} {v : Value} {s : SV} (h : Rep w μ F v s) (hi : inS p s = true) : Rep w (muR p μ) F v s := by
  induction h with
  | d h => exact .d h
  | ptr l off b o h => exact .ptr _ off b o (by unfold muR; rw [if_pos (by simpa [inS] using hi)]; exact h)
  | pix l base n esz i j b o h => exact .pix _ base n esz i j b o (by unfold muR; rw [if_pos (by simpa [inS] using hi)]; exact h)
  | rnil l base off esz h => exact .rnil _ base off esz (by unfold muR; rw [if_pos (by simpa [inS] using hi)]; exact h)
  | rz l base off esz b o q h => exact .rz _ base off esz b o q (by unfold muR; rw [if_pos (by simpa [inS] using hi)]; exact h)
  | row l base off len esz b o cap h hc hz => exact .row _ base off len esz b o cap (by unfold muR; rw [if_pos (by simpa [inS] using hi)]; exact h) hc hz
  | rop b o n cell f hb hcell hone hrep => exact .rop b o n cell f hb hcell hone hrep
  | agg cs ss hl _ ih =>
    simp only [inS] at hi
    exact .agg cs _ hl fun i h => ih i h (inSs_get hi h)
  | fn f fs cs ss ts h1 h2 _ _ ih1 ih2 =>
    simp only [inS, Bool.and_eq_true] at hi
    exact .fn f fs cs _ _ h1 h2 (fun i h => ih1 i h (inSs_get hi.1 h)) fun i h => ih2 i h (inSs_get hi.2 h)
  | tup cs ss hl _ ih =>
    simp only [inS] at hi
    exact .tup cs _ hl fun i h => ih i h (inSs_get hi h)
  | ifc t v s _ ih =>
    simp only [inS] at hi
    exact .ifc t v _ (ih hi)
theorem in_blk {w : World} {μ : Mu} {F : Nat → Prop} {p : Nat → Bool} {q : Plc} {b : Blk} (h : BlkAt w μ F q b) (hi : inB p b = true) : BlkAt w (muR p μ) F q b := by
  cases q with
  | nil => cases b <;> exact h
  | pl k o =>
    cases b with
    | cells cs =>
      obtain ⟨c, e, h1, h2, h3, h4⟩ := h
      exact ⟨c, e, h1, h2, fun i hj => in_rep (h3 i hj) (inSs_get hi hj), h4⟩
    | row n e c => exact h
    | iter s k => exact h
def lab (ls : List Nat) (l : Nat) : Nat := (idxOf ls l).getD 0
def isIn (ls : List Nat) (l : Nat) : Bool := (idxOf ls l).isSome
theorem lab_mu {ls : List Nat} {μ μ0 : Mu} (h : ∀ j, j < ls.length → μ0 j = μ (ls.getD j 0)) (l : Nat) (q : Plc) (hq : muR (isIn ls) μ l = some q) : μ0 (lab ls l) = some q := by
  unfold muR isIn at hq
  split at hq
  · rename_i hs
    rw [Option.isSome_iff_exists] at hs
    obtain ⟨i, hi⟩ := hs
    obtain ⟨h1, h2⟩ := idxOf_some hi
    unfold lab
    rw [hi]
    show μ0 i = _
    rw [h i h1, h2]; exact hq
  · cases hq
def smallH (ls : List Nat) (hp : Heap) : Heap := ls.map fun l => (hget hp l).map (mapB (lab ls))
def smallOK (ls : List Nat) (hp : Heap) (args : List SV) : Bool := inSs (isIn ls) args && ls.all fun l => match hget hp l with
  | some b => inB (isIn ls) b
  | none => true
theorem smallH_get {ls : List Nat} {hp : Heap} {i : Nat} {blk : Blk} (h : hget (smallH ls hp) i = some blk) : i < ls.length ∧ ∃ b, hget hp (ls.getD i 0) = some b ∧ blk = mapB (lab ls) b := by
  rw [hget_def, List.getD_eq_getElem?_getD] at h
  unfold smallH at h
  rw [List.getElem?_map] at h
  rcases Nat.lt_or_ge i ls.length with hi | hi
  · rw [List.getElem?_eq_getElem hi] at h
    simp only [Option.map_some, Option.getD_some, Option.map_eq_some_iff] at h
    obtain ⟨b, h1, h2⟩ := h
    exact ⟨hi, b, by rw [List.getD_eq_getElem?_getD, List.getElem?_eq_getElem hi]; exact h1, h2.symm⟩
  · rw [List.getElem?_eq_none hi] at h; cases h
theorem CallsTo.small {P : Program} {k : FuncId} {hp : Heap} {nx : Nat} {args : List SV} {R : SV → Heap → Nat → Prop} (ls : List Nat) (hn : ls.Nodup) (hls : ∀ a ∈ ls, a < nx) (hok : smallOK ls hp args = true)
    (hs : CallsTo P k (smallH ls hp) ls.length (mapSs (lab ls) args) R) :
    CallsTo P k hp nx args fun s hp' nx' => ∃ s0 hp0' n0, R s0 hp0' n0 ∧ s = mapS (unlab ls nx) s0 ∧ nx' = nx + (n0 - ls.length) ∧ hp' = mergeH ls nx hp hp0' := by
  unfold smallOK at hok
  rw [Bool.and_eq_true, List.all_eq_true] at hok
  refine hs.frame ls hn hls (fun i blk hi => ?_) (fun w μ μ0 F vs h hr => ?_)
  · obtain ⟨h1, b, h2, rfl⟩ := smallH_get hi
    refine ⟨h1, b, h2, fun w μ μ0 F q h hb => map_blk (lab_mu h) (in_blk hb ?_)⟩
    have := hok.2 (ls.getD i 0) (by rw [List.getD_eq_getElem?_getD, List.getElem?_eq_getElem h1]; exact List.getElem_mem h1)
    rw [h2] at this; exact this
  · refine ⟨by rw [mapSs_len]; exact hr.1, fun i hi => ?_⟩
    rw [mapSs_len] at hi
    rw [mapSs_get _ _ _ hi]
    exact map_rep (lab_mu h) (in_rep (hr.2 i hi) (inSs_get hok.1 hi))
end
end Go.Sx

namespace Go.Sx
noncomputable section
variable [Globs]

def inlT (P : Program) (C : Ctx) (dr : Dr) (n : Nat) (k : FuncId) (args : List SV) (st : AS) : Tree (SV × AS) :=
  match P.funcs[k]? with
  | none => .fail
  | some fn => match fn.body with
    | none => .fail
    | some body => (exec P C dr n body { st with tm := startTm fn args }).bind fun r => match r.1 with
      | .normal => (Tree.ofTr (absResults P fn.results r.2)).bind fun s => .ret (s, r.2)
      | .ret => (Tree.ofTr (absResults P fn.results r.2)).bind fun s => .ret (s, r.2)
      | _ => .fail
theorem inlT_sound {P : Program} {C : Ctx} {dr : Dr} (hC : CtxOK P C) (hD : DrOK P C dr) {n : Nat} {k : FuncId} {args : List SV} {st0 : AS} {R : SV × AS → Prop} (hs : (inlT P C dr n k args st0).sat P R) :
    CallsTo P k st0.hp st0.next args fun s hp' nx' => ∃ st' : AS, R (s, st') ∧ st'.hp = hp' ∧ st'.next = nx' := by
  intro μ F w vs hl hgl hf hr
  unfold inlT at hs
  split at hs
  · exact hs.elim
  · rename_i fn hfn
    split at hs
    · exact hs.elim
    · rename_i body hbody
      have hs := Tree.sat_bind hs
      refine callsIn_wide.1 (callsIn_of_wp_marks (F := Fence.wide) (n := 0) hfn hbody trivial ?_ rfl)
      have hsim : Sim ⟨w, Tk st0.hp μ, F⟩ μ { st0 with tm := startTm fn args } { tmps := vs ++ Array.replicate (fn.ntmps - vs.size) undef, defers := [] } w := by
        refine ⟨μ, F, hl, hf, fun _ _ h => h, ?_, ?_, Marks.nil _ _ _ hgl⟩
        · intro t
          simp only [startTm, tget_def]
          simp only [List.getD, List.getElem?_append, List.length_map]
          split
          · rename_i hlt
            have hlt' : t < vs.size := by rw [hr.1]; exact hlt
            have := hr.2 t hlt
            simp only [List.getElem?_map, List.getElem?_eq_getElem hlt, Option.map_some, Option.getD_some]
            simp only [RepT]
            simpa [Array.getD_eq_getD_getElem?, Array.getElem?_append, hlt', List.getD, hlt] using this
          · by_cases h2 : t - args.length < fn.ntmps - args.length
            · simp [List.getElem?_replicate, h2, RepT]
            · simp [List.getElem?_replicate, h2, RepT]
        · simp [startTm, hr.1]
      refine Go.wpIn_mono (exec_sound hC hD n body _ _ hs _ _ _ _ hsim).wp ?_
      intro e a' w' hc
      have key : ∀ s' : AS, Tree.sat P ((Tree.ofTr (absResults P fn.results s')).bind fun s => Tree.ret (s, s')) R → Sim ⟨w, Tk st0.hp μ, F⟩ μ s' a' w' → LeavesInM Fence.wide 0 P fn a'.tmps
          (fun e w' => ∃ v s hp' nx' μ' F', e = .returned v ∧ (∃ st' : AS, R (s, st') ∧ st'.hp = hp' ∧ st'.next = nx') ∧ HS ⟨w, Tk st0.hp μ, F⟩ μ' F' hp' w' ∧ Rep w' μ' F' v s ∧ (∀ l q, μ l = some q → μ' l = some q) ∧ Fresh nx' μ') a'.defers .returning w' := by
        intro s' hq ⟨μ', F', e1, e2, e3, e4, e5, e6⟩
        have hq := Tree.sat_bind hq
        obtain ⟨s, h1, h2⟩ := Tree.sat_ofTr hq
        obtain ⟨_, Ds, d1, d2, d3⟩ := e6
        rw [d1]
        refine leaves_marks (tm := s'.tm) (fun w2 k1 k2 => ?_) Ds w' d2 d3 e1 e4
        obtain ⟨v, h3, h4⟩ := absResults_sound (hs_seq1 k1) k2 h1
        exact ⟨v, h3, v, s, s'.hp, s'.next, μ', F', rfl, ⟨s', h2, rfl, rfl⟩, k1, h4, e3, e2⟩
      cases e with
      | normal => obtain ⟨s', h1, h2⟩ := hc; exact key s' h1 h2
      | ret => obtain ⟨s', h1, h2⟩ := hc; exact key s' h1 h2
      | exit id => obtain ⟨s', h1, h2⟩ := hc; exact h1.elim
      | goto l => exact hc.elim
      | panic ch => exact hc.elim
      | outgrown => exact hc.elim
end
end Go.Sx

namespace Go.Sx
noncomputable section
variable [Globs]

theorem CallsTo.mono {P : Program} {k : FuncId} {hp : Heap} {nx : Nat} {args : List SV} {R R1 : SV → Heap → Nat → Prop} (h : CallsTo P k hp nx args R) (hr : ∀ s hp' nx', R s hp' nx' → R1 s hp' nx') : CallsTo P k hp nx args R1 := by
  intro μ F w vs hl hgl hf hrs
  refine (h μ F w vs hl hgl hf hrs).mono ?_
  rintro e w' ⟨v, s, hp', nx', μ', F', rfl, hR, k1, k2, k3, k4⟩
  exact ⟨v, s, hp', nx', μ', F', rfl, hr _ _ _ hR, k1, k2, k3, k4⟩
theorem CallsTo.le {P : Program} {k : FuncId} {hp hp1 : Heap} {nx : Nat} {args args1 : List SV} {R : SV → Heap → Nat → Prop} (h : CallsTo P k hp1 nx args1 R) (hh : hpLe hp hp1) (ha : ∀ (w : World) (μ : Mu) (F : Nat → Prop) (vs : Array Value), Reps w μ F vs args → Reps w μ F vs args1) : CallsTo P k hp nx args R := by
  intro μ F w vs hl hgl hf hrs
  have hT : ∀ b, Tk hp1 μ b → Tk hp μ b := by
    rintro b ⟨l, y, o, h1, h2⟩
    obtain ⟨x, h3, _⟩ := hpLe_get hh l y h1
    exact ⟨l, x, o, h3, h2⟩
  have hl1 : LH w μ F hp1 := by
    refine ⟨Ext.refl _ _, fun b h => h, fun b h => ⟨(hl.fin b h).1, .inl h⟩, fun l y hy => ?_, fun l l' y y' b o b' o' hne hy hy' => ?_⟩
    · obtain ⟨x, hx, hle⟩ := hpLe_get hh l y hy
      obtain ⟨q, k1, k2, k3⟩ := hl.blk l x hx
      refine ⟨q, k1, ?_, hle _ _ _ _ k3⟩
      cases q with
      | nil => trivial
      | pl b o => exact ⟨k2.1, .inl ⟨l, y, o, hy, k1⟩⟩
    · obtain ⟨x, hx, _⟩ := hpLe_get hh l y hy
      obtain ⟨x', hx', _⟩ := hpLe_get hh l' y' hy'
      exact hl.inj l l' x x' b o b' o' hne hx hx'
  refine (h μ F w vs hl1 hgl hf (ha w μ F vs hrs)).mono ?_
  rintro e w' ⟨v, s, hp', nx', μ', F', rfl, hR, hh', k2, k3, k4⟩
  refine ⟨v, s, hp', nx', μ', F', rfl, hR, ⟨⟨hh'.ext.os, hh'.ext.tape, hh'.ext.output, hh'.ext.size, fun b hb => hh'.ext.keep b ⟨hb.1, fun h => hb.2 (hT b h)⟩, hh'.ext.bsz⟩, hh'.sub, fun b hb => ?_, fun l y hy => ?_, hh'.inj⟩, k2, k3, k4⟩
  · obtain ⟨k1, k2⟩ := hh'.fin b hb
    exact ⟨k1, k2.imp id (fun h => h.imp (hT b) id)⟩
  · obtain ⟨q, k1, k2, k3⟩ := hh'.blk l y hy
    refine ⟨q, k1, ?_, k3⟩
    cases q with
    | nil => trivial
    | pl b o => exact ⟨k2.1, k2.2.imp (hT b) id⟩
def mcOf (sel : List SV → Heap → Option (List Nat)) (small : MCtr) : MCtr := fun args hp nx => match sel args hp with
  | none => .fail
  | some ls => .need (ls.Nodup ∧ (∀ a ∈ ls, a < nx) ∧ smallOK ls hp args = true) ((small (mapSs (lab ls) args) (smallH ls hp) ls.length).bind fun r => .ret (mapS (unlab ls nx) r.1, mergeH ls nx hp r.2.1, nx + (r.2.2 - ls.length)))
theorem mcOf_ok {P : Program} {k : FuncId} {sel : List SV → Heap → Option (List Nat)} {small : MCtr} (h : MuOK P k small) : MuOK P k (mcOf sel small) := by
  intro args hp nx r hr
  unfold mcOf at hr
  split at hr
  · exact hr.elim
  · rename_i ls hls
    obtain ⟨⟨h1, h2, h3⟩, h4⟩ := hr
    obtain ⟨r0, h5, h6⟩ := Tr.ev_bind h4
    have h6 : r = _ := h6
    subst h6
    refine (CallsTo.small ls h1 h2 h3 (h _ _ _ _ h5)).mono ?_
    rintro s hp' nx' ⟨s0, hp0, n0, rfl, rfl, rfl, rfl⟩
    rfl

theorem CallsTo.gc {P : Program} {k : FuncId} {hp : Heap} {nx : Nat} {args : List SV} {R R1 : SV → Heap → Nat → Prop} (h : CallsTo P k hp nx args R)
    (hr : ∀ s hp' nx', R s hp' nx' → ∃ s1 hp1 n1, R1 s1 hp1 n1 ∧ Gc nx ⟨[.ok s], hp', nx', .nil⟩ ⟨[.ok s1], hp1, n1, .nil⟩) : CallsTo P k hp nx args R1 := by
  intro μ F w vs hl hgl hf hrs
  refine (h μ F w vs hl hgl hf hrs).mono ?_
  rintro e w' ⟨v, s, hp', nx', μ', F', rfl, hR, k1, k2, k3, k4⟩
  obtain ⟨s1, hp1, n1, hR1, hg⟩ := hr _ _ _ hR
  have hgl' : GlobOK w' F' := hgl.mono ⟨k1.ext.os, k1.ext.tape, k1.ext.output, k1.ext.size, fun b hb => k1.ext.keep b ⟨(hl.fin b hb).1, by
    rintro ⟨l, blk, o, h1, h2⟩
    exact (hl.blkAt h1 h2).2 hb⟩, k1.ext.bsz⟩ k1.sub
  have hsim : Sim ⟨w, Tk hp μ, F⟩ μ ⟨[.ok s], hp', nx', .nil⟩ { tmps := #[v], defers := [] } w' := by
    refine ⟨μ', F', k1, k4, k3, fun t => ?_, by simp, Marks.nil _ _ _ hgl'⟩
    rw [tget_def]
    cases t with
    | zero => exact k2
    | succ t => simp [List.getD, RepT]
  obtain ⟨μ1, F1, e1, e2, e3, e4, e5, e6⟩ := hg _ μ _ w' hf hsim
  have h0 := e4 0
  rw [tget_def] at h0
  exact ⟨v, s1, hp1, n1, μ1, F1, rfl, hR1, e1, by simpa [List.getD, RepT] using h0, e3, e2⟩
theorem muOK_walk {P : Program} {C : Ctx} {dr : Dr} (hC : CtxOK P C) (hD : DrOK P C dr) {k : FuncId} {m : MCtr}
    (h : ∀ args hp nx r, (m args hp nx).ev r → ∃ args1 hp1 n hint, hpLe hp hp1 ∧ (∀ (w : World) (μ : Mu) (F : Nat → Prop) (vs : Array Value), Reps w μ F vs args → Reps w μ F vs args1) ∧
      Sat P (inlT P C dr n k args1 ⟨[], hp1, nx, hint⟩) fun q => Gc nx ⟨[.ok q.1], q.2.hp, q.2.next, .nil⟩ ⟨[.ok r.1], r.2.1, r.2.2, .nil⟩) : MuOK P k m := by
  intro args hp nx r hr
  obtain ⟨args1, hp1, n, hint, h1, h2, h3⟩ := h args hp nx r hr
  refine CallsTo.le ((inlT_sound hC hD h3.ok).gc ?_) h1 h2
  rintro s hp' nx' ⟨st', hg, rfl, rfl⟩
  exact ⟨_, _, _, rfl, hg⟩
end
end Go.Sx

