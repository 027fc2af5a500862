/- The symbolic executor: calls by contract; one operation, whatever it is. -/
import Derived.Test.YtcbjclmjkilphaaSxJ
set_option linter.unusedVariables false
set_option linter.unusedSimpArgs false
namespace Go.Sx
noncomputable section

theorem rep_noId1 {w : World} {μ μ' : Mu} {F : Nat → Prop} {v : Value} {s : SV} (h : Rep w μ F v s) (hn : noId1 s = true) : Rep w μ' F v s := by
  cases h with
  | d hd => exact .d hd
  | _ => cases hn

theorem getD_mem {α : Type} {l : List α} {i : Nat} {d : α} (h : i < l.length) : l.getD i d ∈ l := by simp [List.getD, h]

theorem rep_noId {w : World} {μ μ' : Mu} {F : Nat → Prop} {v : Value} {s : SV} (h : Rep w μ F v s) (hn : noId s = true) : Rep w μ' F v s := by
  cases h with
  | d hd => exact .d hd
  | agg cs ss hl hi =>
    simp only [noId, List.all_eq_true] at hn
    exact .agg cs ss hl fun i h => rep_noId1 (hi i h) (hn _ (getD_mem h))
  | tup cs ss hl hi =>
    simp only [noId, List.all_eq_true] at hn
    refine .tup cs ss hl fun i h => ?_
    have h1 := hi i h
    have h2 := hn _ (getD_mem (d := uv) h)
    generalize ss.getD i uv = s at h1 h2 ⊢
    generalize cs.getD i undef = v at h1 ⊢
    cases h1 with
    | agg cs' ss' hl' hi' =>
      simp only [List.all_eq_true] at h2
      exact .agg cs' ss' hl' fun j hj => rep_noId1 (hi' j hj) (h2 _ (getD_mem hj))
    | d hd => exact .d hd
    | _ => cases h2
  | _ => cases hn

theorem rep_flat1 {w w' : World} {μ μ' : Mu} {F F' : Nat → Prop} {v : Value} {s : SV} (h : Rep w μ F v s) (hn : flat1 s = true) : Rep w' μ' F' v s := by
  cases h with
  | d hd => cases hd with
    | x v => exact .d (.x v)
    | _ => cases hn
  | _ => cases hn

theorem rep_flat {w w' : World} {μ μ' : Mu} {F F' : Nat → Prop} {v : Value} {s : SV} (h : Rep w μ F v s) (hn : flat s = true) : Rep w' μ' F' v s := by
  cases h with
  | d hd => cases hd with
    | x v => exact .d (.x v)
    | _ => cases hn
  | agg cs ss hl hi =>
    simp only [flat, List.all_eq_true] at hn
    exact .agg cs ss hl fun i h => rep_flat1 (hi i h) (hn _ (getD_mem h))
  | tup cs ss hl hi =>
    simp only [flat, List.all_eq_true] at hn
    refine .tup cs ss hl fun i h => ?_
    have h1 := hi i h
    have h2 := hn _ (getD_mem (d := uv) h)
    generalize ss.getD i uv = s at h1 h2 ⊢
    generalize cs.getD i undef = v at h1 ⊢
    cases h1 with
    | agg cs' ss' hl' hi' =>
      simp only [List.all_eq_true] at h2
      exact .agg cs' ss' hl' fun j hj => rep_flat1 (hi' j hj) (h2 _ (getD_mem hj))
    | d hd => cases hd with
      | x v => exact .d (.x v)
      | _ => cases h2
    | _ => cases h2
  | _ => cases hn

/-- The blocks that a view of the arguments opens. -/
def Opens (hp : Heap) (μ : Mu) (ls : List Nat) (b : Nat) : Prop := ∃ l ∈ ls, ∃ blk o, hget hp l = some blk ∧ μ l = some (.pl b o)

theorem absSrc_row {hp : Heap} {l base off len esz esz' n : Nat} {cell : Nat → Nat → DV} {p : Prop} (h : absSrc hp (.row l base off len esz) esz' = some (n, cell, p)) : n = len ∧ ∃ blk, hget hp l = some blk := by
  simp only [absSrc] at h
  split at h
  · rename_i hg
    split at h
    · simp only [Option.some.injEq, Prod.mk.injEq] at h; exact ⟨h.1.symm, _, hg⟩
    · cases h
  · rename_i hg
    split at h
    · split at h
      · simp only [Option.some.injEq, Prod.mk.injEq] at h; exact ⟨h.1.symm, _, hg⟩
      · cases h
    · cases h
  · cases h

theorem view1_sound {P : Program} {w : World} {μ : Mu} {F : Nat → Prop} {hp : Heap} {v : Value} {s a : SV} {ps : List Prop} {ls : List Nat} (hl : LH w μ F hp) (hs : Rep w μ F v s) (he : view1 hp s = some (a, ps, ls)) (hps : ∀ p ∈ ps, p) {G : Nat → Prop} (hFG : ∀ b, F b → G b)
    (hG : ∀ b, Opens hp μ ls b → G b) : Rep w emp G v a := by
  unfold view1 at he
  split at he
  · simp only [Option.some.injEq, Prod.mk.injEq] at he
    obtain ⟨rfl, rfl, rfl⟩ := he
    exact .d ((rep_d hs).mono (Ext.refl _ _) hFG)
  · rename_i n c
    simp only [Option.some.injEq, Prod.mk.injEq] at he
    obtain ⟨rfl, rfl, rfl⟩ := he
    cases hs with
    | rop b o _ _ f hF h1 h2 h3 => exact .rop b o n c f (fun h => hFG _ (hF h)) h1 h2 fun j hj => (h3 j hj).mono (Ext.refl _ _) hFG
  · rename_i l base off len esz
    split at he
    · rename_i n cell p hsrc
      simp only [Option.some.injEq, Prod.mk.injEq] at he
      obtain ⟨rfl, rfl, rfl⟩ := he
      have hp0 : p := hps p (List.mem_singleton.2 rfl)
      obtain ⟨hn, blk, hg⟩ := absSrc_row hsrc
      subst hn
      have hsrc' := absSrc_sound (P := P) hl hs hsrc hp0
      obtain ⟨news, h1, h2, h3, h4⟩ := hsrc'
      have hrun := (h2 w fun _ => rfl).2
      cases hs with
      | rnil => exact .d (.nil _ _)
      | rz _ _ _ _ b o => exact .d (.ro b o 0 0 esz cell (fun _ _ => undef) (fun h => by omega) (Nat.le_refl _) (fun i j hi => by omega) (fun i j hi => by omega) (fun i j hi => by omega))
      | row _ _ _ _ _ b o cap hm hc hz =>
        have hGb : G b := hG b ⟨l, List.mem_singleton.2 rfl, blk, o, hg, hm⟩
        obtain ⟨hat, _⟩ := hl.blkAt hg hm
        have hobj : ∃ c e, w.heap[b]? = some (.cells c e (0, 0)) := by
          cases blk with
          | cells cs => obtain ⟨c, e, hh, _⟩ := hat; exact ⟨c, e, hh⟩
          | row _ _ _ => obtain ⟨c, e, hh, _⟩ := hat; exact ⟨c, e, hh⟩
        obtain ⟨c, e, hh⟩ := hobj
        have hsz : o + base + (off + cap) * esz ≤ c.size := by unfold bsz at hz; rw [hh] at hz; exact hz
        have hle : o + base + off * esz + n * esz ≤ c.size := by
          have : n * esz ≤ cap * esz := Nat.mul_le_mul_right _ hc
          rw [Nat.add_mul] at hsz; omega
        have hdet := firstCells_det hh hle hrun
        have hidx : ∀ i j, i < n → j < esz → i * esz + j < n * esz := by
          intro i j hi hj
          have : (i + 1) * esz ≤ n * esz := Nat.mul_le_mul_right _ hi
          rw [Nat.add_mul] at this; omega
        refine .d (.ro b _ n cap esz cell (fun i j => news.getD (i * esz + j) undef) (fun _ => hGb) hc (fun i j hi hj => ?_) (fun i j hi hj => ?_) (fun i j hi hj => (h3 i j hi hj).mono (Ext.refl _ _) hFG))
        · rw [hdet _ (hidx i j hi hj)]
          exact cell_of_heap hh (by have := hidx i j hi hj; omega)
        · have hlt := hidx i j hi hj
          refine h4 _ ?_
          rw [← h1] at hlt
          exact getD_mem hlt
    · cases he
  · split at he
    · rename_i hk
      simp only [Option.some.injEq, Prod.mk.injEq] at he
      obtain ⟨rfl, rfl, rfl⟩ := he
      simp only [List.all_eq_true] at hk
      cases hs with
      | fn _ fs cs _ _ h1 h2 h3 h4 =>
        exact .fn _ fs cs _ _ h1 h2 (fun i hi => (rep_noId (μ' := emp) (h3 i hi) (hk.1 _ (getD_mem hi))).mono (Ext.refl _ _) hFG (fun _ _ h => h)) (fun i hi => (rep_noId (μ' := emp) (h4 i hi) (hk.2 _ (getD_mem hi))).mono (Ext.refl _ _) hFG (fun _ _ h => h))
    · cases he
  · cases he

theorem viewL_sound {P : Program} {w : World} {μ : Mu} {F : Nat → Prop} {hp : Heap} {G : Nat → Prop} (hl : LH w μ F hp) (hFG : ∀ b, F b → G b) : ∀ {cs as : List SV} {ps : List Prop} {ls : List Nat}, viewL hp cs = some (as, ps, ls) → (∀ p ∈ ps, p) → (∀ b, Opens hp μ ls b → G b) →
    as.length = cs.length ∧ ∀ i v, i < cs.length → Rep w μ F v (cs.getD i uv) → Rep w emp G v (as.getD i uv)
  | [], as, ps, ls, he, _, _ => by
    simp only [viewL, Option.some.injEq, Prod.mk.injEq] at he
    obtain ⟨rfl, rfl, rfl⟩ := he
    exact ⟨rfl, fun i v hi => by simp at hi⟩
  | s :: r, as, ps, ls, he, hps, hG => by
    simp only [viewL] at he
    split at he
    · rename_i a p l as' ps' ls' h1 h2
      simp only [Option.some.injEq, Prod.mk.injEq] at he
      obtain ⟨rfl, rfl, rfl⟩ := he
      obtain ⟨h3, h4⟩ := viewL_sound (P := P) hl hFG h2 (fun q hq => hps q (List.mem_append.2 (.inr hq))) (fun b ⟨l', hl', x⟩ => hG b ⟨l', List.mem_append.2 (.inr hl'), x⟩)
      refine ⟨by simp [h3], fun i v hi hr => ?_⟩
      cases i with
      | zero => exact view1_sound (P := P) hl (by simpa using hr) h1 (fun q hq => hps q (List.mem_append.2 (.inl hq))) hFG (fun b ⟨l', hl', x⟩ => hG b ⟨l', List.mem_append.2 (.inl hl'), x⟩)
      | succ i => simpa using h4 i v (by simpa using hi) (by simpa using hr)
    · cases he

theorem view_sound {P : Program} {w : World} {μ : Mu} {F : Nat → Prop} {hp : Heap} {v : Value} {s a : SV} {ps : List Prop} {ls : List Nat} (hl : LH w μ F hp) (hs : Rep w μ F v s) (he : view hp s = some (a, ps, ls)) (hps : ∀ p ∈ ps, p) {G : Nat → Prop} (hFG : ∀ b, F b → G b)
    (hG : ∀ b, Opens hp μ ls b → G b) : Rep w emp G v a := by
  unfold view at he
  split at he
  · rename_i cs
    rw [Option.map_eq_some_iff] at he
    obtain ⟨⟨as, p, l⟩, h1, h2⟩ := he
    simp only [Prod.mk.injEq] at h2
    obtain ⟨rfl, rfl, rfl⟩ := h2
    obtain ⟨h3, h4⟩ := viewL_sound (P := P) hl hFG h1 hps hG
    cases hs with
    | agg vs _ hlen hi => exact .agg vs as (by omega) fun i hi' => h4 i _ (by omega) (hi i (by omega))
  · exact view1_sound (P := P) hl hs he hps hFG hG

theorem views_sound {P : Program} {w : World} {μ : Mu} {F : Nat → Prop} {hp : Heap} {G : Nat → Prop} (hl : LH w μ F hp) (hFG : ∀ b, F b → G b) : ∀ {cs as : List SV} {ps : List Prop} {ls : List Nat}, views hp cs = some (as, ps, ls) → (∀ p ∈ ps, p) → (∀ b, Opens hp μ ls b → G b) →
    as.length = cs.length ∧ ∀ i v, i < cs.length → Rep w μ F v (cs.getD i uv) → Rep w emp G v (as.getD i uv)
  | [], as, ps, ls, he, _, _ => by
    simp only [views, Option.some.injEq, Prod.mk.injEq] at he
    obtain ⟨rfl, rfl, rfl⟩ := he
    exact ⟨rfl, fun i v hi => by simp at hi⟩
  | s :: r, as, ps, ls, he, hps, hG => by
    simp only [views] at he
    split at he
    · rename_i a p l as' ps' ls' h1 h2
      simp only [Option.some.injEq, Prod.mk.injEq] at he
      obtain ⟨rfl, rfl, rfl⟩ := he
      obtain ⟨h3, h4⟩ := views_sound (P := P) hl hFG h2 (fun q hq => hps q (List.mem_append.2 (.inr hq))) (fun b ⟨l', hl', x⟩ => hG b ⟨l', List.mem_append.2 (.inr hl'), x⟩)
      refine ⟨by simp [h3], fun i v hi hr => ?_⟩
      cases i with
      | zero => exact view_sound (P := P) hl (by simpa using hr) h1 (fun q hq => hps q (List.mem_append.2 (.inl hq))) hFG (fun b ⟨l', hl', x⟩ => hG b ⟨l', List.mem_append.2 (.inl hl'), x⟩)
      | succ i => simpa using h4 i v (by simpa using hi) (by simpa using hr)
    · cases he

theorem ctrCall_sound {P : Program} {w : World} {μ : Mu} {F : Nat → Prop} {hp : Heap} {N : Nat → Prop} {k : FuncId} {c : Ctr} {args : List SV} {vs : Array Value} {r : SV} (hl : LH w μ F hp) (hc : CtrOK P k c) (ha : Reps w μ F vs args) (he : (ctrCall hp c args).ev r) :
    Calls P k vs w fun e w' => ∃ v, e = .returned v ∧ Out w μ F hp N hp v r w' := by
  unfold ctrCall at he
  split at he
  · exact he.elim
  · rename_i as ps ls hv
    obtain ⟨hps, he⟩ := needAll_ev he
    obtain ⟨r', h1, h2⟩ := Tr.ev_bind he
    split at h2
    · rename_i hk
      simp only [Tr.ev] at h2; subst h2
      simp only [Bool.and_eq_true, Bool.or_eq_true] at hk
      obtain ⟨hno, hfl⟩ := hk
      obtain ⟨h3, h4⟩ := views_sound (P := P) (G := fun b => F b ∨ Opens hp μ ls b) hl (fun b hb => .inl hb) hv hps (fun b hb => .inr hb)
      have hG : ∀ b, (F b ∨ Opens hp μ ls b) → b < w.heap.size := by
        intro b hb
        rcases hb with hb | ⟨l, _, blk, o, hg, hm⟩
        · exact (hl.fin b hb).1
        · exact (hl.blkAt hg hm).1.lt
      refine (hc as vs w _ r hG ⟨by rw [h3]; exact ha.1, fun i hi => h4 i _ (by omega) (ha.2 i (by omega))⟩ h1).mono ?_
      rintro e w' ⟨v, rfl, μ', F', hs, hr, _, _⟩
      refine ⟨v, rfl, ?_⟩
      have hold : ∀ b, b < w.heap.size → w'.heap[b]? = w.heap[b]? := fun b hb => hs.ext.keep b ⟨hb, fun ⟨l, blk, o, hg, _⟩ => by simp [hget_def] at hg⟩
      have hextF : Ext F w w' := ⟨hs.ext.os, hs.ext.tape, hs.ext.output, hs.ext.size, fun b hb => hold b (hl.fin b hb).1, hs.ext.bsz⟩
      have hblk : ∀ (F2 : Nat → Prop), (∀ b, F b → F2 b) → (∀ b, F2 b → b < w.heap.size → F b) → ∀ l blk, hget hp l = some blk → ∃ q, μ l = some q ∧ PlcOK ⟨w, Tk hp μ, F⟩ F2 q ∧ BlkAt w' μ F2 q blk := by
        intro F2 hF2 hF2' l blk hg
        obtain ⟨q, e1, e2, e3⟩ := hl.blk l blk hg
        refine ⟨q, e1, ?_, e3.mono hextF hF2 (fun _ _ h => h) ?_⟩
        · cases q with
          | nil => trivial
          | pl b o => exact ⟨fun h => e2.1 (hF2' b h e3.lt), e2.2⟩
        · intro b o hq; subst hq; exact hold b e3.lt
      have hext : Ext (fun b => b < w.heap.size ∧ ¬ Tk hp μ b) w w' := ⟨hs.ext.os, hs.ext.tape, hs.ext.output, hs.ext.size, fun b hb => hold b hb.1, hs.ext.bsz⟩
      rcases hfl with hemp | hflat
      · have hls : ls = [] := by simpa using hemp
        subst hls
        have hF' : ∀ b, F' b → b < w.heap.size → F b := by
          intro b hb hlt
          rcases (hs.fin b hb).2 with h | ⟨l, blk, o, hg, _⟩ | h
          · rcases h with h | ⟨l, hl', _⟩
            · exact h
            · cases hl'
          · simp [hget_def] at hg
          · simp only at h; omega
        refine ⟨μ, F', ⟨hext, fun b hb => hs.sub b (.inl hb), fun b hb => ⟨(hs.fin b hb).1, ?_⟩, hblk F' (fun b hb => hs.sub b (.inl hb)) hF', hl.inj⟩, rep_noId hr hno, fun _ _ h => h, fun _ _ => rfl⟩
        rcases Nat.lt_or_ge b w.heap.size with h | h
        · exact .inl (hF' b hb h)
        · exact .inr (.inr h)
      · exact ⟨μ, F, ⟨hext, fun b hb => hb, fun b hb => ⟨by have := (hl.fin b hb).1; have := hs.ext.size; simp only at this; omega, .inl hb⟩, hblk F (fun b hb => hb) (fun b hb _ => hb), hl.inj⟩, rep_flat hr hflat, fun _ _ h => h, fun _ _ => rfl⟩
    · exact h2.elim

end
end Go.Sx
