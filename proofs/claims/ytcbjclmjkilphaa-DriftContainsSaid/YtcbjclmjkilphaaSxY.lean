/- The arguments of a law, as the executor wants them. -/
import Derived.Test.YtcbjclmjkilphaaSxX
import Derived.DataReads
import Derived.ChangeSame
set_option linter.unusedVariables false
set_option linter.unusedSimpArgs false
namespace Go.Sx
noncomputable section

def okFs (g : TypeId → List DV → Prop) : List Field → List DV → Prop
  | [], ds => ds = []
  | f :: fs, ds => ∃ a b, ds = a ++ b ∧ g f.type a ∧ okFs g fs b

def okAs (g : List DV → Prop) : Nat → List DV → Prop
  | 0, ds => ds = []
  | m + 1, ds => ∃ a b, ds = a ++ b ∧ g a ∧ okAs g m b

/-- The cells of a value of a type. -/
def okT (P : Program) : Nat → TypeId → List DV → Prop
  | 0, _, _ => False
  | n + 1, t, ds => match P.underlying t with
    | some .bool => ∃ b, ds = [.x (.bool b)]
    | some (.int k) => ∃ i, (Lit.int k i).wf = true ∧ ds = [.x (.int k i)]
    | some .string => ∃ s, s.size ≤ maxLen ∧ ds = [.x (.string s)]
    | some (.slice e) => ∃ m cell, m ≤ maxLen ∧ ds = [.ro m (P.cellsOf e) cell] ∧ ∀ i, i < m → okT P n e ((List.range (P.cellsOf e)).map (cell i))
    | some (.struct fs) => okFs (okT P n) fs.toList ds
    | some (.array m e) => okAs (okT P n e) m ds
    | _ => False

def layFs (P : Program) (g : TypeId → Bool) : Nat → List Field → Nat → Bool
  | off, [], tot => off == tot
  | off, f :: r, tot => f.offset == off && g f.type && layFs P g (off + P.cellsOf f.type) r tot

/-- A type whose values are opened here. -/
def layB (P : Program) : Nat → TypeId → Bool
  | 0, _ => false
  | n + 1, t => match P.underlying t with
    | some .bool => P.cellsOf t == 1
    | some (.int _) => P.cellsOf t == 1
    | some .string => P.cellsOf t == 1
    | some (.slice e) => P.cellsOf t == 1 && layB P n e && decide (0 < P.cellsOf e)
    | some (.struct fs) => layFs P (layB P n) 0 fs.toList (P.cellsOf t)
    | some (.array m e) => P.cellsOf t == m * P.cellsOf e && layB P n e
    | _ => false

/-- Cells and what they stand for. -/
def RL (w : World) (F : Nat → Prop) (cs : List Value) (ds : List DV) : Prop := cs.length = ds.length ∧ ∀ i, i < cs.length → RepD w F (cs.getD i undef) (ds.getD i (.x undef)) ∧ (cs.getD i undef).oneCell' = true

theorem RL.one {w : World} {F : Nat → Prop} {v : Value} {d : DV} (h : RepD w F v d) (h1 : v.oneCell' = true) : RL w F [v] [d] :=
  ⟨rfl, fun i hi => by obtain rfl : i = 0 := by simpa using hi
                       exact ⟨h, h1⟩⟩

theorem RL.append {w : World} {F : Nat → Prop} {a b : List Value} {x y : List DV} (h : RL w F a x) (k : RL w F b y) : RL w F (a ++ b) (x ++ y) := by
  refine ⟨by simp [h.1, k.1], fun i hi => ?_⟩
  simp only [List.getD, List.getElem?_append, h.1]
  split
  · rename_i hlt; exact h.2 i (by rw [h.1]; exact hlt)
  · rename_i hge
    exact k.2 _ (by rw [List.length_append, h.1] at hi; omega)

section
variable {H : Type} {enc : TypeId × Value → H} {P : Program} {w : World} {base : Nat} {sp : Nat → Bool} {held : Bool} {F : Nat → Prop}

theorem open_fields {n k : Nat} (ih : ∀ (k : Nat) (t : TypeId) (cs : List Value) (d : DataW H) (ps : List MemPlace), layB P n t = true → DataW.trod enc P w base sp held k t cs = some (d, ps) → (∀ p ∈ ps, F p.block) → cs.length = P.cellsOf t ∧ ∃ ds, okT P n t ds ∧ RL w F cs ds) (cs : List Value) :
    ∀ (fs : List Field) (off : Nat) (xs : List (DataW H × List MemPlace)), layFs P (layB P n) off fs cs.length = true → (fs.mapM fun f => DataW.trod enc P w base sp held k f.type ((cs.drop f.offset).take (P.cellsOf f.type))) = some xs → (∀ p ∈ xs.flatMap (·.2), F p.block) →
      ∃ ds, okFs (okT P n) fs ds ∧ RL w F (cs.drop off) ds
  | [], off, xs, hl, _, _ => by
    simp only [layFs, beq_iff_eq] at hl
    subst hl
    exact ⟨[], rfl, by simp, fun i hi => by simp at hi⟩
  | f :: fs, off, xs, hl, hm, hp => by
    simp only [layFs, Bool.and_eq_true, beq_iff_eq] at hl
    obtain ⟨⟨rfl, h2⟩, h3⟩ := hl
    rw [List.mapM_cons] at hm
    simp only [Option.pure_def, Option.bind_eq_bind, Option.bind_eq_some_iff, Option.some.injEq] at hm
    obtain ⟨y, hy, ys, hys, rfl⟩ := hm
    obtain ⟨l1, d1, o1, r1⟩ := ih k f.type _ y.1 y.2 h2 hy (fun p hp' => hp p (by simp [hp']))
    obtain ⟨d2, o2, r2⟩ := open_fields ih cs fs _ ys h3 hys (fun p hp' => hp p (by simp only [List.flatMap_cons, List.mem_append]; exact .inr hp'))
    refine ⟨d1 ++ d2, ⟨d1, d2, rfl, o1, o2⟩, ?_⟩
    have := r1.append r2
    rwa [← List.drop_drop, List.take_append_drop] at this

theorem open_elems {n k : Nat} {e : TypeId} (ih : ∀ (k : Nat) (t : TypeId) (cs : List Value) (d : DataW H) (ps : List MemPlace), layB P n t = true → DataW.trod enc P w base sp held k t cs = some (d, ps) → (∀ p ∈ ps, F p.block) → cs.length = P.cellsOf t ∧ ∃ ds, okT P n t ds ∧ RL w F cs ds) (he : layB P n e = true) :
    ∀ (m : Nat) (cs : List Value), cs.length = m * P.cellsOf e → (∀ i, i < m → ∃ x, DataW.trod enc P w base sp held k e ((cs.drop (i * P.cellsOf e)).take (P.cellsOf e)) = some x ∧ ∀ p ∈ x.2, F p.block) →
      ∃ ds, okAs (okT P n e) m ds ∧ RL w F cs ds
  | 0, cs, hl, _ => by
    rw [Nat.zero_mul] at hl
    obtain rfl := List.length_eq_zero_iff.1 hl
    exact ⟨[], rfl, rfl, fun i hi => by simp at hi⟩
  | m + 1, cs, hl, hm => by
    obtain ⟨x, hx, hp⟩ := hm 0 (by omega)
    rw [Nat.zero_mul, List.drop_zero] at hx
    obtain ⟨l1, d1, o1, r1⟩ := ih k e _ x.1 x.2 he hx hp
    obtain ⟨d2, o2, r2⟩ := open_elems (e := e) ih he m (cs.drop (P.cellsOf e)) (by rw [List.length_drop, hl, Nat.add_mul]; omega) (fun i hi => by
      obtain ⟨y, hy, hq⟩ := hm (i + 1) (by omega)
      refine ⟨y, ?_, hq⟩
      rw [List.drop_drop, show P.cellsOf e + i * P.cellsOf e = (i + 1) * P.cellsOf e by rw [Nat.add_mul]; omega]
      exact hy)
    refine ⟨d1 ++ d2, ⟨d1, d2, rfl, o1, o2⟩, ?_⟩
    have := r1.append r2
    rwa [List.take_append_drop] at this

theorem cells_get {a : Addr} {m : Nat} {c : List Value} (h : w.cells? base a m = some c) : c.length = m ∧ ∀ j, j < m → w.cell? (a.add j) = some (c.getD j undef) := by
  unfold World.cells? at h
  split at h
  · have h1 := mapM_some_length h
    rw [List.length_range] at h1
    refine ⟨h1, fun j hj => ?_⟩
    have := mapM_some_get h j j (by simp [hj])
    rw [this]
    simp [List.getD, List.getElem?_eq_getElem (show j < c.length by omega)]
  · cases h

theorem open_trod : ∀ (n k : Nat) (t : TypeId) (cs : List Value) (d : DataW H) (ps : List MemPlace), layB P n t = true → DataW.trod enc P w base sp held k t cs = some (d, ps) → (∀ p ∈ ps, F p.block) →
    cs.length = P.cellsOf t ∧ ∃ ds, okT P n t ds ∧ RL w F cs ds
  | 0, _, _, _, _, _, hl, _, _ => by cases hl
  | _ + 1, 0, _, _, _, _, _, ht, _ => by cases ht
  | n + 1, k + 1, t, cs, d, ps, hl, ht, hp => by
    have ih := open_trod n
    unfold layB at hl
    unfold DataW.trod at ht
    unfold okT
    split at hl
    · rename_i hu
      simp only [beq_iff_eq] at hl
      simp only [hu] at ht ⊢
      split at ht
      all_goals try (rename_i hh; cases hh; done)
      all_goals try (cases ht; done)
      · exact ⟨by rw [hl]; rfl, _, ⟨_, rfl⟩, RL.one (.x _) rfl⟩
    · rename_i kd hu
      simp only [beq_iff_eq] at hl
      simp only [hu] at ht ⊢
      split at ht
      all_goals try (rename_i hh; cases hh; done)
      all_goals try (cases ht; done)
      · rename_i hh
        cases hh
        split at ht
        · rename_i hk
          obtain ⟨rfl, hw⟩ := hk
          exact ⟨by rw [hl]; rfl, _, ⟨_, hw, rfl⟩, RL.one (.x _) rfl⟩
        · cases ht
    · rename_i hu
      simp only [beq_iff_eq] at hl
      simp only [hu] at ht ⊢
      split at ht
      all_goals try (rename_i hh; cases hh; done)
      all_goals try (cases ht; done)
      · split at ht
        · rename_i hk
          exact ⟨by rw [hl]; rfl, _, ⟨_, hk, rfl⟩, RL.one (.x _) rfl⟩
        · cases ht
    · rename_i e hu
      simp only [Bool.and_eq_true, beq_iff_eq, decide_eq_true_eq] at hl
      obtain ⟨hl, hz⟩ := hl
      simp only [hu] at ht ⊢
      split at ht
      all_goals try (rename_i hh; cases hh; done)
      all_goals try (cases ht; done)
      · exact ⟨by rw [hl.1]; rfl, [.ro 0 (P.cellsOf e) fun _ _ => .x undef], ⟨0, _, Nat.zero_le _, rfl, fun i hi => by omega⟩, RL.one (.nil _ _) rfl⟩
      · rename_i e' a len cap h1
        cases h1
        split at ht
        · rename_i hk
          simp only [Option.bind_eq_some_iff, Option.map_eq_some_iff] at ht
          obtain ⟨elems, h1, rest, h2, h3⟩ := ht
          simp only [Prod.mk.injEq] at h3
          obtain ⟨rfl, rfl⟩ := h3
          have hlen := mapM_some_length h1
          rw [List.length_range] at hlen
          have hel : ∀ i, i < len → ∃ c x, w.cells? base (a.add (i * P.cellsOf e)) (P.cellsOf e) = some c ∧ DataW.trod enc P w base sp held k e c = some x ∧ ∀ p ∈ x.2, F p.block := by
            intro i hi
            have := mapM_some_get h1 i i (by simp [hi])
            rw [List.getElem?_eq_getElem (by omega)] at this
            obtain ⟨c, hc, hx⟩ := Option.bind_eq_some_iff.1 this
            refine ⟨c, _, hc, hx, fun p hp' => hp p ?_⟩
            refine List.mem_append.2 (.inr (List.mem_flatMap.2 ⟨elems[i], List.mem_append.2 (.inl (List.getElem_mem _)), hp'⟩))
          have hch : ∀ i, ∃ c ds, i < len → w.cells? base (a.add (i * P.cellsOf e)) (P.cellsOf e) = some c ∧ c.length = P.cellsOf e ∧ okT P n e ds ∧ RL w F c ds := by
            intro i
            by_cases hi : i < len
            · obtain ⟨c, x, g1, g2, g3⟩ := hel i hi
              obtain ⟨g4, ds, g5, g6⟩ := ih k e c x.1 x.2 hl.2 g2 g3
              exact ⟨c, ds, fun _ => ⟨g1, g4, g5, g6⟩⟩
            · exact ⟨[], [], fun h => (hi h).elim⟩
          have hch2 : ∃ cf : Nat → List Value, ∃ df : Nat → List DV, ∀ i, i < len → w.cells? base (a.add (i * P.cellsOf e)) (P.cellsOf e) = some (cf i) ∧ (cf i).length = P.cellsOf e ∧ okT P n e (df i) ∧ RL w F (cf i) (df i) :=
            ⟨fun i => (hch i).choose, fun i => (hch i).choose_spec.choose, fun i hi => (hch i).choose_spec.choose_spec hi⟩
          obtain ⟨cf, df, hcd⟩ := hch2
          refine ⟨by rw [hl.1]; rfl, [.ro len (P.cellsOf e) fun i j => (df i).getD j (.x undef)], ⟨len, _, by omega, rfl, fun i hi => ?_⟩, RL.one ?_ rfl⟩
          · obtain ⟨-, g2, g3, g4⟩ := hcd i hi
            have : (List.range (P.cellsOf e)).map (fun j => (df i).getD j (.x undef)) = df i := by
              apply List.ext_getElem
              · simp [← g4.1, g2]
              · intro j h1 h2
                simp [List.getD, h2]
            rw [this]; exact g3
          · by_cases h0 : len = 0
            · subst h0; exact .z _ _ _ _
            · · have hspot : a.spot = none := by
                  obtain ⟨g1, g2, -⟩ := hcd 0 (by omega)
                  have := (cells_get g1).2 0 (by omega)
                  simpa [Addr.add] using World.cell?_spot this
                obtain ⟨b, o, sp'⟩ := a
                simp only at hspot; subst hspot
                refine .ro b o len cap _ _ (fun i j => (cf i).getD j undef) (fun _ => hp (.cell b (o + 0)) ?_) hk.2.1 (fun i j hi hj => ?_) (fun i j hi hj => ?_) (fun i j hi hj => ?_)
                · refine List.mem_append.2 (.inl (List.mem_map.2 ⟨0, ?_, rfl⟩))
                  rw [List.mem_range]
                  exact Nat.mul_pos (by omega) (by omega)
                · obtain ⟨g1, g2, -⟩ := hcd i hi
                  have := (cells_get g1).2 j hj
                  rw [add_none, add_none] at this
                  rw [← Nat.add_assoc]; exact this
                · obtain ⟨g1, g2, -, g4⟩ := hcd i hi
                  exact (g4.2 j (by omega)).2
                · obtain ⟨g1, g2, -, g4⟩ := hcd i hi
                  exact (g4.2 j (by omega)).1
        · cases ht
    · rename_i fs hu
      simp only [hu] at ht ⊢
      split at ht
      all_goals try (rename_i hh; cases hh; done)
      all_goals try (cases ht; done)
      · rename_i hc
        simp only [Option.map_eq_some_iff] at ht
        obtain ⟨xs, h1, h2⟩ := ht
        simp only [Prod.mk.injEq] at h2
        obtain ⟨rfl, rfl⟩ := h2
        rw [← hc] at hl
        refine ⟨hc, ?_⟩
        have := open_fields (k := k) ih cs fs.toList 0 xs hl h1 hp
        rwa [List.drop_zero] at this
    · rename_i m e hu
      simp only [Bool.and_eq_true, beq_iff_eq] at hl
      simp only [hu] at ht ⊢
      split at ht
      all_goals try (rename_i hh; cases hh; done)
      all_goals try (cases ht; done)
      · rename_i hc
        simp only [Option.map_eq_some_iff] at ht
        obtain ⟨xs, h1, h2⟩ := ht
        simp only [Prod.mk.injEq] at h2
        obtain ⟨rfl, rfl⟩ := h2
        refine ⟨hc, open_elems (k := k) ih hl.2 m cs (by rw [hc, hl.1]) fun i hi => ?_⟩
        have hlen := mapM_some_length h1
        rw [List.length_range] at hlen
        have := mapM_some_get h1 i i (by simp [hi])
        rw [List.getElem?_eq_getElem (by omega)] at this
        exact ⟨_, this, fun p hp' => hp p (List.mem_flatMap.2 ⟨xs[i], List.getElem_mem _, hp'⟩)⟩
    · cases hl
end

end
end Go.Sx
