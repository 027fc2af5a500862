/- The symbolic executor: single operations (sixth part): append, make; all of them. -/
import Derived.Test.YtcbjclmjkilphaaSxF
set_option linter.unusedVariables false
set_option linter.unusedSimpArgs false
namespace Go.Sx
noncomputable section

/-- A cell of a list; where there is one alone, it is that one. -/
def dsAt (ds : List DV) (k : Nat) : DV := match ds with
  | [d] => d
  | ds => ds.getD k (.x undef)

theorem dsAt_eq {ds : List DV} {k : Nat} (h : k < ds.length) : dsAt ds k = ds.getD k (.x undef) := by
  unfold dsAt
  split
  · have : k = 0 := by simpa using h
    subst this; rfl
  · rfl

/-- What is read when a slice is copied or appended: how many elements, their cells, and what must hold. -/
def absSrc (hp : Heap) (x : SV) (esz : Nat) : Option (Nat × (Nat → Nat → DV) × Prop) :=
  match x with
  | .d (.x (.slice none 0 0)) => some (0, (fun _ _ => .x undef), True)
  | .d (.x (.string s)) => if esz = 1 then some (s.size, (fun i _ => .x (.int .u8 (s.data.getD i 0).toNat)), True) else none
  | .d (.ro len esz' cell) => if esz' = esz then some (len, cell, True) else none
  | .row l base off len esz' =>
    match hget hp l with
    | some (.row n esz'' cell) => if base = 0 ∧ esz' = esz ∧ esz'' = esz then some (len, (fun i j => cell (off + i) j), off + len ≤ n) else none
    | some (.cells cs) =>
      match dvsOf cs with
      | some ds => if esz' = esz then some (len, (fun i j => dsAt ds (base + (off + i) * esz + j)), base + (off + len) * esz ≤ cs.length) else none
      | none => none
    | none => none
  | _ => none

/-- The cells of a source, as the model reads them. -/
def SrcAt (P : Program) (w : World) (F : Nat → Prop) (v : Value) (esz n : Nat) (cell : Nat → Nat → DV) : Prop :=
  ∃ news : List Value, news.length = n * esz ∧ (∀ w1, (∀ a, w1.cell? a = w.cell? a) → (Builtin.lenOf v).run P w1 = .ok n w1 ∧ (Builtin.firstCells esz n v).run P w1 = .ok news.toArray w1) ∧
    (∀ i j, i < n → j < esz → RepD w F (news.getD (i * esz + j) undef) (cell i j)) ∧ ∀ u ∈ news, u.oneCell' = true

theorem src_of_cells {P : Program} {w : World} {F : Nat → Prop} {b q n cap esz : Nat} {cell : Nat → Nat → DV} (f : Nat → Value) (hcell : ∀ k, k < n * esz → w.cell? ⟨b, q + k, none⟩ = some (f k))
    (hrep : ∀ i j, i < n → j < esz → RepD w F (f (i * esz + j)) (cell i j)) (hone : ∀ k, k < n * esz → (f k).oneCell' = true) : SrcAt P w F (.slice (some ⟨b, q, none⟩) n cap) esz n cell := by
  refine ⟨(List.range (n * esz)).map f, by simp, fun w1 hw => ⟨rfl, ?_⟩, fun i j hi hj => ?_, fun u hu => ?_⟩
  · refine run_firstCells_some w1 esz n _ n cap _ (by simp) (fun j v hv => ?_)
    rw [add_none, hw]
    have hj : j < n * esz := by
      have := (List.getElem?_eq_some_iff.1 hv).1; simpa using this
    rw [hcell j hj]
    simpa [hj] using hv
  · have hlt : i * esz + j < n * esz := by
      have : (i + 1) * esz ≤ n * esz := Nat.mul_le_mul_right _ hi
      rw [Nat.add_mul] at this; omega
    have := hrep i j hi hj
    simpa [List.getD, hlt] using this
  · simp only [List.mem_map, List.mem_range] at hu
    obtain ⟨k, hk, rfl⟩ := hu
    exact hone k hk

theorem split_idx {k n esz : Nat} (h : k < n * esz) : k / esz < n ∧ k % esz < esz ∧ k / esz * esz + k % esz = k := by
  have hpos : 0 < esz := Nat.pos_of_ne_zero fun he => by subst he; simp at h
  refine ⟨(Nat.div_lt_iff_lt_mul hpos).2 h, Nat.mod_lt _ hpos, ?_⟩
  rw [Nat.mul_comm]; exact Nat.div_add_mod k esz

theorem absSrc_sound {P : Program} {w : World} {μ : Mu} {F : Nat → Prop} {hp : Heap} {v : Value} {x : SV} {esz n : Nat} {cell : Nat → Nat → DV} {p : Prop} (hl : LH w μ F hp) (hx : Rep w μ F v x) (he : absSrc hp x esz = some (n, cell, p)) (hp0 : p) :
    SrcAt P w F v esz n cell := by
  unfold absSrc at he
  split at he
  · simp only [Option.some.injEq, Prod.mk.injEq] at he
    obtain ⟨rfl, rfl, rfl⟩ := he
    rw [rep_x hx]
    exact ⟨[], by simp, fun w1 _ => ⟨rfl, by simp [Builtin.firstCells]⟩, fun i j hi => by omega, fun u hu => by cases hu⟩
  · rename_i s
    split at he
    · rename_i h1; subst h1
      simp only [Option.some.injEq, Prod.mk.injEq] at he
      obtain ⟨rfl, rfl, rfl⟩ := he
      rw [rep_x hx]
      refine ⟨(s.data.map fun b => Value.int .u8 b.toNat).toList, by simp, fun w1 _ => ⟨rfl, ?_⟩, fun i j hi hj => ?_, fun u hu => ?_⟩
      · simp only [Builtin.firstCells, Sem.run_pure, Array.toArray_toList]
        have : (s.extract 0 s.size) = s := by simp
        rw [this]
      · have hj0 : j = 0 := by omega
        subst hj0
        have hi' : i < s.data.size := hi
        simp only [Nat.mul_one, Nat.add_zero, List.getD, Array.getElem?_toList, Array.getElem?_map, Array.getElem?_eq_getElem hi', Option.map_some, Option.getD_some, Array.getD, hi', dite_true]
        exact .x _
      · simp at hu
        obtain ⟨b, _, rfl⟩ := hu
        rfl
    · cases he
  · rename_i len esz' cell'
    split at he
    · rename_i h1; subst h1
      simp only [Option.some.injEq, Prod.mk.injEq] at he
      obtain ⟨rfl, rfl, rfl⟩ := he
      have hd := rep_d hx
      generalize hdv : DV.ro len esz' cell' = dv at hd
      cases hd with
      | x => cases hdv
      | nil =>
        cases hdv
        exact ⟨[], by simp, fun w1 _ => ⟨rfl, by simp [Builtin.firstCells]⟩, fun i j hi => by omega, fun u hu => by cases hu⟩
      | z =>
        cases hdv
        exact ⟨[], by simp, fun w1 _ => ⟨rfl, by simp [Builtin.firstCells, loadCells, loadCellsFrom]⟩, fun i j hi => by omega, fun u hu => by cases hu⟩
      | ro b o len2 cap esz2 cell2 f hF hc hcell hone hrep =>
        cases hdv
        refine src_of_cells (fun k => f (k / esz') (k % esz')) (fun k hk => ?_) (fun i j hi hj => ?_) (fun k hk => ?_)
        · obtain ⟨h1, h2, h3⟩ := split_idx hk
          have := hcell _ _ h1 h2
          rwa [h3] at this
        · have h1 : (i * esz' + j) / esz' = i := by rw [Nat.mul_comm, Nat.mul_add_div (by omega), Nat.div_eq_of_lt hj]; omega
          have h2 : (i * esz' + j) % esz' = j := by rw [Nat.mul_comm, Nat.mul_add_mod, Nat.mod_eq_of_lt hj]
          simp only [h1, h2]; exact hrep i j hi hj
        · obtain ⟨h1, h2, h3⟩ := split_idx hk
          exact hone _ _ h1 h2
    · cases he
  · rename_i l base off len esz'
    split at he
    · rename_i n' esz'' cell' hg
      split at he
      · rename_i hk
        obtain ⟨rfl, e1, e2⟩ := hk
        subst e2; subst e1
        simp only [Option.some.injEq, Prod.mk.injEq] at he
        obtain ⟨rfl, rfl, rfl⟩ := he
        cases hx with
        | rnil => exact ⟨[], by simp, fun w1 _ => ⟨rfl, by simp [Builtin.firstCells]⟩, fun i j hi => by omega, fun u hu => by cases hu⟩
        | rz _ _ _ _ b o => exact ⟨[], by simp, fun w1 _ => ⟨rfl, by simp [Builtin.firstCells, loadCells, loadCellsFrom]⟩, fun i j hi => by omega, fun u hu => by cases hu⟩
        | row _ _ _ _ _ b o cap hm hc hz =>
          obtain ⟨⟨c, e, hh, hsz, hcc, hc1⟩, hF⟩ := hl.blkAt hg hm
          have hlt : ∀ k, k < len * esz' → off * esz' + k < n' * esz' := by
            intro k hk
            have : (off + len) * esz' ≤ n' * esz' := Nat.mul_le_mul_right _ hp0
            rw [Nat.add_mul] at this; omega
          refine src_of_cells (fun k => c.getD (o + (off * esz' + k)) undef) (fun k hk => ?_) (fun i j hi hj => ?_) (fun k hk => ?_)
          · have := hlt k hk
            rw [show o + 0 + off * esz' + k = o + (off * esz' + k) by omega]
            exact cell_of_heap hh (by omega)
          · have := hcc (off + i) j (by omega) hj
            rw [show o + (off * esz' + (i * esz' + j)) = o + ((off + i) * esz' + j) by rw [Nat.add_mul]; omega]
            exact this
          · obtain ⟨h1, h2, h3⟩ := split_idx (hlt k hk)
            have := hc1 _ _ h1 h2
            rwa [h3] at this
      · cases he
    · rename_i cs hg
      split at he
      · rename_i ds hds
        split at he
        · rename_i h1; subst h1
          simp only [Option.some.injEq, Prod.mk.injEq] at he
          obtain ⟨rfl, rfl, rfl⟩ := he
          obtain ⟨hd1, hd2⟩ := dvsOf_spec hds
          cases hx with
          | rnil => exact ⟨[], by simp, fun w1 _ => ⟨rfl, by simp [Builtin.firstCells]⟩, fun i j hi => by omega, fun u hu => by cases hu⟩
          | rz _ _ _ _ b o => exact ⟨[], by simp, fun w1 _ => ⟨rfl, by simp [Builtin.firstCells, loadCells, loadCellsFrom]⟩, fun i j hi => by omega, fun u hu => by cases hu⟩
          | row _ _ _ _ _ b o cap hm hc hz =>
            obtain ⟨⟨c, e, hh, hsz, hcc, hc1⟩, hF⟩ := hl.blkAt hg hm
            have hlt : ∀ k, k < len * esz' → base + off * esz' + k < cs.length := by
              intro k hk
              rw [Nat.add_mul] at hp0; omega
            refine src_of_cells (fun k => c.getD (o + (base + off * esz' + k)) undef) (fun k hk => ?_) (fun i j hi hj => ?_) (fun k hk => ?_)
            · have := hlt k hk
              rw [show o + base + off * esz' + k = o + (base + off * esz' + k) by omega]
              exact cell_of_heap hh (by omega)
            · have hk : i * esz' + j < len * esz' := by
                have : (i + 1) * esz' ≤ len * esz' := Nat.mul_le_mul_right _ hi
                rw [Nat.add_mul] at this; omega
              have h3 := hlt _ hk
              have := hcc _ h3
              rw [hd2 _ h3] at this
              have := rep_d this
              rw [show base + (off + i) * esz' + j = base + off * esz' + (i * esz' + j) by rw [Nat.add_mul]; omega, dsAt_eq (by omega)]
              exact this
            · exact hc1 _ (hlt k hk)
        · cases he
      · cases he
    · cases he
  · cases he

/-- The block that an append takes over, if any. -/
def ownOf : SV → Option (Option Nat)
  | .d (.x (.slice none 0 0)) => some none
  | .row l _ _ _ _ => some (some l)
  | _ => none

def hdrop (hp : Heap) : Option Nat → Heap
  | none => hp
  | some l => hset hp l none

def isSrcT : TypeDesc → Bool
  | .slice _ => true
  | .string => true
  | _ => false

def absAppend (P : Program) (id : Nat) (hp : Heap) (st xt : TypeId) (s x : SV) : Tr (SV × Heap) :=
  match P.underlying st, P.underlying xt with
  | some (.slice elem), some xd =>
    match P.info? elem, ownOf s with
    | some i, some own =>
      match i.zero, absSrc hp s i.size, absSrc hp x i.size with
      | some z, some (n, c1, p1), some (m, c2, p2) =>
        if z.cells.size = i.size ∧ 0 < i.size ∧ 0 < i.bytes ∧ isSrcT xd = true then
          .need (p1 ∧ p2 ∧ (n + m) * i.bytes ≤ 140737488355328) (.ret (.row id 0 0 (n + m) i.size, hset (hdrop hp own) id (some (.row (n + m) i.size fun a b => selD (decide (a < n)) (c1 a b) (c2 (a - n) b)))))
        else .fail
      | _, _, _ => .fail
    | _, _ => .fail
  | _, _ => .fail

theorem appendRow {w : World} {F : Nat → Prop} {esz n m : Nat} {c1 c2 : Nat → Nat → DV} {olds news : List Value} (hol : olds.length = n * esz) (hnl : news.length = m * esz)
    (h1 : ∀ i j, i < n → j < esz → RepD w F (olds.getD (i * esz + j) undef) (c1 i j)) (h2 : ∀ i j, i < m → j < esz → RepD w F (news.getD (i * esz + j) undef) (c2 i j)) :
    ∀ i j, i < n + m → j < esz → RepD w F ((olds ++ news).getD (i * esz + j) undef) (selD (decide (i < n)) (c1 i j) (c2 (i - n) j)) := by
  intro i j hi hj
  rw [selD_eq]
  by_cases hn : i < n
  · have hlt : i * esz + j < olds.length := by
      have : (i + 1) * esz ≤ n * esz := Nat.mul_le_mul_right _ hn
      rw [Nat.add_mul] at this; omega
    simp only [hn, decide_true, cond_true]
    have := h1 i j hn hj
    simpa [List.getD, List.getElem?_append, hlt] using this
  · have hge : olds.length ≤ i * esz + j := by
      have : n * esz ≤ i * esz := Nat.mul_le_mul_right _ (by omega)
      omega
    simp only [hn, decide_false, cond_false]
    have := h2 (i - n) j (by omega) hj
    have he : i * esz + j - olds.length = (i - n) * esz + j := by
      have : i = (i - n) + n := by omega
      rw [hol]; conv => lhs; rw [this, Nat.add_mul]
      omega
    simpa [List.getD, List.getElem?_append, show ¬ (i * esz + j < olds.length) by omega, he] using this

end
end Go.Sx
