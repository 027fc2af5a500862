/- The symbolic executor: single operations (fourth part): stores, indexes, slices of slices, lengths. -/
import Derived.Test.YtcbjclmjkilphaaSxD
set_option linter.unusedVariables false
set_option linter.unusedSimpArgs false
namespace Go.Sx
noncomputable section

theorem hs_update {w : World} {μ : Mu} {F : Nat → Prop} {hp : Heap} {l b o : Nat} {blk blk' : Blk} {c cs' : Array Value} {e : TypeId} (hl : LH w μ F hp) (hg : hget hp l = some blk) (hm : μ l = some (.pl b o))
    (hh : w.heap[b]? = some (.cells c e (0, 0))) (hsz : cs'.size = c.size) (hb : BlkAt (w.setRow b cs') μ F (.pl b o) blk') :
    HS ⟨w, Tk hp μ, F⟩ μ F (hset hp l (some blk')) (w.setRow b cs') := by
  have hF : ¬ F b := (hl.blkAt hg hm).2
  have hext : Ext F w (w.setRow b cs') := Ext.setRow F w b c cs' e _ hh hF hsz
  have hT : Tk hp μ b := ⟨l, blk, o, hg, hm⟩
  refine ⟨Ext.setRow _ w b c cs' e _ hh (fun h => h.2 hT) hsz, fun b hb => hb, fun b' hb' => ⟨by have := (hl.fin b' hb').1; simp [World.setRow]; exact this, .inl hb'⟩, ?_, ?_⟩
  · intro l' blk1 hg1
    rw [hget_hset] at hg1
    split at hg1
    · rename_i he; subst he
      simp only [Option.some.injEq] at hg1; subst hg1
      obtain ⟨q, h1, h2, h3⟩ := hl.blk l' blk hg
      rw [hm, Option.some.injEq] at h1; subst h1
      exact ⟨_, hm, h2, hb⟩
    · rename_i hne
      obtain ⟨q, h1, h2, h3⟩ := hl.blk l' blk1 hg1
      refine ⟨q, h1, h2, h3.mono hext (fun _ h => h) (fun _ _ h => h) ?_⟩
      intro b' o' hq; subst hq
      exact setRow_heap_other w b b' cs' (hl.inj l' l blk1 blk b' o' b o hne hg1 hg h1 hm)
  · intro l1 l2 blk1 blk2 b1 o1 b2 o2 hne h1 h2 m1 m2
    rw [hget_hset] at h1 h2
    by_cases e1 : l1 = l
    · rw [if_neg (fun h => hne (e1.trans h.symm))] at h2
      subst e1
      exact hl.inj l1 l2 blk blk2 b1 o1 b2 o2 hne hg h2 m1 m2
    · rw [if_neg e1] at h1
      by_cases e2 : l2 = l
      · subst e2
        exact hl.inj l1 l2 blk1 blk b1 o1 b2 o2 hne h1 hg m1 m2
      · rw [if_neg e2] at h2
        exact hl.inj l1 l2 blk1 blk2 b1 o1 b2 o2 hne h1 h2 m1 m2

def selD (c : Bool) (x y : DV) : DV :=
  match x, y with
  | .x (.int k a), .x (.int k' b) => if k = k' then .x (.int k (bif c then a else b)) else bif c then x else y
  | .x (.bool a), .x (.bool b) => .x (.bool (bif c then a else b))
  | .x (.string a), .x (.string b) => .x (.string (bif c then a else b))
  | _, _ => bif c then x else y

theorem selD_eq (c : Bool) (x y : DV) : selD c x y = bif c then x else y := by
  unfold selD
  split
  · split
    · rename_i h; subst h; cases c <;> rfl
    · rfl
  · cases c <;> rfl
  · cases c <;> rfl
  · rfl

def dvsOf : List SV → Option (List DV)
  | [] => some []
  | .d v :: r => (dvsOf r).map (v :: ·)
  | _ :: _ => none

theorem dvsOf_spec : ∀ {cs : List SV} {ds : List DV}, dvsOf cs = some ds → ds.length = cs.length ∧ ∀ i, i < cs.length → cs.getD i uv = .d (ds.getD i (.x undef))
  | [], ds, h => by simp only [dvsOf, Option.some.injEq] at h; subst h; simp
  | .d v :: r, ds, h => by
    simp only [dvsOf, Option.map_eq_some_iff] at h
    obtain ⟨ds', h1, rfl⟩ := h
    obtain ⟨h2, h3⟩ := dvsOf_spec h1
    refine ⟨by simp [h2], fun i hi => ?_⟩
    cases i with
    | zero => simp
    | succ i => simpa using h3 i (by simpa using hi)
  | .ptr .. :: _, ds, h => by simp [dvsOf] at h
  | .pix .. :: _, ds, h => by simp [dvsOf] at h
  | .row .. :: _, ds, h => by simp [dvsOf] at h
  | .rop .. :: _, ds, h => by simp [dvsOf] at h
  | .agg .. :: _, ds, h => by simp [dvsOf] at h
  | .fn .. :: _, ds, h => by simp [dvsOf] at h
  | .tup .. :: _, ds, h => by simp [dvsOf] at h
  | .ifc .. :: _, ds, h => by simp [dvsOf] at h

def selS (c : Bool) (x y : SV) : SV :=
  match x, y with
  | .d a, .d b => .d (selD c a b)
  | _, _ => bif c then x else y

theorem selS_eq (c : Bool) (x y : SV) : selS c x y = bif c then x else y := by
  unfold selS
  split
  · rw [selD_eq]; cases c <;> rfl
  · rfl

/-- The cells of an array, some of the element with an index being other ones. -/
def setPix (cs : List SV) (base m esz i j n : Nat) (xs : List SV) : List SV :=
  (List.range cs.length).map fun k => if base ≤ k ∧ k < base + m * esz ∧ j ≤ (k - base) % esz ∧ (k - base) % esz < j + n then selS (decide ((k - base) / esz = i)) (xs.getD ((k - base) % esz - j) uv) (cs.getD k uv) else cs.getD k uv

theorem length_setPix (cs : List SV) (base m esz i j n : Nat) (xs : List SV) : (setPix cs base m esz i j n xs).length = cs.length := by simp [setPix]

theorem getD_setPix {cs : List SV} {base m esz i j n : Nat} {xs : List SV} (hi : i < m) (hj : j + n ≤ esz) {k : Nat} (hk : k < cs.length) :
    (setPix cs base m esz i j n xs).getD k uv = if base + i * esz + j ≤ k ∧ k < base + i * esz + j + n then xs.getD (k - (base + i * esz + j)) uv else cs.getD k uv := by
  have e0 : (setPix cs base m esz i j n xs).getD k uv = if base ≤ k ∧ k < base + m * esz ∧ j ≤ (k - base) % esz ∧ (k - base) % esz < j + n then selS (decide ((k - base) / esz = i)) (xs.getD ((k - base) % esz - j) uv) (cs.getD k uv) else cs.getD k uv := by
    simp [setPix, List.getD, hk]
  rw [e0]
  have hm : (i + 1) * esz ≤ m * esz := Nat.mul_le_mul_right _ hi
  rw [Nat.add_mul] at hm
  by_cases h1 : base + i * esz + j ≤ k ∧ k < base + i * esz + j + n
  · obtain ⟨r, hr⟩ : ∃ r, k - base = i * esz + r := ⟨k - base - i * esz, by omega⟩
    have hrl : r < esz := by omega
    have e2 : (k - base) % esz = k - base - i * esz := by rw [hr, Nat.mul_add_mod_self_right, Nat.mod_eq_of_lt hrl]; omega
    have e3 : (k - base) / esz = i := by
      rw [hr, Nat.add_comm, Nat.add_mul_div_right _ _ (by omega), Nat.div_eq_of_lt hrl]; omega
    rw [if_pos h1, if_pos (by omega), selS_eq, e3, e2]
    simp only [decide_true, cond_true]
    congr 1; omega
  · rw [if_neg h1]
    split
    · rename_i h2
      rw [selS_eq]
      by_cases e3 : (k - base) / esz = i
      · exfalso
        have := Nat.div_add_mod (k - base) esz
        rw [e3, Nat.mul_comm] at this
        omega
      · simp [e3]
    · rfl

def absStore (P : Program) (hp : Heap) (t : TypeId) (p s : SV) : Tr Heap :=
  match tsz P t with
  | none => .fail
  | some n =>
    let xs := svcells s
    if boxOK s ∧ xs.length = n ∧ xs.all cellOK then
      match p with
      | .ptr l off =>
        match hget hp l with
        | some (.cells cs) => if off + n ≤ cs.length then .ret (hset hp l (some (.cells (setRange cs off xs)))) else .fail
        | _ => .fail
      | .pix l base m esz i j =>
        match hget hp l with
        | some (.row n' esz' cell) =>
          match dvsOf xs with
          | some ds =>
            if base = 0 ∧ esz = esz' ∧ j + n ≤ esz then
              .nd (i < n') (.ret (hset hp l (some (.row n' esz fun a b => if j ≤ b ∧ b < j + n then selD (decide (a = i)) (ds.getD (b - j) (.x undef)) (cell a b) else cell a b))))
            else .fail
          | none => .fail
        | some (.cells cs) => if base + m * esz ≤ cs.length ∧ j + n ≤ esz then .nd (i < m) (.ret (hset hp l (some (.cells (setPix cs base m esz i j n xs))))) else .fail
        | none => .fail
      | _ => .fail
    else .fail

theorem list_take_drop_getD (c : Array Value) (off : Nat) (vs : List Value) (i : Nat) (h : off + vs.length ≤ c.size) :
    ((c.toList.take off ++ vs ++ c.toList.drop (off + vs.length)).toArray).getD i undef = if off ≤ i ∧ i < off + vs.length then vs.getD (i - off) undef else c.getD i undef := by
  simp only [Array.getD_eq_getD_getElem?, List.getElem?_toArray]
  rw [List.append_assoc, List.getElem?_append]
  simp only [List.length_take, Array.length_toList]
  by_cases h1 : i < off
  · rw [if_pos (by omega), if_neg (by omega), List.getElem?_take, if_pos h1]; simp
  · rw [if_neg (by omega), List.getElem?_append, Nat.min_eq_left (by omega)]
    by_cases h2 : i < off + vs.length
    · rw [if_pos (by omega), if_pos (by omega)]; simp [List.getD]
    · rw [if_neg (by omega), if_neg (by omega), List.getElem?_drop]
      rw [show off + vs.length + (i - off - vs.length) = i by omega]; simp

theorem absStore_sound {P : Program} {w : World} {μ : Mu} {F : Nat → Prop} {hp hp' : Heap} {t : TypeId} {pv v : Value} {p s : SV} (hl : LH w μ F hp) (hpv : Rep w μ F pv p) (hv : Rep w μ F v s)
    (he : (absStore P hp t p s).ev hp') : ∃ w', (Instr.storeAt t pv v).run P w = .ok () w' ∧ HS ⟨w, Tk hp μ, F⟩ μ F hp' w' := by
  unfold absStore at he
  split at he
  · exact he.elim
  · rename_i n hn
    simp only [] at he
    split at he
    · rename_i hk
      obtain ⟨hb, hlen, hall⟩ := hk
      obtain ⟨h1, h2⟩ := rep_svcells hv (boxOK_one hb)
      have hone : ∀ u ∈ v.cells.toList, u.oneCell' = true := by
        intro u hu
        rw [List.mem_iff_getElem] at hu
        obtain ⟨i, hi, rfl⟩ := hu
        have hi' : i < (svcells s).length := by simp at hi; omega
        have := h2 i hi'
        have hi2 : i < v.cells.size := by simpa using hi
        simp only [Array.getD, hi2, dite_true] at this
        refine cellOK_one this ?_
        rw [List.all_eq_true] at hall
        refine hall _ ?_
        simp [List.getD, hi']
      have hone' : ∀ i, i < v.cells.toList.length → (v.cells.toList.getD i undef).oneCell' = true := by
        intro i hi
        refine hone _ ?_
        simp at hi
        simp [List.getD, hi]
      have run : ∀ b q (c : Array Value) e, w.heap[b]? = some (.cells c e (0, 0)) → q + n ≤ c.size →
          (Instr.storeAt t (.pointer (some ⟨b, q, none⟩)) v).run P w = .ok () (w.setRow b (c.toList.take q ++ v.cells.toList ++ c.toList.drop (q + v.cells.toList.length)).toArray) := by
        intro b q c e hh hq
        have := run_storeCells_at P b q e v.cells.toList 0 c w hh (by simp; omega) hone
        simp only [Nat.add_zero] at this
        unfold Instr.storeAt storeVar
        simp only [Instr.sureAddr, Sem.run_bind, Sem.run_pure, Result.andThen, run_tsz w hn]
        rw [if_neg (by omega)]
        exact this
      cases hpv with
      | ptr l off b o hm =>
        simp only [] at he
        split at he
        · rename_i cs hg
          split at he
          · rename_i hle
            simp only [Tr.ev] at he; subst he
            obtain ⟨⟨c, e, hh, hsz, hc, hc1⟩, hF⟩ := hl.blkAt hg hm
            refine ⟨_, run b (o + off) c e hh (by omega), hs_update hl hg hm hh (by simp; omega) ?_⟩
            have hext : Ext F w (w.setRow b (c.toList.take (o + off) ++ v.cells.toList ++ c.toList.drop (o + off + v.cells.toList.length)).toArray) := Ext.setRow F w b c _ e _ hh hF (by simp; omega)
            refine ⟨_, e, setRow_heap_same w b c e _ _ hh, by rw [length_setRange _ _ _ (by omega)]; simp; omega, fun i hi => ?_, fun i hi => ?_⟩
            rotate_left
            · rw [length_setRange _ _ _ (by omega)] at hi
              rw [list_take_drop_getD c (o + off) _ _ (by simp; omega)]
              split
              · exact hone' _ (by simp at *; omega)
              · exact hc1 i hi
            rw [length_setRange _ _ _ (by omega)] at hi
            rw [list_take_drop_getD c (o + off) _ _ (by simp; omega), getD_setRange _ _ _ _ (by omega)]
            simp only [Array.length_toList]
            by_cases hin : off ≤ i ∧ i < off + (svcells s).length
            · rw [if_pos hin, if_pos (by omega)]
              have := (h2 (i - off) (by omega)).mono hext (fun _ h => h) (fun _ _ h => h)
              rw [show o + i - (o + off) = i - off by omega]
              simpa [Array.getD, List.getD, show i - off < v.cells.size by omega] using this
            · rw [if_neg hin, if_neg (by omega)]
              exact (hc i hi).mono hext (fun _ h => h) (fun _ _ h => h)
          · exact he.elim
        · exact he.elim
      | pix l base m esz i j b o hm =>
        simp only [] at he
        split at he
        · rename_i n' esz' cell hg
          split at he
          rotate_left
          · exact he.elim
          rename_i ds hds
          split at he
          · rename_i hle
            obtain ⟨rfl, rfl, hj⟩ := hle
            simp only [Tr.ev] at he; obtain ⟨hi, rfl⟩ := he
            obtain ⟨⟨c, e, hh, hsz, hc, hc1⟩, hF⟩ := hl.blkAt hg hm
            obtain ⟨hd1, hd2⟩ := dvsOf_spec hds
            have hq : o + 0 + i * esz + j + n ≤ c.size := by
              have : (i + 1) * esz ≤ n' * esz := Nat.mul_le_mul_right _ hi
              rw [Nat.add_mul] at this
              omega
            refine ⟨_, run b (o + 0 + i * esz + j) c e hh hq, hs_update hl hg hm hh (by simp; omega) ?_⟩
            have hext : Ext F w (w.setRow b (c.toList.take (o + 0 + i * esz + j) ++ v.cells.toList ++ c.toList.drop (o + 0 + i * esz + j + v.cells.toList.length)).toArray) := Ext.setRow F w b c _ e _ hh hF (by simp; omega)
            refine ⟨_, e, setRow_heap_same w b c e _ _ hh, by simp; omega, fun a k ha hk => ?_, fun a k ha hk => ?_⟩
            rotate_left
            · rw [list_take_drop_getD c _ _ _ (by simp; omega)]
              split
              · exact hone' _ (by simp at *; omega)
              · exact hc1 a k ha hk
            rw [list_take_drop_getD c _ _ _ (by simp; omega)]
            simp only [Array.length_toList]
            have hrow : a ≠ i → (a * esz + k < i * esz + j ∨ i * esz + j + n ≤ a * esz + k) := by
              intro hne
              rcases Nat.lt_or_gt_of_ne hne with hlt | hgt
              · have : (a + 1) * esz ≤ i * esz := Nat.mul_le_mul_right _ hlt
                rw [Nat.add_mul] at this; omega
              · have : (i + 1) * esz ≤ a * esz := Nat.mul_le_mul_right _ hgt
                rw [Nat.add_mul] at this; omega
            have hold := (hc a k ha hk).mono hext (fun _ h => h)
            by_cases hai : a = i
            · subst hai
              by_cases hin : j ≤ k ∧ k < j + n
              · rw [if_pos hin, if_pos (by omega), selD_eq]
                simp only [decide_true, cond_true]
                have := (h2 (k - j) (by omega)).mono hext (fun _ h => h) (fun _ _ h => h)
                rw [hd2 (k - j) (by omega)] at this
                rw [show o + (a * esz + k) - (o + 0 + a * esz + j) = k - j by omega]
                have hd := rep_d this
                simpa [Array.getD, List.getD, show k - j < v.cells.size by omega] using hd
              · rw [if_neg hin, if_neg (by omega)]
                exact hold
            · have := hrow hai
              rw [if_neg (by omega)]
              split
              · rw [selD_eq]; simp only [hai, decide_false, cond_false]; exact hold
              · exact hold
          · exact he.elim
        · rename_i cs hg
          split at he
          · rename_i hle
            obtain ⟨hbm, hj⟩ := hle
            simp only [Tr.ev] at he; obtain ⟨hi, rfl⟩ := he
            obtain ⟨⟨c, e, hh, hsz, hc, hc1⟩, hF⟩ := hl.blkAt hg hm
            have hme : (i + 1) * esz ≤ m * esz := Nat.mul_le_mul_right _ hi
            rw [Nat.add_mul] at hme
            refine ⟨_, run b (o + base + i * esz + j) c e hh (by omega), hs_update hl hg hm hh (by simp; omega) ?_⟩
            have hext : Ext F w (w.setRow b (c.toList.take (o + base + i * esz + j) ++ v.cells.toList ++ c.toList.drop (o + base + i * esz + j + v.cells.toList.length)).toArray) := Ext.setRow F w b c _ e _ hh hF (by simp; omega)
            refine ⟨_, e, setRow_heap_same w b c e _ _ hh, by rw [length_setPix]; simp; omega, fun k hk => ?_, fun k hk => ?_⟩
            rotate_left
            · rw [length_setPix] at hk
              rw [list_take_drop_getD c _ _ _ (by simp; omega)]
              split
              · exact hone' _ (by simp at *; omega)
              · exact hc1 k hk
            rw [length_setPix] at hk
            rw [list_take_drop_getD c _ _ _ (by simp; omega), getD_setPix hi hj hk]
            simp only [Array.length_toList]
            by_cases hin : base + i * esz + j ≤ k ∧ k < base + i * esz + j + n
            · rw [if_pos hin, if_pos (by omega)]
              have := (h2 (k - (base + i * esz + j)) (by omega)).mono hext (fun _ h => h) (fun _ _ h => h)
              rw [show o + k - (o + base + i * esz + j) = k - (base + i * esz + j) by omega]
              simpa [Array.getD, List.getD, show k - (base + i * esz + j) < v.cells.size by omega] using this
            · rw [if_neg hin, if_neg (by omega)]
              exact (hc k hk).mono hext (fun _ h => h) (fun _ _ h => h)
          · exact he.elim
        · exact he.elim
      | _ => exact he.elim
    · exact he.elim

/-! ### Indexes -/

def absIndexAddr (P : Program) (hp : Heap) (t : TypeId) (x ix : SV) : Tr SV :=
  match ix with
  | .d (.x (.int k i)) =>
    match P.underlying t, x with
    | some (.slice elem), .d (.ro len esz cell) =>
      if tsz P elem = some esz then .nd (0 ≤ i ∧ i < len) (.ret (.rop esz fun j => cell i.toNat j)) else .fail
    | some (.slice elem), .row l base off len esz =>
      if tsz P elem = some esz then .nd (0 ≤ i ∧ i < len) (.ret (.pix l base (off + len) esz (off + i.toNat) 0)) else .fail
    | some (.array n elem), .ptr l off =>
      match tsz P elem with
      | some esz => .nd (0 ≤ i ∧ i < n) (.ret (.pix l off n esz i.toNat 0))
      | none => .fail
    | some (.array n elem), .rop m cell =>
      match tsz P elem with
      | some esz => if n * esz ≤ m then .nd (0 ≤ i ∧ i < n) (.ret (.rop esz fun j => cell (i.toNat * esz + j))) else .fail
      | none => .fail
    | _, _ => .fail
  | _ => .fail

theorem absIndexAddr_sound {P : Program} {w : World} {μ : Mu} {F : Nat → Prop} {hp : Heap} {t : TypeId} {xv iv : Value} {x ix r : SV} (hx : Rep w μ F xv x) (hi : Rep w μ F iv ix) (he : (absIndexAddr P hp t x ix).ev r) :
    ∃ u, (Instr.indexAt t xv iv).run P w = .ok u w ∧ Rep w μ F u r := by
  unfold absIndexAddr at he
  split at he
  · rename_i k i
    have := rep_x hi; subst this
    split at he
    · rename_i elem len esz cell hu
      split at he
      · rename_i hs
        obtain ⟨hb, he⟩ := he
        simp only [Tr.ev] at he; subst he
        generalize hsv : SV.d (.ro len esz cell) = sv at hx
        cases hx with
        | d hd =>
          simp only [SV.d.injEq] at hsv; subst hsv
          generalize hdv : DV.ro len esz cell = dv at hd
          cases hd with
          | x => cases hdv
          | nil => cases hdv; omega
          | z => cases hdv; omega
          | ro b o len' cap esz' cell' f hF hc hcell hone hrep =>
            cases hdv
            refine ⟨.pointer (some ⟨b, o + i.toNat * esz, none⟩), ?_, ?_⟩
            · unfold Instr.indexAt
              simp only [asIntOf, Sem.run_bind, Sem.run_pure, Result.andThen, run_underlying hu]
              rw [if_pos (by omega)]
              simp only [Sem.run_bind, run_tsz w hs, Result.andThen, Sem.run_pure, add_none]
            · refine .rop b _ esz _ (fun j => f i.toNat j) (fun _ => hF (by omega)) (fun j hj => ?_) (fun j hj => hone _ _ (by omega) hj) (fun j hj => hrep _ _ (by omega) hj)
              rw [Nat.add_assoc]; exact hcell _ _ (by omega) hj
        | _ => cases hsv
      · exact he.elim
    · rename_i elem l base off len esz hu
      split at he
      · rename_i hs
        obtain ⟨hb, he⟩ := he
        simp only [Tr.ev] at he; subst he
        cases hx with
        | rnil => omega
        | rz => omega
        | row _ _ _ _ _ b o cap hm hc hz =>
          refine ⟨.pointer (some ⟨b, o + base + off * esz + i.toNat * esz, none⟩), ?_, ?_⟩
          · unfold Instr.indexAt
            simp only [asIntOf, Sem.run_bind, Sem.run_pure, Result.andThen, run_underlying hu]
            rw [if_pos (by omega)]
            simp only [Sem.run_bind, run_tsz w hs, Result.andThen, Sem.run_pure, add_none]
          · have := Rep.pix (w := w) (F := F) l base (off + len) esz (off + i.toNat) 0 b o hm
            rw [show o + base + (off + i.toNat) * esz + 0 = o + base + off * esz + i.toNat * esz by rw [Nat.add_mul]; omega] at this
            exact this
      · exact he.elim
    · rename_i n elem l off hu
      split at he
      · rename_i esz hs
        obtain ⟨hb, he⟩ := he
        simp only [Tr.ev] at he; subst he
        cases hx with
        | ptr _ _ b o hm =>
          refine ⟨.pointer (some ⟨b, o + off + i.toNat * esz, none⟩), ?_, ?_⟩
          · unfold Instr.indexAt
            simp only [asIntOf, Sem.run_bind, Sem.run_pure, Result.andThen, run_underlying hu, Instr.sureAddr]
            rw [if_pos (by omega)]
            simp only [Sem.run_bind, run_tsz w hs, Result.andThen, Sem.run_pure, add_none]
          · have := Rep.pix (w := w) (F := F) l off n esz i.toNat 0 b o hm
            rw [Nat.add_zero] at this
            exact this
      · exact he.elim
    · rename_i n elem m cell hu
      split at he
      · rename_i esz hs
        split at he
        · rename_i hle
          obtain ⟨hb, he⟩ := he
          simp only [Tr.ev] at he; subst he
          cases hx with
          | rop b o _ _ f hF hcell hone hrep =>
            have hlt : ∀ j, j < esz → i.toNat * esz + j < m := by
              intro j hj
              have : (i.toNat + 1) * esz ≤ n * esz := Nat.mul_le_mul_right _ (by omega)
              rw [Nat.add_mul] at this; omega
            refine ⟨.pointer (some ⟨b, o + i.toNat * esz, none⟩), ?_, ?_⟩
            · unfold Instr.indexAt
              simp only [asIntOf, Sem.run_bind, Sem.run_pure, Result.andThen, run_underlying hu, Instr.sureAddr]
              rw [if_pos (by omega)]
              simp only [Sem.run_bind, run_tsz w hs, Result.andThen, Sem.run_pure, add_none]
            · refine .rop b _ esz _ (fun j => f (i.toNat * esz + j)) (fun h => hF (by have := hlt 0 (by omega); omega)) (fun j hj => ?_) (fun j hj => hone _ (hlt j hj)) (fun j hj => hrep _ (hlt j hj))
              rw [Nat.add_assoc]; exact hcell _ (hlt j hj)
        · exact he.elim
      · exact he.elim
    · exact he.elim
  · exact he.elim

end
end Go.Sx
