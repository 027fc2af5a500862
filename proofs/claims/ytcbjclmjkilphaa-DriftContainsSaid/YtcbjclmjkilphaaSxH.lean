/- The symbolic executor: append and make, and single operations put together. -/
import Derived.Test.YtcbjclmjkilphaaSxG
set_option linter.unusedVariables false
set_option linter.unusedSimpArgs false
namespace Go.Sx
noncomputable section

theorem SrcAt.drew {P : Program} {w : World} {F : Nat → Prop} {v : Value} {esz n : Nat} {cell : Nat → Nat → DV} (h : SrcAt P w F v esz n cell) : SrcAt P w.drew F v esz n cell := by
  obtain ⟨news, h1, h2, h3, h4⟩ := h
  exact ⟨news, h1, fun w1 hw => h2 w1 fun a => (hw a).trans rfl, fun i j hi hj => (h3 i j hi hj).mono (Ext.drew F w) (fun _ h => h), h4⟩

theorem Out.ofDrew {w : World} {μ : Mu} {F : Nat → Prop} {hp hp' : Heap} {N : Nat → Prop} {v : Value} {s : SV} {w' : World} (h : Out w.drew μ F hp N hp' v s w') : Out w μ F hp N hp' v s w' := by
  obtain ⟨μ', F', hs, hr, h1, h2⟩ := h
  refine ⟨μ', F', ⟨?_, hs.sub, hs.fin, hs.blk, hs.inj⟩, hr, h1, h2⟩
  exact ⟨hs.ext.os, hs.ext.tape, hs.ext.output, hs.ext.size, hs.ext.keep, hs.ext.bsz⟩

theorem LH.drew {w : World} {μ : Mu} {F : Nat → Prop} {hp : Heap} (h : LH w μ F hp) : LH w.drew μ F hp := by
  refine ⟨Ext.refl _ _, fun b hb => hb, fun b hb => h.fin b hb, fun l blk hg => ?_, h.inj⟩
  obtain ⟨q, h1, h2, h3⟩ := h.blk l blk hg
  exact ⟨q, h1, h2, h3.mono (Ext.drew F w) (fun _ h => h) (fun _ _ h => h) (fun _ _ _ => rfl)⟩

/-- The parameters may be widened: what was tracked from a smaller heap. -/
theorem hs_drop {p : Par} {μ : Mu} {F : Nat → Prop} {hp : Heap} {w : World} (h : HS p μ F hp w) (l : Nat) : HS p μ F (hset hp l none) w := by
  refine ⟨h.ext, h.sub, h.fin, fun l' blk hg => ?_, fun l1 l2 b1 b2 b o b' o' hne h1 h2 m1 m2 => ?_⟩
  · rw [hget_hset] at hg
    split at hg
    · cases hg
    · exact h.blk l' blk hg
  · rw [hget_hset] at h1 h2
    split at h1
    · cases h1
    · split at h2
      · cases h2
      · exact h.inj l1 l2 b1 b2 b o b' o' hne h1 h2 m1 m2

theorem hdrop_hs {p : Par} {μ : Mu} {F : Nat → Prop} {hp : Heap} {w : World} (h : HS p μ F hp w) (o : Option Nat) : HS p μ F (hdrop hp o) w := by
  cases o with
  | none => exact h
  | some l => exact hs_drop h l

theorem hget_hdrop (hp : Heap) (o : Option Nat) (k : Nat) : hget (hdrop hp o) k = if o = some k then none else hget hp k := by
  cases o with
  | none => simp [hdrop]
  | some l =>
    simp only [hdrop, hget_hset, Option.some.injEq]
    by_cases h : k = l
    · subst h; simp
    · rw [if_neg h, if_neg (fun e => h e.symm)]

/-- A new block, one of the old ones being given up. -/
theorem hs_alloc_drop {w : World} {μ : Mu} {F : Nat → Prop} {hp : Heap} {id : Nat} {own : Option Nat} {blk : Blk} {ob : Obj} (hl : LH w μ F hp) (hid : μ id = none)
    (hb : BlkAt (w.alloc ob) (upd μ id (.pl w.heap.size 0)) F (.pl w.heap.size 0) blk) :
    HS ⟨w, Tk hp μ, F⟩ (upd μ id (.pl w.heap.size 0)) F (hset (hdrop hp own) id (some blk)) (w.alloc ob) := by
  have h := hs_alloc hl hid hb
  cases own with
  | none => exact h
  | some l =>
    have h' := hs_drop h l
    have hget : ∀ k bk, hget (hset (hdrop hp (some l)) id (some blk)) k = some bk → hget (hset hp id (some blk)) k = some bk := by
      intro k bk hk
      rw [hget_hset, hget_hdrop] at hk
      rw [hget_hset]
      split at hk
      · rename_i e; rw [if_pos e]; exact hk
      · rename_i e; rw [if_neg e]
        split at hk
        · cases hk
        · exact hk
    exact ⟨h.ext, h.sub, h.fin, fun k bk hk => h.blk k bk (hget k bk hk), fun l1 l2 b1 b2 b o b' o' hne h1 h2 m1 m2 => h.inj l1 l2 b1 b2 b o b' o' hne (hget _ _ h1) (hget _ _ h2) m1 m2⟩

/-- The block of id l is written and is from now on the block of id 'id'. -/
theorem hs_take {w : World} {μ : Mu} {F : Nat → Prop} {hp : Heap} {l id b o q : Nat} {blk blk' : Blk} {c cs' : Array Value} {e : TypeId} (hl : LH w μ F hp) (hid : μ id = none) (hg : hget hp l = some blk) (hm : μ l = some (.pl b o))
    (hh : w.heap[b]? = some (.cells c e (0, 0))) (hsz : cs'.size = c.size) (hb : BlkAt (w.setRow b cs') (upd μ id (.pl b q)) F (.pl b q) blk') :
    HS ⟨w, Tk hp μ, F⟩ (upd μ id (.pl b q)) F (hset (hset hp l none) id (some blk')) (w.setRow b cs') := by
  have hF : ¬ F b := (hl.blkAt hg hm).2
  have hext : Ext F w (w.setRow b cs') := Ext.setRow F w b c cs' e _ hh hF hsz
  have hT : Tk hp μ b := ⟨l, blk, o, hg, hm⟩
  have hne : l ≠ id := fun h => by subst h; rw [hm] at hid; cases hid
  have old : ∀ k bk, k ≠ id → hget (hset (hset hp l none) id (some blk')) k = some bk → k ≠ l ∧ hget hp k = some bk := by
    intro k bk hk hg1
    rw [hget_hset, if_neg hk, hget_hset] at hg1
    split at hg1
    · cases hg1
    · rename_i e; exact ⟨e, hg1⟩
  refine ⟨Ext.setRow _ w b c cs' e _ hh (fun h => h.2 hT) hsz, fun b hb => hb, fun b' hb' => ⟨by have := (hl.fin b' hb').1; simp [World.setRow]; exact this, .inl hb'⟩, ?_, ?_⟩
  · intro k bk hg1
    by_cases hk : k = id
    · subst hk
      rw [hget_hset, if_pos rfl, Option.some.injEq] at hg1; subst hg1
      exact ⟨.pl b q, by simp [upd], ⟨hF, .inl hT⟩, hb⟩
    · obtain ⟨h1, h2⟩ := old k bk hk hg1
      obtain ⟨r, h3, h4, h5⟩ := hl.blk k bk h2
      refine ⟨r, upd_ext hid _ _ h3, h4, h5.mono hext (fun _ h => h) (upd_ext hid) ?_⟩
      intro b' o' hq; subst hq
      exact setRow_heap_other w b b' cs' (hl.inj k l bk blk b' o' b o h1 h2 hg h3 hm)
  · intro l1 l2 bk1 bk2 b1 o1 b2 o2 hn h1 h2 m1 m2
    by_cases e1 : l1 = id
    · subst e1
      have e2 : l2 ≠ l1 := fun h => hn h.symm
      obtain ⟨h3, h4⟩ := old l2 bk2 e2 h2
      simp only [upd, if_true, Option.some.injEq, Plc.pl.injEq] at m1
      simp only [upd, e2, if_false] at m2
      rw [← m1.1]
      exact hl.inj l l2 blk bk2 b o b2 o2 (fun h => h3 h.symm) hg h4 hm m2
    · obtain ⟨h3, h4⟩ := old l1 bk1 e1 h1
      simp only [upd, e1, if_false] at m1
      by_cases e2 : l2 = id
      · subst e2
        simp only [upd, if_true, Option.some.injEq, Plc.pl.injEq] at m2
        rw [← m2.1]
        exact hl.inj l1 l bk1 blk b1 o1 b o h3 h4 hg m1 hm
      · obtain ⟨h5, h6⟩ := old l2 bk2 e2 h2
        simp only [upd, e2, if_false] at m2
        exact hl.inj l1 l2 bk1 bk2 b1 o1 b2 o2 hn h4 h6 m1 m2

theorem run_append {P : Program} {w : World} {F : Nat → Prop} {st xt ty elem : TypeId} {i : TypeInfo} {z : Value} {xd : TypeDesc} (hst : P.underlying st = some (.slice elem)) (hxt : P.underlying xt = some xd) (hxd : (∃ e, xd = .slice e) ∨ xd = .string)
    (hi : P.info? elem = some i) (hz : i.zero = some z) {base : Option Addr} {n m cap : Nat} {xv : Value} {olds news : List Value}
    (ho : ∀ w1, (∀ a, w1.cell? a = w.cell? a) → (Builtin.firstCells i.size n (.slice base n cap)).run P w1 = .ok olds.toArray w1)
    (hn : ∀ w1, (∀ a, w1.cell? a = w.cell? a) → (Builtin.lenOf xv).run P w1 = .ok m w1 ∧ (Builtin.firstCells i.size m xv).run P w1 = .ok news.toArray w1) (hbytes : (n + m) * i.bytes ≤ 140737488355328) (h63 : n + m ≤ 9223372036854775807) :
    (cap < n + m → (Builtin.append_ #[st, xt] ty #[.slice base n cap, xv]).run P w =
      .ok (.slice (some ⟨w.heap.size, 0, none⟩) (n + m) (grownCap w (n + m) cap elem)) (w.drew.alloc (.cells (olds.toArray ++ news.toArray ++ Builtin.zeroCells z.cells (grownCap w (n + m) cap elem - (n + m))) elem))) ∧
    (n + m ≤ cap → base = none → (Builtin.append_ #[st, xt] ty #[.slice base n cap, xv]).run P w = .ok (.slice none (n + m) cap) w) ∧
    (n + m ≤ cap → ∀ b q, base = some ⟨b, q, none⟩ → (Builtin.append_ #[st, xt] ty #[.slice base n cap, xv]).run P w = (do storeCells ⟨b, q + n * i.size, none⟩ news; pure (.slice base (n + m) cap) : Sem Value).run P w) := by
  have hsz : ∀ w1, (sizeOf elem).run P w1 = .ok i.size w1 := fun w1 => run_tsz w1 (by simp [tsz, hi])
  have hti : ∀ w1, (typeInfo elem).run P w1 = .ok i w1 := fun w1 => by simp [typeInfo, hi]
  have hzv : ∀ w1, (zeroValue elem).run P w1 = .ok z w1 := fun w1 => by simp [zeroValue, typeInfo, hi, hz]
  obtain ⟨hn1, hn2⟩ := hn w fun _ => rfl
  have ho1 := ho w fun _ => rfl
  have ho' := ho w.drew fun _ => rfl
  have hn' := (hn w.drew fun _ => rfl).2
  refine ⟨fun hg => ?_, fun hfit hb => ?_, fun hfit b q hb => ?_⟩
  · have h1 : ¬ (n + m ≤ cap) := by omega
    have h2 : ¬ (9223372036854775807 < ((n : Int) + (m : Int))) := by omega
    have h3 : ¬ (281474976710656 < Builtin.nextslicecap (n + m) cap * i.bytes) := by have := growslice_fits hg hbytes; omega
    rcases hxd with ⟨e, rfl⟩ | rfl <;>
    · unfold Builtin.append_
      simp only [List.getElem?_toArray, List.getElem?_cons_succ, List.getElem?_cons_zero, Sem.run_bind, run_underlying hst, run_underlying hxt, Result.andThen, hsz, Sem.run_pure, Bool.false_eq_true, if_false, hn1, h1, Bool.not_false, if_true]
      simp [h2, h3, hti, hzv, Question.forced, newRow, grownCap, ho', hn', choose, Sem.run, askRoom]
      rw [← Array.append_assoc]; simp
  · subst hb
    rcases hxd with ⟨e, rfl⟩ | rfl <;>
    · unfold Builtin.append_
      simp only [List.getElem?_toArray, List.getElem?_cons_succ, List.getElem?_cons_zero, Sem.run_bind, run_underlying hst, run_underlying hxt, Result.andThen, hsz, Sem.run_pure, Bool.false_eq_true, if_false, hn1, hfit, Bool.not_false, if_true, hn2]
  · subst hb
    rcases hxd with ⟨e, rfl⟩ | rfl <;>
    · unfold Builtin.append_
      simp only [List.getElem?_toArray, List.getElem?_cons_succ, List.getElem?_cons_zero, Sem.run_bind, run_underlying hst, run_underlying hxt, Result.andThen, hsz, Sem.run_pure, Bool.false_eq_true, if_false, hn1, hfit, Bool.not_false, if_true, hn2, add_none]

/-- A slice that is nil. -/
theorem hs_nil {w : World} {μ : Mu} {F : Nat → Prop} {hp : Heap} {id : Nat} {own : Option Nat} {n esz : Nat} {cell : Nat → Nat → DV} (hl : LH w μ F hp) (hid : μ id = none) (h0 : n = 0) :
    HS ⟨w, Tk hp μ, F⟩ (upd μ id .nil) F (hset (hdrop hp own) id (some (.row n esz cell))) w := by
  have old : ∀ k bk, k ≠ id → hget (hset (hdrop hp own) id (some (.row n esz cell))) k = some bk → hget hp k = some bk := by
    intro k bk hk hg1
    rw [hget_hset, if_neg hk, hget_hdrop] at hg1
    split at hg1
    · cases hg1
    · exact hg1
  refine ⟨hl.ext, hl.sub, hl.fin, fun k bk hg => ?_, fun l1 l2 b1 b2 b o b' o' hne h1 h2 m1 m2 => ?_⟩
  · by_cases hk : k = id
    · subst hk
      rw [hget_hset, if_pos rfl, Option.some.injEq] at hg; subst hg
      exact ⟨.nil, by simp [upd], trivial, h0⟩
    · obtain ⟨q, h1, h2, h3⟩ := hl.blk k bk (old k bk hk hg)
      exact ⟨q, upd_ext hid _ _ h1, h2, h3.mono (Ext.refl F w) (fun _ h => h) (upd_ext hid) (fun _ _ _ => rfl)⟩
  · by_cases e1 : l1 = id
    · subst e1; simp [upd] at m1
    · by_cases e2 : l2 = id
      · subst e2; simp [upd] at m2
      · simp only [upd, e1, e2, if_false] at m1 m2
        exact hl.inj l1 l2 b1 b2 b o b' o' hne (old l1 b1 e1 h1) (old l2 b2 e2 h2) m1 m2

theorem firstCells_det {P : Program} {w : World} {b q n cap esz : Nat} {c : Array Value} {e : TypeId} {olds : List Value} (hh : w.heap[b]? = some (.cells c e (0, 0))) (hq : q + n * esz ≤ c.size)
    (ho : (Builtin.firstCells esz n (.slice (some ⟨b, q, none⟩) n cap)).run P w = .ok olds.toArray w) : ∀ k, k < n * esz → olds.getD k undef = c.getD (q + k) undef := by
  have := run_firstCells_some (P := P) w esz n ⟨b, q, none⟩ n cap ((List.range (n * esz)).map fun k => c.getD (q + k) undef) (by simp) (fun j v hv => by
    have hj : j < n * esz := by have := (List.getElem?_eq_some_iff.1 hv).1; simpa using this
    rw [add_none, cell_of_heap hh (by omega)]
    simpa [hj] using hv)
  rw [ho] at this
  simp only [Result.ok.injEq, and_true] at this
  have h2 : olds = (List.range (n * esz)).map fun k => c.getD (q + k) undef := by simpa using this
  intro k hk
  rw [h2]; simp [List.getD, hk]

theorem absAppend_sound {P : Program} {w : World} {μ : Mu} {F : Nat → Prop} {hp hp' : Heap} {id : Nat} {st xt ty : TypeId} {sv xv : Value} {s x r : SV} (hl : LH w μ F hp) (hid : μ id = none) (hs : Rep w μ F sv s) (hx : Rep w μ F xv x)
    (he : (absAppend P id hp st xt s x).ev (r, hp')) : ∃ u w', (Builtin.append_ #[st, xt] ty #[sv, xv]).run P w = .ok u w' ∧ Out w μ F hp (· = id) hp' u r w' := by
  unfold absAppend at he
  split at he
  · rename_i elem xd hst hxt
    split at he
    · rename_i i own hi hown
      split at he
      · rename_i z n c1 p1 m c2 p2 hz hs1 hs2
        split at he
        · rename_i hk
          obtain ⟨hzs, hsz, hby, hxd⟩ := hk
          obtain ⟨⟨hp1, hp2, hbytes⟩, he⟩ := he
          simp only [Tr.ev, Prod.mk.injEq] at he; obtain ⟨rfl, rfl⟩ := he
          obtain ⟨olds, hol, ho, hor, hoo⟩ := absSrc_sound (P := P) hl hs hs1 hp1
          obtain ⟨news, hnl, hn, hnr, hno⟩ := absSrc_sound (P := P) hl hx hs2 hp2
          have h63 : n + m ≤ 9223372036854775807 := by
            have : n + m ≤ (n + m) * i.bytes := Nat.le_mul_of_pos_right _ hby
            omega
          have hxd' : (∃ e, xd = .slice e) ∨ xd = .string := by
            cases xd <;> simp [isSrcT] at hxd <;> simp
          have hrow := appendRow hol hnl hor hnr
          have hone : ∀ u ∈ olds ++ news, u.oneCell' = true := fun u hu => (List.mem_append.1 hu).elim (hoo u) (hno u)
          have hlen : (olds ++ news).length = (n + m) * i.size := by rw [List.length_append, hol, hnl, Nat.add_mul]
          have hnn : ∀ {b : Option Addr} {len cap : Nat}, sv = .slice b len cap → len = n := by
            intro b len cap e
            have := (ho w fun _ => rfl).1
            rw [e] at this
            simpa [Builtin.lenOf] using this
          have main : ∀ (base : Option Addr) (cap : Nat), sv = .slice base n cap → (∀ a, base = some a → a.spot = none) → n ≤ cap →
              (∀ b q, base = some ⟨b, q, none⟩ → cap = 0 ∨ ∃ l blk o c e, own = some l ∧ hget hp l = some blk ∧ μ l = some (.pl b o) ∧ w.heap[b]? = some (.cells c e (0, 0)) ∧ q + cap * i.size ≤ c.size) → (base = none → cap = 0) →
              ∃ u w', (Builtin.append_ #[st, xt] ty #[sv, xv]).run P w = .ok u w' ∧ Out w μ F hp (· = id) (hset (hdrop hp own) id (some (.row (n + m) i.size fun a b => selD (decide (a < n)) (c1 a b) (c2 (a - n) b)))) u (.row id 0 0 (n + m) i.size) w' := by
            intro base cap hsv hspot hnc hreal hnil
            subst hsv
            obtain ⟨rg, rn, rs⟩ := run_append (ty := ty) hst hxt hxd' hi hz (base := base) (cap := cap) (fun w1 hw => (ho w1 hw).2) hn hbytes h63 (F := F)
            by_cases hfit : n + m ≤ cap
            · cases base with
              | none =>
                have h0 := hnil rfl
                have e1 : n + m = 0 := by omega
                have e2 : cap = 0 := h0
                refine ⟨_, _, rn hfit rfl, upd μ id .nil, F, hs_nil hl hid e1, ?_, upd_ext hid, upd_other⟩
                rw [e1, e2]
                exact .rnil _ _ _ _ (by simp [upd])
              | some a =>
                obtain ⟨b, q, sp⟩ := a
                have := hspot _ rfl; subst this
                rcases hreal b q rfl with h0 | ⟨l, blk, o, c, e, ro, hg, hm, hh, hcs⟩
                · have e1 : n + m = 0 := by omega
                  have e2 : news = [] := List.eq_nil_of_length_eq_zero (by rw [hnl, show m = 0 by omega]; simp)
                  refine ⟨.slice (some ⟨b, q, none⟩) (n + m) cap, w, ?_, upd μ id .nil, F, hs_nil hl hid e1, ?_, upd_ext hid, upd_other⟩
                  · rw [rs hfit b q rfl, e2]; rfl
                  · rw [e1, h0]
                    exact .rz _ _ _ _ _ _ .nil (by simp [upd])
                · subst ro
                  have hcap : (n + m) * i.size ≤ cap * i.size := Nat.mul_le_mul_right _ hfit
                  have hst2 := run_storeCells_at P b (q + n * i.size) e news 0 c w hh (by rw [hnl]; rw [Nat.add_mul] at hcap; omega) hno
                  simp only [Nat.add_zero] at hst2
                  have hsize : (c.toList.take (q + n * i.size) ++ news ++ c.toList.drop (q + n * i.size + news.length)).toArray.size = c.size := by
                    rw [Nat.add_mul] at hcap
                    simp; omega
                  have hF : ¬ F b := (hl.blkAt hg hm).2
                  have hext : Ext F w (w.setRow b (c.toList.take (q + n * i.size) ++ news ++ c.toList.drop (q + n * i.size + news.length)).toArray) := Ext.setRow F w b c _ e _ hh hF hsize
                  have hdet := firstCells_det hh (by have : n * i.size ≤ cap * i.size := Nat.mul_le_mul_right _ hnc; omega) (ho w fun _ => rfl).2
                  have hget : ∀ k, k < (n + m) * i.size → ((c.toList.take (q + n * i.size) ++ news ++ c.toList.drop (q + n * i.size + news.length)).toArray).getD (q + k) undef = (olds ++ news).getD k undef := by
                    intro k hk
                    rw [Nat.add_mul] at hk hcap
                    rw [list_take_drop_getD c _ _ _ (by rw [hnl]; omega)]
                    by_cases hkn : k < n * i.size
                    · rw [if_neg (by omega), ← hdet k hkn]
                      simp [List.getD, List.getElem?_append, hol, hkn]
                    · rw [if_pos (by rw [hnl]; omega)]
                      simp only [List.getD, List.getElem?_append, hol, hkn, if_false]
                      rw [show q + k - (q + n * i.size) = k - n * i.size by omega]
                  refine ⟨.slice (some ⟨b, q, none⟩) (n + m) cap, _, ?_, upd μ id (.pl b q), F, hs_take hl hid hg hm hh hsize ?_, ?_, upd_ext hid, upd_other⟩
                  · rw [rs hfit b q rfl, run_andThen_ok hst2]; rfl
                  · refine ⟨_, e, setRow_heap_same w b c e _ _ hh, by rw [hsize]; omega, fun a k ha hk => ?_, fun a k ha hk => ?_⟩
                    · have hlt : a * i.size + k < (n + m) * i.size := by
                        have : (a + 1) * i.size ≤ (n + m) * i.size := Nat.mul_le_mul_right _ ha
                        rw [Nat.add_mul] at this; omega
                      rw [hget _ hlt]
                      exact (hrow a k ha hk).mono hext fun _ h => h
                    · have hlt : a * i.size + k < (n + m) * i.size := by
                        have : (a + 1) * i.size ≤ (n + m) * i.size := Nat.mul_le_mul_right _ ha
                        rw [Nat.add_mul] at this; omega
                      rw [hget _ hlt]
                      refine hone _ ?_
                      have : a * i.size + k < (olds ++ news).length := by omega
                      rw [List.getD, List.getElem?_eq_getElem this, Option.getD_some]
                      exact List.getElem_mem _
                  · have hb : q + cap * i.size ≤ bsz (w.setRow b (c.toList.take (q + n * i.size) ++ news ++ c.toList.drop (q + n * i.size + news.length)).toArray) b := by
                      unfold bsz; rw [setRow_heap_same w b c e _ _ hh]; simp only []; rw [hsize]; exact hcs
                    have := Rep.row (w := w.setRow b (c.toList.take (q + n * i.size) ++ news ++ c.toList.drop (q + n * i.size + news.length)).toArray) (μ := upd μ id (.pl b q)) (F := F) id 0 0 (n + m) i.size b q cap (by simp [upd]) hfit (by simpa using hb)
                    simpa using this
            · have hg : cap < n + m := by omega
              have hge := grownCap_ge w (n + m) cap elem
              have hsize : (olds.toArray ++ news.toArray ++ Builtin.zeroCells z.cells (grownCap w (n + m) cap elem - (n + m))).size = grownCap w (n + m) cap elem * i.size := by
                simp only [Array.size_append, List.size_toArray, size_zeroCells, hzs, hol, hnl, ← Nat.add_mul]
                congr 1; omega
              have hF := fun b (hb : F b) => (hl.fin b hb).1
              have hl' := hl.drew
              have hget : ∀ k, k < (n + m) * i.size → (olds.toArray ++ news.toArray ++ Builtin.zeroCells z.cells (grownCap w (n + m) cap elem - (n + m))).getD k undef = (olds ++ news).getD k undef := by
                intro k hk
                have h1 : k < (olds ++ news).length := by omega
                rw [show olds.toArray ++ news.toArray = (olds ++ news).toArray by simp]
                simp only [Array.getD_eq_getD_getElem?, List.getD]
                rw [Array.getElem?_append_left (by simpa using h1)]
                simp
              refine ⟨_, _, rg hg, Out.ofDrew ?_⟩
              refine ⟨_, F, hs_alloc_drop (own := own) hl' hid (blk := .row (n + m) i.size fun a b => selD (decide (a < n)) (c1 a b) (c2 (a - n) b)) ?_, ?_, upd_ext hid, upd_other⟩
              · refine ⟨_, elem, heap_alloc_at w.drew _, by rw [hsize]; have := Nat.mul_le_mul_right i.size hge; omega, fun a k ha hk => ?_, fun a k ha hk => ?_⟩
                · have hlt : a * i.size + k < (n + m) * i.size := by
                    have : (a + 1) * i.size ≤ (n + m) * i.size := Nat.mul_le_mul_right _ ha
                    rw [Nat.add_mul] at this; omega
                  rw [Nat.zero_add, hget _ hlt]
                  exact (hrow a k ha hk).mono ((Ext.drew F w).trans (Ext.alloc F w.drew _ hF)) fun _ h => h
                · have hlt : a * i.size + k < (n + m) * i.size := by
                    have : (a + 1) * i.size ≤ (n + m) * i.size := Nat.mul_le_mul_right _ ha
                    rw [Nat.add_mul] at this; omega
                  rw [Nat.zero_add, hget _ hlt]
                  refine hone _ ?_
                  have : a * i.size + k < (olds ++ news).length := by omega
                  rw [List.getD, List.getElem?_eq_getElem this, Option.getD_some]
                  exact List.getElem_mem _
              · have hb : bsz (w.drew.alloc (.cells (olds.toArray ++ news.toArray ++ Builtin.zeroCells z.cells (grownCap w (n + m) cap elem - (n + m))) elem)) w.heap.size = grownCap w (n + m) cap elem * i.size := by
                  unfold bsz; rw [show w.heap.size = w.drew.heap.size from rfl, heap_alloc_at]; exact hsize
                have := Rep.row (w := w.drew.alloc (.cells (olds.toArray ++ news.toArray ++ Builtin.zeroCells z.cells (grownCap w (n + m) cap elem - (n + m))) elem)) (μ := upd μ id (.pl w.drew.heap.size 0)) (F := F) id 0 0 (n + m) i.size w.heap.size 0 (grownCap w (n + m) cap elem) (by simp [upd]) hge (by rw [hb]; simp)
                simpa using this
          unfold ownOf at hown
          split at hown
          · simp only [Option.some.injEq] at hown; subst hown
            have hsv := rep_x hs
            have := hnn hsv; subst this
            exact main none 0 hsv (fun a ha => by cases ha) (Nat.le_refl _) (fun b q h => by cases h) (fun _ => rfl)
          · rename_i l base off len esz
            simp only [Option.some.injEq] at hown; subst hown
            cases hs with
            | rnil =>
              have := hnn rfl; subst this
              exact main none 0 rfl (fun a ha => by cases ha) (Nat.le_refl _) (fun b q h => by cases h) (fun _ => rfl)
            | rz _ _ _ _ b o =>
              have := hnn rfl; subst this
              exact main _ 0 rfl (fun a ha => by cases ha; rfl) (Nat.le_refl _) (fun b q h => .inl rfl) (fun h => by cases h)
            | row _ _ _ _ _ b o cap hm hc hz =>
              have := hnn rfl; subst this
              unfold absSrc at hs1
              split at hs1
              · contradiction
              · contradiction
              · contradiction
              · rename_i l' base' off' len' esz' heq
                cases heq
                split at hs1
                · rename_i n' esz'' cell' hg
                  split at hs1
                  · rename_i hk
                    obtain ⟨⟨c, e, hh, hsz', hcc, hc1⟩, hF⟩ := hl.blkAt hg hm
                    refine main _ cap rfl (fun a ha => by cases ha; rfl) hc (fun b' q' h => ?_) (fun h => by cases h)
                    simp only [Option.some.injEq, Addr.mk.injEq, and_true] at h
                    obtain ⟨rfl, rfl⟩ := h
                    refine .inr ⟨_, _, o, c, e, rfl, hg, hm, hh, ?_⟩
                    unfold bsz at hz; rw [hh] at hz; simp only [] at hz
                    rw [hk.2.1, Nat.add_mul] at hz
                    rw [hk.2.1]; omega
                  · cases hs1
                · rename_i cs hg
                  split at hs1
                  · split at hs1
                    · rename_i hk
                      obtain ⟨⟨c, e, hh, hsz', hcc, hc1⟩, hF⟩ := hl.blkAt hg hm
                      refine main _ cap rfl (fun a ha => by cases ha; rfl) hc (fun b' q' h => ?_) (fun h => by cases h)
                      simp only [Option.some.injEq, Addr.mk.injEq, and_true] at h
                      obtain ⟨rfl, rfl⟩ := h
                      refine .inr ⟨_, _, o, c, e, rfl, hg, hm, hh, ?_⟩
                      unfold bsz at hz; rw [hh] at hz; simp only [] at hz
                      rw [hk, Nat.add_mul] at hz
                      rw [hk]; omega
                    · cases hs1
                  · cases hs1
                · cases hs1
              · rename_i hno'; exact (hno' _ _ _ _ _ rfl).elim
          · cases hown
        · exact he.elim
      · exact he.elim
    · exact he.elim
  · exact he.elim

end
end Go.Sx
