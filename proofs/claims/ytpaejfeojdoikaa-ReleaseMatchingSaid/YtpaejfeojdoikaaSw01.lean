/- Part of a proof of the given statements of this seat (SyAh, SyI, SyJ, SyK, SyKF): no conditions beyond those typed here. -/
import Derived.Test.YtpaejfeojdoikaaSw00
import Derived.Lib.ConvBytes
import Derived.Laws.IdiomStrings
set_option linter.unusedVariables false
set_option linter.unusedSimpArgs false
set_option linter.unusedSectionVars false
set_option linter.constructorNameAsVariable false

namespace Go.Sx
noncomputable section
theorem SrcAt.drew {P : Program} {w : World} {F : Nat → Prop} {v : Value} {esz n : Nat} {cell : Nat → Nat → DV} (h : SrcAt P w F v esz n cell) : SrcAt P w.drew F v esz n cell := by
  obtain ⟨news, h1, h2, h3, h4⟩ := h
  exact ⟨news, h1, fun w1 hw => h2 w1 fun a => (hw a).trans rfl, fun i j hi hj => (h3 i j hi hj).mono (Ext.drew F w) (fun _ h => h), h4⟩
theorem Out.ofDrew {w : World} {μ : Mu} {F : Nat → Prop} {hp hp' : Heap} {N : Nat → Prop} {v : Value} {s : SV} {w' : World} (h : Out w.drew μ F hp N hp' v s w') : Out w μ F hp N hp' v s w' := by
  obtain ⟨μ', F', hs, hr, h1, h2⟩ := h
  refine ⟨μ', F', ⟨?_, hs.sub, hs.fin, hs.blk, hs.inj⟩, hr, h1, h2⟩
  exact ⟨hs.ext.os, hs.ext.tape, hs.ext.output, hs.ext.size, hs.ext.keep, hs.ext.bsz⟩
theorem LH.drew {w : World} {μ : Mu} {F : Nat → Prop} {hp : Heap} (h : LH w μ F hp) : LH w.drew μ F hp := by
  refine ⟨Ext.refl _ _, fun b hb => hb, fun b hb => h.fin b hb, fun l blk hg => ?_, h.inj⟩
  obtain ⟨q, h1, h2, h3⟩ := h.blk l blk hg
  exact ⟨q, h1, h2, h3.mono (Ext.drew F w) (fun _ h => h) (fun _ _ h => h) (fun _ _ _ => rfl)⟩
theorem hs_drop {p : Par} {μ : Mu} {F : Nat → Prop} {hp : Heap} {w : World} (h : HS p μ F hp w) (l : Nat) : HS p μ F (hset hp l none) w := by
  refine ⟨h.ext, h.sub, h.fin, fun l' blk hg => ?_, fun l1 l2 b1 b2 b o b' o' hne h1 h2 m1 m2 => ?_⟩
  · rw [hget_hset] at hg
    split at hg
    · cases hg
    · exact h.blk l' blk hg
  · rw [hget_hset] at h1 h2
    split at h1
    · cases h1
    · split at h2
      · cases h2
      · exact h.inj l1 l2 b1 b2 b o b' o' hne h1 h2 m1 m2
theorem hget_hdrop (hp : Heap) (o : Option Nat) (k : Nat) : hget (hdrop hp o) k = if o = some k then none else hget hp k := by
  cases o with
  | none => simp [hdrop]
  | some l =>
    simp only [hdrop, hget_hset, Option.some.injEq]
    by_cases h : k = l
    · subst h; simp
    · rw [if_neg h, if_neg (fun e => h e.symm)]
theorem hs_alloc_drop {w : World} {μ : Mu} {F : Nat → Prop} {hp : Heap} {id : Nat} {own : Option Nat} {blk : Blk} {ob : Obj} (hl : LH w μ F hp) (hid : μ id = none)
    (hb : BlkAt (w.alloc ob) (upd μ id (.pl w.heap.size 0)) F (.pl w.heap.size 0) blk) :
    HS ⟨w, Tk hp μ, F⟩ (upd μ id (.pl w.heap.size 0)) F (hset (hdrop hp own) id (some blk)) (w.alloc ob) := by
  have h := hs_alloc hl hid hb
  cases own with
  | none => exact h
  | some l =>
    have h' := hs_drop h l
    have hget : ∀ k bk, hget (hset (hdrop hp (some l)) id (some blk)) k = some bk → hget (hset hp id (some blk)) k = some bk := by
      intro k bk hk
      rw [hget_hset, hget_hdrop] at hk
      rw [hget_hset]
      split at hk
      · rename_i e; rw [if_pos e]; exact hk
      · rename_i e; rw [if_neg e]
        split at hk
        · cases hk
        · exact hk
    exact ⟨h.ext, h.sub, h.fin, fun k bk hk => h.blk k bk (hget k bk hk), fun l1 l2 b1 b2 b o b' o' hne h1 h2 m1 m2 => h.inj l1 l2 b1 b2 b o b' o' hne (hget _ _ h1) (hget _ _ h2) m1 m2⟩
theorem hs_take {w : World} {μ : Mu} {F : Nat → Prop} {hp : Heap} {l id b o q : Nat} {blk blk' : Blk} {c cs' : Array Value} {e : TypeId} (hl : LH w μ F hp) (hid : μ id = none) (hg : hget hp l = some blk) (hm : μ l = some (.pl b o))
    (hh : w.heap[b]? = some (.cells c e (0, 0))) (hsz : cs'.size = c.size) (hb : BlkAt (w.setRow b cs') (upd μ id (.pl b q)) F (.pl b q) blk') :
    HS ⟨w, Tk hp μ, F⟩ (upd μ id (.pl b q)) F (hset (hset hp l none) id (some blk')) (w.setRow b cs') := by
  have hF : ¬ F b := (hl.blkAt hg hm).2
  have hext : Ext F w (w.setRow b cs') := Ext.setRow F w b c cs' e _ hh hF hsz
  have hT : Tk hp μ b := ⟨l, blk, o, hg, hm⟩
  have hne : l ≠ id := fun h => by subst h; rw [hm] at hid; cases hid
  have old : ∀ k bk, k ≠ id → hget (hset (hset hp l none) id (some blk')) k = some bk → k ≠ l ∧ hget hp k = some bk := by
    intro k bk hk hg1
    rw [hget_hset, if_neg hk, hget_hset] at hg1
    split at hg1
    · cases hg1
    · rename_i e; exact ⟨e, hg1⟩
  refine ⟨Ext.setRow _ w b c cs' e _ hh (fun h => h.2 hT) hsz, fun b hb => hb, fun b' hb' => ⟨by have := (hl.fin b' hb').1; simp [World.setRow]; exact this, .inl hb'⟩, ?_, ?_⟩
  · intro k bk hg1
    by_cases hk : k = id
    · subst hk
      rw [hget_hset, if_pos rfl, Option.some.injEq] at hg1; subst hg1
      exact ⟨.pl b q, by simp [upd], ⟨hF, .inl hT⟩, hb⟩
    · obtain ⟨h1, h2⟩ := old k bk hk hg1
      obtain ⟨r, h3, h4, h5⟩ := hl.blk k bk h2
      refine ⟨r, upd_ext hid _ _ h3, h4, h5.mono hext (fun _ h => h) (upd_ext hid) ?_⟩
      intro b' o' hq; subst hq
      exact setRow_heap_other w b b' cs' (hl.inj k l bk blk b' o' b o h1 h2 hg h3 hm)
  · intro l1 l2 bk1 bk2 b1 o1 b2 o2 hn h1 h2 m1 m2
    by_cases e1 : l1 = id
    · subst e1
      have e2 : l2 ≠ l1 := fun h => hn h.symm
      obtain ⟨h3, h4⟩ := old l2 bk2 e2 h2
      simp only [upd, if_true, Option.some.injEq, Plc.pl.injEq] at m1
      simp only [upd, e2, if_false] at m2
      rw [← m1.1]
      exact hl.inj l l2 blk bk2 b o b2 o2 (fun h => h3 h.symm) hg h4 hm m2
    · obtain ⟨h3, h4⟩ := old l1 bk1 e1 h1
      simp only [upd, e1, if_false] at m1
      by_cases e2 : l2 = id
      · subst e2
        simp only [upd, if_true, Option.some.injEq, Plc.pl.injEq] at m2
        rw [← m2.1]
        exact hl.inj l1 l bk1 blk b1 o1 b o h3 h4 hg m1 hm
      · obtain ⟨h5, h6⟩ := old l2 bk2 e2 h2
        simp only [upd, e2, if_false] at m2
        exact hl.inj l1 l2 bk1 bk2 b1 o1 b2 o2 hn h4 h6 m1 m2
theorem run_append {P : Program} {w : World} {F : Nat → Prop} {st xt ty elem : TypeId} {i : TypeInfo} {z : Value} {xd : TypeDesc} (hst : P.underlying st = some (.slice elem)) (hxt : P.underlying xt = some xd) (hxd : (∃ e, xd = .slice e) ∨ xd = .string)
    (hi : P.info? elem = some i) (hz : i.zero = some z) {base : Option Addr} {n m cap : Nat} {xv : Value} {olds news : List Value}
    (ho : ∀ w1, (∀ a, w1.cell? a = w.cell? a) → (Builtin.firstCells i.size n (.slice base n cap)).run P w1 = .ok olds.toArray w1)
    (hn : ∀ w1, (∀ a, w1.cell? a = w.cell? a) → (Builtin.lenOf xv).run P w1 = .ok m w1 ∧ (Builtin.firstCells i.size m xv).run P w1 = .ok news.toArray w1) (hbytes : (n + m) * i.bytes ≤ 140737488355328) (h63 : n + m ≤ 9223372036854775807) :
    (cap < n + m → (Builtin.append_ #[st, xt] ty #[.slice base n cap, xv]).run P w =
      .ok (.slice (some ⟨w.heap.size, 0, none⟩) (n + m) (grownCap w (n + m) cap elem)) (w.drew.alloc (.cells (olds.toArray ++ news.toArray ++ Builtin.zeroCells z.cells (grownCap w (n + m) cap elem - (n + m))) elem))) ∧
    (n + m ≤ cap → base = none → (Builtin.append_ #[st, xt] ty #[.slice base n cap, xv]).run P w = .ok (.slice none (n + m) cap) w) ∧
    (n + m ≤ cap → ∀ b q, base = some ⟨b, q, none⟩ → (Builtin.append_ #[st, xt] ty #[.slice base n cap, xv]).run P w = (do storeCells ⟨b, q + n * i.size, none⟩ news; pure (.slice base (n + m) cap) : Sem Value).run P w) := by
  have hsz : ∀ w1, (sizeOf elem).run P w1 = .ok i.size w1 := fun w1 => run_tsz w1 (by simp [tsz, hi])
  have hti : ∀ w1, (typeInfo elem).run P w1 = .ok i w1 := fun w1 => by simp [typeInfo, hi]
  have hzv : ∀ w1, (zeroValue elem).run P w1 = .ok z w1 := fun w1 => by simp [zeroValue, typeInfo, hi, hz]
  obtain ⟨hn1, hn2⟩ := hn w fun _ => rfl
  have ho1 := ho w fun _ => rfl
  have ho' := ho w.drew fun _ => rfl
  have hn' := (hn w.drew fun _ => rfl).2
  refine ⟨fun hg => ?_, fun hfit hb => ?_, fun hfit b q hb => ?_⟩
  · have h1 : ¬ (n + m ≤ cap) := by omega
    have h2 : ¬ (9223372036854775807 < ((n : Int) + (m : Int))) := by omega
    have h3 : ¬ (281474976710656 < Builtin.nextslicecap (n + m) cap * i.bytes) := by have := growslice_fits hg hbytes; omega
    rcases hxd with ⟨e, rfl⟩ | rfl <;>
    · unfold Builtin.append_
      simp only [List.getElem?_toArray, List.getElem?_cons_succ, List.getElem?_cons_zero, Sem.run_bind, run_underlying hst, run_underlying hxt, Result.andThen, hsz, Sem.run_pure, Bool.false_eq_true, if_false, hn1, h1, Bool.not_false, if_true]
      simp [h2, h3, hti, hzv, Question.forced, newRow, grownCap, ho', hn', choose, Sem.run, askRoom]
      rw [← Array.append_assoc]; simp
  · subst hb
    rcases hxd with ⟨e, rfl⟩ | rfl <;>
    · unfold Builtin.append_
      simp only [List.getElem?_toArray, List.getElem?_cons_succ, List.getElem?_cons_zero, Sem.run_bind, run_underlying hst, run_underlying hxt, Result.andThen, hsz, Sem.run_pure, Bool.false_eq_true, if_false, hn1, hfit, Bool.not_false, if_true, hn2]
  · subst hb
    rcases hxd with ⟨e, rfl⟩ | rfl <;>
    · unfold Builtin.append_
      simp only [List.getElem?_toArray, List.getElem?_cons_succ, List.getElem?_cons_zero, Sem.run_bind, run_underlying hst, run_underlying hxt, Result.andThen, hsz, Sem.run_pure, Bool.false_eq_true, if_false, hn1, hfit, Bool.not_false, if_true, hn2, add_none]
theorem hs_nil {w : World} {μ : Mu} {F : Nat → Prop} {hp : Heap} {id : Nat} {own : Option Nat} {n esz : Nat} {cell : Nat → Nat → DV} (hl : LH w μ F hp) (hid : μ id = none) (h0 : n = 0) :
    HS ⟨w, Tk hp μ, F⟩ (upd μ id .nil) F (hset (hdrop hp own) id (some (.row n esz cell))) w := by
  have old : ∀ k bk, k ≠ id → hget (hset (hdrop hp own) id (some (.row n esz cell))) k = some bk → hget hp k = some bk := by
    intro k bk hk hg1
    rw [hget_hset, if_neg hk, hget_hdrop] at hg1
    split at hg1
    · cases hg1
    · exact hg1
  refine ⟨hl.ext, hl.sub, hl.fin, fun k bk hg => ?_, fun l1 l2 b1 b2 b o b' o' hne h1 h2 m1 m2 => ?_⟩
  · by_cases hk : k = id
    · subst hk
      rw [hget_hset, if_pos rfl, Option.some.injEq] at hg; subst hg
      exact ⟨.nil, by simp [upd], trivial, h0⟩
    · obtain ⟨q, h1, h2, h3⟩ := hl.blk k bk (old k bk hk hg)
      exact ⟨q, upd_ext hid _ _ h1, h2, h3.mono (Ext.refl F w) (fun _ h => h) (upd_ext hid) (fun _ _ _ => rfl)⟩
  · by_cases e1 : l1 = id
    · subst e1; simp [upd] at m1
    · by_cases e2 : l2 = id
      · subst e2; simp [upd] at m2
      · simp only [upd, e1, e2, if_false] at m1 m2
        exact hl.inj l1 l2 b1 b2 b o b' o' hne (old l1 b1 e1 h1) (old l2 b2 e2 h2) m1 m2
theorem firstCells_det {P : Program} {w : World} {b q n cap esz : Nat} {c : Array Value} {e : TypeId} {olds : List Value} (hh : w.heap[b]? = some (.cells c e (0, 0))) (hq : q + n * esz ≤ c.size)
    (ho : (Builtin.firstCells esz n (.slice (some ⟨b, q, none⟩) n cap)).run P w = .ok olds.toArray w) : ∀ k, k < n * esz → olds.getD k undef = c.getD (q + k) undef := by
  have := run_firstCells_some (P := P) w esz n ⟨b, q, none⟩ n cap ((List.range (n * esz)).map fun k => c.getD (q + k) undef) (by simp) (fun j v hv => by
    have hj : j < n * esz := by have := (List.getElem?_eq_some_iff.1 hv).1; simpa using this
    rw [add_none, cell_of_heap hh (by omega)]
    simpa [hj] using hv)
  rw [ho] at this
  simp only [Result.ok.injEq, and_true] at this
  have h2 : olds = (List.range (n * esz)).map fun k => c.getD (q + k) undef := by simpa using this
  intro k hk
  rw [h2]; simp [List.getD, hk]
theorem absAppend_sound {P : Program} {w : World} {μ : Mu} {F : Nat → Prop} {hp hp' : Heap} {id : Nat} {st xt ty : TypeId} {sv xv : Value} {s x r : SV} (hl : LH w μ F hp) (hid : μ id = none) (hs : Rep w μ F sv s) (hx : Rep w μ F xv x)
    (he : (absAppend P id hp st xt s x).ev (r, hp')) : ∃ u w', (Builtin.append_ #[st, xt] ty #[sv, xv]).run P w = .ok u w' ∧ Out w μ F hp (· = id) hp' u r w' := by
  unfold absAppend at he
  split at he
  · rename_i elem xd hst hxt
    split at he
    · rename_i i own hi hown
      split at he
      · rename_i z m c2 p2 hz hs2
        split at he
        rotate_left
        · exact he.elim
        rename_i n c1 p1 hs1
        split at he
        · rename_i hk
          obtain ⟨hzs, hsz, hby, hxd⟩ := hk
          obtain ⟨⟨hp1, hp2, hbytes⟩, he⟩ := he
          simp only [Tr.ev, Prod.mk.injEq] at he; obtain ⟨rfl, rfl⟩ := he
          obtain ⟨olds, hol, ho, hor, hoo⟩ := absSrcD_sound (P := P) hl hs hs1 hp1
          obtain ⟨news, hnl, hn, hnr, hno⟩ := absSrc_sound (P := P) hl hx hs2 hp2
          have h63 : n + m ≤ 9223372036854775807 := by
            have : n + m ≤ (n + m) * i.bytes := Nat.le_mul_of_pos_right _ hby
            omega
          have hxd' : (∃ e, xd = .slice e) ∨ xd = .string := by
            cases xd <;> simp [isSrcT] at hxd <;> simp
          have hrow := appendRow hol hnl hor hnr
          have hone : ∀ u ∈ olds ++ news, u.oneCell' = true := fun u hu => (List.mem_append.1 hu).elim (hoo u) (hno u)
          have hlen : (olds ++ news).length = (n + m) * i.size := by rw [List.length_append, hol, hnl, Nat.add_mul]
          have hnn : ∀ {b : Option Addr} {len cap : Nat}, sv = .slice b len cap → len = n := by
            intro b len cap e
            have := (ho w fun _ => rfl).1
            rw [e] at this
            simpa [Builtin.lenOf] using this
          have main : ∀ (base : Option Addr) (cap : Nat), sv = .slice base n cap → n ≤ cap → (n + m ≤ cap → (∀ a, base = some a → a.spot = none) ∧
              (∀ b q, base = some ⟨b, q, none⟩ → cap = 0 ∨ ∃ l blk o c e, own = some l ∧ hget hp l = some blk ∧ μ l = some (.pl b o) ∧ w.heap[b]? = some (.cells c e (0, 0)) ∧ q + cap * i.size ≤ c.size) ∧ (base = none → cap = 0)) →
              ∃ u w', (Builtin.append_ #[st, xt] ty #[sv, xv]).run P w = .ok u w' ∧ Out w μ F hp (· = id) (hset (hdrop hp own) id (some (.row (n + m) i.size fun a b => selD (decide (a < n)) (c1 a b) (c2 (a - n) b)))) u (.row id 0 0 (n + m) i.size) w' := by
            intro base cap hsv hnc hok
            subst hsv
            obtain ⟨rg, rn, rs⟩ := run_append (ty := ty) hst hxt hxd' hi hz (base := base) (cap := cap) (fun w1 hw => (ho w1 hw).2) hn hbytes h63 (F := F)
            by_cases hfit : n + m ≤ cap
            · obtain ⟨hspot, hreal, hnil⟩ := hok hfit
              cases base with
              | none =>
                have h0 := hnil rfl
                have e1 : n + m = 0 := by omega
                have e2 : cap = 0 := h0
                refine ⟨_, _, rn hfit rfl, upd μ id .nil, F, hs_nil hl hid e1, ?_, upd_ext hid, upd_other⟩
                rw [e1, e2]
                exact .rnil _ _ _ _ (by simp [upd])
              | some a =>
                obtain ⟨b, q, sp⟩ := a
                have := hspot _ rfl; subst this
                rcases hreal b q rfl with h0 | ⟨l, blk, o, c, e, ro, hg, hm, hh, hcs⟩
                · have e1 : n + m = 0 := by omega
                  have e2 : news = [] := List.eq_nil_of_length_eq_zero (by rw [hnl, show m = 0 by omega]; simp)
                  refine ⟨.slice (some ⟨b, q, none⟩) (n + m) cap, w, ?_, upd μ id .nil, F, hs_nil hl hid e1, ?_, upd_ext hid, upd_other⟩
                  · rw [rs hfit b q rfl, e2]; rfl
                  · rw [e1, h0]
                    exact .rz _ _ _ _ _ _ .nil (by simp [upd])
                · subst ro
                  have hcap : (n + m) * i.size ≤ cap * i.size := Nat.mul_le_mul_right _ hfit
                  have hst2 := run_storeCells_at P b (q + n * i.size) e news 0 c w hh (by rw [hnl]; rw [Nat.add_mul] at hcap; omega) hno
                  simp only [Nat.add_zero] at hst2
                  have hsize : (c.toList.take (q + n * i.size) ++ news ++ c.toList.drop (q + n * i.size + news.length)).toArray.size = c.size := by
                    rw [Nat.add_mul] at hcap
                    simp; omega
                  have hF : ¬ F b := (hl.blkAt hg hm).2
                  have hext : Ext F w (w.setRow b (c.toList.take (q + n * i.size) ++ news ++ c.toList.drop (q + n * i.size + news.length)).toArray) := Ext.setRow F w b c _ e _ hh hF hsize
                  have hdet := firstCells_det hh (by have : n * i.size ≤ cap * i.size := Nat.mul_le_mul_right _ hnc; omega) (ho w fun _ => rfl).2
                  have hget : ∀ k, k < (n + m) * i.size → ((c.toList.take (q + n * i.size) ++ news ++ c.toList.drop (q + n * i.size + news.length)).toArray).getD (q + k) undef = (olds ++ news).getD k undef := by
                    intro k hk
                    rw [Nat.add_mul] at hk hcap
                    rw [list_take_drop_getD c _ _ _ (by rw [hnl]; omega)]
                    by_cases hkn : k < n * i.size
                    · rw [if_neg (by omega), ← hdet k hkn]
                      simp [List.getD, List.getElem?_append, hol, hkn]
                    · rw [if_pos (by rw [hnl]; omega)]
                      simp only [List.getD, List.getElem?_append, hol, hkn, if_false]
                      rw [show q + k - (q + n * i.size) = k - n * i.size by omega]
                  refine ⟨.slice (some ⟨b, q, none⟩) (n + m) cap, _, ?_, upd μ id (.pl b q), F, hs_take hl hid hg hm hh hsize ?_, ?_, upd_ext hid, upd_other⟩
                  · rw [rs hfit b q rfl, run_andThen_ok hst2]; rfl
                  · refine ⟨_, e, setRow_heap_same w b c e _ _ hh, by rw [hsize]; omega, fun a k ha hk => ?_, fun a k ha hk => ?_⟩
                    · have hlt : a * i.size + k < (n + m) * i.size := by
                        have : (a + 1) * i.size ≤ (n + m) * i.size := Nat.mul_le_mul_right _ ha
                        rw [Nat.add_mul] at this; omega
                      rw [hget _ hlt]
                      exact (hrow a k ha hk).mono hext fun _ h => h
                    · have hlt : a * i.size + k < (n + m) * i.size := by
                        have : (a + 1) * i.size ≤ (n + m) * i.size := Nat.mul_le_mul_right _ ha
                        rw [Nat.add_mul] at this; omega
                      rw [hget _ hlt]
                      refine hone _ ?_
                      have : a * i.size + k < (olds ++ news).length := by omega
                      rw [List.getD, List.getElem?_eq_getElem this, Option.getD_some]
                      exact List.getElem_mem _
                  · have hb : q + cap * i.size ≤ bsz (w.setRow b (c.toList.take (q + n * i.size) ++ news ++ c.toList.drop (q + n * i.size + news.length)).toArray) b := by
                      unfold bsz; rw [setRow_heap_same w b c e _ _ hh]; simp only []; rw [hsize]; exact hcs
                    have := Rep.row (w := w.setRow b (c.toList.take (q + n * i.size) ++ news ++ c.toList.drop (q + n * i.size + news.length)).toArray) (μ := upd μ id (.pl b q)) (F := F) id 0 0 (n + m) i.size b q cap (by simp [upd]) hfit (by simpa using hb)
                    simpa using this
            · have hg : cap < n + m := by omega
              have hge := grownCap_ge w (n + m) cap elem
              have hsize : (olds.toArray ++ news.toArray ++ Builtin.zeroCells z.cells (grownCap w (n + m) cap elem - (n + m))).size = grownCap w (n + m) cap elem * i.size := by
                simp only [Array.size_append, List.size_toArray, size_zeroCells, hzs, hol, hnl, ← Nat.add_mul]
                congr 1; omega
              have hF := fun b (hb : F b) => (hl.fin b hb).1
              have hl' := hl.drew
              have hget : ∀ k, k < (n + m) * i.size → (olds.toArray ++ news.toArray ++ Builtin.zeroCells z.cells (grownCap w (n + m) cap elem - (n + m))).getD k undef = (olds ++ news).getD k undef := by
                intro k hk
                have h1 : k < (olds ++ news).length := by omega
                rw [show olds.toArray ++ news.toArray = (olds ++ news).toArray by simp]
                simp only [Array.getD_eq_getD_getElem?, List.getD]
                rw [Array.getElem?_append_left (by simpa using h1)]
                simp
              refine ⟨_, _, rg hg, Out.ofDrew ?_⟩
              refine ⟨_, F, hs_alloc_drop (own := own) hl' hid (blk := .row (n + m) i.size fun a b => selD (decide (a < n)) (c1 a b) (c2 (a - n) b)) ?_, ?_, upd_ext hid, upd_other⟩
              · refine ⟨_, elem, heap_alloc_at w.drew _, by rw [hsize]; have := Nat.mul_le_mul_right i.size hge; omega, fun a k ha hk => ?_, fun a k ha hk => ?_⟩
                · have hlt : a * i.size + k < (n + m) * i.size := by
                    have : (a + 1) * i.size ≤ (n + m) * i.size := Nat.mul_le_mul_right _ ha
                    rw [Nat.add_mul] at this; omega
                  rw [Nat.zero_add, hget _ hlt]
                  exact (hrow a k ha hk).mono ((Ext.drew F w).trans (Ext.alloc F w.drew _ hF)) fun _ h => h
                · have hlt : a * i.size + k < (n + m) * i.size := by
                    have : (a + 1) * i.size ≤ (n + m) * i.size := Nat.mul_le_mul_right _ ha
                    rw [Nat.add_mul] at this; omega
                  rw [Nat.zero_add, hget _ hlt]
                  refine hone _ ?_
                  have : a * i.size + k < (olds ++ news).length := by omega
                  rw [List.getD, List.getElem?_eq_getElem this, Option.getD_some]
                  exact List.getElem_mem _
              · have hb : bsz (w.drew.alloc (.cells (olds.toArray ++ news.toArray ++ Builtin.zeroCells z.cells (grownCap w (n + m) cap elem - (n + m))) elem)) w.heap.size = grownCap w (n + m) cap elem * i.size := by
                  unfold bsz; rw [show w.heap.size = w.drew.heap.size from rfl, heap_alloc_at]; exact hsize
                have := Rep.row (w := w.drew.alloc (.cells (olds.toArray ++ news.toArray ++ Builtin.zeroCells z.cells (grownCap w (n + m) cap elem - (n + m))) elem)) (μ := upd μ id (.pl w.drew.heap.size 0)) (F := F) id 0 0 (n + m) i.size w.heap.size 0 (grownCap w (n + m) cap elem) (by simp [upd]) hge (by rw [hb]; simp)
                simpa using this
          unfold ownOf at hown
          split at hown
          · simp only [Option.some.injEq] at hown; subst hown
            have hsv := rep_x hs
            have := hnn hsv; subst this
            exact main none 0 hsv (Nat.le_refl _) fun _ => ⟨(fun a ha => by cases ha), (fun b q h => by cases h), fun _ => rfl⟩
          · rename_i len esz cell
            simp only [Option.some.injEq] at hown; subst hown
            rcases absSrcD_cases hs1 with ⟨e, c, heq, hm0⟩ | h
            · simp only [SV.d.injEq, DV.rf.injEq] at heq
              obtain ⟨rfl, rfl, rfl⟩ := heq
              have hd := rep_d hs
              generalize hdv : DV.rf len esz cell = dv at hd
              cases hd with
              | rf _ _ _ _ h hc =>
                cases hdv
                obtain ⟨a, rfl⟩ := hc
                exact main a len rfl (Nat.le_refl _) fun hf => by omega
              | _ => cases hdv
            · unfold absSrc at h; cases h
          · rename_i l base off len esz
            simp only [Option.some.injEq] at hown; subst hown
            have hs1 : absSrc hp (.row l base off len esz) i.size = some (n, c1, p1) := hs1
            cases hs with
            | rnil =>
              have := hnn rfl; subst this
              exact main none 0 rfl (Nat.le_refl _) fun _ => ⟨(fun a ha => by cases ha), (fun b q h => by cases h), fun _ => rfl⟩
            | rz _ _ _ _ b o =>
              have := hnn rfl; subst this
              exact main _ 0 rfl (Nat.le_refl _) fun _ => ⟨(fun a ha => by cases ha; rfl), (fun b q h => .inl rfl), (fun h => by cases h)⟩
            | row _ _ _ _ _ b o cap hm hc hz =>
              have := hnn rfl; subst this
              unfold absSrc at hs1
              split at hs1
              · contradiction
              · contradiction
              · contradiction
              · rename_i l' base' off' len' esz' heq
                cases heq
                split at hs1
                · rename_i n' esz'' cell' hg
                  split at hs1
                  · rename_i hk
                    obtain ⟨⟨c, e, hh, hsz', hcc, hc1⟩, hF⟩ := hl.blkAt hg hm
                    refine main _ cap rfl hc fun _ => ⟨(fun a ha => by cases ha; rfl), fun b' q' h => ?_, (fun h => by cases h)⟩
                    simp only [Option.some.injEq, Addr.mk.injEq, and_true] at h
                    obtain ⟨rfl, rfl⟩ := h
                    refine .inr ⟨_, _, o, c, e, rfl, hg, hm, hh, ?_⟩
                    unfold bsz at hz; rw [hh] at hz; simp only [] at hz
                    rw [hk.2.1, Nat.add_mul] at hz
                    rw [hk.2.1]; omega
                  · cases hs1
                · rename_i cs hg
                  split at hs1
                  · split at hs1
                    · rename_i hk
                      obtain ⟨⟨c, e, hh, hsz', hcc, hc1⟩, hF⟩ := hl.blkAt hg hm
                      refine main _ cap rfl hc fun _ => ⟨(fun a ha => by cases ha; rfl), fun b' q' h => ?_, (fun h => by cases h)⟩
                      simp only [Option.some.injEq, Addr.mk.injEq, and_true] at h
                      obtain ⟨rfl, rfl⟩ := h
                      refine .inr ⟨_, _, o, c, e, rfl, hg, hm, hh, ?_⟩
                      unfold bsz at hz; rw [hh] at hz; simp only [] at hz
                      rw [hk, Nat.add_mul] at hz
                      rw [hk]; omega
                    · cases hs1
                  · cases hs1
                · cases hs1
              · rename_i hno'; exact (hno' _ _ _ _ _ rfl).elim
          · cases hown
        · exact he.elim
      · exact he.elim
    · exact he.elim
  · exact he.elim
end
end Go.Sx
namespace Go.Sx
noncomputable section
def absMake (P : Program) (id : Nat) (hp : Heap) (t : TypeId) (len cap : SV) : Tr (SV × Heap) :=
  match P.underlying t, len, cap with
  | some (.slice elem), .d (.x (.int _ l)), .d (.x (.int _ c)) =>
    match P.info? elem with
    | some i =>
      match i.zero with
      | some z =>
        match dvsOf (svcells (ofValue z)) with
        | some ds =>
          if z.cells.size = i.size ∧ 0 < i.size ∧ 0 < i.bytes ∧ boxOK (ofValue z) = true ∧ (svcells (ofValue z)).all cellOK = true then
            .nd (0 ≤ l ∧ l ≤ c ∧ c * i.bytes ≤ 140737488355328) (.ret (.row id 0 0 l.toNat i.size, hset hp id (some (.row l.toNat i.size fun _ j => ds.getD j (.x undef)))))
          else .fail
        | none => .fail
      | none => .fail
    | none => .fail
  | _, _, _ => .fail
theorem absMake_sound {P : Program} {w : World} {μ : Mu} {F : Nat → Prop} {hp hp' : Heap} {id : Nat} {t : TypeId} {lv cv : Value} {len cap r : SV} (hl : LH w μ F hp) (hid : μ id = none) (hlv : Rep w μ F lv len) (hcv : Rep w μ F cv cap)
    (he : (absMake P id hp t len cap).ev (r, hp')) : ∃ u w', (Instr.makeSlice t lv cv).run P w = .ok u w' ∧ Out w μ F hp (· = id) hp' u r w' := by
  unfold absMake at he
  split at he
  · rename_i elem kl l kc c hu
    split at he
    · rename_i i hi
      split at he
      · rename_i z hz
        split at he
        · rename_i ds hds
          split at he
          · rename_i hk
            obtain ⟨hzs, hsz, hby, hzb, hall⟩ := hk
            obtain ⟨⟨h0, h1, h2⟩, he⟩ := he
            simp only [Tr.ev, Prod.mk.injEq] at he; obtain ⟨rfl, rfl⟩ := he
            rw [rep_x hlv, rep_x hcv]
            have hc0 : 0 ≤ c := by omega
            have hcle : c ≤ 140737488355328 := by
              have : c * 1 ≤ c * i.bytes := Int.mul_le_mul_of_nonneg_left (by omega) hc0
              omega
            have hwl : IntKind.i64.wrap l = l := IntWalk.i64_in _ (by omega)
            have hwc : IntKind.i64.wrap c = c := IntWalk.i64_in _ (by omega)
            have hbc : (i.bytes : Int) * c ≤ 140737488355328 := by rw [Int.mul_comm]; exact h2
            obtain ⟨hd1, hd2⟩ := dvsOf_spec hds
            have hzr := reps_value (rep_ofValue w μ F z) hzb
            have hti : ∀ w1, (typeInfo elem).run P w1 = .ok i w1 := fun w1 => by simp [typeInfo, hi]
            have hzv : ∀ w1, (zeroValue elem).run P w1 = .ok z w1 := fun w1 => by simp [zeroValue, typeInfo, hi, hz]
            have hts : ∀ w1, (sizeOf elem).run P w1 = .ok i.size w1 := fun w1 => run_tsz w1 (by simp [tsz, hi])
            let cells := (Array.range (c.toNat * i.size)).map fun k => z.cells[k % z.cells.size]!
            have hsize : cells.size = c.toNat * i.size := by simp [cells]
            have hrun : (Instr.makeSlice t (.int kl l) (.int kc c)).run P w = .ok (.slice (some ⟨w.heap.size, 0, none⟩) l.toNat c.toNat) (w.alloc (.cells cells elem)) := by
              unfold Instr.makeSlice
              simp only [Sem.run_bind, run_underlying hu, Result.andThen, asInt, asIntOf, Sem.run_pure, hti, hwl, hwc]
              have e1 : (decide (c < 0) || decide ((i.bytes : Int) * c > 2 ^ 48)) = false := by
                simp only [Bool.or_eq_false_iff, decide_eq_false_iff_not]; omega
              simp only [e1, Bool.false_or]
              rw [if_neg (by simp; omega)]
              simp only [Sem.run_bind, askRoom]
              have e2 : ¬ (c.toNat * i.bytes > roomBytes) := by
                have : (c.toNat * i.bytes : Nat) ≤ 140737488355328 := by
                  have : ((c.toNat * i.bytes : Nat) : Int) ≤ 140737488355328 := by rw [Int.natCast_mul, Int.toNat_of_nonneg hc0]; exact h2
                  omega
                simp only [roomBytes]; omega
              rw [if_neg e2]
              simp only [Sem.run_pure, Result.andThen, Sem.run_bind, hts]
              by_cases hn : c.toNat * i.size = 0
              · simp only [hn, if_true, Sem.run_pure, Result.andThen, Sem.run_bind]
                have : cells = #[] := by simp only [cells, hn]; simp
                rw [this]
                simp only [newRow, newObj, Sem.run_bind, Sem.run, Result.andThen, Sem.run_pure]
                rw [show ((Array.range 0).map fun k => (#[] : Array Value)[k % (#[] : Array Value).size]!) = #[] from Array.eq_empty_of_size_eq_zero (by simp)]
                rfl
              · simp only [hn, if_false, Sem.run_bind, hzv, Result.andThen, Sem.run_pure]
                rfl
            have hcell : ∀ k, k < c.toNat * i.size → cells.getD k undef = z.cells.getD (k % i.size) undef := by
              intro k hk
              have hlt : k % i.size < z.cells.size := by rw [hzs]; exact Nat.mod_lt _ hsz
              have hlt2 : k % i.size < i.size := Nat.mod_lt _ hsz
              simp [cells, Array.getD, hk, hzs, getElem!_pos, hlt, hlt2]
            refine ⟨_, _, hrun, out_alloc hl hid ?_ ?_⟩
            · have hle : l.toNat * i.size ≤ c.toNat * i.size := Nat.mul_le_mul_right _ (by omega)
              have hidx : ∀ a k, a < l.toNat → k < i.size → a * i.size + k < c.toNat * i.size ∧ (a * i.size + k) % i.size = k := by
                intro a k ha hk
                have : (a + 1) * i.size ≤ l.toNat * i.size := Nat.mul_le_mul_right _ ha
                rw [Nat.add_mul] at this
                exact ⟨by omega, by rw [Nat.mul_comm, Nat.mul_add_mod, Nat.mod_eq_of_lt hk]⟩
              refine ⟨cells, elem, heap_alloc_at w _, by rw [hsize]; omega, fun a k ha hk => ?_, fun a k ha hk => ?_⟩
              · obtain ⟨h3, h4⟩ := hidx a k ha hk
                rw [Nat.zero_add, hcell _ h3, h4]
                have := hzr.2 k (by rw [← hzr.1, hzs]; exact hk)
                rw [hd2 k (by rw [← hzr.1, hzs]; exact hk)] at this
                exact (rep_d this).mono (Ext.alloc F w _ fun b hb => (hl.fin b hb).1) fun _ h => h
              · obtain ⟨h3, h4⟩ := hidx a k ha hk
                rw [Nat.zero_add, hcell _ h3, h4]
                exact cellOK_one (hzr.2 k (by rw [← hzr.1, hzs]; exact hk)) (all_cellOK hall k (by rw [← hzr.1, hzs]; exact hk))
            · have hb : bsz (w.alloc (.cells cells elem)) w.heap.size = c.toNat * i.size := by unfold bsz; rw [heap_alloc_at]; exact hsize
              have := Rep.row (w := w.alloc (.cells cells elem)) (μ := upd μ id (.pl w.heap.size 0)) (F := F) id 0 0 l.toNat i.size w.heap.size 0 c.toNat (by simp [upd]) (by omega) (by rw [hb]; simp)
              simpa using this
          · exact he.elim
        · exact he.elim
      · exact he.elim
    · exact he.elim
  · exact he.elim
theorem hs_upd {w w' : World} {μ : Mu} {F : Nat → Prop} {hp : Heap} {l b o : Nat} {blk blk' : Blk} (hl : LH w μ F hp) (hg : hget hp l = some blk) (hm : μ l = some (.pl b o))
    (hext : ∀ G : Nat → Prop, ¬ G b → Ext G w w') (hsz : w'.heap.size = w.heap.size) (hoth : ∀ k, k ≠ b → w'.heap[k]? = w.heap[k]?) (hb : BlkAt w' μ F (.pl b o) blk') :
    HS ⟨w, Tk hp μ, F⟩ μ F (hset hp l (some blk')) w' := by
  have hF : ¬ F b := (hl.blkAt hg hm).2
  have hT : Tk hp μ b := ⟨l, blk, o, hg, hm⟩
  refine ⟨hext _ (fun h => h.2 hT), fun b hb => hb, fun b' hb' => ⟨by have := (hl.fin b' hb').1; rw [hsz]; exact this, .inl hb'⟩, ?_, ?_⟩
  · intro l' blk1 hg1
    rw [hget_hset] at hg1
    split at hg1
    · rename_i he; subst he
      simp only [Option.some.injEq] at hg1; subst hg1
      obtain ⟨q, h1, h2, h3⟩ := hl.blk l' blk hg
      rw [hm, Option.some.injEq] at h1; subst h1
      exact ⟨_, hm, h2, hb⟩
    · rename_i hne
      obtain ⟨q, h1, h2, h3⟩ := hl.blk l' blk1 hg1
      refine ⟨q, h1, h2, h3.mono (hext F hF) (fun _ h => h) (fun _ _ h => h) ?_⟩
      intro b' o' hq; subst hq
      exact hoth b' (hl.inj l' l blk1 blk b' o' b o hne hg1 hg h1 hm)
  · intro l1 l2 blk1 blk2 b1 o1 b2 o2 hne h1 h2 m1 m2
    rw [hget_hset] at h1 h2
    by_cases e1 : l1 = l
    · rw [if_neg (fun h => hne (e1.trans h.symm))] at h2
      subst e1
      exact hl.inj l1 l2 blk blk2 b1 o1 b2 o2 hne hg h2 m1 m2
    · rw [if_neg e1] at h1
      by_cases e2 : l2 = l
      · subst e2
        exact hl.inj l1 l2 blk1 blk b1 o1 b2 o2 hne h1 hg m1 m2
      · rw [if_neg e2] at h2
        exact hl.inj l1 l2 blk1 blk2 b1 o1 b2 o2 hne h1 h2 m1 m2
def absRange (P : Program) (id : Nat) (hp : Heap) (t : TypeId) (x : SV) : Tr (SV × Heap) :=
  match P.underlying t, x with
  | some .string, .d (.x (.string s)) => .ret (.ptr id 0, hset hp id (some (.iter s 0)))
  | _, _ => .fail
theorem absRange_sound {P : Program} {w : World} {μ : Mu} {F : Nat → Prop} {hp hp' : Heap} {id : Nat} {t : TypeId} {v : Value} {x r : SV} (hl : LH w μ F hp) (hid : μ id = none) (hv : Rep w μ F v x)
    (he : (absRange P id hp t x).ev (r, hp')) : ∃ u w', (Instr.range t v).run P w = .ok u w' ∧ Out w μ F hp (· = id) hp' u r w' := by
  unfold absRange at he
  split at he
  · rename_i s hu
    simp only [Tr.ev, Prod.mk.injEq] at he
    obtain ⟨rfl, rfl⟩ := he
    obtain rfl := rep_x hv
    refine ⟨.pointer (some ⟨w.heap.size, 0, none⟩), w.alloc (.stringIter s 0), ?_, ?_⟩
    · unfold Instr.range
      simp only [Sem.run_bind, run_underlying hu, Result.andThen, Sem.run_pure, run_newObj_alloc]
    · refine out_alloc hl hid ⟨rfl, heap_alloc_at _ _⟩ ?_
      exact .ptr id 0 w.heap.size 0 (by simp [upd])
  · exact he.elim
def absNext (hp : Heap) (x : SV) (isS : Bool) : Tr (SV × Heap) :=
  match x, isS with
  | .ptr l 0, true => match hget hp l with
    | some (.iter s pos) => .ite (decide (pos < s.size))
        (.ret (.tup [.d (.x (.bool true)), .d (.x (.int .i64 (pos : Int))), .d (.x (.int .i32 ((Utf8.decode s pos).1 : Int)))], hset hp l (some (.iter s (pos + (Utf8.decode s pos).2)))))
        (.ret (.tup [.d (.x (.bool false))], hp))
    | _ => .fail
  | _, _ => .fail
theorem absNext_sound {P : Program} {w : World} {μ : Mu} {F : Nat → Prop} {hp hp' : Heap} {id : Nat} {t : TypeId} {v : Value} {x r : SV} {isS : Bool} (hl : LH w μ F hp) (hv : Rep w μ F v x)
    (he : (absNext hp x isS).ev (r, hp')) : ∃ u w', (Instr.next v isS t).run P w = .ok u w' ∧ Out w μ F hp (· = id) hp' u r w' := by
  unfold absNext at he
  split at he
  · rename_i l
    split at he
    · rename_i s pos hg
      cases hv with
      | ptr _ _ b o hm =>
        obtain ⟨⟨h0, hh⟩, hF⟩ := hl.blkAt hg hm
        subst h0
        have hget : (getObj b).run P w = .ok (.stringIter s pos) w := by simp [getObj, Sem.run, hh]
        have hset' : ∀ ob : Obj, (setObj b ob).run P w = .ok () { w with heap := w.heap.setIfInBounds b ob } := by intro ob; simp [setObj, Sem.run, hh]
        rcases he with ⟨hb, he⟩ | ⟨hb, he⟩
        · simp only [decide_eq_true_eq] at hb
          simp only [Tr.ev, Prod.mk.injEq] at he
          obtain ⟨rfl, rfl⟩ := he
          refine ⟨.tuple #[.bool true, goInt pos, .int .i32 (Utf8.decode s pos).1], _, ?_, μ, F, hs_upd (w' := { w with heap := w.heap.setIfInBounds b (.stringIter s (pos + (Utf8.decode s pos).2)) }) hl hg hm ?_ (by simp) ?_ ⟨rfl, ?_⟩, ?_, fun _ _ h => h, fun _ _ => rfl⟩
          · unfold Instr.next
            simp only [Nat.add_zero, Sem.run_bind, Sem.run_pure, Result.andThen, hget]
            rw [if_pos hb]
            simp only [Sem.run_bind, Sem.run_pure, Result.andThen, hset']
          · intro G hG
            refine ⟨rfl, rfl, rfl, by simp, fun k hk => ?_, fun k => ?_⟩
            · have : k ≠ b := fun e => hG (e ▸ hk)
              simp [Array.getElem?_setIfInBounds, this.symm]
            · unfold bsz
              simp only [Array.getElem?_setIfInBounds]
              by_cases e : b = k
              · subst e
                rw [hh]; simp
              · rw [if_neg e]; exact Nat.le_refl _
          · intro k hk
            simp [Array.getElem?_setIfInBounds, hk.symm]
          · have := (Array.getElem?_eq_some_iff.1 hh).1
            simp [Array.getElem?_setIfInBounds, this]
          · refine .tup _ _ rfl fun i hi => ?_
            match i, hi with
            | 0, _ => exact .d (.x _)
            | 1, _ => exact .d (.x _)
            | 2, _ => exact .d (.x _)
        · simp only [decide_eq_false_iff_not] at hb
          simp only [Tr.ev, Prod.mk.injEq] at he
          obtain ⟨rfl, rfl⟩ := he
          refine ⟨.tuple #[.bool false], w, ?_, out_same hl ?_⟩
          · unfold Instr.next
            simp only [Nat.add_zero, Sem.run_bind, Sem.run_pure, Result.andThen, hget]
            rw [if_neg hb]
            simp only [Sem.run_pure]
          · refine .tup _ _ rfl fun i hi => ?_
            match i, hi with
            | 0, _ => exact .d (.x _)
    · exact he.elim
  · exact he.elim
def evalAll (ρ : Operand → Option SV) : List Operand → Option (List SV)
  | [] => some []
  | x :: r => match ρ x, evalAll ρ r with
    | some s, some ss => some (s :: ss)
    | _, _ => none
def evalParts (ρ : Operand → Option SV) : List (Nat × Operand) → Option (List (Nat × SV))
  | [] => some []
  | (i, x) :: r => match ρ x, evalParts ρ r with
    | some s, some ss => some ((i, s) :: ss)
    | _, _ => none
def evalOpt (ρ : Operand → Option SV) : Option Operand → Option (Option SV)
  | none => some none
  | some x => (ρ x).map some
def still (hp : Heap) (t : Tr SV) : Tr (SV × Heap) := t.bind fun s => .ret (s, hp)
def hasRoom (P : Program) (hp : Heap) (t : TypeId) (x : SV) : Bool :=
  match P.underlying t, x with
  | some (.array n elem), .ptr l off =>
    match tsz P elem, hget hp l with
    | some esz, some (.cells cs) => decide (off + n * esz ≤ cs.length)
    | some esz, some (.row m esz' _) => decide (off + n * esz ≤ m * esz')
    | _, _ => false
  | _, _ => true
def lenSV : SV → Option Nat
  | .d (.ro len _ _) => some len
  | .row _ _ _ len _ => some len
  | _ => none
def absLen (P : Program) (t : TypeId) (ty : TypeId) (x : SV) : Tr SV :=
  match P.underlying t, lenSV x with
  | some (.slice _), some n => .ret (.d (.x (.int .i64 (n : Int))))
  | _, _ => match exact x with
    | some v => absPure P (Builtin.len_ #[t] ty #[v])
    | none => .fail
def absIndexA (P : Program) (t : TypeId) (cs : List SV) (i : Int) : Tr SV :=
  match P.underlying t with
  | some (.array len elem) =>
    match shapeT P elem, tsz P elem with
    | some sh, some esz => if len * esz ≤ cs.length ∧ sh.2 ≤ esz then .nd (0 ≤ i ∧ i < len) (.ret (ofCells sh fun k => selCol ((List.range len).map fun a => cs.getD (a * esz + k) uv) i.toNat)) else .fail
    | _, _ => .fail
  | _ => .fail
theorem absIndexA_sound {P : Program} {w : World} {μ : Mu} {F : Nat → Prop} {t : TypeId} {v iv : Value} {cs : List SV} {k : IntKind} {i : Int} {r : SV} (hv : Rep w μ F v (.agg cs)) (hi : Rep w μ F iv (.d (.x (.int k i)))) (he : (absIndexA P t cs i).ev r) :
    ∃ u, (Instr.index t v iv).run P w = .ok u w ∧ Rep w μ F u r := by
  have e2 := rep_x hi
  subst e2
  unfold absIndexA at he
  split at he
  · rename_i len elem hu
    split at he
    · rename_i sh esz hs ht
      split at he
      · rename_i hk
        obtain ⟨⟨h0, h1⟩, he⟩ := he
        simp only [Tr.ev] at he; subst he
        have hsh1 := shapeT_one hs
        cases hv with
        | agg vs _ hl h =>
          have hlt : i.toNat < len := by omega
          have hm : (i.toNat + 1) * esz ≤ len * esz := Nat.mul_le_mul_right _ hlt
          rw [Nat.add_mul] at hm
          have hp : absPart P elem cs (i.toNat * esz) = some (ofCells sh fun j => cs.getD (i.toNat * esz + j) uv) := by
            unfold absPart; rw [hs]; simp only []; rw [if_pos (by omega)]
          obtain ⟨u, h2, h3⟩ := absPart_sound (P := P) hl h hp
          refine ⟨u, ?_, ?_⟩
          · unfold Instr.index
            simp only [asIntOf, Sem.run_bind, Sem.run_pure, Result.andThen, run_underlying hu, h0, h1, and_self, if_true, run_tsz w ht]
            exact h2
          · have : (ofCells sh fun k => selCol ((List.range len).map fun a => cs.getD (a * esz + k) uv) i.toNat) = ofCells sh fun j => cs.getD (i.toNat * esz + j) uv := by
              have e : ∀ k, selCol ((List.range len).map fun a => cs.getD (a * esz + k) uv) i.toNat = cs.getD (i.toNat * esz + k) uv := by
                intro k
                rw [selCol_eq _ _ (by simpa using hlt)]
                simp [List.getD, hlt]
              simp only [e]
            rw [this]; exact h3
      · exact he.elim
    · exact he.elim
  · exact he.elim
def strEq (a b : ByteArray) : Bool := a.data.toList == b.data.toList
def absBinI (P : Program) (op : BinOp) (t : TypeId) (x y : Operand) (a b : SV) : Tr SV :=
  match op, a, b with
  | .eql, .ifc _ _, .d (.x .nilIface) => (match P.underlying t with | some (.interface _) => .ret (.d (.x (.bool false))) | _ => .fail)
  | .neq, .ifc _ _, .d (.x .nilIface) => (match P.underlying t with | some (.interface _) => .ret (.d (.x (.bool true))) | _ => .fail)
  | .add, .d (.x (.string a)), .d (.x (.string b)) => .nd (a.size + b.size ≤ 9223372036854775807) (.ret (.d (.x (.string (a ++ b)))))
  | .eql, .d (.x (.string a)), .d (.x (.string b)) => .ret (.d (.x (.bool (strEq a b))))
  | .neq, .d (.x (.string a)), .d (.x (.string b)) => .ret (.d (.x (.bool (!(strEq a b)))))
  | _, _, _ => absBin P op t x y a b
theorem run_eql_iface_nil {P : Program} {t u : TypeId} {v : Value} {ms : Array (String × TypeId)} (w : World) (h : P.underlying t = some (.interface ms)) : (Op.equal t (.iface u v) .nilIface).run P w = .ok false w := by
  unfold Op.equal Op.maxDepth
  show (Op.equalIn (9999 + 1) t (.iface u v) .nilIface).run P w = _
  unfold Op.equalIn
  simp only [Sem.run_bind, run_underlying h, Result.andThen, Sem.run_pure]
theorem absBinI_sound {P : Program} {w : World} {μ : Mu} {F : Nat → Prop} {op : BinOp} {t : TypeId} {x y : Operand} {av bv : Value} {a b r : SV} (ha : Rep w μ F av a) (hb : Rep w μ F bv b) (he : (absBinI P op t x y a b).ev r) :
    ∃ u, ((do eqGuard op t x y av bv; binOp op t av bv) : Sem Value).run P w = .ok u w ∧ Rep w μ F u r := by
  unfold absBinI at he
  split at he
  · split at he
    · rename_i u s _ ms hu
      simp only [Tr.ev] at he; subst he
      have e2 := rep_x hb; subst e2
      cases ha with
      | ifc _ v _ h =>
        refine ⟨.bool false, ?_, .d (.x _)⟩
        have hg : (eqGuard .eql t x y (.iface u v) .nilIface).run P w = .ok () w := rfl
        rw [run_andThen_ok hg]
        simp only [binOp, Sem.run_bind, run_eql_iface_nil w hu, Result.andThen, Sem.run_pure]
    · exact he.elim
  · split at he
    · rename_i u s _ ms hu
      simp only [Tr.ev] at he; subst he
      have e2 := rep_x hb; subst e2
      cases ha with
      | ifc _ v _ h =>
        refine ⟨.bool true, ?_, .d (.x _)⟩
        have hg : (eqGuard .neq t x y (.iface u v) .nilIface).run P w = .ok () w := rfl
        rw [run_andThen_ok hg]
        simp only [binOp, Sem.run_bind, run_eql_iface_nil w hu, Result.andThen, Sem.run_pure, Bool.not_false]
    · exact he.elim
  · rename_i a b
    obtain ⟨hn, he⟩ := he
    simp only [Tr.ev] at he; subst he
    rw [rep_x ha, rep_x hb]
    refine ⟨_, ?_, .d (.x _)⟩
    have hg : (eqGuard .add t x y (.string a) (.string b)).run P w = .ok () w := rfl
    rw [run_andThen_ok hg]
    have hm : ¬ ((a.size + b.size : Nat) : Int) > IntKind.i64.max := by
      have : IntKind.i64.max = 9223372036854775807 := rfl
      omega
    simp only [binOp, Op.stringOp, if_neg hm, Sem.run_pure]
  · rename_i a b
    simp only [Tr.ev] at he; subst he
    rw [rep_x ha, rep_x hb]
    refine ⟨_, ?_, .d (.x _)⟩
    have hg : (eqGuard .eql t x y (.string a) (.string b)).run P w = .ok () w := rfl
    rw [run_andThen_ok hg]
    simp only [binOp, Op.stringOp, Sem.run_pure, strEq, ByteArray.toList_eq]
  · rename_i a b
    simp only [Tr.ev] at he; subst he
    rw [rep_x ha, rep_x hb]
    refine ⟨_, ?_, .d (.x _)⟩
    have hg : (eqGuard .neq t x y (.string a) (.string b)).run P w = .ok () w := rfl
    rw [run_andThen_ok hg]
    simp only [binOp, Op.stringOp, Sem.run_pure, strEq, ByteArray.toList_eq]
  · exact absBin_sound ha hb he
def isU8 : DV → Bool
  | .x (.int .u8 n) => decide (0 ≤ n ∧ n < 256)
  | _ => false
def byteD : DV → UInt8
  | .x (.int .u8 n) => UInt8.ofNat n.toNat
  | _ => 0
def strOf (n : Nat) (cell : Nat → Nat → DV) : ByteArray := ⟨((List.range n).map fun i => byteD (cell i 0)).toArray⟩
def strCell (s : ByteArray) : Nat → Nat → DV := fun i _ => .x (.int .u8 (s.data.getD i 0).toNat)
def isBytes (P : Program) (t : TypeId) : Option TypeId := match P.underlying t with
  | some (.slice e) => (match P.underlying e with | some (.int .u8) => some e | _ => none)
  | _ => none
def isStr (P : Program) (t : TypeId) : Bool := match P.underlying t with
  | some .string => true
  | _ => false
def isRowSV : SV → Bool
  | .d (.ro ..) => true
  | .row .. => true
  | _ => false
theorem slice_of {w : World} {μ : Mu} {F : Nat → Prop} {v : Value} {s : SV} (h : Rep w μ F v s) (hs : isRowSV s = true) : v = .slice none 0 0 ∨ ∃ a len cap, v = .slice (some a) len cap := by
  cases h with
  | d h => cases h with
    | nil => exact .inl rfl
    | z a cap => exact .inr ⟨_, _, _, rfl⟩
    | ro => exact .inr ⟨_, _, _, rfl⟩
    | _ => cases hs
  | rnil => exact .inl rfl
  | rz => exact .inr ⟨_, _, _, rfl⟩
  | row => exact .inr ⟨_, _, _, rfl⟩
  | _ => cases hs
def absConv (P : Program) (hp : Heap) (src dst : TypeId) (s : SV) : Tr (SV × Heap) :=
  match isStr P src, isBytes P dst, s with
  | true, some _, .d (.x (.string b)) => .ret (.d (.ro b.size 1 (strCell b)), hp)
  | _, _, _ => match isBytes P src, isStr P dst with
    | some _, true => (match absSrc hp s 1 with
      | some (n, cell, p) => if isRowSV s = true then .need p (.nd (∀ i, i < n → isU8 (cell i 0) = true) (.ret (.d (.x (.string (strOf n cell))), hp))) else .fail
      | none => .fail)
    | _, _ => match exact s with
      | some v => still hp (absPure P (convert src dst v))
      | none => .fail
theorem absConv_quiet {P : Program} {hp hp' : Heap} {src dst : TypeId} {s r : SV} (he : (absConv P hp src dst s).ev (r, hp')) : hp' = hp := by
  unfold absConv at he
  split at he
  · simp only [Tr.ev, Prod.mk.injEq] at he; exact he.2
  · split at he
    · split at he
      · split at he
        · have := he.2.2; simp only [Tr.ev, Prod.mk.injEq] at this; exact this.2
        · exact he.elim
      · exact he.elim
    · split at he
      · obtain ⟨r0, _, h2⟩ := Tr.ev_bind he
        simp only [Tr.ev, Prod.mk.injEq] at h2
        exact h2.2
      · exact he.elim
theorem isBytes_spec {P : Program} {t e : TypeId} (h : isBytes P t = some e) : P.underlying t = some (.slice e) ∧ P.underlying e = some (.int .u8) := by
  unfold isBytes at h
  split at h
  · rename_i e' hu
    split at h
    · rename_i he
      simp only [Option.some.injEq] at h; subst h
      exact ⟨hu, he⟩
    · cases h
  · cases h
theorem isStr_spec {P : Program} {t : TypeId} (h : isStr P t = true) : P.underlying t = some .string := by
  unfold isStr at h
  split at h
  · assumption
  · cases h
theorem hs_kept {w w' : World} {μ : Mu} {F : Nat → Prop} {hp : Heap} (hl : LH w μ F hp) (hos : w'.os = w.os) (htp : w'.tape = w.tape) (hout : w'.output = w.output) (hsz : w'.heap.size = w.heap.size + 1) (hold : ∀ b, b < w.heap.size → w'.heap[b]? = w.heap[b]?) :
    HS ⟨w, Tk hp μ, F⟩ μ (fun b => F b ∨ b = w.heap.size) hp w' := by
  have hb : ∀ b, bsz w b ≤ bsz w' b := by
    intro b
    by_cases h : b < w.heap.size
    · unfold bsz; rw [hold b h]; exact Nat.le_refl _
    · have : w.heap[b]? = none := by simp; omega
      simp [bsz, this]
  have hF : ∀ b, F b → b < w.heap.size := fun b h => (hl.fin b h).1
  have hext : Ext F w w' := ⟨hos, htp, hout, by omega, fun b h => hold b (hF b h), hb⟩
  refine ⟨⟨hos, htp, hout, by show w.heap.size ≤ w'.heap.size; omega, fun b h => hold b h.1, hb⟩, fun b h => .inl h, fun b h => ?_, fun l blk hg => ?_, hl.inj⟩
  · rcases h with h | rfl
    · exact ⟨by have := hF b h; rw [hsz]; exact Nat.lt_succ_of_lt this, .inl h⟩
    · exact ⟨by rw [hsz]; exact Nat.lt_succ_self _, .inr (.inr (Nat.le_refl _))⟩
  · obtain ⟨q, h1, h2, h3⟩ := hl.blk l blk hg
    refine ⟨q, h1, ?_, h3.mono hext (fun b h => .inl h) (fun _ _ h => h) fun b o hq => ?_⟩
    · cases q with
      | nil => trivial
      | pl b o =>
        refine ⟨fun h => ?_, h2.2⟩
        rcases h with h | h
        · exact h2.1 h
        · have := h3.lt; omega
    · subst hq; exact hold b h3.lt
theorem isU8_spec {d : DV} (h : isU8 d = true) : ∃ n : Nat, n < 256 ∧ d = .x (.int .u8 n) ∧ byteD d = UInt8.ofNat n := by
  unfold isU8 at h
  split at h
  · rename_i n
    have h := of_decide_eq_true h
    refine ⟨n.toNat, by omega, by rw [show (n.toNat : Int) = n by omega], rfl⟩
  · cases h
theorem absConv_sound {P : Program} {w : World} {μ : Mu} {F : Nat → Prop} {hp hp' : Heap} {src dst : TypeId} {v : Value} {s r : SV} (hl : LH w μ F hp) (hx : Rep w μ F v s) (he : (absConv P hp src dst s).ev (r, hp')) :
    ∃ u w', (convert src dst v).run P w = .ok u w' ∧ Out w μ F hp (fun _ => False) hp' u r w' := by
  unfold absConv at he
  split at he
  · rename_i e b hs hd
    simp only [Tr.ev, Prod.mk.injEq] at he; obtain ⟨rfl, rfl⟩ := he
    have e1 := rep_x hx; subst e1
    obtain ⟨d1, d2⟩ := isBytes_spec hd
    refine ⟨_, _, Lib.run_convert_string_bytes w src dst e b (isStr_spec hs) d1 d2, μ, _, hs_kept (w' := Lib.bytesWorld w e b) hl rfl rfl rfl (Lib.bytesWorld_size w e b) (fun k hk => Lib.bytesWorld_at_old w e b k hk), ?_, fun _ _ h => h, fun _ _ => rfl⟩
    refine .d (.ro _ 0 _ _ 1 _ (fun i _ => .int .u8 (b.data.getD i 0).toNat) (fun _ => .inr rfl) ?_ (fun i j hi hj => ?_) (fun i j hi hj => rfl) fun i j hi hj => .x _)
    · have := grownCap_ge w b.size 0 e; omega
    · have hi' : i < b.size := hi
      obtain rfl : j = 0 := by omega
      have := Lib.bytesWorld_cell w e b i hi'
      rw [show 0 + (i * 1 + 0) = i by omega, this]
      have hi2 : i < b.data.size := hi'
      have e3 : b.data.toList.getD i 0 = b.data.getD i 0 := by simp [Array.getD_eq_getD_getElem?, List.getD]
      rw [e3]
  · split at he
    · rename_i e hs hd
      obtain ⟨s1, s2⟩ := isBytes_spec hs
      split at he
      · rename_i n cell p hsrc
        split at he
        rotate_left
        · exact he.elim
        rename_i hrow
        obtain ⟨hp0, hu, he⟩ := he
        simp only [Tr.ev, Prod.mk.injEq] at he; obtain ⟨rfl, rfl⟩ := he
        obtain ⟨news, n1, n2, n3, n4⟩ := absSrc_sound (P := P) hl hx hsrc hp0
        obtain ⟨h1, h2⟩ := n2 w fun _ => rfl
        have hnews : news = ((List.range n).map fun i => (byteD (cell i 0)).toNat).map fun k : Nat => Value.int .u8 (k : Int) := by
          refine List.ext_getElem? fun i => ?_
          by_cases hi : i < n
          · obtain ⟨m, m1, m2, m3⟩ := isU8_spec (hu i hi)
            have h3 := n3 i 0 hi (by omega)
            rw [m2] at h3
            have hlt : i < news.length := by omega
            have h4 : news.getD (i * 1 + 0) undef = .int .u8 m := by
              generalize news.getD (i * 1 + 0) undef = q at h3
              cases h3; rfl
            have h5 : news[i]? = some (.int .u8 m) := by
              rw [show i * 1 + 0 = i by omega, List.getD, List.getElem?_eq_getElem hlt, Option.getD_some] at h4
              rw [List.getElem?_eq_getElem hlt, h4]
            rw [h5]
            simp only [List.getElem?_map, List.getElem?_range hi, Option.map_some, m3]
            have : (UInt8.ofNat m).toNat = m := by simp [UInt8.toNat_ofNat']; omega
            rw [this]
          · have : news[i]? = none := by simp; omega
            rw [this]
            symm
            simp; omega
        have hfold := foldl_push_byteCells ((List.range n).map fun i => byteD (cell i 0)) ByteArray.empty
        rw [List.map_map] at hfold
        have hn1 : news.toArray = (((List.range n).map ((fun b : UInt8 => (b.toNat : Int)) ∘ fun i => byteD (cell i 0))).map (Value.int .u8)).toArray := by
          rw [hnews, List.map_map, List.map_map]; rfl
        refine ⟨.string (strOf n cell), w, ?_, out_same hl (.d (.x _))⟩
        rcases slice_of hx hrow with rfl | ⟨a, len, cap, rfl⟩
        · have h0 : n = 0 := by simpa [Builtin.lenOf] using h1.symm
          subst h0
          rw [run_convert_bytes_string w src dst e none 0 0 s1 s2 (isStr_spec hd)]
          simp only [Conv.bytesToString, Sem.run_pure, strOf]
          rfl
        · have h0 : len = n := by simpa [Builtin.lenOf] using h1
          subst h0
          rw [run_convert_bytes_string w src dst e (some a) len cap s1 s2 (isStr_spec hd)]
          simp only [Builtin.firstCells, Nat.mul_one] at h2
          rw [hn1] at h2
          rw [run_bytesToString w a len cap _ h2, hfold]
          have he0 : ByteArray.empty.data = #[] := rfl
          rw [he0]
          simp [strOf]
      · exact he.elim
    · split at he
      · rename_i u hu
        have := exact_spec hu hx; subst this
        obtain ⟨r0, h1, h2⟩ := Tr.ev_bind he
        simp only [Tr.ev, Prod.mk.injEq] at h2
        obtain ⟨rfl, rfl⟩ := h2
        obtain ⟨q, h3, h4⟩ := absPure_sound (w := w) (μ := μ) (F := F) h1
        exact ⟨q, w, h3, out_same hl h4⟩
      · exact he.elim
def absOp (P : Program) (id : Nat) (hp : Heap) (ρ : Operand → Option SV) (o : Oper) : Tr (SV × Heap) :=
  match o.op with
  | .move x | .assign x => match ρ x with | some s => .ret (s, hp) | none => .fail
  | .alloc t => absAlloc P id hp t
  | .box _ x => match ρ x with | some s => absBox id hp s | none => .fail
  | .build t ps => match evalParts ρ ps.toList with | some ss => still hp (absBuild P t ss) | none => .fail
  | .buildSlice t len ps => match evalParts ρ ps.toList with | some ss => absBuildSlice P id hp t len ss | none => .fail
  | .load t a => match ρ a with | some p => still hp (absLoad P hp t p) | none => .fail
  | .store t a x => match ρ a, ρ x with | some p, some s => (absStore P hp t p s).bind fun h => .ret (uv, h) | _, _ => .fail
  | .nilCheck x => match ρ x with
    | some (.ptr l off) => .ret (.ptr l off, hp)
    | some (.pix l b n e i j) => .ret (.pix l b n e i j, hp)
    | some (.rop n c) => .ret (.rop n c, hp)
    | some (.fn (.func f) a b) => .ret (.fn (.func f) a b, hp)
    | _ => .fail
  | .binOp op t x y _ => match ρ x, ρ y with | some a, some b => still hp (absBinI P op t x y a b) | _, _ => .fail
  | .unOp op _ x => match (ρ x).bind exact with | some v => still hp (absPure P (Op.unary op v)) | none => .fail
  | .convert src dst x => match ρ x with | some s => absConv P hp src dst s | none => .fail
  | .makeFunc fn fs cs => match evalAll ρ fs.toList, evalAll ρ cs.toList with | some a, some b => .ret (.fn fn a b, hp) | _, _ => .fail
  | .makeSlice t l c => match ρ l, ρ c with | some a, some b => absMake P id hp t a b | _, _ => .fail
  | .slice t x lo hi mx => match ρ x, evalOpt ρ lo, evalOpt ρ hi, mx with
    | some s, some a, some b, none => if hasRoom P hp t s then still hp (absSlice P t s a b) else .fail
    | some s, some none, some (some b), some m => match ρ m with
      | some c => still hp (absSlice3 P t s b c)
      | none => .fail
    | _, _, _, _ => .fail
  | .fieldAddr t x f => match ρ x with | some p => still hp (absFieldAddr P t p f) | none => .fail
  | .field t x f => match ρ x with | some s => still hp (absField P t s f) | none => .fail
  | .indexAddr t x i => match ρ x, ρ i with | some s, some j => still hp (absIndexAddr P hp t s j) | _, _ => .fail
  | .index t x i => match ρ x with
   | some (.agg cs) => match ρ i with
    | some (.d (.x (.int _ n))) => still hp (absIndexA P t cs n)
    | _ => .fail
   | _ => match (ρ x).bind exact, ρ i with
    | some (.string s), some (.d (.x (.int _ n))) => if (match P.underlying t with | some .string => true | _ => false) then .nd (0 ≤ n ∧ n < s.size) (.ret (.d (.x (.int .u8 (s.data.getD n.toNat 0).toNat)), hp)) else .fail
    | _, _ => .fail
  | .range t x => match ρ x with | some s => absRange P id hp t s | none => .fail
  | .next x b => match ρ x with | some s => absNext hp s b | none => .fail
  | .extract x i => match ρ x with | some (.tup vs) => (match vs[i]? with | some s => .ret (s, hp) | none => .fail) | _ => .fail
  | .call c => match c.callee, c.args.toList, c.argTypes.toList with
    | .builtin .len, [x], [t] => match ρ x with | some s => still hp (absLen P t o.type s) | none => .fail
    | .builtin .append, [x, y], [t, u] => match ρ x, ρ y with | some s, some r => absAppend P id hp t u s r | _, _ => .fail
    | .builtin .max, [x, y], ts => match (ρ x).bind exact, (ρ y).bind exact with | some u, some v => still hp (absPure P (Builtin.max_ ts.toArray o.type #[u, v])) | _, _ => .fail
    | .builtin .min, [x, y], ts => match (ρ x).bind exact, (ρ y).bind exact with | some u, some v => still hp (absPure P (Builtin.min_ ts.toArray o.type #[u, v])) | _, _ => .fail
    | _, _, _ => .fail
  | _ => .fail
def quietOp : Op → Bool
  | .alloc _ | .box _ _ | .buildSlice _ _ _ | .store _ _ _ | .makeSlice _ _ _ | .range _ _ | .next _ _ => false
  | .call c => (match c.callee with | .builtin .append => false | _ => true)
  | _ => true
def NewId (id : Nat) (o : Oper) (l : Nat) : Prop := l = id ∧ quietOp o.op = false
theorem Out.nar {w : World} {μ : Mu} {F : Nat → Prop} {hp hp' : Heap} {id : Nat} {o : Oper} {v : Value} {s : SV} {w' : World} (h : Out w μ F hp (· = id) hp' v s w') (hq : quietOp o.op = false) : Out w μ F hp (NewId id o) hp' v s w' := by
  obtain ⟨μ', F', h1, h2, h3, h4⟩ := h
  exact ⟨μ', F', h1, h2, h3, fun l hl => h4 l fun e => hl ⟨e, hq⟩⟩
def OpOut (P : Program) (w : World) (μ : Mu) (F : Nat → Prop) (hp : Heap) (N : Nat → Prop) (hp' : Heap) (s : SV) (r : Result Next) : Prop :=
  ∃ w', (∃ v, r = .ok (.value v) w' ∧ Out w μ F hp N hp' v s w') ∨ (r = .ok .skip w' ∧ Out w μ F hp N hp' undef s w')
theorem OpOut.value {P : Program} {w : World} {μ : Mu} {F : Nat → Prop} {hp hp' : Heap} {N : Nat → Prop} {s : SV} {x : Sem Value} {u : Value} {w' : World} (h : x.run P w = .ok u w') (ho : Out w μ F hp N hp' u s w') :
    OpOut P w μ F hp N hp' s ((do pure (.value (← x)) : Sem Next).run P w) := ⟨w', .inl ⟨u, by simp only [Sem.run_bind, h, Result.andThen, Sem.run_pure], ho⟩⟩
theorem opOut_still {P : Program} {w : World} {μ : Mu} {F : Nat → Prop} {hp hp' : Heap} {N : Nat → Prop} {t : Tr SV} {s : SV} {x : Sem Value} (hl : LH w μ F hp) (he : (still hp t).ev (s, hp')) (h : ∀ r, t.ev r → ∃ u, x.run P w = .ok u w ∧ Rep w μ F u r) :
    OpOut P w μ F hp N hp' s ((do pure (.value (← x)) : Sem Next).run P w) := by
  obtain ⟨r, h1, h2⟩ := Tr.ev_bind he
  simp only [Tr.ev, Prod.mk.injEq] at h2
  obtain ⟨rfl, rfl⟩ := h2
  obtain ⟨u, h3, h4⟩ := h s h1
  exact .value h3 (out_same hl h4)
theorem evalAll_spec {w : World} {μ : Mu} {F : Nat → Prop} {ρ : Operand → Option SV} {σ : Operand → Value} (hρ : ∀ x s, ρ x = some s → Rep w μ F (σ x) s) : ∀ {xs : List Operand} {ss : List SV}, evalAll ρ xs = some ss →
    xs.length = ss.length ∧ ∀ i, i < ss.length → Rep w μ F ((xs.map σ).getD i undef) (ss.getD i uv)
  | [], ss, h => by simp only [evalAll, Option.some.injEq] at h; subst h; simp
  | x :: r, ss, h => by
    simp only [evalAll] at h
    split at h
    · rename_i s ss' h1 h2
      simp only [Option.some.injEq] at h; subst h
      obtain ⟨h3, h4⟩ := evalAll_spec hρ h2
      refine ⟨by simp [h3], fun i hi => ?_⟩
      cases i with
      | zero => simpa using hρ x s h1
      | succ i => simpa using h4 i (by simpa using hi)
    · cases h
theorem evalParts_spec {w : World} {μ : Mu} {F : Nat → Prop} {ρ : Operand → Option SV} {σ : Operand → Value} (hρ : ∀ x s, ρ x = some s → Rep w μ F (σ x) s) : ∀ {xs : List (Nat × Operand)} {ss : List (Nat × SV)}, evalParts ρ xs = some ss →
    RepsP w μ F (xs.map fun p => (p.1, σ p.2)) ss
  | [], ss, h => by simp only [evalParts, Option.some.injEq] at h; subst h; exact .nil
  | (i, x) :: r, ss, h => by
    simp only [evalParts] at h
    split at h
    · rename_i s ss' h1 h2
      simp only [Option.some.injEq] at h; subst h
      exact .cons i (hρ x s h1) (evalParts_spec hρ h2)
    · cases h
theorem evalOpt_spec {w : World} {μ : Mu} {F : Nat → Prop} {ρ : Operand → Option SV} {σ : Operand → Value} (hρ : ∀ x s, ρ x = some s → Rep w μ F (σ x) s) {x : Option Operand} {s : Option SV} (h : evalOpt ρ x = some s) :
    (∀ v, x.map σ = some v → ∃ r, s = some r ∧ Rep w μ F v r) ∧ (x.map σ = none → s = none) := by
  cases x with
  | none => simp only [evalOpt, Option.some.injEq] at h; subst h; simp
  | some y =>
    simp only [evalOpt, Option.map_eq_some_iff] at h
    obtain ⟨r, h1, rfl⟩ := h
    refine ⟨fun v hv => ?_, fun hv => by simp at hv⟩
    simp only [Option.map_some, Option.some.injEq] at hv; subst hv
    exact ⟨r, rfl, hρ y r h1⟩
theorem bind_exact {w : World} {μ : Mu} {F : Nat → Prop} {ρ : Operand → Option SV} {σ : Operand → Value} (hρ : ∀ x s, ρ x = some s → Rep w μ F (σ x) s) {x : Operand} {v : Value} (h : (ρ x).bind exact = some v) : σ x = v := by
  cases h1 : ρ x with
  | none => simp [h1] at h
  | some s => simp only [h1, Option.bind_some] at h; exact exact_spec h (hρ x s h1)
theorem hasRoom_spec {P : Program} {w : World} {μ : Mu} {F : Nat → Prop} {hp : Heap} {t : TypeId} {x : SV} (hl : LH w μ F hp) (h : hasRoom P hp t x = true) :
    ∀ m off, x = .ptr m off → ∀ n elem esz, P.underlying t = some (.array n elem) → tsz P elem = some esz → ∀ b o, μ m = some (.pl b o) → o + off + n * esz ≤ bsz w b := by
  intro m off hx n elem esz hu hs b o hm
  subst hx
  unfold hasRoom at h
  rw [hu] at h
  simp only [hs] at h
  split at h
  · rename_i e cs h1 hg
    obtain ⟨⟨c, ee, hh, hsz, _⟩, _⟩ := hl.blkAt hg hm
    simp only [Option.some.injEq] at h1; subst h1
    have := of_decide_eq_true h
    unfold bsz; rw [hh]; simp only []; omega
  · rename_i e k e' cell h1 hg
    obtain ⟨⟨c, ee, hh, hsz, _⟩, _⟩ := hl.blkAt hg hm
    simp only [Option.some.injEq] at h1; subst h1
    have := of_decide_eq_true h
    unfold bsz; rw [hh]; simp only []; omega
  · cases h
theorem absLen_sound {P : Program} {w : World} {μ : Mu} {F : Nat → Prop} {t ty : TypeId} {v : Value} {x r : SV} (hx : Rep w μ F v x) (he : (absLen P t ty x).ev r) : ∃ u, (Builtin.len_ #[t] ty #[v]).run P w = .ok u w ∧ Rep w μ F u r := by
  unfold absLen at he
  split at he
  · rename_i e n hu hn
    simp only [Tr.ev] at he; subst he
    have key : ∀ b c, v = .slice b n c → (Builtin.len_ #[t] ty #[v]).run P w = .ok (.int .i64 (n : Int)) w := by
      intro b c hv; subst hv
      unfold Builtin.len_
      simp only [List.getElem?_toArray, List.getElem?_cons_zero, Sem.run_bind, run_underlying hu, Result.andThen, Sem.run_pure]
      rfl
    refine ⟨_, ?_, .d (.x _)⟩
    unfold lenSV at hn
    split at hn
    · simp only [Option.some.injEq] at hn; subst hn
      have hd := rep_d hx
      generalize hdv : DV.ro _ _ _ = dv at hd
      cases hd with
      | x => cases hdv
      | rf => cases hdv
      | nil => cases hdv; exact key _ _ rfl
      | z => cases hdv; exact key _ _ rfl
      | ro => cases hdv; exact key _ _ rfl
    · simp only [Option.some.injEq] at hn; subst hn
      cases hx with
      | rnil => exact key _ _ rfl
      | rz => exact key _ _ rfl
      | row => exact key _ _ rfl
    · cases hn
  · split at he
    · rename_i u hu
      rw [exact_spec hu hx]
      exact absPure_sound he
    · exact he.elim
theorem absOp_sound {P : Program} {w : World} {μ : Mu} {F : Nat → Prop} {hp hp' : Heap} {id : Nat} {ρ : Operand → Option SV} {σ : Operand → Value} {o : Oper} {s : SV} (hl : LH w μ F hp) (hid : μ id = none)
    (hρ : ∀ x s, ρ x = some s → Rep w μ F (σ x) s) (he : (absOp P id hp ρ o).ev (s, hp')) : OpOut P w μ F hp (NewId id o) hp' s ((execOp σ o).run P w) := by
  unfold absOp at he
  unfold execOp
  split at he
  all_goals first | (rename_i hop; have hq0 := congrArg quietOp hop; rw [hop]; simp only []) | exact he.elim
  · split at he
    · rename_i r hr
      simp only [Tr.ev, Prod.mk.injEq] at he; obtain ⟨rfl, rfl⟩ := he
      exact ⟨w, .inl ⟨_, rfl, out_same hl (hρ _ _ hr)⟩⟩
    · exact he.elim
  · split at he
    · rename_i r hr
      simp only [Tr.ev, Prod.mk.injEq] at he; obtain ⟨rfl, rfl⟩ := he
      exact ⟨w, .inl ⟨_, rfl, out_same hl (hρ _ _ hr)⟩⟩
    · exact he.elim
  · obtain ⟨u, w', h1, h2⟩ := absAlloc_sound hl hid he
    exact .value h1 (h2.nar hq0)
  · split at he
    · rename_i r hr
      obtain ⟨u, w', h1, h2⟩ := absBox_sound hl hid (hρ _ _ hr) he
      exact .value h1 (h2.nar hq0)
    · exact he.elim
  · split at he
    · rename_i ss hss
      refine opOut_still hl he fun r hr => absBuild_sound ?_ hr
      rw [Array.toList_map]; exact evalParts_spec hρ hss
    · exact he.elim
  · split at he
    · rename_i ss hss
      obtain ⟨u, w', h1, h2⟩ := absBuildSlice_sound hl hid (by rw [Array.toList_map]; exact evalParts_spec hρ hss) he
      exact .value h1 (h2.nar hq0)
    · exact he.elim
  · split at he
    · rename_i p hp0
      exact opOut_still hl he fun r hr => absLoad_sound hl (hρ _ _ hp0) hr
    · exact he.elim
  · split at he
    · rename_i p s0 hp0 hs0
      obtain ⟨h, h1, h2⟩ := Tr.ev_bind he
      simp only [Tr.ev, Prod.mk.injEq] at h2
      obtain ⟨rfl, rfl⟩ := h2
      obtain ⟨w', h3, h4⟩ := absStore_sound hl (hρ _ _ hp0) (hρ _ _ hs0) h1
      exact ⟨w', .inr ⟨by simp only [Sem.run_bind, h3, Result.andThen, Sem.run_pure], μ, F, h4, .d (.x _), fun _ _ h => h, fun _ _ => rfl⟩⟩
    · exact he.elim
  · split at he
    · rename_i l off hr
      simp only [Tr.ev, Prod.mk.injEq] at he; obtain ⟨rfl, rfl⟩ := he
      have := hρ _ _ hr
      generalize σ _ = v at this
      cases this with
      | ptr _ _ b o' hm => exact ⟨w, .inl ⟨_, rfl, out_same hl (.ptr _ _ _ _ hm)⟩⟩
    · rename_i l b0 n e i j hr
      simp only [Tr.ev, Prod.mk.injEq] at he; obtain ⟨rfl, rfl⟩ := he
      have := hρ _ _ hr
      generalize σ _ = v at this
      cases this with
      | pix _ _ _ _ _ _ b o' hm => exact ⟨w, .inl ⟨_, rfl, out_same hl (.pix _ _ _ _ _ _ _ _ hm)⟩⟩
    · rename_i n c hr
      simp only [Tr.ev, Prod.mk.injEq] at he; obtain ⟨rfl, rfl⟩ := he
      have := hρ _ _ hr
      generalize σ _ = v at this
      cases this with
      | rop b o' _ _ f hF h1 h2 h3 => exact ⟨w, .inl ⟨_, rfl, out_same hl (.rop _ _ _ _ f hF h1 h2 h3)⟩⟩
    · rename_i f a b hr
      simp only [Tr.ev, Prod.mk.injEq] at he; obtain ⟨rfl, rfl⟩ := he
      have := hρ _ _ hr
      generalize σ _ = v at this
      cases this with
      | fn _ fs cs _ _ h1 h2 h3 h4 => exact ⟨w, .inl ⟨_, rfl, out_same hl (.fn _ _ _ _ _ h1 h2 h3 h4)⟩⟩
    · exact he.elim
  · split at he
    · rename_i a b ha hb
      exact opOut_still hl he fun r hr => absBinI_sound (hρ _ _ ha) (hρ _ _ hb) hr
    · exact he.elim
  · split at he
    · rename_i v hv
      rw [bind_exact hρ hv]
      exact opOut_still hl he fun r hr => absPure_sound hr
    · exact he.elim
  · split at he
    · rename_i s0 hs0
      obtain ⟨u, w', h1, μ', F', h2, h3, h4, h5⟩ := absConv_sound hl (hρ _ _ hs0) he
      exact .value h1 ⟨μ', F', h2, h3, h4, fun l _ => h5 l fun h => h⟩
    · exact he.elim
  · split at he
    · rename_i a b ha hb
      simp only [Tr.ev, Prod.mk.injEq] at he; obtain ⟨rfl, rfl⟩ := he
      obtain ⟨h1, h2⟩ := evalAll_spec hρ ha
      obtain ⟨h3, h4⟩ := evalAll_spec hρ hb
      refine ⟨w, .inl ⟨_, rfl, out_same hl (.fn _ _ _ _ _ (by simpa using h1) (by simpa using h3) (fun i hi => ?_) (fun i hi => ?_))⟩⟩
      · have := h2 i hi
        simpa [Array.getD_eq_getD_getElem?, List.getD] using this
      · have := h4 i hi
        simpa [Array.getD_eq_getD_getElem?, List.getD] using this
    · exact he.elim
  · split at he
    · rename_i a b ha hb
      obtain ⟨u, w', h1, h2⟩ := absMake_sound hl hid (hρ _ _ ha) (hρ _ _ hb) he
      exact .value h1 (h2.nar hq0)
    · exact he.elim
  · split at he
    · rename_i s0 a b hs0 ha hb
      split at he
      · rename_i hroom
        obtain ⟨h1, h2⟩ := evalOpt_spec hρ ha
        obtain ⟨h3, h4⟩ := evalOpt_spec hρ hb
        exact opOut_still hl he fun r hr => absSlice_sound hl h1 h3 h2 h4 (hρ _ _ hs0) (hasRoom_spec hl hroom) hr
      · exact he.elim
    · rename_i s0 b m hs0 ha hb
      split at he
      · rename_i c hc
        obtain ⟨h1, h2⟩ := evalOpt_spec hρ ha
        obtain ⟨h3, h4⟩ := evalOpt_spec hρ hb
        rename_i lo hi _ _ _ _ _
        have e1 : Option.map σ lo = none := by
          cases h : Option.map σ lo with
          | none => rfl
          | some v => obtain ⟨r, hr, _⟩ := h1 v h; cases hr
        obtain ⟨hv, e2, h5⟩ : ∃ hv, Option.map σ hi = some hv ∧ Rep w μ F hv b := by
          cases h : Option.map σ hi with
          | none => cases h4 h
          | some v => obtain ⟨r, hr, h6⟩ := h3 v h; simp only [Option.some.injEq] at hr; subst hr; exact ⟨v, rfl, h6⟩
        rw [e1, e2, Option.map_some]
        exact opOut_still hl he fun r hr => absSlice3_sound (hρ _ _ hs0) h5 (hρ _ _ hc) hr
      · exact he.elim
    · exact he.elim
  · split at he
    · rename_i p hp0
      exact opOut_still hl he fun r hr => absFieldAddr_sound (hρ _ _ hp0) hr
    · exact he.elim
  · split at he
    · rename_i p hp0
      exact opOut_still hl he fun r hr => absField_sound (hρ _ _ hp0) hr
    · exact he.elim
  · split at he
    · rename_i s0 j hs0 hj
      exact opOut_still hl he fun r hr => absIndexAddr_sound (hρ _ _ hs0) (hρ _ _ hj) hr
    · exact he.elim
  · rename_i t xo io
    split at he
    · rename_i cs0 hcs0
      split at he
      · rename_i k n hn
        exact opOut_still hl he fun r hr => absIndexA_sound (hρ _ _ hcs0) (hρ _ _ hn) hr
      · exact he.elim
    split at he
    · rename_i s0 k n hs0 hn
      split at he
      · rename_i hu
        obtain ⟨⟨h0, h1⟩, he⟩ := he
        simp only [Tr.ev, Prod.mk.injEq] at he; obtain ⟨rfl, rfl⟩ := he
        have hst : P.underlying t = some .string := by first | exact hu | (revert hu; split <;> first | (intro _; assumption) | (intro h; cases h))
        have hlt : n.toNat < s0.size := by omega
        have e1 := bind_exact hρ hs0
        have e2 := rep_x (hρ _ _ hn)
        refine .value (u := .int .u8 (s0.data.getD n.toNat 0).toNat) ?_ (out_same hl (.d (.x _)))
        rw [e1, e2]
        unfold Instr.index
        simp only [asIntOf, Sem.run_bind, Sem.run_pure, Result.andThen, run_underlying hst, h0, if_true]
        have hlt' : n.toNat < s0.data.size := hlt
        have : s0[n.toNat]? = some (s0.data.getD n.toNat 0) := by
          rw [getElem?_pos s0 n.toNat hlt]
          simp only [Array.getD, hlt', dite_true]
          rfl
        rw [this]
        rfl
      · exact he.elim
    · exact he.elim
  · split at he
    · rename_i s0 hs0
      obtain ⟨u, w', h1, h2⟩ := absRange_sound hl hid (hρ _ _ hs0) he
      exact .value h1 (h2.nar hq0)
    · exact he.elim
  · split at he
    · rename_i s0 hs0
      obtain ⟨u, w', h1, h2⟩ := absNext_sound (id := id) (t := o.type) hl (hρ _ _ hs0) he
      exact .value h1 (h2.nar hq0)
    · exact he.elim
  · split at he
    · rename_i vs hr
      split at he
      · rename_i s0 hs0
        simp only [Tr.ev, Prod.mk.injEq] at he; obtain ⟨rfl, rfl⟩ := he
        have := hρ _ _ hr
        generalize σ _ = v at this
        cases this with
        | tup cs _ hlen hi =>
          obtain ⟨hlt, hget⟩ := List.getElem?_eq_some_iff.1 hs0
          have := hi _ hlt
          have hlt' : ‹Nat› < cs.size := by omega
          refine .value (u := cs.getD _ undef) ?_ (out_same hl (by simpa [List.getD, hs0] using this))
          unfold Instr.extract
          simp [hlen, hlt, Array.getD, Sem.run_pure]
      · exact he.elim
    · exact he.elim
  · rename_i c
    have hargs : ∀ l : List Operand, c.args.toList = l → c.args.map σ = (l.map σ).toArray := by
      intro l hl; rw [← hl]; apply Array.ext'; simp
    have htys : ∀ l : List TypeId, c.argTypes.toList = l → c.argTypes = l.toArray := by
      intro l hl; rw [← hl]
    split at he
    · rename_i x t hcal hx ht
      have hr : ∀ w, (resolve σ c o.type).run P w = .ok { target := .builtin .len #[t] o.type (c.args.map fun | .const _ => true | _ => false), args := #[σ x] } w := by
        intro w; unfold resolve; rw [hcal]; simp only [hargs _ hx, htys _ ht]; rfl
      rw [run_andThen_ok (hr w)]
      split at he
      · rename_i r hr
        exact opOut_still hl he fun r hr2 => absLen_sound (hρ _ _ hr) hr2
      · exact he.elim
    · rename_i x y t u hcal hx ht
      have hr : ∀ w, (resolve σ c o.type).run P w = .ok { target := .builtin .append #[t, u] o.type (c.args.map fun | .const _ => true | _ => false), args := #[σ x, σ y] } w := by
        intro w; unfold resolve; rw [hcal]; simp only [hargs _ hx, htys _ ht]; rfl
      rw [run_andThen_ok (hr w)]
      split at he
      · rename_i r1 r2 hr1 hr2
        obtain ⟨v, w', h1, h2⟩ := absAppend_sound (ty := o.type) hl hid (hρ _ _ hr1) (hρ _ _ hr2) he
        exact .value h1 (h2.nar (hq0.trans (by simp only [quietOp, hcal])))
      · exact he.elim
    · rename_i x y hcal hx
      have hr : ∀ w, (resolve σ c o.type).run P w = .ok { target := .builtin .max c.argTypes o.type (c.args.map fun | .const _ => true | _ => false), args := #[σ x, σ y] } w := by
        intro w; unfold resolve; rw [hcal]; simp only [hargs _ hx]; rfl
      rw [run_andThen_ok (hr w)]
      split at he
      · rename_i v1 v2 hv1 hv2
        rw [bind_exact hρ hv1, bind_exact hρ hv2, htys _ rfl]
        exact opOut_still hl he fun r hr2 => absPure_sound hr2
      · exact he.elim
    · rename_i x y hcal hx
      have hr : ∀ w, (resolve σ c o.type).run P w = .ok { target := .builtin .min c.argTypes o.type (c.args.map fun | .const _ => true | _ => false), args := #[σ x, σ y] } w := by
        intro w; unfold resolve; rw [hcal]; simp only [hargs _ hx]; rfl
      rw [run_andThen_ok (hr w)]
      split at he
      · rename_i v1 v2 hv1 hv2
        rw [bind_exact hρ hv1, bind_exact hρ hv2, htys _ rfl]
        exact opOut_still hl he fun r hr2 => absPure_sound hr2
      · exact he.elim
    · exact he.elim
end
end Go.Sx
namespace Go.Sx
noncomputable section
class Globs where
  tab : Nat → Option (Nat × (Nat → DV))
  one : Nat → Option (Option Obj → Prop)
variable [Globs]
structure GlobOK (w : World) (F : Nat → Prop) : Prop where
  tab : ∀ g n cell, Globs.tab g = some (n, cell) → ∃ f : Nat → Value, (n ≠ 0 → F g) ∧ (∀ j, j < n → w.cell? ⟨g, j, none⟩ = some (f j)) ∧ (∀ j, j < n → (f j).oneCell' = true) ∧ ∀ j, j < n → RepD w F (f j) (cell j)
  one : ∀ g Q, Globs.one g = some Q → F g ∧ Q w.heap[g]?
theorem GlobOK.mono {w w' : World} {F F' : Nat → Prop} (h : GlobOK w F) (he : Ext F w w') (hF : ∀ b, F b → F' b) : GlobOK w' F' := by
  refine ⟨fun g n cell hg => ?_, fun g Q hg => ?_⟩
  · obtain ⟨f, h1, h2, h3, h4⟩ := h.tab g n cell hg
    exact ⟨f, fun hn => hF _ (h1 hn), fun j hj => by rw [he.cell (h1 (by omega))]; exact h2 j hj, h3, fun j hj => (h4 j hj).mono he hF⟩
  · obtain ⟨h1, h2⟩ := h.one g Q hg
    exact ⟨hF _ h1, by rw [he.keep g h1]; exact h2⟩
theorem GlobOK.rep {w : World} {μ : Mu} {F : Nat → Prop} (h : GlobOK w F) {g n : Nat} {cell : Nat → DV} (hg : Globs.tab g = some (n, cell)) : Rep w μ F (.pointer (some ⟨g, 0, none⟩)) (.rop n cell) := by
  obtain ⟨f, h1, h2, h3, h4⟩ := h.tab g n cell hg
  exact .rop g 0 n cell f h1 (fun j hj => by rw [Nat.zero_add]; exact h2 j hj) h3 h4
inductive Hint where
  | nil
  | t (h : Hint)
  | f (h : Hint)
  | u (h : Hint)
  | br (l r : Hint)
  | c (n : Nat) (h : Hint)
  | run
def isRun : Hint → Bool
  | .run => true
  | _ => false
structure AS where
  tm : List TV
  hp : Heap
  next : Nat
  hint : Hint
def fNat {β : Type} (n : Nat) (k : Nat → β) : β := match n with | 0 => k 0 | m + 1 => k (m + 1)
def fV {β : Type} (v : Value) (k : Value → β) : β := match v with | .int kd e => k (.int kd e) | .bool b => k (.bool b) | v => k v
def fDV {β : Type} (d : DV) (k : DV → β) : β := match d with | .x v => fV v fun v => k (.x v) | .ro n e c => k (.ro n e c) | .rf n e c => k (.rf n e c)
def fSV1 {β : Type} (s : SV) (k : SV → β) : β := match s with | .d d => fDV d fun d => k (.d d) | .ptr l o => fNat l fun l => fNat o fun o => k (.ptr l o) | .row l b o n e => fNat l fun l => k (.row l b o n e) | s => k s
def fSVs {β : Type} : List SV → (List SV → β) → β
  | [], k => k []
  | s :: r, k => fSV1 s fun s => fSVs r fun r => k (s :: r)
def fSV {β : Type} (s : SV) (k : SV → β) : β := match s with | .agg cs => fSVs cs fun cs => k (.agg cs) | .tup cs => fSVs cs fun cs => k (.tup cs) | s => fSV1 s k
def fTV {β : Type} (tv : TV) (k : TV → β) : β := match tv with | .ok s => fSV s fun s => k (.ok s) | .tag g w s => fSV s fun s => k (.tag g w s) | tv => k tv
def fBlk {β : Type} (b : Option Blk) (k : Option Blk → β) : β := match b with | some (.cells cs) => fSVs cs fun cs => k (some (.cells cs)) | b => k b
def fHp {β : Type} : Heap → (Heap → β) → β
  | [], k => k []
  | b :: r, k => fBlk b fun b => fHp r fun r => k (b :: r)
def fSp {α β : Type} : List α → (List α → β) → β
  | [], k => k []
  | b :: r, k => fSp r fun r => k (b :: r)
def fNats {β : Type} : List Nat → (List Nat → β) → β
  | [], k => k []
  | b :: r, k => fNat b fun b => fNats r fun r => k (b :: r)
def fDl {β : Type} : Delta → (Delta → β) → β
  | [], k => k []
  | (l, b) :: r, k => fNat l fun l => fBlk b fun b => fDl r fun r => k ((l, b) :: r)
@[simp] theorem fNat_eq {β : Type} (n : Nat) (k : Nat → β) : fNat n k = k n := by cases n <;> rfl
@[simp] theorem fV_eq {β : Type} (v : Value) (k : Value → β) : fV v k = k v := by cases v <;> rfl
@[simp] theorem fDV_eq {β : Type} (v : DV) (k : DV → β) : fDV v k = k v := by cases v <;> simp [fDV]
@[simp] theorem fSV1_eq {β : Type} (v : SV) (k : SV → β) : fSV1 v k = k v := by cases v <;> simp [fSV1]
@[simp] theorem fSVs_eq {β : Type} (l : List SV) (k : List SV → β) : fSVs l k = k l := by
  induction l generalizing k with
  | nil => rfl
  | cons a r ih => simp [fSVs, ih]
@[simp] theorem fSV_eq {β : Type} (v : SV) (k : SV → β) : fSV v k = k v := by cases v <;> simp [fSV]
@[simp] theorem fTV_eq {β : Type} (v : TV) (k : TV → β) : fTV v k = k v := by cases v <;> simp [fTV]
@[simp] theorem fBlk_eq {β : Type} (v : Option Blk) (k : Option Blk → β) : fBlk v k = k v := by
  cases v with
  | none => rfl
  | some b => cases b <;> simp [fBlk]
@[simp] theorem fHp_eq {β : Type} (l : Heap) (k : Heap → β) : fHp l k = k l := by
  induction l generalizing k with
  | nil => rfl
  | cons a r ih => simp [fHp, ih]
@[simp] theorem fSp_eq {α β : Type} (l : List α) (k : List α → β) : fSp l k = k l := by
  induction l generalizing k with
  | nil => rfl
  | cons a r ih => simp [fSp, ih]
@[simp] theorem fNats_eq {β : Type} (l : List Nat) (k : List Nat → β) : fNats l k = k l := by
  induction l generalizing k with
  | nil => rfl
  | cons a r ih => simp [fNats, ih]
@[simp] theorem fDl_eq {β : Type} (l : Delta) (k : Delta → β) : fDl l k = k l := by
  induction l generalizing k with
  | nil => rfl
  | cons a r ih => obtain ⟨x, b⟩ := a; simp [fDl, ih]
def tget (tm : List TV) : Nat → TV := List.rec (motive := fun _ => Nat → TV) (fun _ => .unk) (fun a _ ih n => Nat.rec (motive := fun _ => TV) a (fun m _ => ih m) n) tm
theorem tget_def (tm : List TV) (l : Nat) : tget tm l = tm.getD l .unk := by
  induction tm generalizing l with
  | nil => rfl
  | cons a r ih =>
    cases l with
    | zero => rfl
    | succ l => simp only [List.getD_cons_succ, ← ih]; rfl
def RepT (w : World) (μ : Mu) (F : Nat → Prop) (tmps : Array Value) (v : Value) : TV → Prop
  | .unk => True
  | .lit b => v = .bool b
  | .ok s => Rep w μ F v s
  | .cnd p s => p → Rep w μ F v s
  | .tag t want s => (tmps.getD t undef = .bool want → Rep w μ F v s) ∧ (tmps.getD t undef ≠ .bool want → v = undef)
def TmOK (w : World) (μ : Mu) (F : Nat → Prop) (tm : List TV) (tmps : Array Value) : Prop := ∀ t, RepT w μ F tmps (tmps.getD t undef) (tget tm t)
theorem RepT.mono {w w' : World} {μ μ' : Mu} {F F' : Nat → Prop} (he : Ext F w w') (hF : ∀ b, F b → F' b) (hμ : ∀ l q, μ l = some q → μ' l = some q) {tmps : Array Value} {v : Value} {tv : TV} (h : RepT w μ F tmps v tv) : RepT w' μ' F' tmps v tv := by
  cases tv with
  | unk => trivial
  | lit b => exact h
  | ok s => exact Rep.mono he hF hμ h
  | cnd p s => exact fun hp => Rep.mono he hF hμ (h hp)
  | tag t want s => exact ⟨fun ht => Rep.mono he hF hμ (h.1 ht), h.2⟩
def noTag (tm : List TV) (d : Nat) : Bool := tm.all fun | .tag t _ _ => t != d | _ => true
def noTagR (l : List TV) (d : Nat) : Bool := List.rec (motive := fun _ => Bool) true (fun a _ ih => TV.rec (motive := fun _ => Bool) ih (fun _ => ih) (fun _ => ih) (fun _ _ => ih) (fun t _ _ => Bool.rec (motive := fun _ => Bool) ih false (Nat.beq t d)) a) l
theorem noTagR_eq (l : List TV) (d : Nat) : noTagR l d = noTag l d := by
  induction l with
  | nil => rfl
  | cons a r ih =>
    unfold noTag at ih ⊢
    rw [List.all_cons, ← ih]
    cases a with
    | tag t w s =>
      show (Bool.rec (noTagR r d) false (Nat.beq t d) : Bool) = (t != d && noTagR r d)
      have : (t == d) = Nat.beq t d := by
        cases h : Nat.beq t d with
        | true => have := Nat.eq_of_beq_eq_true h; simp [this]
        | false => have := Nat.ne_of_beq_eq_false h; simp [this]
      simp only [bne, this]
      cases Nat.beq t d <;> rfl
    | _ => rfl
def setR {β : Type} (l : List TV) : Nat → TV → (List TV → β) → β → β :=
  List.rec (motive := fun _ => Nat → TV → (List TV → β) → β → β) (fun _ _ _ f => f) (fun a r ih n v k f => Nat.rec (motive := fun _ => β) (k (v :: r)) (fun m _ => ih m v (fun r' => k (a :: r')) f) n) l
theorem setR_eq {β : Type} (l : List TV) (n : Nat) (v : TV) (k : List TV → β) (f : β) : setR l n v k f = if n < l.length then k (l.set n v) else f := by
  induction l generalizing n k with
  | nil => simp; rfl
  | cons a r ih =>
    cases n with
    | zero => simp; rfl
    | succ n =>
      show setR r n v (fun r' => k (a :: r')) f = _
      rw [ih]
      simp
theorem noTag_spec {tm : List TV} {d : Nat} (h : noTag tm d = true) {t g : Nat} {w : Bool} {s : SV} (ht : tget tm t = .tag g w s) : g ≠ d := by
  simp only [tget_def] at ht
  unfold noTag at h
  rw [List.all_eq_true] at h
  by_cases hlt : t < tm.length
  · have hm : tm.getD t .unk ∈ tm := by simp [List.getD, hlt]
    have := h _ hm
    rw [ht] at this
    simpa using this
  · simp [List.getD, List.getElem?_eq_none (by omega : tm.length ≤ t)] at ht
theorem getD_set {tmps : Array Value} {d : Nat} {v : Value} (t : Nat) (hd : d < tmps.size) : (tmps.setIfInBounds d v).getD t undef = if t = d then v else tmps.getD t undef := by
  by_cases h : t = d
  · subst h; simp [Array.getD, hd]
  · simp only [h, if_false, Array.getD_eq_getD_getElem?]
    rw [Array.getElem?_setIfInBounds_ne (fun e => h e.symm)]
theorem tget_set (tm : List TV) (d t : Nat) (tv : TV) (hd : d < tm.length) : tget (tm.set d tv) t = if t = d then tv else tget tm t := by
  simp only [tget_def]
  by_cases h : t = d
  · subst h; simp [List.getD, hd]
  · simp only [h, if_false, List.getD, List.getElem?_set_ne (fun e => h e.symm)]
theorem tmOK_put {w w' : World} {μ μ' : Mu} {F F' : Nat → Prop} {tm : List TV} {tmps : Array Value} {d : Nat} {v : Value} {tv : TV} (h : TmOK w μ F tm tmps) (he : Ext F w w') (hF : ∀ b, F b → F' b) (hμ : ∀ l q, μ l = some q → μ' l = some q)
    (hd : d < tmps.size) (hd' : d < tm.length) (hn : noTag tm d = true) (hv : RepT w' μ' F' (tmps.setIfInBounds d v) v tv) : TmOK w' μ' F' (tm.set d tv) (tmps.setIfInBounds d v) := by
  intro t
  rw [tget_set _ _ _ _ hd', getD_set t hd]
  by_cases htd : t = d
  · simp only [htd, if_true]; exact hv
  · simp only [htd, if_false]
    have := (h t).mono he hF hμ
    cases ht : tget tm t with
    | tag g w0 s =>
      rw [ht] at this
      have hg := noTag_spec hn ht
      simp only [RepT, getD_set g hd, hg, if_false]
      exact this
    | _ => rw [ht] at this; exact this
def tvVal (gt : Option (Nat × Bool)) : TV → Option SV
  | .ok s => some s
  | .lit b => some (.d (.x (.bool b)))
  | .cnd _ s => some s
  | .tag g w s => match gt with
    | some (g', w') => if g = g' ∧ w = w' then some s else none
    | none => none
  | .unk => none
def tvCnd : TV → List Prop
  | .cnd p _ => [p]
  | _ => []
def rho (tm : List TV) (gt : Option (Nat × Bool)) : Operand → Option SV
  | .tmp t => tvVal gt (tget tm t)
  | .const v => some (ofValue v)
  | .func f => some (.fn (.func f) [] [])
  | .global g => match Globs.tab g with
    | some (n, cell) => some (.rop n cell)
    | none => none
theorem tvVal_sound {w : World} {μ : Mu} {F : Nat → Prop} {tmps : Array Value} {v : Value} {tv : TV} {gt : Option (Nat × Bool)} {s : SV} (h : RepT w μ F tmps v tv) (hg : ∀ g b, gt = some (g, b) → tmps.getD g undef = .bool b)
    (hc : ∀ p ∈ tvCnd tv, p) (he : tvVal gt tv = some s) : Rep w μ F v s := by
  cases tv with
  | unk => cases he
  | lit b => cases he; simp only [RepT] at h; rw [h]; exact .d (.x _)
  | ok s' => cases he; exact h
  | cnd p s' => cases he; exact h (hc p (List.mem_singleton.2 rfl))
  | tag g b s' =>
    simp only [tvVal] at he
    split at he
    · rename_i g' b'
      split at he
      · rename_i e
        obtain ⟨rfl, rfl⟩ := e
        cases he
        exact h.1 (hg _ _ rfl)
      · cases he
    · cases he
def needAll {α : Type} (l : List Prop) (t : Tr α) : Tr α := l.foldr (fun p t => .need p t) t
theorem needAll_ev {α : Type} {l : List Prop} {t : Tr α} {a : α} (h : (needAll l t).ev a) : (∀ p ∈ l, p) ∧ t.ev a := by
  induction l with
  | nil => exact ⟨(fun p hp => by cases hp), h⟩
  | cons q l ih =>
    obtain ⟨h1, h2⟩ := h
    obtain ⟨h3, h4⟩ := ih h2
    exact ⟨fun p hp => (List.mem_cons.1 hp).elim (fun e => e ▸ h1) (h3 p), h4⟩
abbrev Ctr := List SV → Tr SV
def emp : Mu := fun _ => none
def CtrOK (P : Program) (k : FuncId) (c : Ctr) : Prop :=
  ∀ (ss : List SV) (vs : Array Value) (w : World) (F : Nat → Prop) (r : SV), (∀ b, F b → b < w.heap.size) → GlobOK w F → Reps w emp F vs ss → (c ss).ev r →
    Calls P k vs w fun e w' => ∃ v, e = .returned v ∧ Out w emp F [] (fun _ => True) [] v r w'
def noId1 : SV → Bool
  | .d _ => true
  | .rop _ _ => true
  | .ifc _ (.d _) => true
  | .ifc _ (.rop _ _) => true
  | _ => false
def noId : SV → Bool
  | .agg cs => cs.all noId1
  | .tup cs => cs.all fun | .agg ds => ds.all noId1 | s => noId1 s
  | s => noId1 s
def isD : SV → Bool
  | .d _ => true
  | _ => false
def dOf : SV → DV
  | .d v => v
  | _ => .x undef
def preD : List SV → Nat := List.rec (motive := fun _ => Nat) 0 fun a _ ih => match isD a with
  | true => Nat.succ ih
  | false => 0
theorem preD_le : ∀ cs : List SV, preD cs ≤ cs.length
  | [] => Nat.le_refl _
  | a :: r => by
    have := preD_le r
    show (match isD a with | true => Nat.succ (preD r) | false => 0) ≤ r.length + 1
    split
    · exact Nat.succ_le_succ this
    · exact Nat.zero_le _
theorem preD_spec : ∀ (cs : List SV) (j : Nat), j < preD cs → isD (cs.getD j uv) = true
  | [], j, h => absurd h (Nat.not_lt_zero _)
  | a :: r, j, h => by
    have h : j < (match isD a with | true => Nat.succ (preD r) | false => 0) := h
    split at h
    · rename_i ha
      cases j with
      | zero => exact ha
      | succ j => exact preD_spec r j (Nat.lt_of_succ_lt_succ h)
    · exact absurd h (Nat.not_lt_zero _)
def view0 (hp : Heap) : SV → Option (DV × List Prop × List Nat)
  | .d v => some (v, [], [])
  | .row l base off len esz => match absSrc hp (.row l base off len esz) esz with
    | some (n, cell, p) => some (.ro n esz cell, [p], [l])
    | none => none
  | _ => none
def deep0 (hp : Heap) : List SV → Option (List DV × List Prop × List Nat)
  | [] => some ([], [], [])
  | s :: r => match view0 hp s, deep0 hp r with
    | some (a, p, l), some (as, ps, ls) => some (a :: as, p ++ ps, l ++ ls)
    | _, _ => none
def dSrc (hp : Heap) (l base off len esz : Nat) : Option (SV × List Prop × List Nat) := match hget hp l with
  | some (.cells cs) => if base + (off + len) * esz ≤ cs.length then match deep0 hp ((cs.drop (base + off * esz)).take (len * esz)) with
    | some (ds, ps, ls) => some (.d (.ro len esz fun i j => dsAt ds (i * esz + j)), ps, l :: ls)
    | none => none
    else none
  | _ => none
def view1 (hp : Heap) : SV → Option (SV × List Prop × List Nat)
  | .d v => some (.d v, [], [])
  | .rop n c => some (.rop n c, [], [])
  | .row l base off len esz => match absSrc hp (.row l base off len esz) esz with
    | some (n, cell, p) => some (.d (.ro n esz cell), [p], [l])
    | none => dSrc hp l base off len esz
  | .fn f xs ys => if xs.all noId = true ∧ ys.all noId = true then some (.fn f xs ys, [], []) else none
  | .ptr l off => match hget hp l with
    | some (.cells cs) => if off ≤ cs.length then some (.rop (preD (cs.drop off)) fun j => dOf (cs.getD (off + j) uv), [], [l]) else none
    | _ => none
  | _ => none
def viewL (hp : Heap) : List SV → Option (List SV × List Prop × List Nat)
  | [] => some ([], [], [])
  | s :: r => match view1 hp s, viewL hp r with
    | some (a, p, l), some (as, ps, ls) => some (a :: as, p ++ ps, l ++ ls)
    | _, _ => none
def view (hp : Heap) : SV → Option (SV × List Prop × List Nat)
  | .agg cs => (viewL hp cs).map fun (a, p, l) => (.agg a, p, l)
  | .fn f xs ys => match view1 hp (.fn f xs ys) with
    | some r => some r
    | none => match viewL hp xs, viewL hp ys with
      | some (a, p, l), some (b, q, m) => some (.fn f a b, p ++ q, l ++ m)
      | _, _ => none
  | s => view1 hp s
def views (hp : Heap) : List SV → Option (List SV × List Prop × List Nat)
  | [] => some ([], [], [])
  | s :: r => match view hp s, views hp r with
    | some (a, p, l), some (as, ps, ls) => some (a :: as, p ++ ps, l ++ ls)
    | _, _ => none
def flat1 : SV → Bool
  | .d (.x _) => true
  | _ => false
def flat : SV → Bool
  | .agg cs => cs.all flat1
  | .tup cs => cs.all fun | .agg ds => ds.all flat1 | s => flat1 s
  | s => flat1 s
def ctrCall (hp : Heap) (c : Ctr) (args : List SV) : Tr SV :=
  match views hp args with
  | none => .fail
  | some (as, ps, ls) => needAll ps ((c as).bind fun r => if noId r && (ls.isEmpty || flat r) then .ret r else .fail)
end
end Go.Sx
namespace Go.Sx
noncomputable section
variable [Globs]
theorem rep_noId1 {w : World} {μ μ' : Mu} {F : Nat → Prop} {v : Value} {s : SV} (h : Rep w μ F v s) (hn : noId1 s = true) : Rep w μ' F v s := by
  cases h with
  | d hd => exact .d hd
  | rop b o n cell f a1 a2 a3 a4 => exact .rop b o n cell f a1 a2 a3 a4
  | ifc t v s h =>
    cases h with
    | d hd => exact .ifc _ _ _ (.d hd)
    | rop b o n cell f a1 a2 a3 a4 => exact .ifc _ _ _ (.rop b o n cell f a1 a2 a3 a4)
    | _ => cases hn
  | _ => cases hn
theorem getD_mem {α : Type} {l : List α} {i : Nat} {d : α} (h : i < l.length) : l.getD i d ∈ l := by simp [List.getD, h]
theorem rep_noId {w : World} {μ μ' : Mu} {F : Nat → Prop} {v : Value} {s : SV} (h : Rep w μ F v s) (hn : noId s = true) : Rep w μ' F v s := by
  cases h with
  | d hd => exact .d hd
  | agg cs ss hl hi =>
    simp only [noId, List.all_eq_true] at hn
    exact .agg cs ss hl fun i h => rep_noId1 (hi i h) (hn _ (getD_mem h))
  | tup cs ss hl hi =>
    simp only [noId, List.all_eq_true] at hn
    refine .tup cs ss hl fun i h => ?_
    have h1 := hi i h
    have h2 := hn _ (getD_mem (d := uv) h)
    generalize ss.getD i uv = s at h1 h2 ⊢
    generalize cs.getD i undef = v at h1 ⊢
    cases h1 with
    | agg cs' ss' hl' hi' =>
      simp only [List.all_eq_true] at h2
      exact .agg cs' ss' hl' fun j hj => rep_noId1 (hi' j hj) (h2 _ (getD_mem hj))
    | d hd => exact .d hd
    | rop b o n cell f a1 a2 a3 a4 => exact .rop b o n cell f a1 a2 a3 a4
    | ifc t v s h => exact rep_noId1 (.ifc t v s h) h2
    | _ => cases h2
  | rop b o n cell f a1 a2 a3 a4 => exact .rop b o n cell f a1 a2 a3 a4
  | ifc t v s h => exact rep_noId1 (.ifc t v s h) hn
  | _ => cases hn
theorem rep_flat1 {w w' : World} {μ μ' : Mu} {F F' : Nat → Prop} {v : Value} {s : SV} (h : Rep w μ F v s) (hn : flat1 s = true) : Rep w' μ' F' v s := by
  cases h with
  | d hd => cases hd with
    | x v => exact .d (.x v)
    | _ => cases hn
  | _ => cases hn
theorem rep_flat {w w' : World} {μ μ' : Mu} {F F' : Nat → Prop} {v : Value} {s : SV} (h : Rep w μ F v s) (hn : flat s = true) : Rep w' μ' F' v s := by
  cases h with
  | d hd => cases hd with
    | x v => exact .d (.x v)
    | _ => cases hn
  | agg cs ss hl hi =>
    simp only [flat, List.all_eq_true] at hn
    exact .agg cs ss hl fun i h => rep_flat1 (hi i h) (hn _ (getD_mem h))
  | tup cs ss hl hi =>
    simp only [flat, List.all_eq_true] at hn
    refine .tup cs ss hl fun i h => ?_
    have h1 := hi i h
    have h2 := hn _ (getD_mem (d := uv) h)
    generalize ss.getD i uv = s at h1 h2 ⊢
    generalize cs.getD i undef = v at h1 ⊢
    cases h1 with
    | agg cs' ss' hl' hi' =>
      simp only [List.all_eq_true] at h2
      exact .agg cs' ss' hl' fun j hj => rep_flat1 (hi' j hj) (h2 _ (getD_mem hj))
    | d hd => cases hd with
      | x v => exact .d (.x v)
      | _ => cases h2
    | _ => cases h2
  | _ => cases hn
def Opens (hp : Heap) (μ : Mu) (ls : List Nat) (b : Nat) : Prop := ∃ l ∈ ls, ∃ blk o, hget hp l = some blk ∧ μ l = some (.pl b o)
theorem absSrc_row {hp : Heap} {l base off len esz esz' n : Nat} {cell : Nat → Nat → DV} {p : Prop} (h : absSrc hp (.row l base off len esz) esz' = some (n, cell, p)) : n = len ∧ ∃ blk, hget hp l = some blk ∧ ∀ s q, blk ≠ .iter s q := by
  simp only [absSrc] at h
  split at h
  · rename_i hg
    split at h
    · simp only [Option.some.injEq, Prod.mk.injEq] at h; exact ⟨h.1.symm, _, hg, fun s q e => by cases e⟩
    · cases h
  · rename_i hg
    split at h
    · split at h
      · simp only [Option.some.injEq, Prod.mk.injEq] at h; exact ⟨h.1.symm, _, hg, fun s q e => by cases e⟩
      · cases h
    · cases h
  · cases h
theorem row_sound {P : Program} {w : World} {μ : Mu} {F : Nat → Prop} {hp : Heap} {v : Value} {l base off len esz n : Nat} {cell : Nat → Nat → DV} {p : Prop} (hl : LH w μ F hp) (hs : Rep w μ F v (.row l base off len esz)) (hsrc : absSrc hp (.row l base off len esz) esz = some (n, cell, p)) (hp0 : p) {G : Nat → Prop} (hFG : ∀ b, F b → G b)
    (hG : ∀ b, Opens hp μ [l] b → G b) : Rep w emp G v (.d (.ro n esz cell)) := by
  obtain ⟨hn, blk, hg, hni⟩ := absSrc_row hsrc
  subst hn
  have hsrc' := absSrc_sound (P := P) hl hs hsrc hp0
  obtain ⟨news, h1, h2, h3, h4⟩ := hsrc'
  have hrun := (h2 w fun _ => rfl).2
  cases hs with
  | rnil => exact .d (.nil _ _)
  | rz _ _ _ _ b o => exact .d (.ro b o 0 0 esz cell (fun _ _ => undef) (fun h => by omega) (Nat.le_refl _) (fun i j hi => by omega) (fun i j hi => by omega) (fun i j hi => by omega))
  | row _ _ _ _ _ b o cap hm hc hz =>
    have hGb : G b := hG b ⟨l, List.mem_singleton.2 rfl, blk, o, hg, hm⟩
    obtain ⟨hat, _⟩ := hl.blkAt hg hm
    have hobj : ∃ c e, w.heap[b]? = some (.cells c e (0, 0)) := by
      cases blk with
      | cells cs => obtain ⟨c, e, hh, _⟩ := hat; exact ⟨c, e, hh⟩
      | row _ _ _ => obtain ⟨c, e, hh, _⟩ := hat; exact ⟨c, e, hh⟩
      | iter s q => exact (hni s q rfl).elim
    obtain ⟨c, e, hh⟩ := hobj
    have hsz : o + base + (off + cap) * esz ≤ c.size := by unfold bsz at hz; rw [hh] at hz; exact hz
    have hle : o + base + off * esz + n * esz ≤ c.size := by
      have : n * esz ≤ cap * esz := Nat.mul_le_mul_right _ hc
      rw [Nat.add_mul] at hsz; omega
    have hdet := firstCells_det hh hle hrun
    have hidx : ∀ i j, i < n → j < esz → i * esz + j < n * esz := by
      intro i j hi hj
      have : (i + 1) * esz ≤ n * esz := Nat.mul_le_mul_right _ hi
      rw [Nat.add_mul] at this; omega
    refine .d (.ro b _ n cap esz cell (fun i j => news.getD (i * esz + j) undef) (fun _ => hGb) hc (fun i j hi hj => ?_) (fun i j hi hj => ?_) (fun i j hi hj => (h3 i j hi hj).mono (Ext.refl _ _) hFG))
    · rw [hdet _ (hidx i j hi hj)]
      exact cell_of_heap hh (by have := hidx i j hi hj; omega)
    · have hlt := hidx i j hi hj
      refine h4 _ ?_
      rw [← h1] at hlt
      exact getD_mem hlt
theorem view0_sound {P : Program} {w : World} {μ : Mu} {F : Nat → Prop} {hp : Heap} {v : Value} {s : SV} {d : DV} {ps : List Prop} {ls : List Nat} (hl : LH w μ F hp) (hs : Rep w μ F v s) (he : view0 hp s = some (d, ps, ls)) (hps : ∀ p ∈ ps, p) {G : Nat → Prop} (hFG : ∀ b, F b → G b)
    (hG : ∀ b, Opens hp μ ls b → G b) : RepD w G v d := by
  unfold view0 at he
  split at he
  · simp only [Option.some.injEq, Prod.mk.injEq] at he
    obtain ⟨rfl, rfl, rfl⟩ := he
    exact (rep_d hs).mono (Ext.refl _ _) hFG
  · split at he
    · rename_i n cell p hsrc
      simp only [Option.some.injEq, Prod.mk.injEq] at he
      obtain ⟨rfl, rfl, rfl⟩ := he
      exact rep_d (row_sound (P := P) hl hs hsrc (hps p (List.mem_singleton.2 rfl)) hFG hG)
    · cases he
  · cases he
theorem deep0_sound {P : Program} {w : World} {μ : Mu} {F : Nat → Prop} {hp : Heap} {G : Nat → Prop} (hl : LH w μ F hp) (hFG : ∀ b, F b → G b) : ∀ {cs : List SV} {ds : List DV} {ps : List Prop} {ls : List Nat}, deep0 hp cs = some (ds, ps, ls) → (∀ p ∈ ps, p) → (∀ b, Opens hp μ ls b → G b) →
    ds.length = cs.length ∧ ∀ i v, i < cs.length → Rep w μ F v (cs.getD i uv) → RepD w G v (ds.getD i (.x undef))
  | [], ds, ps, ls, he, _, _ => by
    simp only [deep0, Option.some.injEq, Prod.mk.injEq] at he
    obtain ⟨rfl, rfl, rfl⟩ := he
    exact ⟨rfl, fun i v hi => by simp at hi⟩
  | s :: r, ds, ps, ls, he, hps, hG => by
    simp only [deep0] at he
    split at he
    · rename_i a p l ds' ps' ls' h1 h2
      simp only [Option.some.injEq, Prod.mk.injEq] at he
      obtain ⟨rfl, rfl, rfl⟩ := he
      obtain ⟨k1, k2⟩ := deep0_sound (P := P) hl hFG (cs := r) h2 (fun q hq => hps q (List.mem_append.2 (.inr hq))) (fun b ⟨l', hl', x⟩ => hG b ⟨l', List.mem_append.2 (.inr hl'), x⟩)
      refine ⟨by simp [k1], fun i v hi hr => ?_⟩
      cases i with
      | zero => exact view0_sound (P := P) hl (by simpa using hr) h1 (fun q hq => hps q (List.mem_append.2 (.inl hq))) hFG (fun b ⟨l', hl', x⟩ => hG b ⟨l', List.mem_append.2 (.inl hl'), x⟩)
      | succ i => simpa using k2 i v (by simpa using hi) (by simpa using hr)
    · cases he
theorem dSrc_sound {P : Program} {w : World} {μ : Mu} {F : Nat → Prop} {hp : Heap} {v : Value} {l base off len esz : Nat} {a : SV} {ps : List Prop} {ls : List Nat} (hl : LH w μ F hp) (hs : Rep w μ F v (.row l base off len esz)) (he : dSrc hp l base off len esz = some (a, ps, ls)) (hps : ∀ p ∈ ps, p) {G : Nat → Prop} (hFG : ∀ b, F b → G b)
    (hG : ∀ b, Opens hp μ ls b → G b) : Rep w emp G v a := by
  unfold dSrc at he
  split at he
  · rename_i cs hg
    split at he
    · rename_i hk
      split at he
      · rename_i ds ps' ls' hd
        simp only [Option.some.injEq, Prod.mk.injEq] at he
        obtain ⟨rfl, rfl, rfl⟩ := he
        cases hs with
        | rnil => exact .d (.nil _ _)
        | rz _ _ _ _ b o => exact .d (.ro b o 0 0 esz _ (fun _ _ => undef) (fun h => by omega) (Nat.le_refl _) (fun i j hi => by omega) (fun i j hi => by omega) (fun i j hi => by omega))
        | row _ _ _ _ _ b o cap hm hc hz =>
          have hGb : G b := hG b ⟨l, List.mem_cons_self, _, o, hg, hm⟩
          obtain ⟨⟨c, e, hh, hsz, hrep, hone⟩, _⟩ := hl.blkAt hg hm
          obtain ⟨k1, k2⟩ := deep0_sound (P := P) hl hFG hd hps (fun b ⟨l', hl', x⟩ => hG b ⟨l', List.mem_cons_of_mem _ hl', x⟩)
          rw [Nat.add_mul, ← Nat.add_assoc] at hk
          have hlen : ((cs.drop (base + off * esz)).take (len * esz)).length = len * esz := by rw [List.length_take, List.length_drop]; omega
          have hidx : ∀ i j, i < len → j < esz → i * esz + j < len * esz := by
            intro i j hi hj
            have : (i + 1) * esz ≤ len * esz := Nat.mul_le_mul_right _ hi
            rw [Nat.add_mul] at this; omega
          refine .d (.ro b _ len cap esz _ (fun i j => c.getD (o + (base + off * esz + (i * esz + j))) undef) (fun _ => hGb) hc (fun i j hi hj => ?_) (fun i j hi hj => ?_) (fun i j hi hj => ?_))
          · have := hidx i j hi hj
            rw [show o + base + off * esz + (i * esz + j) = o + (base + off * esz + (i * esz + j)) by omega]
            exact cell_of_heap hh (by omega)
          · have := hidx i j hi hj
            exact hone _ (by omega)
          · have h3 := hidx i j hi hj
            have h4 := k2 (i * esz + j) (c.getD (o + (base + off * esz + (i * esz + j))) undef) (by rw [hlen]; exact h3) (by
              have h5 := hrep (base + off * esz + (i * esz + j)) (by omega)
              have e1 : ((cs.drop (base + off * esz)).take (len * esz)).getD (i * esz + j) uv = cs.getD (base + off * esz + (i * esz + j)) uv := by
                rw [List.getD_eq_getElem?_getD, List.getElem?_take_of_lt h3, List.getElem?_drop, List.getD_eq_getElem?_getD]
              rw [e1]; exact h5)
            rw [dsAt_eq (by rw [k1, hlen]; exact h3)]
            exact h4
      · cases he
    · cases he
  · cases he
theorem view1_sound {P : Program} {w : World} {μ : Mu} {F : Nat → Prop} {hp : Heap} {v : Value} {s a : SV} {ps : List Prop} {ls : List Nat} (hl : LH w μ F hp) (hs : Rep w μ F v s) (he : view1 hp s = some (a, ps, ls)) (hps : ∀ p ∈ ps, p) {G : Nat → Prop} (hFG : ∀ b, F b → G b)
    (hG : ∀ b, Opens hp μ ls b → G b) : Rep w emp G v a := by
  unfold view1 at he
  split at he
  · simp only [Option.some.injEq, Prod.mk.injEq] at he
    obtain ⟨rfl, rfl, rfl⟩ := he
    exact .d ((rep_d hs).mono (Ext.refl _ _) hFG)
  · rename_i n c
    simp only [Option.some.injEq, Prod.mk.injEq] at he
    obtain ⟨rfl, rfl, rfl⟩ := he
    cases hs with
    | rop b o _ _ f hF h1 h2 h3 => exact .rop b o n c f (fun h => hFG _ (hF h)) h1 h2 fun j hj => (h3 j hj).mono (Ext.refl _ _) hFG
  · rename_i l base off len esz
    split at he
    · rename_i n cell p hsrc
      simp only [Option.some.injEq, Prod.mk.injEq] at he
      obtain ⟨rfl, rfl, rfl⟩ := he
      exact row_sound (P := P) hl hs hsrc (hps p (List.mem_singleton.2 rfl)) hFG hG
    · exact dSrc_sound (P := P) hl hs he hps hFG hG
  · split at he
    · rename_i hk
      simp only [Option.some.injEq, Prod.mk.injEq] at he
      obtain ⟨rfl, rfl, rfl⟩ := he
      simp only [List.all_eq_true] at hk
      cases hs with
      | fn _ fs cs _ _ h1 h2 h3 h4 =>
        exact .fn _ fs cs _ _ h1 h2 (fun i hi => (rep_noId (μ' := emp) (h3 i hi) (hk.1 _ (getD_mem hi))).mono (Ext.refl _ _) hFG (fun _ _ h => h)) (fun i hi => (rep_noId (μ' := emp) (h4 i hi) (hk.2 _ (getD_mem hi))).mono (Ext.refl _ _) hFG (fun _ _ h => h))
    · cases he
  · rename_i l off
    split at he
    · rename_i cs hg
      split at he
      · rename_i hk
        simp only [Option.some.injEq, Prod.mk.injEq] at he
        obtain ⟨rfl, rfl, rfl⟩ := he
        have hoff := hk
        have hpl := preD_le (cs.drop off)
        rw [List.length_drop] at hpl
        cases hs with
        | ptr _ _ b o hm =>
          have hGb : G b := hG b ⟨l, List.mem_singleton.2 rfl, _, o, hg, hm⟩
          obtain ⟨⟨c, e, hh, hsz, hrep, hone⟩, _⟩ := hl.blkAt hg hm
          refine .rop b (o + off) _ _ (fun j => c.getD (o + (off + j)) undef) (fun _ => hGb) (fun j hj => ?_) (fun j hj => hone _ (by omega)) (fun j hj => ?_)
          · rw [Nat.add_assoc]
            exact cell_of_heap hh (by omega)
          · have h1 := hrep (off + j) (by omega)
            have h2 : ∃ d, cs.getD (off + j) uv = .d d := by
              have := preD_spec (cs.drop off) j hj
              rw [show (cs.drop off).getD j uv = cs.getD (off + j) uv by simp [List.getD, List.getElem?_drop]] at this
              cases hd : cs.getD (off + j) uv with
              | d d => exact ⟨d, rfl⟩
              | _ => rw [hd] at this; cases this
            obtain ⟨d, hd⟩ := h2
            rw [hd] at h1 ⊢
            exact (rep_d h1).mono (Ext.refl _ _) hFG
      · cases he
    · cases he
  · cases he
theorem viewL_sound {P : Program} {w : World} {μ : Mu} {F : Nat → Prop} {hp : Heap} {G : Nat → Prop} (hl : LH w μ F hp) (hFG : ∀ b, F b → G b) : ∀ {cs as : List SV} {ps : List Prop} {ls : List Nat}, viewL hp cs = some (as, ps, ls) → (∀ p ∈ ps, p) → (∀ b, Opens hp μ ls b → G b) →
    as.length = cs.length ∧ ∀ i v, i < cs.length → Rep w μ F v (cs.getD i uv) → Rep w emp G v (as.getD i uv)
  | [], as, ps, ls, he, _, _ => by
    simp only [viewL, Option.some.injEq, Prod.mk.injEq] at he
    obtain ⟨rfl, rfl, rfl⟩ := he
    exact ⟨rfl, fun i v hi => by simp at hi⟩
  | s :: r, as, ps, ls, he, hps, hG => by
    simp only [viewL] at he
    split at he
    · rename_i a p l as' ps' ls' h1 h2
      simp only [Option.some.injEq, Prod.mk.injEq] at he
      obtain ⟨rfl, rfl, rfl⟩ := he
      obtain ⟨h3, h4⟩ := viewL_sound (P := P) hl hFG h2 (fun q hq => hps q (List.mem_append.2 (.inr hq))) (fun b ⟨l', hl', x⟩ => hG b ⟨l', List.mem_append.2 (.inr hl'), x⟩)
      refine ⟨by simp [h3], fun i v hi hr => ?_⟩
      cases i with
      | zero => exact view1_sound (P := P) hl (by simpa using hr) h1 (fun q hq => hps q (List.mem_append.2 (.inl hq))) hFG (fun b ⟨l', hl', x⟩ => hG b ⟨l', List.mem_append.2 (.inl hl'), x⟩)
      | succ i => simpa using h4 i v (by simpa using hi) (by simpa using hr)
    · cases he
theorem view_sound {P : Program} {w : World} {μ : Mu} {F : Nat → Prop} {hp : Heap} {v : Value} {s a : SV} {ps : List Prop} {ls : List Nat} (hl : LH w μ F hp) (hs : Rep w μ F v s) (he : view hp s = some (a, ps, ls)) (hps : ∀ p ∈ ps, p) {G : Nat → Prop} (hFG : ∀ b, F b → G b)
    (hG : ∀ b, Opens hp μ ls b → G b) : Rep w emp G v a := by
  unfold view at he
  split at he
  · rename_i cs
    rw [Option.map_eq_some_iff] at he
    obtain ⟨⟨as, p, l⟩, h1, h2⟩ := he
    simp only [Prod.mk.injEq] at h2
    obtain ⟨rfl, rfl, rfl⟩ := h2
    obtain ⟨h3, h4⟩ := viewL_sound (P := P) hl hFG h1 hps hG
    cases hs with
    | agg vs _ hlen hi => exact .agg vs as (by omega) fun i hi' => h4 i _ (by omega) (hi i (by omega))
  · split at he
    · rename_i h1
      simp only [Option.some.injEq] at he
      subst he
      exact view1_sound (P := P) hl hs h1 hps hFG hG
    · split at he
      · rename_i f xs ys _ _ _ _ a p l b q m h1 h2
        simp only [Option.some.injEq, Prod.mk.injEq] at he
        obtain ⟨rfl, rfl, rfl⟩ := he
        obtain ⟨h3, h4⟩ := viewL_sound (P := P) hl hFG h1 (fun r hr => hps r (List.mem_append.2 (.inl hr))) fun b' ⟨l', hl', x⟩ => hG b' ⟨l', List.mem_append.2 (.inl hl'), x⟩
        obtain ⟨h5, h6⟩ := viewL_sound (P := P) hl hFG h2 (fun r hr => hps r (List.mem_append.2 (.inr hr))) fun b' ⟨l', hl', x⟩ => hG b' ⟨l', List.mem_append.2 (.inr hl'), x⟩
        cases hs with
        | fn _ fs cs _ _ e1 e2 e3 e4 =>
          exact .fn _ fs cs _ _ (by omega) (by omega) (fun i hi => h4 i _ (by omega) (e3 i (by omega))) (fun i hi => h6 i _ (by omega) (e4 i (by omega)))
      · cases he
  · exact view1_sound (P := P) hl hs he hps hFG hG
theorem views_sound {P : Program} {w : World} {μ : Mu} {F : Nat → Prop} {hp : Heap} {G : Nat → Prop} (hl : LH w μ F hp) (hFG : ∀ b, F b → G b) : ∀ {cs as : List SV} {ps : List Prop} {ls : List Nat}, views hp cs = some (as, ps, ls) → (∀ p ∈ ps, p) → (∀ b, Opens hp μ ls b → G b) →
    as.length = cs.length ∧ ∀ i v, i < cs.length → Rep w μ F v (cs.getD i uv) → Rep w emp G v (as.getD i uv)
  | [], as, ps, ls, he, _, _ => by
    simp only [views, Option.some.injEq, Prod.mk.injEq] at he
    obtain ⟨rfl, rfl, rfl⟩ := he
    exact ⟨rfl, fun i v hi => by simp at hi⟩
  | s :: r, as, ps, ls, he, hps, hG => by
    simp only [views] at he
    split at he
    · rename_i a p l as' ps' ls' h1 h2
      simp only [Option.some.injEq, Prod.mk.injEq] at he
      obtain ⟨rfl, rfl, rfl⟩ := he
      obtain ⟨h3, h4⟩ := views_sound (P := P) hl hFG h2 (fun q hq => hps q (List.mem_append.2 (.inr hq))) (fun b ⟨l', hl', x⟩ => hG b ⟨l', List.mem_append.2 (.inr hl'), x⟩)
      refine ⟨by simp [h3], fun i v hi hr => ?_⟩
      cases i with
      | zero => exact view_sound (P := P) hl (by simpa using hr) h1 (fun q hq => hps q (List.mem_append.2 (.inl hq))) hFG (fun b ⟨l', hl', x⟩ => hG b ⟨l', List.mem_append.2 (.inl hl'), x⟩)
      | succ i => simpa using h4 i v (by simpa using hi) (by simpa using hr)
    · cases he
theorem ctrCall_sound {P : Program} {w : World} {μ : Mu} {F : Nat → Prop} {hp : Heap} {N : Nat → Prop} {k : FuncId} {c : Ctr} {args : List SV} {vs : Array Value} {r : SV} (hl : LH w μ F hp) (hgl : GlobOK w F) (hc : CtrOK P k c) (ha : Reps w μ F vs args) (he : (ctrCall hp c args).ev r) :
    Calls P k vs w fun e w' => ∃ v, e = .returned v ∧ Out w μ F hp N hp v r w' := by
  unfold ctrCall at he
  split at he
  · exact he.elim
  · rename_i as ps ls hv
    obtain ⟨hps, he⟩ := needAll_ev he
    obtain ⟨r', h1, h2⟩ := Tr.ev_bind he
    split at h2
    · rename_i hk
      simp only [Tr.ev] at h2; subst h2
      simp only [Bool.and_eq_true, Bool.or_eq_true] at hk
      obtain ⟨hno, hfl⟩ := hk
      obtain ⟨h3, h4⟩ := views_sound (P := P) (G := fun b => F b ∨ Opens hp μ ls b) hl (fun b hb => .inl hb) hv hps (fun b hb => .inr hb)
      have hG : ∀ b, (F b ∨ Opens hp μ ls b) → b < w.heap.size := by
        intro b hb
        rcases hb with hb | ⟨l, _, blk, o, hg, hm⟩
        · exact (hl.fin b hb).1
        · exact (hl.blkAt hg hm).1.lt
      refine (hc as vs w _ r hG (hgl.mono (Ext.refl _ _) fun b hb => .inl hb) ⟨by rw [h3]; exact ha.1, fun i hi => h4 i _ (by omega) (ha.2 i (by omega))⟩ h1).mono ?_
      rintro e w' ⟨v, rfl, μ', F', hs, hr, _, _⟩
      refine ⟨v, rfl, ?_⟩
      have hold : ∀ b, b < w.heap.size → w'.heap[b]? = w.heap[b]? := fun b hb => hs.ext.keep b ⟨hb, fun ⟨l, blk, o, hg, _⟩ => by simp [hget_def] at hg⟩
      have hextF : Ext F w w' := ⟨hs.ext.os, hs.ext.tape, hs.ext.output, hs.ext.size, fun b hb => hold b (hl.fin b hb).1, hs.ext.bsz⟩
      have hblk : ∀ (F2 : Nat → Prop), (∀ b, F b → F2 b) → (∀ b, F2 b → b < w.heap.size → F b) → ∀ l blk, hget hp l = some blk → ∃ q, μ l = some q ∧ PlcOK ⟨w, Tk hp μ, F⟩ F2 q ∧ BlkAt w' μ F2 q blk := by
        intro F2 hF2 hF2' l blk hg
        obtain ⟨q, e1, e2, e3⟩ := hl.blk l blk hg
        refine ⟨q, e1, ?_, e3.mono hextF hF2 (fun _ _ h => h) ?_⟩
        · cases q with
          | nil => trivial
          | pl b o => exact ⟨fun h => e2.1 (hF2' b h e3.lt), e2.2⟩
        · intro b o hq; subst hq; exact hold b e3.lt
      have hext : Ext (fun b => b < w.heap.size ∧ ¬ Tk hp μ b) w w' := ⟨hs.ext.os, hs.ext.tape, hs.ext.output, hs.ext.size, fun b hb => hold b hb.1, hs.ext.bsz⟩
      rcases hfl with hemp | hflat
      · have hls : ls = [] := by simpa using hemp
        subst hls
        have hF' : ∀ b, F' b → b < w.heap.size → F b := by
          intro b hb hlt
          rcases (hs.fin b hb).2 with h | ⟨l, blk, o, hg, _⟩ | h
          · rcases h with h | ⟨l, hl', _⟩
            · exact h
            · cases hl'
          · simp [hget_def] at hg
          · simp only at h; omega
        refine ⟨μ, F', ⟨hext, fun b hb => hs.sub b (.inl hb), fun b hb => ⟨(hs.fin b hb).1, ?_⟩, hblk F' (fun b hb => hs.sub b (.inl hb)) hF', hl.inj⟩, rep_noId hr hno, fun _ _ h => h, fun _ _ => rfl⟩
        rcases Nat.lt_or_ge b w.heap.size with h | h
        · exact .inl (hF' b hb h)
        · exact .inr (.inr h)
      · exact ⟨μ, F, ⟨hext, fun b hb => hb, fun b hb => ⟨by have := (hl.fin b hb).1; have := hs.ext.size; simp only at this; omega, .inl hb⟩, hblk F (fun b hb => hb) (fun b hb _ => hb), hl.inj⟩, rep_flat hr hflat, fun _ _ h => h, fun _ _ => rfl⟩
    · exact h2.elim
abbrev Octr := List SV → Tr (Nat × Nat × (Nat → Nat → DV))
def OwnOK (P : Program) (k : FuncId) (oc : Octr) : Prop :=
  ∀ (ss : List SV) (vs : Array Value) (w : World) (F : Nat → Prop) (n esz : Nat) (cell : Nat → Nat → DV), (∀ b, F b → b < w.heap.size) → GlobOK w F → Reps w emp F vs ss → (oc ss).ev (n, esz, cell) →
    Calls P k vs w fun e w' => ∃ v, e = .returned v ∧ Out w emp F [] (fun l => l = 0) [some (.row n esz cell)] v (.row 0 0 0 n esz) w'
def ownCall (id : Nat) (hp : Heap) (oc : Octr) (args : List SV) : Tr (SV × Heap) :=
  match views hp args with
  | some (as, ps, ls) => match ls with
    | [] => needAll ps ((oc as).bind fun r => match r with
      | (n, esz, cell) => .ret (.row id 0 0 n esz, hset hp id (some (.row n esz cell))))
    | _ :: _ => .fail
  | none => .fail
theorem ownCall_sound {P : Program} {w : World} {μ : Mu} {F : Nat → Prop} {hp hp' : Heap} {id : Nat} {k : FuncId} {oc : Octr} {args : List SV} {vs : Array Value} {r : SV} (hl : LH w μ F hp) (hgl : GlobOK w F) (hid : μ id = none) (hc : OwnOK P k oc) (ha : Reps w μ F vs args) (he : (ownCall id hp oc args).ev (r, hp')) :
    Calls P k vs w fun e w' => ∃ v, e = .returned v ∧ Out w μ F hp (· = id) hp' v r w' := by
  unfold ownCall at he
  split at he
  · rename_i as ps ls hv
    split at he
    · obtain ⟨hps, he⟩ := needAll_ev he
      obtain ⟨⟨n, esz, cell⟩, h1, h2⟩ := Tr.ev_bind he
      simp only [Tr.ev, Prod.mk.injEq] at h2
      obtain ⟨rfl, rfl⟩ := h2
      obtain ⟨h3, h4⟩ := views_sound (P := P) (G := F) hl (fun b hb => hb) hv hps (fun b ⟨l, hl', _⟩ => by cases hl')
      refine (hc as vs w F n esz cell (fun b hb => (hl.fin b hb).1) hgl ⟨by rw [h3]; exact ha.1, fun i hi => h4 i _ (by omega) (ha.2 i (by omega))⟩ h1).mono ?_
      rintro e w' ⟨v, rfl, μ0, F', hs, hr, _, _⟩
      refine ⟨v, rfl, ?_⟩
      have hnT : ∀ b, ¬ Tk [] emp b := fun b ⟨l, blk, o, hg, _⟩ => by simp [hget_def] at hg
      have hold : ∀ b, b < w.heap.size → w'.heap[b]? = w.heap[b]? := fun b hb => hs.ext.keep b ⟨hb, hnT b⟩
      have hextF : Ext F w w' := ⟨hs.ext.os, hs.ext.tape, hs.ext.output, hs.ext.size, fun b hb => hold b (hl.fin b hb).1, hs.ext.bsz⟩
      have hext : Ext (fun b => b < w.heap.size ∧ ¬ Tk hp μ b) w w' := ⟨hs.ext.os, hs.ext.tape, hs.ext.output, hs.ext.size, fun b hb => hold b hb.1, hs.ext.bsz⟩
      have hF' : ∀ b, F' b → b < w.heap.size → F b := by
        intro b hb hlt
        rcases (hs.fin b hb).2 with h | h | h
        · exact h
        · exact (hnT b h).elim
        · simp only at h; omega
      obtain ⟨q, e1, e2, e3⟩ := hs.blk 0 _ rfl
      have hq : ∀ b o, q = .pl b o → w.heap.size ≤ b := by
        intro b o hq; subst hq
        rcases e2.2 with h | h
        · exact (hnT b h).elim
        · exact h
      have hself : upd μ id q id = some q := by simp [upd]
      refine ⟨upd μ id q, F', ⟨hext, fun b hb => hs.sub b hb, fun b hb => ⟨(hs.fin b hb).1, ?_⟩, ?_, ?_⟩, ?_, upd_ext hid, fun l hl' => by unfold upd; rw [if_neg hl']⟩
      · rcases Nat.lt_or_ge b w.heap.size with h | h
        · exact .inl (hF' b hb h)
        · exact .inr (.inr h)
      · intro l blk hg
        rw [hget_hset] at hg
        split at hg
        · rename_i hli; subst hli
          simp only [Option.some.injEq] at hg; subst hg
          refine ⟨q, hself, ?_, ?_⟩
          · cases q with
            | nil => trivial
            | pl b o => exact ⟨e2.1, .inr (hq b o rfl)⟩
          · cases q with
            | nil => exact e3
            | pl b o => exact e3
        · obtain ⟨p, m1, m2, m3⟩ := hl.blk l blk hg
          refine ⟨p, upd_ext hid _ _ m1, ?_, m3.mono hextF (fun b hb => hs.sub b hb) (upd_ext hid) ?_⟩
          · cases p with
            | nil => trivial
            | pl b o => exact ⟨fun h => m2.1 (hF' b h m3.lt), m2.2⟩
          · intro b o hp'; subst hp'; exact hold b m3.lt
      · intro l l' blk1 blk2 b o b' o' hne g1 g2 m1 m2
        rw [hget_hset] at g1 g2
        have old : ∀ k bb bo bk, k ≠ id → hget hp k = some bk → upd μ id q k = some (.pl bb bo) → bb < w.heap.size ∧ μ k = some (.pl bb bo) := by
          intro k bb bo bk hk hg hm
          have hm' : μ k = some (.pl bb bo) := by simpa [upd, hk] using hm
          exact ⟨(hl.blkAt hg hm').1.lt, hm'⟩
        by_cases c1 : l = id
        · have c2 : l' ≠ id := fun h => hne (c1.trans h.symm)
          rw [if_neg c2] at g2
          obtain ⟨hlt, _⟩ := old l' b' o' blk2 c2 g2 m2
          rw [c1, hself] at m1
          simp only [Option.some.injEq] at m1
          have := hq b o m1
          omega
        · rw [if_neg c1] at g1
          obtain ⟨hlt, hm1⟩ := old l b o blk1 c1 g1 m1
          by_cases c2 : l' = id
          · rw [c2, hself] at m2
            simp only [Option.some.injEq] at m2
            have := hq b' o' m2
            omega
          · rw [if_neg c2] at g2
            obtain ⟨_, hm2⟩ := old l' b' o' blk2 c2 g2 m2
            exact hl.inj l l' blk1 blk2 b o b' o' hne g1 g2 hm1 hm2
      · generalize hsv : SV.row 0 0 0 n esz = sv at hr
        cases hr with
        | rnil l base off e h =>
          cases hsv
          rw [e1] at h; simp only [Option.some.injEq] at h; subst h
          exact .rnil _ _ _ _ hself
        | rz l base off e b o p h =>
          cases hsv
          exact .rz _ _ _ _ _ _ _ hself
        | row l base off len e b o cap h hcap hz =>
          cases hsv
          rw [e1] at h; simp only [Option.some.injEq] at h; subst h
          exact .row _ _ _ _ _ _ _ _ hself hcap hz
        | _ => cases hsv
    · exact he.elim
  · exact he.elim
end
end Go.Sx
namespace Go.Sx
noncomputable section
variable [Globs]
def hdropL (hp : Heap) (ls : List Nat) : Heap := ls.foldl (fun h l => hset h l none) hp
theorem hget_hdropL (ls : List Nat) : ∀ (hp : Heap) (k : Nat), hget (hdropL hp ls) k = if k ∈ ls then none else hget hp k := by
  induction ls with
  | nil => intro hp k; simp [hdropL]
  | cons l r ih =>
    intro hp k
    show hget (hdropL (hset hp l none) r) k = _
    rw [ih, hget_hset]
    by_cases h1 : k ∈ r
    · simp [h1]
    · by_cases h2 : k = l
      · simp [h2]
      · simp [h1, h2]
def frzB (hp : Heap) (l : Nat) : Option (Heap × List Prop) :=
  match hget hp l with
  | some (.cells cs) => match dvsOf cs with
    | some _ => none
    | none => match viewL hp cs with
      | some (as, ps, ls) => if ls.contains l then none else some (hset (hdropL hp ls) l (some (.cells as)), ps)
      | none => none
  | _ => none
def FrzF (F : Nat → Prop) (hp : Heap) (μ : Mu) (ls : List Nat) : Nat → Prop := fun b => F b ∨ Opens hp μ ls b
theorem lh_frz {w : World} {μ : Mu} {F : Nat → Prop} {hp hp2 : Heap} {ls : List Nat} (hl : LH w μ F hp) (hsub : ∀ k blk, hget hp2 k = some blk → k ∉ ls ∧ ∃ blk0, hget hp k = some blk0 ∧ ∀ q, μ k = some q → BlkAt w μ F q blk0 → BlkAt w μ (FrzF F hp μ ls) q blk) :
    LH w μ (FrzF F hp μ ls) hp2 := by
  have hfin : ∀ b, FrzF F hp μ ls b → b < w.heap.size := by
    rintro b (hb | ⟨l, _, blk, o, hg, hm⟩)
    · exact (hl.fin b hb).1
    · exact (hl.blkAt hg hm).1.lt
  refine ⟨Ext.refl _ _, fun b hb => hb, fun b hb => ⟨hfin b hb, .inl hb⟩, ?_, ?_⟩
  · intro k blk hg
    obtain ⟨hk, blk0, hg0, himp⟩ := hsub k blk hg
    obtain ⟨q, h1, h2, h3⟩ := hl.blk k blk0 hg0
    refine ⟨q, h1, ?_, himp q h1 h3⟩
    cases q with
    | nil => trivial
    | pl b o =>
      refine ⟨?_, .inl ⟨k, blk, o, hg, h1⟩⟩
      rintro (hb | ⟨l, hl', blk1, o1, hg1, hm1⟩)
      · exact h2.1 hb
      · by_cases e : k = l
        · subst e; exact hk hl'
        · exact hl.inj k l blk0 blk1 b o b o1 e hg0 hg1 h1 hm1 rfl
  · intro l l' blk blk' b o b' o' hne h1 h2 m1 m2
    obtain ⟨_, blk0, hg0, _⟩ := hsub l blk h1
    obtain ⟨_, blk1, hg1, _⟩ := hsub l' blk' h2
    exact hl.inj l l' blk0 blk1 b o b' o' hne hg0 hg1 m1 m2
theorem tk_sub {μ : Mu} {hp hp2 : Heap} (h : ∀ k blk, hget hp2 k = some blk → ∃ blk0, hget hp k = some blk0) {b : Nat} (hb : Tk hp2 μ b) : Tk hp μ b := by
  obtain ⟨l, blk, o, hg, hm⟩ := hb
  obtain ⟨blk0, hg0⟩ := h l blk hg
  exact ⟨l, blk0, o, hg0, hm⟩
theorem hs_widen {w w' : World} {μ μ' : Mu} {F F1 F' : Nat → Prop} {hp hp1 hp' : Heap} (hT : ∀ b, Tk hp1 μ b → Tk hp μ b) (hF : ∀ b, F b → F1 b) (hF1 : ∀ b, F1 b → F b ∨ Tk hp μ b) (h : HS ⟨w, Tk hp1 μ, F1⟩ μ' F' hp' w') : HS ⟨w, Tk hp μ, F⟩ μ' F' hp' w' := by
  refine ⟨h.ext.mono fun b hb => ⟨hb.1, fun hh => hb.2 (hT b hh)⟩, fun b hb => h.sub b (hF b hb), fun b hb => ⟨(h.fin b hb).1, ?_⟩, fun l blk hg => ?_, h.inj⟩
  · rcases (h.fin b hb).2 with h1 | h1 | h1
    · rcases hF1 b h1 with h2 | h2
      · exact .inl h2
      · exact .inr (.inl h2)
    · exact .inr (.inl (hT b h1))
    · exact .inr (.inr h1)
  · obtain ⟨q, h1, h2, h3⟩ := h.blk l blk hg
    refine ⟨q, h1, ?_, h3⟩
    cases q with
    | nil => trivial
    | pl b o => exact ⟨h2.1, h2.2.imp (hT b) id⟩
theorem out_widen {w w' : World} {μ : Mu} {F F1 : Nat → Prop} {hp hp1 hp' : Heap} {N : Nat → Prop} {v : Value} {s : SV} (hT : ∀ b, Tk hp1 μ b → Tk hp μ b) (hF : ∀ b, F b → F1 b) (hF1 : ∀ b, F1 b → F b ∨ Tk hp μ b) (h : Out w μ F1 hp1 N hp' v s w') : Out w μ F hp N hp' v s w' := by
  obtain ⟨μ', F', h1, h2, h3, h4⟩ := h
  exact ⟨μ', F', hs_widen hT hF hF1 h1, h2, h3, h4⟩
theorem opOut_widen {P : Program} {w : World} {μ : Mu} {F F1 : Nat → Prop} {hp hp1 hp' : Heap} {N : Nat → Prop} {s : SV} {r : Result Next} (hT : ∀ b, Tk hp1 μ b → Tk hp μ b) (hF : ∀ b, F b → F1 b) (hF1 : ∀ b, F1 b → F b ∨ Tk hp μ b) (h : OpOut P w μ F1 hp1 N hp' s r) : OpOut P w μ F hp N hp' s r := by
  obtain ⟨w', ⟨v, h1, h2⟩ | ⟨h1, h2⟩⟩ := h
  · exact ⟨w', .inl ⟨v, h1, out_widen hT hF hF1 h2⟩⟩
  · exact ⟨w', .inr ⟨h1, out_widen hT hF hF1 h2⟩⟩
structure Frz (w : World) (μ : Mu) (F F1 : Nat → Prop) (hp hp1 : Heap) : Prop where
  lh : LH w μ F1 hp1
  tk : ∀ b, Tk hp1 μ b → Tk hp μ b
  up : ∀ b, F b → F1 b
  dn : ∀ b, F1 b → F b ∨ Tk hp μ b
theorem Frz.refl {w : World} {μ : Mu} {F : Nat → Prop} {hp : Heap} (h : LH w μ F hp) : Frz w μ F F hp hp := ⟨h, fun _ h => h, fun _ h => h, fun _ h => .inl h⟩
theorem Frz.trans {w : World} {μ : Mu} {F F1 F2 : Nat → Prop} {hp hp1 hp2 : Heap} (h : Frz w μ F F1 hp hp1) (k : Frz w μ F1 F2 hp1 hp2) : Frz w μ F F2 hp hp2 :=
  ⟨k.lh, fun b hb => h.tk b (k.tk b hb), fun b hb => k.up b (h.up b hb), fun b hb => by
    rcases k.dn b hb with h1 | h1
    · exact h.dn b h1
    · exact .inr (h.tk b h1)⟩
theorem Frz.out {P : Program} {w : World} {μ : Mu} {F F1 : Nat → Prop} {hp hp1 hp' : Heap} {N : Nat → Prop} {s : SV} {r : Result Next} (f : Frz w μ F F1 hp hp1) (h : OpOut P w μ F1 hp1 N hp' s r) : OpOut P w μ F hp N hp' s r := opOut_widen f.tk f.up f.dn h
theorem Frz.rep {w : World} {μ : Mu} {F F1 : Nat → Prop} {hp hp1 : Heap} (f : Frz w μ F F1 hp hp1) {v : Value} {s : SV} (h : Rep w μ F v s) : Rep w μ F1 v s := h.mono (Ext.refl _ _) f.up (fun _ _ h => h)
theorem frzF_tk {w : World} {μ : Mu} {F : Nat → Prop} {hp : Heap} {ls : List Nat} : ∀ b, FrzF F hp μ ls b → F b ∨ Tk hp μ b := by
  rintro b (h | ⟨l, _, blk, o, hg, hm⟩)
  · exact .inl h
  · exact .inr ⟨l, blk, o, hg, hm⟩
theorem frz_drop {w : World} {μ : Mu} {F : Nat → Prop} {hp : Heap} (hl : LH w μ F hp) (ls : List Nat) : Frz w μ F (FrzF F hp μ ls) hp (hdropL hp ls) := by
  have hsub : ∀ k blk, hget (hdropL hp ls) k = some blk → k ∉ ls ∧ hget hp k = some blk := by
    intro k blk hg
    rw [hget_hdropL] at hg
    split at hg
    · cases hg
    · rename_i h; exact ⟨h, hg⟩
  refine ⟨lh_frz hl fun k blk hg => ?_, fun b hb => tk_sub (fun k blk hg => ⟨blk, (hsub k blk hg).2⟩) hb, fun b hb => .inl hb, frzF_tk (w := w)⟩
  obtain ⟨h1, h2⟩ := hsub k blk hg
  exact ⟨h1, blk, h2, fun q _ hb => hb.mono (Ext.refl _ _) (fun b h => .inl h) (fun _ _ h => h) (fun _ _ _ => rfl)⟩
theorem frzB_sound (P : Program) {w : World} {μ : Mu} {F : Nat → Prop} {hp hp1 : Heap} {l : Nat} {ps : List Prop} (hl : LH w μ F hp) (he : frzB hp l = some (hp1, ps)) (hps : ∀ p ∈ ps, p) : ∃ F1, Frz w μ F F1 hp hp1 := by
  unfold frzB at he
  split at he
  · rename_i cs hg
    split at he
    · cases he
    · split at he
      · rename_i as ps' ls hv
        split at he
        · cases he
        · rename_i hc
          simp only [Option.some.injEq, Prod.mk.injEq] at he
          obtain ⟨rfl, rfl⟩ := he
          have hnl : l ∉ ls := by simpa using hc
          obtain ⟨h3, h4⟩ := viewL_sound (P := P) (G := FrzF F hp μ ls) hl (fun b hb => .inl hb) hv hps (fun b hb => .inr hb)
          have hsub : ∀ k blk, hget (hset (hdropL hp ls) l (some (.cells as))) k = some blk → (k = l ∧ blk = .cells as) ∨ (k ≠ l ∧ k ∉ ls ∧ hget hp k = some blk) := by
            intro k blk hk
            rw [hget_hset] at hk
            split at hk
            · rename_i e; simp only [Option.some.injEq] at hk; exact .inl ⟨e, hk.symm⟩
            · rename_i e
              rw [hget_hdropL] at hk
              split at hk
              · cases hk
              · rename_i h; exact .inr ⟨e, h, hk⟩
          refine ⟨FrzF F hp μ ls, lh_frz hl fun k blk hk => ?_, fun b hb => tk_sub (fun k blk hk => ?_) hb, fun b hb => .inl hb, frzF_tk (w := w)⟩
          · rcases hsub k blk hk with ⟨rfl, rfl⟩ | ⟨h1, h2, h5⟩
            · refine ⟨hnl, _, hg, fun q hq hb => ?_⟩
              cases q with
              | nil => exact hb
              | pl b o =>
                obtain ⟨c, e, hh, hsz, hc1, hc2⟩ := hb
                refine ⟨c, e, hh, by omega, fun i hi => ?_, fun i hi => hc2 i (by omega)⟩
                exact (h4 i _ (by omega) (hc1 i (by omega))).mono (Ext.refl _ _) (fun _ h => h) (fun l q h => by simp [emp] at h)
            · exact ⟨h2, blk, h5, fun q _ hb => hb.mono (Ext.refl _ _) (fun b h => .inl h) (fun _ _ h => h) (fun _ _ _ => rfl)⟩
          · rcases hsub k blk hk with ⟨rfl, rfl⟩ | ⟨h1, h2, h5⟩
            · exact ⟨_, hg⟩
            · exact ⟨_, h5⟩
      · cases he
  · cases he
def frzS (hp : Heap) (s : Option SV) : Option (Heap × List Prop) := match s with
  | some (.row l _ _ _ _) => frzB hp l
  | _ => none
theorem frzS_sound (P : Program) {w : World} {μ : Mu} {F : Nat → Prop} {hp hp1 : Heap} {s : Option SV} {ps : List Prop} (hl : LH w μ F hp) (he : frzS hp s = some (hp1, ps)) (hps : ∀ p ∈ ps, p) : ∃ F1, Frz w μ F F1 hp hp1 := by
  unfold frzS at he
  split at he
  · exact frzB_sound P hl he hps
  · cases he
def absApp (P : Program) (id : Nat) (hp : Heap) (ρ : Operand → Option SV) (o : Oper) (x y : Operand) : Tr (SV × Heap) :=
  match frzS hp (ρ y) with
  | some (hp1, ps) => needAll ps (match frzS hp1 (ρ x) with
    | some (hp2, ps2) => needAll ps2 (absOp P id hp2 ρ o)
    | none => absOp P id hp1 ρ o)
  | none => match frzS hp (ρ x) with
    | some (hp2, ps2) => needAll ps2 (absOp P id hp2 ρ o)
    | none => absOp P id hp ρ o
def frzV (hp : Heap) (p s : SV) : Option (SV × List Prop × List Nat) :=
  match p with
  | .pix l _ _ _ _ _ => match hget hp l with
    | some (.row _ _ _) => match dvsOf (svcells s) with
      | some _ => none
      | none => match view hp s with
        | some (s', ps, ls) => if ls.contains l then none else some (s', ps, ls)
        | none => none
    | _ => none
  | _ => none
def absOpF (P : Program) (id : Nat) (hp : Heap) (ρ : Operand → Option SV) (o : Oper) : Tr (SV × Heap) :=
  match o.op with
  | .call c => match c.callee, c.args.toList with
    | .builtin .append, [x, y] => absApp P id hp ρ o x y
    | _, _ => absOp P id hp ρ o
  | .store t a x => match ρ a, ρ x with
    | some p, some s => match frzV hp p s with
      | some (s', ps, ls) => needAll ps ((absStore P (hdropL hp ls) t p s').bind fun h => .ret (uv, h))
      | none => absOp P id hp ρ o
    | _, _ => .fail
  | _ => absOp P id hp ρ o
theorem absOpF_sound {P : Program} {w : World} {μ : Mu} {F : Nat → Prop} {hp hp' : Heap} {id : Nat} {ρ : Operand → Option SV} {σ : Operand → Value} {o : Oper} {s : SV} (hl : LH w μ F hp) (hid : μ id = none)
    (hρ : ∀ x s, ρ x = some s → Rep w μ F (σ x) s) (he : (absOpF P id hp ρ o).ev (s, hp')) : OpOut P w μ F hp (NewId id o) hp' s ((execOp σ o).run P w) := by
  unfold absOpF at he
  split at he
  · split at he
    · unfold absApp at he
      split at he
      · rename_i hp1 ps h1
        obtain ⟨hps, he⟩ := needAll_ev he
        obtain ⟨F1, f1⟩ := frzS_sound P hl h1 hps
        split at he
        · rename_i hp2 ps2 h2
          obtain ⟨hps2, he⟩ := needAll_ev he
          obtain ⟨F2, f2⟩ := frzS_sound P f1.lh h2 hps2
          have f := f1.trans f2
          exact f.out (absOp_sound f.lh hid (fun x s h => f.rep (hρ x s h)) he)
        · exact f1.out (absOp_sound f1.lh hid (fun x s h => f1.rep (hρ x s h)) he)
      · split at he
        · rename_i hp2 ps2 h2
          obtain ⟨hps2, he⟩ := needAll_ev he
          obtain ⟨F2, f2⟩ := frzS_sound P hl h2 hps2
          exact f2.out (absOp_sound f2.lh hid (fun x s h => f2.rep (hρ x s h)) he)
        · exact absOp_sound hl hid hρ he
    · exact absOp_sound hl hid hρ he
  · rename_i t a x hop
    split at he
    · rename_i p sx hp1 hp2
      split at he
      · rename_i s' ps ls hv
        obtain ⟨hps, hst⟩ := needAll_ev he
        clear he
        unfold frzV at hv
        split at hv
        · split at hv
          · split at hv
            · cases hv
            · split at hv
              · rename_i s2 ps2 ls2 hview
                split at hv
                · cases hv
                · simp only [Option.some.injEq, Prod.mk.injEq] at hv
                  obtain ⟨rfl, rfl, rfl⟩ := hv
                  have f := frz_drop hl ls2
                  have hx : Rep w μ (FrzF F hp μ ls2) (σ x) s2 := (view_sound (P := P) (G := FrzF F hp μ ls2) hl (hρ x _ hp2) hview hps (fun b hb => .inl hb) (fun b hb => .inr hb)).mono (Ext.refl _ _) (fun _ h => h) (fun l q h => by simp [emp] at h)
                  refine f.out ?_
                  have hq : quietOp o.op = false := by rw [hop]; rfl
                  obtain ⟨h', e1, e2⟩ := Tr.ev_bind hst
                  simp only [Tr.ev, Prod.mk.injEq] at e2
                  obtain ⟨rfl, rfl⟩ := e2
                  obtain ⟨w', e3, e4⟩ := absStore_sound f.lh (f.rep (hρ a _ hp1)) hx e1
                  unfold execOp
                  rw [hop]
                  exact ⟨w', .inr ⟨by simp only [Sem.run_bind, e3, Result.andThen, Sem.run_pure], μ, _, e4, .d (.x _), fun _ _ h => h, fun _ _ => rfl⟩⟩
              · cases hv
          · cases hv
        · cases hv
      · exact absOp_sound hl hid hρ he
    · exact he.elim
  · exact absOp_sound hl hid hρ he
end
end Go.Sx
