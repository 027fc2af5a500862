/- Part of a proof of the given statements of this seat (SxZR): no conditions beyond those typed here. -/
import Derived.Test.YtcbjclmjkilphaaSy03
set_option linter.unusedVariables false
set_option linter.unusedSimpArgs false

/- The symbolic executor: a range over a function. -/
namespace Go.Sx
open Go.RowKit
noncomputable section

/-- A function that hands its elements to yield, one after the other; between two calls it leaves what lies as it lies. -/
def SeqN (P : Program) (gf : FuncId) (lb : Array Value) (enc : Nat → Array Value) (N : Nat) (W0 : World) (F : Nat → Prop) : Prop :=
  ∀ (l : Nat) (J : Nat → World → Prop) (W : World),
    (∀ k W, J k W → Ext F W0 W) →
    (∀ k W W', J k W → Ext (fun b => b < W.heap.size) W W' → J k W') →
    (∀ k W1, k < N → J k W1 → YieldAt Fence.wide 0 P l (enc k) W1 fun e W' => e = .returned (.bool true) ∧ J (k + 1) W') →
    J 0 W → CallsIn Fence.wide 0 P gf (#[.func (.yield l) #[] #[]] ++ lb) W fun e W' => (∃ v, e = .returned v) ∧ J N W'

def IterOK (P : Program) (gf : FuncId) (caps : List SV) (N : Nat) (el : Nat → List SV) : Prop :=
  ∀ (W0 : World) (F : Nat → Prop) (vs : Array Value), (∀ b, F b → b < W0.heap.size) → Reps W0 emp F vs caps →
    ∃ enc, (∀ k, k < N → Reps W0 emp F (enc k) (el k)) ∧ SeqN P gf vs enc N W0 F

theorem hs_new {p : Par} {μ : Mu} {F : Nat → Prop} {hp : Heap} {w w' : World} (h : HS p μ F hp w) (he : Ext (fun b => b < w.heap.size) w w') : HS p μ F hp w' := by
  have hl := hs_seq1 h
  have hextF : Ext F w w' := he.mono fun b hb => (hl.fin b hb).1
  refine hs_seq2 h ⟨he.mono fun b hb => hb.1, fun b hb => hb, fun b hb => ⟨Nat.lt_of_lt_of_le (hl.fin b hb).1 he.size, .inl hb⟩, fun l blk hg => ?_, hl.inj⟩
  obtain ⟨q, e1, e2, e3⟩ := hl.blk l blk hg
  refine ⟨q, e1, e2, e3.mono hextF (fun _ h => h) (fun _ _ h => h) ?_⟩
  intro b o hq; subst hq; exact he.keep b e3.lt

theorem turn_put {w : World} {D : Nat} {o : Obj} (o' : Obj) (h : w.heap[D]? = some o) (ho : o.isCells = false) : Turn D w (w.putObj D o') := by
  refine ⟨rfl, rfl, rfl, by simp, fun b hb _ => World.putObj_heap_other hb, fun c e fr hc => ?_⟩
  rw [hc] at h; cases h; simp [Obj.isCells] at ho

/-- What a function value holds, given by value. -/
def capV (hp : Heap) : List SV → Option (List SV × List Nat)
  | [] => some ([], [])
  | .ptr l 0 :: r => match hget hp l, capV hp r with
    | some (.cells cs), some (as, ls) => match dvsOf cs with
      | some ds => some (.rop ds.length (fun j => ds.getD j (.x undef)) :: as, l :: ls)
      | none => none
    | _, _ => none
  | .d v :: r => match capV hp r with
    | some (as, ls) => some (.d v :: as, ls)
    | none => none
  | _ => none

theorem capV_sound {w : World} {μ : Mu} {F : Nat → Prop} {hp : Heap} {G : Nat → Prop} (hl : LH w μ F hp) (hFG : ∀ b, F b → G b) : ∀ {cs as : List SV} {ls : List Nat}, capV hp cs = some (as, ls) → (∀ b, Opens hp μ ls b → G b) →
    as.length = cs.length ∧ ∀ i v, i < cs.length → Rep w μ F v (cs.getD i uv) → Rep w emp G v (as.getD i uv)
  | [], as, ls, he, _ => by
    simp only [capV, Option.some.injEq, Prod.mk.injEq] at he
    obtain ⟨rfl, rfl⟩ := he
    exact ⟨rfl, fun i v hi => by simp at hi⟩
  | .ptr l o :: r, as, ls, he, hG => by
    cases o with
    | succ o => simp [capV] at he
    | zero =>
      simp only [capV] at he
      split at he
      · rename_i cs as' ls' hg hr
        split at he
        · rename_i ds hds
          simp only [Option.some.injEq, Prod.mk.injEq] at he
          obtain ⟨rfl, rfl⟩ := he
          obtain ⟨h3, h4⟩ := capV_sound hl hFG hr (fun b ⟨l', hl', x⟩ => hG b ⟨l', List.mem_cons_of_mem _ hl', x⟩)
          refine ⟨by simp [h3], fun i v hi hrep => ?_⟩
          cases i with
          | succ i => simpa using h4 i v (by simpa using hi) (by simpa using hrep)
          | zero =>
            simp only [List.getD_cons_zero] at hrep ⊢
            cases hrep with
            | ptr _ _ b o hm =>
              obtain ⟨⟨c, e, hh, hsz, hc, hc1⟩, _⟩ := hl.blkAt hg hm
              obtain ⟨hd1, hd2⟩ := dvsOf_spec hds
              refine .rop b o _ _ (fun j => c.getD (o + j) undef) (fun _ => hG b ⟨l, List.mem_cons_self .., _, _, hg, hm⟩) (fun j hj => ?_) (fun j hj => hc1 j (by omega)) (fun j hj => ?_)
              · exact cell_of_heap hh (by omega)
              · have := hc j (by omega)
                rw [hd2 j (by omega)] at this
                exact (rep_d this).mono (Ext.refl _ _) hFG
        · cases he
      · cases he
  | .d x :: r, as, ls, he, hG => by
    simp only [capV] at he
    split at he
    · rename_i as' ls' hr
      simp only [Option.some.injEq, Prod.mk.injEq] at he
      obtain ⟨rfl, rfl⟩ := he
      obtain ⟨h3, h4⟩ := capV_sound hl hFG hr hG
      refine ⟨by simp [h3], fun i v hi hrep => ?_⟩
      cases i with
      | succ i => simpa using h4 i v (by simpa using hi) (by simpa using hrep)
      | zero => exact .d ((rep_d hrep).mono (Ext.refl _ _) hFG)
    · cases he
  | .pix .. :: _, as, ls, he, _ => by simp [capV] at he
  | .row .. :: _, as, ls, he, _ => by simp [capV] at he
  | .rop .. :: _, as, ls, he, _ => by simp [capV] at he
  | .agg .. :: _, as, ls, he, _ => by simp [capV] at he
  | .fn .. :: _, as, ls, he, _ => by simp [capV] at he
  | .tup .. :: _, as, ls, he, _ => by simp [capV] at he
  | .ifc .. :: _, as, ls, he, _ => by simp [capV] at he

/-- The slots at a round's begin. -/
def parTm : List Tmp → List SV → List TV → List TV
  | p :: ps, s :: ss, tm => parTm ps ss (tm.set p (.ok s))
  | _, _, tm => tm

theorem parTm_len : ∀ (ps : List Tmp) (ss : List SV) (tm : List TV), (parTm ps ss tm).length = tm.length
  | [], _, _ => by simp [parTm]
  | p :: ps, [], tm => by simp [parTm]
  | p :: ps, s :: ss, tm => by simp [parTm, parTm_len ps ss]

/-- Slots with no word on other slots. -/
def plainTV : TV → TV
  | .ok s => .ok s
  | .lit b => .lit b
  | _ => .unk
def plain (tm : List TV) : List TV := tm.map plainTV
def isPlain (tm : List TV) : Prop := ∀ t, plainTV (tget tm t) = tget tm t

theorem tget_plain (tm : List TV) (t : Nat) : tget (plain tm) t = plainTV (tget tm t) := by
  simp only [tget_def, plain, List.getD, List.getElem?_map]
  cases tm[t]? <;> rfl

theorem TmOK.plain {w : World} {μ : Mu} {F : Nat → Prop} {tm : List TV} {tmps : Array Value} (h : TmOK w μ F tm tmps) : TmOK w μ F (Sx.plain tm) tmps := by
  intro t
  rw [tget_plain]
  have := h t
  generalize tget tm t = x at this
  cases x <;> first | exact this | trivial

theorem tget_set' (tm : List TV) (p : Nat) (tv : TV) (t : Nat) : tget (tm.set p tv) t = if t = p ∧ p < tm.length then tv else tget tm t := by
  simp only [tget_def, List.getD, List.getElem?_set]
  by_cases h : p = t
  · subst h
    by_cases h2 : p < tm.length
    · simp [h2]
    · simp [h2]
  · rw [if_neg h, if_neg (fun hh => h hh.1.symm)]

theorem isPlain_set {tm : List TV} (h : isPlain tm) (p : Nat) (s : SV) : isPlain (tm.set p (.ok s)) := by
  intro t; rw [tget_set']; split
  · rfl
  · exact h t

theorem TmOK.set1 {w : World} {μ : Mu} {F : Nat → Prop} {tm : List TV} {tmps : Array Value} (h : TmOK w μ F tm tmps) (hp : isPlain tm) {p : Nat} {v : Value} {s : SV} (hr : Rep w μ F v s) (hlen : tm.length ≤ tmps.size) : TmOK w μ F (tm.set p (.ok s)) (tmps.setIfInBounds p v) := by
  intro t
  rw [tget_set']
  by_cases h1 : t = p ∧ p < tm.length
  · rw [if_pos h1]
    obtain ⟨rfl, h2⟩ := h1
    have h3 : t < tmps.size := by omega
    simp only [RepT]
    simpa [Array.getD, h3] using hr
  · rw [if_neg h1]
    by_cases e : t = p
    · have : tget tm t = .unk := by
        rw [tget_def, List.getD, List.getElem?_eq_none (by omega)]; rfl
      rw [this]; trivial
    · have e2 : (tmps.setIfInBounds p v).getD t undef = tmps.getD t undef := by
        have e' : ¬ p = t := fun h => e h.symm
        simp [Array.getD_eq_getD_getElem?, Array.getElem?_setIfInBounds, e']
      rw [e2]
      have h2 := h t
      have h3 := hp t
      generalize tget tm t = x at h2 h3
      cases x with
      | ok s => exact h2
      | lit b => exact h2
      | unk => trivial
      | cnd => cases h3
      | tag => cases h3

theorem parTm_ok {w : World} {μ : Mu} {F : Nat → Prop} : ∀ (ps : List Tmp) (ss : List SV) (vs : List Value) (tm : List TV) (tmps : Array Value), TmOK w μ F tm tmps → isPlain tm → tm.length ≤ tmps.size → vs.length = ss.length → (∀ i, i < ss.length → Rep w μ F (vs.getD i undef) (ss.getD i uv)) →
    TmOK w μ F (parTm ps ss tm) ((ps.zip vs).foldl (fun t (pv : Tmp × Value) => t.setIfInBounds pv.1 pv.2) tmps)
  | [], ss, vs, tm, tmps, h, _, _, _, _ => by simpa [parTm] using h
  | p :: ps, [], vs, tm, tmps, h, _, _, hl, _ => by
    obtain rfl : vs = [] := by simpa using hl
    simpa [parTm] using h
  | p :: ps, s :: ss, [], tm, tmps, h, _, _, hl, _ => by simp at hl
  | p :: ps, s :: ss, v :: vs, tm, tmps, h, hp, hlen, hl, hr => by
    simp only [parTm, List.zip_cons_cons, List.foldl_cons]
    exact parTm_ok ps ss vs _ _ (h.set1 hp (by simpa using hr 0 (by simp)) hlen) (isPlain_set hp p s) (by simpa using hlen) (by simpa using hl) (fun i hi => by simpa using hr (i + 1) (by simpa using hi))

theorem fold_size : ∀ (l : List (Tmp × Value)) (t : Array Value), (l.foldl (fun t (pv : Tmp × Value) => t.setIfInBounds pv.1 pv.2) t).size = t.size
  | [], t => rfl
  | a :: l, t => by simp [fold_size l]

/-- The slots that are kept. -/
def keepTm (keep : List Nat) : Nat → List TV → List TV
  | _, [] => []
  | t, a :: r => (if keep.contains t then plainTV a else .unk) :: keepTm keep (t + 1) r

theorem keepTm_len (keep : List Nat) : ∀ (t : Nat) (tm : List TV), (keepTm keep t tm).length = tm.length
  | _, [] => rfl
  | t, a :: r => by simp [keepTm, keepTm_len keep (t + 1) r]

theorem tget_keep (keep : List Nat) : ∀ (tm : List TV) (t k : Nat), tget (keepTm keep t tm) k = .unk ∨ tget (keepTm keep t tm) k = plainTV (tget tm k)
  | [], t, k => .inl (by simp [keepTm, tget_def])
  | a :: r, t, 0 => by
    by_cases h : keep.contains t = true
    · right; simp only [keepTm, if_pos h]; rfl
    · left; simp only [keepTm, if_neg h]; rfl
  | a :: r, t, k + 1 => by
    have := tget_keep keep r (t + 1) k
    simpa [keepTm, tget_def] using this

theorem isPlain_keep (keep : List Nat) (tm : List TV) : isPlain (keepTm keep 0 tm) := by
  intro t
  rcases tget_keep keep tm 0 t with h | h
  · rw [h]; rfl
  · rw [h]; cases tget tm t <;> rfl

theorem TmOK.keep {w : World} {μ : Mu} {F : Nat → Prop} {tm : List TV} {tmps : Array Value} (h : TmOK w μ F tm tmps) (keep : List Nat) : TmOK w μ F (keepTm keep 0 tm) tmps := by
  intro t
  rcases tget_keep keep tm 0 t with h1 | h1
  · rw [h1]; trivial
  · rw [h1, ← tget_plain]; exact h.plain t

theorem ext_turn {w w' : World} {D : Nat} (h : Turn D w w') {F : Nat → Prop} (hF : ∀ b, F b → b < w.heap.size ∧ b ≠ D) : Ext F w w' :=
  ⟨h.os, h.tape, h.output, h.size, fun b hb => h.other b (hF b hb).2 (hF b hb).1, h.bsz⟩

theorem hs_seq3 {p : Par} {μ μ' : Mu} {F F' : Nat → Prop} {T : Nat → Prop} {hp hp' : Heap} {w w' : World} (h : HS p μ F hp w) (hT : ∀ b, T b → p.T b ∨ p.w0.heap.size ≤ b) (k : HS ⟨w, T, F⟩ μ' F' hp' w') : HS p μ' F' hp' w' := by
  have hsz := h.ext.size
  have hplc : ∀ b, T b ∨ w.heap.size ≤ b → p.T b ∨ p.w0.heap.size ≤ b := fun b hb => hb.elim (hT b) fun hb => .inr (by omega)
  refine ⟨h.ext.trans (k.ext.mono fun b hb => ⟨by have := hb.1; simp only; omega, fun ht => ?_⟩), fun b hb => k.sub b (h.sub b hb), fun b hb => ⟨(k.fin b hb).1, ?_⟩, fun l blk hg => ?_, k.inj⟩
  · rcases hT b ht with h1 | h1
    · exact hb.2 h1
    · have := hb.1; omega
  · rcases (k.fin b hb).2 with h1 | h1 | h1
    · exact (h.fin b h1).2
    · exact .inr (hT b h1)
    · exact .inr (hplc b (.inr h1))
  · obtain ⟨q, h1, h2, h3⟩ := k.blk l blk hg
    refine ⟨q, h1, ?_, h3⟩
    cases q with
    | nil => trivial
    | pl b o => exact ⟨h2.1, hplc b h2.2⟩

theorem hs_up {w : World} {μ : Mu} {F : Nat → Prop} {hp : Heap} (h : LH w μ F hp) {T : Nat → Prop} (hT : ∀ b, Tk hp μ b → T b) : HS ⟨w, T, F⟩ μ F hp w := by
  refine ⟨Ext.refl _ _, fun b hb => hb, fun b hb => ⟨(h.fin b hb).1, .inl hb⟩, fun l blk hg => ?_, h.inj⟩
  obtain ⟨q, h1, h2, h3⟩ := h.blk l blk hg
  refine ⟨q, h1, ?_, h3⟩
  cases q with
  | nil => trivial
  | pl b o => exact ⟨h2.1, .inl (hT b ⟨l, blk, o, hg, h1⟩)⟩

theorem not_tk {w : World} {μ : Mu} {F : Nat → Prop} {hp : Heap} (hl : LH w μ F hp) {D : Nat} {o : Obj} (h : w.heap[D]? = some o) (ho : o.isCells = false) : ¬ Tk hp μ D := fun ht => by
  obtain ⟨c, e, fr, hc⟩ := tk_cells hl ht
  rw [hc] at h; cases h; simp [Obj.isCells] at ho

/-- A range over a function. -/
theorem range_triple {P : Program} {gf : FuncId} {t : Tmp} {ps : Array Tmp} {assign body : Code} {st : AS} {caps as : List SV} {ls : List Nat} {N n0 : Nat} {el : Nat → List SV} {keep : List Nat} {h' : Hint}
    (hn : st.next ≤ n0) (hg : tvStrict none (tget st.tm t) = some (.fn (.func gf) [] caps)) (hcap : capV st.hp caps = some (as, ls)) (hit : IterOK P gf as N el) (hps : ∀ k, k < N → (el k).length = ps.size)
    (eg : ∀ args w, (callFunc gf args).run P w = .ok (.enter gf args) w) (hna : noRange assign = true) (hnb : noRange body = true)
    (I : Nat → AS → Prop) (h0 : ∃ s, I 0 s ∧ Gc n0 { st with hp := hdropL st.hp ls, next := n0 } s)
    (hb : ∀ k s, k < N → I k s → Triple P assign ⟨parTm ps.toList (el k) (keepTm keep 0 st.tm), s.hp, s.next, s.hint⟩ fun e s1 => e = .normal ∧ Triple P body s1 fun e s2 => e = .normal ∧ ∃ s3, I (k + 1) s3 ∧ Gc n0 s2 s3) :
    Triple P (.rangeFunc (.tmp t) ps assign body) st fun e s' => e = .normal ∧ ∃ s, I N s ∧ s' = ⟨keepTm keep 0 st.tm, s.hp, s.next, h'⟩ := by
  rintro p μ0 a w ⟨μ1, F0, hh, hf, hμ0, ht, hsz, Ds, hds, hnd, hD⟩ r hr
  obtain rfl : r = none := by
    rcases hr with h | h
    · exact h
    · cases h
  show Code.wpIn Fence.wide 0 P _ _ a w
  -- what the function holds is given up
  have hl := hs_seq1 hh
  have fz := frz_drop hl ls
  obtain ⟨F1, hF1⟩ : ∃ F1, F1 = FrzF F0 st.hp μ1 ls := ⟨_, rfl⟩
  rw [← hF1] at fz
  have hh1 : HS p μ1 F1 (hdropL st.hp ls) w := hs_seq2 hh (hs_widen fz.tk fz.up fz.dn fz.lh)
  obtain ⟨TM, hTM⟩ : ∃ TM, TM = keepTm keep 0 st.tm := ⟨_, rfl⟩
  have hTMp : isPlain TM := by rw [hTM]; exact isPlain_keep _ _
  have hTMl : TM.length ≤ a.tmps.size := by rw [hTM, keepTm_len]; exact hsz
  have ht1 : TmOK w μ1 F1 TM a.tmps := by rw [hTM]; exact fun t => (TmOK.keep ht keep t).mono (Ext.refl _ _) fz.up (fun _ _ h => h)
  rw [← hTM] at hb ⊢
  -- the function value
  obtain ⟨lb, hval, hlb⟩ : ∃ lb, a.eval (.tmp t) = .func (.func gf) #[] lb ∧ Reps w μ1 F0 lb caps := by
    have hrep := tvStrict_sound (ht t) (fun g b e => by cases e) hg
    have : a.eval (.tmp t) = a.tmps.getD t undef := rfl
    rw [this]
    generalize a.tmps.getD t undef = v at hrep
    cases hrep with
    | fn f fs cs _ _ h1 h2 _ h4 =>
      have : fs = #[] := by apply Array.eq_empty_of_size_eq_zero; simpa using h1
      subst this
      exact ⟨cs, rfl, h2, h4⟩
  have hF1lt : ∀ b, F1 b → b < w.heap.size := fun b hb => (fz.lh.fin b hb).1
  have has : Reps w emp F1 lb as := by
    obtain ⟨h1, h2⟩ := capV_sound (G := F1) hl fz.up hcap (fun b hb => by rw [hF1]; exact .inr hb)
    exact ⟨by rw [h1]; exact hlb.1, fun i hi => h2 i _ (by omega) (hlb.2 i (by omega))⟩
  obtain ⟨enc, henc, hseq⟩ := hit w F1 lb hF1lt has
  have hfr : ∀ l, n0 ≤ l → μ1 l = none := fun l hl => hf l (Nat.le_trans hn hl)
  -- at the entry
  obtain ⟨s0, hI0, hG0⟩ := h0
  refine wpIn_rangeFunc ?_
  intro fn hfn
  obtain ⟨rec, hrec⟩ : ∃ rec : LoopState → Option Code → Loop, rec = fun st pe => { state := st, pending := pe, fn, tmps := a.tmps, params := ps, assign, body, defers := w.heap.size } := ⟨_, rfl⟩
  obtain ⟨W1, hW1⟩ : ∃ W1, (w.alloc (.deferred (some []))).alloc (.loop (rec .ready none)) = W1 := ⟨_, rfl⟩
  have hL1 : W1.heap[w.heap.size + 1]? = some (.loop (rec .ready none)) := by
    rw [← hW1]; have := World.alloc_heap_new (w.alloc (.deferred (some []))) (.loop (rec .ready none)); rwa [World.size_alloc] at this
  have hK1 : W1.heap[w.heap.size]? = some (.deferred (some [])) := by
    rw [← hW1]; exact (Below.heap_alloc _ _ _ (by simp)).trans (World.alloc_heap_new w _)
  have hnew : Ext (fun b => b < w.heap.size) w W1 := by
    rw [← hW1]
    exact (Ext.alloc _ w _ fun b hb => hb).trans (Ext.alloc _ _ _ fun b hb => by simp; omega)
  obtain ⟨J, hJ⟩ : ∃ J : Nat → World → Prop, J = fun k W => ∃ s μ F, I k s ∧ HS p μ F s.hp W ∧ Fresh s.next μ ∧ (∀ l q, μ1 l = some q → μ l = some q) ∧ TmOK W μ1 F TM a.tmps ∧ (∀ b, F1 b → F b) ∧ Ext F1 w W ∧
      W.heap[w.heap.size + 1]? = some (.loop (rec .ready none)) ∧ W.heap[w.heap.size]? = some (.deferred (some [])) ∧ ¬ F (w.heap.size + 1) ∧ ¬ F w.heap.size ∧ (∀ D ∈ Ds, W.heap[D]? = some (.deferred (some [])) ∧ ¬ F D) := ⟨_, rfl⟩
  have hp0 : p.w0.heap.size ≤ w.heap.size := hh.ext.size
  have hDlt : ∀ D ∈ Ds, D < w.heap.size := fun D h => (Array.getElem?_eq_some_iff.1 (hD D h).2.1).1
  refine ⟨w.heap.size + 1, [{ target := .collected w.heap.size, args := #[] }], W1, { target := .fn (.func gf) lb, args := #[.func (.yield (w.heap.size + 1)) #[] #[]] }, W1, gf,
    #[.func (.yield (w.heap.size + 1)) #[] #[]] ++ lb, W1, ?_, ?_, ?_, ?_, (fun h => nomatch h), ?_⟩
  · rw [← hW1, hrec]; exact run_enterLoop_outer _ _ _ _ _
  · simp only [resolve, hval]
    simp [go_sem]
  · intro f' hf'; trivial
  · simp [invoke, go_sem, eg]
  refine (hseq (w.heap.size + 1) J W1 ?_ ?_ ?_ ?_).mono ?_
  · rw [hJ]
    rintro k W ⟨s, μ, F, _, _, _, _, _, _, he, _⟩
    exact he
  · rw [hJ]
    rintro k W W' ⟨s, μ, F, j1, j2, j3, j4, j5, j6, j7, j8, j9, j10, j11, j12⟩ he
    have hFe : Ext F W W' := he.mono fun b hb => (j2.fin b hb).1
    refine ⟨s, μ, F, j1, hs_new j2 he, j3, j4, fun t => (j5 t).mono hFe (fun _ h => h) (fun _ _ h => h), j6, j7.trans (hFe.mono j6), ?_, ?_, j10, j11, fun D hD => ⟨?_, (j12 D hD).2⟩⟩
    · rw [he.keep _ (Array.getElem?_eq_some_iff.1 j8).1]; exact j8
    · rw [he.keep _ (Array.getElem?_eq_some_iff.1 j9).1]; exact j9
    · rw [he.keep _ (Array.getElem?_eq_some_iff.1 (j12 D hD).1).1]; exact (j12 D hD).1
  · -- one round
    rw [hJ]
    rintro k W hk ⟨s, μ, F, j1, j2, j3, j4, j5, j6, j7, j8, j9, j10, j11, j12⟩
    have hlW := hs_seq1 j2
    have hesz : (enc k).size = (el k).length := (henc k hk).1
    have hy := run_yield (P := P) (args := enc k) j8 (by rw [hrec, hesz]; exact hps k hk)
    rw [hrec] at hy
    refine ⟨fn, _, assign, body, hy, roundIn_of_wpIn (F := Fence.wide) (n := 0) trivial ?_⟩
    have hfold : (ps.zip (enc k)).foldl (fun (tmps : Array Value) ((t, a) : Tmp × Value) => tmps.setIfInBounds t a) a.tmps = (ps.toList.zip (enc k).toList).foldl (fun t (pv : Tmp × Value) => t.setIfInBounds pv.1 pv.2) a.tmps := by
      rw [← Array.foldl_toList, Array.toList_zip]
    have hS : Sim ⟨W, Tk s.hp μ, F⟩ μ1 ⟨parTm ps.toList (el k) TM, s.hp, s.next, s.hint⟩ { tmps := (ps.zip (enc k)).foldl (fun tmps (t, a) => tmps.setIfInBounds t a) a.tmps, defers := [] } W := by
      refine ⟨μ, F, hlW, j3, j4, ?_, ?_, Marks.nil _ _ _⟩
      · show TmOK W μ F _ _
        rw [hfold]
        refine parTm_ok _ _ _ _ _ (fun t => (j5 t).mono (Ext.refl _ _) (fun _ h => h) j4) hTMp hTMl (by simpa using hesz) fun i hi => ?_
        have := ((henc k hk).2 i hi).mono j7 j6 (μ' := μ) (fun l q h => by simp [emp] at h)
        have e2 : (enc k).toList.getD i undef = (enc k).getD i undef := by simp [List.getD, Array.getD_eq_getD_getElem?]
        rw [e2]; exact this
      · show (parTm ps.toList (el k) TM).length ≤ Array.size _
        rw [hfold, fold_size, parTm_len]; exact hTMl
    refine Go.wpIn_mono (hb k s hk j1 _ μ1 _ W hS (some (w.heap.size + 1)) (.inr hna)) ?_
    rintro e a1 W2 hc
    cases e with
    | normal =>
      obtain ⟨s1, ⟨_, hT2⟩, μ2, F2, i1, i2, i3, i4, i5, Ds1, i6, i7, i8⟩ := hc
      have m1 := mark_step (p := p) hlW i1 j8 rfl j10
      have m2 := mark_step (p := p) hlW i1 j9 rfl j11
      have m3 : ∀ D ∈ Ds, W2.heap[D]? = some (.deferred (some [])) ∧ ¬ F2 D := fun D hD => mark_step (p := p) hlW i1 (j12 D hD).1 rfl (j12 D hD).2
      have c1 : HS p μ2 F2 s1.hp W2 := hs_seq2 j2 i1
      have hne1 : ∀ (E : Nat) (o : Obj), W.heap[E]? = some o → o.isCells = false → E ∉ Ds1 := by
        intro E o hE ho hm
        rcases (i8 E hm).1 with h | h
        · have := (Array.getElem?_eq_some_iff.1 hE).1; simp only at h; omega
        · exact not_tk hlW hE ho h
      obtain ⟨W3, hW3⟩ : ∃ W3, W3 = W2.putObj (w.heap.size + 1) (.loop { rec .ready none with state := .busy }) := ⟨_, rfl⟩
      have t1 : Turn (w.heap.size + 1) W2 W3 := by rw [hW3]; exact turn_put _ m1.1 rfl
      have c2 : HS p μ2 F2 s1.hp W3 := c1.turn t1 (.inl (by omega))
      have hl3 := hs_seq1 c2
      have hL3 : W3.heap[w.heap.size + 1]? = some (.loop { rec .ready none with state := .busy }) := by
        rw [hW3]; exact World.putObj_heap_same (Array.getElem?_eq_some_iff.1 m1.1).1
      have hoth : ∀ E, E ≠ w.heap.size + 1 → W3.heap[E]? = W2.heap[E]? := fun E hE => by rw [hW3]; exact World.putObj_heap_other hE
      have hDs1 : ∀ D ∈ Ds1, D ≠ w.heap.size + 1 := fun D hD e => hne1 _ _ j8 rfl (e ▸ hD)
      obtain ⟨T2, hT2d⟩ : ∃ T2, T2 = fun b => Tk s1.hp μ2 b ∨ b ∈ Ds1 := ⟨_, rfl⟩
      have hS2 : Sim ⟨W3, T2, F2⟩ μ1 s1 a1 W3 := by
        refine ⟨μ2, F2, hs_up hl3 (fun b h => by rw [hT2d]; exact .inl h), i2, i3, i4.turn t1, i5, Ds1, i6, i7, fun D hD => ⟨.inr (by rw [hT2d]; exact .inr hD), ?_, (i8 D hD).2.2⟩⟩
        rw [hoth D (hDs1 D hD)]; exact (i8 D hD).2.1
      refine ⟨W3, by rw [hW3]; exact run_beginRound m1.1 (by rw [hrec]), ?_⟩
      refine Go.wpIn_mono (hT2 _ μ1 a1 W3 hS2 (some (w.heap.size + 1)) (.inr hnb)) ?_
      rintro e a3 W4 hc
      cases e with
      | normal =>
        obtain ⟨s2, ⟨_, s3, hI3, hgc⟩, hS3⟩ := hc
        obtain ⟨μ4, F4, k1, k2, k3, _⟩ := hgc _ μ1 _ _ hfr hS3
        have hTT : ∀ b, T2 b → p.T b ∨ p.w0.heap.size ≤ b := by
          rw [hT2d]
          rintro b (hb | hb)
          · exact tk_par c2 hb
          · rcases (i8 b hb).1 with h | h
            · exact .inr (Nat.le_trans j2.ext.size h)
            · exact tk_par j2 h
        have c4 : HS p μ4 F4 s3.hp W4 := hs_seq3 c2 hTT k1
        have keep4 : ∀ (E : Nat) (o : Obj), W3.heap[E]? = some o → o.isCells = false → ¬ F2 E → E ∉ Ds1 → W4.heap[E]? = some o ∧ ¬ F4 E := by
          intro E o hE ho hF hn
          have hnT : ¬ T2 E := by
            rw [hT2d]; rintro (h | h)
            · exact not_tk hl3 hE ho h
            · exact hn h
          have hlt := (Array.getElem?_eq_some_iff.1 hE).1
          refine ⟨(k1.ext.keep E ⟨hlt, hnT⟩).trans hE, fun hf => ?_⟩
          rcases (k1.fin E hf).2 with h1 | h1 | h1
          · exact hF h1
          · exact hnT h1
          · simp only at h1; omega
        have hF2T : ∀ b, F2 b → ¬ T2 b := by
          rw [hT2d]; rintro b hb (⟨l, blk, o, hg, hm⟩ | h)
          · exact (hl3.blkAt hg hm).2 hb
          · exact (i8 b h).2.2 hb
        have m4 := keep4 _ _ hL3 rfl m1.2 (hne1 _ _ j8 rfl)
        have m5 := keep4 _ _ ((hoth w.heap.size (by omega)).trans m2.1) rfl m2.2 (hne1 _ _ j9 rfl)
        obtain ⟨W5, hW5⟩ : ∃ W5, W5 = W4.putObj (w.heap.size + 1) (.loop (rec .ready none)) := ⟨_, rfl⟩
        have t2 : Turn (w.heap.size + 1) W4 W5 := by rw [hW5]; exact turn_put _ m4.1 rfl
        have hoth5 : ∀ E, E ≠ w.heap.size + 1 → W5.heap[E]? = W4.heap[E]? := fun E hE => by rw [hW5]; exact World.putObj_heap_other hE
        have eA : Ext F W W2 := ext_F hlW i1
        have eB : Ext F2 W2 W3 := ext_turn t1 fun b hb => ⟨(c1.fin b hb).1, fun e => m1.2 (e ▸ hb)⟩
        have eC : Ext F2 W3 W4 := k1.ext.mono fun b hb => ⟨(c2.fin b hb).1, hF2T b hb⟩
        have eD : Ext F4 W4 W5 := ext_turn t2 fun b hb => ⟨(c4.fin b hb).1, fun e => m4.2 (e ▸ hb)⟩
        have s24 : ∀ b, F2 b → F4 b := k1.sub
        have s12 : ∀ b, F b → F2 b := i1.sub
        have eAll : Ext F W W5 := eA.trans (((eB.trans eC).trans (eD.mono s24)).mono s12)
        have hrun := run_endRound (P := P) none m4.1
        refine ⟨_, W5, ?_, rfl, s3, μ4, F4, hI3, c4.turn t2 (.inl (by omega)), k2, k3, fun t => (j5 t).mono eAll (fun b h => s24 b (s12 b h)) (fun _ _ h => h), fun b h => s24 b (s12 b (j6 b h)), j7.trans (eAll.mono j6), ?_, ?_, m4.2, m5.2, fun D hD => ?_⟩
        · rw [hW5, hrun]; rw [hrec]; rfl
        · rw [hW5]; exact World.putObj_heap_same (Array.getElem?_eq_some_iff.1 m4.1).1
        · rw [hoth5 _ (by omega)]; exact m5.1
        · have hlt := hDlt D hD
          have m6 := keep4 _ _ ((hoth D (by omega)).trans (m3 D hD).1) rfl (m3 D hD).2 (hne1 _ _ (j12 D hD).1 rfl)
          rw [hoth5 _ (by omega)]; exact m6
      | exit id => obtain ⟨_, ⟨h, _⟩, _⟩ := hc; cases h
      | ret => obtain ⟨_, ⟨h, _⟩, _⟩ := hc; cases h
      | _ => exact hc.elim
    | exit id => obtain ⟨_, ⟨h, _⟩, _⟩ := hc; cases h
    | ret => obtain ⟨_, ⟨h, _⟩, _⟩ := hc; cases h
    | _ => exact hc.elim
  · -- at the entry
    have hS0 : Sim ⟨w, Tk (hdropL st.hp ls) μ1, F1⟩ μ1 { st with hp := hdropL st.hp ls, next := n0 } { a with defers := [] } w :=
      ⟨μ1, F1, fz.lh, hfr, fun _ _ h => h, fun t => (ht t).mono (Ext.refl _ _) fz.up (fun _ _ h => h), hsz, Marks.nil _ _ _⟩
    obtain ⟨μ2, F2, e1, e2, e3, _⟩ := hG0 _ μ1 _ _ hfr hS0
    have hlt2 : ∀ b, F2 b → b < w.heap.size := fun b hb => (e1.fin b hb).1
    have hF2e : Ext F2 w W1 := hnew.mono hlt2
    have c0 : HS p μ2 F2 s0.hp w := hs_seq2 hh1 e1
    rw [hJ]
    refine ⟨s0, μ2, F2, hI0, hs_new c0 hnew, e2, e3, fun t => (ht1 t).mono (hF2e.mono e1.sub |>.mono fun _ h => h) e1.sub (fun _ _ h => h), e1.sub, hF2e.mono e1.sub, hL1, hK1, fun h => by have := hlt2 _ h; omega, fun h => by have := hlt2 _ h; omega, fun D hd1 => ?_⟩
    have h1 := hD D hd1
    have hnF1 : ¬ F1 D := fun h => by
      rcases fz.dn D h with h2 | h2
      · exact h1.2.2 h2
      · exact not_tk hl h1.2.1 rfl h2
    have h2 := mark_step (p := p) fz.lh e1 h1.2.1 rfl hnF1
    exact ⟨by rw [hnew.keep D (hDlt D hd1)]; exact h1.2.1, h2.2⟩
  · -- behind it
    rw [hJ]
    rintro e W ⟨⟨v, rfl⟩, s, μ, F, j1, j2, j3, j4, j5, j6, j7, j8, j9, j10, j11, j12⟩
    obtain ⟨W5, hW5⟩ : ∃ W5, W5 = W.putObj (w.heap.size + 1) (.loop { rec .ready none with state := .exhausted }) := ⟨_, rfl⟩
    have t2 : Turn (w.heap.size + 1) W W5 := by rw [hW5]; exact turn_put _ j8 rfl
    have hoth5 : ∀ E, E ≠ w.heap.size + 1 → W5.heap[E]? = W.heap[E]? := fun E hE => by rw [hW5]; exact World.putObj_heap_other hE
    refine ⟨none, W5, ?_, ⟨TM, s.hp, s.next, h'⟩, ⟨rfl, s, j1, rfl⟩, μ, F, j2.turn t2 (.inl (by omega)), j3, fun l q h => j4 l q (hμ0 l q h), ?_, hTMl, w.heap.size :: Ds, ?_, ?_, ?_⟩
    · have := run_endLoop (P := P) j8 (by rw [hrec]; simp)
      rw [hW5, this]; rw [hrec]
    · exact TmOK.turn t2 fun t => (j5 t).mono (Ext.refl _ _) (fun _ h => h) j4
    · simp [hds, markOf]
    · exact List.nodup_cons.2 ⟨fun h => by have := hDlt _ h; omega, hnd⟩
    · intro D hd1
      rcases List.mem_cons.1 hd1 with rfl | hd1
      · exact ⟨.inl hp0, by rw [hoth5 _ (by omega)]; exact j9, j11⟩
      · have := hDlt D hd1
        exact ⟨(hD D hd1).1, by rw [hoth5 _ (by omega)]; exact (j12 D hd1).1, (j12 D hd1).2⟩

/-- One round: the assignments, the body, and the state cut down. -/
def roundT (P : Program) (C : Ctx) (dr : Dr) (n n0 : Nat) (roots : List (Root × Nat)) (drop : List Nat) (nx : Nat) (h : Hint) (assign body : Code) (st : AS) : Tree (Ex × AS) :=
  (exec P C dr n assign st).bind fun r => match r.1 with
    | .normal => cutT n0 roots [] drop nx h (exec P C dr n body r.2)
    | _ => .fail

/-- The state at the loop, cut down. -/
def entR {α : Type} (n0 : Nat) (ls : List Nat) (roots : List (Root × Nat)) (drop : List Nat) (nx : Nat) (h : Hint) (t : Tree α) : Option AS :=
  frcO (gcA n0 roots [] drop nx h { codeS t with hp := hdropL (codeS t).hp ls, next := n0 })
theorem entR_sound {α : Type} {n0 : Nat} {ls : List Nat} {roots : List (Root × Nat)} {drop : List Nat} {nx : Nat} {h : Hint} {t : Tree α} {s' : AS} (he : entR n0 ls roots drop nx h t = some s') : Gc n0 { codeS t with hp := hdropL (codeS t).hp ls, next := n0 } s' := by
  unfold entR at he; rw [frcO_eq] at he; exact gcA_sound he

def rgA : Code → Code
  | .rangeFunc _ _ a _ => a
  | _ => .skip
def rgB : Code → Code
  | .rangeFunc _ _ _ b => b
  | _ => .skip
/-- The ranges over functions of a text. -/
def rangesIn : Code → List Code
  | .seq a b => rangesIn a ++ rangesIn b
  | .cond _ a b => rangesIn a ++ rangesIn b
  | .block _ a => rangesIn a
  | .loop a => rangesIn a
  | .rangeFunc g ps a b => [.rangeFunc g ps a b]
  | _ => []
def rangeN (c : Code) (n : Nat) : Code := (rangesIn c).getD n .skip

theorem range_satS {α : Type} {P : Program} {C : Ctx} {dr : Dr} (hC : CtxOK P C) (hD : DrOK P C dr) {n n0 nx : Nat} {c assign body : Code} {t : Tmp} {ps : Array Tmp} {st : AS} {k : Ex → AS → Tree α} {Q : α → Prop} {roots : List (Root × Nat)} {drop keep ls : List Nat} {h h' : Hint}
    {gf : FuncId} {caps as : List SV} {N : Nat} {el : Nat → List SV} {TM : List TV}
    (hc : c = .rangeFunc (.tmp t) ps assign body) (hn : Nat.ble st.next n0 = true) (hg : tvStrict none (tget st.tm t) = some (.fn (.func gf) [] caps)) (hcap : capV st.hp caps = some (as, ls)) (hit : IterOK P gf as N el)
    (hps : ∀ k, k < N → (el k).length = ps.size) (eg : ∀ args w, (callFunc gf args).run P w = .ok (.enter gf args) w) (hna : noRange assign = true) (hnb : noRange body = true) (hTM : keepTm keep 0 st.tm = TM)
    (I : Nat → AS → Prop) (h0 : ∃ s, I 0 s ∧ Gc n0 { st with hp := hdropL st.hp ls, next := n0 } s)
    (hb : ∀ k s, k < N → I k s → Sat P (roundT P C dr n n0 roots drop nx h assign body ⟨parTm ps.toList (el k) TM, s.hp, s.next, s.hint⟩) fun r => r.1 = .normal ∧ ∃ s3, I (k + 1) s3 ∧ Gc n0 r.2 s3)
    (hk : ∀ s, I N s → Sat P (k .normal ⟨TM, s.hp, s.next, h'⟩) Q) : (Tree.code c st k).sat P Q := by
  subst hc
  subst hTM
  refine ⟨_, range_triple (h' := h') (keep := keep) (Nat.le_of_ble_eq_true hn) hg hcap hit hps eg hna hnb I h0 fun k s hk hI => ?_, ?_⟩
  · refine (exec_sound hC hD n assign _ _ (Tree.sat_bind (hb k s hk hI).ok)).mono fun e s1 hq => ?_
    cases e with
    | normal =>
      refine ⟨rfl, (exec_sound hC hD n body _ _ (Tree.sat_bind hq)).mono fun e s2 hq => ?_⟩
      split at hq
      · rename_i s4 hg
        have hg := gcA_sound hg
        obtain ⟨h1, s3, h2, h3⟩ := hq
        exact ⟨h1, s3, h2, hg.trans h3⟩
      · exact hq.elim
    | _ => exact hq.elim
  · rintro e s' ⟨rfl, s, hI, rfl⟩
    exact (hk s hI).ok

end
end Go.Sx

