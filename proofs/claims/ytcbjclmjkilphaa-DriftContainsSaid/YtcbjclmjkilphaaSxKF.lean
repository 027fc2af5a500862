/- The symbolic executor: rows that are put into a row become values that stay. -/
import Derived.Test.YtcbjclmjkilphaaSxK
set_option linter.unusedVariables false
set_option linter.unusedSimpArgs false
namespace Go.Sx
noncomputable section

def hdropL (hp : Heap) (ls : List Nat) : Heap := ls.foldl (fun h l => hset h l none) hp

theorem hget_hdropL (ls : List Nat) : ∀ (hp : Heap) (k : Nat), hget (hdropL hp ls) k = if k ∈ ls then none else hget hp k := by
  induction ls with
  | nil => intro hp k; simp [hdropL]
  | cons l r ih =>
    intro hp k
    show hget (hdropL (hset hp l none) r) k = _
    rw [ih, hget_hset]
    by_cases h1 : k ∈ r
    · simp [h1]
    · by_cases h2 : k = l
      · simp [h2]
      · simp [h1, h2]

/-- The cells of a block, its rows taken as values that stay; the rows' blocks are given up. -/
def frzB (hp : Heap) (l : Nat) : Option (Heap × List Prop) :=
  match hget hp l with
  | some (.cells cs) => match dvsOf cs with
    | some _ => none
    | none => match viewL hp cs with
      | some (as, ps, ls) => if ls.contains l then none else some (hset (hdropL hp ls) l (some (.cells as)), ps)
      | none => none
  | _ => none

def FrzF (F : Nat → Prop) (hp : Heap) (μ : Mu) (ls : List Nat) : Nat → Prop := fun b => F b ∨ Opens hp μ ls b

/-- What is given up stays what it was. -/
theorem lh_frz {w : World} {μ : Mu} {F : Nat → Prop} {hp hp2 : Heap} {ls : List Nat} (hl : LH w μ F hp) (hsub : ∀ k blk, hget hp2 k = some blk → k ∉ ls ∧ ∃ blk0, hget hp k = some blk0 ∧ ∀ q, μ k = some q → BlkAt w μ F q blk0 → BlkAt w μ (FrzF F hp μ ls) q blk) :
    LH w μ (FrzF F hp μ ls) hp2 := by
  have hfin : ∀ b, FrzF F hp μ ls b → b < w.heap.size := by
    rintro b (hb | ⟨l, _, blk, o, hg, hm⟩)
    · exact (hl.fin b hb).1
    · exact (hl.blkAt hg hm).1.lt
  refine ⟨Ext.refl _ _, fun b hb => hb, fun b hb => ⟨hfin b hb, .inl hb⟩, ?_, ?_⟩
  · intro k blk hg
    obtain ⟨hk, blk0, hg0, himp⟩ := hsub k blk hg
    obtain ⟨q, h1, h2, h3⟩ := hl.blk k blk0 hg0
    refine ⟨q, h1, ?_, himp q h1 h3⟩
    cases q with
    | nil => trivial
    | pl b o =>
      refine ⟨?_, .inl ⟨k, blk, o, hg, h1⟩⟩
      rintro (hb | ⟨l, hl', blk1, o1, hg1, hm1⟩)
      · exact h2.1 hb
      · by_cases e : k = l
        · subst e; exact hk hl'
        · exact hl.inj k l blk0 blk1 b o b o1 e hg0 hg1 h1 hm1 rfl
  · intro l l' blk blk' b o b' o' hne h1 h2 m1 m2
    obtain ⟨_, blk0, hg0, _⟩ := hsub l blk h1
    obtain ⟨_, blk1, hg1, _⟩ := hsub l' blk' h2
    exact hl.inj l l' blk0 blk1 b o b' o' hne hg0 hg1 m1 m2

theorem tk_sub {μ : Mu} {hp hp2 : Heap} (h : ∀ k blk, hget hp2 k = some blk → ∃ blk0, hget hp k = some blk0) {b : Nat} (hb : Tk hp2 μ b) : Tk hp μ b := by
  obtain ⟨l, blk, o, hg, hm⟩ := hb
  obtain ⟨blk0, hg0⟩ := h l blk hg
  exact ⟨l, blk0, o, hg0, hm⟩

/-- From a heap where something was given up, back to the one before. -/
theorem hs_widen {w w' : World} {μ μ' : Mu} {F F1 F' : Nat → Prop} {hp hp1 hp' : Heap} (hT : ∀ b, Tk hp1 μ b → Tk hp μ b) (hF : ∀ b, F b → F1 b) (hF1 : ∀ b, F1 b → F b ∨ Tk hp μ b) (h : HS ⟨w, Tk hp1 μ, F1⟩ μ' F' hp' w') : HS ⟨w, Tk hp μ, F⟩ μ' F' hp' w' := by
  refine ⟨h.ext.mono fun b hb => ⟨hb.1, fun hh => hb.2 (hT b hh)⟩, fun b hb => h.sub b (hF b hb), fun b hb => ⟨(h.fin b hb).1, ?_⟩, fun l blk hg => ?_, h.inj⟩
  · rcases (h.fin b hb).2 with h1 | h1 | h1
    · rcases hF1 b h1 with h2 | h2
      · exact .inl h2
      · exact .inr (.inl h2)
    · exact .inr (.inl (hT b h1))
    · exact .inr (.inr h1)
  · obtain ⟨q, h1, h2, h3⟩ := h.blk l blk hg
    refine ⟨q, h1, ?_, h3⟩
    cases q with
    | nil => trivial
    | pl b o => exact ⟨h2.1, h2.2.imp (hT b) id⟩

theorem out_widen {w w' : World} {μ : Mu} {F F1 : Nat → Prop} {hp hp1 hp' : Heap} {N : Nat → Prop} {v : Value} {s : SV} (hT : ∀ b, Tk hp1 μ b → Tk hp μ b) (hF : ∀ b, F b → F1 b) (hF1 : ∀ b, F1 b → F b ∨ Tk hp μ b) (h : Out w μ F1 hp1 N hp' v s w') : Out w μ F hp N hp' v s w' := by
  obtain ⟨μ', F', h1, h2, h3, h4⟩ := h
  exact ⟨μ', F', hs_widen hT hF hF1 h1, h2, h3, h4⟩

theorem opOut_widen {P : Program} {w : World} {μ : Mu} {F F1 : Nat → Prop} {hp hp1 hp' : Heap} {N : Nat → Prop} {s : SV} {r : Result Next} (hT : ∀ b, Tk hp1 μ b → Tk hp μ b) (hF : ∀ b, F b → F1 b) (hF1 : ∀ b, F1 b → F b ∨ Tk hp μ b) (h : OpOut P w μ F1 hp1 N hp' s r) : OpOut P w μ F hp N hp' s r := by
  obtain ⟨w', ⟨v, h1, h2⟩ | ⟨h1, h2⟩⟩ := h
  · exact ⟨w', .inl ⟨v, h1, out_widen hT hF hF1 h2⟩⟩
  · exact ⟨w', .inr ⟨h1, out_widen hT hF hF1 h2⟩⟩

structure Frz (w : World) (μ : Mu) (F F1 : Nat → Prop) (hp hp1 : Heap) : Prop where
  lh : LH w μ F1 hp1
  tk : ∀ b, Tk hp1 μ b → Tk hp μ b
  up : ∀ b, F b → F1 b
  dn : ∀ b, F1 b → F b ∨ Tk hp μ b

theorem Frz.refl {w : World} {μ : Mu} {F : Nat → Prop} {hp : Heap} (h : LH w μ F hp) : Frz w μ F F hp hp := ⟨h, fun _ h => h, fun _ h => h, fun _ h => .inl h⟩
theorem Frz.trans {w : World} {μ : Mu} {F F1 F2 : Nat → Prop} {hp hp1 hp2 : Heap} (h : Frz w μ F F1 hp hp1) (k : Frz w μ F1 F2 hp1 hp2) : Frz w μ F F2 hp hp2 :=
  ⟨k.lh, fun b hb => h.tk b (k.tk b hb), fun b hb => k.up b (h.up b hb), fun b hb => by
    rcases k.dn b hb with h1 | h1
    · exact h.dn b h1
    · exact .inr (h.tk b h1)⟩
theorem Frz.out {P : Program} {w : World} {μ : Mu} {F F1 : Nat → Prop} {hp hp1 hp' : Heap} {N : Nat → Prop} {s : SV} {r : Result Next} (f : Frz w μ F F1 hp hp1) (h : OpOut P w μ F1 hp1 N hp' s r) : OpOut P w μ F hp N hp' s r := opOut_widen f.tk f.up f.dn h
theorem Frz.rep {w : World} {μ : Mu} {F F1 : Nat → Prop} {hp hp1 : Heap} (f : Frz w μ F F1 hp hp1) {v : Value} {s : SV} (h : Rep w μ F v s) : Rep w μ F1 v s := h.mono (Ext.refl _ _) f.up (fun _ _ h => h)

theorem frzF_tk {w : World} {μ : Mu} {F : Nat → Prop} {hp : Heap} {ls : List Nat} : ∀ b, FrzF F hp μ ls b → F b ∨ Tk hp μ b := by
  rintro b (h | ⟨l, _, blk, o, hg, hm⟩)
  · exact .inl h
  · exact .inr ⟨l, blk, o, hg, hm⟩

/-- Blocks given up. -/
theorem frz_drop {w : World} {μ : Mu} {F : Nat → Prop} {hp : Heap} (hl : LH w μ F hp) (ls : List Nat) : Frz w μ F (FrzF F hp μ ls) hp (hdropL hp ls) := by
  have hsub : ∀ k blk, hget (hdropL hp ls) k = some blk → k ∉ ls ∧ hget hp k = some blk := by
    intro k blk hg
    rw [hget_hdropL] at hg
    split at hg
    · cases hg
    · rename_i h; exact ⟨h, hg⟩
  refine ⟨lh_frz hl fun k blk hg => ?_, fun b hb => tk_sub (fun k blk hg => ⟨blk, (hsub k blk hg).2⟩) hb, fun b hb => .inl hb, frzF_tk (w := w)⟩
  obtain ⟨h1, h2⟩ := hsub k blk hg
  exact ⟨h1, blk, h2, fun q _ hb => hb.mono (Ext.refl _ _) (fun b h => .inl h) (fun _ _ h => h) (fun _ _ _ => rfl)⟩

theorem frzB_sound (P : Program) {w : World} {μ : Mu} {F : Nat → Prop} {hp hp1 : Heap} {l : Nat} {ps : List Prop} (hl : LH w μ F hp) (he : frzB hp l = some (hp1, ps)) (hps : ∀ p ∈ ps, p) : ∃ F1, Frz w μ F F1 hp hp1 := by
  unfold frzB at he
  split at he
  · rename_i cs hg
    split at he
    · cases he
    · split at he
      · rename_i as ps' ls hv
        split at he
        · cases he
        · rename_i hc
          simp only [Option.some.injEq, Prod.mk.injEq] at he
          obtain ⟨rfl, rfl⟩ := he
          have hnl : l ∉ ls := by simpa using hc
          obtain ⟨h3, h4⟩ := viewL_sound (P := P) (G := FrzF F hp μ ls) hl (fun b hb => .inl hb) hv hps (fun b hb => .inr hb)
          have hsub : ∀ k blk, hget (hset (hdropL hp ls) l (some (.cells as))) k = some blk → (k = l ∧ blk = .cells as) ∨ (k ≠ l ∧ k ∉ ls ∧ hget hp k = some blk) := by
            intro k blk hk
            rw [hget_hset] at hk
            split at hk
            · rename_i e; simp only [Option.some.injEq] at hk; exact .inl ⟨e, hk.symm⟩
            · rename_i e
              rw [hget_hdropL] at hk
              split at hk
              · cases hk
              · rename_i h; exact .inr ⟨e, h, hk⟩
          refine ⟨FrzF F hp μ ls, lh_frz hl fun k blk hk => ?_, fun b hb => tk_sub (fun k blk hk => ?_) hb, fun b hb => .inl hb, frzF_tk (w := w)⟩
          · rcases hsub k blk hk with ⟨rfl, rfl⟩ | ⟨h1, h2, h5⟩
            · refine ⟨hnl, _, hg, fun q hq hb => ?_⟩
              cases q with
              | nil => exact hb
              | pl b o =>
                obtain ⟨c, e, hh, hsz, hc1, hc2⟩ := hb
                refine ⟨c, e, hh, by omega, fun i hi => ?_, fun i hi => hc2 i (by omega)⟩
                exact (h4 i _ (by omega) (hc1 i (by omega))).mono (Ext.refl _ _) (fun _ h => h) (fun l q h => by simp [emp] at h)
            · exact ⟨h2, blk, h5, fun q _ hb => hb.mono (Ext.refl _ _) (fun b h => .inl h) (fun _ _ h => h) (fun _ _ _ => rfl)⟩
          · rcases hsub k blk hk with ⟨rfl, rfl⟩ | ⟨h1, h2, h5⟩
            · exact ⟨_, hg⟩
            · exact ⟨_, h5⟩
      · cases he
  · cases he

def frzS (hp : Heap) (s : Option SV) : Option (Heap × List Prop) := match s with
  | some (.row l _ _ _ _) => frzB hp l
  | _ => none

theorem frzS_sound (P : Program) {w : World} {μ : Mu} {F : Nat → Prop} {hp hp1 : Heap} {s : Option SV} {ps : List Prop} (hl : LH w μ F hp) (he : frzS hp s = some (hp1, ps)) (hps : ∀ p ∈ ps, p) : ∃ F1, Frz w μ F F1 hp hp1 := by
  unfold frzS at he
  split at he
  · exact frzB_sound P hl he hps
  · cases he

/-- An append whose rows are taken as values that stay. -/
def absApp (P : Program) (id : Nat) (hp : Heap) (ρ : Operand → Option SV) (o : Oper) (x y : Operand) : Tr (SV × Heap) :=
  match frzS hp (ρ y) with
  | some (hp1, ps) => needAll ps (match frzS hp1 (ρ x) with
    | some (hp2, ps2) => needAll ps2 (absOp P id hp2 ρ o)
    | none => absOp P id hp1 ρ o)
  | none => match frzS hp (ρ x) with
    | some (hp2, ps2) => needAll ps2 (absOp P id hp2 ρ o)
    | none => absOp P id hp ρ o

/-- A value that is put into a row, its own rows taken as values that stay. -/
def frzV (hp : Heap) (p s : SV) : Option (SV × List Prop × List Nat) :=
  match p with
  | .pix l _ _ _ _ _ => match hget hp l with
    | some (.row _ _ _) => match dvsOf (svcells s) with
      | some _ => none
      | none => match view hp s with
        | some (s', ps, ls) => if ls.contains l then none else some (s', ps, ls)
        | none => none
    | _ => none
  | _ => none

def absOpF (P : Program) (id : Nat) (hp : Heap) (ρ : Operand → Option SV) (o : Oper) : Tr (SV × Heap) :=
  match o.op with
  | .call c => match c.callee, c.args.toList with
    | .builtin .append, [x, y] => absApp P id hp ρ o x y
    | _, _ => absOp P id hp ρ o
  | .store t a x => match ρ a, ρ x with
    | some p, some s => match frzV hp p s with
      | some (s', ps, ls) => needAll ps ((absStore P (hdropL hp ls) t p s').bind fun h => .ret (uv, h))
      | none => absOp P id hp ρ o
    | _, _ => .fail
  | _ => absOp P id hp ρ o

theorem absOpF_sound {P : Program} {w : World} {μ : Mu} {F : Nat → Prop} {hp hp' : Heap} {id : Nat} {ρ : Operand → Option SV} {σ : Operand → Value} {o : Oper} {s : SV} (hl : LH w μ F hp) (hid : μ id = none)
    (hρ : ∀ x s, ρ x = some s → Rep w μ F (σ x) s) (he : (absOpF P id hp ρ o).ev (s, hp')) : OpOut P w μ F hp (NewId id o) hp' s ((execOp σ o).run P w) := by
  unfold absOpF at he
  split at he
  · split at he
    · unfold absApp at he
      split at he
      · rename_i hp1 ps h1
        obtain ⟨hps, he⟩ := needAll_ev he
        obtain ⟨F1, f1⟩ := frzS_sound P hl h1 hps
        split at he
        · rename_i hp2 ps2 h2
          obtain ⟨hps2, he⟩ := needAll_ev he
          obtain ⟨F2, f2⟩ := frzS_sound P f1.lh h2 hps2
          have f := f1.trans f2
          exact f.out (absOp_sound f.lh hid (fun x s h => f.rep (hρ x s h)) he)
        · exact f1.out (absOp_sound f1.lh hid (fun x s h => f1.rep (hρ x s h)) he)
      · split at he
        · rename_i hp2 ps2 h2
          obtain ⟨hps2, he⟩ := needAll_ev he
          obtain ⟨F2, f2⟩ := frzS_sound P hl h2 hps2
          exact f2.out (absOp_sound f2.lh hid (fun x s h => f2.rep (hρ x s h)) he)
        · exact absOp_sound hl hid hρ he
    · exact absOp_sound hl hid hρ he
  · rename_i t a x hop
    split at he
    · rename_i p sx hp1 hp2
      split at he
      · rename_i s' ps ls hv
        obtain ⟨hps, hst⟩ := needAll_ev he
        clear he
        unfold frzV at hv
        split at hv
        · split at hv
          · split at hv
            · cases hv
            · split at hv
              · rename_i s2 ps2 ls2 hview
                split at hv
                · cases hv
                · simp only [Option.some.injEq, Prod.mk.injEq] at hv
                  obtain ⟨rfl, rfl, rfl⟩ := hv
                  have f := frz_drop hl ls2
                  have hx : Rep w μ (FrzF F hp μ ls2) (σ x) s2 := (view_sound (P := P) (G := FrzF F hp μ ls2) hl (hρ x _ hp2) hview hps (fun b hb => .inl hb) (fun b hb => .inr hb)).mono (Ext.refl _ _) (fun _ h => h) (fun l q h => by simp [emp] at h)
                  refine f.out ?_
                  have hq : quietOp o.op = false := by rw [hop]; rfl
                  obtain ⟨h', e1, e2⟩ := Tr.ev_bind hst
                  simp only [Tr.ev, Prod.mk.injEq] at e2
                  obtain ⟨rfl, rfl⟩ := e2
                  obtain ⟨w', e3, e4⟩ := absStore_sound f.lh (f.rep (hρ a _ hp1)) hx e1
                  unfold execOp
                  rw [hop]
                  exact ⟨w', .inr ⟨by simp only [Sem.run_bind, e3, Result.andThen, Sem.run_pure], μ, _, e4, .d (.x _), fun _ _ h => h, fun _ _ => rfl⟩⟩
              · cases hv
          · cases hv
        · cases hv
      · exact absOp_sound hl hid hρ he
    · exact he.elim
  · exact absOp_sound hl hid hρ he

end
end Go.Sx
