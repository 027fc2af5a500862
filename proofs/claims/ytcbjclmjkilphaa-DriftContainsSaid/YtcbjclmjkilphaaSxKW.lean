/- The symbolic executor: code within a round of a range over a function, and marks among the deferred calls. -/
import Derived.Test.YtcbjclmjkilphaaSxKF
import Derived.OrdersIn
import Derived.TacticsIn
import Derived.RangeFuncLeaves
import Derived.RangeFuncWrites
set_option linter.unusedVariables false
set_option linter.unusedSimpArgs false
namespace Go.Sx
noncomputable section

/-- No bounds but the round in which code runs. -/
def FW (r : Option Nat) : Fence := { Fence.wide with round := r }

theorem callsW {P : Program} {k : FuncId} {vs : Array Value} {w : World} {R : Ending → World → Prop} (r : Option Nat) (n : Nat) (h : Calls P k vs w R) : CallsIn (FW r) n P k vs w R := by
  have h2 : CallsIn Fence.wide n P k vs w R := callsIn_wide.2 h
  exact h2

theorem semAt_eq {r : Option Nat} {ρ : Operand → Value} {o : Oper} (h : ∀ c, o.op ≠ .defer c) : o.semAt r ρ = execOp ρ o := by
  cases r with
  | none => exact Oper.semAt_none ρ o
  | some l => exact Oper.semAt_some l ρ o h

/-- There is no range over a function in it. -/
def noRange : Code → Bool
  | .rangeFunc _ _ _ _ => false
  | .seq a b => noRange a && noRange b
  | .cond _ a b => noRange a && noRange b
  | .block _ a => noRange a
  | .loop a => noRange a
  | .scope a => noRange a
  | _ => true

def rOK (r : Option Nat) (c : Code) : Prop := r = none ∨ noRange c = true

/-- Code does this, in a round or not. -/
def WP (P : Program) (c : Code) (Q : Exit → Act → World → Prop) (a : Act) (w : World) : Prop := ∀ r, rOK r c → c.wpIn (FW r) 0 P Q a w

section
variable {P : Program} {Q Q' : Exit → Act → World → Prop} {a : Act} {w : World}

theorem WP.mono {c : Code} (hq : ∀ e a w, Q e a w → Q' e a w) (h : WP P c Q a w) : WP P c Q' a w := fun r hr => Go.wpIn_mono (h r hr) hq
theorem WP.wp {c : Code} (h : WP P c Q a w) : c.wpIn Fence.wide 0 P Q a w := h none (.inl rfl)
theorem WP_skip (h : Q .normal a w) : WP P .skip Q a w := fun r _ => wpIn_skip h
theorem WP_label {l : Nat} (h : Q .normal a w) : WP P (.label l) Q a w := fun r _ => wpIn_label h
theorem WP_exit {id : Nat} (h : Q (.exit id) a w) : WP P (.exit id) Q a w := fun r _ => wpIn_exit h
theorem WP_ret (h : Q .ret a w) : WP P .ret Q a w := fun r _ => wpIn_ret h
theorem WP_seq {x y : Code} (h : WP P x (Exit.then (fun a w => WP P y Q a w) Q) a w) : WP P (.seq x y) Q a w := fun r hr => by
  have h1 : rOK r x := hr.imp id fun h => by simp only [noRange, Bool.and_eq_true] at h; exact h.1
  have h2 : rOK r y := hr.imp id fun h => by simp only [noRange, Bool.and_eq_true] at h; exact h.2
  refine wpIn_seq (Go.wpIn_mono (h r h1) fun e a w hq => ?_)
  cases e <;> first | exact hq r h2 | exact hq
theorem WP_cond_true {c : Operand} {x y : Code} (hc : a.eval c = .bool true) (h : WP P x Q a w) : WP P (.cond c x y) Q a w := fun r hr =>
  wpIn_cond_true hc (h r (hr.imp id fun h => by simp only [noRange, Bool.and_eq_true] at h; exact h.1))
theorem WP_cond_false {c : Operand} {x y : Code} (hc : a.eval c = .bool false) (h : WP P y Q a w) : WP P (.cond c x y) Q a w := fun r hr =>
  wpIn_cond_false hc (h r (hr.imp id fun h => by simp only [noRange, Bool.and_eq_true] at h; exact h.2))
theorem WP_block {id : Nat} {x : Code} (h : WP P x (Exit.inBlock id Q) a w) : WP P (.block id x) Q a w := fun r hr => wpIn_block (h r hr)

theorem exitTo_len {id : Nat} : ∀ {k k' : List Item}, exitTo id k = some k' → k'.length ≤ k.length
  | [], k', h => by simp [exitTo] at h
  | x :: k, k', h => by
    unfold exitTo at h
    split at h
    · rename_i heq
      cases heq
      split at h
      · cases h; simp
      · have := exitTo_len h; simp; omega
    · rename_i heq
      cases heq
      have := exitTo_len h; simp; omega
    · cases h

theorem stepsInW_tail {r : Option Nat} {m m1 m' : Machine} (h1 : step P m = .next m1) (hne : m ≠ m') (h : StepsIn (Machine.fenced P (FW r)) P m m') : StepsIn (Machine.fenced P (FW r)) P m1 m' := by
  have h : Steps P m m' := h.steps
  have : Steps P m1 m' := by
    obtain ⟨n, hn⟩ := h
    cases n with
    | zero => simp only [runN, Stepped.next.injEq] at hn; exact (hne hn).elim
    | succ n => exact ⟨n, by simpa [runN, h1] using hn⟩
  have h2 : StepsIn (Machine.fenced P Fence.wide) P m1 m' := stepsIn_wide.2 this
  exact h2

theorem oneW {r : Option Nat} {m m1 : Machine} (h1 : step P m = .next m1) : StepsIn (Machine.fenced P (FW r)) P m m1 := by
  have h2 : StepsIn (Machine.fenced P Fence.wide) P m m1 := stepsIn_wide.2 (.one h1)
  exact h2

theorem wpIn_loop_unroll {r : Option Nat} {c : Code} (hgo : ∀ l a w, ¬ Q (.goto l) a w) (hout : ∀ a w, ¬ Q .outgrown a w) (h : c.wpIn (FW r) 0 P (Exit.then (fun a w => (Code.loop c).wpIn (FW r) 0 P Q a w) Q) a w) : (Code.loop c).wpIn (FW r) 0 P Q a w := by
  intro b k cs hro hb hroom
  obtain ⟨e, a₁, w₁, hq, harr⟩ := h b (.inLoop c :: k) cs hro hb hroom
  cases e with
  | normal =>
    obtain ⟨e₂, a₂, w₂, hq₂, harr₂⟩ := hq b k cs hro hb hroom
    refine ⟨e₂, a₂, w₂, hq₂, .of_steps (oneW stepR_loop) (.of_steps harr ?_)⟩
    have hs1 : step P (lone (b.atR a₁ (.inLoop c :: k)) cs w₁) = .next (lone (b.atR a₁ (.code c :: .inLoop c :: k)) cs w₁) := stepR_inLoop
    have hs2 : step P (lone (b.atR a₁ (.code (.loop c) :: k)) cs w₁) = .next (lone (b.atR a₁ (.code c :: .inLoop c :: k)) cs w₁) := stepR_loop
    have hne : ∀ a' k' w', k'.length ≤ k.length → lone (b.atR a₁ (.code (.loop c) :: k)) cs w₁ ≠ lone (b.atR a' k') cs w' := by
      intro a' k' w' hk he
      have := congrArg (fun m => (m.gs[0]?).map fun g => g.frame.todo.length) he
      simp [lone, Frame.atR] at this
      omega
    have hnc : ∀ a' x k1 w', (∀ c, x ≠ .loop c) → lone (b.atR a₁ (.code (.loop c) :: k)) cs w₁ ≠ lone (b.atR a' (.code x :: k1)) cs w' := by
      intro a' x k1 w' hx he
      have := congrArg (fun m => (m.gs[0]?).map fun g => g.frame.todo) he
      simp [lone, Frame.atR] at this
      exact hx c this.1.symm
    have hd : ∀ m', StepsIn (Machine.fenced P (FW r)) P (lone (b.atR a₁ (.code c :: .inLoop c :: k)) cs w₁) m' → StepsIn (Machine.fenced P (FW r)) P (lone (b.atR a₁ (.inLoop c :: k)) cs w₁) m' := fun m' h => (oneW hs1).trans h
    cases e₂ with
    | normal => exact hd _ (stepsInW_tail hs2 (hne _ _ _ (Nat.le_refl _)) harr₂)
    | exit id => exact ⟨fun k' hk' => hd _ (stepsInW_tail hs2 (hne _ _ _ (exitTo_len hk')) (harr₂.1 k' hk')), fun hr hk' => by
        obtain ⟨k1, h1, h2⟩ := harr₂.2 hr hk'
        exact ⟨k1, h1, hd _ (stepsInW_tail hs2 (hnc _ _ _ _ fun c h => by cases h) h2)⟩⟩
    | goto l => exact (hgo _ _ _ hq₂).elim
    | ret =>
      refine ⟨fun hr => ?_, fun hr => ?_⟩
      · obtain ⟨todo, hst⟩ := harr₂.1 hr
        refine ⟨todo, hd _ (stepsInW_tail hs2 ?_ hst)⟩
        intro he
        have := congrArg (fun m => (m.gs[0]?).map fun g => (match g.frame.mode with | .run => true | _ => false)) he
        simp [lone, Frame.atR] at this
      · obtain ⟨k1, h2⟩ := harr₂.2 hr
        exact ⟨k1, hd _ (stepsInW_tail hs2 (hnc _ _ _ _ fun c h => by cases h) h2)⟩
    | panic ch =>
      obtain ⟨todo, hst⟩ := harr₂
      refine ⟨todo, hd _ (stepsInW_tail hs2 ?_ hst)⟩
      intro he
      have := congrArg (fun m => (m.gs[0]?).map fun g => (match g.frame.mode with | .run => true | _ => false)) he
      simp [lone, Frame.atR] at this
    | outgrown => exact (hout _ _ hq₂).elim
  | exit id => exact ⟨_, a₁, w₁, hq, .of_steps (oneW stepR_loop) (.pass (x := .inLoop c) rfl (fun _ _ => .inl (by simp)) harr)⟩
  | goto l => exact ⟨_, a₁, w₁, hq, .of_steps (oneW stepR_loop) (.pass (x := .inLoop c) rfl (fun _ _ => .inl (by simp)) harr)⟩
  | ret => exact ⟨_, a₁, w₁, hq, .of_steps (oneW stepR_loop) (.pass (x := .inLoop c) rfl (fun _ _ => .inl (by simp)) harr)⟩
  | panic ch => exact ⟨_, a₁, w₁, hq, .of_steps (oneW stepR_loop) (.pass (x := .inLoop c) rfl (fun _ _ => .inl (by simp)) harr)⟩
  | outgrown => exact ⟨_, a₁, w₁, hq, .of_steps (b := b) (k := k) (cs := cs) (e := .outgrown) (oneW stepR_loop) (.pass (x := .inLoop c) rfl (fun _ _ => .inl (by simp)) harr)⟩

theorem WP_loop_unroll {c : Code} (hgo : ∀ l a w, ¬ Q (.goto l) a w) (hout : ∀ a w, ¬ Q .outgrown a w) (h : WP P c (Exit.then (fun a w => WP P (.loop c) Q a w) Q) a w) : WP P (.loop c) Q a w := fun r hr =>
  wpIn_loop_unroll hgo hout (Go.wpIn_mono (h r hr) fun e a w hq => by cases e <;> first | exact hq r hr | exact hq)
end

/-! ### One block that holds no cells turns -/

structure Turn (D : Nat) (w w' : World) : Prop where
  os : w'.os = w.os
  tape : w'.tape = w.tape
  output : w'.output = w.output
  size : w.heap.size ≤ w'.heap.size
  other : ∀ b, b ≠ D → b < w.heap.size → w'.heap[b]? = w.heap[b]?
  nc : ∀ c e fr, w.heap[D]? ≠ some (.cells c e fr)

variable {w w' : World} {D : Nat}

theorem Turn.cells (h : Turn D w w') {b : Nat} {c : Array Value} {e : TypeId} {fr : Nat × Nat} (hb : w.heap[b]? = some (.cells c e fr)) : w'.heap[b]? = some (.cells c e fr) := by
  by_cases hD : b = D
  · subst hD; exact (h.nc c e fr hb).elim
  · rw [h.other b hD (Array.getElem?_eq_some_iff.1 hb).1]; exact hb
theorem Turn.cell (h : Turn D w w') {a : Addr} {v : Value} (hb : w.cell? a = some v) : w'.cell? a = some v := by
  unfold World.cell? at hb ⊢
  split at hb
  · rename_i c e fr heq
    rw [h.cells heq]; exact hb
  · cases hb
theorem Turn.bsz (h : Turn D w w') (b : Nat) : bsz w b ≤ bsz w' b := by
  unfold Sx.bsz
  split
  · rename_i c e fr heq
    rw [h.cells heq]; exact Nat.le_refl _
  · exact Nat.zero_le _

theorem RepD.turn {F : Nat → Prop} {v : Value} {s : DV} (ht : Turn D w w') (h : RepD w F v s) : RepD w' F v s := by
  induction h with
  | x v => exact .x v
  | nil esz cell => exact .nil esz cell
  | z a cap esz cell => exact .z a cap esz cell
  | ro b o len cap esz cell f hb hc hcell hone _ ih => exact .ro b o len cap esz cell f hb hc (fun i j hi hj => ht.cell (hcell i j hi hj)) hone ih
theorem Rep.turn {μ : Mu} {F : Nat → Prop} {v : Value} {s : SV} (ht : Turn D w w') (h : Rep w μ F v s) : Rep w' μ F v s := by
  induction h with
  | d h => exact .d (h.turn ht)
  | ptr l off b o h => exact .ptr l off b o h
  | pix l base n esz i j b o h => exact .pix l base n esz i j b o h
  | rnil l base off esz h => exact .rnil l base off esz h
  | rz l base off esz b o q h => exact .rz l base off esz b o q h
  | row l base off len esz b o cap h hc hz => exact .row l base off len esz b o cap h hc (Nat.le_trans hz (ht.bsz b))
  | rop b o n cell f hb hcell hone hrep => exact .rop b o n cell f hb (fun j hj => ht.cell (hcell j hj)) hone (fun j hj => (hrep j hj).turn ht)
  | agg cs ss hl _ ih => exact .agg cs ss hl ih
  | fn f fs cs ss ts h1 h2 _ _ ih1 ih2 => exact .fn f fs cs ss ts h1 h2 ih1 ih2
  | tup cs ss hl _ ih => exact .tup cs ss hl ih
  | ifc t v s _ ih => exact .ifc t v s ih
theorem BlkAt.turn {μ : Mu} {F : Nat → Prop} {q : Plc} {blk : Blk} (ht : Turn D w w') (h : BlkAt w μ F q blk) : BlkAt w' μ F q blk := by
  cases q with
  | nil => cases blk <;> exact h
  | pl b o =>
    cases blk with
    | cells cs =>
      obtain ⟨c, e, hg, hs, hc, h1⟩ := h
      exact ⟨c, e, ht.cells hg, hs, fun i hi => (hc i hi).turn ht, h1⟩
    | row n esz cell =>
      obtain ⟨c, e, hg, hs, hc, h1⟩ := h
      exact ⟨c, e, ht.cells hg, hs, fun i j hi hj => (hc i j hi hj).turn ht, h1⟩
theorem HS.turn {p : Par} {μ : Mu} {F : Nat → Prop} {hp : Heap} (ht : Turn D w w') (hD : p.w0.heap.size ≤ D ∨ p.T D) (h : HS p μ F hp w) : HS p μ F hp w' := by
  refine ⟨⟨ht.os.trans h.ext.os, ht.tape.trans h.ext.tape, ht.output.trans h.ext.output, Nat.le_trans h.ext.size ht.size, fun b hb => ?_, fun b => Nat.le_trans (h.ext.bsz b) (ht.bsz b)⟩, h.sub, fun b hb => ⟨?_, (h.fin b hb).2⟩, fun l blk hg => ?_, h.inj⟩
  · rw [ht.other b (fun e => by subst e; rcases hD with h1 | h1; exact absurd hb.1 (by omega); exact hb.2 h1) (by have := hb.1; have := h.ext.size; omega)]; exact h.ext.keep b hb
  · have := (h.fin b hb).1; have := ht.size; omega
  · obtain ⟨q, h1, h2, h3⟩ := h.blk l blk hg
    exact ⟨q, h1, h2, h3.turn ht⟩
theorem RepT.turn {μ : Mu} {F : Nat → Prop} {tmps : Array Value} {v : Value} {tv : TV} (ht : Turn D w w') (h : RepT w μ F tmps v tv) : RepT w' μ F tmps v tv := by
  cases tv with
  | unk => trivial
  | lit b => exact h
  | ok s => exact Rep.turn ht h
  | cnd p s => exact fun hp => Rep.turn ht (h hp)
  | tag t want s => exact ⟨fun hb => Rep.turn ht (h.1 hb), h.2⟩
theorem TmOK.turn {μ : Mu} {F : Nat → Prop} {tm : List TV} {tmps : Array Value} (ht : Turn D w w') (h : TmOK w μ F tm tmps) : TmOK w' μ F tm tmps := fun t => (h t).turn ht

/-! ### Marks -/

def markOf (D : Nat) : Deferred := { target := .collected D, args := #[] }

/-- Deferred calls: nothing but marks of loops that are over, whose rounds deferred nothing. -/
def Marks (p : Par) (F : Nat → Prop) (w : World) (ds : List Deferred) : Prop :=
  ∃ Ds : List Nat, ds = Ds.map markOf ∧ Ds.Nodup ∧ ∀ D ∈ Ds, (p.w0.heap.size ≤ D ∨ p.T D) ∧ w.heap[D]? = some (.deferred (some [])) ∧ ¬ F D

theorem Marks.nil (p : Par) (F : Nat → Prop) (w : World) : Marks p F w [] := ⟨[], rfl, List.nodup_nil, fun D h => by cases h⟩

theorem tk_cells {μ : Mu} {F : Nat → Prop} {hp : Heap} (h : LH w μ F hp) {b : Nat} (hb : Tk hp μ b) : ∃ c e fr, w.heap[b]? = some (.cells c e fr) := by
  obtain ⟨l, blk, o, hg, hm⟩ := hb
  obtain ⟨hat, _⟩ := h.blkAt hg hm
  cases blk with
  | cells cs => obtain ⟨c, e, hh, _⟩ := hat; exact ⟨c, e, _, hh⟩
  | row n esz cell => obtain ⟨c, e, hh, _⟩ := hat; exact ⟨c, e, _, hh⟩

/-- A block that is no cells and is not kept for reading stays so. -/
theorem mark_step {p : Par} {μ μ' : Mu} {F F' : Nat → Prop} {hp hp' : Heap} {D : Nat} {o : Obj} (hl : LH w μ F hp) (hs : HS ⟨w, Tk hp μ, F⟩ μ' F' hp' w') (h : w.heap[D]? = some o) (ho : o.isCells = false) (hF : ¬ F D) : w'.heap[D]? = some o ∧ ¬ F' D := by
  have hlt : D < w.heap.size := (Array.getElem?_eq_some_iff.1 h).1
  have hnt : ¬ Tk hp μ D := fun ht => by
    obtain ⟨c, e, fr, hc⟩ := tk_cells hl ht
    rw [hc] at h; cases h; simp [Obj.isCells] at ho
  refine ⟨(hs.ext.keep D ⟨hlt, hnt⟩).trans h, fun hf => ?_⟩
  rcases (hs.fin D hf).2 with h1 | h1 | h1
  · exact hF h1
  · exact hnt h1
  · simp only at h1; omega

theorem Marks.step {p : Par} {μ μ' : Mu} {F F' : Nat → Prop} {hp hp' : Heap} {ds : List Deferred} (h : Marks p F w ds) (hl : LH w μ F hp) (hs : HS ⟨w, Tk hp μ, F⟩ μ' F' hp' w') : Marks p F' w' ds := by
  obtain ⟨Ds, h1, h2, h3⟩ := h
  refine ⟨Ds, h1, h2, fun D hD => ?_⟩
  obtain ⟨h4, h5, h6⟩ := h3 D hD
  exact ⟨h4, mark_step (p := p) hl hs h5 rfl h6⟩

theorem turn_shut {D : Nat} (h : w.heap[D]? = some (.deferred (some []))) : Turn D w (w.putObj D (.deferred none)) := by
  refine ⟨rfl, rfl, rfl, by simp, fun b hb _ => World.putObj_heap_other hb, fun c e fr hc => ?_⟩
  rw [hc] at h; cases h

/-- A function leaves, its marks taken. -/
theorem leaves_marks {P : Program} {fn : Func} {tmps : Array Value} {R : Ending → World → Prop} {p : Par} {μ : Mu} {F : Nat → Prop} {hp : Heap} {tm : List TV} (hR : ∀ w2, HS p μ F hp w2 → TmOK w2 μ F tm tmps → ∃ v, (results fn tmps).run P w2 = .ok v w2 ∧ R (.returned v) w2) :
    ∀ (Ds : List Nat) (w : World), Ds.Nodup → (∀ D ∈ Ds, (p.w0.heap.size ≤ D ∨ p.T D) ∧ w.heap[D]? = some (.deferred (some [])) ∧ ¬ F D) → HS p μ F hp w → TmOK w μ F tm tmps → LeavesInM Fence.wide 0 P fn tmps R (Ds.map markOf) .returning w
  | [], w, _, _, h, ht => hR w h ht
  | D :: Ds, w, hn, hD, h, ht => by
    have h1 := hD D (List.mem_cons_self ..)
    have htn := turn_shut h1.2.1
    simp only [List.nodup_cons] at hn
    refine ⟨by simp, .inl ⟨D, _, rfl, run_takeDeferred h1.2.1, leaves_marks hR Ds _ hn.2 (fun E hE => ?_) (h.turn htn h1.1) (ht.turn htn)⟩⟩
    have h2 := hD E (List.mem_cons_of_mem _ hE)
    refine ⟨h2.1, ?_⟩
    have hne : E ≠ D := fun e => hn.1 (e ▸ hE)
    rw [World.putObj_heap_other hne]
    exact h2.2

end
end Go.Sx
