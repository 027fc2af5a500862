/- The symbolic executor: make; all single operations but calls of Go functions. -/
import Derived.Test.YtcbjclmjkilphaaSxH
set_option linter.unusedVariables false
set_option linter.unusedSimpArgs false
namespace Go.Sx
noncomputable section

def absMake (P : Program) (id : Nat) (hp : Heap) (t : TypeId) (len cap : SV) : Tr (SV × Heap) :=
  match P.underlying t, len, cap with
  | some (.slice elem), .d (.x (.int _ l)), .d (.x (.int _ c)) =>
    match P.info? elem with
    | some i =>
      match i.zero with
      | some z =>
        match dvsOf (svcells (ofValue z)) with
        | some ds =>
          if z.cells.size = i.size ∧ 0 < i.size ∧ 0 < i.bytes ∧ boxOK (ofValue z) = true ∧ (svcells (ofValue z)).all cellOK = true then
            .nd (0 ≤ l ∧ l ≤ c ∧ c * i.bytes ≤ 140737488355328) (.ret (.row id 0 0 l.toNat i.size, hset hp id (some (.row l.toNat i.size fun _ j => ds.getD j (.x undef)))))
          else .fail
        | none => .fail
      | none => .fail
    | none => .fail
  | _, _, _ => .fail

theorem absMake_sound {P : Program} {w : World} {μ : Mu} {F : Nat → Prop} {hp hp' : Heap} {id : Nat} {t : TypeId} {lv cv : Value} {len cap r : SV} (hl : LH w μ F hp) (hid : μ id = none) (hlv : Rep w μ F lv len) (hcv : Rep w μ F cv cap)
    (he : (absMake P id hp t len cap).ev (r, hp')) : ∃ u w', (Instr.makeSlice t lv cv).run P w = .ok u w' ∧ Out w μ F hp (· = id) hp' u r w' := by
  unfold absMake at he
  split at he
  · rename_i elem kl l kc c hu
    split at he
    · rename_i i hi
      split at he
      · rename_i z hz
        split at he
        · rename_i ds hds
          split at he
          · rename_i hk
            obtain ⟨hzs, hsz, hby, hzb, hall⟩ := hk
            obtain ⟨⟨h0, h1, h2⟩, he⟩ := he
            simp only [Tr.ev, Prod.mk.injEq] at he; obtain ⟨rfl, rfl⟩ := he
            rw [rep_x hlv, rep_x hcv]
            have hc0 : 0 ≤ c := by omega
            have hcle : c ≤ 140737488355328 := by
              have : c * 1 ≤ c * i.bytes := Int.mul_le_mul_of_nonneg_left (by omega) hc0
              omega
            have hwl : IntKind.i64.wrap l = l := IntWalk.i64_in _ (by omega)
            have hwc : IntKind.i64.wrap c = c := IntWalk.i64_in _ (by omega)
            have hbc : (i.bytes : Int) * c ≤ 140737488355328 := by rw [Int.mul_comm]; exact h2
            obtain ⟨hd1, hd2⟩ := dvsOf_spec hds
            have hzr := reps_value (rep_ofValue w μ F z) hzb
            have hti : ∀ w1, (typeInfo elem).run P w1 = .ok i w1 := fun w1 => by simp [typeInfo, hi]
            have hzv : ∀ w1, (zeroValue elem).run P w1 = .ok z w1 := fun w1 => by simp [zeroValue, typeInfo, hi, hz]
            have hts : ∀ w1, (sizeOf elem).run P w1 = .ok i.size w1 := fun w1 => run_tsz w1 (by simp [tsz, hi])
            let cells := (Array.range (c.toNat * i.size)).map fun k => z.cells[k % z.cells.size]!
            have hsize : cells.size = c.toNat * i.size := by simp [cells]
            have hrun : (Instr.makeSlice t (.int kl l) (.int kc c)).run P w = .ok (.slice (some ⟨w.heap.size, 0, none⟩) l.toNat c.toNat) (w.alloc (.cells cells elem)) := by
              unfold Instr.makeSlice
              simp only [Sem.run_bind, run_underlying hu, Result.andThen, asInt, asIntOf, Sem.run_pure, hti, hwl, hwc]
              have e1 : (decide (c < 0) || decide ((i.bytes : Int) * c > 2 ^ 48)) = false := by
                simp only [Bool.or_eq_false_iff, decide_eq_false_iff_not]; omega
              simp only [e1, Bool.false_or]
              rw [if_neg (by simp; omega)]
              simp only [Sem.run_bind, askRoom]
              have e2 : ¬ (c.toNat * i.bytes > roomBytes) := by
                have : (c.toNat * i.bytes : Nat) ≤ 140737488355328 := by
                  have : ((c.toNat * i.bytes : Nat) : Int) ≤ 140737488355328 := by rw [Int.natCast_mul, Int.toNat_of_nonneg hc0]; exact h2
                  omega
                simp only [roomBytes]; omega
              rw [if_neg e2]
              simp only [Sem.run_pure, Result.andThen, Sem.run_bind, hts]
              by_cases hn : c.toNat * i.size = 0
              · simp only [hn, if_true, Sem.run_pure, Result.andThen, Sem.run_bind]
                have : cells = #[] := by simp only [cells, hn]; simp
                rw [this]
                simp only [newRow, newObj, Sem.run_bind, Sem.run, Result.andThen, Sem.run_pure]
                rw [show ((Array.range 0).map fun k => (#[] : Array Value)[k % (#[] : Array Value).size]!) = #[] from Array.eq_empty_of_size_eq_zero (by simp)]
                rfl
              · simp only [hn, if_false, Sem.run_bind, hzv, Result.andThen, Sem.run_pure]
                rfl
            have hcell : ∀ k, k < c.toNat * i.size → cells.getD k undef = z.cells.getD (k % i.size) undef := by
              intro k hk
              have hlt : k % i.size < z.cells.size := by rw [hzs]; exact Nat.mod_lt _ hsz
              have hlt2 : k % i.size < i.size := Nat.mod_lt _ hsz
              simp [cells, Array.getD, hk, hzs, getElem!_pos, hlt, hlt2]
            refine ⟨_, _, hrun, out_alloc hl hid ?_ ?_⟩
            · have hle : l.toNat * i.size ≤ c.toNat * i.size := Nat.mul_le_mul_right _ (by omega)
              have hidx : ∀ a k, a < l.toNat → k < i.size → a * i.size + k < c.toNat * i.size ∧ (a * i.size + k) % i.size = k := by
                intro a k ha hk
                have : (a + 1) * i.size ≤ l.toNat * i.size := Nat.mul_le_mul_right _ ha
                rw [Nat.add_mul] at this
                exact ⟨by omega, by rw [Nat.mul_comm, Nat.mul_add_mod, Nat.mod_eq_of_lt hk]⟩
              refine ⟨cells, elem, heap_alloc_at w _, by rw [hsize]; omega, fun a k ha hk => ?_, fun a k ha hk => ?_⟩
              · obtain ⟨h3, h4⟩ := hidx a k ha hk
                rw [Nat.zero_add, hcell _ h3, h4]
                have := hzr.2 k (by rw [← hzr.1, hzs]; exact hk)
                rw [hd2 k (by rw [← hzr.1, hzs]; exact hk)] at this
                exact (rep_d this).mono (Ext.alloc F w _ fun b hb => (hl.fin b hb).1) fun _ h => h
              · obtain ⟨h3, h4⟩ := hidx a k ha hk
                rw [Nat.zero_add, hcell _ h3, h4]
                exact cellOK_one (hzr.2 k (by rw [← hzr.1, hzs]; exact hk)) (all_cellOK hall k (by rw [← hzr.1, hzs]; exact hk))
            · have hb : bsz (w.alloc (.cells cells elem)) w.heap.size = c.toNat * i.size := by unfold bsz; rw [heap_alloc_at]; exact hsize
              have := Rep.row (w := w.alloc (.cells cells elem)) (μ := upd μ id (.pl w.heap.size 0)) (F := F) id 0 0 l.toNat i.size w.heap.size 0 c.toNat (by simp [upd]) (by omega) (by rw [hb]; simp)
              simpa using this
          · exact he.elim
        · exact he.elim
      · exact he.elim
    · exact he.elim
  · exact he.elim

/-! ### One operation -/

def OpArgs := Operand → Option SV

def evalAll (ρ : Operand → Option SV) : List Operand → Option (List SV)
  | [] => some []
  | x :: r => match ρ x, evalAll ρ r with
    | some s, some ss => some (s :: ss)
    | _, _ => none

def evalParts (ρ : Operand → Option SV) : List (Nat × Operand) → Option (List (Nat × SV))
  | [] => some []
  | (i, x) :: r => match ρ x, evalParts ρ r with
    | some s, some ss => some ((i, s) :: ss)
    | _, _ => none

def evalOpt (ρ : Operand → Option SV) : Option Operand → Option (Option SV)
  | none => some none
  | some x => (ρ x).map some

/-- The result of an operation that only computes. -/
def still (hp : Heap) (t : Tr SV) : Tr (SV × Heap) := t.bind fun s => .ret (s, hp)

def hasRoom (P : Program) (hp : Heap) (t : TypeId) (x : SV) : Bool :=
  match P.underlying t, x with
  | some (.array n elem), .ptr l off =>
    match tsz P elem, hget hp l with
    | some esz, some (.cells cs) => decide (off + n * esz ≤ cs.length)
    | some esz, some (.row m esz' _) => decide (off + n * esz ≤ m * esz')
    | _, _ => false
  | _, _ => true

def lenSV : SV → Option Nat
  | .d (.ro len _ _) => some len
  | .row _ _ _ len _ => some len
  | _ => none

def absLen (P : Program) (t : TypeId) (ty : TypeId) (x : SV) : Tr SV :=
  match P.underlying t, lenSV x with
  | some (.slice _), some n => .ret (.d (.x (.int .i64 (n : Int))))
  | _, _ => match exact x with
    | some v => absPure P (Builtin.len_ #[t] ty #[v])
    | none => .fail

/-- An element of an array that lies in no memory. -/
def absIndexA (P : Program) (t : TypeId) (cs : List SV) (i : Int) : Tr SV :=
  match P.underlying t with
  | some (.array len elem) =>
    match shapeT P elem, tsz P elem with
    | some sh, some esz => if len * esz ≤ cs.length ∧ sh.2 ≤ esz then .nd (0 ≤ i ∧ i < len) (.ret (ofCells sh fun k => selCol ((List.range len).map fun a => cs.getD (a * esz + k) uv) i.toNat)) else .fail
    | _, _ => .fail
  | _ => .fail

theorem absIndexA_sound {P : Program} {w : World} {μ : Mu} {F : Nat → Prop} {t : TypeId} {v iv : Value} {cs : List SV} {k : IntKind} {i : Int} {r : SV} (hv : Rep w μ F v (.agg cs)) (hi : Rep w μ F iv (.d (.x (.int k i)))) (he : (absIndexA P t cs i).ev r) :
    ∃ u, (Instr.index t v iv).run P w = .ok u w ∧ Rep w μ F u r := by
  have e2 := rep_x hi
  subst e2
  unfold absIndexA at he
  split at he
  · rename_i len elem hu
    split at he
    · rename_i sh esz hs ht
      split at he
      · rename_i hk
        obtain ⟨⟨h0, h1⟩, he⟩ := he
        simp only [Tr.ev] at he; subst he
        have hsh1 := shapeT_one hs
        cases hv with
        | agg vs _ hl h =>
          have hlt : i.toNat < len := by omega
          have hm : (i.toNat + 1) * esz ≤ len * esz := Nat.mul_le_mul_right _ hlt
          rw [Nat.add_mul] at hm
          have hp : absPart P elem cs (i.toNat * esz) = some (ofCells sh fun j => cs.getD (i.toNat * esz + j) uv) := by
            unfold absPart; rw [hs]; simp only []; rw [if_pos (by omega)]
          obtain ⟨u, h2, h3⟩ := absPart_sound (P := P) hl h hp
          refine ⟨u, ?_, ?_⟩
          · unfold Instr.index
            simp only [asIntOf, Sem.run_bind, Sem.run_pure, Result.andThen, run_underlying hu, h0, h1, and_self, if_true, run_tsz w ht]
            exact h2
          · have : (ofCells sh fun k => selCol ((List.range len).map fun a => cs.getD (a * esz + k) uv) i.toNat) = ofCells sh fun j => cs.getD (i.toNat * esz + j) uv := by
              have e : ∀ k, selCol ((List.range len).map fun a => cs.getD (a * esz + k) uv) i.toNat = cs.getD (i.toNat * esz + k) uv := by
                intro k
                rw [selCol_eq _ _ (by simpa using hlt)]
                simp [List.getD, hlt]
              simp only [e]
            rw [this]; exact h3
      · exact he.elim
    · exact he.elim
  · exact he.elim

def absOp (P : Program) (id : Nat) (hp : Heap) (ρ : Operand → Option SV) (o : Oper) : Tr (SV × Heap) :=
  match o.op with
  | .move x | .assign x => match ρ x with | some s => .ret (s, hp) | none => .fail
  | .alloc t => absAlloc P id hp t
  | .box _ x => match ρ x with | some s => absBox id hp s | none => .fail
  | .build t ps => match evalParts ρ ps.toList with | some ss => still hp (absBuild P t ss) | none => .fail
  | .buildSlice t len ps => match evalParts ρ ps.toList with | some ss => absBuildSlice P id hp t len ss | none => .fail
  | .load t a => match ρ a with | some p => still hp (absLoad P hp t p) | none => .fail
  | .store t a x => match ρ a, ρ x with | some p, some s => (absStore P hp t p s).bind fun h => .ret (uv, h) | _, _ => .fail
  | .nilCheck x => match ρ x with
    | some (.ptr l off) => .ret (.ptr l off, hp)
    | some (.pix l b n e i j) => .ret (.pix l b n e i j, hp)
    | some (.rop n c) => .ret (.rop n c, hp)
    | some (.fn (.func f) a b) => .ret (.fn (.func f) a b, hp)
    | _ => .fail
  | .binOp op t x y _ => match ρ x, ρ y with | some a, some b => still hp (absBin P op t x y a b) | _, _ => .fail
  | .unOp op _ x => match (ρ x).bind exact with | some v => still hp (absPure P (Op.unary op v)) | none => .fail
  | .convert src dst x => match (ρ x).bind exact with | some v => still hp (absPure P (convert src dst v)) | none => .fail
  | .makeFunc fn fs cs => match evalAll ρ fs.toList, evalAll ρ cs.toList with | some a, some b => .ret (.fn fn a b, hp) | _, _ => .fail
  | .makeSlice t l c => match ρ l, ρ c with | some a, some b => absMake P id hp t a b | _, _ => .fail
  | .slice t x lo hi mx => match ρ x, evalOpt ρ lo, evalOpt ρ hi, mx with
    | some s, some a, some b, none => if hasRoom P hp t s then still hp (absSlice P t s a b) else .fail
    | _, _, _, _ => .fail
  | .fieldAddr t x f => match ρ x with | some p => still hp (absFieldAddr P t p f) | none => .fail
  | .field t x f => match ρ x with | some s => still hp (absField P t s f) | none => .fail
  | .indexAddr t x i => match ρ x, ρ i with | some s, some j => still hp (absIndexAddr P hp t s j) | _, _ => .fail
  | .index t x i => match ρ x with
   | some (.agg cs) => match ρ i with
    | some (.d (.x (.int _ n))) => still hp (absIndexA P t cs n)
    | _ => .fail
   | _ => match (ρ x).bind exact, ρ i with
    | some (.string s), some (.d (.x (.int _ n))) => if (match P.underlying t with | some .string => true | _ => false) then .nd (0 ≤ n ∧ n < s.size) (.ret (.d (.x (.int .u8 (s.data.getD n.toNat 0).toNat)), hp)) else .fail
    | _, _ => .fail
  | .extract x i => match ρ x with | some (.tup vs) => (match vs[i]? with | some s => .ret (s, hp) | none => .fail) | _ => .fail
  | .call c => match c.callee, c.args.toList, c.argTypes.toList with
    | .builtin .len, [x], [t] => match ρ x with | some s => still hp (absLen P t o.type s) | none => .fail
    | .builtin .append, [x, y], [t, u] => match ρ x, ρ y with | some s, some r => absAppend P id hp t u s r | _, _ => .fail
    | .builtin .max, [x, y], ts => match (ρ x).bind exact, (ρ y).bind exact with | some u, some v => still hp (absPure P (Builtin.max_ ts.toArray o.type #[u, v])) | _, _ => .fail
    | .builtin .min, [x, y], ts => match (ρ x).bind exact, (ρ y).bind exact with | some u, some v => still hp (absPure P (Builtin.min_ ts.toArray o.type #[u, v])) | _, _ => .fail
    | _, _, _ => .fail
  | _ => .fail

/-- It makes nothing and writes nothing. -/
def quietOp : Op → Bool
  | .alloc _ | .box _ _ | .buildSlice _ _ _ | .store _ _ _ | .makeSlice _ _ _ => false
  | .call c => (match c.callee with | .builtin .append => false | _ => true)
  | _ => true

def NewId (id : Nat) (o : Oper) (l : Nat) : Prop := l = id ∧ quietOp o.op = false

theorem Out.nar {w : World} {μ : Mu} {F : Nat → Prop} {hp hp' : Heap} {id : Nat} {o : Oper} {v : Value} {s : SV} {w' : World} (h : Out w μ F hp (· = id) hp' v s w') (hq : quietOp o.op = false) : Out w μ F hp (NewId id o) hp' v s w' := by
  obtain ⟨μ', F', h1, h2, h3, h4⟩ := h
  exact ⟨μ', F', h1, h2, h3, fun l hl => h4 l fun e => hl ⟨e, hq⟩⟩

/-- What the model's run of an operation comes to. -/
def OpOut (P : Program) (w : World) (μ : Mu) (F : Nat → Prop) (hp : Heap) (N : Nat → Prop) (hp' : Heap) (s : SV) (r : Result Next) : Prop :=
  ∃ w', (∃ v, r = .ok (.value v) w' ∧ Out w μ F hp N hp' v s w') ∨ (r = .ok .skip w' ∧ Out w μ F hp N hp' undef s w')

theorem OpOut.value {P : Program} {w : World} {μ : Mu} {F : Nat → Prop} {hp hp' : Heap} {N : Nat → Prop} {s : SV} {x : Sem Value} {u : Value} {w' : World} (h : x.run P w = .ok u w') (ho : Out w μ F hp N hp' u s w') :
    OpOut P w μ F hp N hp' s ((do pure (.value (← x)) : Sem Next).run P w) := ⟨w', .inl ⟨u, by simp only [Sem.run_bind, h, Result.andThen, Sem.run_pure], ho⟩⟩

theorem opOut_still {P : Program} {w : World} {μ : Mu} {F : Nat → Prop} {hp hp' : Heap} {N : Nat → Prop} {t : Tr SV} {s : SV} {x : Sem Value} (hl : LH w μ F hp) (he : (still hp t).ev (s, hp')) (h : ∀ r, t.ev r → ∃ u, x.run P w = .ok u w ∧ Rep w μ F u r) :
    OpOut P w μ F hp N hp' s ((do pure (.value (← x)) : Sem Next).run P w) := by
  obtain ⟨r, h1, h2⟩ := Tr.ev_bind he
  simp only [Tr.ev, Prod.mk.injEq] at h2
  obtain ⟨rfl, rfl⟩ := h2
  obtain ⟨u, h3, h4⟩ := h s h1
  exact .value h3 (out_same hl h4)

theorem evalAll_spec {w : World} {μ : Mu} {F : Nat → Prop} {ρ : Operand → Option SV} {σ : Operand → Value} (hρ : ∀ x s, ρ x = some s → Rep w μ F (σ x) s) : ∀ {xs : List Operand} {ss : List SV}, evalAll ρ xs = some ss →
    xs.length = ss.length ∧ ∀ i, i < ss.length → Rep w μ F ((xs.map σ).getD i undef) (ss.getD i uv)
  | [], ss, h => by simp only [evalAll, Option.some.injEq] at h; subst h; simp
  | x :: r, ss, h => by
    simp only [evalAll] at h
    split at h
    · rename_i s ss' h1 h2
      simp only [Option.some.injEq] at h; subst h
      obtain ⟨h3, h4⟩ := evalAll_spec hρ h2
      refine ⟨by simp [h3], fun i hi => ?_⟩
      cases i with
      | zero => simpa using hρ x s h1
      | succ i => simpa using h4 i (by simpa using hi)
    · cases h

theorem evalParts_spec {w : World} {μ : Mu} {F : Nat → Prop} {ρ : Operand → Option SV} {σ : Operand → Value} (hρ : ∀ x s, ρ x = some s → Rep w μ F (σ x) s) : ∀ {xs : List (Nat × Operand)} {ss : List (Nat × SV)}, evalParts ρ xs = some ss →
    RepsP w μ F (xs.map fun p => (p.1, σ p.2)) ss
  | [], ss, h => by simp only [evalParts, Option.some.injEq] at h; subst h; exact .nil
  | (i, x) :: r, ss, h => by
    simp only [evalParts] at h
    split at h
    · rename_i s ss' h1 h2
      simp only [Option.some.injEq] at h; subst h
      exact .cons i (hρ x s h1) (evalParts_spec hρ h2)
    · cases h

theorem evalOpt_spec {w : World} {μ : Mu} {F : Nat → Prop} {ρ : Operand → Option SV} {σ : Operand → Value} (hρ : ∀ x s, ρ x = some s → Rep w μ F (σ x) s) {x : Option Operand} {s : Option SV} (h : evalOpt ρ x = some s) :
    (∀ v, x.map σ = some v → ∃ r, s = some r ∧ Rep w μ F v r) ∧ (x.map σ = none → s = none) := by
  cases x with
  | none => simp only [evalOpt, Option.some.injEq] at h; subst h; simp
  | some y =>
    simp only [evalOpt, Option.map_eq_some_iff] at h
    obtain ⟨r, h1, rfl⟩ := h
    refine ⟨fun v hv => ?_, fun hv => by simp at hv⟩
    simp only [Option.map_some, Option.some.injEq] at hv; subst hv
    exact ⟨r, rfl, hρ y r h1⟩

theorem bind_exact {w : World} {μ : Mu} {F : Nat → Prop} {ρ : Operand → Option SV} {σ : Operand → Value} (hρ : ∀ x s, ρ x = some s → Rep w μ F (σ x) s) {x : Operand} {v : Value} (h : (ρ x).bind exact = some v) : σ x = v := by
  cases h1 : ρ x with
  | none => simp [h1] at h
  | some s => simp only [h1, Option.bind_some] at h; exact exact_spec h (hρ x s h1)

theorem hasRoom_spec {P : Program} {w : World} {μ : Mu} {F : Nat → Prop} {hp : Heap} {t : TypeId} {x : SV} (hl : LH w μ F hp) (h : hasRoom P hp t x = true) :
    ∀ m off, x = .ptr m off → ∀ n elem esz, P.underlying t = some (.array n elem) → tsz P elem = some esz → ∀ b o, μ m = some (.pl b o) → o + off + n * esz ≤ bsz w b := by
  intro m off hx n elem esz hu hs b o hm
  subst hx
  unfold hasRoom at h
  rw [hu] at h
  simp only [hs] at h
  split at h
  · rename_i e cs h1 hg
    obtain ⟨⟨c, ee, hh, hsz, _⟩, _⟩ := hl.blkAt hg hm
    simp only [Option.some.injEq] at h1; subst h1
    have := of_decide_eq_true h
    unfold bsz; rw [hh]; simp only []; omega
  · rename_i e k e' cell h1 hg
    obtain ⟨⟨c, ee, hh, hsz, _⟩, _⟩ := hl.blkAt hg hm
    simp only [Option.some.injEq] at h1; subst h1
    have := of_decide_eq_true h
    unfold bsz; rw [hh]; simp only []; omega
  · cases h

theorem absLen_sound {P : Program} {w : World} {μ : Mu} {F : Nat → Prop} {t ty : TypeId} {v : Value} {x r : SV} (hx : Rep w μ F v x) (he : (absLen P t ty x).ev r) : ∃ u, (Builtin.len_ #[t] ty #[v]).run P w = .ok u w ∧ Rep w μ F u r := by
  unfold absLen at he
  split at he
  · rename_i e n hu hn
    simp only [Tr.ev] at he; subst he
    have key : ∀ b c, v = .slice b n c → (Builtin.len_ #[t] ty #[v]).run P w = .ok (.int .i64 (n : Int)) w := by
      intro b c hv; subst hv
      unfold Builtin.len_
      simp only [List.getElem?_toArray, List.getElem?_cons_zero, Sem.run_bind, run_underlying hu, Result.andThen, Sem.run_pure]
      rfl
    refine ⟨_, ?_, .d (.x _)⟩
    unfold lenSV at hn
    split at hn
    · simp only [Option.some.injEq] at hn; subst hn
      have hd := rep_d hx
      generalize hdv : DV.ro _ _ _ = dv at hd
      cases hd with
      | x => cases hdv
      | nil => cases hdv; exact key _ _ rfl
      | z => cases hdv; exact key _ _ rfl
      | ro => cases hdv; exact key _ _ rfl
    · simp only [Option.some.injEq] at hn; subst hn
      cases hx with
      | rnil => exact key _ _ rfl
      | rz => exact key _ _ rfl
      | row => exact key _ _ rfl
    · cases hn
  · split at he
    · rename_i u hu
      rw [exact_spec hu hx]
      exact absPure_sound he
    · exact he.elim

theorem absOp_sound {P : Program} {w : World} {μ : Mu} {F : Nat → Prop} {hp hp' : Heap} {id : Nat} {ρ : Operand → Option SV} {σ : Operand → Value} {o : Oper} {s : SV} (hl : LH w μ F hp) (hid : μ id = none)
    (hρ : ∀ x s, ρ x = some s → Rep w μ F (σ x) s) (he : (absOp P id hp ρ o).ev (s, hp')) : OpOut P w μ F hp (NewId id o) hp' s ((execOp σ o).run P w) := by
  unfold absOp at he
  unfold execOp
  split at he
  all_goals first | (rename_i hop; have hq0 := congrArg quietOp hop; rw [hop]; simp only []) | exact he.elim
  · split at he
    · rename_i r hr
      simp only [Tr.ev, Prod.mk.injEq] at he; obtain ⟨rfl, rfl⟩ := he
      exact ⟨w, .inl ⟨_, rfl, out_same hl (hρ _ _ hr)⟩⟩
    · exact he.elim
  · split at he
    · rename_i r hr
      simp only [Tr.ev, Prod.mk.injEq] at he; obtain ⟨rfl, rfl⟩ := he
      exact ⟨w, .inl ⟨_, rfl, out_same hl (hρ _ _ hr)⟩⟩
    · exact he.elim
  · obtain ⟨u, w', h1, h2⟩ := absAlloc_sound hl hid he
    exact .value h1 (h2.nar hq0)
  · split at he
    · rename_i r hr
      obtain ⟨u, w', h1, h2⟩ := absBox_sound hl hid (hρ _ _ hr) he
      exact .value h1 (h2.nar hq0)
    · exact he.elim
  · split at he
    · rename_i ss hss
      refine opOut_still hl he fun r hr => absBuild_sound ?_ hr
      rw [Array.toList_map]; exact evalParts_spec hρ hss
    · exact he.elim
  · split at he
    · rename_i ss hss
      obtain ⟨u, w', h1, h2⟩ := absBuildSlice_sound hl hid (by rw [Array.toList_map]; exact evalParts_spec hρ hss) he
      exact .value h1 (h2.nar hq0)
    · exact he.elim
  · split at he
    · rename_i p hp0
      exact opOut_still hl he fun r hr => absLoad_sound hl (hρ _ _ hp0) hr
    · exact he.elim
  · split at he
    · rename_i p s0 hp0 hs0
      obtain ⟨h, h1, h2⟩ := Tr.ev_bind he
      simp only [Tr.ev, Prod.mk.injEq] at h2
      obtain ⟨rfl, rfl⟩ := h2
      obtain ⟨w', h3, h4⟩ := absStore_sound hl (hρ _ _ hp0) (hρ _ _ hs0) h1
      exact ⟨w', .inr ⟨by simp only [Sem.run_bind, h3, Result.andThen, Sem.run_pure], μ, F, h4, .d (.x _), fun _ _ h => h, fun _ _ => rfl⟩⟩
    · exact he.elim
  · split at he
    · rename_i l off hr
      simp only [Tr.ev, Prod.mk.injEq] at he; obtain ⟨rfl, rfl⟩ := he
      have := hρ _ _ hr
      generalize σ _ = v at this
      cases this with
      | ptr _ _ b o' hm => exact ⟨w, .inl ⟨_, rfl, out_same hl (.ptr _ _ _ _ hm)⟩⟩
    · rename_i l b0 n e i j hr
      simp only [Tr.ev, Prod.mk.injEq] at he; obtain ⟨rfl, rfl⟩ := he
      have := hρ _ _ hr
      generalize σ _ = v at this
      cases this with
      | pix _ _ _ _ _ _ b o' hm => exact ⟨w, .inl ⟨_, rfl, out_same hl (.pix _ _ _ _ _ _ _ _ hm)⟩⟩
    · rename_i n c hr
      simp only [Tr.ev, Prod.mk.injEq] at he; obtain ⟨rfl, rfl⟩ := he
      have := hρ _ _ hr
      generalize σ _ = v at this
      cases this with
      | rop b o' _ _ f hF h1 h2 h3 => exact ⟨w, .inl ⟨_, rfl, out_same hl (.rop _ _ _ _ f hF h1 h2 h3)⟩⟩
    · rename_i f a b hr
      simp only [Tr.ev, Prod.mk.injEq] at he; obtain ⟨rfl, rfl⟩ := he
      have := hρ _ _ hr
      generalize σ _ = v at this
      cases this with
      | fn _ fs cs _ _ h1 h2 h3 h4 => exact ⟨w, .inl ⟨_, rfl, out_same hl (.fn _ _ _ _ _ h1 h2 h3 h4)⟩⟩
    · exact he.elim
  · split at he
    · rename_i a b ha hb
      exact opOut_still hl he fun r hr => absBin_sound (hρ _ _ ha) (hρ _ _ hb) hr
    · exact he.elim
  · split at he
    · rename_i v hv
      rw [bind_exact hρ hv]
      exact opOut_still hl he fun r hr => absPure_sound hr
    · exact he.elim
  · split at he
    · rename_i v hv
      rw [bind_exact hρ hv]
      exact opOut_still hl he fun r hr => absPure_sound hr
    · exact he.elim
  · split at he
    · rename_i a b ha hb
      simp only [Tr.ev, Prod.mk.injEq] at he; obtain ⟨rfl, rfl⟩ := he
      obtain ⟨h1, h2⟩ := evalAll_spec hρ ha
      obtain ⟨h3, h4⟩ := evalAll_spec hρ hb
      refine ⟨w, .inl ⟨_, rfl, out_same hl (.fn _ _ _ _ _ (by simpa using h1) (by simpa using h3) (fun i hi => ?_) (fun i hi => ?_))⟩⟩
      · have := h2 i hi
        simpa [Array.getD_eq_getD_getElem?, List.getD] using this
      · have := h4 i hi
        simpa [Array.getD_eq_getD_getElem?, List.getD] using this
    · exact he.elim
  · split at he
    · rename_i a b ha hb
      obtain ⟨u, w', h1, h2⟩ := absMake_sound hl hid (hρ _ _ ha) (hρ _ _ hb) he
      exact .value h1 (h2.nar hq0)
    · exact he.elim
  · split at he
    · rename_i s0 a b hs0 ha hb
      split at he
      · rename_i hroom
        obtain ⟨h1, h2⟩ := evalOpt_spec hρ ha
        obtain ⟨h3, h4⟩ := evalOpt_spec hρ hb
        exact opOut_still hl he fun r hr => absSlice_sound hl h1 h3 h2 h4 (hρ _ _ hs0) (hasRoom_spec hl hroom) hr
      · exact he.elim
    · exact he.elim
  · split at he
    · rename_i p hp0
      exact opOut_still hl he fun r hr => absFieldAddr_sound (hρ _ _ hp0) hr
    · exact he.elim
  · split at he
    · rename_i p hp0
      exact opOut_still hl he fun r hr => absField_sound (hρ _ _ hp0) hr
    · exact he.elim
  · split at he
    · rename_i s0 j hs0 hj
      exact opOut_still hl he fun r hr => absIndexAddr_sound (hρ _ _ hs0) (hρ _ _ hj) hr
    · exact he.elim
  · rename_i t xo io
    split at he
    · rename_i cs0 hcs0
      split at he
      · rename_i k n hn
        exact opOut_still hl he fun r hr => absIndexA_sound (hρ _ _ hcs0) (hρ _ _ hn) hr
      · exact he.elim
    split at he
    · rename_i s0 k n hs0 hn
      split at he
      · rename_i hu
        obtain ⟨⟨h0, h1⟩, he⟩ := he
        simp only [Tr.ev, Prod.mk.injEq] at he; obtain ⟨rfl, rfl⟩ := he
        have hst : P.underlying t = some .string := by first | exact hu | (revert hu; split <;> first | (intro _; assumption) | (intro h; cases h))
        have hlt : n.toNat < s0.size := by omega
        have e1 := bind_exact hρ hs0
        have e2 := rep_x (hρ _ _ hn)
        refine .value (u := .int .u8 (s0.data.getD n.toNat 0).toNat) ?_ (out_same hl (.d (.x _)))
        rw [e1, e2]
        unfold Instr.index
        simp only [asIntOf, Sem.run_bind, Sem.run_pure, Result.andThen, run_underlying hst, h0, if_true]
        have hlt' : n.toNat < s0.data.size := hlt
        have : s0[n.toNat]? = some (s0.data.getD n.toNat 0) := by
          rw [getElem?_pos s0 n.toNat hlt]
          simp only [Array.getD, hlt', dite_true]
          rfl
        rw [this]
        rfl
      · exact he.elim
    · exact he.elim
  · split at he
    · rename_i vs hr
      split at he
      · rename_i s0 hs0
        simp only [Tr.ev, Prod.mk.injEq] at he; obtain ⟨rfl, rfl⟩ := he
        have := hρ _ _ hr
        generalize σ _ = v at this
        cases this with
        | tup cs _ hlen hi =>
          obtain ⟨hlt, hget⟩ := List.getElem?_eq_some_iff.1 hs0
          have := hi _ hlt
          have hlt' : ‹Nat› < cs.size := by omega
          refine .value (u := cs.getD _ undef) ?_ (out_same hl (by simpa [List.getD, hs0] using this))
          unfold Instr.extract
          simp [hlen, hlt, Array.getD, Sem.run_pure]
      · exact he.elim
    · exact he.elim
  · rename_i c
    have hargs : ∀ l : List Operand, c.args.toList = l → c.args.map σ = (l.map σ).toArray := by
      intro l hl; rw [← hl]; apply Array.ext'; simp
    have htys : ∀ l : List TypeId, c.argTypes.toList = l → c.argTypes = l.toArray := by
      intro l hl; rw [← hl]
    split at he
    · rename_i x t hcal hx ht
      have hr : ∀ w, (resolve σ c o.type).run P w = .ok { target := .builtin .len #[t] o.type (c.args.map fun | .const _ => true | _ => false), args := #[σ x] } w := by
        intro w; unfold resolve; rw [hcal]; simp only [hargs _ hx, htys _ ht]; rfl
      rw [run_andThen_ok (hr w)]
      split at he
      · rename_i r hr
        exact opOut_still hl he fun r hr2 => absLen_sound (hρ _ _ hr) hr2
      · exact he.elim
    · rename_i x y t u hcal hx ht
      have hr : ∀ w, (resolve σ c o.type).run P w = .ok { target := .builtin .append #[t, u] o.type (c.args.map fun | .const _ => true | _ => false), args := #[σ x, σ y] } w := by
        intro w; unfold resolve; rw [hcal]; simp only [hargs _ hx, htys _ ht]; rfl
      rw [run_andThen_ok (hr w)]
      split at he
      · rename_i r1 r2 hr1 hr2
        obtain ⟨v, w', h1, h2⟩ := absAppend_sound (ty := o.type) hl hid (hρ _ _ hr1) (hρ _ _ hr2) he
        exact .value h1 (h2.nar (hq0.trans (by simp only [quietOp, hcal])))
      · exact he.elim
    · rename_i x y hcal hx
      have hr : ∀ w, (resolve σ c o.type).run P w = .ok { target := .builtin .max c.argTypes o.type (c.args.map fun | .const _ => true | _ => false), args := #[σ x, σ y] } w := by
        intro w; unfold resolve; rw [hcal]; simp only [hargs _ hx]; rfl
      rw [run_andThen_ok (hr w)]
      split at he
      · rename_i v1 v2 hv1 hv2
        rw [bind_exact hρ hv1, bind_exact hρ hv2, htys _ rfl]
        exact opOut_still hl he fun r hr2 => absPure_sound hr2
      · exact he.elim
    · rename_i x y hcal hx
      have hr : ∀ w, (resolve σ c o.type).run P w = .ok { target := .builtin .min c.argTypes o.type (c.args.map fun | .const _ => true | _ => false), args := #[σ x, σ y] } w := by
        intro w; unfold resolve; rw [hcal]; simp only [hargs _ hx]; rfl
      rw [run_andThen_ok (hr w)]
      split at he
      · rename_i v1 v2 hv1 hv2
        rw [bind_exact hρ hv1, bind_exact hρ hv2, htys _ rfl]
        exact opOut_still hl he fun r hr2 => absPure_sound hr2
      · exact he.elim
    · exact he.elim

end
end Go.Sx
