/- Part of a proof of the given statements of this seat (SxI, SxJ, SxK, SxKF, SxKW, SxL, SxM): no conditions beyond those typed here. -/
import Derived.Test.YtcbjclmjkilphaaSy00
import Derived.OrdersIn
import Derived.TacticsIn
import Derived.RangeFuncLeaves
import Derived.RangeFuncWrites
import Derived.Laws.Externs
set_option linter.unusedVariables false
set_option linter.unusedSimpArgs false

/- The symbolic executor: make; all single operations but calls of Go functions. -/
namespace Go.Sx
noncomputable section

def absMake (P : Program) (id : Nat) (hp : Heap) (t : TypeId) (len cap : SV) : Tr (SV × Heap) :=
  match P.underlying t, len, cap with
  | some (.slice elem), .d (.x (.int _ l)), .d (.x (.int _ c)) =>
    match P.info? elem with
    | some i =>
      match i.zero with
      | some z =>
        match dvsOf (svcells (ofValue z)) with
        | some ds =>
          if z.cells.size = i.size ∧ 0 < i.size ∧ 0 < i.bytes ∧ boxOK (ofValue z) = true ∧ (svcells (ofValue z)).all cellOK = true then
            .nd (0 ≤ l ∧ l ≤ c ∧ c * i.bytes ≤ 140737488355328) (.ret (.row id 0 0 l.toNat i.size, hset hp id (some (.row l.toNat i.size fun _ j => ds.getD j (.x undef)))))
          else .fail
        | none => .fail
      | none => .fail
    | none => .fail
  | _, _, _ => .fail

theorem absMake_sound {P : Program} {w : World} {μ : Mu} {F : Nat → Prop} {hp hp' : Heap} {id : Nat} {t : TypeId} {lv cv : Value} {len cap r : SV} (hl : LH w μ F hp) (hid : μ id = none) (hlv : Rep w μ F lv len) (hcv : Rep w μ F cv cap)
    (he : (absMake P id hp t len cap).ev (r, hp')) : ∃ u w', (Instr.makeSlice t lv cv).run P w = .ok u w' ∧ Out w μ F hp (· = id) hp' u r w' := by
  unfold absMake at he
  split at he
  · rename_i elem kl l kc c hu
    split at he
    · rename_i i hi
      split at he
      · rename_i z hz
        split at he
        · rename_i ds hds
          split at he
          · rename_i hk
            obtain ⟨hzs, hsz, hby, hzb, hall⟩ := hk
            obtain ⟨⟨h0, h1, h2⟩, he⟩ := he
            simp only [Tr.ev, Prod.mk.injEq] at he; obtain ⟨rfl, rfl⟩ := he
            rw [rep_x hlv, rep_x hcv]
            have hc0 : 0 ≤ c := by omega
            have hcle : c ≤ 140737488355328 := by
              have : c * 1 ≤ c * i.bytes := Int.mul_le_mul_of_nonneg_left (by omega) hc0
              omega
            have hwl : IntKind.i64.wrap l = l := IntWalk.i64_in _ (by omega)
            have hwc : IntKind.i64.wrap c = c := IntWalk.i64_in _ (by omega)
            have hbc : (i.bytes : Int) * c ≤ 140737488355328 := by rw [Int.mul_comm]; exact h2
            obtain ⟨hd1, hd2⟩ := dvsOf_spec hds
            have hzr := reps_value (rep_ofValue w μ F z) hzb
            have hti : ∀ w1, (typeInfo elem).run P w1 = .ok i w1 := fun w1 => by simp [typeInfo, hi]
            have hzv : ∀ w1, (zeroValue elem).run P w1 = .ok z w1 := fun w1 => by simp [zeroValue, typeInfo, hi, hz]
            have hts : ∀ w1, (sizeOf elem).run P w1 = .ok i.size w1 := fun w1 => run_tsz w1 (by simp [tsz, hi])
            let cells := (Array.range (c.toNat * i.size)).map fun k => z.cells[k % z.cells.size]!
            have hsize : cells.size = c.toNat * i.size := by simp [cells]
            have hrun : (Instr.makeSlice t (.int kl l) (.int kc c)).run P w = .ok (.slice (some ⟨w.heap.size, 0, none⟩) l.toNat c.toNat) (w.alloc (.cells cells elem)) := by
              unfold Instr.makeSlice
              simp only [Sem.run_bind, run_underlying hu, Result.andThen, asInt, asIntOf, Sem.run_pure, hti, hwl, hwc]
              have e1 : (decide (c < 0) || decide ((i.bytes : Int) * c > 2 ^ 48)) = false := by
                simp only [Bool.or_eq_false_iff, decide_eq_false_iff_not]; omega
              simp only [e1, Bool.false_or]
              rw [if_neg (by simp; omega)]
              simp only [Sem.run_bind, askRoom]
              have e2 : ¬ (c.toNat * i.bytes > roomBytes) := by
                have : (c.toNat * i.bytes : Nat) ≤ 140737488355328 := by
                  have : ((c.toNat * i.bytes : Nat) : Int) ≤ 140737488355328 := by rw [Int.natCast_mul, Int.toNat_of_nonneg hc0]; exact h2
                  omega
                simp only [roomBytes]; omega
              rw [if_neg e2]
              simp only [Sem.run_pure, Result.andThen, Sem.run_bind, hts]
              by_cases hn : c.toNat * i.size = 0
              · simp only [hn, if_true, Sem.run_pure, Result.andThen, Sem.run_bind]
                have : cells = #[] := by simp only [cells, hn]; simp
                rw [this]
                simp only [newRow, newObj, Sem.run_bind, Sem.run, Result.andThen, Sem.run_pure]
                rw [show ((Array.range 0).map fun k => (#[] : Array Value)[k % (#[] : Array Value).size]!) = #[] from Array.eq_empty_of_size_eq_zero (by simp)]
                rfl
              · simp only [hn, if_false, Sem.run_bind, hzv, Result.andThen, Sem.run_pure]
                rfl
            have hcell : ∀ k, k < c.toNat * i.size → cells.getD k undef = z.cells.getD (k % i.size) undef := by
              intro k hk
              have hlt : k % i.size < z.cells.size := by rw [hzs]; exact Nat.mod_lt _ hsz
              have hlt2 : k % i.size < i.size := Nat.mod_lt _ hsz
              simp [cells, Array.getD, hk, hzs, getElem!_pos, hlt, hlt2]
            refine ⟨_, _, hrun, out_alloc hl hid ?_ ?_⟩
            · have hle : l.toNat * i.size ≤ c.toNat * i.size := Nat.mul_le_mul_right _ (by omega)
              have hidx : ∀ a k, a < l.toNat → k < i.size → a * i.size + k < c.toNat * i.size ∧ (a * i.size + k) % i.size = k := by
                intro a k ha hk
                have : (a + 1) * i.size ≤ l.toNat * i.size := Nat.mul_le_mul_right _ ha
                rw [Nat.add_mul] at this
                exact ⟨by omega, by rw [Nat.mul_comm, Nat.mul_add_mod, Nat.mod_eq_of_lt hk]⟩
              refine ⟨cells, elem, heap_alloc_at w _, by rw [hsize]; omega, fun a k ha hk => ?_, fun a k ha hk => ?_⟩
              · obtain ⟨h3, h4⟩ := hidx a k ha hk
                rw [Nat.zero_add, hcell _ h3, h4]
                have := hzr.2 k (by rw [← hzr.1, hzs]; exact hk)
                rw [hd2 k (by rw [← hzr.1, hzs]; exact hk)] at this
                exact (rep_d this).mono (Ext.alloc F w _ fun b hb => (hl.fin b hb).1) fun _ h => h
              · obtain ⟨h3, h4⟩ := hidx a k ha hk
                rw [Nat.zero_add, hcell _ h3, h4]
                exact cellOK_one (hzr.2 k (by rw [← hzr.1, hzs]; exact hk)) (all_cellOK hall k (by rw [← hzr.1, hzs]; exact hk))
            · have hb : bsz (w.alloc (.cells cells elem)) w.heap.size = c.toNat * i.size := by unfold bsz; rw [heap_alloc_at]; exact hsize
              have := Rep.row (w := w.alloc (.cells cells elem)) (μ := upd μ id (.pl w.heap.size 0)) (F := F) id 0 0 l.toNat i.size w.heap.size 0 c.toNat (by simp [upd]) (by omega) (by rw [hb]; simp)
              simpa using this
          · exact he.elim
        · exact he.elim
      · exact he.elim
    · exact he.elim
  · exact he.elim

/-! ### One operation -/

def evalAll (ρ : Operand → Option SV) : List Operand → Option (List SV)
  | [] => some []
  | x :: r => match ρ x, evalAll ρ r with
    | some s, some ss => some (s :: ss)
    | _, _ => none

def evalParts (ρ : Operand → Option SV) : List (Nat × Operand) → Option (List (Nat × SV))
  | [] => some []
  | (i, x) :: r => match ρ x, evalParts ρ r with
    | some s, some ss => some ((i, s) :: ss)
    | _, _ => none

def evalOpt (ρ : Operand → Option SV) : Option Operand → Option (Option SV)
  | none => some none
  | some x => (ρ x).map some

/-- The result of an operation that only computes. -/
def still (hp : Heap) (t : Tr SV) : Tr (SV × Heap) := t.bind fun s => .ret (s, hp)

def hasRoom (P : Program) (hp : Heap) (t : TypeId) (x : SV) : Bool :=
  match P.underlying t, x with
  | some (.array n elem), .ptr l off =>
    match tsz P elem, hget hp l with
    | some esz, some (.cells cs) => decide (off + n * esz ≤ cs.length)
    | some esz, some (.row m esz' _) => decide (off + n * esz ≤ m * esz')
    | _, _ => false
  | _, _ => true

def lenSV : SV → Option Nat
  | .d (.ro len _ _) => some len
  | .row _ _ _ len _ => some len
  | _ => none

def absLen (P : Program) (t : TypeId) (ty : TypeId) (x : SV) : Tr SV :=
  match P.underlying t, lenSV x with
  | some (.slice _), some n => .ret (.d (.x (.int .i64 (n : Int))))
  | _, _ => match exact x with
    | some v => absPure P (Builtin.len_ #[t] ty #[v])
    | none => .fail

/-- An element of an array that lies in no memory. -/
def absIndexA (P : Program) (t : TypeId) (cs : List SV) (i : Int) : Tr SV :=
  match P.underlying t with
  | some (.array len elem) =>
    match shapeT P elem, tsz P elem with
    | some sh, some esz => if len * esz ≤ cs.length ∧ sh.2 ≤ esz then .nd (0 ≤ i ∧ i < len) (.ret (ofCells sh fun k => selCol ((List.range len).map fun a => cs.getD (a * esz + k) uv) i.toNat)) else .fail
    | _, _ => .fail
  | _ => .fail

theorem absIndexA_sound {P : Program} {w : World} {μ : Mu} {F : Nat → Prop} {t : TypeId} {v iv : Value} {cs : List SV} {k : IntKind} {i : Int} {r : SV} (hv : Rep w μ F v (.agg cs)) (hi : Rep w μ F iv (.d (.x (.int k i)))) (he : (absIndexA P t cs i).ev r) :
    ∃ u, (Instr.index t v iv).run P w = .ok u w ∧ Rep w μ F u r := by
  have e2 := rep_x hi
  subst e2
  unfold absIndexA at he
  split at he
  · rename_i len elem hu
    split at he
    · rename_i sh esz hs ht
      split at he
      · rename_i hk
        obtain ⟨⟨h0, h1⟩, he⟩ := he
        simp only [Tr.ev] at he; subst he
        have hsh1 := shapeT_one hs
        cases hv with
        | agg vs _ hl h =>
          have hlt : i.toNat < len := by omega
          have hm : (i.toNat + 1) * esz ≤ len * esz := Nat.mul_le_mul_right _ hlt
          rw [Nat.add_mul] at hm
          have hp : absPart P elem cs (i.toNat * esz) = some (ofCells sh fun j => cs.getD (i.toNat * esz + j) uv) := by
            unfold absPart; rw [hs]; simp only []; rw [if_pos (by omega)]
          obtain ⟨u, h2, h3⟩ := absPart_sound (P := P) hl h hp
          refine ⟨u, ?_, ?_⟩
          · unfold Instr.index
            simp only [asIntOf, Sem.run_bind, Sem.run_pure, Result.andThen, run_underlying hu, h0, h1, and_self, if_true, run_tsz w ht]
            exact h2
          · have : (ofCells sh fun k => selCol ((List.range len).map fun a => cs.getD (a * esz + k) uv) i.toNat) = ofCells sh fun j => cs.getD (i.toNat * esz + j) uv := by
              have e : ∀ k, selCol ((List.range len).map fun a => cs.getD (a * esz + k) uv) i.toNat = cs.getD (i.toNat * esz + k) uv := by
                intro k
                rw [selCol_eq _ _ (by simpa using hlt)]
                simp [List.getD, hlt]
              simp only [e]
            rw [this]; exact h3
      · exact he.elim
    · exact he.elim
  · exact he.elim

def absOp (P : Program) (id : Nat) (hp : Heap) (ρ : Operand → Option SV) (o : Oper) : Tr (SV × Heap) :=
  match o.op with
  | .move x | .assign x => match ρ x with | some s => .ret (s, hp) | none => .fail
  | .alloc t => absAlloc P id hp t
  | .box _ x => match ρ x with | some s => absBox id hp s | none => .fail
  | .build t ps => match evalParts ρ ps.toList with | some ss => still hp (absBuild P t ss) | none => .fail
  | .buildSlice t len ps => match evalParts ρ ps.toList with | some ss => absBuildSlice P id hp t len ss | none => .fail
  | .load t a => match ρ a with | some p => still hp (absLoad P hp t p) | none => .fail
  | .store t a x => match ρ a, ρ x with | some p, some s => (absStore P hp t p s).bind fun h => .ret (uv, h) | _, _ => .fail
  | .nilCheck x => match ρ x with
    | some (.ptr l off) => .ret (.ptr l off, hp)
    | some (.pix l b n e i j) => .ret (.pix l b n e i j, hp)
    | some (.rop n c) => .ret (.rop n c, hp)
    | some (.fn (.func f) a b) => .ret (.fn (.func f) a b, hp)
    | _ => .fail
  | .binOp op t x y _ => match ρ x, ρ y with | some a, some b => still hp (absBin P op t x y a b) | _, _ => .fail
  | .unOp op _ x => match (ρ x).bind exact with | some v => still hp (absPure P (Op.unary op v)) | none => .fail
  | .convert src dst x => match (ρ x).bind exact with | some v => still hp (absPure P (convert src dst v)) | none => .fail
  | .makeFunc fn fs cs => match evalAll ρ fs.toList, evalAll ρ cs.toList with | some a, some b => .ret (.fn fn a b, hp) | _, _ => .fail
  | .makeSlice t l c => match ρ l, ρ c with | some a, some b => absMake P id hp t a b | _, _ => .fail
  | .slice t x lo hi mx => match ρ x, evalOpt ρ lo, evalOpt ρ hi, mx with
    | some s, some a, some b, none => if hasRoom P hp t s then still hp (absSlice P t s a b) else .fail
    | some s, some none, some (some b), some m => match ρ m with
      | some c => still hp (absSlice3 P t s b c)
      | none => .fail
    | _, _, _, _ => .fail
  | .fieldAddr t x f => match ρ x with | some p => still hp (absFieldAddr P t p f) | none => .fail
  | .field t x f => match ρ x with | some s => still hp (absField P t s f) | none => .fail
  | .indexAddr t x i => match ρ x, ρ i with | some s, some j => still hp (absIndexAddr P hp t s j) | _, _ => .fail
  | .index t x i => match ρ x with
   | some (.agg cs) => match ρ i with
    | some (.d (.x (.int _ n))) => still hp (absIndexA P t cs n)
    | _ => .fail
   | _ => match (ρ x).bind exact, ρ i with
    | some (.string s), some (.d (.x (.int _ n))) => if (match P.underlying t with | some .string => true | _ => false) then .nd (0 ≤ n ∧ n < s.size) (.ret (.d (.x (.int .u8 (s.data.getD n.toNat 0).toNat)), hp)) else .fail
    | _, _ => .fail
  | .extract x i => match ρ x with | some (.tup vs) => (match vs[i]? with | some s => .ret (s, hp) | none => .fail) | _ => .fail
  | .call c => match c.callee, c.args.toList, c.argTypes.toList with
    | .builtin .len, [x], [t] => match ρ x with | some s => still hp (absLen P t o.type s) | none => .fail
    | .builtin .append, [x, y], [t, u] => match ρ x, ρ y with | some s, some r => absAppend P id hp t u s r | _, _ => .fail
    | .builtin .max, [x, y], ts => match (ρ x).bind exact, (ρ y).bind exact with | some u, some v => still hp (absPure P (Builtin.max_ ts.toArray o.type #[u, v])) | _, _ => .fail
    | .builtin .min, [x, y], ts => match (ρ x).bind exact, (ρ y).bind exact with | some u, some v => still hp (absPure P (Builtin.min_ ts.toArray o.type #[u, v])) | _, _ => .fail
    | _, _, _ => .fail
  | _ => .fail

/-- It makes nothing and writes nothing. -/
def quietOp : Op → Bool
  | .alloc _ | .box _ _ | .buildSlice _ _ _ | .store _ _ _ | .makeSlice _ _ _ => false
  | .call c => (match c.callee with | .builtin .append => false | _ => true)
  | _ => true

def NewId (id : Nat) (o : Oper) (l : Nat) : Prop := l = id ∧ quietOp o.op = false

theorem Out.nar {w : World} {μ : Mu} {F : Nat → Prop} {hp hp' : Heap} {id : Nat} {o : Oper} {v : Value} {s : SV} {w' : World} (h : Out w μ F hp (· = id) hp' v s w') (hq : quietOp o.op = false) : Out w μ F hp (NewId id o) hp' v s w' := by
  obtain ⟨μ', F', h1, h2, h3, h4⟩ := h
  exact ⟨μ', F', h1, h2, h3, fun l hl => h4 l fun e => hl ⟨e, hq⟩⟩

/-- What the model's run of an operation comes to. -/
def OpOut (P : Program) (w : World) (μ : Mu) (F : Nat → Prop) (hp : Heap) (N : Nat → Prop) (hp' : Heap) (s : SV) (r : Result Next) : Prop :=
  ∃ w', (∃ v, r = .ok (.value v) w' ∧ Out w μ F hp N hp' v s w') ∨ (r = .ok .skip w' ∧ Out w μ F hp N hp' undef s w')

theorem OpOut.value {P : Program} {w : World} {μ : Mu} {F : Nat → Prop} {hp hp' : Heap} {N : Nat → Prop} {s : SV} {x : Sem Value} {u : Value} {w' : World} (h : x.run P w = .ok u w') (ho : Out w μ F hp N hp' u s w') :
    OpOut P w μ F hp N hp' s ((do pure (.value (← x)) : Sem Next).run P w) := ⟨w', .inl ⟨u, by simp only [Sem.run_bind, h, Result.andThen, Sem.run_pure], ho⟩⟩

theorem opOut_still {P : Program} {w : World} {μ : Mu} {F : Nat → Prop} {hp hp' : Heap} {N : Nat → Prop} {t : Tr SV} {s : SV} {x : Sem Value} (hl : LH w μ F hp) (he : (still hp t).ev (s, hp')) (h : ∀ r, t.ev r → ∃ u, x.run P w = .ok u w ∧ Rep w μ F u r) :
    OpOut P w μ F hp N hp' s ((do pure (.value (← x)) : Sem Next).run P w) := by
  obtain ⟨r, h1, h2⟩ := Tr.ev_bind he
  simp only [Tr.ev, Prod.mk.injEq] at h2
  obtain ⟨rfl, rfl⟩ := h2
  obtain ⟨u, h3, h4⟩ := h s h1
  exact .value h3 (out_same hl h4)

theorem evalAll_spec {w : World} {μ : Mu} {F : Nat → Prop} {ρ : Operand → Option SV} {σ : Operand → Value} (hρ : ∀ x s, ρ x = some s → Rep w μ F (σ x) s) : ∀ {xs : List Operand} {ss : List SV}, evalAll ρ xs = some ss →
    xs.length = ss.length ∧ ∀ i, i < ss.length → Rep w μ F ((xs.map σ).getD i undef) (ss.getD i uv)
  | [], ss, h => by simp only [evalAll, Option.some.injEq] at h; subst h; simp
  | x :: r, ss, h => by
    simp only [evalAll] at h
    split at h
    · rename_i s ss' h1 h2
      simp only [Option.some.injEq] at h; subst h
      obtain ⟨h3, h4⟩ := evalAll_spec hρ h2
      refine ⟨by simp [h3], fun i hi => ?_⟩
      cases i with
      | zero => simpa using hρ x s h1
      | succ i => simpa using h4 i (by simpa using hi)
    · cases h

theorem evalParts_spec {w : World} {μ : Mu} {F : Nat → Prop} {ρ : Operand → Option SV} {σ : Operand → Value} (hρ : ∀ x s, ρ x = some s → Rep w μ F (σ x) s) : ∀ {xs : List (Nat × Operand)} {ss : List (Nat × SV)}, evalParts ρ xs = some ss →
    RepsP w μ F (xs.map fun p => (p.1, σ p.2)) ss
  | [], ss, h => by simp only [evalParts, Option.some.injEq] at h; subst h; exact .nil
  | (i, x) :: r, ss, h => by
    simp only [evalParts] at h
    split at h
    · rename_i s ss' h1 h2
      simp only [Option.some.injEq] at h; subst h
      exact .cons i (hρ x s h1) (evalParts_spec hρ h2)
    · cases h

theorem evalOpt_spec {w : World} {μ : Mu} {F : Nat → Prop} {ρ : Operand → Option SV} {σ : Operand → Value} (hρ : ∀ x s, ρ x = some s → Rep w μ F (σ x) s) {x : Option Operand} {s : Option SV} (h : evalOpt ρ x = some s) :
    (∀ v, x.map σ = some v → ∃ r, s = some r ∧ Rep w μ F v r) ∧ (x.map σ = none → s = none) := by
  cases x with
  | none => simp only [evalOpt, Option.some.injEq] at h; subst h; simp
  | some y =>
    simp only [evalOpt, Option.map_eq_some_iff] at h
    obtain ⟨r, h1, rfl⟩ := h
    refine ⟨fun v hv => ?_, fun hv => by simp at hv⟩
    simp only [Option.map_some, Option.some.injEq] at hv; subst hv
    exact ⟨r, rfl, hρ y r h1⟩

theorem bind_exact {w : World} {μ : Mu} {F : Nat → Prop} {ρ : Operand → Option SV} {σ : Operand → Value} (hρ : ∀ x s, ρ x = some s → Rep w μ F (σ x) s) {x : Operand} {v : Value} (h : (ρ x).bind exact = some v) : σ x = v := by
  cases h1 : ρ x with
  | none => simp [h1] at h
  | some s => simp only [h1, Option.bind_some] at h; exact exact_spec h (hρ x s h1)

theorem hasRoom_spec {P : Program} {w : World} {μ : Mu} {F : Nat → Prop} {hp : Heap} {t : TypeId} {x : SV} (hl : LH w μ F hp) (h : hasRoom P hp t x = true) :
    ∀ m off, x = .ptr m off → ∀ n elem esz, P.underlying t = some (.array n elem) → tsz P elem = some esz → ∀ b o, μ m = some (.pl b o) → o + off + n * esz ≤ bsz w b := by
  intro m off hx n elem esz hu hs b o hm
  subst hx
  unfold hasRoom at h
  rw [hu] at h
  simp only [hs] at h
  split at h
  · rename_i e cs h1 hg
    obtain ⟨⟨c, ee, hh, hsz, _⟩, _⟩ := hl.blkAt hg hm
    simp only [Option.some.injEq] at h1; subst h1
    have := of_decide_eq_true h
    unfold bsz; rw [hh]; simp only []; omega
  · rename_i e k e' cell h1 hg
    obtain ⟨⟨c, ee, hh, hsz, _⟩, _⟩ := hl.blkAt hg hm
    simp only [Option.some.injEq] at h1; subst h1
    have := of_decide_eq_true h
    unfold bsz; rw [hh]; simp only []; omega
  · cases h

theorem absLen_sound {P : Program} {w : World} {μ : Mu} {F : Nat → Prop} {t ty : TypeId} {v : Value} {x r : SV} (hx : Rep w μ F v x) (he : (absLen P t ty x).ev r) : ∃ u, (Builtin.len_ #[t] ty #[v]).run P w = .ok u w ∧ Rep w μ F u r := by
  unfold absLen at he
  split at he
  · rename_i e n hu hn
    simp only [Tr.ev] at he; subst he
    have key : ∀ b c, v = .slice b n c → (Builtin.len_ #[t] ty #[v]).run P w = .ok (.int .i64 (n : Int)) w := by
      intro b c hv; subst hv
      unfold Builtin.len_
      simp only [List.getElem?_toArray, List.getElem?_cons_zero, Sem.run_bind, run_underlying hu, Result.andThen, Sem.run_pure]
      rfl
    refine ⟨_, ?_, .d (.x _)⟩
    unfold lenSV at hn
    split at hn
    · simp only [Option.some.injEq] at hn; subst hn
      have hd := rep_d hx
      generalize hdv : DV.ro _ _ _ = dv at hd
      cases hd with
      | x => cases hdv
      | rf => cases hdv
      | nil => cases hdv; exact key _ _ rfl
      | z => cases hdv; exact key _ _ rfl
      | ro => cases hdv; exact key _ _ rfl
    · simp only [Option.some.injEq] at hn; subst hn
      cases hx with
      | rnil => exact key _ _ rfl
      | rz => exact key _ _ rfl
      | row => exact key _ _ rfl
    · cases hn
  · split at he
    · rename_i u hu
      rw [exact_spec hu hx]
      exact absPure_sound he
    · exact he.elim

theorem absOp_sound {P : Program} {w : World} {μ : Mu} {F : Nat → Prop} {hp hp' : Heap} {id : Nat} {ρ : Operand → Option SV} {σ : Operand → Value} {o : Oper} {s : SV} (hl : LH w μ F hp) (hid : μ id = none)
    (hρ : ∀ x s, ρ x = some s → Rep w μ F (σ x) s) (he : (absOp P id hp ρ o).ev (s, hp')) : OpOut P w μ F hp (NewId id o) hp' s ((execOp σ o).run P w) := by
  unfold absOp at he
  unfold execOp
  split at he
  all_goals first | (rename_i hop; have hq0 := congrArg quietOp hop; rw [hop]; simp only []) | exact he.elim
  · split at he
    · rename_i r hr
      simp only [Tr.ev, Prod.mk.injEq] at he; obtain ⟨rfl, rfl⟩ := he
      exact ⟨w, .inl ⟨_, rfl, out_same hl (hρ _ _ hr)⟩⟩
    · exact he.elim
  · split at he
    · rename_i r hr
      simp only [Tr.ev, Prod.mk.injEq] at he; obtain ⟨rfl, rfl⟩ := he
      exact ⟨w, .inl ⟨_, rfl, out_same hl (hρ _ _ hr)⟩⟩
    · exact he.elim
  · obtain ⟨u, w', h1, h2⟩ := absAlloc_sound hl hid he
    exact .value h1 (h2.nar hq0)
  · split at he
    · rename_i r hr
      obtain ⟨u, w', h1, h2⟩ := absBox_sound hl hid (hρ _ _ hr) he
      exact .value h1 (h2.nar hq0)
    · exact he.elim
  · split at he
    · rename_i ss hss
      refine opOut_still hl he fun r hr => absBuild_sound ?_ hr
      rw [Array.toList_map]; exact evalParts_spec hρ hss
    · exact he.elim
  · split at he
    · rename_i ss hss
      obtain ⟨u, w', h1, h2⟩ := absBuildSlice_sound hl hid (by rw [Array.toList_map]; exact evalParts_spec hρ hss) he
      exact .value h1 (h2.nar hq0)
    · exact he.elim
  · split at he
    · rename_i p hp0
      exact opOut_still hl he fun r hr => absLoad_sound hl (hρ _ _ hp0) hr
    · exact he.elim
  · split at he
    · rename_i p s0 hp0 hs0
      obtain ⟨h, h1, h2⟩ := Tr.ev_bind he
      simp only [Tr.ev, Prod.mk.injEq] at h2
      obtain ⟨rfl, rfl⟩ := h2
      obtain ⟨w', h3, h4⟩ := absStore_sound hl (hρ _ _ hp0) (hρ _ _ hs0) h1
      exact ⟨w', .inr ⟨by simp only [Sem.run_bind, h3, Result.andThen, Sem.run_pure], μ, F, h4, .d (.x _), fun _ _ h => h, fun _ _ => rfl⟩⟩
    · exact he.elim
  · split at he
    · rename_i l off hr
      simp only [Tr.ev, Prod.mk.injEq] at he; obtain ⟨rfl, rfl⟩ := he
      have := hρ _ _ hr
      generalize σ _ = v at this
      cases this with
      | ptr _ _ b o' hm => exact ⟨w, .inl ⟨_, rfl, out_same hl (.ptr _ _ _ _ hm)⟩⟩
    · rename_i l b0 n e i j hr
      simp only [Tr.ev, Prod.mk.injEq] at he; obtain ⟨rfl, rfl⟩ := he
      have := hρ _ _ hr
      generalize σ _ = v at this
      cases this with
      | pix _ _ _ _ _ _ b o' hm => exact ⟨w, .inl ⟨_, rfl, out_same hl (.pix _ _ _ _ _ _ _ _ hm)⟩⟩
    · rename_i n c hr
      simp only [Tr.ev, Prod.mk.injEq] at he; obtain ⟨rfl, rfl⟩ := he
      have := hρ _ _ hr
      generalize σ _ = v at this
      cases this with
      | rop b o' _ _ f hF h1 h2 h3 => exact ⟨w, .inl ⟨_, rfl, out_same hl (.rop _ _ _ _ f hF h1 h2 h3)⟩⟩
    · rename_i f a b hr
      simp only [Tr.ev, Prod.mk.injEq] at he; obtain ⟨rfl, rfl⟩ := he
      have := hρ _ _ hr
      generalize σ _ = v at this
      cases this with
      | fn _ fs cs _ _ h1 h2 h3 h4 => exact ⟨w, .inl ⟨_, rfl, out_same hl (.fn _ _ _ _ _ h1 h2 h3 h4)⟩⟩
    · exact he.elim
  · split at he
    · rename_i a b ha hb
      exact opOut_still hl he fun r hr => absBin_sound (hρ _ _ ha) (hρ _ _ hb) hr
    · exact he.elim
  · split at he
    · rename_i v hv
      rw [bind_exact hρ hv]
      exact opOut_still hl he fun r hr => absPure_sound hr
    · exact he.elim
  · split at he
    · rename_i v hv
      rw [bind_exact hρ hv]
      exact opOut_still hl he fun r hr => absPure_sound hr
    · exact he.elim
  · split at he
    · rename_i a b ha hb
      simp only [Tr.ev, Prod.mk.injEq] at he; obtain ⟨rfl, rfl⟩ := he
      obtain ⟨h1, h2⟩ := evalAll_spec hρ ha
      obtain ⟨h3, h4⟩ := evalAll_spec hρ hb
      refine ⟨w, .inl ⟨_, rfl, out_same hl (.fn _ _ _ _ _ (by simpa using h1) (by simpa using h3) (fun i hi => ?_) (fun i hi => ?_))⟩⟩
      · have := h2 i hi
        simpa [Array.getD_eq_getD_getElem?, List.getD] using this
      · have := h4 i hi
        simpa [Array.getD_eq_getD_getElem?, List.getD] using this
    · exact he.elim
  · split at he
    · rename_i a b ha hb
      obtain ⟨u, w', h1, h2⟩ := absMake_sound hl hid (hρ _ _ ha) (hρ _ _ hb) he
      exact .value h1 (h2.nar hq0)
    · exact he.elim
  · split at he
    · rename_i s0 a b hs0 ha hb
      split at he
      · rename_i hroom
        obtain ⟨h1, h2⟩ := evalOpt_spec hρ ha
        obtain ⟨h3, h4⟩ := evalOpt_spec hρ hb
        exact opOut_still hl he fun r hr => absSlice_sound hl h1 h3 h2 h4 (hρ _ _ hs0) (hasRoom_spec hl hroom) hr
      · exact he.elim
    · rename_i s0 b m hs0 ha hb
      split at he
      · rename_i c hc
        obtain ⟨h1, h2⟩ := evalOpt_spec hρ ha
        obtain ⟨h3, h4⟩ := evalOpt_spec hρ hb
        rename_i lo hi _ _ _ _ _
        have e1 : Option.map σ lo = none := by
          cases h : Option.map σ lo with
          | none => rfl
          | some v => obtain ⟨r, hr, _⟩ := h1 v h; cases hr
        obtain ⟨hv, e2, h5⟩ : ∃ hv, Option.map σ hi = some hv ∧ Rep w μ F hv b := by
          cases h : Option.map σ hi with
          | none => cases h4 h
          | some v => obtain ⟨r, hr, h6⟩ := h3 v h; simp only [Option.some.injEq] at hr; subst hr; exact ⟨v, rfl, h6⟩
        rw [e1, e2, Option.map_some]
        exact opOut_still hl he fun r hr => absSlice3_sound (hρ _ _ hs0) h5 (hρ _ _ hc) hr
      · exact he.elim
    · exact he.elim
  · split at he
    · rename_i p hp0
      exact opOut_still hl he fun r hr => absFieldAddr_sound (hρ _ _ hp0) hr
    · exact he.elim
  · split at he
    · rename_i p hp0
      exact opOut_still hl he fun r hr => absField_sound (hρ _ _ hp0) hr
    · exact he.elim
  · split at he
    · rename_i s0 j hs0 hj
      exact opOut_still hl he fun r hr => absIndexAddr_sound (hρ _ _ hs0) (hρ _ _ hj) hr
    · exact he.elim
  · rename_i t xo io
    split at he
    · rename_i cs0 hcs0
      split at he
      · rename_i k n hn
        exact opOut_still hl he fun r hr => absIndexA_sound (hρ _ _ hcs0) (hρ _ _ hn) hr
      · exact he.elim
    split at he
    · rename_i s0 k n hs0 hn
      split at he
      · rename_i hu
        obtain ⟨⟨h0, h1⟩, he⟩ := he
        simp only [Tr.ev, Prod.mk.injEq] at he; obtain ⟨rfl, rfl⟩ := he
        have hst : P.underlying t = some .string := by first | exact hu | (revert hu; split <;> first | (intro _; assumption) | (intro h; cases h))
        have hlt : n.toNat < s0.size := by omega
        have e1 := bind_exact hρ hs0
        have e2 := rep_x (hρ _ _ hn)
        refine .value (u := .int .u8 (s0.data.getD n.toNat 0).toNat) ?_ (out_same hl (.d (.x _)))
        rw [e1, e2]
        unfold Instr.index
        simp only [asIntOf, Sem.run_bind, Sem.run_pure, Result.andThen, run_underlying hst, h0, if_true]
        have hlt' : n.toNat < s0.data.size := hlt
        have : s0[n.toNat]? = some (s0.data.getD n.toNat 0) := by
          rw [getElem?_pos s0 n.toNat hlt]
          simp only [Array.getD, hlt', dite_true]
          rfl
        rw [this]
        rfl
      · exact he.elim
    · exact he.elim
  · split at he
    · rename_i vs hr
      split at he
      · rename_i s0 hs0
        simp only [Tr.ev, Prod.mk.injEq] at he; obtain ⟨rfl, rfl⟩ := he
        have := hρ _ _ hr
        generalize σ _ = v at this
        cases this with
        | tup cs _ hlen hi =>
          obtain ⟨hlt, hget⟩ := List.getElem?_eq_some_iff.1 hs0
          have := hi _ hlt
          have hlt' : ‹Nat› < cs.size := by omega
          refine .value (u := cs.getD _ undef) ?_ (out_same hl (by simpa [List.getD, hs0] using this))
          unfold Instr.extract
          simp [hlen, hlt, Array.getD, Sem.run_pure]
      · exact he.elim
    · exact he.elim
  · rename_i c
    have hargs : ∀ l : List Operand, c.args.toList = l → c.args.map σ = (l.map σ).toArray := by
      intro l hl; rw [← hl]; apply Array.ext'; simp
    have htys : ∀ l : List TypeId, c.argTypes.toList = l → c.argTypes = l.toArray := by
      intro l hl; rw [← hl]
    split at he
    · rename_i x t hcal hx ht
      have hr : ∀ w, (resolve σ c o.type).run P w = .ok { target := .builtin .len #[t] o.type (c.args.map fun | .const _ => true | _ => false), args := #[σ x] } w := by
        intro w; unfold resolve; rw [hcal]; simp only [hargs _ hx, htys _ ht]; rfl
      rw [run_andThen_ok (hr w)]
      split at he
      · rename_i r hr
        exact opOut_still hl he fun r hr2 => absLen_sound (hρ _ _ hr) hr2
      · exact he.elim
    · rename_i x y t u hcal hx ht
      have hr : ∀ w, (resolve σ c o.type).run P w = .ok { target := .builtin .append #[t, u] o.type (c.args.map fun | .const _ => true | _ => false), args := #[σ x, σ y] } w := by
        intro w; unfold resolve; rw [hcal]; simp only [hargs _ hx, htys _ ht]; rfl
      rw [run_andThen_ok (hr w)]
      split at he
      · rename_i r1 r2 hr1 hr2
        obtain ⟨v, w', h1, h2⟩ := absAppend_sound (ty := o.type) hl hid (hρ _ _ hr1) (hρ _ _ hr2) he
        exact .value h1 (h2.nar (hq0.trans (by simp only [quietOp, hcal])))
      · exact he.elim
    · rename_i x y hcal hx
      have hr : ∀ w, (resolve σ c o.type).run P w = .ok { target := .builtin .max c.argTypes o.type (c.args.map fun | .const _ => true | _ => false), args := #[σ x, σ y] } w := by
        intro w; unfold resolve; rw [hcal]; simp only [hargs _ hx]; rfl
      rw [run_andThen_ok (hr w)]
      split at he
      · rename_i v1 v2 hv1 hv2
        rw [bind_exact hρ hv1, bind_exact hρ hv2, htys _ rfl]
        exact opOut_still hl he fun r hr2 => absPure_sound hr2
      · exact he.elim
    · rename_i x y hcal hx
      have hr : ∀ w, (resolve σ c o.type).run P w = .ok { target := .builtin .min c.argTypes o.type (c.args.map fun | .const _ => true | _ => false), args := #[σ x, σ y] } w := by
        intro w; unfold resolve; rw [hcal]; simp only [hargs _ hx]; rfl
      rw [run_andThen_ok (hr w)]
      split at he
      · rename_i v1 v2 hv1 hv2
        rw [bind_exact hρ hv1, bind_exact hρ hv2, htys _ rfl]
        exact opOut_still hl he fun r hr2 => absPure_sound hr2
      · exact he.elim
    · exact he.elim

end
end Go.Sx

/- The symbolic executor: temporaries, calls by contract, one step of a region. -/
namespace Go.Sx
noncomputable section

inductive Hint where
  | nil
  | t (h : Hint)
  | f (h : Hint)
  | u (h : Hint)
  | br (l r : Hint)
  | run

def isRun : Hint → Bool
  | .run => true
  | _ => false

structure AS where
  tm : List TV
  hp : Heap
  next : Nat
  hint : Hint

/-! ### Forcing: what the kernel is to reckon before it goes on -/

def fNat {β : Type} (n : Nat) (k : Nat → β) : β := match n with | 0 => k 0 | m + 1 => k (m + 1)
def fV {β : Type} (v : Value) (k : Value → β) : β := match v with | .int kd e => k (.int kd e) | .bool b => k (.bool b) | v => k v
def fDV {β : Type} (d : DV) (k : DV → β) : β := match d with | .x v => fV v fun v => k (.x v) | .ro n e c => k (.ro n e c) | .rf n e c => k (.rf n e c)
def fSV1 {β : Type} (s : SV) (k : SV → β) : β := match s with | .d d => fDV d fun d => k (.d d) | .ptr l o => fNat l fun l => fNat o fun o => k (.ptr l o) | .row l b o n e => fNat l fun l => k (.row l b o n e) | s => k s
def fSVs {β : Type} : List SV → (List SV → β) → β
  | [], k => k []
  | s :: r, k => fSV1 s fun s => fSVs r fun r => k (s :: r)
def fSV {β : Type} (s : SV) (k : SV → β) : β := match s with | .agg cs => fSVs cs fun cs => k (.agg cs) | .tup cs => fSVs cs fun cs => k (.tup cs) | s => fSV1 s k
def fTV {β : Type} (tv : TV) (k : TV → β) : β := match tv with | .ok s => fSV s fun s => k (.ok s) | .tag g w s => fSV s fun s => k (.tag g w s) | tv => k tv
def fBlk {β : Type} (b : Option Blk) (k : Option Blk → β) : β := match b with | some (.cells cs) => fSVs cs fun cs => k (some (.cells cs)) | b => k b
def fHp {β : Type} : Heap → (Heap → β) → β
  | [], k => k []
  | b :: r, k => fBlk b fun b => fHp r fun r => k (b :: r)
def fSp {α β : Type} : List α → (List α → β) → β
  | [], k => k []
  | b :: r, k => fSp r fun r => k (b :: r)
def fNats {β : Type} : List Nat → (List Nat → β) → β
  | [], k => k []
  | b :: r, k => fNat b fun b => fNats r fun r => k (b :: r)
def fDl {β : Type} : Delta → (Delta → β) → β
  | [], k => k []
  | (l, b) :: r, k => fNat l fun l => fBlk b fun b => fDl r fun r => k ((l, b) :: r)

@[simp] theorem fNat_eq {β : Type} (n : Nat) (k : Nat → β) : fNat n k = k n := by cases n <;> rfl
@[simp] theorem fV_eq {β : Type} (v : Value) (k : Value → β) : fV v k = k v := by cases v <;> rfl
@[simp] theorem fDV_eq {β : Type} (v : DV) (k : DV → β) : fDV v k = k v := by cases v <;> simp [fDV]
@[simp] theorem fSV1_eq {β : Type} (v : SV) (k : SV → β) : fSV1 v k = k v := by cases v <;> simp [fSV1]
@[simp] theorem fSVs_eq {β : Type} (l : List SV) (k : List SV → β) : fSVs l k = k l := by
  induction l generalizing k with
  | nil => rfl
  | cons a r ih => simp [fSVs, ih]
@[simp] theorem fSV_eq {β : Type} (v : SV) (k : SV → β) : fSV v k = k v := by cases v <;> simp [fSV]
@[simp] theorem fTV_eq {β : Type} (v : TV) (k : TV → β) : fTV v k = k v := by cases v <;> simp [fTV]
@[simp] theorem fBlk_eq {β : Type} (v : Option Blk) (k : Option Blk → β) : fBlk v k = k v := by
  cases v with
  | none => rfl
  | some b => cases b <;> simp [fBlk]
@[simp] theorem fHp_eq {β : Type} (l : Heap) (k : Heap → β) : fHp l k = k l := by
  induction l generalizing k with
  | nil => rfl
  | cons a r ih => simp [fHp, ih]
@[simp] theorem fSp_eq {α β : Type} (l : List α) (k : List α → β) : fSp l k = k l := by
  induction l generalizing k with
  | nil => rfl
  | cons a r ih => simp [fSp, ih]
@[simp] theorem fNats_eq {β : Type} (l : List Nat) (k : List Nat → β) : fNats l k = k l := by
  induction l generalizing k with
  | nil => rfl
  | cons a r ih => simp [fNats, ih]
@[simp] theorem fDl_eq {β : Type} (l : Delta) (k : Delta → β) : fDl l k = k l := by
  induction l generalizing k with
  | nil => rfl
  | cons a r ih => obtain ⟨x, b⟩ := a; simp [fDl, ih]

def tget (tm : List TV) : Nat → TV := List.rec (motive := fun _ => Nat → TV) (fun _ => .unk) (fun a _ ih n => Nat.rec (motive := fun _ => TV) a (fun m _ => ih m) n) tm

theorem tget_def (tm : List TV) (l : Nat) : tget tm l = tm.getD l .unk := by
  induction tm generalizing l with
  | nil => rfl
  | cons a r ih =>
    cases l with
    | zero => rfl
    | succ l => simp only [List.getD_cons_succ, ← ih]; rfl

def RepT (w : World) (μ : Mu) (F : Nat → Prop) (tmps : Array Value) (v : Value) : TV → Prop
  | .unk => True
  | .lit b => v = .bool b
  | .ok s => Rep w μ F v s
  | .cnd p s => p → Rep w μ F v s
  | .tag t want s => (tmps.getD t undef = .bool want → Rep w μ F v s) ∧ (tmps.getD t undef ≠ .bool want → v = undef)

def TmOK (w : World) (μ : Mu) (F : Nat → Prop) (tm : List TV) (tmps : Array Value) : Prop := ∀ t, RepT w μ F tmps (tmps.getD t undef) (tget tm t)

theorem RepT.mono {w w' : World} {μ μ' : Mu} {F F' : Nat → Prop} (he : Ext F w w') (hF : ∀ b, F b → F' b) (hμ : ∀ l q, μ l = some q → μ' l = some q) {tmps : Array Value} {v : Value} {tv : TV} (h : RepT w μ F tmps v tv) : RepT w' μ' F' tmps v tv := by
  cases tv with
  | unk => trivial
  | lit b => exact h
  | ok s => exact Rep.mono he hF hμ h
  | cnd p s => exact fun hp => Rep.mono he hF hμ (h hp)
  | tag t want s => exact ⟨fun ht => Rep.mono he hF hμ (h.1 ht), h.2⟩

def noTag (tm : List TV) (d : Nat) : Bool := tm.all fun | .tag t _ _ => t != d | _ => true

def noTagR (l : List TV) (d : Nat) : Bool := List.rec (motive := fun _ => Bool) true (fun a _ ih => TV.rec (motive := fun _ => Bool) ih (fun _ => ih) (fun _ => ih) (fun _ _ => ih) (fun t _ _ => Bool.rec (motive := fun _ => Bool) ih false (Nat.beq t d)) a) l

theorem noTagR_eq (l : List TV) (d : Nat) : noTagR l d = noTag l d := by
  induction l with
  | nil => rfl
  | cons a r ih =>
    unfold noTag at ih ⊢
    rw [List.all_cons, ← ih]
    cases a with
    | tag t w s =>
      show (Bool.rec (noTagR r d) false (Nat.beq t d) : Bool) = (t != d && noTagR r d)
      have : (t == d) = Nat.beq t d := by
        cases h : Nat.beq t d with
        | true => have := Nat.eq_of_beq_eq_true h; simp [this]
        | false => have := Nat.ne_of_beq_eq_false h; simp [this]
      simp only [bne, this]
      cases Nat.beq t d <;> rfl
    | _ => rfl

def setR {β : Type} (l : List TV) : Nat → TV → (List TV → β) → β → β :=
  List.rec (motive := fun _ => Nat → TV → (List TV → β) → β → β) (fun _ _ _ f => f) (fun a r ih n v k f => Nat.rec (motive := fun _ => β) (k (v :: r)) (fun m _ => ih m v (fun r' => k (a :: r')) f) n) l

theorem setR_eq {β : Type} (l : List TV) (n : Nat) (v : TV) (k : List TV → β) (f : β) : setR l n v k f = if n < l.length then k (l.set n v) else f := by
  induction l generalizing n k with
  | nil => simp; rfl
  | cons a r ih =>
    cases n with
    | zero => simp; rfl
    | succ n =>
      show setR r n v (fun r' => k (a :: r')) f = _
      rw [ih]
      simp

theorem noTag_spec {tm : List TV} {d : Nat} (h : noTag tm d = true) {t g : Nat} {w : Bool} {s : SV} (ht : tget tm t = .tag g w s) : g ≠ d := by
  simp only [tget_def] at ht
  unfold noTag at h
  rw [List.all_eq_true] at h
  by_cases hlt : t < tm.length
  · have hm : tm.getD t .unk ∈ tm := by simp [List.getD, hlt]
    have := h _ hm
    rw [ht] at this
    simpa using this
  · simp [List.getD, List.getElem?_eq_none (by omega : tm.length ≤ t)] at ht

theorem getD_set {tmps : Array Value} {d : Nat} {v : Value} (t : Nat) (hd : d < tmps.size) : (tmps.setIfInBounds d v).getD t undef = if t = d then v else tmps.getD t undef := by
  by_cases h : t = d
  · subst h; simp [Array.getD, hd]
  · simp only [h, if_false, Array.getD_eq_getD_getElem?]
    rw [Array.getElem?_setIfInBounds_ne (fun e => h e.symm)]

theorem tget_set (tm : List TV) (d t : Nat) (tv : TV) (hd : d < tm.length) : tget (tm.set d tv) t = if t = d then tv else tget tm t := by
  simp only [tget_def]
  by_cases h : t = d
  · subst h; simp [List.getD, hd]
  · simp only [h, if_false, List.getD, List.getElem?_set_ne (fun e => h e.symm)]

/-- What a result is, once it lies in its slot. -/
theorem tmOK_put {w w' : World} {μ μ' : Mu} {F F' : Nat → Prop} {tm : List TV} {tmps : Array Value} {d : Nat} {v : Value} {tv : TV} (h : TmOK w μ F tm tmps) (he : Ext F w w') (hF : ∀ b, F b → F' b) (hμ : ∀ l q, μ l = some q → μ' l = some q)
    (hd : d < tmps.size) (hd' : d < tm.length) (hn : noTag tm d = true) (hv : RepT w' μ' F' (tmps.setIfInBounds d v) v tv) : TmOK w' μ' F' (tm.set d tv) (tmps.setIfInBounds d v) := by
  intro t
  rw [tget_set _ _ _ _ hd', getD_set t hd]
  by_cases htd : t = d
  · simp only [htd, if_true]; exact hv
  · simp only [htd, if_false]
    have := (h t).mono he hF hμ
    cases ht : tget tm t with
    | tag g w0 s =>
      rw [ht] at this
      have hg := noTag_spec hn ht
      simp only [RepT, getD_set g hd, hg, if_false]
      exact this
    | _ => rw [ht] at this; exact this

/-! ### Operands -/

def tvVal (gt : Option (Nat × Bool)) : TV → Option SV
  | .ok s => some s
  | .lit b => some (.d (.x (.bool b)))
  | .cnd _ s => some s
  | .tag g w s => match gt with
    | some (g', w') => if g = g' ∧ w = w' then some s else none
    | none => none
  | .unk => none

def tvCnd : TV → List Prop
  | .cnd p _ => [p]
  | _ => []

def rho (tm : List TV) (gt : Option (Nat × Bool)) : Operand → Option SV
  | .tmp t => tvVal gt (tget tm t)
  | .const v => some (ofValue v)
  | .func f => some (.fn (.func f) [] [])
  | .global _ => none

theorem tvVal_sound {w : World} {μ : Mu} {F : Nat → Prop} {tmps : Array Value} {v : Value} {tv : TV} {gt : Option (Nat × Bool)} {s : SV} (h : RepT w μ F tmps v tv) (hg : ∀ g b, gt = some (g, b) → tmps.getD g undef = .bool b)
    (hc : ∀ p ∈ tvCnd tv, p) (he : tvVal gt tv = some s) : Rep w μ F v s := by
  cases tv with
  | unk => cases he
  | lit b => cases he; simp only [RepT] at h; rw [h]; exact .d (.x _)
  | ok s' => cases he; exact h
  | cnd p s' => cases he; exact h (hc p (List.mem_singleton.2 rfl))
  | tag g b s' =>
    simp only [tvVal] at he
    split at he
    · rename_i g' b'
      split at he
      · rename_i e
        obtain ⟨rfl, rfl⟩ := e
        cases he
        exact h.1 (hg _ _ rfl)
      · cases he
    · cases he

def needAll {α : Type} (l : List Prop) (t : Tr α) : Tr α := l.foldr (fun p t => .need p t) t

theorem needAll_ev {α : Type} {l : List Prop} {t : Tr α} {a : α} (h : (needAll l t).ev a) : (∀ p ∈ l, p) ∧ t.ev a := by
  induction l with
  | nil => exact ⟨(fun p hp => by cases hp), h⟩
  | cons q l ih =>
    obtain ⟨h1, h2⟩ := h
    obtain ⟨h3, h4⟩ := ih h2
    exact ⟨fun p hp => (List.mem_cons.1 hp).elim (fun e => e ▸ h1) (h3 p), h4⟩

/-! ### Contracts -/

abbrev Ctr := List SV → Tr SV

def emp : Mu := fun _ => none

/-- A contract: whatever memory the arguments lie in, the function returns what the tree says, and touches nothing that was there. -/
def CtrOK (P : Program) (k : FuncId) (c : Ctr) : Prop :=
  ∀ (ss : List SV) (vs : Array Value) (w : World) (F : Nat → Prop) (r : SV), (∀ b, F b → b < w.heap.size) → Reps w emp F vs ss → (c ss).ev r →
    Calls P k vs w fun e w' => ∃ v, e = .returned v ∧ Out w emp F [] (fun _ => True) [] v r w'

def noId1 : SV → Bool
  | .d _ => true
  | _ => false

def noId : SV → Bool
  | .agg cs => cs.all noId1
  | .tup cs => cs.all fun | .agg ds => ds.all noId1 | s => noId1 s
  | s => noId1 s

/-- How an argument is seen by a function that only reads. -/
def isD : SV → Bool
  | .d _ => true
  | _ => false
def dOf : SV → DV
  | .d v => v
  | _ => .x undef

def view1 (hp : Heap) : SV → Option (SV × List Prop × List Nat)
  | .d v => some (.d v, [], [])
  | .rop n c => some (.rop n c, [], [])
  | .row l base off len esz => match absSrc hp (.row l base off len esz) esz with
    | some (n, cell, p) => some (.d (.ro n esz cell), [p], [l])
    | none => none
  | .fn f xs ys => if xs.all noId = true ∧ ys.all noId = true then some (.fn f xs ys, [], []) else none
  | .ptr l off => match hget hp l with
    | some (.cells cs) => if cs.all isD = true ∧ off ≤ cs.length then some (.rop (cs.length - off) fun j => dOf (cs.getD (off + j) uv), [], [l]) else none
    | _ => none
  | _ => none

def viewL (hp : Heap) : List SV → Option (List SV × List Prop × List Nat)
  | [] => some ([], [], [])
  | s :: r => match view1 hp s, viewL hp r with
    | some (a, p, l), some (as, ps, ls) => some (a :: as, p ++ ps, l ++ ls)
    | _, _ => none

def view (hp : Heap) : SV → Option (SV × List Prop × List Nat)
  | .agg cs => (viewL hp cs).map fun (a, p, l) => (.agg a, p, l)
  | .fn f xs ys => match view1 hp (.fn f xs ys) with
    | some r => some r
    | none => match viewL hp xs, viewL hp ys with
      | some (a, p, l), some (b, q, m) => some (.fn f a b, p ++ q, l ++ m)
      | _, _ => none
  | s => view1 hp s

def views (hp : Heap) : List SV → Option (List SV × List Prop × List Nat)
  | [] => some ([], [], [])
  | s :: r => match view hp s, views hp r with
    | some (a, p, l), some (as, ps, ls) => some (a :: as, p ++ ps, l ++ ls)
    | _, _ => none

def flat1 : SV → Bool
  | .d (.x _) => true
  | _ => false

def flat : SV → Bool
  | .agg cs => cs.all flat1
  | .tup cs => cs.all fun | .agg ds => ds.all flat1 | s => flat1 s
  | s => flat1 s

def ctrCall (hp : Heap) (c : Ctr) (args : List SV) : Tr SV :=
  match views hp args with
  | none => .fail
  | some (as, ps, ls) => needAll ps ((c as).bind fun r => if noId r && (ls.isEmpty || flat r) then .ret r else .fail)

end
end Go.Sx

/- The symbolic executor: calls by contract; one operation, whatever it is. -/
namespace Go.Sx
noncomputable section

theorem rep_noId1 {w : World} {μ μ' : Mu} {F : Nat → Prop} {v : Value} {s : SV} (h : Rep w μ F v s) (hn : noId1 s = true) : Rep w μ' F v s := by
  cases h with
  | d hd => exact .d hd
  | _ => cases hn

theorem getD_mem {α : Type} {l : List α} {i : Nat} {d : α} (h : i < l.length) : l.getD i d ∈ l := by simp [List.getD, h]

theorem rep_noId {w : World} {μ μ' : Mu} {F : Nat → Prop} {v : Value} {s : SV} (h : Rep w μ F v s) (hn : noId s = true) : Rep w μ' F v s := by
  cases h with
  | d hd => exact .d hd
  | agg cs ss hl hi =>
    simp only [noId, List.all_eq_true] at hn
    exact .agg cs ss hl fun i h => rep_noId1 (hi i h) (hn _ (getD_mem h))
  | tup cs ss hl hi =>
    simp only [noId, List.all_eq_true] at hn
    refine .tup cs ss hl fun i h => ?_
    have h1 := hi i h
    have h2 := hn _ (getD_mem (d := uv) h)
    generalize ss.getD i uv = s at h1 h2 ⊢
    generalize cs.getD i undef = v at h1 ⊢
    cases h1 with
    | agg cs' ss' hl' hi' =>
      simp only [List.all_eq_true] at h2
      exact .agg cs' ss' hl' fun j hj => rep_noId1 (hi' j hj) (h2 _ (getD_mem hj))
    | d hd => exact .d hd
    | _ => cases h2
  | _ => cases hn

theorem rep_flat1 {w w' : World} {μ μ' : Mu} {F F' : Nat → Prop} {v : Value} {s : SV} (h : Rep w μ F v s) (hn : flat1 s = true) : Rep w' μ' F' v s := by
  cases h with
  | d hd => cases hd with
    | x v => exact .d (.x v)
    | _ => cases hn
  | _ => cases hn

theorem rep_flat {w w' : World} {μ μ' : Mu} {F F' : Nat → Prop} {v : Value} {s : SV} (h : Rep w μ F v s) (hn : flat s = true) : Rep w' μ' F' v s := by
  cases h with
  | d hd => cases hd with
    | x v => exact .d (.x v)
    | _ => cases hn
  | agg cs ss hl hi =>
    simp only [flat, List.all_eq_true] at hn
    exact .agg cs ss hl fun i h => rep_flat1 (hi i h) (hn _ (getD_mem h))
  | tup cs ss hl hi =>
    simp only [flat, List.all_eq_true] at hn
    refine .tup cs ss hl fun i h => ?_
    have h1 := hi i h
    have h2 := hn _ (getD_mem (d := uv) h)
    generalize ss.getD i uv = s at h1 h2 ⊢
    generalize cs.getD i undef = v at h1 ⊢
    cases h1 with
    | agg cs' ss' hl' hi' =>
      simp only [List.all_eq_true] at h2
      exact .agg cs' ss' hl' fun j hj => rep_flat1 (hi' j hj) (h2 _ (getD_mem hj))
    | d hd => cases hd with
      | x v => exact .d (.x v)
      | _ => cases h2
    | _ => cases h2
  | _ => cases hn

/-- The blocks that a view of the arguments opens. -/
def Opens (hp : Heap) (μ : Mu) (ls : List Nat) (b : Nat) : Prop := ∃ l ∈ ls, ∃ blk o, hget hp l = some blk ∧ μ l = some (.pl b o)

theorem absSrc_row {hp : Heap} {l base off len esz esz' n : Nat} {cell : Nat → Nat → DV} {p : Prop} (h : absSrc hp (.row l base off len esz) esz' = some (n, cell, p)) : n = len ∧ ∃ blk, hget hp l = some blk := by
  simp only [absSrc] at h
  split at h
  · rename_i hg
    split at h
    · simp only [Option.some.injEq, Prod.mk.injEq] at h; exact ⟨h.1.symm, _, hg⟩
    · cases h
  · rename_i hg
    split at h
    · split at h
      · simp only [Option.some.injEq, Prod.mk.injEq] at h; exact ⟨h.1.symm, _, hg⟩
      · cases h
    · cases h
  · cases h

theorem view1_sound {P : Program} {w : World} {μ : Mu} {F : Nat → Prop} {hp : Heap} {v : Value} {s a : SV} {ps : List Prop} {ls : List Nat} (hl : LH w μ F hp) (hs : Rep w μ F v s) (he : view1 hp s = some (a, ps, ls)) (hps : ∀ p ∈ ps, p) {G : Nat → Prop} (hFG : ∀ b, F b → G b)
    (hG : ∀ b, Opens hp μ ls b → G b) : Rep w emp G v a := by
  unfold view1 at he
  split at he
  · simp only [Option.some.injEq, Prod.mk.injEq] at he
    obtain ⟨rfl, rfl, rfl⟩ := he
    exact .d ((rep_d hs).mono (Ext.refl _ _) hFG)
  · rename_i n c
    simp only [Option.some.injEq, Prod.mk.injEq] at he
    obtain ⟨rfl, rfl, rfl⟩ := he
    cases hs with
    | rop b o _ _ f hF h1 h2 h3 => exact .rop b o n c f (fun h => hFG _ (hF h)) h1 h2 fun j hj => (h3 j hj).mono (Ext.refl _ _) hFG
  · rename_i l base off len esz
    split at he
    · rename_i n cell p hsrc
      simp only [Option.some.injEq, Prod.mk.injEq] at he
      obtain ⟨rfl, rfl, rfl⟩ := he
      have hp0 : p := hps p (List.mem_singleton.2 rfl)
      obtain ⟨hn, blk, hg⟩ := absSrc_row hsrc
      subst hn
      have hsrc' := absSrc_sound (P := P) hl hs hsrc hp0
      obtain ⟨news, h1, h2, h3, h4⟩ := hsrc'
      have hrun := (h2 w fun _ => rfl).2
      cases hs with
      | rnil => exact .d (.nil _ _)
      | rz _ _ _ _ b o => exact .d (.ro b o 0 0 esz cell (fun _ _ => undef) (fun h => by omega) (Nat.le_refl _) (fun i j hi => by omega) (fun i j hi => by omega) (fun i j hi => by omega))
      | row _ _ _ _ _ b o cap hm hc hz =>
        have hGb : G b := hG b ⟨l, List.mem_singleton.2 rfl, blk, o, hg, hm⟩
        obtain ⟨hat, _⟩ := hl.blkAt hg hm
        have hobj : ∃ c e, w.heap[b]? = some (.cells c e (0, 0)) := by
          cases blk with
          | cells cs => obtain ⟨c, e, hh, _⟩ := hat; exact ⟨c, e, hh⟩
          | row _ _ _ => obtain ⟨c, e, hh, _⟩ := hat; exact ⟨c, e, hh⟩
        obtain ⟨c, e, hh⟩ := hobj
        have hsz : o + base + (off + cap) * esz ≤ c.size := by unfold bsz at hz; rw [hh] at hz; exact hz
        have hle : o + base + off * esz + n * esz ≤ c.size := by
          have : n * esz ≤ cap * esz := Nat.mul_le_mul_right _ hc
          rw [Nat.add_mul] at hsz; omega
        have hdet := firstCells_det hh hle hrun
        have hidx : ∀ i j, i < n → j < esz → i * esz + j < n * esz := by
          intro i j hi hj
          have : (i + 1) * esz ≤ n * esz := Nat.mul_le_mul_right _ hi
          rw [Nat.add_mul] at this; omega
        refine .d (.ro b _ n cap esz cell (fun i j => news.getD (i * esz + j) undef) (fun _ => hGb) hc (fun i j hi hj => ?_) (fun i j hi hj => ?_) (fun i j hi hj => (h3 i j hi hj).mono (Ext.refl _ _) hFG))
        · rw [hdet _ (hidx i j hi hj)]
          exact cell_of_heap hh (by have := hidx i j hi hj; omega)
        · have hlt := hidx i j hi hj
          refine h4 _ ?_
          rw [← h1] at hlt
          exact getD_mem hlt
    · cases he
  · split at he
    · rename_i hk
      simp only [Option.some.injEq, Prod.mk.injEq] at he
      obtain ⟨rfl, rfl, rfl⟩ := he
      simp only [List.all_eq_true] at hk
      cases hs with
      | fn _ fs cs _ _ h1 h2 h3 h4 =>
        exact .fn _ fs cs _ _ h1 h2 (fun i hi => (rep_noId (μ' := emp) (h3 i hi) (hk.1 _ (getD_mem hi))).mono (Ext.refl _ _) hFG (fun _ _ h => h)) (fun i hi => (rep_noId (μ' := emp) (h4 i hi) (hk.2 _ (getD_mem hi))).mono (Ext.refl _ _) hFG (fun _ _ h => h))
    · cases he
  · rename_i l off
    split at he
    · rename_i cs hg
      split at he
      · rename_i hk
        simp only [Option.some.injEq, Prod.mk.injEq] at he
        obtain ⟨rfl, rfl, rfl⟩ := he
        obtain ⟨hk, hoff⟩ := hk
        simp only [List.all_eq_true] at hk
        cases hs with
        | ptr _ _ b o hm =>
          have hGb : G b := hG b ⟨l, List.mem_singleton.2 rfl, _, o, hg, hm⟩
          obtain ⟨⟨c, e, hh, hsz, hrep, hone⟩, _⟩ := hl.blkAt hg hm
          refine .rop b (o + off) _ _ (fun j => c.getD (o + (off + j)) undef) (fun _ => hGb) (fun j hj => ?_) (fun j hj => hone _ (by omega)) (fun j hj => ?_)
          · rw [Nat.add_assoc]
            exact cell_of_heap hh (by omega)
          · have h1 := hrep (off + j) (by omega)
            have h2 : ∃ d, cs.getD (off + j) uv = .d d := by
              have := hk _ (getD_mem (l := cs) (d := uv) (show off + j < cs.length by omega))
              cases hd : cs.getD (off + j) uv with
              | d d => exact ⟨d, rfl⟩
              | _ => rw [hd] at this; cases this
            obtain ⟨d, hd⟩ := h2
            rw [hd] at h1 ⊢
            exact (rep_d h1).mono (Ext.refl _ _) hFG
      · cases he
    · cases he
  · cases he

theorem viewL_sound {P : Program} {w : World} {μ : Mu} {F : Nat → Prop} {hp : Heap} {G : Nat → Prop} (hl : LH w μ F hp) (hFG : ∀ b, F b → G b) : ∀ {cs as : List SV} {ps : List Prop} {ls : List Nat}, viewL hp cs = some (as, ps, ls) → (∀ p ∈ ps, p) → (∀ b, Opens hp μ ls b → G b) →
    as.length = cs.length ∧ ∀ i v, i < cs.length → Rep w μ F v (cs.getD i uv) → Rep w emp G v (as.getD i uv)
  | [], as, ps, ls, he, _, _ => by
    simp only [viewL, Option.some.injEq, Prod.mk.injEq] at he
    obtain ⟨rfl, rfl, rfl⟩ := he
    exact ⟨rfl, fun i v hi => by simp at hi⟩
  | s :: r, as, ps, ls, he, hps, hG => by
    simp only [viewL] at he
    split at he
    · rename_i a p l as' ps' ls' h1 h2
      simp only [Option.some.injEq, Prod.mk.injEq] at he
      obtain ⟨rfl, rfl, rfl⟩ := he
      obtain ⟨h3, h4⟩ := viewL_sound (P := P) hl hFG h2 (fun q hq => hps q (List.mem_append.2 (.inr hq))) (fun b ⟨l', hl', x⟩ => hG b ⟨l', List.mem_append.2 (.inr hl'), x⟩)
      refine ⟨by simp [h3], fun i v hi hr => ?_⟩
      cases i with
      | zero => exact view1_sound (P := P) hl (by simpa using hr) h1 (fun q hq => hps q (List.mem_append.2 (.inl hq))) hFG (fun b ⟨l', hl', x⟩ => hG b ⟨l', List.mem_append.2 (.inl hl'), x⟩)
      | succ i => simpa using h4 i v (by simpa using hi) (by simpa using hr)
    · cases he

theorem view_sound {P : Program} {w : World} {μ : Mu} {F : Nat → Prop} {hp : Heap} {v : Value} {s a : SV} {ps : List Prop} {ls : List Nat} (hl : LH w μ F hp) (hs : Rep w μ F v s) (he : view hp s = some (a, ps, ls)) (hps : ∀ p ∈ ps, p) {G : Nat → Prop} (hFG : ∀ b, F b → G b)
    (hG : ∀ b, Opens hp μ ls b → G b) : Rep w emp G v a := by
  unfold view at he
  split at he
  · rename_i cs
    rw [Option.map_eq_some_iff] at he
    obtain ⟨⟨as, p, l⟩, h1, h2⟩ := he
    simp only [Prod.mk.injEq] at h2
    obtain ⟨rfl, rfl, rfl⟩ := h2
    obtain ⟨h3, h4⟩ := viewL_sound (P := P) hl hFG h1 hps hG
    cases hs with
    | agg vs _ hlen hi => exact .agg vs as (by omega) fun i hi' => h4 i _ (by omega) (hi i (by omega))
  · split at he
    · rename_i h1
      simp only [Option.some.injEq] at he
      subst he
      exact view1_sound (P := P) hl hs h1 hps hFG hG
    · split at he
      · rename_i f xs ys _ _ _ _ a p l b q m h1 h2
        simp only [Option.some.injEq, Prod.mk.injEq] at he
        obtain ⟨rfl, rfl, rfl⟩ := he
        obtain ⟨h3, h4⟩ := viewL_sound (P := P) hl hFG h1 (fun r hr => hps r (List.mem_append.2 (.inl hr))) fun b' ⟨l', hl', x⟩ => hG b' ⟨l', List.mem_append.2 (.inl hl'), x⟩
        obtain ⟨h5, h6⟩ := viewL_sound (P := P) hl hFG h2 (fun r hr => hps r (List.mem_append.2 (.inr hr))) fun b' ⟨l', hl', x⟩ => hG b' ⟨l', List.mem_append.2 (.inr hl'), x⟩
        cases hs with
        | fn _ fs cs _ _ e1 e2 e3 e4 =>
          exact .fn _ fs cs _ _ (by omega) (by omega) (fun i hi => h4 i _ (by omega) (e3 i (by omega))) (fun i hi => h6 i _ (by omega) (e4 i (by omega)))
      · cases he
  · exact view1_sound (P := P) hl hs he hps hFG hG

theorem views_sound {P : Program} {w : World} {μ : Mu} {F : Nat → Prop} {hp : Heap} {G : Nat → Prop} (hl : LH w μ F hp) (hFG : ∀ b, F b → G b) : ∀ {cs as : List SV} {ps : List Prop} {ls : List Nat}, views hp cs = some (as, ps, ls) → (∀ p ∈ ps, p) → (∀ b, Opens hp μ ls b → G b) →
    as.length = cs.length ∧ ∀ i v, i < cs.length → Rep w μ F v (cs.getD i uv) → Rep w emp G v (as.getD i uv)
  | [], as, ps, ls, he, _, _ => by
    simp only [views, Option.some.injEq, Prod.mk.injEq] at he
    obtain ⟨rfl, rfl, rfl⟩ := he
    exact ⟨rfl, fun i v hi => by simp at hi⟩
  | s :: r, as, ps, ls, he, hps, hG => by
    simp only [views] at he
    split at he
    · rename_i a p l as' ps' ls' h1 h2
      simp only [Option.some.injEq, Prod.mk.injEq] at he
      obtain ⟨rfl, rfl, rfl⟩ := he
      obtain ⟨h3, h4⟩ := views_sound (P := P) hl hFG h2 (fun q hq => hps q (List.mem_append.2 (.inr hq))) (fun b ⟨l', hl', x⟩ => hG b ⟨l', List.mem_append.2 (.inr hl'), x⟩)
      refine ⟨by simp [h3], fun i v hi hr => ?_⟩
      cases i with
      | zero => exact view_sound (P := P) hl (by simpa using hr) h1 (fun q hq => hps q (List.mem_append.2 (.inl hq))) hFG (fun b ⟨l', hl', x⟩ => hG b ⟨l', List.mem_append.2 (.inl hl'), x⟩)
      | succ i => simpa using h4 i v (by simpa using hi) (by simpa using hr)
    · cases he

theorem ctrCall_sound {P : Program} {w : World} {μ : Mu} {F : Nat → Prop} {hp : Heap} {N : Nat → Prop} {k : FuncId} {c : Ctr} {args : List SV} {vs : Array Value} {r : SV} (hl : LH w μ F hp) (hc : CtrOK P k c) (ha : Reps w μ F vs args) (he : (ctrCall hp c args).ev r) :
    Calls P k vs w fun e w' => ∃ v, e = .returned v ∧ Out w μ F hp N hp v r w' := by
  unfold ctrCall at he
  split at he
  · exact he.elim
  · rename_i as ps ls hv
    obtain ⟨hps, he⟩ := needAll_ev he
    obtain ⟨r', h1, h2⟩ := Tr.ev_bind he
    split at h2
    · rename_i hk
      simp only [Tr.ev] at h2; subst h2
      simp only [Bool.and_eq_true, Bool.or_eq_true] at hk
      obtain ⟨hno, hfl⟩ := hk
      obtain ⟨h3, h4⟩ := views_sound (P := P) (G := fun b => F b ∨ Opens hp μ ls b) hl (fun b hb => .inl hb) hv hps (fun b hb => .inr hb)
      have hG : ∀ b, (F b ∨ Opens hp μ ls b) → b < w.heap.size := by
        intro b hb
        rcases hb with hb | ⟨l, _, blk, o, hg, hm⟩
        · exact (hl.fin b hb).1
        · exact (hl.blkAt hg hm).1.lt
      refine (hc as vs w _ r hG ⟨by rw [h3]; exact ha.1, fun i hi => h4 i _ (by omega) (ha.2 i (by omega))⟩ h1).mono ?_
      rintro e w' ⟨v, rfl, μ', F', hs, hr, _, _⟩
      refine ⟨v, rfl, ?_⟩
      have hold : ∀ b, b < w.heap.size → w'.heap[b]? = w.heap[b]? := fun b hb => hs.ext.keep b ⟨hb, fun ⟨l, blk, o, hg, _⟩ => by simp [hget_def] at hg⟩
      have hextF : Ext F w w' := ⟨hs.ext.os, hs.ext.tape, hs.ext.output, hs.ext.size, fun b hb => hold b (hl.fin b hb).1, hs.ext.bsz⟩
      have hblk : ∀ (F2 : Nat → Prop), (∀ b, F b → F2 b) → (∀ b, F2 b → b < w.heap.size → F b) → ∀ l blk, hget hp l = some blk → ∃ q, μ l = some q ∧ PlcOK ⟨w, Tk hp μ, F⟩ F2 q ∧ BlkAt w' μ F2 q blk := by
        intro F2 hF2 hF2' l blk hg
        obtain ⟨q, e1, e2, e3⟩ := hl.blk l blk hg
        refine ⟨q, e1, ?_, e3.mono hextF hF2 (fun _ _ h => h) ?_⟩
        · cases q with
          | nil => trivial
          | pl b o => exact ⟨fun h => e2.1 (hF2' b h e3.lt), e2.2⟩
        · intro b o hq; subst hq; exact hold b e3.lt
      have hext : Ext (fun b => b < w.heap.size ∧ ¬ Tk hp μ b) w w' := ⟨hs.ext.os, hs.ext.tape, hs.ext.output, hs.ext.size, fun b hb => hold b hb.1, hs.ext.bsz⟩
      rcases hfl with hemp | hflat
      · have hls : ls = [] := by simpa using hemp
        subst hls
        have hF' : ∀ b, F' b → b < w.heap.size → F b := by
          intro b hb hlt
          rcases (hs.fin b hb).2 with h | ⟨l, blk, o, hg, _⟩ | h
          · rcases h with h | ⟨l, hl', _⟩
            · exact h
            · cases hl'
          · simp [hget_def] at hg
          · simp only at h; omega
        refine ⟨μ, F', ⟨hext, fun b hb => hs.sub b (.inl hb), fun b hb => ⟨(hs.fin b hb).1, ?_⟩, hblk F' (fun b hb => hs.sub b (.inl hb)) hF', hl.inj⟩, rep_noId hr hno, fun _ _ h => h, fun _ _ => rfl⟩
        rcases Nat.lt_or_ge b w.heap.size with h | h
        · exact .inl (hF' b hb h)
        · exact .inr (.inr h)
      · exact ⟨μ, F, ⟨hext, fun b hb => hb, fun b hb => ⟨by have := (hl.fin b hb).1; have := hs.ext.size; simp only at this; omega, .inl hb⟩, hblk F (fun b hb => hb) (fun b hb _ => hb), hl.inj⟩, rep_flat hr hflat, fun _ _ h => h, fun _ _ => rfl⟩
    · exact h2.elim

/-! ### Contracts that hand back a new row, which is the caller's own -/

abbrev Octr := List SV → Tr (Nat × Nat × (Nat → Nat → DV))

/-- A contract of a function whose result is a row of its own. -/
def OwnOK (P : Program) (k : FuncId) (oc : Octr) : Prop :=
  ∀ (ss : List SV) (vs : Array Value) (w : World) (F : Nat → Prop) (n esz : Nat) (cell : Nat → Nat → DV), (∀ b, F b → b < w.heap.size) → Reps w emp F vs ss → (oc ss).ev (n, esz, cell) →
    Calls P k vs w fun e w' => ∃ v, e = .returned v ∧ Out w emp F [] (fun l => l = 0) [some (.row n esz cell)] v (.row 0 0 0 n esz) w'

def ownCall (id : Nat) (hp : Heap) (oc : Octr) (args : List SV) : Tr (SV × Heap) :=
  match views hp args with
  | some (as, ps, ls) => match ls with
    | [] => needAll ps ((oc as).bind fun r => match r with
      | (n, esz, cell) => .ret (.row id 0 0 n esz, hset hp id (some (.row n esz cell))))
    | _ :: _ => .fail
  | none => .fail

theorem ownCall_sound {P : Program} {w : World} {μ : Mu} {F : Nat → Prop} {hp hp' : Heap} {id : Nat} {k : FuncId} {oc : Octr} {args : List SV} {vs : Array Value} {r : SV} (hl : LH w μ F hp) (hid : μ id = none) (hc : OwnOK P k oc) (ha : Reps w μ F vs args) (he : (ownCall id hp oc args).ev (r, hp')) :
    Calls P k vs w fun e w' => ∃ v, e = .returned v ∧ Out w μ F hp (· = id) hp' v r w' := by
  unfold ownCall at he
  split at he
  · rename_i as ps ls hv
    split at he
    · obtain ⟨hps, he⟩ := needAll_ev he
      obtain ⟨⟨n, esz, cell⟩, h1, h2⟩ := Tr.ev_bind he
      simp only [Tr.ev, Prod.mk.injEq] at h2
      obtain ⟨rfl, rfl⟩ := h2
      obtain ⟨h3, h4⟩ := views_sound (P := P) (G := F) hl (fun b hb => hb) hv hps (fun b ⟨l, hl', _⟩ => by cases hl')
      refine (hc as vs w F n esz cell (fun b hb => (hl.fin b hb).1) ⟨by rw [h3]; exact ha.1, fun i hi => h4 i _ (by omega) (ha.2 i (by omega))⟩ h1).mono ?_
      rintro e w' ⟨v, rfl, μ0, F', hs, hr, _, _⟩
      refine ⟨v, rfl, ?_⟩
      have hnT : ∀ b, ¬ Tk [] emp b := fun b ⟨l, blk, o, hg, _⟩ => by simp [hget_def] at hg
      have hold : ∀ b, b < w.heap.size → w'.heap[b]? = w.heap[b]? := fun b hb => hs.ext.keep b ⟨hb, hnT b⟩
      have hextF : Ext F w w' := ⟨hs.ext.os, hs.ext.tape, hs.ext.output, hs.ext.size, fun b hb => hold b (hl.fin b hb).1, hs.ext.bsz⟩
      have hext : Ext (fun b => b < w.heap.size ∧ ¬ Tk hp μ b) w w' := ⟨hs.ext.os, hs.ext.tape, hs.ext.output, hs.ext.size, fun b hb => hold b hb.1, hs.ext.bsz⟩
      have hF' : ∀ b, F' b → b < w.heap.size → F b := by
        intro b hb hlt
        rcases (hs.fin b hb).2 with h | h | h
        · exact h
        · exact (hnT b h).elim
        · simp only at h; omega
      obtain ⟨q, e1, e2, e3⟩ := hs.blk 0 _ rfl
      have hq : ∀ b o, q = .pl b o → w.heap.size ≤ b := by
        intro b o hq; subst hq
        rcases e2.2 with h | h
        · exact (hnT b h).elim
        · exact h
      have hself : upd μ id q id = some q := by simp [upd]
      refine ⟨upd μ id q, F', ⟨hext, fun b hb => hs.sub b hb, fun b hb => ⟨(hs.fin b hb).1, ?_⟩, ?_, ?_⟩, ?_, upd_ext hid, fun l hl' => by unfold upd; rw [if_neg hl']⟩
      · rcases Nat.lt_or_ge b w.heap.size with h | h
        · exact .inl (hF' b hb h)
        · exact .inr (.inr h)
      · intro l blk hg
        rw [hget_hset] at hg
        split at hg
        · rename_i hli; subst hli
          simp only [Option.some.injEq] at hg; subst hg
          refine ⟨q, hself, ?_, ?_⟩
          · cases q with
            | nil => trivial
            | pl b o => exact ⟨e2.1, .inr (hq b o rfl)⟩
          · cases q with
            | nil => exact e3
            | pl b o => exact e3
        · obtain ⟨p, m1, m2, m3⟩ := hl.blk l blk hg
          refine ⟨p, upd_ext hid _ _ m1, ?_, m3.mono hextF (fun b hb => hs.sub b hb) (upd_ext hid) ?_⟩
          · cases p with
            | nil => trivial
            | pl b o => exact ⟨fun h => m2.1 (hF' b h m3.lt), m2.2⟩
          · intro b o hp'; subst hp'; exact hold b m3.lt
      · intro l l' blk1 blk2 b o b' o' hne g1 g2 m1 m2
        rw [hget_hset] at g1 g2
        have old : ∀ k bb bo bk, k ≠ id → hget hp k = some bk → upd μ id q k = some (.pl bb bo) → bb < w.heap.size ∧ μ k = some (.pl bb bo) := by
          intro k bb bo bk hk hg hm
          have hm' : μ k = some (.pl bb bo) := by simpa [upd, hk] using hm
          exact ⟨(hl.blkAt hg hm').1.lt, hm'⟩
        by_cases c1 : l = id
        · have c2 : l' ≠ id := fun h => hne (c1.trans h.symm)
          rw [if_neg c2] at g2
          obtain ⟨hlt, _⟩ := old l' b' o' blk2 c2 g2 m2
          rw [c1, hself] at m1
          simp only [Option.some.injEq] at m1
          have := hq b o m1
          omega
        · rw [if_neg c1] at g1
          obtain ⟨hlt, hm1⟩ := old l b o blk1 c1 g1 m1
          by_cases c2 : l' = id
          · rw [c2, hself] at m2
            simp only [Option.some.injEq] at m2
            have := hq b' o' m2
            omega
          · rw [if_neg c2] at g2
            obtain ⟨_, hm2⟩ := old l' b' o' blk2 c2 g2 m2
            exact hl.inj l l' blk1 blk2 b o b' o' hne g1 g2 hm1 hm2
      · generalize hsv : SV.row 0 0 0 n esz = sv at hr
        cases hr with
        | rnil l base off e h =>
          cases hsv
          rw [e1] at h; simp only [Option.some.injEq] at h; subst h
          exact .rnil _ _ _ _ hself
        | rz l base off e b o p h =>
          cases hsv
          exact .rz _ _ _ _ _ _ _ hself
        | row l base off len e b o cap h hcap hz =>
          cases hsv
          rw [e1] at h; simp only [Option.some.injEq] at h; subst h
          exact .row _ _ _ _ _ _ _ _ hself hcap hz
        | _ => cases hsv
    · exact he.elim
  · exact he.elim

end
end Go.Sx

/- The symbolic executor: rows that are put into a row become values that stay. -/
namespace Go.Sx
noncomputable section

def hdropL (hp : Heap) (ls : List Nat) : Heap := ls.foldl (fun h l => hset h l none) hp

theorem hget_hdropL (ls : List Nat) : ∀ (hp : Heap) (k : Nat), hget (hdropL hp ls) k = if k ∈ ls then none else hget hp k := by
  induction ls with
  | nil => intro hp k; simp [hdropL]
  | cons l r ih =>
    intro hp k
    show hget (hdropL (hset hp l none) r) k = _
    rw [ih, hget_hset]
    by_cases h1 : k ∈ r
    · simp [h1]
    · by_cases h2 : k = l
      · simp [h2]
      · simp [h1, h2]

/-- The cells of a block, its rows taken as values that stay; the rows' blocks are given up. -/
def frzB (hp : Heap) (l : Nat) : Option (Heap × List Prop) :=
  match hget hp l with
  | some (.cells cs) => match dvsOf cs with
    | some _ => none
    | none => match viewL hp cs with
      | some (as, ps, ls) => if ls.contains l then none else some (hset (hdropL hp ls) l (some (.cells as)), ps)
      | none => none
  | _ => none

def FrzF (F : Nat → Prop) (hp : Heap) (μ : Mu) (ls : List Nat) : Nat → Prop := fun b => F b ∨ Opens hp μ ls b

/-- What is given up stays what it was. -/
theorem lh_frz {w : World} {μ : Mu} {F : Nat → Prop} {hp hp2 : Heap} {ls : List Nat} (hl : LH w μ F hp) (hsub : ∀ k blk, hget hp2 k = some blk → k ∉ ls ∧ ∃ blk0, hget hp k = some blk0 ∧ ∀ q, μ k = some q → BlkAt w μ F q blk0 → BlkAt w μ (FrzF F hp μ ls) q blk) :
    LH w μ (FrzF F hp μ ls) hp2 := by
  have hfin : ∀ b, FrzF F hp μ ls b → b < w.heap.size := by
    rintro b (hb | ⟨l, _, blk, o, hg, hm⟩)
    · exact (hl.fin b hb).1
    · exact (hl.blkAt hg hm).1.lt
  refine ⟨Ext.refl _ _, fun b hb => hb, fun b hb => ⟨hfin b hb, .inl hb⟩, ?_, ?_⟩
  · intro k blk hg
    obtain ⟨hk, blk0, hg0, himp⟩ := hsub k blk hg
    obtain ⟨q, h1, h2, h3⟩ := hl.blk k blk0 hg0
    refine ⟨q, h1, ?_, himp q h1 h3⟩
    cases q with
    | nil => trivial
    | pl b o =>
      refine ⟨?_, .inl ⟨k, blk, o, hg, h1⟩⟩
      rintro (hb | ⟨l, hl', blk1, o1, hg1, hm1⟩)
      · exact h2.1 hb
      · by_cases e : k = l
        · subst e; exact hk hl'
        · exact hl.inj k l blk0 blk1 b o b o1 e hg0 hg1 h1 hm1 rfl
  · intro l l' blk blk' b o b' o' hne h1 h2 m1 m2
    obtain ⟨_, blk0, hg0, _⟩ := hsub l blk h1
    obtain ⟨_, blk1, hg1, _⟩ := hsub l' blk' h2
    exact hl.inj l l' blk0 blk1 b o b' o' hne hg0 hg1 m1 m2

theorem tk_sub {μ : Mu} {hp hp2 : Heap} (h : ∀ k blk, hget hp2 k = some blk → ∃ blk0, hget hp k = some blk0) {b : Nat} (hb : Tk hp2 μ b) : Tk hp μ b := by
  obtain ⟨l, blk, o, hg, hm⟩ := hb
  obtain ⟨blk0, hg0⟩ := h l blk hg
  exact ⟨l, blk0, o, hg0, hm⟩

/-- From a heap where something was given up, back to the one before. -/
theorem hs_widen {w w' : World} {μ μ' : Mu} {F F1 F' : Nat → Prop} {hp hp1 hp' : Heap} (hT : ∀ b, Tk hp1 μ b → Tk hp μ b) (hF : ∀ b, F b → F1 b) (hF1 : ∀ b, F1 b → F b ∨ Tk hp μ b) (h : HS ⟨w, Tk hp1 μ, F1⟩ μ' F' hp' w') : HS ⟨w, Tk hp μ, F⟩ μ' F' hp' w' := by
  refine ⟨h.ext.mono fun b hb => ⟨hb.1, fun hh => hb.2 (hT b hh)⟩, fun b hb => h.sub b (hF b hb), fun b hb => ⟨(h.fin b hb).1, ?_⟩, fun l blk hg => ?_, h.inj⟩
  · rcases (h.fin b hb).2 with h1 | h1 | h1
    · rcases hF1 b h1 with h2 | h2
      · exact .inl h2
      · exact .inr (.inl h2)
    · exact .inr (.inl (hT b h1))
    · exact .inr (.inr h1)
  · obtain ⟨q, h1, h2, h3⟩ := h.blk l blk hg
    refine ⟨q, h1, ?_, h3⟩
    cases q with
    | nil => trivial
    | pl b o => exact ⟨h2.1, h2.2.imp (hT b) id⟩

theorem out_widen {w w' : World} {μ : Mu} {F F1 : Nat → Prop} {hp hp1 hp' : Heap} {N : Nat → Prop} {v : Value} {s : SV} (hT : ∀ b, Tk hp1 μ b → Tk hp μ b) (hF : ∀ b, F b → F1 b) (hF1 : ∀ b, F1 b → F b ∨ Tk hp μ b) (h : Out w μ F1 hp1 N hp' v s w') : Out w μ F hp N hp' v s w' := by
  obtain ⟨μ', F', h1, h2, h3, h4⟩ := h
  exact ⟨μ', F', hs_widen hT hF hF1 h1, h2, h3, h4⟩

theorem opOut_widen {P : Program} {w : World} {μ : Mu} {F F1 : Nat → Prop} {hp hp1 hp' : Heap} {N : Nat → Prop} {s : SV} {r : Result Next} (hT : ∀ b, Tk hp1 μ b → Tk hp μ b) (hF : ∀ b, F b → F1 b) (hF1 : ∀ b, F1 b → F b ∨ Tk hp μ b) (h : OpOut P w μ F1 hp1 N hp' s r) : OpOut P w μ F hp N hp' s r := by
  obtain ⟨w', ⟨v, h1, h2⟩ | ⟨h1, h2⟩⟩ := h
  · exact ⟨w', .inl ⟨v, h1, out_widen hT hF hF1 h2⟩⟩
  · exact ⟨w', .inr ⟨h1, out_widen hT hF hF1 h2⟩⟩

structure Frz (w : World) (μ : Mu) (F F1 : Nat → Prop) (hp hp1 : Heap) : Prop where
  lh : LH w μ F1 hp1
  tk : ∀ b, Tk hp1 μ b → Tk hp μ b
  up : ∀ b, F b → F1 b
  dn : ∀ b, F1 b → F b ∨ Tk hp μ b

theorem Frz.refl {w : World} {μ : Mu} {F : Nat → Prop} {hp : Heap} (h : LH w μ F hp) : Frz w μ F F hp hp := ⟨h, fun _ h => h, fun _ h => h, fun _ h => .inl h⟩
theorem Frz.trans {w : World} {μ : Mu} {F F1 F2 : Nat → Prop} {hp hp1 hp2 : Heap} (h : Frz w μ F F1 hp hp1) (k : Frz w μ F1 F2 hp1 hp2) : Frz w μ F F2 hp hp2 :=
  ⟨k.lh, fun b hb => h.tk b (k.tk b hb), fun b hb => k.up b (h.up b hb), fun b hb => by
    rcases k.dn b hb with h1 | h1
    · exact h.dn b h1
    · exact .inr (h.tk b h1)⟩
theorem Frz.out {P : Program} {w : World} {μ : Mu} {F F1 : Nat → Prop} {hp hp1 hp' : Heap} {N : Nat → Prop} {s : SV} {r : Result Next} (f : Frz w μ F F1 hp hp1) (h : OpOut P w μ F1 hp1 N hp' s r) : OpOut P w μ F hp N hp' s r := opOut_widen f.tk f.up f.dn h
theorem Frz.rep {w : World} {μ : Mu} {F F1 : Nat → Prop} {hp hp1 : Heap} (f : Frz w μ F F1 hp hp1) {v : Value} {s : SV} (h : Rep w μ F v s) : Rep w μ F1 v s := h.mono (Ext.refl _ _) f.up (fun _ _ h => h)

theorem frzF_tk {w : World} {μ : Mu} {F : Nat → Prop} {hp : Heap} {ls : List Nat} : ∀ b, FrzF F hp μ ls b → F b ∨ Tk hp μ b := by
  rintro b (h | ⟨l, _, blk, o, hg, hm⟩)
  · exact .inl h
  · exact .inr ⟨l, blk, o, hg, hm⟩

/-- Blocks given up. -/
theorem frz_drop {w : World} {μ : Mu} {F : Nat → Prop} {hp : Heap} (hl : LH w μ F hp) (ls : List Nat) : Frz w μ F (FrzF F hp μ ls) hp (hdropL hp ls) := by
  have hsub : ∀ k blk, hget (hdropL hp ls) k = some blk → k ∉ ls ∧ hget hp k = some blk := by
    intro k blk hg
    rw [hget_hdropL] at hg
    split at hg
    · cases hg
    · rename_i h; exact ⟨h, hg⟩
  refine ⟨lh_frz hl fun k blk hg => ?_, fun b hb => tk_sub (fun k blk hg => ⟨blk, (hsub k blk hg).2⟩) hb, fun b hb => .inl hb, frzF_tk (w := w)⟩
  obtain ⟨h1, h2⟩ := hsub k blk hg
  exact ⟨h1, blk, h2, fun q _ hb => hb.mono (Ext.refl _ _) (fun b h => .inl h) (fun _ _ h => h) (fun _ _ _ => rfl)⟩

theorem frzB_sound (P : Program) {w : World} {μ : Mu} {F : Nat → Prop} {hp hp1 : Heap} {l : Nat} {ps : List Prop} (hl : LH w μ F hp) (he : frzB hp l = some (hp1, ps)) (hps : ∀ p ∈ ps, p) : ∃ F1, Frz w μ F F1 hp hp1 := by
  unfold frzB at he
  split at he
  · rename_i cs hg
    split at he
    · cases he
    · split at he
      · rename_i as ps' ls hv
        split at he
        · cases he
        · rename_i hc
          simp only [Option.some.injEq, Prod.mk.injEq] at he
          obtain ⟨rfl, rfl⟩ := he
          have hnl : l ∉ ls := by simpa using hc
          obtain ⟨h3, h4⟩ := viewL_sound (P := P) (G := FrzF F hp μ ls) hl (fun b hb => .inl hb) hv hps (fun b hb => .inr hb)
          have hsub : ∀ k blk, hget (hset (hdropL hp ls) l (some (.cells as))) k = some blk → (k = l ∧ blk = .cells as) ∨ (k ≠ l ∧ k ∉ ls ∧ hget hp k = some blk) := by
            intro k blk hk
            rw [hget_hset] at hk
            split at hk
            · rename_i e; simp only [Option.some.injEq] at hk; exact .inl ⟨e, hk.symm⟩
            · rename_i e
              rw [hget_hdropL] at hk
              split at hk
              · cases hk
              · rename_i h; exact .inr ⟨e, h, hk⟩
          refine ⟨FrzF F hp μ ls, lh_frz hl fun k blk hk => ?_, fun b hb => tk_sub (fun k blk hk => ?_) hb, fun b hb => .inl hb, frzF_tk (w := w)⟩
          · rcases hsub k blk hk with ⟨rfl, rfl⟩ | ⟨h1, h2, h5⟩
            · refine ⟨hnl, _, hg, fun q hq hb => ?_⟩
              cases q with
              | nil => exact hb
              | pl b o =>
                obtain ⟨c, e, hh, hsz, hc1, hc2⟩ := hb
                refine ⟨c, e, hh, by omega, fun i hi => ?_, fun i hi => hc2 i (by omega)⟩
                exact (h4 i _ (by omega) (hc1 i (by omega))).mono (Ext.refl _ _) (fun _ h => h) (fun l q h => by simp [emp] at h)
            · exact ⟨h2, blk, h5, fun q _ hb => hb.mono (Ext.refl _ _) (fun b h => .inl h) (fun _ _ h => h) (fun _ _ _ => rfl)⟩
          · rcases hsub k blk hk with ⟨rfl, rfl⟩ | ⟨h1, h2, h5⟩
            · exact ⟨_, hg⟩
            · exact ⟨_, h5⟩
      · cases he
  · cases he

def frzS (hp : Heap) (s : Option SV) : Option (Heap × List Prop) := match s with
  | some (.row l _ _ _ _) => frzB hp l
  | _ => none

theorem frzS_sound (P : Program) {w : World} {μ : Mu} {F : Nat → Prop} {hp hp1 : Heap} {s : Option SV} {ps : List Prop} (hl : LH w μ F hp) (he : frzS hp s = some (hp1, ps)) (hps : ∀ p ∈ ps, p) : ∃ F1, Frz w μ F F1 hp hp1 := by
  unfold frzS at he
  split at he
  · exact frzB_sound P hl he hps
  · cases he

/-- An append whose rows are taken as values that stay. -/
def absApp (P : Program) (id : Nat) (hp : Heap) (ρ : Operand → Option SV) (o : Oper) (x y : Operand) : Tr (SV × Heap) :=
  match frzS hp (ρ y) with
  | some (hp1, ps) => needAll ps (match frzS hp1 (ρ x) with
    | some (hp2, ps2) => needAll ps2 (absOp P id hp2 ρ o)
    | none => absOp P id hp1 ρ o)
  | none => match frzS hp (ρ x) with
    | some (hp2, ps2) => needAll ps2 (absOp P id hp2 ρ o)
    | none => absOp P id hp ρ o

/-- A value that is put into a row, its own rows taken as values that stay. -/
def frzV (hp : Heap) (p s : SV) : Option (SV × List Prop × List Nat) :=
  match p with
  | .pix l _ _ _ _ _ => match hget hp l with
    | some (.row _ _ _) => match dvsOf (svcells s) with
      | some _ => none
      | none => match view hp s with
        | some (s', ps, ls) => if ls.contains l then none else some (s', ps, ls)
        | none => none
    | _ => none
  | _ => none

def absOpF (P : Program) (id : Nat) (hp : Heap) (ρ : Operand → Option SV) (o : Oper) : Tr (SV × Heap) :=
  match o.op with
  | .call c => match c.callee, c.args.toList with
    | .builtin .append, [x, y] => absApp P id hp ρ o x y
    | _, _ => absOp P id hp ρ o
  | .store t a x => match ρ a, ρ x with
    | some p, some s => match frzV hp p s with
      | some (s', ps, ls) => needAll ps ((absStore P (hdropL hp ls) t p s').bind fun h => .ret (uv, h))
      | none => absOp P id hp ρ o
    | _, _ => .fail
  | _ => absOp P id hp ρ o

theorem absOpF_sound {P : Program} {w : World} {μ : Mu} {F : Nat → Prop} {hp hp' : Heap} {id : Nat} {ρ : Operand → Option SV} {σ : Operand → Value} {o : Oper} {s : SV} (hl : LH w μ F hp) (hid : μ id = none)
    (hρ : ∀ x s, ρ x = some s → Rep w μ F (σ x) s) (he : (absOpF P id hp ρ o).ev (s, hp')) : OpOut P w μ F hp (NewId id o) hp' s ((execOp σ o).run P w) := by
  unfold absOpF at he
  split at he
  · split at he
    · unfold absApp at he
      split at he
      · rename_i hp1 ps h1
        obtain ⟨hps, he⟩ := needAll_ev he
        obtain ⟨F1, f1⟩ := frzS_sound P hl h1 hps
        split at he
        · rename_i hp2 ps2 h2
          obtain ⟨hps2, he⟩ := needAll_ev he
          obtain ⟨F2, f2⟩ := frzS_sound P f1.lh h2 hps2
          have f := f1.trans f2
          exact f.out (absOp_sound f.lh hid (fun x s h => f.rep (hρ x s h)) he)
        · exact f1.out (absOp_sound f1.lh hid (fun x s h => f1.rep (hρ x s h)) he)
      · split at he
        · rename_i hp2 ps2 h2
          obtain ⟨hps2, he⟩ := needAll_ev he
          obtain ⟨F2, f2⟩ := frzS_sound P hl h2 hps2
          exact f2.out (absOp_sound f2.lh hid (fun x s h => f2.rep (hρ x s h)) he)
        · exact absOp_sound hl hid hρ he
    · exact absOp_sound hl hid hρ he
  · rename_i t a x hop
    split at he
    · rename_i p sx hp1 hp2
      split at he
      · rename_i s' ps ls hv
        obtain ⟨hps, hst⟩ := needAll_ev he
        clear he
        unfold frzV at hv
        split at hv
        · split at hv
          · split at hv
            · cases hv
            · split at hv
              · rename_i s2 ps2 ls2 hview
                split at hv
                · cases hv
                · simp only [Option.some.injEq, Prod.mk.injEq] at hv
                  obtain ⟨rfl, rfl, rfl⟩ := hv
                  have f := frz_drop hl ls2
                  have hx : Rep w μ (FrzF F hp μ ls2) (σ x) s2 := (view_sound (P := P) (G := FrzF F hp μ ls2) hl (hρ x _ hp2) hview hps (fun b hb => .inl hb) (fun b hb => .inr hb)).mono (Ext.refl _ _) (fun _ h => h) (fun l q h => by simp [emp] at h)
                  refine f.out ?_
                  have hq : quietOp o.op = false := by rw [hop]; rfl
                  obtain ⟨h', e1, e2⟩ := Tr.ev_bind hst
                  simp only [Tr.ev, Prod.mk.injEq] at e2
                  obtain ⟨rfl, rfl⟩ := e2
                  obtain ⟨w', e3, e4⟩ := absStore_sound f.lh (f.rep (hρ a _ hp1)) hx e1
                  unfold execOp
                  rw [hop]
                  exact ⟨w', .inr ⟨by simp only [Sem.run_bind, e3, Result.andThen, Sem.run_pure], μ, _, e4, .d (.x _), fun _ _ h => h, fun _ _ => rfl⟩⟩
              · cases hv
          · cases hv
        · cases hv
      · exact absOp_sound hl hid hρ he
    · exact he.elim
  · exact absOp_sound hl hid hρ he

end
end Go.Sx

/- The symbolic executor: code within a round of a range over a function, and marks among the deferred calls. -/
namespace Go.Sx
noncomputable section

/-- No bounds but the round in which code runs. -/
def FW (r : Option Nat) : Fence := { Fence.wide with round := r }

theorem callsW {P : Program} {k : FuncId} {vs : Array Value} {w : World} {R : Ending → World → Prop} (r : Option Nat) (n : Nat) (h : Calls P k vs w R) : CallsIn (FW r) n P k vs w R := by
  have h2 : CallsIn Fence.wide n P k vs w R := callsIn_wide.2 h
  exact h2

theorem semAt_eq {r : Option Nat} {ρ : Operand → Value} {o : Oper} (h : ∀ c, o.op ≠ .defer c) : o.semAt r ρ = execOp ρ o := by
  cases r with
  | none => exact Oper.semAt_none ρ o
  | some l => exact Oper.semAt_some l ρ o h

/-- There is no range over a function in it. -/
def noRange : Code → Bool
  | .rangeFunc _ _ _ _ => false
  | .seq a b => noRange a && noRange b
  | .cond _ a b => noRange a && noRange b
  | .block _ a => noRange a
  | .loop a => noRange a
  | .scope a => noRange a
  | _ => true

def rOK (r : Option Nat) (c : Code) : Prop := r = none ∨ noRange c = true

/-- Code does this, in a round or not. -/
def WP (P : Program) (c : Code) (Q : Exit → Act → World → Prop) (a : Act) (w : World) : Prop := ∀ r, rOK r c → c.wpIn (FW r) 0 P Q a w

section
variable {P : Program} {Q Q' : Exit → Act → World → Prop} {a : Act} {w : World}

theorem WP.mono {c : Code} (hq : ∀ e a w, Q e a w → Q' e a w) (h : WP P c Q a w) : WP P c Q' a w := fun r hr => Go.wpIn_mono (h r hr) hq
theorem WP.wp {c : Code} (h : WP P c Q a w) : c.wpIn Fence.wide 0 P Q a w := h none (.inl rfl)
theorem WP_skip (h : Q .normal a w) : WP P .skip Q a w := fun r _ => wpIn_skip h
theorem WP_label {l : Nat} (h : Q .normal a w) : WP P (.label l) Q a w := fun r _ => wpIn_label h
theorem WP_exit {id : Nat} (h : Q (.exit id) a w) : WP P (.exit id) Q a w := fun r _ => wpIn_exit h
theorem WP_ret (h : Q .ret a w) : WP P .ret Q a w := fun r _ => wpIn_ret h
theorem WP_seq {x y : Code} (h : WP P x (Exit.then (fun a w => WP P y Q a w) Q) a w) : WP P (.seq x y) Q a w := fun r hr => by
  have h1 : rOK r x := hr.imp id fun h => by simp only [noRange, Bool.and_eq_true] at h; exact h.1
  have h2 : rOK r y := hr.imp id fun h => by simp only [noRange, Bool.and_eq_true] at h; exact h.2
  refine wpIn_seq (Go.wpIn_mono (h r h1) fun e a w hq => ?_)
  cases e <;> first | exact hq r h2 | exact hq
theorem WP_cond_true {c : Operand} {x y : Code} (hc : a.eval c = .bool true) (h : WP P x Q a w) : WP P (.cond c x y) Q a w := fun r hr =>
  wpIn_cond_true hc (h r (hr.imp id fun h => by simp only [noRange, Bool.and_eq_true] at h; exact h.1))
theorem WP_cond_false {c : Operand} {x y : Code} (hc : a.eval c = .bool false) (h : WP P y Q a w) : WP P (.cond c x y) Q a w := fun r hr =>
  wpIn_cond_false hc (h r (hr.imp id fun h => by simp only [noRange, Bool.and_eq_true] at h; exact h.2))
theorem WP_block {id : Nat} {x : Code} (h : WP P x (Exit.inBlock id Q) a w) : WP P (.block id x) Q a w := fun r hr => wpIn_block (h r hr)

theorem exitTo_len {id : Nat} : ∀ {k k' : List Item}, exitTo id k = some k' → k'.length ≤ k.length
  | [], k', h => by simp [exitTo] at h
  | x :: k, k', h => by
    unfold exitTo at h
    split at h
    · rename_i heq
      cases heq
      split at h
      · cases h; simp
      · have := exitTo_len h; simp; omega
    · rename_i heq
      cases heq
      have := exitTo_len h; simp; omega
    · cases h

theorem stepsInW_tail {r : Option Nat} {m m1 m' : Machine} (h1 : step P m = .next m1) (hne : m ≠ m') (h : StepsIn (Machine.fenced P (FW r)) P m m') : StepsIn (Machine.fenced P (FW r)) P m1 m' := by
  have h : Steps P m m' := h.steps
  have : Steps P m1 m' := by
    obtain ⟨n, hn⟩ := h
    cases n with
    | zero => simp only [runN, Stepped.next.injEq] at hn; exact (hne hn).elim
    | succ n => exact ⟨n, by simpa [runN, h1] using hn⟩
  have h2 : StepsIn (Machine.fenced P Fence.wide) P m1 m' := stepsIn_wide.2 this
  exact h2

theorem oneW {r : Option Nat} {m m1 : Machine} (h1 : step P m = .next m1) : StepsIn (Machine.fenced P (FW r)) P m m1 := by
  have h2 : StepsIn (Machine.fenced P Fence.wide) P m m1 := stepsIn_wide.2 (.one h1)
  exact h2

theorem wpIn_loop_unroll {r : Option Nat} {c : Code} (hgo : ∀ l a w, ¬ Q (.goto l) a w) (hout : ∀ a w, ¬ Q .outgrown a w) (h : c.wpIn (FW r) 0 P (Exit.then (fun a w => (Code.loop c).wpIn (FW r) 0 P Q a w) Q) a w) : (Code.loop c).wpIn (FW r) 0 P Q a w := by
  intro b k cs hro hb hroom
  obtain ⟨e, a₁, w₁, hq, harr⟩ := h b (.inLoop c :: k) cs hro hb hroom
  cases e with
  | normal =>
    obtain ⟨e₂, a₂, w₂, hq₂, harr₂⟩ := hq b k cs hro hb hroom
    refine ⟨e₂, a₂, w₂, hq₂, .of_steps (oneW stepR_loop) (.of_steps harr ?_)⟩
    have hs1 : step P (lone (b.atR a₁ (.inLoop c :: k)) cs w₁) = .next (lone (b.atR a₁ (.code c :: .inLoop c :: k)) cs w₁) := stepR_inLoop
    have hs2 : step P (lone (b.atR a₁ (.code (.loop c) :: k)) cs w₁) = .next (lone (b.atR a₁ (.code c :: .inLoop c :: k)) cs w₁) := stepR_loop
    have hne : ∀ a' k' w', k'.length ≤ k.length → lone (b.atR a₁ (.code (.loop c) :: k)) cs w₁ ≠ lone (b.atR a' k') cs w' := by
      intro a' k' w' hk he
      have := congrArg (fun m => (m.gs[0]?).map fun g => g.frame.todo.length) he
      simp [lone, Frame.atR] at this
      omega
    have hnc : ∀ a' x k1 w', (∀ c, x ≠ .loop c) → lone (b.atR a₁ (.code (.loop c) :: k)) cs w₁ ≠ lone (b.atR a' (.code x :: k1)) cs w' := by
      intro a' x k1 w' hx he
      have := congrArg (fun m => (m.gs[0]?).map fun g => g.frame.todo) he
      simp [lone, Frame.atR] at this
      exact hx c this.1.symm
    have hd : ∀ m', StepsIn (Machine.fenced P (FW r)) P (lone (b.atR a₁ (.code c :: .inLoop c :: k)) cs w₁) m' → StepsIn (Machine.fenced P (FW r)) P (lone (b.atR a₁ (.inLoop c :: k)) cs w₁) m' := fun m' h => (oneW hs1).trans h
    cases e₂ with
    | normal => exact hd _ (stepsInW_tail hs2 (hne _ _ _ (Nat.le_refl _)) harr₂)
    | exit id => exact ⟨fun k' hk' => hd _ (stepsInW_tail hs2 (hne _ _ _ (exitTo_len hk')) (harr₂.1 k' hk')), fun hr hk' => by
        obtain ⟨k1, h1, h2⟩ := harr₂.2 hr hk'
        exact ⟨k1, h1, hd _ (stepsInW_tail hs2 (hnc _ _ _ _ fun c h => by cases h) h2)⟩⟩
    | goto l => exact (hgo _ _ _ hq₂).elim
    | ret =>
      refine ⟨fun hr => ?_, fun hr => ?_⟩
      · obtain ⟨todo, hst⟩ := harr₂.1 hr
        refine ⟨todo, hd _ (stepsInW_tail hs2 ?_ hst)⟩
        intro he
        have := congrArg (fun m => (m.gs[0]?).map fun g => (match g.frame.mode with | .run => true | _ => false)) he
        simp [lone, Frame.atR] at this
      · obtain ⟨k1, h2⟩ := harr₂.2 hr
        exact ⟨k1, hd _ (stepsInW_tail hs2 (hnc _ _ _ _ fun c h => by cases h) h2)⟩
    | panic ch =>
      obtain ⟨todo, hst⟩ := harr₂
      refine ⟨todo, hd _ (stepsInW_tail hs2 ?_ hst)⟩
      intro he
      have := congrArg (fun m => (m.gs[0]?).map fun g => (match g.frame.mode with | .run => true | _ => false)) he
      simp [lone, Frame.atR] at this
    | outgrown => exact (hout _ _ hq₂).elim
  | exit id => exact ⟨_, a₁, w₁, hq, .of_steps (oneW stepR_loop) (.pass (x := .inLoop c) rfl (fun _ _ => .inl (by simp)) harr)⟩
  | goto l => exact ⟨_, a₁, w₁, hq, .of_steps (oneW stepR_loop) (.pass (x := .inLoop c) rfl (fun _ _ => .inl (by simp)) harr)⟩
  | ret => exact ⟨_, a₁, w₁, hq, .of_steps (oneW stepR_loop) (.pass (x := .inLoop c) rfl (fun _ _ => .inl (by simp)) harr)⟩
  | panic ch => exact ⟨_, a₁, w₁, hq, .of_steps (oneW stepR_loop) (.pass (x := .inLoop c) rfl (fun _ _ => .inl (by simp)) harr)⟩
  | outgrown => exact ⟨_, a₁, w₁, hq, .of_steps (b := b) (k := k) (cs := cs) (e := .outgrown) (oneW stepR_loop) (.pass (x := .inLoop c) rfl (fun _ _ => .inl (by simp)) harr)⟩

theorem WP_loop_unroll {c : Code} (hgo : ∀ l a w, ¬ Q (.goto l) a w) (hout : ∀ a w, ¬ Q .outgrown a w) (h : WP P c (Exit.then (fun a w => WP P (.loop c) Q a w) Q) a w) : WP P (.loop c) Q a w := fun r hr =>
  wpIn_loop_unroll hgo hout (Go.wpIn_mono (h r hr) fun e a w hq => by cases e <;> first | exact hq r hr | exact hq)
end

/-! ### One block that holds no cells turns -/

structure Turn (D : Nat) (w w' : World) : Prop where
  os : w'.os = w.os
  tape : w'.tape = w.tape
  output : w'.output = w.output
  size : w.heap.size ≤ w'.heap.size
  other : ∀ b, b ≠ D → b < w.heap.size → w'.heap[b]? = w.heap[b]?
  nc : ∀ c e fr, w.heap[D]? ≠ some (.cells c e fr)

variable {w w' : World} {D : Nat}

theorem Turn.cells (h : Turn D w w') {b : Nat} {c : Array Value} {e : TypeId} {fr : Nat × Nat} (hb : w.heap[b]? = some (.cells c e fr)) : w'.heap[b]? = some (.cells c e fr) := by
  by_cases hD : b = D
  · subst hD; exact (h.nc c e fr hb).elim
  · rw [h.other b hD (Array.getElem?_eq_some_iff.1 hb).1]; exact hb
theorem Turn.cell (h : Turn D w w') {a : Addr} {v : Value} (hb : w.cell? a = some v) : w'.cell? a = some v := by
  unfold World.cell? at hb ⊢
  split at hb
  · rename_i c e fr heq
    rw [h.cells heq]; exact hb
  · cases hb
theorem Turn.bsz (h : Turn D w w') (b : Nat) : bsz w b ≤ bsz w' b := by
  unfold Sx.bsz
  split
  · rename_i c e fr heq
    rw [h.cells heq]; exact Nat.le_refl _
  · exact Nat.zero_le _

theorem RepD.turn {F : Nat → Prop} {v : Value} {s : DV} (ht : Turn D w w') (h : RepD w F v s) : RepD w' F v s := by
  induction h with
  | x v => exact .x v
  | nil esz cell => exact .nil esz cell
  | z a cap esz cell => exact .z a cap esz cell
  | rf v len esz cell _ hc ih => exact .rf v len esz cell ih hc
  | ro b o len cap esz cell f hb hc hcell hone _ ih => exact .ro b o len cap esz cell f hb hc (fun i j hi hj => ht.cell (hcell i j hi hj)) hone ih
theorem Rep.turn {μ : Mu} {F : Nat → Prop} {v : Value} {s : SV} (ht : Turn D w w') (h : Rep w μ F v s) : Rep w' μ F v s := by
  induction h with
  | d h => exact .d (h.turn ht)
  | ptr l off b o h => exact .ptr l off b o h
  | pix l base n esz i j b o h => exact .pix l base n esz i j b o h
  | rnil l base off esz h => exact .rnil l base off esz h
  | rz l base off esz b o q h => exact .rz l base off esz b o q h
  | row l base off len esz b o cap h hc hz => exact .row l base off len esz b o cap h hc (Nat.le_trans hz (ht.bsz b))
  | rop b o n cell f hb hcell hone hrep => exact .rop b o n cell f hb (fun j hj => ht.cell (hcell j hj)) hone (fun j hj => (hrep j hj).turn ht)
  | agg cs ss hl _ ih => exact .agg cs ss hl ih
  | fn f fs cs ss ts h1 h2 _ _ ih1 ih2 => exact .fn f fs cs ss ts h1 h2 ih1 ih2
  | tup cs ss hl _ ih => exact .tup cs ss hl ih
  | ifc t v s _ ih => exact .ifc t v s ih
theorem BlkAt.turn {μ : Mu} {F : Nat → Prop} {q : Plc} {blk : Blk} (ht : Turn D w w') (h : BlkAt w μ F q blk) : BlkAt w' μ F q blk := by
  cases q with
  | nil => cases blk <;> exact h
  | pl b o =>
    cases blk with
    | cells cs =>
      obtain ⟨c, e, hg, hs, hc, h1⟩ := h
      exact ⟨c, e, ht.cells hg, hs, fun i hi => (hc i hi).turn ht, h1⟩
    | row n esz cell =>
      obtain ⟨c, e, hg, hs, hc, h1⟩ := h
      exact ⟨c, e, ht.cells hg, hs, fun i j hi hj => (hc i j hi hj).turn ht, h1⟩
theorem HS.turn {p : Par} {μ : Mu} {F : Nat → Prop} {hp : Heap} (ht : Turn D w w') (hD : p.w0.heap.size ≤ D ∨ p.T D) (h : HS p μ F hp w) : HS p μ F hp w' := by
  refine ⟨⟨ht.os.trans h.ext.os, ht.tape.trans h.ext.tape, ht.output.trans h.ext.output, Nat.le_trans h.ext.size ht.size, fun b hb => ?_, fun b => Nat.le_trans (h.ext.bsz b) (ht.bsz b)⟩, h.sub, fun b hb => ⟨?_, (h.fin b hb).2⟩, fun l blk hg => ?_, h.inj⟩
  · rw [ht.other b (fun e => by subst e; rcases hD with h1 | h1; exact absurd hb.1 (by omega); exact hb.2 h1) (by have := hb.1; have := h.ext.size; omega)]; exact h.ext.keep b hb
  · have := (h.fin b hb).1; have := ht.size; omega
  · obtain ⟨q, h1, h2, h3⟩ := h.blk l blk hg
    exact ⟨q, h1, h2, h3.turn ht⟩
theorem RepT.turn {μ : Mu} {F : Nat → Prop} {tmps : Array Value} {v : Value} {tv : TV} (ht : Turn D w w') (h : RepT w μ F tmps v tv) : RepT w' μ F tmps v tv := by
  cases tv with
  | unk => trivial
  | lit b => exact h
  | ok s => exact Rep.turn ht h
  | cnd p s => exact fun hp => Rep.turn ht (h hp)
  | tag t want s => exact ⟨fun hb => Rep.turn ht (h.1 hb), h.2⟩
theorem TmOK.turn {μ : Mu} {F : Nat → Prop} {tm : List TV} {tmps : Array Value} (ht : Turn D w w') (h : TmOK w μ F tm tmps) : TmOK w' μ F tm tmps := fun t => (h t).turn ht

/-! ### Marks -/

def markOf (D : Nat) : Deferred := { target := .collected D, args := #[] }

/-- Deferred calls: nothing but marks of loops that are over, whose rounds deferred nothing. -/
def Marks (p : Par) (F : Nat → Prop) (w : World) (ds : List Deferred) : Prop :=
  ∃ Ds : List Nat, ds = Ds.map markOf ∧ Ds.Nodup ∧ ∀ D ∈ Ds, (p.w0.heap.size ≤ D ∨ p.T D) ∧ w.heap[D]? = some (.deferred (some [])) ∧ ¬ F D

theorem Marks.nil (p : Par) (F : Nat → Prop) (w : World) : Marks p F w [] := ⟨[], rfl, List.nodup_nil, fun D h => by cases h⟩

theorem tk_cells {μ : Mu} {F : Nat → Prop} {hp : Heap} (h : LH w μ F hp) {b : Nat} (hb : Tk hp μ b) : ∃ c e fr, w.heap[b]? = some (.cells c e fr) := by
  obtain ⟨l, blk, o, hg, hm⟩ := hb
  obtain ⟨hat, _⟩ := h.blkAt hg hm
  cases blk with
  | cells cs => obtain ⟨c, e, hh, _⟩ := hat; exact ⟨c, e, _, hh⟩
  | row n esz cell => obtain ⟨c, e, hh, _⟩ := hat; exact ⟨c, e, _, hh⟩

/-- A block that is no cells and is not kept for reading stays so. -/
theorem mark_step {p : Par} {μ μ' : Mu} {F F' : Nat → Prop} {hp hp' : Heap} {D : Nat} {o : Obj} (hl : LH w μ F hp) (hs : HS ⟨w, Tk hp μ, F⟩ μ' F' hp' w') (h : w.heap[D]? = some o) (ho : o.isCells = false) (hF : ¬ F D) : w'.heap[D]? = some o ∧ ¬ F' D := by
  have hlt : D < w.heap.size := (Array.getElem?_eq_some_iff.1 h).1
  have hnt : ¬ Tk hp μ D := fun ht => by
    obtain ⟨c, e, fr, hc⟩ := tk_cells hl ht
    rw [hc] at h; cases h; simp [Obj.isCells] at ho
  refine ⟨(hs.ext.keep D ⟨hlt, hnt⟩).trans h, fun hf => ?_⟩
  rcases (hs.fin D hf).2 with h1 | h1 | h1
  · exact hF h1
  · exact hnt h1
  · simp only at h1; omega

theorem Marks.step {p : Par} {μ μ' : Mu} {F F' : Nat → Prop} {hp hp' : Heap} {ds : List Deferred} (h : Marks p F w ds) (hl : LH w μ F hp) (hs : HS ⟨w, Tk hp μ, F⟩ μ' F' hp' w') : Marks p F' w' ds := by
  obtain ⟨Ds, h1, h2, h3⟩ := h
  refine ⟨Ds, h1, h2, fun D hD => ?_⟩
  obtain ⟨h4, h5, h6⟩ := h3 D hD
  exact ⟨h4, mark_step (p := p) hl hs h5 rfl h6⟩

theorem turn_shut {D : Nat} (h : w.heap[D]? = some (.deferred (some []))) : Turn D w (w.putObj D (.deferred none)) := by
  refine ⟨rfl, rfl, rfl, by simp, fun b hb _ => World.putObj_heap_other hb, fun c e fr hc => ?_⟩
  rw [hc] at h; cases h

/-- A function leaves, its marks taken. -/
theorem leaves_marks {P : Program} {fn : Func} {tmps : Array Value} {R : Ending → World → Prop} {p : Par} {μ : Mu} {F : Nat → Prop} {hp : Heap} {tm : List TV} (hR : ∀ w2, HS p μ F hp w2 → TmOK w2 μ F tm tmps → ∃ v, (results fn tmps).run P w2 = .ok v w2 ∧ R (.returned v) w2) :
    ∀ (Ds : List Nat) (w : World), Ds.Nodup → (∀ D ∈ Ds, (p.w0.heap.size ≤ D ∨ p.T D) ∧ w.heap[D]? = some (.deferred (some [])) ∧ ¬ F D) → HS p μ F hp w → TmOK w μ F tm tmps → LeavesInM Fence.wide 0 P fn tmps R (Ds.map markOf) .returning w
  | [], w, _, _, h, ht => hR w h ht
  | D :: Ds, w, hn, hD, h, ht => by
    have h1 := hD D (List.mem_cons_self ..)
    have htn := turn_shut h1.2.1
    simp only [List.nodup_cons] at hn
    refine ⟨by simp, .inl ⟨D, _, rfl, run_takeDeferred h1.2.1, leaves_marks hR Ds _ hn.2 (fun E hE => ?_) (h.turn htn h1.1) (ht.turn htn)⟩⟩
    have h2 := hD E (List.mem_cons_of_mem _ hE)
    refine ⟨h2.1, ?_⟩
    have hne : E ≠ D := fun e => hn.1 (e ▸ hE)
    rw [World.putObj_heap_other hne]
    exact h2.2

end
end Go.Sx

/- The symbolic executor: a step of a region, guarded or not. -/
namespace Go.Sx
noncomputable section

structure Ctx where
  ctr : FuncId → Option Ctr
  inl : FuncId → Bool
  own : FuncId → Option Octr

def goodF (P : Program) (k : FuncId) : Bool := match P.funcs[k]? with | some fn => fn.name != "runtime.NumGoroutine" && fn.body.isSome | none => false

structure CtxOK (P : Program) (C : Ctx) : Prop where
  ctr : ∀ k c, C.ctr k = some c → CtrOK P k c ∧ goodF P k = true
  inl : ∀ k, C.inl k = true → goodF P k = true
  own : ∀ k oc, C.own k = some oc → OwnOK P k oc ∧ goodF P k = true

/-- The function that is called by its name, if its result is the caller's own. -/
def ownK (C : Ctx) : Op → Option Octr
  | .call c => (match c.callee with
    | .value (.func k) => C.own k
    | _ => none)
  | _ => none
/-- An operation that makes no memory. -/
def quietC (C : Ctx) (op : Op) : Bool := match quietOp op with
  | true => (match ownK C op with | some _ => false | none => true)
  | false => false
theorem quietC_op {C : Ctx} {op : Op} (h : quietC C op = true) : quietOp op = true ∧ ownK C op = none := by
  unfold quietC at h
  split at h
  · rename_i h1
    split at h
    · cases h
    · rename_i h2; exact ⟨h1, h2⟩
  · cases h
def NewIdC (C : Ctx) (id : Nat) (o : Oper) (l : Nat) : Prop := l = id ∧ quietC C o.op = false
theorem NewId.c {C : Ctx} {id l : Nat} {o : Oper} (h : NewId id o l) : NewIdC C id o l := ⟨h.1, by unfold quietC; rw [h.2]⟩
theorem Out.c {C : Ctx} {w : World} {μ : Mu} {F : Nat → Prop} {hp hp' : Heap} {id : Nat} {o : Oper} {v : Value} {s : SV} {w' : World} (h : Out w μ F hp (NewId id o) hp' v s w') : Out w μ F hp (NewIdC C id o) hp' v s w' := by
  obtain ⟨μ', F', h1, h2, h3, h4⟩ := h
  exact ⟨μ', F', h1, h2, h3, fun l hl => h4 l fun e => hl e.c⟩

def callee (rho : Operand → Option SV) (c : Call) : Option (FuncId × List SV) :=
  match c.callee with
  | .value f => match rho f, evalAll rho c.args.toList with
    | some (.fn (.func k) fs cs), some as => some (k, fs ++ as ++ cs)
    | _, _ => none
  | _ => none

theorem getD_append_sv (xs ys : List SV) (i : Nat) : (xs ++ ys).getD i uv = if i < xs.length then xs.getD i uv else ys.getD (i - xs.length) uv := by
  simp only [List.getD, List.getElem?_append]; split <;> rfl

theorem getD_append_v (xs ys : Array Value) (i : Nat) : (xs ++ ys).getD i undef = if i < xs.size then xs.getD i undef else ys.getD (i - xs.size) undef := by
  simp only [Array.getD_eq_getD_getElem?, Array.getElem?_append]; split <;> rfl

theorem Reps.append {w : World} {μ : Mu} {F : Nat → Prop} {xs ys : Array Value} {as bs : List SV} (h1 : Reps w μ F xs as) (h2 : Reps w μ F ys bs) : Reps w μ F (xs ++ ys) (as ++ bs) := by
  refine ⟨by simp [h1.1, h2.1], fun i hi => ?_⟩
  rw [getD_append_sv, getD_append_v, h1.1]
  split
  · rename_i h; exact h1.2 i h
  · rename_i h; exact h2.2 _ (by simp at hi; omega)

theorem callee_run {P : Program} {w : World} {μ : Mu} {F : Nat → Prop} {ρ : Operand → Option SV} {σ : Operand → Value} {o : Oper} {c : Call} {k : FuncId} {args : List SV} (hρ : ∀ x s, ρ x = some s → Rep w μ F (σ x) s) (ho : o.op = .call c)
    (hg : goodF P k = true) (he : callee ρ c = some (k, args)) : ∃ vs, (execOp σ o).run P w = .ok (.enter k vs) w ∧ Reps w μ F vs args := by
  unfold callee at he
  split at he
  · rename_i f hcal
    split at he
    · rename_i k' fs cs as hf has
      simp only [Option.some.injEq, Prod.mk.injEq] at he
      obtain ⟨rfl, rfl⟩ := he
      have hfr := hρ f _ hf
      obtain ⟨h1, h2⟩ := evalAll_spec hρ has
      have harg : Reps w μ F (c.args.map σ) as := by
        refine ⟨by simpa using h1, fun i hi => ?_⟩
        have := h2 i hi
        simpa [Array.getD_eq_getD_getElem?, List.getD] using this
      generalize hv : σ f = v at hfr
      cases hfr with
      | fn _ vf vc _ _ e1 e2 e3 e4 =>
        refine ⟨vf ++ c.args.map σ ++ vc, ?_, Reps.append (Reps.append ⟨e1, e3⟩ harg) ⟨e2, e4⟩⟩
        unfold execOp
        rw [ho]
        simp only []
        have hr : (resolve σ c o.type).run P w = .ok { target := .fn (.func k') vc, args := vf ++ c.args.map σ } w := by
          unfold resolve; rw [hcal]; simp only [hv, Deferred.ofValue, Sem.run_pure]
        rw [run_andThen_ok hr]
        unfold goodF at hg
        split at hg
        · rename_i fn hfn
          simp only [Bool.and_eq_true, bne_iff_ne, ne_eq] at hg
          simp only [invoke, callFunc, Sem.run_bind, run_program, Result.andThen, hfn]
          rw [if_neg (by simpa using hg.1)]
          have : fn.body.isNone = false := by cases hb : fn.body <;> simp [hb] at hg ⊢
          simp only [this, Bool.false_eq_true, if_false, Sem.run_pure]
        · cases hg
    · cases he
  · cases he

/-! ### Functions without a text of their own: sums and differences of 64 bits -/

def u64v (n : Int) : SV := .d (.x (.int .u64 n))

def isExt (P : Program) (k : FuncId) (n : String) : Bool := match P.funcs[k]? with
  | some fn => fn.body.isNone && fn.name == n && fn.origin == ""
  | none => false

def absExt (P : Program) (k : FuncId) (args : List SV) : Tr SV := match args with
  | [.d (.x (.int .u64 x)), .d (.x (.int .u64 y)), .d (.x (.int .u64 c))] =>
    if isExt P k "math/bits.Add64" = true then .nd (0 ≤ x ∧ 0 ≤ y ∧ 0 ≤ c ∧ c ≤ 1) (.ret (.tup [u64v ((x + y + c) % 18446744073709551616), u64v ((x + y + c) / 18446744073709551616)]))
    else if isExt P k "math/bits.Sub64" = true then .nd (0 ≤ x ∧ 0 ≤ y ∧ y < 18446744073709551616 ∧ 0 ≤ c ∧ c ≤ 1) (.ret (.tup [u64v ((x + 18446744073709551616 - y - c) % 18446744073709551616), u64v (if x < y + c then 1 else 0)]))
    else .fail
  | _ => .fail

theorem isExt_spec {P : Program} {k : FuncId} {n : String} (h : isExt P k n = true) : ∃ fn, P.funcs[k]? = some fn ∧ fn.body.isNone = true ∧ fn.name = n ∧ fn.origin = "" := by
  unfold isExt at h
  split at h
  · rename_i fn hf
    simp only [Bool.and_eq_true, beq_iff_eq] at h
    exact ⟨fn, hf, h.1.1, h.1.2, h.2⟩
  · cases h

def sub64Entry : Array Value → Sem Value := fun args => do
  let (x, y, b) ← Extern.MathBitsCarry.three "Sub64" args
  pure (Extern.MathBitsCarry.pair ((x + Extern.MathBitsCarry.m64 - y - b) % Extern.MathBitsCarry.m64) (if x < y + b then 1 else 0))

theorem run_sub64 {P : Program} (x y b : Nat) (hb : b ≤ 1) (w : World) :
    (sub64Entry #[.int .u64 x, .int .u64 y, .int .u64 b]).run P w =
      .ok (.tuple #[.int .u64 (((x + 18446744073709551616 - y - b) % 18446744073709551616 : Nat) : Int), .int .u64 ((if x < y + b then 1 else 0 : Nat) : Int)]) w := by
  have : b = 0 ∨ b = 1 := by omega
  rcases this with rfl | rfl <;> rfl

theorem find_add (fn : Func) (h : fn.name = "math/bits.Add64") : Extern.find fn = some add64Entry := by
  obtain ⟨⟩ := fn; simp only at h; subst h; kernel_rfl
theorem find_sub (fn : Func) (h : fn.name = "math/bits.Sub64") : Extern.find fn = some sub64Entry := by
  obtain ⟨⟩ := fn; simp only at h; subst h; kernel_rfl
theorem findNext_add (fn : Func) (h : fn.name = "math/bits.Add64") (h2 : fn.origin = "") : Extern.findNext fn = none := by
  obtain ⟨⟩ := fn; simp only at h h2; subst h; subst h2; kernel_rfl
theorem findNext_sub (fn : Func) (h : fn.name = "math/bits.Sub64") (h2 : fn.origin = "") : Extern.findNext fn = none := by
  obtain ⟨⟩ := fn; simp only at h h2; subst h; subst h2; kernel_rfl

theorem rep_tup2 {w : World} {μ : Mu} {F : Nat → Prop} (a b : Int) : Rep w μ F (.tuple #[.int .u64 a, .int .u64 b]) (.tup [u64v a, u64v b]) := by
  refine .tup _ _ rfl fun i hi => ?_
  match i, hi with
  | 0, _ => exact .d (.x _)
  | 1, _ => exact .d (.x _)

theorem absExt_sound {P : Program} {w : World} {μ : Mu} {F : Nat → Prop} {k : FuncId} {vs : Array Value} {args : List SV} {r : SV} (hr : Reps w μ F vs args) (he : (absExt P k args).ev r) : ∃ v, (callFunc k vs).run P w = .ok (.value v) w ∧ Rep w μ F v r := by
  unfold absExt at he
  split at he
  · rename_i x y c
    have hvs : vs = #[.int .u64 x, .int .u64 y, .int .u64 c] := by
      have h0 := rep_x (hr.2 0 (by simp))
      have h1 := rep_x (hr.2 1 (by simp))
      have h2 := rep_x (hr.2 2 (by simp))
      have hs : vs.size = 3 := hr.1
      apply Array.ext
      · simpa using hs
      · intro i hi _
        have hi3 : i < 3 := by omega
        match i, hi3 with
        | 0, _ => simpa [Array.getD, hs] using h0
        | 1, _ => simpa [Array.getD, hs] using h1
        | 2, _ => simpa [Array.getD, hs] using h2
    subst hvs
    split at he
    · rename_i hx
      obtain ⟨fn, e1, e2, e3, e4⟩ := isExt_spec hx
      obtain ⟨⟨g1, g2, g3, g4⟩, rfl⟩ := he
      refine ⟨_, ?_, rep_tup2 _ _⟩
      rw [run_callFunc_extern e1 (by rw [e3]; kernel_rfl) e2 (findNext_add fn e3 e4) (find_add fn e3), run_add64 x y c g1 g2 g3 g4]
      rfl
    split at he
    · rename_i hx
      obtain ⟨fn, e1, e2, e3, e4⟩ := isExt_spec hx
      obtain ⟨⟨g1, g2, g3, g4, g5⟩, rfl⟩ := he
      refine ⟨_, ?_, rep_tup2 _ _⟩
      obtain ⟨X, rfl⟩ := Int.eq_ofNat_of_zero_le g1
      obtain ⟨Y, rfl⟩ := Int.eq_ofNat_of_zero_le g2
      obtain ⟨B, rfl⟩ := Int.eq_ofNat_of_zero_le g4
      rw [run_callFunc_extern e1 (by rw [e3]; kernel_rfl) e2 (findNext_sub fn e3 e4) (find_sub fn e3), run_sub64 X Y B (by omega)]
      simp only [Result.andThen]
      have a1 : (((X + 18446744073709551616 - Y - B) % 18446744073709551616 : Nat) : Int) = ((X : Int) + 18446744073709551616 - Y - B) % 18446744073709551616 := by omega
      have a2 : ((if X < Y + B then 1 else 0 : Nat) : Int) = if (X : Int) < Y + B then 1 else 0 := by split <;> split <;> omega
      rw [a1, a2]
    · exact he.elim
  · exact he.elim

theorem callee_ext {P : Program} {w : World} {μ : Mu} {F : Nat → Prop} {ρ : Operand → Option SV} {σ : Operand → Value} {o : Oper} {c : Call} {k : FuncId} {args : List SV} {r : SV} (hρ : ∀ x s, ρ x = some s → Rep w μ F (σ x) s) (ho : o.op = .call c)
    (he : callee ρ c = some (k, args)) (hx : (absExt P k args).ev r) : ∃ v, (execOp σ o).run P w = .ok (.value v) w ∧ Rep w μ F v r := by
  unfold callee at he
  split at he
  · rename_i f hcal
    split at he
    · rename_i k' fs cs as hf has
      simp only [Option.some.injEq, Prod.mk.injEq] at he
      obtain ⟨rfl, rfl⟩ := he
      have hfr := hρ f _ hf
      obtain ⟨h1, h2⟩ := evalAll_spec hρ has
      have harg : Reps w μ F (c.args.map σ) as := by
        refine ⟨by simpa using h1, fun i hi => ?_⟩
        have := h2 i hi
        simpa [Array.getD_eq_getD_getElem?, List.getD] using this
      generalize hv : σ f = v at hfr
      cases hfr with
      | fn _ vf vc _ _ e1 e2 e3 e4 =>
        obtain ⟨u, hu1, hu2⟩ := absExt_sound (Reps.append (Reps.append ⟨e1, e3⟩ harg) ⟨e2, e4⟩) hx
        refine ⟨u, ?_, hu2⟩
        unfold execOp
        rw [ho]
        simp only []
        have hr : (resolve σ c o.type).run P w = .ok { target := .fn (.func k') vc, args := vf ++ c.args.map σ } w := by
          unfold resolve; rw [hcal]; simp only [hv, Deferred.ofValue, Sem.run_pure]
        rw [run_andThen_ok hr]
        simp only [invoke]
        exact hu1
    · cases he
  · cases he

def opTr (P : Program) (C : Ctx) (id : Nat) (hp : Heap) (ρ : Operand → Option SV) (o : Oper) : Tr (SV × Heap) :=
  match o.op with
  | .call c => match callee ρ c with
    | some (k, args) => match C.ctr k with
      | some ct => still hp (ctrCall hp ct args)
      | none => match ownK C o.op with
        | some oc => ownCall id hp oc args
        | none => still hp (absExt P k args)
    | none => absOpF P id hp ρ o
  | _ => absOpF P id hp ρ o

theorem wp_of_out {P : Program} {w : World} {μ : Mu} {F : Nat → Prop} {hp hp' : Heap} {N : Nat → Prop} {s : SV} {o : Oper} {a : Act} {K : Act → World → Prop} {Q : Exit → Act → World → Prop} {r : Option Nat} (hnd : ∀ c, o.op ≠ .defer c) (h : OpOut P w μ F hp N hp' s ((execOp a.eval o).run P w))
    (hK : ∀ v w', Out w μ F hp N hp' v s w' → K (a.put o.dst v) w') : o.wpIn (FW r) 0 P a w K Q := by
  refine ⟨fun _ _ => trivial, ?_⟩
  rw [semAt_eq hnd]
  obtain ⟨w', ⟨v, h1, h2⟩ | ⟨h1, h2⟩⟩ := h
  · rw [h1]; exact hK v w' h2
  · rw [h1]; exact hK undef w' h2

theorem opTr_nd {P : Program} {C : Ctx} {id : Nat} {hp : Heap} {ρ : Operand → Option SV} {o : Oper} {r : SV × Heap} (he : (opTr P C id hp ρ o).ev r) : ∀ c, o.op ≠ .defer c := by
  intro c hc
  unfold opTr at he
  rw [hc] at he
  unfold absOpF at he
  rw [hc] at he
  unfold absOp at he
  rw [hc] at he
  exact he

theorem opTr_sound {P : Program} {C : Ctx} {w : World} {μ : Mu} {F : Nat → Prop} {hp hp' : Heap} {id : Nat} {ρ : Operand → Option SV} {o : Oper} {a : Act} {s : SV} {K : Act → World → Prop} {Q : Exit → Act → World → Prop} {r : Option Nat} (hC : CtxOK P C) (hl : LH w μ F hp) (hid : μ id = none)
    (hρ : ∀ x s, ρ x = some s → Rep w μ F (a.eval x) s) (he : (opTr P C id hp ρ o).ev (s, hp')) (hK : ∀ v w', Out w μ F hp (NewIdC C id o) hp' v s w' → K (a.put o.dst v) w') : o.wpIn (FW r) 0 P a w K Q := by
  have hnd := opTr_nd he
  unfold opTr at he
  split at he
  · rename_i c hop
    split at he
    · rename_i k args hcal
      split at he
      · rename_i ct hct
        obtain ⟨h1, h2⟩ := hC.ctr k ct hct
        obtain ⟨r0, h3, h4⟩ := Tr.ev_bind he
        simp only [Tr.ev, Prod.mk.injEq] at h4
        obtain ⟨rfl, rfl⟩ := h4
        obtain ⟨vs, h5, h6⟩ := callee_run hρ hop h2 hcal
        refine ⟨fun _ _ => trivial, ?_⟩
        rw [semAt_eq hnd, h5]
        refine ⟨(fun h => by cases h), callsW r _ ((ctrCall_sound (N := NewIdC C id o) hl h1 h6 h3).mono ?_)⟩
        rintro e w' ⟨v, rfl, ho⟩
        exact hK v w' ho
      · split at he
        · rename_i oc hoc
          have hq : quietC C o.op = false := by unfold quietC; rw [hoc]; cases quietOp o.op <;> rfl
          have hk : ∃ f, c.callee = .value (.func f) ∧ C.own f = some oc := by
            rw [hop] at hoc
            unfold ownK at hoc
            simp only at hoc
            split at hoc
            · rename_i f hf; exact ⟨f, hf, hoc⟩
            · cases hoc
          obtain ⟨f, hf, hof⟩ := hk
          have hkf : k = f := by
            unfold callee at hcal
            rw [hf] at hcal
            simp only at hcal
            split at hcal
            · rename_i k' fs cs as h5 h6
              simp only [Option.some.injEq, Prod.mk.injEq] at hcal
              obtain ⟨rfl, _⟩ := hcal
              have h7 := hρ _ _ h5
              have h8 : a.eval (.func f) = .func (.func f) #[] #[] := rfl
              rw [h8] at h7
              generalize hsv : SV.fn (.func k') fs cs = sv at h7
              cases h7 with
              | fn => cases hsv; rfl
              | d => cases hsv
            · cases hcal
          subst hkf
          obtain ⟨h1, h2⟩ := hC.own k oc hof
          obtain ⟨vs, h5, h6⟩ := callee_run hρ hop h2 hcal
          refine ⟨fun _ _ => trivial, ?_⟩
          rw [semAt_eq hnd, h5]
          refine ⟨(fun h => by cases h), callsW r _ ((ownCall_sound hl hid h1 h6 he).mono ?_)⟩
          rintro e w' ⟨v, rfl, μ', F', o1, o2, o3, o4⟩
          exact hK v w' ⟨μ', F', o1, o2, o3, fun l hl' => o4 l fun e => hl' ⟨e, hq⟩⟩
        · obtain ⟨r0, h3, h4⟩ := Tr.ev_bind he
          simp only [Tr.ev, Prod.mk.injEq] at h4
          obtain ⟨rfl, rfl⟩ := h4
          obtain ⟨v, h5, h6⟩ := callee_ext hρ hop hcal h3
          exact wp_of_out hnd ⟨w, .inl ⟨v, h5, out_same hl h6⟩⟩ hK
    · exact wp_of_out hnd (absOpF_sound hl hid hρ he) fun v w' h => hK v w' h.c
  · exact wp_of_out hnd (absOpF_sound hl hid hρ he) fun v w' h => hK v w' h.c

/-! ### Guards -/

inductive GS where
  | free
  | skip
  | tagd (g : Nat) (w : Bool) (b : Option Bool)
  | bad

def gstat (ops : Array Oper) (tm : List TV) (o : Oper) : GS :=
  match o.guard with
  | none => .free
  | some (j, w) => match (ops[j]?).bind (·.dst) with
    | none => .bad
    | some g => match tget tm g with
      | .lit b => if b = w then .free else .skip
      | .ok (.d (.x (.bool b))) => .tagd g w (some b)
      | .tag _ _ (.d (.x (.bool _))) => .tagd g w none
      | .ok (.d (.x (.tuple _))) => .skip
      | _ => .bad

def gcond : Nat → List TV → Nat → Bool → Prop
  | 0, _, _, _ => True
  | n + 1, tm, g, w => match tget tm g with
    | .ok (.d (.x (.bool b))) => b = w
    | .tag g2 w2 (.d (.x (.bool b))) => gcond n tm g2 w2 ∧ b = w
    | _ => True

theorem gcond_sound {w : World} {μ : Mu} {F : Nat → Prop} {tm : List TV} {tmps : Array Value} (h : TmOK w μ F tm tmps) : ∀ (n g : Nat) (b : Bool), tmps.getD g undef = .bool b → gcond n tm g b
  | 0, _, _, _ => trivial
  | n + 1, g, b, hv => by
    unfold gcond
    have := h g
    split
    · rename_i b' ht
      rw [ht] at this
      have := rep_x this
      rw [hv] at this
      simp only [Value.bool.injEq] at this
      exact this.symm
    · rename_i g2 w2 b' ht
      rw [ht] at this
      by_cases hg2 : tmps.getD g2 undef = .bool w2
      · have h3 := rep_x (this.1 hg2)
        rw [hv] at h3
        simp only [Value.bool.injEq] at h3
        exact ⟨gcond_sound h n g2 w2 hg2, h3.symm⟩
      · have := this.2 hg2
        rw [hv] at this
        cases this
    · trivial

theorem wanted_iff {ops : Array Oper} {o : Oper} {tmps : Array Value} {j g : Nat} {b : Bool} (hg : o.guard = some (j, b)) (hd : (ops[j]?).bind (·.dst) = some g) : Region.wanted o (yielded ops tmps) = true ↔ tmps.getD g undef = .bool b := by
  unfold Region.wanted yielded
  rw [hg]
  simp only [hd, Option.bind_some, Array.getD_eq_getD_getElem?]
  cases h : tmps[g]? with
  | none => simp [undef]
  | some v => cases v <;> simp [undef]

/-! ### Choices of bools -/

def tvStrict (gt : Option (Nat × Bool)) : TV → Option SV
  | .cnd _ _ => none
  | tv => tvVal gt tv

def pickArg (tm : List TV) (gt : Option (Nat × Bool)) (tc : Nat) (want : Bool) : Operand → Option SV
  | .tmp t => match tget tm t with
    | .tag g w s => if g = tc ∧ w = want then some s else tvStrict gt (.tag g w s)
    | tv => tvStrict gt tv
  | .const v => some (ofValue v)
  | _ => none

def isB (b : Bool) : Operand → Bool
  | .const (.bool c) => b == c
  | _ => false

def mkPick (a b : Operand) (g p q : Bool) : Bool := if isB true a then g || q else if isB false b then g && p else bif g then p else q

def absPick (tm : List TV) (gt : Option (Nat × Bool)) (c a b : Operand) : Tr SV :=
  match c with
  | .tmp tc => match tget tm tc with
   | .lit true => Tr.ofOpt (pickArg tm gt tc true a)
   | .lit false => Tr.ofOpt (pickArg tm gt tc false b)
   | _ => match tvStrict gt (tget tm tc), pickArg tm gt tc true a, pickArg tm gt tc false b with
    | some (.d (.x (.bool g))), some (.d (.x (.bool p))), some (.d (.x (.bool q))) => .ret (.d (.x (.bool (mkPick a b g p q))))
    | _, _, _ => .fail
  | _ => .fail

theorem tvStrict_sound {w : World} {μ : Mu} {F : Nat → Prop} {tmps : Array Value} {v : Value} {tv : TV} {gt : Option (Nat × Bool)} {s : SV} (h : RepT w μ F tmps v tv) (hg : ∀ g b, gt = some (g, b) → tmps.getD g undef = .bool b)
    (he : tvStrict gt tv = some s) : Rep w μ F v s := by
  unfold tvStrict at he
  split at he
  · cases he
  · rename_i h'
    refine tvVal_sound h hg (fun p hp => ?_) he
    cases tv with
    | cnd q s' => exact (h' q s' rfl).elim
    | _ => cases hp

theorem pickArg_sound {w : World} {μ : Mu} {F : Nat → Prop} {tm : List TV} {a : Act} {gt : Option (Nat × Bool)} {tc : Nat} {want : Bool} {x : Operand} {s : SV} (h : TmOK w μ F tm a.tmps) (hg : ∀ g b, gt = some (g, b) → a.tmps.getD g undef = .bool b)
    (hc : a.tmps.getD tc undef = .bool want) (he : pickArg tm gt tc want x = some s) : Rep w μ F (a.eval x) s := by
  unfold pickArg at he
  split at he
  · rename_i t
    have := h t
    simp only [Act.eval]
    split at he
    · rename_i g w0 s0 ht
      rw [ht] at this
      split at he
      · rename_i e
        obtain ⟨rfl, rfl⟩ := e
        cases he
        exact this.1 hc
      · exact tvStrict_sound (tv := .tag g w0 s0) this hg he
    · exact tvStrict_sound this hg he
  · simp only [Option.some.injEq] at he; subst he; exact rep_ofValue w μ F _
  · cases he

theorem absPick_sound {P : Program} {w : World} {μ : Mu} {F : Nat → Prop} {hp : Heap} {N : Nat → Prop} {tm : List TV} {act : Act} {gt : Option (Nat × Bool)} {c a b : Operand} {o : Oper} {s : SV} (hl : LH w μ F hp) (h : TmOK w μ F tm act.tmps) (hg : ∀ g b, gt = some (g, b) → act.tmps.getD g undef = .bool b)
    (ho : o.op = .pick c a b) (he : (absPick tm gt c a b).ev s) : OpOut P w μ F hp N hp s ((execOp act.eval o).run P w) := by
  unfold absPick at he
  split at he
  · rename_i tc
    split at he
    · rename_i hl1
      have hc : act.tmps.getD tc undef = .bool true := by have := h tc; rw [hl1] at this; exact this
      have hc' : act.eval (.tmp tc) = .bool true := hc
      have hr := pickArg_sound h hg hc (Tr.ev_ofOpt he)
      unfold execOp
      rw [ho]
      simp only [hc', asBool, Sem.run_bind, Sem.run_pure, Result.andThen]
      exact ⟨w, .inl ⟨_, rfl, out_same hl hr⟩⟩
    · rename_i hl1
      have hc : act.tmps.getD tc undef = .bool false := by have := h tc; rw [hl1] at this; exact this
      have hc' : act.eval (.tmp tc) = .bool false := hc
      have hr := pickArg_sound h hg hc (Tr.ev_ofOpt he)
      unfold execOp
      rw [ho]
      simp only [hc', asBool, Sem.run_bind, Sem.run_pure, Result.andThen]
      exact ⟨w, .inl ⟨_, rfl, out_same hl hr⟩⟩
    split at he
    · rename_i g p q h1 h2 h3
      simp only [Tr.ev] at he; subst he
      have hc := rep_x (tvStrict_sound (h tc) hg h1)
      have hc' : act.eval (.tmp tc) = .bool g := hc
      unfold execOp
      rw [ho]
      simp only [hc', asBool, Sem.run_bind, Sem.run_pure, Result.andThen]
      refine ⟨w, .inl ⟨_, rfl, out_same hl ?_⟩⟩
      cases g with
      | true =>
        have := rep_x (pickArg_sound h hg hc h2)
        simp only [if_true]
        rw [this]
        unfold mkPick
        split
        · rename_i hb
          have : p = true := by
            unfold isB at hb
            split at hb
            · rename_i c'
              simp only [pickArg, ofValue, Option.some.injEq, SV.d.injEq, DV.x.injEq, Value.bool.injEq] at h2
              rw [← h2]; simpa using hb.symm
            · cases hb
          subst this
          exact .d (.x _)
        · split
          · exact .d (.x _)
          · exact .d (.x _)
      | false =>
        have := rep_x (pickArg_sound h hg hc h3)
        simp only [Bool.false_eq_true, if_false]
        rw [this]
        unfold mkPick
        split
        · exact .d (.x _)
        · split
          · rename_i hb
            have : q = false := by
              unfold isB at hb
              split at hb
              · rename_i c'
                simp only [pickArg, ofValue, Option.some.injEq, SV.d.injEq, DV.x.injEq, Value.bool.injEq] at h3
                rw [← h3]; simpa using hb.symm
              · cases hb
            subst this
            exact .d (.x _)
          · exact .d (.x _)
    · exact he.elim
  · exact he.elim

end
end Go.Sx

/- The symbolic executor: a whole region in the order of the text; code. -/
namespace Go.Sx
noncomputable section

theorem still_hp {hp hp' : Heap} {t : Tr SV} {s : SV} (h : (still hp t).ev (s, hp')) : hp' = hp := by
  obtain ⟨r, _, h2⟩ := Tr.ev_bind h
  simp only [Tr.ev, Prod.mk.injEq] at h2
  exact h2.2

theorem absOp_quiet {P : Program} {id : Nat} {hp hp' : Heap} {ρ : Operand → Option SV} {o : Oper} {s : SV} (hq : quietOp o.op = true) (he : (absOp P id hp ρ o).ev (s, hp')) : hp' = hp := by
  unfold absOp at he
  split at he
  all_goals first | (rename_i hop; rw [hop] at hq; first | (cases hq; done) | skip) | exact he.elim
  all_goals repeat' (first
    | exact still_hp he
    | exact he.elim
    | (simp only [Tr.ev, Prod.mk.injEq] at he; exact he.2)
    | (have := he.2; simp only [Tr.ev, Prod.mk.injEq] at this; exact this.2)
    | (simp only [quietOp, *] at hq; cases hq; done)
    | split at he)

theorem absOpF_quiet {P : Program} {id : Nat} {hp hp' : Heap} {ρ : Operand → Option SV} {o : Oper} {s : SV} (hq : quietOp o.op = true) (he : (absOpF P id hp ρ o).ev (s, hp')) : hp' = hp := by
  unfold absOpF at he
  split at he
  · split at he
    · rename_i hop _ _ _ _ h1 h2
      rw [hop] at hq
      simp only [quietOp, h1] at hq
      cases hq
    · exact absOp_quiet hq he
  · rename_i hop
    rw [hop] at hq; cases hq
  · exact absOp_quiet hq he

theorem opTr_quiet {P : Program} {C : Ctx} {id : Nat} {hp hp' : Heap} {ρ : Operand → Option SV} {o : Oper} {s : SV} (hq : quietC C o.op = true) (he : (opTr P C id hp ρ o).ev (s, hp')) : hp' = hp := by
  obtain ⟨hq, ho⟩ := quietC_op hq
  unfold opTr at he
  split at he
  · split at he
    · split at he
      · exact still_hp he
      · rw [ho] at he
        exact still_hp he
    · exact absOpF_quiet hq he
  · exact absOpF_quiet hq he

def opSlots (o : Oper) : List Nat := o.op.operands.toList.filterMap fun | .tmp t => some t | _ => none

def rhoR (tm : List TV) (gt : Option (Nat × Bool)) (ts : List Nat) : Operand → Option SV
  | .tmp t => if ts.contains t then tvVal gt (tget tm t) else none
  | x => rho tm gt x

def cndsT (tm : List TV) : List Nat → List Prop
  | [] => []
  | t :: r => tvCnd (tget tm t) ++ cndsT tm r

theorem cndsT_spec {tm : List TV} : ∀ {ts : List Nat}, (∀ p ∈ cndsT tm ts, p) → ∀ t ∈ ts, ∀ p ∈ tvCnd (tget tm t), p
  | [], _, t, hm => by cases hm
  | u :: r, h, t, hm => by
    rcases List.mem_cons.1 hm with e | hm'
    · subst e; exact fun p hp => h p (List.mem_append.2 (.inl hp))
    · exact cndsT_spec (ts := r) (fun q hq => h q (List.mem_append.2 (.inr hq))) t hm'

theorem rhoR_sound {w : World} {μ : Mu} {F : Nat → Prop} {tm : List TV} {a : Act} {gt : Option (Nat × Bool)} {ts : List Nat} (h : TmOK w μ F tm a.tmps) (hg : ∀ g b, gt = some (g, b) → a.tmps.getD g undef = .bool b) (hc : ∀ p ∈ cndsT tm ts, p) :
    ∀ x s, rhoR tm gt ts x = some s → Rep w μ F (a.eval x) s := by
  intro x s he
  cases x with
  | tmp t =>
    simp only [rhoR] at he
    split at he
    · rename_i hm
      exact tvVal_sound (h t) hg (cndsT_spec hc t (by simpa using hm)) he
    · cases he
  | const v => simp only [rhoR, rho, Option.some.injEq] at he; subst he; exact rep_ofValue w μ F v
  | func f => simp only [rhoR, rho, Option.some.injEq] at he; subst he; exact .fn _ _ _ _ _ rfl rfl (fun i hi => by simp at hi) (fun i hi => by simp at hi)
  | global g => simp [rhoR, rho] at he

def opAll (P : Program) (C : Ctx) (id : Nat) (tm : List TV) (hp : Heap) (gt : Option (Nat × Bool)) (o : Oper) : Tr (SV × Heap) :=
  match o.op with
  | .pick c a b => still hp (absPick tm gt c a b)
  | _ => needAll (cndsT tm (opSlots o)) (opTr P C id hp (rhoR tm gt (opSlots o)) o)

theorem opAll_sound {P : Program} {C : Ctx} {w : World} {μ : Mu} {F : Nat → Prop} {hp hp' : Heap} {id : Nat} {tm : List TV} {gt : Option (Nat × Bool)} {o : Oper} {a : Act} {s : SV} {K : Act → World → Prop} {Q : Exit → Act → World → Prop} {r : Option Nat} (hC : CtxOK P C) (hl : LH w μ F hp) (hid : μ id = none)
    (ht : TmOK w μ F tm a.tmps) (hg : ∀ g b, gt = some (g, b) → a.tmps.getD g undef = .bool b) (he : (opAll P C id tm hp gt o).ev (s, hp')) (hK : ∀ v w', Out w μ F hp (NewIdC C id o) hp' v s w' → K (a.put o.dst v) w') : o.wpIn (FW r) 0 P a w K Q := by
  unfold opAll at he
  split at he
  · rename_i c x y hop
    obtain ⟨r0, h1, h2⟩ := Tr.ev_bind he
    simp only [Tr.ev, Prod.mk.injEq] at h2
    obtain ⟨rfl, rfl⟩ := h2
    exact wp_of_out (fun c h => by rw [hop] at h; cases h) (absPick_sound hl ht hg hop h1) hK
  · obtain ⟨h1, h2⟩ := needAll_ev he
    exact opTr_sound hC hl hid (rhoR_sound ht hg h1) h2 hK

theorem opAll_quiet {P : Program} {C : Ctx} {id : Nat} {tm : List TV} {hp hp' : Heap} {gt : Option (Nat × Bool)} {o : Oper} {s : SV} (hq : quietC C o.op = true) (he : (opAll P C id tm hp gt o).ev (s, hp')) : hp' = hp := by
  unfold opAll at he
  split at he
  · exact still_hp he
  · exact opTr_quiet hq (needAll_ev he).2

/-- What is reckoned under a guard that is not decided. -/
def specT (tm : List TV) (g : Nat) (w : Bool) (hp : Heap) : Tr (SV × Heap) → Tr (TV × Heap)
  | .ret (s, _) => .ret (.tag g w s, hp)
  | .need p t => .need (gcond 8 tm g w → p) (specT tm g w hp t)
  | .dneed p _ t => .need (gcond 8 tm g w → p) (specT tm g w hp t)
  | _ => .fail

theorem specT_ev {tm : List TV} {g : Nat} {w : Bool} {hp hp' : Heap} {tv : TV} : ∀ {t : Tr (SV × Heap)}, (specT tm g w hp t).ev (tv, hp') → hp' = hp ∧ ∃ s, tv = .tag g w s ∧ (gcond 8 tm g w → ∃ h, t.ev (s, h))
  | .ret (s, h0), h => by
    simp only [specT, Tr.ev, Prod.mk.injEq] at h
    exact ⟨h.2, s, h.1, fun _ => ⟨h0, rfl⟩⟩
  | .need p t, h => by
    obtain ⟨h1, h2⟩ := h
    obtain ⟨h3, s, h4, h5⟩ := specT_ev h2
    refine ⟨h3, s, h4, fun hg => ?_⟩
    obtain ⟨h0, h6⟩ := h5 hg
    exact ⟨h0, h1 hg, h6⟩
  | .dneed p _ t, h => by
    obtain ⟨h1, h2⟩ := h
    obtain ⟨h3, s, h4, h5⟩ := specT_ev h2
    refine ⟨h3, s, h4, fun hg => ?_⟩
    obtain ⟨h0, h6⟩ := h5 hg
    exact ⟨h0, h1 hg, h6⟩
  | .ite .., h => h.elim
  | .fail, h => h.elim

/-- An operation that is not quiet stands behind this slot. -/
def gNeedN (ops : Array Oper) : Nat → Nat → Bool
  | 0, _ => false
  | n + 1, g => ops.toList.any fun p => (match p.guard with | some (j, _) => (ops[j]?).bind (·.dst) == some g | none => false) && (!quietOp p.op || (match p.dst with | some d => gNeedN ops n d | none => false))
def gNeed (ops : Array Oper) (g : Nat) : Bool := gNeedN ops 8 g

/-- A choice whose test is decided, of what is decided. -/
def litArg (tm : List TV) : Operand → Option Bool
  | .const (.bool c) => some c
  | .tmp t => match tget tm t with
    | .lit c => some c
    | _ => none
  | _ => none
def pickLit (tm : List TV) (o : Oper) : Option Bool := match o.op with
  | .pick (.tmp tc) a b => match tget tm tc with
    | .lit true => litArg tm a
    | .lit false => litArg tm b
    | _ => none
  | _ => none

/-- A test on which memory hangs is decided where it is reckoned. -/
def litOf (rn : Bool) (ops : Array Oper) (d : Option Nat) (s : SV) (hp : Heap) : Tr (TV × Heap) := match d, s with
  | some g, .d (.x (.bool b)) => if (rn || gNeed ops g) = true then .ite b (.ret (.lit true, hp)) (.ret (.lit false, hp)) else .ret (.ok s, hp)
  | _, s => .ret (.ok s, hp)

theorem litOf_ev {rn : Bool} {ops : Array Oper} {d : Option Nat} {s : SV} {hp hp' : Heap} {tv : TV} (h : (litOf rn ops d s hp).ev (tv, hp')) : hp' = hp ∧ (tv = .ok s ∨ ∃ b, tv = .lit b ∧ s = .d (.x (.bool b))) := by
  unfold litOf at h
  split at h
  · rename_i g b
    split at h
    · rcases h with ⟨rfl, h⟩ | ⟨rfl, h⟩
      · simp only [Tr.ev, Prod.mk.injEq] at h; exact ⟨h.2, .inr ⟨true, h.1, rfl⟩⟩
      · simp only [Tr.ev, Prod.mk.injEq] at h; exact ⟨h.2, .inr ⟨false, h.1, rfl⟩⟩
    · simp only [Tr.ev, Prod.mk.injEq] at h; exact ⟨h.2, .inl h.1⟩
  · simp only [Tr.ev, Prod.mk.injEq] at h; exact ⟨h.2, .inl h.1⟩

def stepTr (rn : Bool) (P : Program) (C : Ctx) (ops : Array Oper) (id : Nat) (tm : List TV) (hp : Heap) (o : Oper) : Tr (TV × Heap) :=
  match gstat ops tm o with
  | .free => match pickLit tm o with
    | some b => .ret (.lit b, hp)
    | none => (opAll P C id tm hp none o).bind fun r => litOf rn ops o.dst r.1 r.2
  | .skip => .ret (.ok uv, hp)
  | .tagd g w _ => if quietC C o.op && o.dst != some g then specT tm g w hp (opAll P C id tm hp (some (g, w)) o) else .fail
  | .bad => .fail

def OutT (w : World) (μ : Mu) (F : Nat → Prop) (hp : Heap) (N : Nat → Prop) (hp' : Heap) (tmps : Array Value) (v : Value) (tv : TV) (w' : World) : Prop :=
  ∃ μ' F', HS ⟨w, Tk hp μ, F⟩ μ' F' hp' w' ∧ RepT w' μ' F' tmps v tv ∧ (∀ l q, μ l = some q → μ' l = some q) ∧ (∀ l, ¬ N l → μ' l = μ l)

theorem Act.put_defers (a : Act) (d : Option Nat) (v : Value) : (a.put d v).defers = a.defers := by cases d <;> rfl

theorem gstat_free {ops : Array Oper} {tm : List TV} {o : Oper} {w : World} {μ : Mu} {F : Nat → Prop} {tmps : Array Value} (h : TmOK w μ F tm tmps) (hg : gstat ops tm o = .free) : Region.wanted o (yielded ops tmps) = true := by
  unfold gstat at hg
  split at hg
  · rename_i h0; simp [Region.wanted, h0]
  · rename_i j b h0
    split at hg
    · cases hg
    · rename_i g hd
      split at hg
      · rename_i c ht
        split at hg
        · rename_i e; subst e
          have := h g
          rw [ht] at this
          exact (wanted_iff h0 hd).2 this
        · cases hg
      · cases hg
      · cases hg
      · cases hg
      · cases hg

theorem gstat_skip {ops : Array Oper} {tm : List TV} {o : Oper} {w : World} {μ : Mu} {F : Nat → Prop} {tmps : Array Value} (h : TmOK w μ F tm tmps) (hg : gstat ops tm o = .skip) : ¬ Region.wanted o (yielded ops tmps) = true := by
  unfold gstat at hg
  split at hg
  · cases hg
  · rename_i j b h0
    split at hg
    · cases hg
    · rename_i g hd
      split at hg
      · rename_i c ht
        split at hg
        · cases hg
        · rename_i e
          have := h g
          rw [ht] at this
          intro hw
          have h2 := (wanted_iff h0 hd).1 hw
          rw [show tmps.getD g undef = .bool c from this] at h2
          simp only [Value.bool.injEq] at h2
          exact e h2
      · cases hg
      · cases hg
      · rename_i vs ht
        have := h g
        rw [ht] at this
        intro hw
        have h2 := (wanted_iff h0 hd).1 hw
        rw [rep_x this] at h2
        cases h2
      · cases hg

theorem gstat_tagd {ops : Array Oper} {tm : List TV} {o : Oper} {g : Nat} {b : Bool} {c : Option Bool} (hg : gstat ops tm o = .tagd g b c) : ∃ j, o.guard = some (j, b) ∧ (ops[j]?).bind (·.dst) = some g ∧ (∀ x, c = some x → tget tm g = .ok (.d (.x (.bool x)))) := by
  unfold gstat at hg
  split at hg
  · cases hg
  · rename_i j b' h0
    split at hg
    · cases hg
    · rename_i g' hd
      split at hg
      · split at hg <;> cases hg
      · rename_i x ht
        cases hg
        exact ⟨j, h0, hd, fun y hy => by cases hy; exact ht⟩
      · cases hg
        exact ⟨j, h0, hd, fun y hy => by cases hy⟩
      · cases hg
      · cases hg

theorem litArg_sound {w : World} {μ : Mu} {F : Nat → Prop} {tm : List TV} {a : Act} {x : Operand} {b : Bool} (ht : TmOK w μ F tm a.tmps) (h : litArg tm x = some b) : a.eval x = .bool b := by
  unfold litArg at h
  split at h
  · simp only [Option.some.injEq] at h; subst h; rfl
  · rename_i t
    split at h
    · rename_i c hc
      simp only [Option.some.injEq] at h; subst h
      have := ht t
      rw [hc] at this
      exact this
    · cases h
  · cases h

theorem pickLit_sound {P : Program} {C : Ctx} {w : World} {μ : Mu} {F : Nat → Prop} {hp : Heap} {id : Nat} {tm : List TV} {o : Oper} {a : Act} {b : Bool} {K : Act → World → Prop} {Q : Exit → Act → World → Prop} {r : Option Nat} (hl : LH w μ F hp)
    (ht : TmOK w μ F tm a.tmps) (h : pickLit tm o = some b) (hK : ∀ v w', OutT w μ F hp (NewIdC C id o) hp a.tmps v (.lit b) w' → K (a.put o.dst v) w') : o.wpIn (FW r) 0 P a w K Q := by
  unfold pickLit at h
  split at h
  · rename_i tc x y hop
    have key : ∀ c z, a.tmps.getD tc undef = .bool c → (if c then x else y) = z → litArg tm z = some b → o.wpIn (FW r) 0 P a w K Q := by
      intro c z hc hz hla
      have hv := litArg_sound ht hla
      refine wp_of_out (N := NewIdC C id o) (s := .d (.x (.bool b))) (hp := hp) (hp' := hp) (μ := μ) (F := F) (fun c h => by rw [hop] at h; cases h) ?_ fun v w' ho => ?_
      · have hc' : a.eval (.tmp tc) = .bool c := hc
        unfold execOp
        rw [hop]
        simp only [hc', asBool, Sem.run_bind, Sem.run_pure, Result.andThen]
        refine ⟨w, .inl ⟨.bool b, ?_, out_same hl (.d (.x _))⟩⟩
        cases c <;> simp at hz <;> subst hz <;> simp [hv]
      · obtain ⟨μ', F', e1, e2, e3, e4⟩ := ho
        exact hK v w' ⟨μ', F', e1, rep_x e2, e3, e4⟩
    split at h
    · rename_i hc; exact key true x (by have := ht tc; rw [hc] at this; exact this) rfl h
    · rename_i hc; exact key false y (by have := ht tc; rw [hc] at this; exact this) rfl h
    · cases h
  · cases h

theorem stepTr_sound {rn : Bool} {P : Program} {C : Ctx} {w : World} {μ : Mu} {F : Nat → Prop} {hp hp' : Heap} {id : Nat} {ops : Array Oper} {tm : List TV} {o : Oper} {a : Act} {tv : TV} {K : Act → World → Prop} {Q : Exit → Act → World → Prop} {r : Option Nat} (hC : CtxOK P C) (hl : LH w μ F hp) (hid : μ id = none)
    (ht : TmOK w μ F tm a.tmps) (he : (stepTr rn P C ops id tm hp o).ev (tv, hp')) (hK : ∀ v w', OutT w μ F hp (NewIdC C id o) hp' a.tmps v tv w' → K (a.put o.dst v) w') :
    if Region.wanted o (yielded ops a.tmps) then o.wpIn (FW r) 0 P a w K Q else K (a.put o.dst undef) w := by
  unfold stepTr at he
  split at he
  · rename_i hgs
    rw [if_pos (gstat_free ht hgs)]
    split at he
    · rename_i b hpl
      simp only [Tr.ev, Prod.mk.injEq] at he
      obtain ⟨rfl, rfl⟩ := he
      exact pickLit_sound hl ht hpl hK
    obtain ⟨r0, h1, h2⟩ := Tr.ev_bind he
    obtain ⟨rfl, h3⟩ := litOf_ev h2
    refine opAll_sound hC hl hid ht (fun g b e => by cases e) h1 fun v w' ho => hK v w' ?_
    obtain ⟨μ', F', e1, e2, e3, e4⟩ := ho
    refine ⟨μ', F', e1, ?_, e3, e4⟩
    rcases h3 with rfl | ⟨b, rfl, hs⟩
    · exact e2
    · rw [hs] at e2; exact rep_x e2
  · rename_i hgs
    rw [if_neg (gstat_skip ht hgs)]
    simp only [Tr.ev, Prod.mk.injEq] at he
    obtain ⟨rfl, rfl⟩ := he
    exact hK _ _ ⟨μ, F, hl, .d (.x _), fun _ _ h => h, fun _ _ => rfl⟩
  · rename_i g b c hgs
    split at he
    · rename_i hq
      simp only [Bool.and_eq_true, bne_iff_ne, ne_eq] at hq
      obtain ⟨rfl, s, rfl, h1⟩ := specT_ev he
      obtain ⟨j, h0, hd, _⟩ := gstat_tagd hgs
      split
      · rename_i hw
        have hb := (wanted_iff h0 hd).1 hw
        obtain ⟨h2, h3⟩ := h1 (gcond_sound ht _ _ _ hb)
        have := opAll_quiet hq.1 h3; subst this
        refine opAll_sound hC hl hid ht (fun g' b' e => by cases e; exact hb) h3 fun v w' ho => hK v w' ?_
        obtain ⟨μ', F', e1, e2, e3, e4⟩ := ho
        exact ⟨μ', F', e1, ⟨fun _ => e2, fun hne => (hne hb).elim⟩, e3, e4⟩
      · rename_i hw
        have hb : a.tmps.getD g undef ≠ .bool b := fun h => hw ((wanted_iff h0 hd).2 h)
        exact hK _ _ ⟨μ, F, hl, ⟨fun h => (hb h).elim, fun _ => rfl⟩, fun _ _ h => h, fun _ _ => rfl⟩
    · exact he.elim
  · exact he.elim

end
end Go.Sx

