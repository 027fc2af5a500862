/- The symbolic executor: single operations (fifth part): operators, slices of slices, append, make. -/
import Derived.Test.YtcbjclmjkilphaaSxE
import Derived.ChangeKeysEq
set_option linter.unusedVariables false
set_option linter.unusedSimpArgs false
namespace Go.Sx
noncomputable section

/-! ### Equality of structs -/

def eqFieldsA (eqv : TypeId → SV → SV → Option Bool) (P : Program) (xs ys : List SV) : List Field → Option Bool
  | [] => some true
  | f :: fs =>
    if f.name ≠ "_" then
      match absPart P f.type xs f.offset, absPart P f.type ys f.offset with
      | some a, some b =>
        match eqv f.type a b, eqFieldsA eqv P xs ys fs with
        | some p, some q => some (p && q)
        | _, _ => none
      | _, _ => none
    else eqFieldsA eqv P xs ys fs

def eqItemsA (eqv : TypeId → SV → SV → Option Bool) (P : Program) (xs ys : List SV) (e : TypeId) (c : Nat) : List Nat → Option Bool
  | [] => some true
  | i :: is =>
    match absPart P e xs (i * c), absPart P e ys (i * c) with
    | some a, some b =>
      match eqv e a b, eqItemsA eqv P xs ys e c is with
      | some p, some q => some (p && q)
      | _, _ => none
    | _, _ => none

def eqV (P : Program) : Nat → TypeId → SV → SV → Option Bool
  | 0, _, _, _ => none
  | d + 1, t, x, y =>
    match P.underlying t, x, y with
    | some .bool, .d (.x (.bool a)), .d (.x (.bool b)) => some (a == b)
    | some (.int _), .d (.x (.int k a)), .d (.x (.int k' b)) => if k = k' then some (a == b) else none
    | some .string, .d (.x (.string a)), .d (.x (.string b)) => some (a == b)
    | some (.struct fs), .agg xs, .agg ys => if P.stoodInHeld t then none else eqFieldsA (eqV P d) P xs ys fs.toList
    | some (.array n e), .agg xs, .agg ys => if (P.info? e).isSome = true then eqItemsA (eqV P d) P xs ys e (P.cellsOf e) (List.range n) else none
    | _, _, _ => none

theorem eqV_sound {P : Program} {w : World} {μ : Mu} {F : Nat → Prop} : ∀ (d e : Nat) {t : TypeId} {xv yv : Value} {x y : SV} {r : Bool}, Rep w μ F xv x → Rep w μ F yv y → eqV P d t x y = some r →
    (Op.equalIn (d + e) t xv yv).run P w = .ok r w
  | 0, e, t, xv, yv, x, y, r, _, _, h => by simp [eqV] at h
  | d + 1, e, t, xv, yv, x, y, r, hx, hy, h => by
    unfold eqV at h
    rw [show d + 1 + e = (d + e) + 1 by omega]
    split at h
    · rename_i a b hu
      simp only [Option.some.injEq] at h; subst h
      rw [rep_x hx, rep_x hy]; exact run_equalIn_bool' w _ t a b hu
    · rename_i k0 k a k' b hu
      split at h
      · rename_i hk; subst hk
        simp only [Option.some.injEq] at h; subst h
        rw [rep_x hx, rep_x hy]; exact run_equalIn_int w _ t k k0 a b hu
      · cases h
    · rename_i a b hu
      simp only [Option.some.injEq] at h; subst h
      rw [rep_x hx, rep_x hy, run_equalIn_string w _ t a b hu, beq_toListBytes]
    · rename_i fs xs ys hu
      split at h
      · cases h
      · rename_i hst
        cases hx with
        | agg cx _ hlx hix =>
          cases hy with
          | agg cy _ hly hiy =>
            have hfs : P.fieldsOf t = fs := by simp [Program.fieldsOf, hu]
            rw [run_equalIn_struct w (d + e) t cx cy (by rw [hfs]; exact hu) (by simpa using hst), hfs]
            clear hfs hu
            generalize fs.toList = l at h ⊢
            induction l generalizing r with
            | nil => simp only [eqFieldsA, Option.some.injEq] at h; subst h; rfl
            | cons f l ih =>
              unfold eqFieldsA at h
              unfold Op.eqFields
              split at h
              · rename_i hn
                rw [if_pos hn]
                split at h
                · rename_i a b ha hb
                  split at h
                  · rename_i p q hp hq
                    simp only [Option.some.injEq] at h; subst h
                    obtain ⟨ua, ra, repa⟩ := absPart_sound hlx hix ha
                    obtain ⟨ub, rb, repb⟩ := absPart_sound hly hiy hb
                    have := eqV_sound d e repa repb hp
                    simp only [Sem.run_bind, ra, Result.andThen, rb, this]
                    cases p with
                    | true => simp only [Bool.not_true, Bool.false_eq_true, if_false, Bool.true_and]; exact ih _ hq
                    | false => simp
                  · cases h
                · cases h
              · rename_i hn
                rw [if_neg hn]
                exact ih _ h
    · rename_i n el xs ys hu
      split at h
      · rename_i hin
        obtain ⟨inf, hinf⟩ := Option.isSome_iff_exists.1 hin
        cases hx with
        | agg cx _ hlx hix =>
          cases hy with
          | agg cy _ hly hiy =>
            rw [run_equalIn_array w (d + e) cx cy hu hinf]
            generalize List.range n = l at h ⊢
            induction l generalizing r with
            | nil => simp only [eqItemsA, Option.some.injEq] at h; subst h; simp [Op.eqItems]
            | cons j l ih =>
              unfold eqItemsA at h
              unfold Op.eqItems
              split at h
              · rename_i a b ha hb
                split at h
                · rename_i p q hp hq
                  simp only [Option.some.injEq] at h; subst h
                  obtain ⟨ua, ra, repa⟩ := absPart_sound hlx hix ha
                  obtain ⟨ub, rb, repb⟩ := absPart_sound hly hiy hb
                  have := eqV_sound d e repa repb hp
                  simp only [Sem.run_bind, ra, Result.andThen, rb, this]
                  cases p with
                  | true => simp only [Bool.not_true, Bool.false_eq_true, if_false, Bool.true_and]; exact ih _ hq
                  | false => simp
                · cases h
              · cases h
      · cases h
    · cases h

/-! ### Operators -/

def absBin (P : Program) (op : BinOp) (t : TypeId) (x y : Operand) (a b : SV) : Tr SV :=
  match op, a, b with
  | .quo, .d (.x (.int k m)), .d (.x (.int k' n)) => if k = k' then .nd (n ≠ 0) (.ret (.d (.x (.int k (k.wrap (m.tdiv n)))))) else .fail
  | .rem, .d (.x (.int k m)), .d (.x (.int k' n)) => if k = k' then .nd (n ≠ 0) (.ret (.d (.x (.int k (m.tmod n))))) else .fail
  | .shl, .d (.x (.int k m)), .d (.x (.int _ n)) => .nd (0 ≤ n) (.ret (.d (.x (.int k (k.wrap (m * 2 ^ (min n.toNat k.bits)))))))
  | .shr, .d (.x (.int k m)), .d (.x (.int _ n)) => .nd (0 ≤ n) (.ret (.d (.x (.int k (m.fdiv (2 ^ (min n.toNat k.bits)))))))
  | .eql, .agg xs, .agg ys => if P.eqGuardType P.depth t then .fail else match eqV P 100 t (.agg xs) (.agg ys) with | some r => .ret (.d (.x (.bool r))) | none => .fail
  | .neq, .agg xs, .agg ys => if P.eqGuardType P.depth t then .fail else match eqV P 100 t (.agg xs) (.agg ys) with | some r => .ret (.d (.x (.bool (!r)))) | none => .fail
  | _, _, _ =>
    match exact a, exact b with
    | some u, some v =>
      match pureRun P (do eqGuard op t x y u v; binOp op t u v) with
      | some r => if (ofValue r matches .d _) then .ret (ofValue r) else .fail
      | none => .fail
    | _, _ => .fail

theorem run_andThen_ok {α β : Type} {P : Program} {s : Sem α} {f : α → Sem β} {w w' : World} {a : α} (h : s.run P w = .ok a w') : (do let x ← s; f x).run P w = (f a).run P w' := by
  simp only [Sem.run_bind, h, Result.andThen]

theorem absBin_sound {P : Program} {w : World} {μ : Mu} {F : Nat → Prop} {op : BinOp} {t : TypeId} {x y : Operand} {av bv : Value} {a b r : SV} (ha : Rep w μ F av a) (hb : Rep w μ F bv b) (he : (absBin P op t x y a b).ev r) :
    ∃ u, ((do eqGuard op t x y av bv; binOp op t av bv) : Sem Value).run P w = .ok u w ∧ Rep w μ F u r := by
  have hint : ∀ (op : BinOp) (k k' : IntKind) (m n : Int), (op = .quo ∨ op = .rem ∨ op = .shl ∨ op = .shr) → (eqGuard op t x y (.int k m) (.int k' n)).run P w = .ok () w := by
    intro op k k' m n h
    rcases h with rfl | rfl | rfl | rfl <;> rfl
  unfold absBin at he
  split at he
  · rename_i k m k' n
    split at he
    · rename_i hk; subst hk
      obtain ⟨hn, he⟩ := he
      simp only [Tr.ev] at he; subst he
      rw [rep_x ha, rep_x hb]
      refine ⟨_, ?_, .d (.x _)⟩
      rw [run_andThen_ok (hint .quo k k m n (by simp))]
      simp [binOp, Op.intDiv, hn]
    · exact he.elim
  · rename_i k m k' n
    split at he
    · rename_i hk; subst hk
      obtain ⟨hn, he⟩ := he
      simp only [Tr.ev] at he; subst he
      rw [rep_x ha, rep_x hb]
      refine ⟨_, ?_, .d (.x _)⟩
      rw [run_andThen_ok (hint .rem k k m n (by simp))]
      simp [binOp, Op.intDiv, hn]
    · exact he.elim
  · rename_i k m k' n
    obtain ⟨hn, he⟩ := he
    simp only [Tr.ev] at he; subst he
    rw [rep_x ha, rep_x hb]
    refine ⟨_, ?_, .d (.x _)⟩
    rw [run_andThen_ok (hint .shl k k' m n (by simp))]
    simp [binOp, Op.shift, show ¬ n < 0 by omega]
  · rename_i k m k' n
    obtain ⟨hn, he⟩ := he
    simp only [Tr.ev] at he; subst he
    rw [rep_x ha, rep_x hb]
    refine ⟨_, ?_, .d (.x _)⟩
    rw [run_andThen_ok (hint .shr k k' m n (by simp))]
    simp [binOp, Op.shift, show ¬ n < 0 by omega]
  · rename_i xs ys
    split at he
    · exact he.elim
    · rename_i hg
      split at he
      · rename_i q hq
        simp only [Tr.ev] at he; subst he
        cases ha with
        | agg cx _ hlx hix =>
          cases hb with
          | agg cy _ hly hiy =>
            refine ⟨_, ?_, .d (.x _)⟩
            rw [run_andThen_ok (run_eqGuard_agg w .eql t x y cx cy (by simpa using hg)), run_eql_struct, eqV_sound 100 9900 (.agg cx xs hlx hix) (.agg cy ys hly hiy) hq]
            rfl
      · exact he.elim
  · rename_i xs ys
    split at he
    · exact he.elim
    · rename_i hg
      split at he
      · rename_i q hq
        simp only [Tr.ev] at he; subst he
        cases ha with
        | agg cx _ hlx hix =>
          cases hb with
          | agg cy _ hly hiy =>
            refine ⟨_, ?_, .d (.x _)⟩
            rw [run_andThen_ok (run_eqGuard_agg w .neq t x y cx cy (by simpa using hg)), run_neq_struct, eqV_sound 100 9900 (.agg cx xs hlx hix) (.agg cy ys hly hiy) hq]
            rfl
      · exact he.elim
  · split at he
    · rename_i u v hu hv
      split at he
      · rename_i q hq
        split at he
        · simp only [Tr.ev] at he; subst he
          rw [exact_spec hu ha, exact_spec hv hb]
          exact ⟨q, pureRun_run w hq, rep_ofValue w μ F q⟩
        · exact he.elim
      · exact he.elim
    · exact he.elim

/-- What touches no memory, of exact values. -/
def absPure (P : Program) (s : Sem Value) : Tr SV :=
  match pureRun P s with
  | some r => .ret (ofValue r)
  | none => .fail

theorem absPure_sound {P : Program} {w : World} {μ : Mu} {F : Nat → Prop} {s : Sem Value} {r : SV} (he : (absPure P s).ev r) : ∃ u, s.run P w = .ok u w ∧ Rep w μ F u r := by
  unfold absPure at he
  split at he
  · rename_i q hq
    simp only [Tr.ev] at he; subst he
    exact ⟨q, pureRun_run w hq, rep_ofValue w μ F q⟩
  · exact he.elim

/-! ### Slices of slices -/

def absBound (x : Option SV) (dflt bound : Nat) : Option (Nat × Prop) :=
  match x with
  | none => some (dflt, True)
  | some (.d (.x (.int _ i))) => some (i.toNat, 0 ≤ i ∧ i.toNat ≤ bound)
  | _ => none

theorem run_sliceBounds {P : Program} {w : World} {μ : Mu} {F : Nat → Prop} {isS : Bool} {len cap top l h : Nat} {lo hi : Option Value} {slo shi : Option SV} {pl ph : Prop}
    (hlo : ∀ v, lo = some v → ∃ s, slo = some s ∧ Rep w μ F v s) (hhi : ∀ v, hi = some v → ∃ s, shi = some s ∧ Rep w μ F v s) (hlo0 : lo = none → slo = none) (hhi0 : hi = none → shi = none)
    (ht : top ≤ cap) (htl : len ≤ top) (eh : absBound shi len top = some (h, ph)) (el : absBound slo 0 h = some (l, pl)) (hph : ph) (hpl : pl) :
    (Instr.sliceBounds isS len cap lo hi none).run P w = .ok (l, h, cap) w ∧ l ≤ h ∧ h ≤ top := by
  have hhi' : ∃ e : (match hi with | some v => Instr.sliceBound v cap (if isS then .sliceAcap else .sliceAlen) | none => (pure len : Sem Nat)).run P w = .ok h w, h ≤ top := by
    cases hi with
    | none =>
      rw [hhi0 rfl] at eh
      simp only [absBound, Option.some.injEq, Prod.mk.injEq] at eh
      exact ⟨by rw [← eh.1]; rfl, by omega⟩
    | some v =>
      obtain ⟨s, hs, hr⟩ := hhi v rfl
      subst hs
      unfold absBound at eh
      split at eh
      · contradiction
      · rename_i k i heq
        simp only [Option.some.injEq] at heq; subst heq
        simp only [Option.some.injEq, Prod.mk.injEq] at eh
        obtain ⟨rfl, rfl⟩ := eh
        have := rep_x hr; subst this
        exact ⟨run_sliceBound w k i cap _ hph.1 (by omega), hph.2⟩
      · cases eh
  obtain ⟨e1, e2⟩ := hhi'
  have hlo' : ∃ e : (match lo with | some v => Instr.sliceBound v h (if (none : Option Value).isSome then .slice3C else .sliceB) | none => (pure 0 : Sem Nat)).run P w = .ok l w, l ≤ h := by
    cases lo with
    | none =>
      rw [hlo0 rfl] at el
      simp only [absBound, Option.some.injEq, Prod.mk.injEq] at el
      exact ⟨by rw [← el.1]; rfl, by omega⟩
    | some v =>
      obtain ⟨s, hs, hr⟩ := hlo v rfl
      subst hs
      unfold absBound at el
      split at el
      · contradiction
      · rename_i k i heq
        simp only [Option.some.injEq] at heq; subst heq
        simp only [Option.some.injEq, Prod.mk.injEq] at el
        obtain ⟨rfl, rfl⟩ := el
        have := rep_x hr; subst this
        exact ⟨run_sliceBound w k i h _ hpl.1 (by omega), hpl.2⟩
      · cases el
  obtain ⟨e3, e4⟩ := hlo'
  refine ⟨?_, e4, e2⟩
  unfold Instr.sliceBounds
  simp only [Sem.run_bind, Sem.run_pure, Result.andThen]
  cases hi <;> cases lo <;> simp only [Sem.run_bind, Sem.run_pure, Result.andThen] at e1 e3 ⊢ <;> simp_all

def absSlice (P : Program) (t : TypeId) (x : SV) (lo hi : Option SV) : Tr SV :=
  match P.underlying t, x with
  | some .string, .d (.x (.string s)) =>
    match absBound hi s.size s.size with
    | some (h, ph) => match absBound lo 0 h with
      | some (l, pl) => .need (ph ∧ pl) (.ret (.d (.x (.string (s.extract l h)))))
      | none => .fail
    | none => .fail
  | some (.slice elem), .d (.ro len esz cell) =>
    match absBound hi len len with
    | some (h, ph) => match absBound lo 0 h with
      | some (l, pl) => if tsz P elem = some esz then .need (ph ∧ pl) (.ret (.d (.ro (h - l) esz fun i j => cell (l + i) j))) else .fail
      | none => .fail
    | none => .fail
  | some (.slice elem), .row m base off len esz =>
    match absBound hi len len with
    | some (h, ph) => match absBound lo 0 h with
      | some (l, pl) => if tsz P elem = some esz then .need (ph ∧ pl) (.ret (.row m base (off + l) (h - l) esz)) else .fail
      | none => .fail
    | none => .fail
  | some (.array n elem), .ptr m off =>
    match absBound hi n n with
    | some (h, ph) => match absBound lo 0 h with
      | some (l, pl) => match tsz P elem with
        | some esz => .need (ph ∧ pl) (.ret (.row m off l (h - l) esz))
        | none => .fail
      | none => .fail
    | none => .fail
  | some (.array n elem), .rop m cell =>
    match absBound hi n n with
    | some (h, ph) => match absBound lo 0 h with
      | some (l, pl) => match tsz P elem with
        | some esz => if n * esz ≤ m ∧ 0 < esz then .need (ph ∧ pl) (.ret (.d (.ro (h - l) esz fun i j => cell ((l + i) * esz + j)))) else .fail
        | none => .fail
      | none => .fail
    | none => .fail
  | _, _ => .fail

theorem absSlice_sound {P : Program} {w : World} {μ : Mu} {F : Nat → Prop} {hp : Heap} {t : TypeId} {xv : Value} {x r : SV} {lo hi : Option Value} {slo shi : Option SV} (hl : LH w μ F hp)
    (hlo : ∀ v, lo = some v → ∃ s, slo = some s ∧ Rep w μ F v s) (hhi : ∀ v, hi = some v → ∃ s, shi = some s ∧ Rep w μ F v s) (hlo0 : lo = none → slo = none) (hhi0 : hi = none → shi = none)
    (hx : Rep w μ F xv x) (hbz : ∀ m off, x = .ptr m off → ∀ n elem esz, P.underlying t = some (.array n elem) → tsz P elem = some esz → ∀ b o, μ m = some (.pl b o) → o + off + n * esz ≤ bsz w b) (he : (absSlice P t x slo shi).ev r) :
    ∃ u, (Instr.sliceAt t xv lo hi none).run P w = .ok u w ∧ Rep w μ F u r := by
  unfold absSlice at he
  split at he
  · rename_i s hu
    split at he
    · rename_i h ph eh
      split at he
      · rename_i l pl el
        obtain ⟨⟨hph, hpl⟩, he⟩ := he
        simp only [Tr.ev] at he; subst he
        obtain ⟨hr, h1, h2⟩ := run_sliceBounds (P := P) (isS := false) (cap := s.size) hlo hhi hlo0 hhi0 (Nat.le_refl _) (Nat.le_refl _) eh el hph hpl
        rw [rep_x hx]
        refine ⟨.string (s.extract l h), ?_, .d (.x _)⟩
        unfold Instr.sliceAt
        simp only [Sem.run_bind, run_underlying hu, Result.andThen]
        unfold Instr.slice
        simp only [Sem.run_bind, run_underlying hu, Result.andThen, Option.isSome_none, Bool.false_eq_true, if_false, hr, Sem.run_pure]
      · exact he.elim
    · exact he.elim
  · rename_i elem len esz cell hu
    split at he
    · rename_i h ph eh
      split at he
      · rename_i l pl el
        split at he
        · rename_i hs
          obtain ⟨⟨hph, hpl⟩, he⟩ := he
          simp only [Tr.ev] at he; subst he
          have hd := rep_d hx
          generalize hdv : DV.ro len esz cell = dv at hd
          cases hd with
          | x => cases hdv
          | nil =>
            cases hdv
            obtain ⟨hr, h1, h2⟩ := run_sliceBounds (P := P) (isS := true) (cap := 0) hlo hhi hlo0 hhi0 (Nat.le_refl _) (Nat.le_refl _) eh el hph hpl
            have : h = 0 := by omega
            subst this
            have : l = 0 := by omega
            subst this
            refine ⟨.slice none 0 0, ?_, .d (.nil _ _)⟩
            unfold Instr.sliceAt
            simp only [Sem.run_bind, run_underlying hu, Result.andThen]
            unfold Instr.slice
            simp only [Sem.run_bind, run_underlying hu, Result.andThen, hr, run_tsz w hs, Sem.run_pure]
            simp
          | z a cap esz' cell' =>
            cases hdv
            obtain ⟨hr, h1, h2⟩ := run_sliceBounds (P := P) (isS := true) (cap := cap) hlo hhi hlo0 hhi0 (Nat.zero_le _) (Nat.le_refl _) eh el hph hpl
            have : h = 0 := by omega
            subst this
            have : l = 0 := by omega
            subst this
            refine ⟨.slice (some a) 0 cap, ?_, .d (.z a cap _ _)⟩
            unfold Instr.sliceAt
            simp only [Sem.run_bind, run_underlying hu, Result.andThen]
            unfold Instr.slice
            simp only [Sem.run_bind, run_underlying hu, Result.andThen, hr, run_tsz w hs, Sem.run_pure]
            by_cases hcl : cap = 0
            · subst hcl; simp
            · simp [hcl, Addr.add]
          | ro b o len' cap esz' cell' f hF hc hcell hone hrep =>
            cases hdv
            obtain ⟨hr, h1, h2⟩ := run_sliceBounds (P := P) (isS := true) (cap := cap) hlo hhi hlo0 hhi0 hc (Nat.le_refl _) eh el hph hpl
            by_cases hcl : cap = l
            · refine ⟨.slice (some ⟨b, o, none⟩) (h - l) (cap - l), ?_, .d (.ro b o _ _ esz _ (fun i j => f (l + i) j) (fun h => by omega) (by omega) (fun i j hi => by omega) (fun i j hi => by omega) (fun i j hi => by omega))⟩
              unfold Instr.sliceAt
              simp only [Sem.run_bind, run_underlying hu, Result.andThen]
              unfold Instr.slice
              simp only [Sem.run_bind, run_underlying hu, Result.andThen, hr, run_tsz w hs, Sem.run_pure]
              rw [if_pos hcl]
            · refine ⟨.slice (some ⟨b, o + l * esz, none⟩) (h - l) (cap - l), ?_, .d (.ro b _ _ _ esz _ (fun i j => f (l + i) j) (fun h => hF (by omega)) (by omega) (fun i j hi hj => ?_) (fun i j hi hj => hone _ _ (by omega) hj) (fun i j hi hj => hrep _ _ (by omega) hj))⟩
              · unfold Instr.sliceAt
                simp only [Sem.run_bind, run_underlying hu, Result.andThen]
                unfold Instr.slice
                simp only [Sem.run_bind, run_underlying hu, Result.andThen, hr, run_tsz w hs, Sem.run_pure, hcl, if_false, Option.map_some, add_none]
              · rw [show o + l * esz + (i * esz + j) = o + ((l + i) * esz + j) by rw [Nat.add_mul]; omega]
                exact hcell _ _ (by omega) hj
        · exact he.elim
      · exact he.elim
    · exact he.elim
  · rename_i elem m base off len esz hu
    split at he
    · rename_i h ph eh
      split at he
      · rename_i l pl el
        split at he
        · rename_i hs
          obtain ⟨⟨hph, hpl⟩, he⟩ := he
          simp only [Tr.ev] at he; subst he
          cases hx with
          | rnil _ _ _ _ hm =>
            obtain ⟨hr, h1, h2⟩ := run_sliceBounds (P := P) (isS := true) (cap := 0) hlo hhi hlo0 hhi0 (Nat.le_refl _) (Nat.le_refl _) eh el hph hpl
            have : h = 0 := by omega
            subst this
            have : l = 0 := by omega
            subst this
            refine ⟨.slice none 0 0, ?_, .rnil _ _ _ _ hm⟩
            unfold Instr.sliceAt
            simp only [Sem.run_bind, run_underlying hu, Result.andThen]
            unfold Instr.slice
            simp only [Sem.run_bind, run_underlying hu, Result.andThen, hr, run_tsz w hs, Sem.run_pure]
            simp
          | rz _ _ _ _ b' o' q hm =>
            obtain ⟨hr, h1, h2⟩ := run_sliceBounds (P := P) (isS := true) (cap := 0) hlo hhi hlo0 hhi0 (Nat.le_refl _) (Nat.le_refl _) eh el hph hpl
            have : h = 0 := by omega
            subst this
            have : l = 0 := by omega
            subst this
            refine ⟨.slice (some ⟨b', o', none⟩) 0 0, ?_, .rz _ _ _ _ b' o' q hm⟩
            unfold Instr.sliceAt
            simp only [Sem.run_bind, run_underlying hu, Result.andThen]
            unfold Instr.slice
            simp only [Sem.run_bind, run_underlying hu, Result.andThen, hr, run_tsz w hs, Sem.run_pure]
            simp
          | row _ _ _ _ _ b o cap hm hc hz =>
            obtain ⟨hr, h1, h2⟩ := run_sliceBounds (P := P) (isS := true) (cap := cap) hlo hhi hlo0 hhi0 hc (Nat.le_refl _) eh el hph hpl
            by_cases hcl : cap = l
            · refine ⟨.slice (some ⟨b, o + base + off * esz, none⟩) (h - l) (cap - l), ?_, ?_⟩
              · unfold Instr.sliceAt
                simp only [Sem.run_bind, run_underlying hu, Result.andThen]
                unfold Instr.slice
                simp only [Sem.run_bind, run_underlying hu, Result.andThen, hr, run_tsz w hs, Sem.run_pure]
                rw [if_pos hcl]
              · rw [show h - l = 0 by omega, show cap - l = 0 by omega]
                exact .rz _ _ _ _ _ _ _ hm
            · refine ⟨.slice (some ⟨b, o + base + off * esz + l * esz, none⟩) (h - l) (cap - l), ?_, ?_⟩
              · unfold Instr.sliceAt
                simp only [Sem.run_bind, run_underlying hu, Result.andThen]
                unfold Instr.slice
                simp only [Sem.run_bind, run_underlying hu, Result.andThen, hr, run_tsz w hs, Sem.run_pure, hcl, if_false, Option.map_some, add_none]
              · have := Rep.row (w := w) (F := F) m base (off + l) (h - l) esz b o (cap - l) hm (by omega) (by rw [show off + l + (cap - l) = off + cap by omega]; exact hz)
                rw [Nat.add_mul, ← Nat.add_assoc] at this
                exact this
        · exact he.elim
      · exact he.elim
    · exact he.elim
  · rename_i n elem m off hu
    split at he
    · rename_i h ph eh
      split at he
      · rename_i l pl el
        split at he
        · rename_i esz hs
          obtain ⟨⟨hph, hpl⟩, he⟩ := he
          simp only [Tr.ev] at he; subst he
          cases hx with
          | ptr _ _ b o hm =>
            obtain ⟨hr, h1, h2⟩ := run_sliceBounds (P := P) (isS := false) (cap := n) hlo hhi hlo0 hhi0 (Nat.le_refl _) (Nat.le_refl _) eh el hph hpl
            have hz := hbz m off rfl n elem esz hu hs b o hm
            by_cases hcl : n = l
            · refine ⟨.slice (some ⟨b, o + off, none⟩) (h - l) (n - l), ?_, ?_⟩
              · unfold Instr.sliceAt
                simp only [Sem.run_bind, run_underlying hu, Result.andThen, Instr.sureAddr, Sem.run_pure, hr, run_tsz w hs]
                rw [if_pos hcl]
              · rw [show h - l = 0 by omega, show n - l = 0 by omega]
                exact .rz _ _ _ _ _ _ _ hm
            · refine ⟨.slice (some ⟨b, o + off + l * esz, none⟩) (h - l) (n - l), ?_, ?_⟩
              · unfold Instr.sliceAt
                simp only [Sem.run_bind, run_underlying hu, Result.andThen, Instr.sureAddr, Sem.run_pure, hr, run_tsz w hs, hcl, if_false, add_none]
              · exact .row m off l (h - l) esz b o (n - l) hm (by omega) (by rw [show l + (n - l) = n by omega]; exact hz)
        · exact he.elim
      · exact he.elim
    · exact he.elim
  · rename_i n elem m cell hu
    split at he
    · rename_i h ph eh
      split at he
      · rename_i l pl el
        split at he
        · rename_i esz hs
          split at he
          · rename_i hle
            obtain ⟨⟨hph, hpl⟩, he⟩ := he
            simp only [Tr.ev] at he; subst he
            cases hx with
            | rop b o _ _ f hF hcell hone hrep =>
              obtain ⟨hr, h1, h2⟩ := run_sliceBounds (P := P) (isS := false) (cap := n) hlo hhi hlo0 hhi0 (Nat.le_refl _) (Nat.le_refl _) eh el hph hpl
              have hlt : ∀ i j, i < h - l → j < esz → (l + i) * esz + j < m := by
                intro i j hi hj
                have : (l + i + 1) * esz ≤ n * esz := Nat.mul_le_mul_right _ (by omega)
                rw [Nat.add_mul] at this; omega
              by_cases hcl : n = l
              · refine ⟨.slice (some ⟨b, o, none⟩) (h - l) (n - l), ?_, .d (.ro b o _ _ esz _ (fun i j => f ((l + i) * esz + j)) (fun h => by omega) (by omega) (fun i j hi => by omega) (fun i j hi => by omega) (fun i j hi => by omega))⟩
                unfold Instr.sliceAt
                simp only [Sem.run_bind, run_underlying hu, Result.andThen, Instr.sureAddr, Sem.run_pure, hr, run_tsz w hs]
                rw [if_pos hcl]
              · refine ⟨.slice (some ⟨b, o + l * esz, none⟩) (h - l) (n - l), ?_, ?_⟩
                · unfold Instr.sliceAt
                  simp only [Sem.run_bind, run_underlying hu, Result.andThen, Instr.sureAddr, Sem.run_pure, hr, run_tsz w hs, hcl, if_false, add_none]
                · have hpos := hle.2
                  · refine .d (.ro b _ _ _ esz _ (fun i j => f ((l + i) * esz + j)) (fun hne => hF (by have := hlt 0 0 (by omega) hpos; omega)) (by omega) (fun i j hi hj => ?_) (fun i j hi hj => hone _ (hlt i j hi hj)) (fun i j hi hj => hrep _ (hlt i j hi hj)))
                    rw [show o + l * esz + (i * esz + j) = o + ((l + i) * esz + j) by rw [Nat.add_mul]; omega]
                    exact hcell _ (hlt i j hi hj)
          · exact he.elim
        · exact he.elim
      · exact he.elim
    · exact he.elim
  · exact he.elim

end
end Go.Sx
