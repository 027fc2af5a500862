/- The symbolic executor: regions that draw their order: one walk in the order of the text serves every order. -/
import Derived.Test.YtcbjclmjkilphaaSxQ
set_option linter.unusedVariables false
set_option linter.unusedSimpArgs false
namespace Go.Sx
noncomputable section

/-- What an operation of such a region has read and written. -/
structure Ev where
  dst : Option Nat
  tv : TV
  ts : List Nat
  L : List Nat
  W : Delta
  id : Nat
  nq : Bool

def locs1 : SV → List Nat
  | .ptr l _ => [l]
  | .pix l _ _ _ _ _ => [l]
  | .row l _ _ _ _ => [l]
  | _ => []

def locs : SV → List Nat
  | .agg cs => cs.flatMap locs1
  | .fn _ a b => (a ++ b).flatMap locs1
  | .tup vs => vs.flatMap fun | .agg cs => cs.flatMap locs1 | s => locs1 s
  | s => locs1 s

def tvLocs : TV → List Nat
  | .ok s => locs s
  | .tag _ _ s => locs s
  | .cnd _ s => locs s
  | _ => []

/-- The slots of the guards on which an operation hangs. -/
def gslots (ops : Array Oper) (tm : List TV) (o : Oper) : List Nat :=
  match o.guard with
  | none => []
  | some (j, _) => match (ops[j]?).bind (·.dst) with
    | none => []
    | some g => g :: gchain 8 tm g
where
  gchain : Nat → List TV → Nat → List Nat
    | 0, _, _ => []
    | n + 1, tm, g => match tget tm g with
      | .tag g2 _ _ => g2 :: gchain n tm g2
      | _ => []

def restrictK {β : Type} (tm : List TV) (ts : List Nat) : List TV → (List TV → β) → β :=
  List.rec (motive := fun _ => List TV → (List TV → β) → β) (fun acc k => k acc) (fun t _ ih acc k => setR acc t (tget tm t) (fun acc => ih acc k) (ih acc k)) ts

theorem restrictK_eq {β : Type} (tm : List TV) (ts : List Nat) (acc : List TV) (k : List TV → β) : restrictK tm ts acc k = k (ts.foldl (fun r t => r.set t (tget tm t)) acc) := by
  induction ts generalizing acc with
  | nil => rfl
  | cons t ts ih =>
    show setR acc t (tget tm t) (fun acc => restrictK tm ts acc k) (restrictK tm ts acc k) = _
    rw [setR_eq, List.foldl_cons]
    simp only [ih]
    split
    · rfl
    · rename_i h; rw [List.set_eq_of_length_le (by omega)]

def isApp : Op → Bool
  | .call c => (match c.callee with | .builtin .append => true | _ => false)
  | _ => false
/-- The blocks of rows that lie in a block. -/
def inner (hp : Heap) (l : Nat) : List Nat := match hget hp l with
  | some (.cells cs) => (match dvsOf cs with
    | some _ => []
    | none => cs.flatMap locs)
  | _ => []
def deepL (o : Oper) (hp : Heap) (L : List Nat) : List Nat := match isApp o.op with
  | true => L ++ L.flatMap (inner hp)
  | false => L

def evOp (P : Program) (C : Ctx) (ops : Array Oper) (o : Oper) (st : AS) : Tr (Ev × AS) :=
  fNats (opSlots o ++ gslots ops st.tm o) fun ts =>
  fNats (deepL o st.hp ((opSlots o).flatMap fun t => tvLocs (tget st.tm t))) fun L =>
  restrictK st.tm ts (List.replicate st.tm.length .unk) fun rt =>
  (stepTr (isRun st.hint) P C ops st.next rt (restrictH st.hp L) o).bind fun r =>
    fTV r.1 fun tv =>
    fDl (if quietOp o.op then [] else (st.next :: L).map fun l => (l, hget r.2 l)) fun W =>
    putG st.tm o.dst tv (fun tm => fHp (happ st.hp W) fun hp => fNat (st.next + 1) fun nx => .ret (⟨o.dst, tv, ts, L, W, st.next, !quietOp o.op⟩, ⟨tm, hp, nx, st.hint⟩)) .fail

theorem evOp_eq {P : Program} {C : Ctx} {ops : Array Oper} {o : Oper} {st : AS} : evOp P C ops o st =
  (let ts := opSlots o ++ gslots ops st.tm o
  let L := deepL o st.hp ((opSlots o).flatMap fun t => tvLocs (tget st.tm t))
  (stepTr (isRun st.hint) P C ops st.next (restrictT st.tm.length st.tm ts) (restrictH st.hp L) o).bind fun r =>
    let W : Delta := if quietOp o.op then [] else (st.next :: L).map fun l => (l, hget r.2 l)
    match putD st.tm o.dst r.1 with
    | some tm => .ret (⟨o.dst, r.1, ts, L, W, st.next, !quietOp o.op⟩, ⟨tm, happ st.hp W, st.next + 1, st.hint⟩)
    | none => .fail) := by
  unfold evOp
  simp only [fNats_eq, fTV_eq, fDl_eq, putG_eq, fHp_eq, fNat_eq, restrictK_eq]
  rfl

theorem Tr.bind_ev {α β : Type} {f : α → Tr β} {a : α} {b : β} : ∀ {t : Tr α}, t.ev a → (f a).ev b → (t.bind f).ev b
  | .ret c, h, k => by simp only [Tr.ev] at h; subst h; exact k
  | .ite c t e, h, k => h.imp (fun h => ⟨h.1, Tr.bind_ev h.2 k⟩) (fun h => ⟨h.1, Tr.bind_ev h.2 k⟩)
  | .need p t, h, k => ⟨h.1, Tr.bind_ev h.2 k⟩
  | .dneed p _ t, h, k => ⟨h.1, Tr.bind_ev (t := t) h.2 k⟩
  | .fail, h, _ => h.elim

def evOps (P : Program) (C : Ctx) (ops : Array Oper) : List Oper → AS → Tr (List Ev × AS)
  | [], st => .ret ([], st)
  | o :: r, st => (evOp P C ops o st).bind fun x => (evOps P C ops r x.2).bind fun y => .ret (x.1 :: y.1, y.2)

def isSomeD (d : Option Nat) (ts : List Nat) : Bool := match d with | some t => ts.contains t | none => false

def clash (a b : Ev) : Bool :=
  isSomeD a.dst b.ts || isSomeD b.dst a.ts || (match a.dst, b.dst with | some x, some y => x == y | _, _ => false) ||
  a.W.any (fun e => b.L.contains e.1 || b.W.any fun f => f.1 == e.1) || b.W.any (fun e => a.L.contains e.1)

/-- The slot on whose bool a value hangs is not this one. -/
def tagNot (tv : TV) (d : Option Nat) : Bool := match tv, d with | .tag g _ _, some d => g != d | _, _ => true

def sameDst (a b : Ev) : Bool := match a.dst, b.dst with | some x, some y => x == y | _, _ => false

/-- a stands before b in the text: they may change places, or a comes first; and b does not write over a guard of a's. -/
def pairOK (bb : Nat) (i : Nat) (a b : Ev) : Bool := (bb.testBit i || !clash a b) && tagNot a.tv b.dst && !sameDst a b

def rowOK (bb : Nat) (b : Ev) : Nat → List Ev → Bool
  | _, [] => true
  | i, a :: r => pairOK bb i a b && rowOK bb b (i + 1) r

def allOK : List Nat → List Ev → List Ev → Bool
  | _, _, [] => true
  | bs, done, b :: r => rowOK (bs.headD 0) b 0 done && (b.W.all fun e => b.L.contains e.1 || (b.nq && e.1 == b.id)) && allOK bs.tail (done ++ [b]) r

def edgesOK : Nat → List Oper → Bool
  | _, [] => true
  | k, o :: r => (o.after.toList.all fun e => !binding e || decide (e.on < k)) && edgesOK (k + 1) r

/-- The same, one after the other, all that is held against what comes later reckoned ahead. -/
def dK (P : Program) (C : Ctx) (ops : Array Oper) : List Oper → List Nat → List Ev → AS → Tree AS
  | [], _, _, st => .ret st
  | o :: r, acc, done, st =>
    fNat (bmOne acc o) fun b => (ofTrH st.hint (evOp P C ops o st)).bind fun x =>
      match rowOK b x.1 0 done && (x.1.W.all fun e => x.1.L.contains e.1 || (x.1.nq && e.1 == x.1.id)) with
      | true => fNats (acc ++ [b]) fun acc => fSp (done ++ [x.1]) fun done => dK P C ops r acc done x.2
      | false => .fail

theorem bms_pre : ∀ (l : List Oper) (acc : List Nat), ∃ t, bms l acc = acc ++ t
  | [], acc => ⟨[], by simp [bms]⟩
  | o :: r, acc => by
    obtain ⟨t, h⟩ := bms_pre r (acc ++ [bmOne acc o])
    exact ⟨bmOne acc o :: t, by simp [bms, h]⟩

theorem dK_sat {P : Program} {C : Ctx} {ops : Array Oper} {Q : AS → Prop} : ∀ (l : List Oper) (acc : List Nat) (done : List Ev) (st : AS), (dK P C ops l acc done st).sat P Q →
    ∃ evs st', (evOps P C ops l st).ev (evs, st') ∧ allOK ((bms l acc).drop acc.length) done evs = true ∧ Q st'
  | [], acc, done, st, h => ⟨[], st, rfl, rfl, h⟩
  | o :: r, acc, done, st, h => by
    simp only [dK, fNat_eq, fNats_eq, fSp_eq] at h
    obtain ⟨x, h1, h2⟩ := sat_ofTrH (Tree.sat_bind h)
    split at h2
    · rename_i hb
      obtain ⟨evs, st', h3, h4, h5⟩ := dK_sat r _ _ _ h2
      refine ⟨x.1 :: evs, st', ?_, ?_, h5⟩
      · simp only [evOps]
        exact Tr.bind_ev h1 (Tr.bind_ev h3 rfl)
      · obtain ⟨t, ht⟩ := bms_pre r (acc ++ [bmOne acc o])
        simp only [bms, ht, List.append_assoc, List.drop_left] at h4 ⊢
        rw [show (acc ++ [bmOne acc o]).length = acc.length + 1 by simp, ← List.drop_drop, List.drop_left] at h4
        simp only [Bool.and_eq_true] at hb
        simp only [List.singleton_append, List.drop_succ_cons, List.drop_zero] at h4
        simp only [List.singleton_append, allOK, List.headD_cons, List.tail_cons, Bool.and_eq_true]
        exact ⟨hb, h4⟩
    · exact h2.elim

def drawn (P : Program) (C : Ctx) (ops : Array Oper) (st : AS) : Tree AS :=
  if edgesOK 0 ops.toList then untagF st.tm fun tm => dK P C ops ops.toList [] [] { st with tm := tm } else .fail

/-! ### States made of what has been carried out -/

structure St where
  tm : List TV
  hp : Heap

def ap (s : St) (e : Ev) : St := ⟨match e.dst with | some d => s.tm.set d e.tv | none => s.tm, happ s.hp e.W⟩

def foldE (S : Nat → Bool) : Nat → List Ev → St → St
  | _, [], s => s
  | k, e :: r, s => foldE S (k + 1) r (if S k then ap s e else s)

theorem length_ap (s : St) (e : Ev) : (ap s e).tm.length = s.tm.length := by unfold ap; cases e.dst <;> simp

theorem length_foldE (S : Nat → Bool) : ∀ (l : List Ev) (k : Nat) (s : St), (foldE S k l s).tm.length = s.tm.length
  | [], k, s => rfl
  | e :: r, k, s => by
    unfold foldE; rw [length_foldE S r]
    split
    · exact length_ap s e
    · rfl

theorem tget_ap (s : St) (e : Ev) (t : Nat) (h : e.dst ≠ some t) : tget (ap s e).tm t = tget s.tm t := by
  unfold ap
  cases hd : e.dst with
  | none => rfl
  | some d =>
    have : d ≠ t := fun he => h (by rw [hd, he])
    simp only [tget_def, List.getD, List.getElem?_set_ne this]

theorem tget_ap_same (s s' : St) (e : Ev) (t : Nat) (h : e.dst = some t) (hl : s.tm.length = s'.tm.length) : tget (ap s e).tm t = tget (ap s' e).tm t := by
  unfold ap
  simp only [h, tget_def, List.getD]
  by_cases hlt : t < s.tm.length
  · rw [List.getElem?_set_self hlt, List.getElem?_set_self (by omega)]
  · rw [List.getElem?_eq_none (by simp; omega), List.getElem?_eq_none (by simp; omega)]

def wkey (W : Delta) (l : Nat) : Bool := W.any fun e => e.1 == l

theorem happ_get (W : Delta) : ∀ (hp hp' : Heap) (l : Nat), (wkey W l = false → hget (happ hp W) l = hget hp l) ∧ (wkey W l = true → hget (happ hp W) l = hget (happ hp' W) l) := by
  unfold happ wkey
  induction W with
  | nil => intro hp hp' l; simp
  | cons e W ih =>
    intro hp hp' l
    simp only [List.foldl_cons, List.any_cons, Bool.or_eq_false_iff, Bool.or_eq_true]
    refine ⟨fun ⟨h1, h2⟩ => ?_, fun h => ?_⟩
    · rw [(ih _ hp l).1 h2, hget_hset, if_neg (by simp at h1; exact fun e => h1 e.symm)]
    · cases hw : W.any (fun e => e.1 == l) with
      | true => exact (ih _ _ l).2 hw
      | false =>
        rw [(ih _ hp l).1 hw, (ih _ hp l).1 hw, hget_hset, hget_hset]
        rcases h with h | h
        · have : l = e.1 := by simpa using Eq.symm (by simpa using h)
          simp [this]
        · rw [hw] at h; cases h

/-- Two sets that agree on those who write a slot. -/
theorem foldE_tm (S S' : Nat → Bool) (t : Nat) : ∀ (l : List Ev) (k : Nat) (s s' : St), s.tm.length = s'.tm.length → tget s.tm t = tget s'.tm t → (∀ j e, l[j]? = some e → e.dst = some t → S (k + j) = S' (k + j)) →
    tget (foldE S k l s).tm t = tget (foldE S' k l s').tm t
  | [], k, s, s', _, h, _ => h
  | e :: r, k, s, s', hl, h, hw => by
    unfold foldE
    refine foldE_tm S S' t r (k + 1) _ _ ?_ ?_ fun j e' hj hd => by have := hw (j + 1) e' (by simpa using hj) hd; rwa [show k + (j + 1) = k + 1 + j by omega] at this
    · split <;> split <;> simp [length_ap, hl]
    · by_cases hd : e.dst = some t
      · have := hw 0 e (by simp) hd
        simp only [Nat.add_zero] at this
        rw [← this]
        split
        · exact tget_ap_same s s' e t hd hl
        · exact h
      · split <;> split <;> simp only [tget_ap _ _ _ hd, h]

theorem foldE_hp (S S' : Nat → Bool) (l : Nat) : ∀ (es : List Ev) (k : Nat) (s s' : St), hget s.hp l = hget s'.hp l → (∀ j e, es[j]? = some e → wkey e.W l = true → S (k + j) = S' (k + j)) →
    hget (foldE S k es s).hp l = hget (foldE S' k es s').hp l
  | [], k, s, s', h, _ => h
  | e :: r, k, s, s', h, hw => by
    unfold foldE
    refine foldE_hp S S' l r (k + 1) _ _ ?_ fun j e' hj hd => by have := hw (j + 1) e' (by simpa using hj) hd; rwa [show k + (j + 1) = k + 1 + j by omega] at this
    cases hk : wkey e.W l with
    | true =>
      have := hw 0 e (by simp) hk
      simp only [Nat.add_zero] at this
      rw [← this]
      split
      · exact (happ_get e.W s.hp s'.hp l).2 hk
      · exact h
    | false =>
      have e1 : hget (ap s e).hp l = hget s.hp l := (happ_get e.W s.hp s.hp l).1 hk
      have e2 : hget (ap s' e).hp l = hget s'.hp l := (happ_get e.W s'.hp s'.hp l).1 hk
      split <;> split <;> simp only [e1, e2, h]

/-- The last one who writes a slot. -/
theorem foldE_tm_last (S : Nat → Bool) (t : Nat) {e : Ev} (hd : e.dst = some t) : ∀ (l : List Ev) (j k : Nat) (s s0 : St), l[j]? = some e → S (k + j) = true → (∀ j' e', j < j' → l[j']? = some e' → S (k + j') = true → e'.dst ≠ some t) → s.tm.length = s0.tm.length →
    tget (foldE S k l s).tm t = tget (ap s0 e).tm t
  | [], j, k, s, s0, hj, _, _, _ => by simp at hj
  | a :: r, 0, k, s, s0, hj, hS, hl, hlen => by
    simp only [List.getElem?_cons_zero, Option.some.injEq] at hj; subst hj
    unfold foldE
    simp only [Nat.add_zero] at hS
    rw [if_pos hS]
    have : tget (foldE S (k + 1) r (ap s a)).tm t = tget (foldE (fun _ => false) (k + 1) r (ap s a)).tm t := by
      refine foldE_tm _ _ t r (k + 1) _ _ rfl rfl fun j e' hj hd' => ?_
      cases hs : S (k + 1 + j) with
      | false => rfl
      | true => exact (hl (j + 1) e' (by omega) (by simpa using hj) (by rwa [show k + (j + 1) = k + 1 + j by omega]) hd').elim
    rw [this]
    have : ∀ (r : List Ev) (k : Nat) (s : St), foldE (fun _ => false) k r s = s := by
      intro r
      induction r with
      | nil => intro k s; rfl
      | cons x r ih => intro k s; unfold foldE; simp [ih]
    rw [this]
    exact tget_ap_same s s0 a t hd hlen
  | a :: r, j + 1, k, s, s0, hj, hS, hl, hlen => by
    unfold foldE
    refine foldE_tm_last S t hd r j (k + 1) _ s0 (by simpa using hj) (by rwa [show k + 1 + j = k + (j + 1) by omega]) (fun j' e' h1 h2 h3 => hl (j' + 1) e' (by omega) (by simpa using h2) (by rwa [show k + (j' + 1) = k + 1 + j' by omega])) ?_
    split <;> simp [length_ap, hlen]

theorem foldE_hp_last (S : Nat → Bool) (l : Nat) {e : Ev} (hd : wkey e.W l = true) : ∀ (es : List Ev) (j k : Nat) (s s0 : St), es[j]? = some e → S (k + j) = true → (∀ j' e', j < j' → es[j']? = some e' → S (k + j') = true → wkey e'.W l = false) →
    hget (foldE S k es s).hp l = hget (ap s0 e).hp l
  | [], j, k, s, s0, hj, _, _ => by simp at hj
  | a :: r, 0, k, s, s0, hj, hS, hl => by
    simp only [List.getElem?_cons_zero, Option.some.injEq] at hj; subst hj
    unfold foldE
    simp only [Nat.add_zero] at hS
    rw [if_pos hS]
    have : hget (foldE S (k + 1) r (ap s a)).hp l = hget (foldE (fun _ => false) (k + 1) r (ap s a)).hp l := by
      refine foldE_hp _ _ l r (k + 1) _ _ rfl fun j e' hj hd' => ?_
      cases hs : S (k + 1 + j) with
      | false => rfl
      | true => have := hl (j + 1) e' (by omega) (by simpa using hj) (by rwa [show k + (j + 1) = k + 1 + j by omega]); rw [hd'] at this; cases this
    rw [this]
    have : ∀ (r : List Ev) (k : Nat) (s : St), foldE (fun _ => false) k r s = s := by
      intro r
      induction r with
      | nil => intro k s; rfl
      | cons x r ih => intro k s; unfold foldE; simp [ih]
    rw [this]
    exact (happ_get a.W s.hp s0.hp l).2 hd
  | a :: r, j + 1, k, s, s0, hj, hS, hl => by
    unfold foldE
    exact foldE_hp_last S l hd r j (k + 1) _ s0 (by simpa using hj) (by rwa [show k + 1 + j = k + (j + 1) by omega]) (fun j' e' h1 h2 h3 => hl (j' + 1) e' (by omega) (by simpa using h2) (by rwa [show k + (j' + 1) = k + 1 + j' by omega]))

end
end Go.Sx
