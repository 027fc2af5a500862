/- The symbolic executor: regions that draw their order are walked soundly. -/
import Derived.Test.YtcbjclmjkilphaaSxS
set_option linter.unusedVariables false
set_option linter.unusedSimpArgs false
namespace Go.Sx
noncomputable section

def asSet (listed : Array Bool) : Nat → Bool := fun i => listed.getD i false

theorem asSet_set {listed : Array Bool} {k : Nat} (hk : k < listed.size) (i : Nat) : asSet (listed.setIfInBounds k true) i = (decide (i = k) || asSet listed i) := by
  unfold asSet
  by_cases h : i = k
  · subst h; simp [Array.getD, hk]
  · simp only [h, decide_false, Bool.false_or, Array.getD_eq_getD_getElem?]
    rw [Array.getElem?_setIfInBounds_ne (fun e => h e.symm)]

theorem clash_dst_ts {a b : Ev} {t : Nat} (h : a.dst = some t) (ht : t ∈ b.ts) : clash a b = true := by
  unfold clash isSomeD; simp [h, ht]

theorem clash_ts_dst {a b : Ev} {t : Nat} (h : b.dst = some t) (ht : t ∈ a.ts) : clash a b = true := by
  unfold clash isSomeD; simp [h, ht]

theorem wkey_mem {W : Delta} {l : Nat} (h : wkey W l = true) : ∃ e ∈ W, e.1 = l := by
  unfold wkey at h
  rw [List.any_eq_true] at h
  obtain ⟨e, h1, h2⟩ := h
  exact ⟨e, h1, by simpa using h2⟩

theorem clash_W_L {a b : Ev} {l : Nat} (h : wkey a.W l = true) (hl : l ∈ b.L) : clash a b = true := by
  obtain ⟨e, h1, h2⟩ := wkey_mem h
  unfold clash
  have : a.W.any (fun e => b.L.contains e.1 || b.W.any fun f => f.1 == e.1) = true := List.any_eq_true.2 ⟨e, h1, by simp [h2, hl]⟩
  simp only [this, Bool.or_true, Bool.true_or]

theorem clash_L_W {a b : Ev} {l : Nat} (h : wkey b.W l = true) (hl : l ∈ a.L) : clash a b = true := by
  obtain ⟨e, h1, h2⟩ := wkey_mem h
  unfold clash
  have : b.W.any (fun e => a.L.contains e.1) = true := List.any_eq_true.2 ⟨e, h1, by simp [h2, hl]⟩
  simp only [this, Bool.or_true]

theorem clash_W_W {a b : Ev} {l : Nat} (h : wkey a.W l = true) (h' : wkey b.W l = true) : clash a b = true := by
  obtain ⟨e, h1, h2⟩ := wkey_mem h
  obtain ⟨f, h3, h4⟩ := wkey_mem h'
  unfold clash
  have : a.W.any (fun e => b.L.contains e.1 || b.W.any fun f => f.1 == e.1) = true := List.any_eq_true.2 ⟨e, h1, by
    simp only [Bool.or_eq_true]; right; exact List.any_eq_true.2 ⟨f, h3, by simp [h2, h4]⟩⟩
  simp only [this, Bool.or_true, Bool.true_or]

theorem countP_lt {p q : Nat → Bool} {k : Nat} : ∀ {l : List Nat}, (∀ x ∈ l, p x = true → q x = true) → k ∈ l → q k = true → p k = false → l.countP p < l.countP q
  | [], _, hk, _, _ => by cases hk
  | x :: r, h, hk, hq, hp => by
    have hle : ∀ (l : List Nat), (∀ x ∈ l, p x = true → q x = true) → l.countP p ≤ l.countP q := fun l hl => List.countP_mono_left hl
    simp only [List.countP_cons]
    rcases List.mem_cons.1 hk with e | hk'
    · subst e
      have := hle r fun y hy => h y (by simp [hy])
      simp only [hp, hq, Bool.false_eq_true, if_false, if_true]; omega
    · have := countP_lt (fun y hy => h y (by simp [hy])) hk' hq hp
      have hx := h x (by simp)
      cases hpx : p x with
      | false => simp only [Bool.false_eq_true, if_false]; split <;> omega
      | true => rw [hx hpx]; simp only [if_true]; omega

section
variable {P : Program} {C : Ctx} {ops : Array Oper} {evs : List Ev} {s0 : St} {n0 : Nat}

/-- What the walk in the order of the text has shown. -/
structure Walked (P : Program) (C : Ctx) (ops : Array Oper) (evs : List Ev) (s0 : St) (n0 : Nat) : Prop where
  len : evs.length = ops.size
  ev : ∀ j o e, ops[j]? = some o → evs[j]? = some e → EvOK P C ops o (foldE (fun i => decide (i < j)) 0 evs s0).tm (foldE (fun i => decide (i < j)) 0 evs s0).hp e ∧ e.id = n0 + j
  pair : ∀ i k a e, i < k → evs[i]? = some a → evs[k]? = some e → (Bef ops i k ∨ clash a e = false) ∧ tagNot a.tv e.dst = true ∧ sameDst a e = false
  edge : ∀ j o e, ops[j]? = some o → e ∈ o.after → binding e = true → e.on < j
  tags : ∀ t g b s, tget s0.tm t ≠ .tag g b s

structure Inv (p : Par) (μ0 : Mu) (ops : Array Oper) (evs : List Ev) (s0 : St) (n0 : Nat) (S : Nat → Bool) (a : Act) (w : World) : Prop where
  closed : Closed ops S
  sim : ∃ μ F, HS p μ F (foldE S 0 evs s0).hp w ∧ (∀ l, n0 ≤ l → μ l ≠ none → ∃ i e, S i = true ∧ evs[i]? = some e ∧ e.id = l) ∧ (∀ l q, μ0 l = some q → μ l = some q) ∧ TmOK w μ F (foldE S 0 evs s0).tm a.tmps ∧ s0.tm.length ≤ a.tmps.size ∧ Marks p F w a.defers

theorem inv_step {p : Par} {μ0 : Mu} {S : Nat → Bool} {a : Act} {w : World} {K : Act → World → Prop} {Q : Exit → Act → World → Prop} {r : Option Nat} (hC : CtxOK P C) (hW : Walked P C ops evs s0 n0) (hI : Inv p μ0 ops evs s0 n0 S a w) {k : Nat} {o : Oper} (ho : ops[k]? = some o) (hk : S k = false)
    (hready : ∀ e ∈ o.after, binding e = true → S e.on = true) (hK : ∀ a' w', Inv p μ0 ops evs s0 n0 (fun i => decide (i = k) || S i) a' w' → K a' w') :
    if Region.wanted o (yielded ops a.tmps) then o.wpIn (FW r) 0 P a w K Q else K (a.put o.dst undef) w := by
  obtain ⟨hcl, μ, F, hh, hfr, h0, ht, hsz, hd⟩ := hI
  have hklt : k < evs.length := by
    rw [hW.len]
    exact (Array.getElem?_eq_some_iff.1 ho).1
  obtain ⟨e, he⟩ : ∃ e, evs[k]? = some e := ⟨_, List.getElem?_eq_getElem hklt⟩
  obtain ⟨hev, hid⟩ := hW.ev k o e ho he
  -- closed with k
  have hcl' : Closed ops (fun i => decide (i = k) || S i) := by
    intro j o' e' hj ho' he' hb
    simp only [Bool.or_eq_true, decide_eq_true_eq] at hj ⊢
    rcases hj with rfl | hj
    · rw [ho] at ho'; cases ho'
      exact .inr (hready e' he' hb)
    · exact .inr (hcl j o' e' hj ho' he' hb)
  have hbef : ∀ i, i < k → Bef ops i k → S i = true := by
    intro i hi hb
    have := hcl'.bef hb (by simp)
    simp only [Bool.or_eq_true, decide_eq_true_eq] at this
    rcases this with h | h
    · omega
    · exact h
  have haft : ∀ i, k < i → Bef ops k i → S i = false := by
    intro i hi hb
    cases hs : S i with
    | false => rfl
    | true => have := hcl.bef hb hs; rw [hk] at this; cases this
  -- who clashes
  have hlow : ∀ i x, i < k → evs[i]? = some x → clash x e = true → S i = true := by
    intro i x hi hx hc
    rcases (hW.pair i k x e hi hx he).1 with h | h
    · exact hbef i hi h
    · rw [hc] at h; cases h
  have hhigh : ∀ i x, k < i → evs[i]? = some x → clash e x = true → S i = false := by
    intro i x hi hx hc
    rcases (hW.pair k i e x hi he hx).1 with h | h
    · exact haft i hi h
    · rw [hc] at h; cases h
  have hlen1 : (foldE S 0 evs s0).tm.length = s0.tm.length := length_foldE ..
  have hlen2 : (foldE (fun i => decide (i < k)) 0 evs s0).tm.length = s0.tm.length := length_foldE ..
  -- the part that it reads is as in the text's order
  have htm : restrictT (foldE S 0 evs s0).tm.length (foldE S 0 evs s0).tm e.ts = restrictT (foldE (fun i => decide (i < k)) 0 evs s0).tm.length (foldE (fun i => decide (i < k)) 0 evs s0).tm e.ts := by
    rw [hlen1, hlen2]
    refine restrictT_congr fun t hte => foldE_tm _ _ t evs 0 s0 s0 rfl rfl fun j x hx hdx => ?_
    simp only [Nat.zero_add]
    rcases Nat.lt_trichotomy j k with h | h | h
    · rw [hlow j x h hx (clash_dst_ts hdx hte)]; simp [h]
    · subst h; rw [hk]; simp
    · rw [hhigh j x h hx (clash_ts_dst hdx hte)]; simp; omega
  have hhp : restrictH (foldE S 0 evs s0).hp e.L = restrictH (foldE (fun i => decide (i < k)) 0 evs s0).hp e.L := by
    refine restrictH_congr fun l hle => foldE_hp _ _ l evs 0 s0 s0 rfl fun j x hx hdx => ?_
    simp only [Nat.zero_add]
    rcases Nat.lt_trichotomy j k with h | h | h
    · rw [hlow j x h hx (clash_W_L hdx hle)]; simp [h]
    · subst h; rw [hk]; simp
    · rw [hhigh j x h hx (clash_L_W hdx hle)]; simp; omega
  obtain ⟨rn, hp', hrun, hWe⟩ := hev.run
  rw [← htm, ← hhp] at hrun
  have hidn : μ e.id = none := by
    cases hm : μ e.id with
    | none => rfl
    | some q =>
      obtain ⟨i, x, h1, h2, h3⟩ := hfr e.id (by omega) (by rw [hm]; simp)
      have hi : i < ops.size := by rw [← hW.len]; exact (List.getElem?_eq_some_iff.1 h2).1
      have := (hW.ev i _ x (Array.getElem?_eq_getElem hi) h2).2
      have : i = k := by omega
      subst this
      rw [hk] at h1; cases h1
  have hgone : hget (foldE S 0 evs s0).hp e.id = none := by
    cases hg : hget (foldE S 0 evs s0).hp e.id with
    | none => rfl
    | some blk => obtain ⟨q, h1, _⟩ := hh.blk _ _ hg; rw [hidn] at h1; cases h1
  refine stepTr_sound hC (lh_restrict hh e.L) hidn (ht.restrict _ _) hrun fun v w' hout => hK _ _ ⟨hcl', ?_⟩
  obtain ⟨μ', F', e1, e2, e3, e4⟩ := hout
  have hN : ∀ l, l ≠ e.id → μ' l = μ l := fun l hl => e4 l fun hn => hl hn.1
  -- the state behind it
  have hG : ∀ l, hget (ap (foldE S 0 evs s0) e).hp l = if l ∈ e.L ∨ l = e.id then hget hp' l else hget (foldE S 0 evs s0).hp l := by
    intro l
    unfold ap
    simp only [hWe]
    cases hq : quietOp o.op with
    | true =>
      have hs := stepTr_quiet hq hrun
      subst hs
      simp only [if_true, happ, List.foldl_nil, hget_restrict]
      by_cases h1 : l ∈ e.L
      · simp [h1]
      · by_cases h2 : l = e.id
        · subst h2; simp [h1, hgone]
        · simp [h1, h2]
    | false =>
      simp only [Bool.false_eq_true, if_false]
      rw [happ_map]
      simp only [List.mem_cons]
      by_cases h1 : l ∈ e.L
      · simp [h1]
      · by_cases h2 : l = e.id
        · simp [h2]
        · simp [h1, h2]
  have hs1 := hs_lift hh e1 e3 hN hG
  have hkey : ∀ l, wkey e.W l = true → l ∈ e.L ∨ l = e.id := by
    intro l hl
    obtain ⟨x, h1, h2⟩ := wkey_mem hl
    rw [hWe] at h1
    split at h1
    · cases h1
    · simp only [List.mem_map, List.mem_cons] at h1
      obtain ⟨y, h3, rfl⟩ := h1
      simp only at h2; subst h2
      exact h3.elim .inr .inl
  have hhpEq : ∀ l, hget (foldE (fun i => decide (i = k) || S i) 0 evs s0).hp l = hget (ap (foldE S 0 evs s0) e).hp l := by
    intro l
    cases hw : wkey e.W l with
    | true =>
      refine foldE_hp_last _ l hw evs k 0 s0 _ he (by simp) fun j' x hj hx hS => ?_
      simp only [Nat.zero_add, Bool.or_eq_true, decide_eq_true_eq] at hS
      cases hwx : wkey x.W l with
      | false => rfl
      | true =>
        have := hhigh j' x hj hx (clash_W_W hw hwx)
        rcases hS with h | h
        · omega
        · rw [this] at h; cases h
    | false =>
      have h1 : hget (ap (foldE S 0 evs s0) e).hp l = hget (foldE S 0 evs s0).hp l := (happ_get e.W _ [] l).1 hw
      rw [h1]
      refine foldE_hp _ _ l evs 0 s0 s0 rfl fun j x hx hwx => ?_
      simp only [Nat.zero_add]
      by_cases hjk : j = k
      · subst hjk; rw [he] at hx; cases hx; rw [hw] at hwx; cases hwx
      · simp [hjk]
  have htmEq : ∀ t, tget (foldE (fun i => decide (i = k) || S i) 0 evs s0).tm t = tget (ap (foldE S 0 evs s0) e).tm t := by
    intro t
    by_cases hd' : e.dst = some t
    · refine foldE_tm_last _ t hd' evs k 0 s0 _ he (by simp) (fun j' x hj hx hS hdx => ?_) hlen1.symm
      have := (hW.pair k j' e x hj he hx).2.2
      unfold sameDst at this
      simp [hd', hdx] at this
    · rw [tget_ap _ _ _ hd']
      refine foldE_tm _ _ t evs 0 s0 s0 rfl rfl fun j x hx hdx => ?_
      simp only [Nat.zero_add]
      by_cases hjk : j = k
      · subst hjk; rw [he] at hx; cases hx; exact (hd' hdx).elim
      · simp [hjk]
  have hext : Ext F w w' := ext_F (lh_restrict hh e.L) e1
  refine ⟨μ', F', hs_congr hs1 hhpEq, ?_, fun l q hq => e3 l q (h0 l q hq), tmOK_congr ?_ htmEq, ?_, by rw [Act.put_defers]; exact hd.step (lh_restrict hh e.L) e1⟩
  · intro l hl hm
    by_cases hle : l = e.id
    · exact ⟨k, e, by simp, he, hle.symm⟩
    · rw [hN l hle] at hm
      obtain ⟨i, x, h1, h2, h3⟩ := hfr l hl hm
      exact ⟨i, x, by simp [h1], h2, h3⟩
  · cases hdst : o.dst with
    | none =>
      have : (ap (foldE S 0 evs s0) e).tm = (foldE S 0 evs s0).tm := by unfold ap; rw [hev.dst, hdst]
      rw [this]
      exact fun t => (ht t).mono hext e1.sub e3
    | some d =>
      have hdl := hev.len d hdst
      rw [hlen2] at hdl
      have : (ap (foldE S 0 evs s0) e).tm = (foldE S 0 evs s0).tm.set d e.tv := by unfold ap; rw [hev.dst, hdst]
      rw [this]
      have hd1 : d < a.tmps.size := Nat.lt_of_lt_of_le hdl hsz
      have hd2 : d < (foldE S 0 evs s0).tm.length := by rw [hlen1]; exact hdl
      refine tmOK_put ht hext e1.sub e3 hd1 hd2 (noTag_of fun t g b s htag => ?_) (RepT_put e2 (fun g b s hg => ?_) hd1)
      · rcases foldE_tag S t evs 0 s0 htag with h1 | ⟨j, x, h1, h2, h3, h4⟩
        · exact (hW.tags t g b s h1).elim
        · simp only [Nat.zero_add] at h2
          intro hgd; subst hgd
          rcases Nat.lt_trichotomy j k with h | h | h
          · have := (hW.pair j k x e h h1 he).2.1
            unfold tagNot at this
            simp [h3, hev.dst, hdst] at this
          · subst h; rw [hk] at h2; cases h2
          · have hjl : j < ops.size := by rw [← hW.len]; exact (List.getElem?_eq_some_iff.1 h1).1
            have hx := (hW.ev j _ x (Array.getElem?_eq_getElem hjl) h1).1
            have hgt := (hx.tag g b s h3).1
            have := hhigh j x h h1 (clash_dst_ts (by rw [hev.dst, hdst]) hgt)
            rw [this] at h2; cases h2
      · have hne := (hev.tag g b s hg).2
        intro hgd; subst hgd
        exact hne hdst
  · cases hdst : o.dst with
    | none => exact hsz
    | some d => simp [Act.put]; exact hsz

theorem ready_spec {listed : Array Bool} {k : Nat} (h : k ∈ Region.ready .any ops listed) (hsz : listed.size = ops.size) : ∃ o, ops[k]? = some o ∧ asSet listed k = false ∧ ∀ e ∈ o.after, binding e = true → asSet listed e.on = true := by
  unfold Region.ready at h
  simp only [List.mem_filter, List.mem_range, Bool.and_eq_true, Bool.not_eq_true'] at h
  obtain ⟨hk, h1, h2⟩ := h
  refine ⟨ops[k], Array.getElem?_eq_getElem hk, ?_, ?_⟩
  · unfold asSet
    have hk' : k < listed.size := by omega
    simpa [Array.getD, hk'] using h1
  · intro e he hb
    rw [Array.getElem?_eq_getElem hk] at h2
    simp only [Option.map_some, Option.getD_some, Array.all_eq_true'] at h2
    have := h2 e he
    unfold binding at hb
    rw [hb] at this
    unfold asSet
    simpa using this

theorem ready_nil {listed : Array Bool} (h : Region.ready .any ops listed = []) (hsz : listed.size = ops.size) (hedge : ∀ j o e, ops[j]? = some o → e ∈ o.after → binding e = true → e.on < j) : ∀ k, k < ops.size → asSet listed k = true := by
  intro k
  induction k using Nat.strongRecOn with
  | _ k ih =>
    intro hk
    cases hs : asSet listed k with
    | true => rfl
    | false =>
      have : k ∈ Region.ready .any ops listed := by
        unfold Region.ready
        simp only [List.mem_filter, List.mem_range, Bool.and_eq_true, Bool.not_eq_true']
        refine ⟨hk, ?_, ?_⟩
        · unfold asSet at hs
          have hk' : k < listed.size := by omega
          simpa [Array.getD, hk'] using hs
        · rw [Array.getElem?_eq_getElem hk]
          simp only [Option.map_some, Option.getD_some, Array.all_eq_true']
          intro e he
          cases hb : binding e with
          | false => unfold binding at hb; simp [hb]
          | true =>
            have hlt := hedge k _ e (Array.getElem?_eq_getElem hk) he hb
            have := ih e.on hlt (by omega)
            unfold asSet at this
            simp [this]
      rw [h] at this; cases this

theorem any_sound {p : Par} {μ0 : Mu} {Qx : Exit → Act → World → Prop} {r : Option Nat} (hC : CtxOK P C) (hW : Walked P C ops evs s0 n0) (hQ : ∀ a w, Inv p μ0 ops evs s0 n0 (fun i => decide (i < ops.size)) a w → Qx .normal a w) :
    ∀ (fuel : Nat) (listed : Array Bool) (a : Act) (w : World), listed.size = ops.size → (List.range ops.size).countP (fun i => !asSet listed i) ≤ fuel → Inv p μ0 ops evs s0 n0 (asSet listed) a w → wpAnyIn (FW r) 0 P .any ops Qx fuel listed a w := by
  have fin : ∀ (listed : Array Bool) (a : Act) (w : World), listed.size = ops.size → (∀ k, k < ops.size → asSet listed k = true) → Inv p μ0 ops evs s0 n0 (asSet listed) a w → Qx .normal a w := by
    intro listed a w hsz hall hI
    refine hQ a w ?_
    have : asSet listed = fun i => decide (i < ops.size) := by
      funext i
      by_cases h : i < ops.size
      · simp [h, hall i h]
      · unfold asSet
        have : ¬ i < listed.size := by omega
        simp [h, Array.getD, this]
    rwa [this] at hI
  intro fuel
  induction fuel with
  | zero =>
    intro listed a w hsz hc hI
    have hall : ∀ k, k < ops.size → asSet listed k = true := by
      intro k hk
      have h0 : (List.range ops.size).countP (fun i => !asSet listed i) = 0 := by omega
      rw [List.countP_eq_zero] at h0
      have := h0 k (List.mem_range.2 hk)
      simpa using this
    refine ⟨?_, fin listed a w hsz hall hI⟩
    rw [List.eq_nil_iff_forall_not_mem]
    intro k hk
    obtain ⟨o, h1, h2, _⟩ := ready_spec hk hsz
    have := hall k (Array.getElem?_eq_some_iff.1 h1).1
    rw [h2] at this; cases this
  | succ fuel ih =>
    intro listed a w hsz hc hI
    refine ⟨fun hr => fin listed a w hsz (ready_nil hr hsz hW.edge) hI, fun k hk => ?_⟩
    obtain ⟨o, h1, h2, h3⟩ := ready_spec hk hsz
    have hklt : k < ops.size := (Array.getElem?_eq_some_iff.1 h1).1
    unfold wpOpIn
    rw [h1]
    simp only []
    have hstep := inv_step (r := r) (Q := Qx) (K := wpAnyIn (FW r) 0 P .any ops Qx fuel (listed.setIfInBounds k true)) hC hW hI h1 h2 h3 fun a' w' hI' => ih _ a' w' (by simpa using hsz) ?_ ?_
    · split
      · rename_i hw; rw [if_pos hw] at hstep; exact hstep
      · rename_i hw; rw [if_neg hw] at hstep; exact ⟨fun _ _ => trivial, hstep⟩
    · have hset : ∀ i, asSet (listed.setIfInBounds k true) i = (decide (i = k) || asSet listed i) := asSet_set (by omega)
      have hlt : (List.range ops.size).countP (fun i => !asSet (listed.setIfInBounds k true) i) < (List.range ops.size).countP (fun i => !asSet listed i) := by
        refine countP_lt (fun x _ hx => ?_) (List.mem_range.2 hklt) (by simp [h2]) (by rw [hset]; simp)
        rw [hset] at hx
        simp only [Bool.not_or, Bool.and_eq_true] at hx
        exact hx.2
      omega
    · have : asSet (listed.setIfInBounds k true) = fun i => decide (i = k) || asSet listed i := funext (asSet_set (by omega))
      rw [this]; exact hI'
end

theorem hs_drew {p : Par} {μ : Mu} {F : Nat → Prop} {hp : Heap} {w : World} (h : HS p μ F hp w) : HS p μ F hp w.drew := by
  refine ⟨h.ext.trans (Ext.drew _ w), h.sub, h.fin, fun l blk hg => ?_, h.inj⟩
  obtain ⟨q, h1, h2, h3⟩ := h.blk l blk hg
  exact ⟨q, h1, h2, h3.mono (Ext.drew F w) (fun _ h => h) (fun _ _ h => h) (fun _ _ _ => rfl)⟩

theorem drawn_ok {P : Program} {C : Ctx} (hC : CtxOK P C) (hm : P.follows .mixedOrders = true) : DrOK P C (fun _ => drawn P C) := by
  intro inl _ id ops st Q hq p μ0 a w hs
  obtain ⟨μ, F, hh, hf, h0, ht, hsz, hd⟩ := hs.untag
  simp only [drawn] at hq
  split at hq
  · rename_i hedge
    rw [untagF_eq] at hq
    obtain ⟨evs, stF, h1, hall, h2⟩ := dK_sat _ _ _ _ hq
    simp only [List.length_nil, List.drop_zero] at hall
    · skip
      obtain ⟨f1, f2, f3, f4⟩ := evOps_spec _ _ _ _ h1
      simp only [Array.length_toList] at f1 f3
      have hbm := bms_bef (ops := ops) ops.toList [] (fun j => by simp) (fun j i h => by simp at h)
      have hW : Walked P C ops evs ⟨Sx.untag st.tm, st.hp⟩ st.next := by
        refine ⟨f1, fun j o e hj he => f4 j o e (by simpa using hj) he, fun i k x e hik hx he => ?_, fun j o e hj he hb => ?_, fun t g b s htag => ?_⟩
        · have := allOK_spec hall k e he i x (by simpa using hx) (by simpa using hik)
          unfold pairOK at this
          simp only [Bool.and_eq_true, Bool.or_eq_true, Bool.not_eq_true'] at this
          exact ⟨this.1.1.imp (hbm k i) (fun h => h), this.1.2, this.2⟩
        · have := edgesOK_spec hedge j o e (by simpa using hj) he hb
          omega
        · rw [tget_untag] at htag
          split at htag
          · cases htag
          · rename_i h; exact h _ _ _ htag
      refine fun r _ => wpIn_region_any hm (any_sound (p := p) (μ0 := μ0) hC hW (fun a' w' hI => ?_) ops.size _ a _ (by simp) ?_ ?_)
      · obtain ⟨_, μ', F', e1, e2, e3, e4, e5, e6⟩ := hI
        have hfe : foldE (fun i => decide (i < ops.size)) 0 evs ⟨Sx.untag st.tm, st.hp⟩ = ⟨stF.tm, stF.hp⟩ := by
          rw [f2]; exact foldE_congr _ _ _ fun j hj => by simp; omega
        rw [hfe] at e1 e4
        refine ⟨stF, ⟨rfl, h2⟩, μ', F', e1, fun l hl => ?_, e3, e4, ?_, e6⟩
        · cases hm' : μ' l with
          | none => rfl
          | some q =>
            obtain ⟨i, e, g1, g2, g3⟩ := e2 l (by omega) (by rw [hm']; simp)
            have hi : i < ops.size := by rw [← f1]; exact (List.getElem?_eq_some_iff.1 g2).1
            have := (f4 i _ e (by rw [Array.getElem?_toList]; exact Array.getElem?_eq_getElem hi) g2).2
            simp only at this
            omega
        · have := congrArg (fun s => s.tm.length) hfe
          simp only [length_foldE] at this
          simp only at e5
          omega
      · refine Nat.le_trans List.countP_le_length ?_
        simp
      · have hS : asSet (Array.replicate ops.size false) = fun _ => false := by
          funext i; unfold asSet; simp [Array.getD_eq_getD_getElem?, Array.getElem?_replicate]
          split <;> rfl
        rw [hS]
        refine ⟨(fun k o e h => by cases h), μ, F, ?_, fun l hl hm' => (hm' (hf l hl)).elim, h0, ?_, hsz, hd⟩
        · rw [foldE_false]; exact hs_drew hh
        · rw [foldE_false]; exact fun t => (ht t).mono (Ext.drew F w) (fun _ h => h) (fun _ _ h => h)
  · exact hq.elim

end
end Go.Sx
