/- The symbolic executor: states told with fewer words, and loops. -/
import Derived.Test.YtcbjclmjkilphaaSxU
set_option linter.unusedVariables false
set_option linter.unusedSimpArgs false
namespace Go.Sx
noncomputable section

/-- Which name a name may get. -/
def rn (n0 : Nat) (ρ : List (Nat × Nat)) (l l' : Nat) : Prop := if l' < n0 then l = l' else ρ.contains (l, l') = true

def leD : DV → DV → Prop
  | .ro n e c, .ro n' e' c' => n = n' ∧ e = e' ∧ ∀ i j, i < n → j < e → c i j = c' i j
  | a, b => a = b

mutual
def leSV (n0 : Nat) (ρ : List (Nat × Nat)) (nils : List Nat) : SV → SV → Prop
  | .d a, s' => match s' with
    | .d b => leD a b
    | .row l _ _ n _ => a = .x (.slice none 0 0) ∧ n = 0 ∧ nils.contains l = true
    | _ => False
  | .ptr l o, s' => match s' with
    | .ptr l' o' => rn n0 ρ l l' ∧ o = o'
    | _ => False
  | .pix l b n e i j, s' => match s' with
    | .pix l' b' n' e' i' j' => rn n0 ρ l l' ∧ b = b' ∧ n = n' ∧ e = e' ∧ i = i' ∧ j = j'
    | _ => False
  | .row l b o n e, s' => match s' with
    | .row l' b' o' n' e' => rn n0 ρ l l' ∧ b = b' ∧ o = o' ∧ n = n' ∧ e = e'
    | _ => False
  | .rop n c, s' => s' = .rop n c
  | .agg cs, s' => match s' with
    | .agg ds => leSVs n0 ρ nils cs ds
    | _ => False
  | .fn f xs ys, s' => match s' with
    | .fn f' xs' ys' => f = f' ∧ leSVs n0 ρ nils xs xs' ∧ leSVs n0 ρ nils ys ys'
    | _ => False
  | .tup cs, s' => match s' with
    | .tup ds => leSVs n0 ρ nils cs ds
    | _ => False
  | .ifc t v, s' => match s' with
    | .ifc t' v' => t = t' ∧ leSV n0 ρ nils v v'
    | _ => False
def leSVs (n0 : Nat) (ρ : List (Nat × Nat)) (nils : List Nat) : List SV → List SV → Prop
  | [], ds => ds = []
  | c :: cs, ds => match ds with
    | d :: ds => leSV n0 ρ nils c d ∧ leSVs n0 ρ nils cs ds
    | [] => False
end

def leTV (n0 : Nat) (ρ : List (Nat × Nat)) (nils : List Nat) : TV → TV → Prop
  | _, .unk => True
  | .ok a, .ok b => leSV n0 ρ nils a b
  | .lit a, .lit b => a = b
  | .lit a, .ok b => b = .d (.x (.bool a))
  | _, _ => False

def leTm (n0 : Nat) (ρ : List (Nat × Nat)) (nils : List Nat) : List TV → List TV → Prop
  | _, [] => True
  | a :: as, b :: bs => leTV n0 ρ nils a b ∧ leTm n0 ρ nils as bs
  | [], _ => False

def leBlk (n0 : Nat) (ρ : List (Nat × Nat)) (nils : List Nat) : Blk → Blk → Prop
  | .cells cs, .cells ds => leSVs n0 ρ nils cs ds
  | .row n e c, .row n' e' c' => n = n' ∧ e = e' ∧ ∀ i j, i < n → j < e → c i j = c' i j
  | .cells cs, .row n e c => cs.length = n * e ∧ ∀ i j, i < n → j < e → cs.getD (i * e + j) uv = .d (c i j)
  | _, _ => False

def srcOf (n0 : Nat) (ρ : List (Nat × Nat)) (l : Nat) : Option Nat := if l < n0 then some l else (ρ.find? fun e => e.2 == l).map (·.1)

def leHp (n0 : Nat) (ρ : List (Nat × Nat)) (nils : List Nat) (hp : Heap) : Nat → Heap → Prop
  | _, [] => True
  | l, none :: r => leHp n0 ρ nils hp (l + 1) r
  | l, some b :: r => (match nils.contains l with
    | true => (match b with | .row n _ _ => n = 0 | _ => False)
    | false => match srcOf n0 ρ l with
      | some o => (match hget hp o with | some a => leBlk n0 ρ nils a b | none => False)
      | none => False) ∧ leHp n0 ρ nils hp (l + 1) r

def nodupB : List Nat → Bool
  | [] => true
  | a :: r => !r.contains a && nodupB r

def gcChk (n0 : Nat) (ρ : List (Nat × Nat)) (nils : List Nat) (next : Nat) (hp : Heap) : Bool :=
  decide (n0 ≤ next) && (ρ.all fun e => decide (n0 ≤ e.2) && decide (e.2 < next) && !(nils.contains e.2) && (!decide (e.1 < n0) || (hget hp e.1).isNone)) && (nils.all fun l => decide (n0 ≤ l) && decide (l < next)) && nodupB (ρ.map (·.1)) && nodupB (ρ.map (·.2))

def muOf (n0 : Nat) (ρ : List (Nat × Nat)) (nils : List Nat) (μ : Mu) : Mu := fun l => if l < n0 then μ l else if nils.contains l = true then some .nil else match (ρ.find? fun e => e.2 == l).map (·.1) with | some o => μ o | none => none

theorem nodupB_inj {l : List (Nat × Nat)} (h : nodupB (l.map (·.2)) = true) {e : Nat × Nat} (he : e ∈ l) : l.find? (fun f => f.2 == e.2) = some e := by
  induction l with
  | nil => cases he
  | cons a l ih =>
    simp only [List.map_cons, nodupB, Bool.and_eq_true, Bool.not_eq_true'] at h
    rcases List.mem_cons.1 he with rfl | he
    · simp
    · have hne : (a.2 == e.2) = false := by
        have : (l.map (·.2)).contains a.2 = false := h.1
        simp only [beq_eq_false_iff_ne, ne_eq]
        intro hh
        rw [List.contains_eq_mem, decide_eq_false_iff_not, hh] at this
        exact this (List.mem_map.2 ⟨e, he, rfl⟩)
      simp only [List.find?_cons, hne]
      exact ih h.2 he

theorem nodupB_fst {l : List (Nat × Nat)} (h : nodupB (l.map (·.1)) = true) {e f : Nat × Nat} (he : e ∈ l) (hf : f ∈ l) (hef : e.1 = f.1) : e = f := by
  induction l with
  | nil => cases he
  | cons a l ih =>
    simp only [List.map_cons, nodupB, Bool.and_eq_true, Bool.not_eq_true'] at h
    have hn : ∀ g ∈ l, g.1 ≠ a.1 := by
      intro g hg hh
      have := h.1
      rw [List.contains_eq_mem, decide_eq_false_iff_not, ← hh] at this
      exact this (List.mem_map.2 ⟨g, hg, rfl⟩)
    rcases List.mem_cons.1 he with rfl | he1
    · rcases List.mem_cons.1 hf with rfl | hf1
      · rfl
      · exact (hn _ hf1 hef.symm).elim
    · rcases List.mem_cons.1 hf with rfl | hf1
      · exact (hn _ he1 hef).elim
      · exact ih h.2 he1 hf1

variable {n0 : Nat} {ρ : List (Nat × Nat)} {nils : List Nat}

theorem rn_mu {next : Nat} {hp : Heap} (hk : gcChk n0 ρ nils next hp = true) {μ : Mu} {l l' : Nat} {q : Plc} (h : rn n0 ρ l l') (hm : μ l = some q) : muOf n0 ρ nils μ l' = some q := by
  unfold rn at h
  unfold muOf
  split at h
  · rename_i hlt; rw [if_pos hlt]; subst h; exact hm
  · rename_i hlt
    rw [if_neg hlt]
    rw [List.contains_iff_mem] at h
    simp only [gcChk, Bool.and_eq_true] at hk
    obtain ⟨⟨⟨⟨k1, k2⟩, k3⟩, k4⟩, k5⟩ := hk
    have := (List.all_eq_true.1 k2) _ h
    simp only [Bool.and_eq_true, Bool.not_eq_true'] at this
    rw [if_neg (by rw [this.1.2]; simp)]
    rw [nodupB_inj k5 h]
    exact hm

theorem nil_mu {next : Nat} {hp : Heap} (hk : gcChk n0 ρ nils next hp = true) {μ : Mu} {l : Nat} (h : nils.contains l = true) : muOf n0 ρ nils μ l = some .nil := by
  simp only [gcChk, Bool.and_eq_true] at hk
  obtain ⟨⟨⟨⟨k1, k2⟩, k3⟩, k4⟩, k5⟩ := hk
  have := (List.all_eq_true.1 k3) l (by simpa using h)
  simp only [Bool.and_eq_true, decide_eq_true_eq] at this
  unfold muOf
  rw [if_neg (by omega), if_pos h]

theorem leD_sound {w : World} {F : Nat → Prop} {v : Value} {a b : DV} (h : RepD w F v a) (hl : leD a b) : RepD w F v b := by
  cases a with
  | x u => simp only [leD] at hl; subst hl; exact h
  | ro n e c =>
    cases b with
    | x u => simp only [leD] at hl; cases hl
    | ro n' e' c' =>
      simp only [leD] at hl
      obtain ⟨rfl, rfl, hc⟩ := hl
      cases h with
      | nil => exact .nil _ _
      | z => exact .z _ _ _ _
      | ro b o len cap esz cell f hF hcap hcell hone hrep => exact .ro b o n cap e c' f hF hcap hcell hone fun i j hi hj => by rw [← hc i j hi hj]; exact hrep i j hi hj

theorem leSVs_get : ∀ {cs ds : List SV}, leSVs n0 ρ nils cs ds → cs.length = ds.length ∧ ∀ i, i < cs.length → leSV n0 ρ nils (cs.getD i uv) (ds.getD i uv)
  | [], ds, h => by simp only [leSVs] at h; subst h; exact ⟨rfl, fun i hi => by simp at hi⟩
  | c :: cs, ds, h => by
    cases ds with
    | nil => simp only [leSVs] at h
    | cons d ds =>
      simp only [leSVs] at h
      obtain ⟨h1, h2⟩ := leSVs_get h.2
      refine ⟨by simp [h1], fun i hi => ?_⟩
      cases i with
      | zero => simpa using h.1
      | succ i => simpa using h2 i (by simpa using hi)

theorem leSV_sound {next : Nat} {hp : Heap} (hk : gcChk n0 ρ nils next hp = true) {w : World} {μ : Mu} {F : Nat → Prop} {v : Value} {s : SV} (h : Rep w μ F v s) : ∀ {s' : SV}, leSV n0 ρ nils s s' → Rep w (muOf n0 ρ nils μ) F v s' := by
  induction h with
  | d h =>
    intro s' hl
    simp only [leSV] at hl
    split at hl
    · exact .d (leD_sound h hl)
    · obtain ⟨rfl, rfl, hn⟩ := hl
      cases h with
      | x => exact .rnil _ _ _ _ (nil_mu hk hn)
    · exact hl.elim
  | ptr l off b o h =>
    intro s' hl
    simp only [leSV] at hl
    split at hl
    · obtain ⟨h1, rfl⟩ := hl; exact .ptr _ _ b o (rn_mu hk h1 h)
    · exact hl.elim
  | pix l base n esz i j b o h =>
    intro s' hl
    simp only [leSV] at hl
    split at hl
    · obtain ⟨h1, rfl, rfl, rfl, rfl, rfl⟩ := hl; exact .pix _ _ _ _ _ _ b o (rn_mu hk h1 h)
    · exact hl.elim
  | rnil l base off esz h =>
    intro s' hl
    simp only [leSV] at hl
    split at hl
    · obtain ⟨h1, rfl, rfl, rfl, rfl⟩ := hl; exact .rnil _ _ _ _ (rn_mu hk h1 h)
    · exact hl.elim
  | rz l base off esz b o q h =>
    intro s' hl
    simp only [leSV] at hl
    split at hl
    · obtain ⟨h1, rfl, rfl, rfl, rfl⟩ := hl; exact .rz _ _ _ _ b o q (rn_mu hk h1 h)
    · exact hl.elim
  | row l base off len esz b o cap h hc hz =>
    intro s' hl
    simp only [leSV] at hl
    split at hl
    · obtain ⟨h1, rfl, rfl, rfl, rfl⟩ := hl; exact .row _ _ _ _ _ b o cap (rn_mu hk h1 h) hc hz
    · exact hl.elim
  | rop b o n cell f hb hcell hone hrep =>
    intro s' hl
    simp only [leSV] at hl
    subst hl
    exact .rop b o n cell f hb hcell hone hrep
  | agg cs ss hl _ ih =>
    intro s' h
    simp only [leSV] at h
    split at h
    · obtain ⟨h1, h2⟩ := leSVs_get h
      exact .agg cs _ (by omega) fun i hi => ih i (by omega) (h2 i (by omega))
    · exact h.elim
  | fn f fs cs ss ts h1 h2 _ _ ih1 ih2 =>
    intro s' h
    simp only [leSV] at h
    split at h
    · obtain ⟨rfl, h3, h4⟩ := h
      obtain ⟨h5, h6⟩ := leSVs_get h3
      obtain ⟨h7, h8⟩ := leSVs_get h4
      exact .fn _ fs cs _ _ (by omega) (by omega) (fun i hi => ih1 i (by omega) (h6 i (by omega))) (fun i hi => ih2 i (by omega) (h8 i (by omega)))
    · exact h.elim
  | tup cs ss hl _ ih =>
    intro s' h
    simp only [leSV] at h
    split at h
    · obtain ⟨h1, h2⟩ := leSVs_get h
      exact .tup cs _ (by omega) fun i hi => ih i (by omega) (h2 i (by omega))
    · exact h.elim
  | ifc t v s _ ih =>
    intro s' h
    simp only [leSV] at h
    split at h
    · obtain ⟨rfl, h1⟩ := h; exact .ifc _ _ _ (ih h1)
    · exact h.elim

theorem leTm_get : ∀ {as bs : List TV}, leTm n0 ρ nils as bs → bs.length ≤ as.length ∧ ∀ t, leTV n0 ρ nils (tget as t) (tget bs t)
  | as, [], h => ⟨by simp, fun t => by simp only [tget_def]; simp [leTV]⟩
  | [], b :: bs, h => by simp [leTm] at h
  | a :: as, b :: bs, h => by
    simp only [leTm] at h
    obtain ⟨h1, h2⟩ := leTm_get h.2
    refine ⟨by simp; omega, fun t => ?_⟩
    cases t with
    | zero => simpa [tget_def] using h.1
    | succ t => simpa [tget_def] using h2 t

theorem leHp_get {hp : Heap} : ∀ {r : Heap} {l : Nat}, leHp n0 ρ nils hp l r → ∀ k b, hget r k = some b → (match nils.contains (l + k) with
    | true => (match b with | .row n _ _ => n = 0 | _ => False)
    | false => match srcOf n0 ρ (l + k) with
      | some o => (match hget hp o with | some a => leBlk n0 ρ nils a b | none => False)
      | none => False)
  | [], l, h, k, b, hg => by simp [hget_def] at hg
  | none :: r, l, h, k, b, hg => by
    cases k with
    | zero => simp [hget_def] at hg
    | succ k =>
      have := leHp_get (r := r) (l := l + 1) h k b (by simpa [hget_def] using hg)
      rwa [show l + 1 + k = l + (k + 1) by omega] at this
  | some c :: r, l, h, k, b, hg => by
    simp only [leHp] at h
    cases k with
    | zero =>
      obtain rfl : c = b := by simpa [hget_def] using hg
      exact h.1
    | succ k =>
      have := leHp_get (r := r) (l := l + 1) h.2 k b (by simpa [hget_def] using hg)
      rwa [show l + 1 + k = l + (k + 1) by omega] at this

/-- What is told of a state by fewer words. -/
def Gc (n0 : Nat) (s s' : AS) : Prop := ∀ p μ0 a w, (∀ l, n0 ≤ l → μ0 l = none) → Sim p μ0 s a w → Sim p μ0 s' a w

theorem Gc.refl (n0 : Nat) (s : AS) : Gc n0 s s := fun _ _ _ _ _ h => h
theorem Gc.trans {n0 : Nat} {a b c : AS} (h : Gc n0 a b) (k : Gc n0 b c) : Gc n0 a c := fun p μ0 x w h0 hs => k p μ0 x w h0 (h p μ0 x w h0 hs)

theorem leBlk_sound {next : Nat} {hp : Heap} (hk : gcChk n0 ρ nils next hp = true) {w : World} {μ : Mu} {F : Nat → Prop} {q : Plc} {a b : Blk} (h : BlkAt w μ F q a) (hl : leBlk n0 ρ nils a b) : BlkAt w (muOf n0 ρ nils μ) F q b := by
  cases q with
  | nil =>
    cases a with
    | cells cs => exact h.elim
    | row n e c =>
      cases b with
      | cells cs => exact hl.elim
      | row n' e' c' => simp only [leBlk] at hl; obtain ⟨rfl, rfl, _⟩ := hl; exact h
  | pl bb o =>
    cases a with
    | cells cs =>
      obtain ⟨c, e, h1, h2, h3, h4⟩ := h
      cases b with
      | cells ds =>
        simp only [leBlk] at hl
        obtain ⟨k1, k2⟩ := leSVs_get hl
        exact ⟨c, e, h1, by omega, fun i hi => leSV_sound hk (h3 i (by omega)) (k2 i (by omega)), fun i hi => h4 i (by omega)⟩
      | row n e' c' =>
        simp only [leBlk] at hl
        have hidx : ∀ i j, i < n → j < e' → i * e' + j < cs.length := by
          intro i j hi hj
          have : (i + 1) * e' ≤ n * e' := Nat.mul_le_mul_right _ hi
          rw [Nat.add_mul] at this; omega
        refine ⟨c, e, h1, by omega, fun i j hi hj => ?_, fun i j hi hj => h4 _ (hidx i j hi hj)⟩
        have := h3 _ (hidx i j hi hj)
        rw [hl.2 i j hi hj] at this
        exact rep_d this
    | row n e' c' =>
      obtain ⟨c, e, h1, h2, h3, h4⟩ := h
      cases b with
      | cells ds => exact hl.elim
      | row n' e'' c'' =>
        simp only [leBlk] at hl
        obtain ⟨rfl, rfl, hc⟩ := hl
        exact ⟨c, e, h1, h2, fun i j hi hj => by rw [← hc i j hi hj]; exact h3 i j hi hj, h4⟩

theorem gc_sound {s s' : AS} (ρ : List (Nat × Nat)) (nils : List Nat) (hk : gcChk n0 ρ nils s'.next s'.hp = true) (ht : leTm n0 ρ nils s.tm s'.tm) (hh : leHp n0 ρ nils s.hp 0 s'.hp) : Gc n0 s s' := by
  rintro p μ0 a w h00 ⟨μ, F, hs, hf, h0, htm, hsz, hd⟩
  obtain ⟨t1, t2⟩ := leTm_get ht
  have hk' := hk
  simp only [gcChk, Bool.and_eq_true, decide_eq_true_eq] at hk'
  obtain ⟨⟨⟨⟨k1, k2⟩, k3⟩, k4⟩, k5⟩ := hk'
  have hsrc : ∀ l b, hget s'.hp l = some b → (∃ q, muOf n0 ρ nils μ l = some q ∧ PlcOK p F q ∧ BlkAt w (muOf n0 ρ nils μ) F q b) ∧
      (nils.contains l = true ∨ ∃ o c, nils.contains l = false ∧ srcOf n0 ρ l = some o ∧ hget s.hp o = some c ∧ muOf n0 ρ nils μ l = μ o) := by
    intro l b hg
    have := leHp_get hh l b hg
    rw [Nat.zero_add] at this
    cases hn : nils.contains l with
    | true =>
      rw [hn] at this
      refine ⟨⟨.nil, nil_mu hk hn, trivial, ?_⟩, .inl rfl⟩
      cases b with
      | cells cs => exact this.elim
      | row n e c => exact this
    | false =>
      rw [hn] at this
      simp only at this
      split at this
      · rename_i o ho
        split at this
        · rename_i c hc
          have hmu : muOf n0 ρ nils μ l = μ o := by
            unfold muOf
            unfold srcOf at ho
            split at ho
            · rename_i hlt; rw [if_pos hlt]; simp only [Option.some.injEq] at ho; rw [ho]
            · rename_i hlt; rw [if_neg hlt, if_neg (by rw [hn]; simp), ho]
          obtain ⟨q, h1, h2, h3⟩ := hs.blk o c hc
          exact ⟨⟨q, by rw [hmu]; exact h1, h2, leBlk_sound hk h3 this⟩, .inr ⟨o, c, rfl, ho, hc, hmu⟩⟩
        · exact this.elim
      · exact this.elim
  refine ⟨muOf n0 ρ nils μ, F, ⟨hs.ext, hs.sub, hs.fin, fun l b hg => (hsrc l b hg).1, ?_⟩, ?_, ?_, ?_, by omega, hd⟩
  · intro l l' blk blk' b o b' o' hne g1 g2 m1 m2
    rcases (hsrc l blk g1).2 with e1 | ⟨x, c, n1, s1, c1, u1⟩
    · rw [nil_mu hk e1] at m1; cases m1
    · rcases (hsrc l' blk' g2).2 with e2 | ⟨x', c', n2, s2, c2, u2⟩
      · rw [nil_mu hk e2] at m2; cases m2
      · rw [u1] at m1; rw [u2] at m2
        refine hs.inj x x' c c' b o b' o' ?_ c1 c2 m1 m2
        intro hxx
        subst hxx
        have hfind : ∀ l, ¬ l < n0 → srcOf n0 ρ l = some x → (x, l) ∈ ρ := by
          intro l hl hx
          unfold srcOf at hx
          rw [if_neg hl, Option.map_eq_some_iff] at hx
          obtain ⟨e, he1, he2⟩ := hx
          have hm := List.mem_of_find?_eq_some he1
          have hp := List.find?_some he1
          simp only [beq_iff_eq] at hp
          subst he2; subst hp
          exact hm
        have hlow : ∀ l, l < n0 → srcOf n0 ρ l = some x → x = l := by
          intro l hl hx
          unfold srcOf at hx
          rw [if_pos hl, Option.some.injEq] at hx
          exact hx.symm
        have hno : ∀ l blk, hget s'.hp l = some blk → l < n0 → (l, l') ∈ ρ ∨ (∃ m, (l, m) ∈ ρ) → False := by
          intro l blk hg hl hm
          have : ∃ m, (l, m) ∈ ρ := hm.elim (fun h => ⟨_, h⟩) id
          obtain ⟨m, hm⟩ := this
          have := (List.all_eq_true.1 k2) _ hm
          simp only [Bool.and_eq_true, Bool.or_eq_true, Bool.not_eq_true', decide_eq_false_iff_not] at this
          rcases this.2 with h | h
          · exact h hl
          · rw [hg] at h; cases h
        by_cases a1 : l < n0
        · have b1 := hlow l a1 s1; subst b1
          by_cases a2 : l' < n0
          · exact hne (hlow l' a2 s2)
          · exact hno x blk g1 a1 (.inr ⟨l', hfind l' a2 s2⟩)
        · by_cases a2 : l' < n0
          · have b2 := hlow l' a2 s2; subst b2
            exact hno x blk' g2 a2 (.inr ⟨l, hfind l a1 s1⟩)
          · have := nodupB_fst k4 (hfind l a1 s1) (hfind l' a2 s2) rfl
            simp only [Prod.mk.injEq] at this
            exact hne this.2
  · intro l hl
    unfold muOf
    rw [if_neg (by omega)]
    rw [if_neg]
    · cases hfd : ρ.find? (fun e => e.2 == l) with
      | none => rfl
      | some e =>
        have hm := List.mem_of_find?_eq_some hfd
        have hp := List.find?_some hfd
        simp only [beq_iff_eq] at hp
        have := (List.all_eq_true.1 k2) _ hm
        simp only [Bool.and_eq_true, decide_eq_true_eq] at this
        omega
    · intro hn
      have := (List.all_eq_true.1 k3) l (by simpa using hn)
      simp only [Bool.and_eq_true, decide_eq_true_eq] at this
      omega
  · intro l q hq
    unfold muOf
    by_cases hlt : l < n0
    · rw [if_pos hlt]; exact h0 l q hq
    · rw [h00 l (by omega)] at hq; cases hq
  · intro t
    have h1 := t2 t
    have h2 := htm t
    generalize tget s.tm t = x at h1 h2
    generalize tget s'.tm t = y at h1 ⊢
    cases y with
    | unk => trivial
    | ok b =>
      cases x with
      | ok a => exact leSV_sound hk h2 h1
      | lit a => simp only [leTV] at h1; subst h1; simp only [RepT] at h2; rw [h2]; exact .d (.x _)
      | _ => exact h1.elim
    | lit b =>
      cases x with
      | lit a => simp only [leTV] at h1; subst h1; exact h2
      | _ => exact h1.elim
    | _ => cases x <;> exact h1.elim

/-- A loop: what is told at the head of each round. -/
theorem Triple.loop {P : Program} {body : Code} {st : AS} {post : Ex → AS → Prop} (I : Nat → AS → Prop) (h0 : ∃ n s, I n s ∧ Gc st.next st s)
    (hb : ∀ n s, I n s → Triple P body s fun e s' => match e with | .normal => ∃ m s'', m < n ∧ I m s'' ∧ Gc st.next s' s'' | e => ∃ s'', post e s'' ∧ Gc st.next s' s'') : Triple P (.loop body) st post := by
  intro p μ0 a w hs
  have hfr : ∀ l, st.next ≤ l → μ0 l = none := by
    obtain ⟨μ, F, _, hf, h0, _⟩ := hs
    intro l hl
    cases hm : μ0 l with
    | none => rfl
    | some q => have := h0 l q hm; rw [hf l hl] at this; cases this
  obtain ⟨n, s, hI, hg⟩ := h0
  have hs' := hg p μ0 a w hfr hs
  clear hs hg
  have key : ∀ n s a w, I n s → Sim p μ0 s a w → WP P (.loop body) (conc p μ0 post) a w := by
    intro n
    induction n using Nat.strongRecOn with
    | _ n ih =>
      intro s a w hI hs
      refine WP_loop_unroll (fun _ _ _ h => h) (fun _ _ h => h) (WP.mono ?_ (hb n s hI p μ0 a w hs))
      intro e a' w' hc
      cases e with
      | normal =>
        obtain ⟨s', ⟨m, s'', hm, hI', hg⟩, hs'⟩ := hc
        exact ih m hm s'' a' w' hI' (hg p μ0 a' w' hfr hs')
      | exit id => obtain ⟨s', ⟨s'', h1, hg⟩, h2⟩ := hc; exact ⟨s'', h1, hg p μ0 a' w' hfr h2⟩
      | ret => obtain ⟨s', ⟨s'', h1, hg⟩, h2⟩ := hc; exact ⟨s'', h1, hg p μ0 a' w' hfr h2⟩
      | _ => exact hc.elim
  exact key n s a w hI hs'

end
end Go.Sx
