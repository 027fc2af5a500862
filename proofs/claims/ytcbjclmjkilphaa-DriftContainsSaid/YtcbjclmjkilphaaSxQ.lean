/- The symbolic executor: regions that draw their order. -/
import Derived.Test.YtcbjclmjkilphaaSxP
import Derived.Orders
set_option linter.unusedVariables false
set_option linter.unusedSimpArgs false
namespace Go.Sx
noncomputable section

/-! ### A part of a state -/

def restrictH (hp : Heap) (L : List Nat) : Heap := L.foldl (fun h l => hset h l (hget hp l)) []

theorem hget_nil (l : Nat) : hget [] l = none := by simp [hget_def]

theorem hget_restrict_aux (hp : Heap) : ∀ (L : List Nat) (h0 : Heap) (l : Nat), hget (L.foldl (fun h l => hset h l (hget hp l)) h0) l = if l ∈ L then hget hp l else hget h0 l
  | [], h0, l => by simp
  | a :: L, h0, l => by
    simp only [List.foldl_cons, List.mem_cons]
    rw [hget_restrict_aux hp L (hset h0 a (hget hp a)) l, hget_hset]
    by_cases h1 : l ∈ L
    · simp [h1]
    · by_cases h2 : l = a
      · subst h2; simp [h1]
      · simp [h1, h2]

theorem hget_restrict (hp : Heap) (L : List Nat) (l : Nat) : hget (restrictH hp L) l = if l ∈ L then hget hp l else none := by
  unfold restrictH; rw [hget_restrict_aux, hget_nil]

theorem restrictH_congr {hp hp' : Heap} {L : List Nat} (h : ∀ l ∈ L, hget hp l = hget hp' l) : restrictH hp L = restrictH hp' L := by
  unfold restrictH
  suffices ∀ (M : List Nat) (h0 : Heap), (∀ l ∈ M, hget hp l = hget hp' l) → M.foldl (fun h l => hset h l (hget hp l)) h0 = M.foldl (fun h l => hset h l (hget hp' l)) h0 from this L [] h
  intro M
  induction M with
  | nil => intro h0 _; rfl
  | cons a M ih => intro h0 hM; simp only [List.foldl_cons]; rw [hM a (by simp)]; exact ih _ fun l hl => hM l (by simp [hl])

def restrictT (n : Nat) (tm : List TV) (ts : List Nat) : List TV := ts.foldl (fun r t => r.set t (tget tm t)) (List.replicate n .unk)

theorem restrictT_congr {n : Nat} {tm tm' : List TV} {ts : List Nat} (h : ∀ t ∈ ts, tget tm t = tget tm' t) : restrictT n tm ts = restrictT n tm' ts := by
  unfold restrictT
  suffices ∀ (M : List Nat) (h0 : List TV), (∀ t ∈ M, tget tm t = tget tm' t) → M.foldl (fun r t => r.set t (tget tm t)) h0 = M.foldl (fun r t => r.set t (tget tm' t)) h0 from this ts _ h
  intro M
  induction M with
  | nil => intro h0 _; rfl
  | cons a M ih => intro h0 hM; simp only [List.foldl_cons]; rw [hM a (by simp)]; exact ih _ fun l hl => hM l (by simp [hl])

theorem TmOK.restrict {w : World} {μ : Mu} {F : Nat → Prop} {tm : List TV} {tmps : Array Value} (h : TmOK w μ F tm tmps) (n : Nat) (ts : List Nat) : TmOK w μ F (restrictT n tm ts) tmps := by
  unfold restrictT
  suffices ∀ (M : List Nat) (h0 : List TV), TmOK w μ F h0 tmps → TmOK w μ F (M.foldl (fun r t => r.set t (tget tm t)) h0) tmps by
    refine this ts _ fun t => ?_
    have : tget (List.replicate n TV.unk) t = .unk := by
      simp only [tget_def]
      simp only [List.getD, List.getElem?_replicate]
      split <;> rfl
    rw [this]; trivial
  intro M
  induction M with
  | nil => intro h0 h1; exact h1
  | cons a M ih =>
    intro h0 h1
    simp only [List.foldl_cons]
    refine ih _ fun t => ?_
    simp only [tget_def]
    by_cases hta : t = a
    · subst hta
      by_cases hlt : t < h0.length
      · have hat := h t
        simp only [tget_def] at hat
        simpa [List.getD, List.getElem?_set_self hlt] using hat
      · have := h1 t
        simp only [tget_def] at this
        rw [List.set_eq_of_length_le (by omega)]; exact this
    · have := h1 t
      simp only [tget_def] at this
      simpa [List.getD, List.getElem?_set_ne (fun e => hta e.symm)] using this

theorem lh_sub {p : Par} {μ : Mu} {F : Nat → Prop} {hp hp2 : Heap} {w : World} (h : HS p μ F hp w) (hs : ∀ l blk, hget hp2 l = some blk → hget hp l = some blk) : LH w μ F hp2 := by
  refine ⟨Ext.refl _ _, fun b hb => hb, fun b hb => ⟨(h.fin b hb).1, .inl hb⟩, fun l blk hg => ?_, fun l l' b1 b2 b o b' o' hne h1 h2 => h.inj l l' b1 b2 b o b' o' hne (hs _ _ h1) (hs _ _ h2)⟩
  obtain ⟨q, h1, h2, h3⟩ := h.blk l blk (hs l blk hg)
  refine ⟨q, h1, ?_, h3⟩
  cases q with
  | nil => trivial
  | pl b o => exact ⟨h2.1, .inl ⟨l, blk, o, hg, h1⟩⟩

theorem lh_restrict {p : Par} {μ : Mu} {F : Nat → Prop} {hp : Heap} {w : World} (h : HS p μ F hp w) (L : List Nat) : LH w μ F (restrictH hp L) :=
  lh_sub h fun l blk hg => by rw [hget_restrict] at hg; split at hg; exact hg; cases hg

/-- A step that knew only a part of the heap. -/
theorem hs_lift {p : Par} {μ μ' : Mu} {F F' : Nat → Prop} {hp hp' hpG : Heap} {w w' : World} {L : List Nat} {id : Nat} (h : HS p μ F hp w) (k : HS ⟨w, Tk (restrictH hp L) μ, F⟩ μ' F' hp' w') (hμ : ∀ l q, μ l = some q → μ' l = some q) (hN : ∀ l, l ≠ id → μ' l = μ l)
    (hG : ∀ l, hget hpG l = if l ∈ L ∨ l = id then hget hp' l else hget hp l) : HS p μ' F' hpG w' := by
  have hsz := h.ext.size
  have hlr := lh_restrict h L
  have hsub : ∀ b, Tk (restrictH hp L) μ b → Tk hp μ b := by
    rintro b ⟨l, blk, o, hg, hm⟩
    rw [hget_restrict] at hg
    split at hg
    · exact ⟨l, blk, o, hg, hm⟩
    · cases hg
  have hplc : ∀ b, Tk (restrictH hp L) μ b ∨ w.heap.size ≤ b → p.T b ∨ p.w0.heap.size ≤ b := fun b hb => hb.elim (fun hb => tk_par h (hsub b hb)) fun hb => .inr (by omega)
  have hextF : Ext F w w' := ext_F hlr k
  -- an old block that is not in the part
  have hold : ∀ l blk b o, ¬ (l ∈ L ∨ l = id) → hget hp l = some blk → μ l = some (.pl b o) → b < w.heap.size ∧ ¬ Tk (restrictH hp L) μ b ∧ ¬ F b := by
    intro l blk b o hl hg hm
    obtain ⟨q, h1, h2, h3⟩ := h.blk l blk hg
    rw [hm, Option.some.injEq] at h1; subst h1
    refine ⟨h3.lt, ?_, h2.1⟩
    rintro ⟨l2, blk2, o2, hg2, hm2⟩
    rw [hget_restrict] at hg2
    split at hg2
    · rename_i hin
      exact h.inj l l2 blk blk2 b o b o2 (fun e => hl (.inl (e ▸ hin))) hg hg2 hm hm2 rfl
    · cases hg2
  refine ⟨h.ext.trans (k.ext.mono fun b hb => ⟨by have := hb.1; simp only; omega, fun ht => ?_⟩), fun b hb => k.sub b (h.sub b hb), fun b hb => ⟨(k.fin b hb).1, ?_⟩, fun l blk hg => ?_, fun l l' b1 b2 b o b' o' hne h1 h2 m1 m2 => ?_⟩
  · rcases tk_par h (hsub b ht) with h1 | h1
    · exact hb.2 h1
    · have := hb.1; omega
  · rcases (k.fin b hb).2 with h1 | h1 | h1
    · exact (h.fin b h1).2
    · exact .inr (tk_par h (hsub b h1))
    · simp only at h1; exact .inr (.inr (by omega))
  · rw [hG] at hg
    split at hg
    · obtain ⟨q, h1, h2, h3⟩ := k.blk l blk hg
      refine ⟨q, h1, ?_, h3⟩
      cases q with
      | nil => trivial
      | pl b o => exact ⟨h2.1, hplc b h2.2⟩
    · rename_i hl
      obtain ⟨q, h1, h2, h3⟩ := h.blk l blk hg
      refine ⟨q, hμ _ _ h1, ?_, h3.mono hextF k.sub hμ ?_⟩
      · cases q with
        | nil => trivial
        | pl b o =>
          obtain ⟨e1, e2, e3⟩ := hold l blk b o hl hg h1
          refine ⟨fun hf => ?_, h2.2⟩
          rcases (k.fin b hf).2 with h4 | h4 | h4
          · exact e3 h4
          · exact e2 h4
          · simp only at h4; omega
      · intro b o hq; subst hq
        obtain ⟨e1, e2, e3⟩ := hold l blk b o hl hg h1
        exact k.ext.keep b ⟨e1, e2⟩
  · have mix : ∀ l l' b1 b2 b o b' o', (l ∈ L ∨ l = id) → ¬ (l' ∈ L ∨ l' = id) → hget hp' l = some b1 → hget hp l' = some b2 → μ' l = some (.pl b o) → μ' l' = some (.pl b' o') → b ≠ b' := by
      intro l l' b1 b2 b o b' o' hin hout h1 h2 m1 m2
      have hm2 : μ l' = some (.pl b' o') := by rw [← hN l' fun e => hout (.inr e)]; exact m2
      obtain ⟨e1, e2, e3⟩ := hold l' b2 b' o' hout h2 hm2
      obtain ⟨q, f1, f2, f3⟩ := k.blk l b1 h1
      rw [m1, Option.some.injEq] at f1; subst f1
      intro he; subst he
      rcases f2.2 with h4 | h4
      · exact e2 h4
      · simp only at h4; omega
    rw [hG] at h1 h2
    by_cases c1 : l ∈ L ∨ l = id
    · rw [if_pos c1] at h1
      by_cases c2 : l' ∈ L ∨ l' = id
      · rw [if_pos c2] at h2; exact k.inj l l' b1 b2 b o b' o' hne h1 h2 m1 m2
      · rw [if_neg c2] at h2; exact mix l l' b1 b2 b o b' o' c1 c2 h1 h2 m1 m2
    · rw [if_neg c1] at h1
      by_cases c2 : l' ∈ L ∨ l' = id
      · rw [if_pos c2] at h2; exact fun e => mix l' l b2 b1 b' o' b o c2 c1 h2 h1 m2 m1 e.symm
      · rw [if_neg c2] at h2
        have f1 : μ l = some (.pl b o) := by rw [← hN l fun e => c1 (.inr e)]; exact m1
        have f2 : μ l' = some (.pl b' o') := by rw [← hN l' fun e => c2 (.inr e)]; exact m2
        exact h.inj l l' b1 b2 b o b' o' hne h1 h2 f1 f2

/-! ### Which operation must come before which -/

def binding (e : Edge) : Bool := Region.binds .any e

inductive Bef (ops : Array Oper) : Nat → Nat → Prop
  | edge {i k : Nat} {o : Oper} {e : Edge} (hk : ops[k]? = some o) (he : e ∈ o.after) (hb : binding e = true) (hi : e.on = i) : Bef ops i k
  | trans {i j k : Nat} (h1 : Bef ops i j) (h2 : Bef ops j k) : Bef ops i k

def bmOne (acc : List Nat) (o : Oper) : Nat := o.after.toList.foldl (fun s e => if binding e then s ||| (1 <<< e.on) ||| acc.getD e.on 0 else s) 0

/-- For each operation, the numbers of those that must come before it, as bits (a list in the order of the text). -/
def bms : List Oper → List Nat → List Nat
  | [], acc => acc
  | o :: r, acc => bms r (acc ++ [bmOne acc o])

theorem testBit_shift (n i : Nat) : (1 <<< n).testBit i = decide (n = i) := by
  rw [Nat.shiftLeft_eq, Nat.one_mul]; exact Nat.testBit_two_pow

theorem bmOne_bef {ops : Array Oper} {acc : List Nat} {k : Nat} {o : Oper} (ho : ops[k]? = some o) (hacc : ∀ j i, (acc.getD j 0).testBit i = true → Bef ops i j) : ∀ i, (bmOne acc o).testBit i = true → Bef ops i k := by
  unfold bmOne
  suffices ∀ (l : List Edge) (s : Nat), (∀ e ∈ l, e ∈ o.after) → (∀ i, s.testBit i = true → Bef ops i k) → ∀ i, (l.foldl (fun s e => if binding e then s ||| (1 <<< e.on) ||| acc.getD e.on 0 else s) s).testBit i = true → Bef ops i k from
    this o.after.toList 0 (fun e he => by simpa using he) (fun i h => by simp at h)
  intro l
  induction l with
  | nil => intro s _ hs i h; exact hs i h
  | cons e l ih =>
    intro s hl hs i h
    simp only [List.foldl_cons] at h
    refine ih _ (fun e' he' => hl e' (by simp [he'])) ?_ i h
    intro i' h'
    split at h'
    · rename_i hb
      have hedge : Bef ops e.on k := .edge ho (hl e (by simp)) hb rfl
      simp only [Nat.testBit_or, Bool.or_eq_true] at h'
      rcases h' with (h1 | h1) | h1
      · exact hs i' h1
      · rw [testBit_shift] at h1
        have := of_decide_eq_true h1; subst this
        exact hedge
      · exact .trans (hacc _ _ h1) hedge
    · exact hs i' h'

theorem bms_bef {ops : Array Oper} : ∀ (l : List Oper) (acc : List Nat), (∀ j, l[j]? = ops[acc.length + j]?) → (∀ j i, (acc.getD j 0).testBit i = true → Bef ops i j) → ∀ j i, ((bms l acc).getD j 0).testBit i = true → Bef ops i j
  | [], acc, _, h => h
  | o :: r, acc, hl, h => by
    have ho : ops[acc.length]? = some o := by simpa using (hl 0).symm
    refine bms_bef r _ (fun j => ?_) ?_
    · have := hl (j + 1)
      simpa [Nat.add_assoc, Nat.add_comm 1 j] using this
    · intro j i hb
      by_cases hj : j < acc.length
      · refine h j i ?_
        simpa [List.getD, List.getElem?_append, hj] using hb
      · by_cases hj2 : j = acc.length
        · subst hj2
          refine bmOne_bef ho h i ?_
          simpa [List.getD, List.getElem?_append] using hb
        · have : (acc ++ [bmOne acc o]).getD j 0 = 0 := by
            simp only [List.getD]; rw [List.getElem?_eq_none (by simp; omega)]; rfl
          rw [this] at hb; simp at hb

/-- What has been carried out is closed under 'before'. -/
def Closed (ops : Array Oper) (S : Nat → Bool) : Prop := ∀ k o e, S k = true → ops[k]? = some o → e ∈ o.after → binding e = true → S e.on = true

theorem Closed.bef {ops : Array Oper} {S : Nat → Bool} (h : Closed ops S) {i k : Nat} (hb : Bef ops i k) : S k = true → S i = true := by
  induction hb with
  | edge hk he hb hi => intro hs; rw [← hi]; exact h _ _ _ hs hk he hb
  | trans _ _ ih1 ih2 => intro hs; exact ih1 (ih2 hs)

end
end Go.Sx
