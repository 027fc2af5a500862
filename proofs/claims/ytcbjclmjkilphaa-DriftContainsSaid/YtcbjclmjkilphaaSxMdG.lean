/- Part of a proof of the given statements of this seat (SxMdG): no conditions beyond those typed here. -/
import Derived.Test.YtcbjclmjkilphaaSxMdE
set_option linter.unusedVariables false
set_option linter.unusedSimpArgs false
namespace Go.Proofs.Ytcbjclmjkilphaa
open Go.Sx
set_option maxRecDepth 100000
variable {lo hi st er le mo r : Int} {sp : Bool}

/-- What a function returns: kept behind a word, for the elaborator looks through all others. -/
structure Says (k : Nat) (ss : List SV) (r : SV) : Prop where
  ok : (T1 k ss).sat Try.prog (· = r)

/-- From a told tree to a contract. -/
theorem ctr_of {k : Nat} {c : Ctr} (hf : (Try.prog.funcs[k]?).isSome = true) (hb : (fnOf Try.prog k).body.isSome = true) (h : ∀ ss r, (c ss).ev r → Says k ss r) : CtrOK Try.prog k c :=
  ctrOK_of C1_ok D1_ok (fn := fnOf Try.prog k) (body := bodyOf Try.prog k) (by
    unfold fnOf
    cases hk : Try.prog.funcs[k]? with
    | none => rw [hk] at hf; cases hf
    | some f => rfl) (by
    unfold bodyOf
    cases hk : (fnOf Try.prog k).body with
    | none => rw [hk] at hb; cases hb
    | some f => rfl) fun ss r hr => ⟨200, .nil, (h ss r hr).ok⟩

theorem inR_w (h : okM lo hi st er le mo) : (decide ((if w64 (lo - st) > 1 then w64 (lo - st) else 1) ≥ le) && decide (w64 (hi + st) ≤ mo)) = inR lo hi st le mo := by
  have h1 := h.lo; have h2 := h.st
  rw [w64_of (n := lo - st) (by omega) (by omega), w64_of (n := hi + st) (by omega) (by omega), mx]
  rfl

theorem s11 : Says 16 [mon lo hi st er le mo sp] (bv (vB lo hi st er le mo sp)) := by
  constructor
  rw [X11_eq]; unfold X11
  show bv _ = bv _
  congr 1
  by_cases h : okM lo hi st er le mo
  · rw [inR_w h]
    have := h.lo; have := h.st; have := h.er; have := h.le
    unfold vB
    rw [okB_iff.2 h, show (decide (1 ≤ le) && decide (le ≤ mo) && decide (mo ≤ 1000000) && decide (1 ≤ lo) && decide (lo ≤ hi) && decide (hi ≤ 1000000) && (decide (0 ≤ st) && decide (st ≤ 1000000) && decide (0 ≤ er) && decide (er ≤ 1000000))) = true by simp; omega]
  · have h' : okB lo hi st er le mo = false := by rw [← Bool.not_eq_true, okB_iff]; exact h
    unfold vB
    rw [h', Bool.false_and, Bool.and_eq_false_iff]
    refine .inl ?_
    rw [← Bool.not_eq_true]
    intro hc
    simp only [Bool.and_eq_true, decide_eq_true_eq] at hc
    exact h ⟨by omega, by omega, by omega, by omega⟩

theorem s12 : Says 17 [mon lo hi st er le mo sp] (bv (vB lo hi st er le mo sp)) := by
  constructor
  rw [X12_eq]; unfold X12
  by_cases h : okM lo hi st er le mo
  · rw [inR_w h]
    have := h.lo; have := h.st; have := h.er; have := h.le
    unfold vB
    rw [okB_iff.2 h]
    refine ⟨fun hc => ?_, fun hc => ⟨fun hd => ?_, fun hd => rfl⟩⟩
    · simp only [Bool.or_eq_true, decide_eq_true_eq] at hc; omega
    · simp only [Bool.or_eq_true, decide_eq_true_eq] at hd; omega
  · have h' : okB lo hi st er le mo = false := by rw [← Bool.not_eq_true, okB_iff]; exact h
    unfold vB
    rw [h', Bool.false_and]
    refine ⟨fun hc => rfl, fun hc => ⟨fun hd => rfl, fun hd => ?_⟩⟩
    simp only [Bool.or_eq_false_iff, decide_eq_false_iff_not] at hc hd
    exact (h ⟨by omega, by omega, by omega, by omega⟩).elim

def zif (c : Bool) (x : Int) : Int := bif c then x else 0
def zerr (c : Bool) : Int := bif c then 0 else 1
noncomputable def newR (lo hi st er le mo : Int) : SV := .agg [iv (zif (okB lo hi st er le mo) lo), iv (zif (okB lo hi st er le mo) hi), iv (zif (okB lo hi st er le mo) st), iv (zif (okB lo hi st er le mo) er), iv (zif (okB lo hi st er le mo) le), iv (zif (okB lo hi st er le mo) mo), bv (okB lo hi st er le mo && !inR lo hi st le mo), iv (zerr (okB lo hi st er le mo))]

theorem s13 : Says 18 [mon lo hi st er le mo sp] (newR lo hi st er le mo) := by
  constructor
  rw [X13_eq]; unfold X13
  by_cases h : okM lo hi st er le mo
  · rw [inR_w h]
    have := h.lo; have := h.st; have := h.er; have := h.le
    unfold newR
    rw [okB_iff.2 h]
    rw [show (decide (1 ≤ le) && decide (le ≤ mo) && decide (mo ≤ 1000000) && decide (1 ≤ lo) && decide (lo ≤ hi) && decide (hi ≤ 1000000) && (decide (0 ≤ st) && decide (st ≤ 1000000) && decide (0 ≤ er) && decide (er ≤ 1000000))) = true by simp; omega]
    exact ⟨fun hc => by simp at hc, fun _ => rfl⟩
  · have h' : okB lo hi st er le mo = false := by rw [← Bool.not_eq_true, okB_iff]; exact h
    unfold newR
    rw [h']
    refine ⟨fun hc => rfl, fun hc => ?_⟩
    simp at hc
    exact (h ⟨by omega, by omega, by omega, by omega⟩).elim

theorem s14 : Says 19 [mon lo hi st er le mo sp] (newR lo hi st er le mo) := by
  constructor
  rw [X14_eq]; unfold X14
  by_cases h : okM lo hi st er le mo
  · rw [inR_w h]
    have := h.lo; have := h.st; have := h.er; have := h.le
    unfold newR
    rw [okB_iff.2 h]
    refine ⟨fun hc => ?_, fun hc => ⟨fun hd => ?_, fun hd => ⟨fun he => by simp at he, fun he => rfl⟩⟩⟩
    · simp only [Bool.or_eq_true, decide_eq_true_eq] at hc; omega
    · simp only [Bool.or_eq_true, decide_eq_true_eq] at hd; omega
  · have h' : okB lo hi st er le mo = false := by rw [← Bool.not_eq_true, okB_iff]; exact h
    unfold newR
    rw [h']
    refine ⟨fun hc => ⟨fun _ => rfl, fun h => by cases h⟩, fun hc => ⟨fun hd => ⟨fun _ => rfl, fun h => by cases h⟩, fun hd => ?_⟩⟩
    simp only [Bool.or_eq_false_iff, decide_eq_false_iff_not] at hc hd
    exact (h ⟨by omega, by omega, by omega, by omega⟩).elim

noncomputable def outR (lo hi st : Int) : SV := .agg [iv (oLo lo st), iv (hi + st)]
theorem s17 (h : okM lo hi st er le mo) : Says 22 [mon lo hi st er le mo sp] (outR lo hi st) := by
  constructor
  have := h.lo; have := h.st
  rw [X17_eq]; unfold X17
  rw [w64_of (n := lo - st) (by omega) (by omega), w64_of (n := hi + st) (by omega) (by omega), mx]
  rfl
theorem s18 (h : okM lo hi st er le mo) : Says 23 [mon lo hi st er le mo sp] (outR lo hi st) := by
  constructor
  have := h.lo; have := h.st
  rw [X18_eq]; unfold X18
  rw [w64_of (n := lo - st) (by omega) (by omega), w64_of (n := hi + st) (by omega) (by omega), mx]
  rfl

noncomputable def missR (lo hi st er le mo : Int) (sp : Bool) : SV := mon (uLo lo st sp) (uHi hi st sp) st er le mo (uSp lo hi st le mo sp)

theorem s16 (h : okM lo hi st er le mo) : Says 21 [mon lo hi st er le mo sp] (missR lo hi st er le mo sp) := by
  constructor
  have := h.lo; have := h.st
  rw [X16_eq]; unfold X16
  refine ⟨fun hs => ?_, fun hs => ?_⟩
  · subst hs; simp [missR, uLo, uHi, uSp, mon, Tree.sat]
  · subst hs
    simp (disch := omega) only [w64_of, mx]
    simp [missR, uLo, uHi, uSp, mon, Tree.sat, oLo, inR]
    rfl
theorem s22 (h : okM lo hi st er le mo) : Says 27 [mon lo hi st er le mo sp] (missR lo hi st er le mo sp) := by
  constructor
  have := h.lo; have := h.st
  rw [X22_eq]; unfold X22
  refine ⟨fun hs => ?_, fun hs => ⟨fun hc => ?_, fun hc => ?_⟩⟩
  · subst hs; simp [missR, uLo, uHi, uSp, mon, Tree.sat]
  · simp (disch := omega) only [w64_of, mx] at hc
    simp at hc; omega
  · subst hs
    simp (disch := omega) only [w64_of, mx]
    simp [missR, uLo, uHi, uSp, mon, Tree.sat, oLo, inR]
    rfl
theorem mxx {a b : Int} : (if a > b then a else b) = max b a := by omega
theorem mnn {a b : Int} : (if a < b then a else b) = min b a := by omega
theorem gB_iff : gB lo hi st er r = true ↔ -4000000 ≤ r ∧ r ≤ 4000000 ∧ max (oLo lo st) (r - er) ≤ min (hi + st) (r + er) := by unfold gB; rw [decide_eq_true_eq]
theorem gB_not : gB lo hi st er r = false ↔ ¬ (-4000000 ≤ r ∧ r ≤ 4000000 ∧ max (oLo lo st) (r - er) ≤ min (hi + st) (r + er)) := by unfold gB; rw [decide_eq_false_iff_not]

theorem s20 (h : okM lo hi st er le mo) : Says 25 [mon lo hi st er le mo sp, iv r] (bv (gB lo hi st er r)) := by
  constructor
  have := h.lo; have := h.st; have := h.er
  rw [X20_eq]; unfold X20
  refine ⟨fun hc => ?_, fun hc => ?_⟩
  · rw [show gB lo hi st er r = false by rw [gB_not]; simp at hc; omega]; rfl
  · simp at hc
    simp (disch := omega) only [w64_of, mxx, mnn]
    show bv _ = bv _
    congr 1
    rw [Bool.eq_iff_iff, gB_iff, decide_eq_true_eq]
    unfold oLo; omega
theorem s19 (h : okM lo hi st er le mo) : Says 24 [mon lo hi st er le mo sp, iv r] (bv (gB lo hi st er r)) := by
  constructor
  have := h.lo; have := h.st; have := h.er
  rw [X19_eq]; unfold X19
  refine ⟨fun hc => ?_, fun hc => ?_⟩
  · rw [show gB lo hi st er r = false by rw [gB_not]; simp at hc; omega]; rfl
  · simp at hc
    simp (disch := omega) only [w64_of, mxx, mnn]
    show bv _ = bv _
    congr 1
    rw [Bool.eq_iff_iff, gB_iff]
    simp only [Bool.and_eq_true, Bool.not_eq_true', decide_eq_true_eq, Bool.and_true, Bool.and_eq_false_iff, beq_eq_false_iff_ne]
    unfold oLo; omega

noncomputable def seeR (lo hi st er le mo : Int) (sp : Bool) (r : Int) : SV := mon (vLo lo hi st er sp r) (vHi lo hi st er sp r) st er le mo (vSp lo hi st er le mo sp r)

theorem see_fin (h : okM lo hi st er le mo) (hr : -4000000 ≤ r ∧ r ≤ 4000000) (hg : gB lo hi st er r = true) : 
    seeR lo hi st er le mo false r = mon (max (oLo lo st) (r - er)) (min (hi + st) (r + er)) st er le mo (!inR (max (oLo lo st) (r - er)) (min (hi + st) (r + er)) st le mo) := by
  simp [seeR, vLo, vHi, vSp, hg]
theorem see_no (hg : gB lo hi st er r = false) : seeR lo hi st er le mo false r = mon lo hi st er le mo true := by
  simp [seeR, vLo, vHi, vSp, hg]
theorem see_sp : seeR lo hi st er le mo true r = mon lo hi st er le mo true := by
  simp [seeR, vLo, vHi, vSp]

theorem s15 (h : okM lo hi st er le mo) : Says 20 [mon lo hi st er le mo sp, iv r] (seeR lo hi st er le mo sp r) := by
  constructor
  have := h.lo; have := h.st; have := h.er
  rw [X15_eq]; unfold X15
  refine ⟨fun hs => ?_, fun hs => ⟨fun hc => ⟨fun _ => ?_, fun h => by cases h⟩, fun hc => ⟨fun hd => ?_, fun hd => ?_⟩⟩⟩
  · subst hs; rw [see_sp]; rfl
  · subst hs
    rw [see_no]; · rfl
    rw [gB_not]; simp at hc; omega
  · subst hs
    simp at hc
    simp (disch := omega) only [w64_of, mxx, mnn] at hd
    rw [see_no]; · rfl
    rw [gB_not]; simp at hd; unfold oLo; omega
  · subst hs
    simp at hc
    simp (disch := omega) only [w64_of, mxx, mnn] at hd ⊢
    have hg : gB lo hi st er r = true := by rw [gB_iff]; simp at hd; unfold oLo; omega
    rw [see_fin h (by omega) hg]
    exact mon_ext rfl rfl rfl

theorem s21 (h : okM lo hi st er le mo) : Says 26 [mon lo hi st er le mo sp, iv r] (seeR lo hi st er le mo sp r) := by
  constructor
  have := h.lo; have := h.st; have := h.er
  rw [X21_eq]; unfold X21
  refine ⟨fun hs => ?_, fun hs => ⟨fun hc => ⟨fun _ => ?_, fun h => by cases h⟩, fun hc => ⟨fun hd => ?_, fun hd => ?_⟩⟩⟩
  · subst hs; rw [see_sp]; rfl
  · subst hs
    rw [see_no]; · rfl
    rw [gB_not]; simp at hc; omega
  · subst hs
    simp at hc
    simp (disch := omega) only [w64_of, mxx, mnn] at hd
    rw [see_no]; · rfl
    rw [gB_not]; simp at hd; unfold oLo; omega
  · subst hs
    simp at hc
    simp (disch := omega) only [w64_of, mxx, mnn] at hd ⊢
    have hg : gB lo hi st er r = true := by rw [gB_iff]; simp at hd; unfold oLo; omega
    rw [see_fin h (by omega) hg]
    exact mon_ext rfl rfl rfl

/-! ### As contracts -/

noncomputable def cMon (f : Int → Int → Int → Int → Int → Int → Bool → Tr SV) : Ctr := fun ss => match ss with
  | [.agg [.d (.x (.int .i64 lo)), .d (.x (.int .i64 hi)), .d (.x (.int .i64 st)), .d (.x (.int .i64 er)), .d (.x (.int .i64 le)), .d (.x (.int .i64 mo)), .d (.x (.bool sp))]] => f lo hi st er le mo sp
  | _ => .fail
noncomputable def cMonR (f : Int → Int → Int → Int → Int → Int → Bool → Int → Tr SV) : Ctr := fun ss => match ss with
  | [.agg [.d (.x (.int .i64 lo)), .d (.x (.int .i64 hi)), .d (.x (.int .i64 st)), .d (.x (.int .i64 er)), .d (.x (.int .i64 le)), .d (.x (.int .i64 mo)), .d (.x (.bool sp))], .d (.x (.int .i64 r))] => f lo hi st er le mo sp r
  | _ => .fail

theorem cMon_ok {k : Nat} {f : Int → Int → Int → Int → Int → Int → Bool → Tr SV} (hf : (Try.prog.funcs[k]?).isSome = true) (hb : (fnOf Try.prog k).body.isSome = true)
    (h : ∀ lo hi st er le mo sp r, (f lo hi st er le mo sp).ev r → Says k [mon lo hi st er le mo sp] r) : CtrOK Try.prog k (cMon f) := by
  refine ctr_of hf hb fun ss r hr => ?_
  unfold cMon at hr
  split at hr
  · exact h _ _ _ _ _ _ _ _ hr
  · exact hr.elim
theorem cMonR_ok {k : Nat} {f : Int → Int → Int → Int → Int → Int → Bool → Int → Tr SV} (hf : (Try.prog.funcs[k]?).isSome = true) (hb : (fnOf Try.prog k).body.isSome = true)
    (h : ∀ lo hi st er le mo sp q r, (f lo hi st er le mo sp q).ev r → Says k [mon lo hi st er le mo sp, iv q] r) : CtrOK Try.prog k (cMonR f) := by
  refine ctr_of hf hb fun ss r hr => ?_
  unfold cMonR at hr
  split at hr
  · exact h _ _ _ _ _ _ _ _ _ hr
  · exact hr.elim

noncomputable def cValid : Ctr := cMon fun lo hi st er le mo sp => .ret (bv (vB lo hi st er le mo sp))
noncomputable def cNew : Ctr := cMon fun lo hi st er le mo sp => .ret (newR lo hi st er le mo)
noncomputable def cOut : Ctr := cMon fun lo hi st er le mo sp => .need (okM lo hi st er le mo) (.ret (outR lo hi st))
noncomputable def cMiss : Ctr := cMon fun lo hi st er le mo sp => .need (okM lo hi st er le mo) (.ret (missR lo hi st er le mo sp))
noncomputable def cSee : Ctr := cMonR fun lo hi st er le mo sp r => .need (okM lo hi st er le mo) (.ret (seeR lo hi st er le mo sp r))
noncomputable def cAgr : Ctr := cMonR fun lo hi st er le mo sp r => .need (okM lo hi st er le mo) (.ret (bv (gB lo hi st er r)))


end Go.Proofs.Ytcbjclmjkilphaa
