/- Part of a proof of the given statements of this seat (SxFrLc, SxFrLd, SyLaw, SxFrGl, SxFrG6): no conditions beyond those typed here. -/
import Derived.Test.YtmdbfhkineaheaaDoorSz06
import Derived.Test.YtmdbfhkineaheaaDoorSz07
import Derived.HandedShaped
import Derived.Handed
import Derived.LaidMore
import Derived.LaidLaws
import Derived.Test.YtmdbfhkineaheaaDoorSz03
import Derived.Test.YtmdbfhkineaheaaDoorSz04
import Derived.Lib.LaidTab
import Derived.Stop.LaidErr
import Derived.Shelf.Vars
import Derived.MakeChecks
import Derived.Test.YtmdbfhkineaheaaDoorRows
import Derived.Test.YtmdbfhkineaheaaDoorChecked
import Derived.Test.YtmdbfhkineaheaaDoorCards
import Derived.Test.YtmdbfhkineaheaaDoorTie
import Derived.SevenTiedAt
set_option linter.unusedVariables false
set_option linter.unusedSimpArgs false
set_option linter.unusedSectionVars false

namespace Go.Proofs.YtmdbfhkineaheaaDoor
open Go.Sx
set_option maxRecDepth 100000

/-! ### FractionField -/

theorem VF.z : VF 0 1 := ⟨⟨by decide, by decide⟩, by decide, by decide⟩
theorem VF.o : VF 1 1 := ⟨⟨by decide, by decide⟩, by decide, by decide⟩
theorem okPair {n : Nat} {ds : List DV} (h : okT Tryd.prog (n + 3) 22 ds) : ∃ a b : Int, I64 a ∧ I64 b ∧ ds = [.x (.int .i64 a), .x (.int .i64 b)] := by
  obtain ⟨ks, e1, rfl, e3⟩ := okT_ints (c := 2) (by simp only [cntI, Tryd.underlying22, Tryd.underlying3]; rfl) h
  match ks, e1 with
  | [a, b], _ => exact ⟨a, b, e3 a (by simp), e3 b (by simp), rfl⟩

end Go.Proofs.YtmdbfhkineaheaaDoor

namespace Go.Proofs.YtmdbfhkineaheaaDoor
open Go.Sx
set_option maxRecDepth 100000

/-! ### FractionOrder -/

theorem num_pos_iff (q : Rat) : (q.num > 0) ↔ 0 < q := by rw [Rat.lt_iff]; simp
theorem num_neg_iff (q : Rat) : (q.num < 0) ↔ q < 0 := by rw [Rat.lt_iff]; simp
theorem cmpR_lt {p q : Rat} (h : p < q) : cmpR p q = -1 := if_pos h
theorem cmpR_gt {p q : Rat} (h : q < p) : cmpR p q = 1 := by
  unfold cmpR
  rw [if_neg (by grind), if_neg (by grind)]
theorem cmpR_self (p : Rat) : cmpR p p = 0 := by
  unfold cmpR
  rw [if_neg Rat.lt_irrefl, if_pos rfl]
theorem cmpR_eq0 {p q : Rat} : (cmpR p q == 0) = decide (p = q) := by
  unfold cmpR
  by_cases h : p < q
  · rw [if_pos h, decide_eq_false (by grind)]; rfl
  · rw [if_neg h]
    by_cases e : p = q
    · rw [if_pos e, decide_eq_true e]; rfl
    · rw [if_neg e, decide_eq_false e]; rfl
theorem cmp_congr {p q s t : Rat} (h1 : s < t ↔ p < q) (h2 : t < s ↔ q < p) : cmpR s t = cmpR p q := by
  by_cases h : p < q
  · rw [cmpR_lt h, cmpR_lt (h1.2 h)]
  · by_cases k : q < p
    · rw [cmpR_gt k, cmpR_gt (h2.2 k)]
    · have e1 : p = q := by grind
      have e2 : s = t := by
        have := mt h1.1 h
        have := mt h2.1 k
        grind
      subst e1; subst e2
      rw [cmpR_self, cmpR_self]
theorem cmp_add (p q r : Rat) : cmpR (p + r) (q + r) = cmpR p q := cmp_congr Rat.add_lt_add_right Rat.add_lt_add_right
theorem cmp_mul {p q r : Rat} (h : 0 < r) : cmpR (p * r) (q * r) = cmpR p q := cmp_congr (Rat.mul_lt_mul_right h) (Rat.mul_lt_mul_right h)
theorem feq {p q : Rat} : (p.num == q.num && ((p.den : Int) == (q.den : Int) && true)) = decide (p = q) := by
  rw [Bool.eq_iff_iff]
  simp only [Bool.and_eq_true, beq_iff_eq, decide_eq_true_eq, and_true]
  exact ⟨fun h => Rat.ext h.1 (by omega), fun h => by subst h; exact ⟨rfl, rfl⟩⟩
theorem sub_gt (p q : Rat) : (rE (p - q) == 0 && !decide (rN (p - q) > 0) == decide (q < p)) = false := by
  by_cases h : fitsR (p - q)
  · rw [rE_of h, rN_of h]
    have : decide ((p - q).num > 0) = decide (q < p) := by
      rw [decide_eq_decide, num_pos_iff]; grind
    rw [this]; simp
  · rw [rE_no h]; rfl
theorem sub_lt (p q : Rat) : (rE (p - q) == 0 && !decide (rN (p - q) < 0) == decide (p < q)) = false := by
  by_cases h : fitsR (p - q)
  · rw [rE_of h, rN_of h]
    have : decide ((p - q).num < 0) = decide (p < q) := by
      rw [decide_eq_decide, num_neg_iff]; grind
    rw [this]; simp
  · rw [rE_no h]; rfl
theorem both_fit {s t : Rat} (h : (rE s == 0 && rE t == 0) = true) : fitsR s ∧ fitsR t := by
  simp only [Bool.and_eq_true, beq_iff_eq] at h
  constructor
  · exact Decidable.byContradiction fun k => by rw [rE_no k] at h; exact absurd h.1 (by decide)
  · exact Decidable.byContradiction fun k => by rw [rE_no k] at h; exact absurd h.2 (by decide)
theorem vf_r {s : Rat} (h : fitsR s) : VF (rN s) (rD s) := by rw [rN_of h, rD_of h]; exact VF.of h
theorem ratOf_r {s : Rat} (h : fitsR s) : ratOf (rN s) (rD s) = s := by rw [rN_of h, rD_of h]; exact ratOf_rat s
theorem ord_add (p q r : Rat) : (rE (p + r) == 0 && rE (q + r) == 0 && cmpR (ratOf (rN (p + r)) (rD (p + r))) (ratOf (rN (q + r)) (rD (q + r))) != cmpR p q) = false := by
  cases h : (rE (p + r) == 0 && rE (q + r) == 0) with
  | false => rfl
  | true =>
    obtain ⟨h1, h2⟩ := both_fit h
    rw [ratOf_r h1, ratOf_r h2, cmp_add]; simp
theorem ord_mul (p q r : Rat) : (decide (r.num > 0) && rE (p * r) == 0 && rE (q * r) == 0 && cmpR (ratOf (rN (p * r)) (rD (p * r))) (ratOf (rN (q * r)) (rD (q * r))) != cmpR p q) = false := by
  cases h0 : decide (r.num > 0) with
  | false => rfl
  | true =>
    have h0 := (num_pos_iff r).1 (of_decide_eq_true h0)
    rw [Bool.true_and]
    cases h : (rE (p * r) == 0 && rE (q * r) == 0) with
    | false => rfl
    | true =>
      obtain ⟨h1, h2⟩ := both_fit h
      rw [ratOf_r h1, ratOf_r h2, cmp_mul h0]; simp
theorem need_add (p q r : Rat) : ((rE (p + r) == 0 && rE (q + r) == 0) = true → VF (rN (p + r)) (rD (p + r)) ∧ VF (rN (q + r)) (rD (q + r))) = True :=
  eq_true fun h => ⟨vf_r (both_fit h).1, vf_r (both_fit h).2⟩
theorem need_mul (p q r : Rat) (b : Prop) : (b ∧ (decide (r.num > 0) && rE (p * r) == 0 && rE (q * r) == 0) = true → VF (rN (p * r)) (rD (p * r)) ∧ VF (rN (q * r)) (rD (q * r))) = True :=
  eq_true fun h => by
    have h1 := h.2
    rw [Bool.and_assoc, Bool.and_eq_true] at h1
    exact ⟨vf_r (both_fit h1.2).1, vf_r (both_fit h1.2).2⟩
theorem tr_gt (p q r : Rat) : (decide (p ≤ q) && decide (q ≤ r) && decide (r < p)) = false := by
  rw [Bool.and_eq_false_iff, Bool.and_eq_false_iff]
  by_cases h1 : p ≤ q
  · by_cases h2 : q ≤ r
    · right; exact decide_eq_false (by grind)
    · left; right; exact decide_eq_false h2
  · left; left; exact decide_eq_false h1

theorem order_sat {x0 x1 y0 y1 z0 z1 : Int} (hx0 : I64 x0) (hx1 : I64 x1) (hy0 : I64 y0) (hy1 : I64 y1) (hz0 : I64 z0) (hz1 : I64 z1) :
    Sat Tryd.prog (TM .nil 6 [.agg [iv x0, iv x1], .agg [iv y0, iv y1], .agg [iv z0, iv z1]]) (· = bv true) := by
  constructor
  rw [LOrder_eq]; unfold LOrder
  obtain ⟨p, ep⟩ : ∃ p, mdQ x0 x1 = p := ⟨_, rfl⟩
  obtain ⟨q, eq⟩ : ∃ q, mdQ y0 y1 = q := ⟨_, rfl⟩
  obtain ⟨r, er⟩ : ∃ r, mdQ z0 z1 = r := ⟨_, rfl⟩
  have hp : fitsR p := ep ▸ mdQ_fits x0 x1
  have hq : fitsR q := eq ▸ mdQ_fits y0 y1
  have hr : fitsR r := er ▸ mdQ_fits z0 z1
  have n1 : mN x0 x1 = p.num := by unfold mN; rw [ep]
  have n2 : mN y0 y1 = q.num := by unfold mN; rw [eq]
  have n3 : mN z0 z1 = r.num := by unfold mN; rw [er]
  have d1 : mD x0 x1 = p.den := by unfold mD; rw [ep]
  have d2 : mD y0 y1 = q.den := by unfold mD; rw [eq]
  have d3 : mD z0 z1 = r.den := by unfold mD; rw [er]
  have g3 : decide (mN z0 z1 > 0) = decide (r.num > 0) := by rw [decide_eq_decide, n3]
  simp only [LOrder_q1, LOrder_q2, LOrder_q3, LOrder_q4, LOrder_q5, LOrder_q6, LOrder_q7, LOrder_q8, LOrder_q9, LOrder_q10, LOrder_q11, LOrder_q12, LOrder_q13, LOrder_q14, LOrder_q15, LOrder_q16, LOrder_q17, LOrder_q18, LOrder_q19, LOrder_q20, LOrder_q21, LOrder_q22, LOrder_q23, LOrder_q24, LOrder_q25, LOrder_q26, LOrder_q27, LOrder_q28, LOrder_q29, LOrder_q30, LOrder_q31, LOrder_q32, g3]
  simp only [n1, n2, n3, d1, d2, d3, ratOf_rat]
  clear n1 n2 n3 d1 d2 d3 g3 ep eq er
  have vp := VF.of hp
  have vq := VF.of hq
  have vr := VF.of hr
  have i0 : (I64 x0 ∧ I64 x1) = True := eq_true ⟨hx0, hx1⟩
  have i1 : (I64 y0 ∧ I64 y1) = True := eq_true ⟨hy0, hy1⟩
  have i2 : (I64 z0 ∧ I64 z1) = True := eq_true ⟨hz0, hz1⟩
  clear hx0 hx1 hy0 hy1 hz0 hz1
  have t1 := tr_gt p q r
  have t2 := tr_gt r q p
  have t2' : (decide (q ≤ p) && decide (r ≤ q) && decide (p < r)) = false := by
    rw [Bool.and_comm (decide (q ≤ p))]; exact t2
  simp only [cmpR_pos, cmpR_neg, cmpR_le, cmpR_ge, cmpR_eq0, feq, cmpR_self, sub_gt, sub_lt, ord_add, ord_mul, need_add, need_mul, t1, t2']
  have main : ∀ c : Int, cmpR p q = c → (c = -1 ∨ c = 0 ∨ c = 1) → cmpR q p = w64 (0 - c) := by
    intro c hc hcc
    by_cases h : p < q
    · rw [cmpR_lt h] at hc; subst hc; rw [cmpR_gt h]; rfl
    · by_cases k : q < p
      · rw [cmpR_gt k] at hc; subst hc; rw [cmpR_lt k]; rfl
      · have : p = q := by grind
        subst this
        rw [cmpR_self] at hc ⊢; subst hc; rfl
  have hcc : cmpR p q = -1 ∨ cmpR p q = 0 ∨ cmpR p q = 1 := by
    unfold cmpR; split
    · exact .inl rfl
    · split
      · exact .inr (.inl rfl)
      · exact .inr (.inr rfl)
  have hsw := main _ rfl hcc
  have b1 : decide (cmpR p q < -1) = false := decide_eq_false (by omega)
  have b2 : decide (cmpR p q > 1) = false := decide_eq_false (by omega)
  rw [hsw]
  by_cases h : q < p
  · have m1 : mn p q = q := if_pos h
    have m2 : mx p q = p := if_neg (by grind)
    have m3 : mn q p = q := if_neg (by grind)
    have m4 : mx q p = p := if_pos h
    have d0 : decide (q < p) = true := decide_eq_true h
    simp +decide only [sat_need, sat_ite, sat_ret, bv_inj, m1, m2, m3, m4, d0, b1, b2, vp, vq, vr, i0, i1, i2, beq_self_eq_true, bne_self_eq_false, decide_true, Bool.and_true, Bool.true_and, Bool.not_true, Bool.or_false, Bool.false_or, Bool.or_true, Bool.true_or, Bool.and_false, Bool.false_and, true_and, and_true, false_imp_iff, true_imp_iff, reduceCtorEq, forall_const, and_self, Bool.not_false, false_and, and_false, not_true_eq_false, not_false_eq_true, imp_self, implies_true]
  · have m1 : mn p q = p := if_neg h
    have m2 : mx p q = q := by unfold mx; split <;> grind
    have m3 : mn q p = p := by unfold mn; split <;> grind
    have m4 : mx q p = q := if_neg h
    have d0 : decide (q < p) = false := decide_eq_false h
    simp +decide only [sat_need, sat_ite, sat_ret, bv_inj, m1, m2, m3, m4, d0, b1, b2, vp, vq, vr, i0, i1, i2, beq_self_eq_true, bne_self_eq_false, decide_true, Bool.and_true, Bool.true_and, Bool.not_true, Bool.or_false, Bool.false_or, Bool.or_true, Bool.true_or, Bool.and_false, Bool.false_and, true_and, and_true, false_imp_iff, true_imp_iff, reduceCtorEq, forall_const, and_self, Bool.not_false, false_and, and_false, not_true_eq_false, not_false_eq_true, imp_self, implies_true]

theorem fractionOrder_ok : ∃ c : Ctr, CtrOK Tryd.prog 6 c ∧ ∀ ss, okArgs Tryd.prog 6 [22, 22, 22] ss → (c ss).ev (bv true) := by
  refine law_ctr CM_ok DM_ok (by kernel_rfl) (by kernel_rfl) fun ss h => ?_
  obtain ⟨d1, _, rfl, h1, d2, _, rfl, h2, d3, _, rfl, h3, rfl⟩ := h
  obtain ⟨a1, b1, ha1, hb1, rfl⟩ := okPair h1
  obtain ⟨a2, b2, ha2, hb2, rfl⟩ := okPair h2
  obtain ⟨a3, b3, ha3, hb3, rfl⟩ := okPair h3
  have := order_sat ha1 hb1 ha2 hb2 ha3 hb3
  simp only [svT, Tryd.underlying22]
  exact ⟨200, .nil, this⟩

end Go.Proofs.YtmdbfhkineaheaaDoor

/- A law's frame where variables are listed: what is listed, and the shape of the world, both are handed to the walk. -/
namespace Go
variable {H : Type} {enc : TypeId × Value → H}

theorem returnsInHanded_of_change_ands {a : Assume} {C : Checked} {os : Os} {f : FuncId} {fn : Func} {s : ChangeSpec} {conds : List PathCond} {apart fresh handsOn again : Bool} {X : World → Array Value → Prop}
    (hX : ∀ (w w' : World) (args : Array Value), w.heap = w'.heap → X w args → X w' args)
    (own : ownKnob C.prog.godebug = none) (started : os.Started) (noInit : C.prog.inits.idxOf? f = none) (hfn : C.prog.funcs[f]? = some fn)
    (witness : ∃ (w : World) (tape : Tape) (i : Input), w.os = os ∧ (w.forCall tape i).Shaped C.prog ∧ i.vars = [] ∧ Input.okWide C.prog (w.forCall tape i) .any w.heap.size f i ∧
      ((s.pre enc C.prog fn conds apart (w.forCall tape i).memory i.args ∧ X (w.forCall tape i).memory i.args) ∧ sizedMet enc C.prog fn (OpenSpec.ofChange s) apart (w.forCall tape i).memory i.args) ∧ a.holds C.prog (lone (Frame.enter C.prog f i.args .normal) [] (w.forCall tape i)))
    (contract : ∀ (W : World) (base : Nat) (args : Array Value) (ds gs : List (DataW H)) (before : List MemPlace),
      (∀ (j : Nat) t v, fn.params[j]? = some t → args[j]? = some v → Value.okWide C.prog W .any base t v) →
      DataW.Whole enc C.prog fn.params.toList s.vars apart W args.toList ds gs before →
      conds.all (PathCond.test C.prog ⟨fn.params.toList, ds, s.plain.varTypes C.prog, gs⟩) = true →
      (DataW.weightsEach C.prog (fn.params.toList ++ s.plain.varTypes C.prog) (ds ++ gs)).all (· ≤ reachBytes) = true → X W args → W.ShapedOpen C.prog →
      a.holds C.prog (lone (Frame.enter C.prog f args .normal) [] W) →
      Calls C.prog f args W fun e W' => ∃ v, e = .returned v ∧ s.post enc C.prog fn apart fresh handsOn again W args v W') :
    ReturnsInHanded a C os f .any (fun w args => (s.pre enc C.prog fn conds apart w args ∧ X w args) ∧ sizedMet enc C.prog fn (OpenSpec.ofChange s) apart w args) (s.post enc C.prog fn apart fresh handsOn again) := by
  refine returnsInHanded_of_calls own started noInit witness ?_
  intro w tape i _ hsh _ hok hpre hholds
  obtain ⟨_, _, _, fn', hfn', _, _, _, _, hval⟩ := hok
  have e : fn' = fn := Option.some.inj (hfn'.symm.trans hfn)
  subst e
  obtain ⟨⟨⟨ds, gs, before, hw, hc⟩, hx⟩, hz⟩ := hpre
  have hw' := DataW.Whole.of_heap (w' := w.forCall tape i) (by rfl) hw
  refine (contract (w.forCall tape i) w.heap.size i.args ds gs before hval hw' hc (hz.weights hw) (hX _ _ _ (by rfl) hx) hsh hholds).mono fun e W' ⟨v, he, hp⟩ => ?_
  subst he
  exact ChangeSpec.post_blind hp

end Go

namespace Go.Proofs.YtmdbfhkineaheaaDoor
open Go.Sx
set_option maxRecDepth 100000

/-! ### What the row's list of variables gives -/

def laid5 : List (String × DataW Unit) := [("math/bits.deBruijn32tab", Rows.laid_math_bits_deBruijn32tab), ("math/bits.deBruijn64tab", Rows.laid_math_bits_deBruijn64tab), ("internal/strconv.uint64pow10", Rows.laid_internal_strconv_uint64pow10), ("strconv.ErrRange", Rows.laid_strconv_ErrRange), ("strconv.ErrSyntax", Rows.laid_strconv_ErrSyntax)]
theorem gPow : Tryd.prog.globalNamed "internal/strconv.uint64pow10" = some 2 := by kernel_rfl
theorem gSyn : Tryd.prog.globalNamed "strconv.ErrSyntax" = some 4 := by kernel_rfl
theorem gRng : Tryd.prog.globalNamed "strconv.ErrRange" = some 5 := by kernel_rfl
theorem plain5 : (laid5.all fun x => x.2.handleName?.isNone) = true := by kernel_rfl
theorem var_obj {w : World} {name : String} {g : Nat} {cs : Array Value} (hg : Tryd.prog.globalNamed name = some g) (h : w.var? Tryd.prog name = some cs) : ∃ e fr, w.heap[g]? = some (.cells cs e fr) := by
  unfold World.var? at h
  rw [hg] at h
  simp only [Option.bind_some] at h
  split at h
  · rename_i c e fr heq
    simp only [Option.some.injEq] at h; subst h
    exact ⟨e, fr, heq⟩
  · cases h
theorem typePow : (Tryd.prog.globals[2]?).map (·.type) = some 99 := by kernel_rfl
theorem typeSyn : (Tryd.prog.globals[4]?).map (·.type) = some 78 := by kernel_rfl
theorem typeRng : (Tryd.prog.globals[5]?).map (·.type) = some 78 := by kernel_rfl
theorem star : "*" ++ "errors.errorString" = "*errors.errorString" := by decide
theorem rowErr (u : TypeId) (h : Tryd.prog.typeName? 3 u = some "*errors.errorString") : u = 117 :=
  typeName_ptr_named (nm := "errors.errorString") (by rw [star]; kernel_rfl) (by kernel_rfl) (by decide) u (by rw [star]; exact h)

theorem glob_of {W : World} (h : laidMetH Tryd.prog laid5 W) (hs : W.ShapedOpen Tryd.prog) : GlobOK W (fun b => b < W.heap.size) := by
  rw [MakeChecks.laidMetH_plain _ _ _ plain5] at h
  have h2 : laidMet Tryd.prog [("internal/strconv.uint64pow10", Lib.tabData .u64 Lib.pow10Tab), ("strconv.ErrRange", Rows.laid_strconv_ErrRange), ("strconv.ErrSyntax", Rows.laid_strconv_ErrSyntax)] W := h.tail.tail
  have ht := Lib.tabIs_of_head gPow typePow Tryd.underlying99 Tryd.underlying49 (by kernel_rfl) (by kernel_rfl) h2
  obtain ⟨a0, s0, hv0, -, -, -⟩ := laid_sentinel h2.tail gRng typeRng Tryd.underlying78 rowErr Tryd.underlying117 Tryd.underlying119 rfl rfl Tryd.underlying9 (by kernel_rfl) (by kernel_rfl)
  obtain ⟨a1, s1, hv1, -, -, -⟩ := laid_sentinel h2.tail.tail gSyn typeSyn Tryd.underlying78 rowErr Tryd.underlying117 Tryd.underlying119 rfl rfl Tryd.underlying9 (by kernel_rfl) (by kernel_rfl)
  obtain ⟨m, hm⟩ := cell_of_shapedOpen_int (g := 3) (t := 3) (zero := #[.int .i64 0]) (k := .i64) hs (of_decide_eq_true (by kernel_rfl)) (by kernel_rfl) rfl (by kernel_rfl) (by kernel_rfl) Tryd.underlying3
  have k1 : okTab Lib.pow10Tab W.heap[2]? := by
    obtain ⟨e, fr, hh⟩ := var_obj gPow ht
    exact ⟨e, fr, hh⟩
  have k2 : okErr W.heap[4]? := by
    obtain ⟨e, fr, hh⟩ := var_obj gSyn hv1
    exact ⟨_, e, fr, _, _, hh, rfl⟩
  have k3 : okErr W.heap[5]? := by
    obtain ⟨e, fr, hh⟩ := var_obj gRng hv0
    exact ⟨_, e, fr, _, _, hh, rfl⟩
  have k4 : okInt W.heap[3]? := cell_okInt hm
  have lt : ∀ {g : Nat} {o : Obj}, W.heap[g]? = some o → g < W.heap.size := fun hh => (Array.getElem?_eq_some_iff.1 hh).1
  refine ⟨fun g n cell hg => (by cases hg), fun g Q hg => ?_⟩
  match g, hg with
  | 2, hg => cases hg; exact ⟨by obtain ⟨e, fr, hh⟩ := k1; exact lt hh, k1⟩
  | 3, hg => cases hg; exact ⟨by obtain ⟨c, e, fr, m, hh, _⟩ := k4; exact lt hh, k4⟩
  | 4, hg => cases hg; exact ⟨by obtain ⟨c, e, fr, t, p, hh, _⟩ := k2; exact lt hh, k2⟩
  | 5, hg => cases hg; exact ⟨by obtain ⟨c, e, fr, t, p, hh, _⟩ := k3; exact lt hh, k3⟩

end Go.Proofs.YtmdbfhkineaheaaDoor

namespace Go.Proofs.YtmdbfhkineaheaaDoor
open Go.ChangeShapes Go.WideShapes Go.ChangeAt Go.RowKit Go.Sx

theorem own : ownKnob Tryd.prog.godebug = none := by kernel_rfl
theorem laidOut : laidOutB Tryd.prog = true := by kernel_rfl
theorem door_met (os : Os) (args : Array Value) : laidMetH Tryd.prog laid5 ((World.doorLaid Tryd.prog 62 os).forCall (fun _ _ => 0) ⟨#[], args, []⟩).memory :=
  laidMetH_of_parts3 (fuel := 8) (laidMet_of_run' 8 (by kernel_rfl) (by kernel_rfl)) (by kernel_rfl) (by kernel_rfl)

set_option maxRecDepth 100000 in
theorem lifted (os : Os) (started : os.Started) (H : Type) (enc : TypeId × Value → H) :
    ReturnsInHanded {} Tryd.checked os 6 .any (fun w args => (Rows.fractionOrderSpec.pre enc Tryd.prog Tryd.f6 Rows.fractionOrderRow.domain false w args ∧ laidMetH Tryd.prog laid5 w) ∧ sizedMet enc Tryd.prog Tryd.f6 (OpenSpec.ofChange Rows.fractionOrderSpec) false w args)
      (Rows.fractionOrderSpec.post enc Tryd.prog Tryd.f6 false true false false) := by
  refine returnsInHanded_of_change_ands (C := Tryd.checked) (X := fun w _ => laidMetH Tryd.prog laid5 w) (fun _ _ _ hh h => h.of_heap hh) own started (by kernel_rfl) Tryd.func6
    (ChangeSpec.witness_shaped (enc := enc) (C := Tryd.checked) (os := os) (X := fun w _ => laidMetH Tryd.prog laid5 w) false (World.doorLaid Tryd.prog 62 os) #[.agg #[.int .i64 0, .int .i64 0], .agg #[.int .i64 0, .int .i64 0], .agg #[.int .i64 0, .int .i64 0]] 8 rfl (World.shaped_of_RefB (by kernel_rfl) (by kernel_rfl)) (by kernel_rfl) (by kernel_rfl) (by kernel_rfl) (door_met os _)) ?_
  intro W base args ds gs before hval0 hW hcnd _ hL hsh _
  have hval : ∀ (j : Nat) t v, Tryd.f6.params[j]? = some t → args[j]? = some v → Value.okWide Tryd.prog W .any base t v := hval0
  have hW' := hW
  obtain ⟨p, q, hA0, hV, rfl, hfz, hnd⟩ := hW
  have hA : DataW.TrodAll enc Tryd.prog W 0 (fun _ => true) true Tryd.f6.params.toList args.toList ds p := hA0
  rw [Tryd.params6] at hA hval
  obtain ⟨rfl, rfl⟩ := trodVars_none hV
  obtain ⟨v0, vs0, d0, ds0, p0, q0, hargs, rfl, e0, h0, r0⟩ := trodAll_cons hA
  obtain ⟨v1, vs1, d1, ds1, p1, q1, e1_1, rfl, e2_1, h1, r1⟩ := trodAll_cons r0
  obtain ⟨v2, vs2, d2, ds2, p2, q2, e1_2, rfl, e2_2, h2, r2⟩ := trodAll_cons r1
  obtain ⟨e3, rfl, e4⟩ := trodAll_nil r2
  obtain ⟨c, hc, hev⟩ := fractionOrder_ok
  have hlt := trodAll_lt hA
  obtain ⟨ss, o1, o2, o3⟩ := open_args (F := fun b => b < W.heap.size) (n := 6) (r := .any) (base := base) (by kernel_rfl) hA (fun j t v a b => hval j t v (by simpa using a) (by simpa using b)) (fun q hq => hlt q hq)
  refine (law_of hc (F := fun b => b < W.heap.size) (fun b hb => hb) (glob_of hL hsh) (ss := ss) ⟨by simpa using o2, fun i hi => by simpa [List.getD, Array.getD_eq_getD_getElem?] using o3 i hi⟩ (hev ss o1)).mono fun e W' ⟨he, bel⟩ => ?_
  subst he
  have hback := trodAll_below laidOut bel (by kernel_rfl) hA
  exact ⟨_, rfl, _, _, _, [], _, [], hW', trodAll_mk1 (shut_bool Tryd.underlying4 _), hback, rfl, bel.frame _, fun h => by cases h⟩

theorem over : Rows.fractionOrderRow.holds Tryd.pinned (OpenSpec.ofChange Rows.fractionOrderSpec) :=
  OpenClaim.holds_of_wide 6 Tryd.f6 rfl rfl rfl rfl rfl rfl rfl ⟨rfl, rfl, rfl, rfl, rfl⟩ rfl rfl rfl rfl rfl (by kernel_rfl) Tryd.func6 (by kernel_rfl)
    (of_decide_eq_true (by kernel_rfl)) (by unfold Func.isWrapper; first | (rw [if_pos (by decide +kernel)]; kernel_rfl) | (rw [if_neg (by decide +kernel)]; exact ⟨rfl, rfl⟩))
    (fun os started H enc _ => lifted os started H enc)

theorem fractionOrder_holds : Rows.FractionOrderCardSaid :=
  Claim7.holds_tied_plain_at .later [] [.data, .data, .data, .sentinel, .sentinel] true (true, "6d02be5a01351df019767fbefeb9d3f06b73233ad493a98c11bdba6b4cb22437") true
    over (fun _ h => by cases h) (by kernel_rfl) (fun _ h => by cases h) fractionOrder_row_tie rfl ⟨rfl, rfl⟩ (by kernel_rfl) rfl
    (fun f fn hf hfn => by
      obtain rfl : f = 6 := Option.some.inj ((show Tryd.prog.funcNamed "wireloom/wireloomlaw02.FractionOrder" = some 6 by kernel_rfl).symm.trans hf) |>.symm
      obtain rfl : fn = Tryd.f6 := (Option.some.inj (Tryd.func6.symm.trans hfn)).symm
      exact ⟨by kernel_rfl, fun j t ht => by
        rw [Tryd.params6] at ht
        have hm : t ∈ [22, 22, 22] := by simpa using Array.mem_of_getElem? ht
        have hall : ([22, 22, 22].all fun u => !Tryd.prog.wantsStandIn u) = true := by kernel_rfl
        exact (show Tryd.prog.wantsStandIn t = false by simpa using List.all_eq_true.1 hall t hm)⟩)
    (by kernel_rfl)
#print axioms fractionOrder_holds
end Go.Proofs.YtmdbfhkineaheaaDoor

