/- Part of a proof of the given statements of this seat (SxFrLc, SyLaw, SxFrGl, SxFrG5): no conditions beyond those typed here. -/
import Derived.Test.YtmdbfhkineaheaaDoorSz06
import Derived.Test.YtmdbfhkineaheaaDoorSz07
import Derived.HandedShaped
import Derived.Handed
import Derived.LaidMore
import Derived.LaidLaws
import Derived.Test.YtmdbfhkineaheaaDoorSz03
import Derived.Test.YtmdbfhkineaheaaDoorSz04
import Derived.Lib.LaidTab
import Derived.Stop.LaidErr
import Derived.Shelf.Vars
import Derived.MakeChecks
import Derived.Test.YtmdbfhkineaheaaDoorRows
import Derived.Test.YtmdbfhkineaheaaDoorChecked
import Derived.Test.YtmdbfhkineaheaaDoorCards
import Derived.Test.YtmdbfhkineaheaaDoorTie
import Derived.SevenTiedAt
set_option linter.unusedVariables false
set_option linter.unusedSimpArgs false
set_option linter.unusedSectionVars false

namespace Go.Proofs.YtmdbfhkineaheaaDoor
open Go.Sx
set_option maxRecDepth 100000

/-! ### FractionField -/

theorem zero_beq : ((0 : Int) == 0) = true := rfl
theorem two_beq : ((2 : Int) == 0) = false := rfl
theorem three_beq : ((3 : Int) == 0) = false := rfl
theorem r01 : ratOf 0 1 = 0 := by decide +kernel
theorem r11 : ratOf 1 1 = 1 := by decide +kernel
theorem VF.z : VF 0 1 := ⟨⟨by decide, by decide⟩, by decide, by decide⟩
theorem VF.o : VF 1 1 := ⟨⟨by decide, by decide⟩, by decide, by decide⟩
theorem num_ne {q : Rat} (h : q ≠ 0) : (q.num != 0) = true := by
  rw [bne_iff_ne]; exact fun h2 => h (Rat.num_eq_zero.1 h2)
theorem dvN_of {p q : Rat} (h : q ≠ 0) : dvN p q = rN (p / q) := if_neg h
theorem dvD_of {p q : Rat} (h : q ≠ 0) : dvD p q = rD (p / q) := if_neg h
theorem dvE_of {p q : Rat} (h : q ≠ 0) : dvE p q = rE (p / q) := if_neg h

theorem field_sat {x0 x1 y0 y1 z0 z1 : Int} (hx0 : I64 x0) (hx1 : I64 x1) (hy0 : I64 y0) (hy1 : I64 y1) (hz0 : I64 z0) (hz1 : I64 z1) :
    Sat Tryd.prog (TM .nil 5 [.agg [iv x0, iv x1], .agg [iv y0, iv y1], .agg [iv z0, iv z1]]) (· = bv true) := by
  constructor
  rw [LField_eq]; unfold LField
  simp only [LField_q1, LField_q2, LField_q3, LField_q4, LField_q5, LField_q6, LField_q7, LField_q8, LField_q9, LField_q10, LField_q11, LField_q12, LField_q13, LField_q14, LField_q15, LField_q16, LField_q17, LField_q18, LField_q19, LField_q20, LField_q21, LField_q22, LField_q23, LField_q24, LField_q25, LField_q26, LField_q27, LField_q28, LField_q29, LField_q30, LField_q31, LField_q32, LField_q33, LField_q34, LField_q35, LField_q36, LField_q37, LField_q38, LField_q39, LField_q40, LField_q41, LField_q42, mN, mD, ratOf_rat, r01, r11]
  have hp := mdQ_fits x0 x1
  have hq := mdQ_fits y0 y1
  have hr := mdQ_fits z0 z1
  generalize mdQ x0 x1 = p at *
  generalize mdQ y0 y1 = q at *
  generalize mdQ z0 z1 = r at *
  have e0 : q + p = p + q := Rat.add_comm _ _
  have e1 : q * p = p * q := Rat.mul_comm _ _
  have e2 : p + q - q = p := by rw [Rat.sub_eq_add_neg, Rat.add_assoc, Rat.add_neg_cancel, Rat.add_zero]
  have e3 : (p + q) + r = p + (q + r) := Rat.add_assoc _ _ _
  have e4 : p * q * r = p * (q * r) := Rat.mul_assoc _ _ _
  have e5 : (p + q) * r = p * r + q * r := Rat.add_mul _ _ _
  have e6 : p - p = 0 := by rw [Rat.sub_eq_add_neg, Rat.add_neg_cancel]
  have vp := VF.of hp
  have vq := VF.of hq
  have vr := VF.of hr
  have hq7 : ∀ h : q ≠ 0, p * q / q = p := fun h => by rw [Rat.div_def, Rat.mul_assoc, Rat.mul_inv_cancel _ h, Rat.mul_one]
  simp only [e0, e1, e2, e6, Rat.add_zero, Rat.mul_one, Rat.mul_zero, r_zero.1, r_zero.2.1, r_zero.2.2, beq_self_eq_true, Bool.and_true, Bool.not_true, Bool.or_false, Bool.false_or, rN_of hp, rD_of hp, rE_of hp]
  have i0 : (I64 x0 ∧ I64 x1) = True := eq_true ⟨hx0, hx1⟩
  have i1 : (I64 y0 ∧ I64 y1) = True := eq_true ⟨hy0, hy1⟩
  have i2 : (I64 z0 ∧ I64 z1) = True := eq_true ⟨hz0, hz1⟩
  clear hx0 hx1 hy0 hy1 hz0 hz1
  by_cases h0 : q = 0
  · subst h0
    have h8 : ((0 : Rat).num != 0) = false := rfl
    have h6 : p - 0 = p := by rw [Rat.sub_eq_add_neg, Rat.neg_zero, Rat.add_zero]
    by_cases h5 : fitsR (p * r) <;> by_cases h2 : fitsR (p + r) <;>
    simp +decide only [sat_need, sat_ite, sat_ret, bv_inj, rE_of, rN_of, rD_of, rE_no, h2, h5, h6, h8, hp, hr, vp, vr, VF.z, VF.o, VF.of, ratOf_rat, i0, i1, i2, Rat.add_zero, Rat.mul_zero, Rat.zero_mul, Rat.zero_add, fits_zero, r_zero.1, r_zero.2.1, r_zero.2.2, r01, zero_beq, two_beq, three_beq, beq_self_eq_true, Bool.and_true, Bool.true_and, Bool.not_true, Bool.or_false, Bool.false_or, Bool.or_true, Bool.true_or, Bool.and_false, Bool.false_and, true_and, and_true, false_imp_iff, true_imp_iff, reduceCtorEq, forall_const, and_self, Bool.not_false, false_and, and_false, not_true_eq_false, not_false_eq_true]
  · have h7 := hq7 h0
    have h8 := num_ne h0
    by_cases h1 : fitsR (p + q) <;> by_cases h2 : fitsR (q + r) <;> by_cases h3 : fitsR (p * q) <;> by_cases h4 : fitsR (q * r) <;> by_cases h5 : fitsR (p * r) <;>
    simp +decide only [sat_need, sat_ite, sat_ret, bv_inj, rE_of, rN_of, rD_of, rE_no, h1, h2, h3, h4, h5, hp, hq, hr, vp, vq, vr, VF.z, VF.o, VF.of, ratOf_rat, i0, i1, i2, e2, e3, e4, e5, h7, h8, dvN_of h0, dvD_of h0, dvE_of h0, zero_beq, two_beq, three_beq, beq_self_eq_true, Bool.and_true, Bool.true_and, Bool.not_true, Bool.or_false, Bool.false_or, Bool.or_true, Bool.true_or, Bool.and_false, Bool.false_and, true_and, and_true, false_imp_iff, true_imp_iff, reduceCtorEq, forall_const, and_self, Bool.not_false, false_and, and_false, not_true_eq_false, not_false_eq_true]

theorem okPair {n : Nat} {ds : List DV} (h : okT Tryd.prog (n + 3) 22 ds) : ∃ a b : Int, I64 a ∧ I64 b ∧ ds = [.x (.int .i64 a), .x (.int .i64 b)] := by
  obtain ⟨ks, e1, rfl, e3⟩ := okT_ints (c := 2) (by simp only [cntI, Tryd.underlying22, Tryd.underlying3]; rfl) h
  match ks, e1 with
  | [a, b], _ => exact ⟨a, b, e3 a (by simp), e3 b (by simp), rfl⟩

theorem fractionField_ok : ∃ c : Ctr, CtrOK Tryd.prog 5 c ∧ ∀ ss, okArgs Tryd.prog 6 [22, 22, 22] ss → (c ss).ev (bv true) := by
  refine law_ctr CM_ok DM_ok (by kernel_rfl) (by kernel_rfl) fun ss h => ?_
  obtain ⟨d1, _, rfl, h1, d2, _, rfl, h2, d3, _, rfl, h3, rfl⟩ := h
  obtain ⟨a1, b1, ha1, hb1, rfl⟩ := okPair h1
  obtain ⟨a2, b2, ha2, hb2, rfl⟩ := okPair h2
  obtain ⟨a3, b3, ha3, hb3, rfl⟩ := okPair h3
  have := field_sat ha1 hb1 ha2 hb2 ha3 hb3
  simp only [svT, Tryd.underlying22]
  exact ⟨200, .nil, this⟩

end Go.Proofs.YtmdbfhkineaheaaDoor

/- A law's frame where variables are listed: what is listed, and the shape of the world, both are handed to the walk. -/
namespace Go
variable {H : Type} {enc : TypeId × Value → H}

theorem returnsInHanded_of_change_ands {a : Assume} {C : Checked} {os : Os} {f : FuncId} {fn : Func} {s : ChangeSpec} {conds : List PathCond} {apart fresh handsOn again : Bool} {X : World → Array Value → Prop}
    (hX : ∀ (w w' : World) (args : Array Value), w.heap = w'.heap → X w args → X w' args)
    (own : ownKnob C.prog.godebug = none) (started : os.Started) (noInit : C.prog.inits.idxOf? f = none) (hfn : C.prog.funcs[f]? = some fn)
    (witness : ∃ (w : World) (tape : Tape) (i : Input), w.os = os ∧ (w.forCall tape i).Shaped C.prog ∧ i.vars = [] ∧ Input.okWide C.prog (w.forCall tape i) .any w.heap.size f i ∧
      ((s.pre enc C.prog fn conds apart (w.forCall tape i).memory i.args ∧ X (w.forCall tape i).memory i.args) ∧ sizedMet enc C.prog fn (OpenSpec.ofChange s) apart (w.forCall tape i).memory i.args) ∧ a.holds C.prog (lone (Frame.enter C.prog f i.args .normal) [] (w.forCall tape i)))
    (contract : ∀ (W : World) (base : Nat) (args : Array Value) (ds gs : List (DataW H)) (before : List MemPlace),
      (∀ (j : Nat) t v, fn.params[j]? = some t → args[j]? = some v → Value.okWide C.prog W .any base t v) →
      DataW.Whole enc C.prog fn.params.toList s.vars apart W args.toList ds gs before →
      conds.all (PathCond.test C.prog ⟨fn.params.toList, ds, s.plain.varTypes C.prog, gs⟩) = true →
      (DataW.weightsEach C.prog (fn.params.toList ++ s.plain.varTypes C.prog) (ds ++ gs)).all (· ≤ reachBytes) = true → X W args → W.ShapedOpen C.prog →
      a.holds C.prog (lone (Frame.enter C.prog f args .normal) [] W) →
      Calls C.prog f args W fun e W' => ∃ v, e = .returned v ∧ s.post enc C.prog fn apart fresh handsOn again W args v W') :
    ReturnsInHanded a C os f .any (fun w args => (s.pre enc C.prog fn conds apart w args ∧ X w args) ∧ sizedMet enc C.prog fn (OpenSpec.ofChange s) apart w args) (s.post enc C.prog fn apart fresh handsOn again) := by
  refine returnsInHanded_of_calls own started noInit witness ?_
  intro w tape i _ hsh _ hok hpre hholds
  obtain ⟨_, _, _, fn', hfn', _, _, _, _, hval⟩ := hok
  have e : fn' = fn := Option.some.inj (hfn'.symm.trans hfn)
  subst e
  obtain ⟨⟨⟨ds, gs, before, hw, hc⟩, hx⟩, hz⟩ := hpre
  have hw' := DataW.Whole.of_heap (w' := w.forCall tape i) (by rfl) hw
  refine (contract (w.forCall tape i) w.heap.size i.args ds gs before hval hw' hc (hz.weights hw) (hX _ _ _ (by rfl) hx) hsh hholds).mono fun e W' ⟨v, he, hp⟩ => ?_
  subst he
  exact ChangeSpec.post_blind hp

end Go

namespace Go.Proofs.YtmdbfhkineaheaaDoor
open Go.Sx
set_option maxRecDepth 100000

/-! ### What the row's list of variables gives -/

def laid5 : List (String × DataW Unit) := [("math/bits.deBruijn32tab", Rows.laid_math_bits_deBruijn32tab), ("math/bits.deBruijn64tab", Rows.laid_math_bits_deBruijn64tab), ("internal/strconv.uint64pow10", Rows.laid_internal_strconv_uint64pow10), ("strconv.ErrRange", Rows.laid_strconv_ErrRange), ("strconv.ErrSyntax", Rows.laid_strconv_ErrSyntax)]
theorem gPow : Tryd.prog.globalNamed "internal/strconv.uint64pow10" = some 2 := by kernel_rfl
theorem gSyn : Tryd.prog.globalNamed "strconv.ErrSyntax" = some 4 := by kernel_rfl
theorem gRng : Tryd.prog.globalNamed "strconv.ErrRange" = some 5 := by kernel_rfl
theorem plain5 : (laid5.all fun x => x.2.handleName?.isNone) = true := by kernel_rfl
theorem var_obj {w : World} {name : String} {g : Nat} {cs : Array Value} (hg : Tryd.prog.globalNamed name = some g) (h : w.var? Tryd.prog name = some cs) : ∃ e fr, w.heap[g]? = some (.cells cs e fr) := by
  unfold World.var? at h
  rw [hg] at h
  simp only [Option.bind_some] at h
  split at h
  · rename_i c e fr heq
    simp only [Option.some.injEq] at h; subst h
    exact ⟨e, fr, heq⟩
  · cases h
theorem typePow : (Tryd.prog.globals[2]?).map (·.type) = some 99 := by kernel_rfl
theorem typeSyn : (Tryd.prog.globals[4]?).map (·.type) = some 78 := by kernel_rfl
theorem typeRng : (Tryd.prog.globals[5]?).map (·.type) = some 78 := by kernel_rfl
theorem star : "*" ++ "errors.errorString" = "*errors.errorString" := by decide
theorem rowErr (u : TypeId) (h : Tryd.prog.typeName? 3 u = some "*errors.errorString") : u = 117 :=
  typeName_ptr_named (nm := "errors.errorString") (by rw [star]; kernel_rfl) (by kernel_rfl) (by decide) u (by rw [star]; exact h)

theorem glob_of {W : World} (h : laidMetH Tryd.prog laid5 W) (hs : W.ShapedOpen Tryd.prog) : GlobOK W (fun b => b < W.heap.size) := by
  rw [MakeChecks.laidMetH_plain _ _ _ plain5] at h
  have h2 : laidMet Tryd.prog [("internal/strconv.uint64pow10", Lib.tabData .u64 Lib.pow10Tab), ("strconv.ErrRange", Rows.laid_strconv_ErrRange), ("strconv.ErrSyntax", Rows.laid_strconv_ErrSyntax)] W := h.tail.tail
  have ht := Lib.tabIs_of_head gPow typePow Tryd.underlying99 Tryd.underlying49 (by kernel_rfl) (by kernel_rfl) h2
  obtain ⟨a0, s0, hv0, -, -, -⟩ := laid_sentinel h2.tail gRng typeRng Tryd.underlying78 rowErr Tryd.underlying117 Tryd.underlying119 rfl rfl Tryd.underlying9 (by kernel_rfl) (by kernel_rfl)
  obtain ⟨a1, s1, hv1, -, -, -⟩ := laid_sentinel h2.tail.tail gSyn typeSyn Tryd.underlying78 rowErr Tryd.underlying117 Tryd.underlying119 rfl rfl Tryd.underlying9 (by kernel_rfl) (by kernel_rfl)
  obtain ⟨m, hm⟩ := cell_of_shapedOpen_int (g := 3) (t := 3) (zero := #[.int .i64 0]) (k := .i64) hs (of_decide_eq_true (by kernel_rfl)) (by kernel_rfl) rfl (by kernel_rfl) (by kernel_rfl) Tryd.underlying3
  have k1 : okTab Lib.pow10Tab W.heap[2]? := by
    obtain ⟨e, fr, hh⟩ := var_obj gPow ht
    exact ⟨e, fr, hh⟩
  have k2 : okErr W.heap[4]? := by
    obtain ⟨e, fr, hh⟩ := var_obj gSyn hv1
    exact ⟨_, e, fr, _, _, hh, rfl⟩
  have k3 : okErr W.heap[5]? := by
    obtain ⟨e, fr, hh⟩ := var_obj gRng hv0
    exact ⟨_, e, fr, _, _, hh, rfl⟩
  have k4 : okInt W.heap[3]? := cell_okInt hm
  have lt : ∀ {g : Nat} {o : Obj}, W.heap[g]? = some o → g < W.heap.size := fun hh => (Array.getElem?_eq_some_iff.1 hh).1
  refine ⟨fun g n cell hg => (by cases hg), fun g Q hg => ?_⟩
  match g, hg with
  | 2, hg => cases hg; exact ⟨by obtain ⟨e, fr, hh⟩ := k1; exact lt hh, k1⟩
  | 3, hg => cases hg; exact ⟨by obtain ⟨c, e, fr, m, hh, _⟩ := k4; exact lt hh, k4⟩
  | 4, hg => cases hg; exact ⟨by obtain ⟨c, e, fr, t, p, hh, _⟩ := k2; exact lt hh, k2⟩
  | 5, hg => cases hg; exact ⟨by obtain ⟨c, e, fr, t, p, hh, _⟩ := k3; exact lt hh, k3⟩

end Go.Proofs.YtmdbfhkineaheaaDoor

namespace Go.Proofs.YtmdbfhkineaheaaDoor
open Go.ChangeShapes Go.WideShapes Go.ChangeAt Go.RowKit Go.Sx

theorem own : ownKnob Tryd.prog.godebug = none := by kernel_rfl
theorem laidOut : laidOutB Tryd.prog = true := by kernel_rfl
theorem door_met (os : Os) (args : Array Value) : laidMetH Tryd.prog laid5 ((World.doorLaid Tryd.prog 62 os).forCall (fun _ _ => 0) ⟨#[], args, []⟩).memory :=
  laidMetH_of_parts3 (fuel := 8) (laidMet_of_run' 8 (by kernel_rfl) (by kernel_rfl)) (by kernel_rfl) (by kernel_rfl)

set_option maxRecDepth 100000 in
theorem lifted (os : Os) (started : os.Started) (H : Type) (enc : TypeId × Value → H) :
    ReturnsInHanded {} Tryd.checked os 5 .any (fun w args => (Rows.fractionFieldSpec.pre enc Tryd.prog Tryd.f5 Rows.fractionFieldRow.domain false w args ∧ laidMetH Tryd.prog laid5 w) ∧ sizedMet enc Tryd.prog Tryd.f5 (OpenSpec.ofChange Rows.fractionFieldSpec) false w args)
      (Rows.fractionFieldSpec.post enc Tryd.prog Tryd.f5 false true false false) := by
  refine returnsInHanded_of_change_ands (C := Tryd.checked) (X := fun w _ => laidMetH Tryd.prog laid5 w) (fun _ _ _ hh h => h.of_heap hh) own started (by kernel_rfl) Tryd.func5
    (ChangeSpec.witness_shaped (enc := enc) (C := Tryd.checked) (os := os) (X := fun w _ => laidMetH Tryd.prog laid5 w) false (World.doorLaid Tryd.prog 62 os) #[.agg #[.int .i64 0, .int .i64 0], .agg #[.int .i64 0, .int .i64 0], .agg #[.int .i64 0, .int .i64 0]] 8 rfl (World.shaped_of_RefB (by kernel_rfl) (by kernel_rfl)) (by kernel_rfl) (by kernel_rfl) (by kernel_rfl) (door_met os _)) ?_
  intro W base args ds gs before hval0 hW hcnd _ hL hsh _
  have hval : ∀ (j : Nat) t v, Tryd.f5.params[j]? = some t → args[j]? = some v → Value.okWide Tryd.prog W .any base t v := hval0
  have hW' := hW
  obtain ⟨p, q, hA0, hV, rfl, hfz, hnd⟩ := hW
  have hA : DataW.TrodAll enc Tryd.prog W 0 (fun _ => true) true Tryd.f5.params.toList args.toList ds p := hA0
  rw [Tryd.params5] at hA hval
  obtain ⟨rfl, rfl⟩ := trodVars_none hV
  obtain ⟨v0, vs0, d0, ds0, p0, q0, hargs, rfl, e0, h0, r0⟩ := trodAll_cons hA
  obtain ⟨v1, vs1, d1, ds1, p1, q1, e1_1, rfl, e2_1, h1, r1⟩ := trodAll_cons r0
  obtain ⟨v2, vs2, d2, ds2, p2, q2, e1_2, rfl, e2_2, h2, r2⟩ := trodAll_cons r1
  obtain ⟨e3, rfl, e4⟩ := trodAll_nil r2
  obtain ⟨c, hc, hev⟩ := fractionField_ok
  have hlt := trodAll_lt hA
  obtain ⟨ss, o1, o2, o3⟩ := open_args (F := fun b => b < W.heap.size) (n := 6) (r := .any) (base := base) (by kernel_rfl) hA (fun j t v a b => hval j t v (by simpa using a) (by simpa using b)) (fun q hq => hlt q hq)
  refine (law_of hc (F := fun b => b < W.heap.size) (fun b hb => hb) (glob_of hL hsh) (ss := ss) ⟨by simpa using o2, fun i hi => by simpa [List.getD, Array.getD_eq_getD_getElem?] using o3 i hi⟩ (hev ss o1)).mono fun e W' ⟨he, bel⟩ => ?_
  subst he
  have hback := trodAll_below laidOut bel (by kernel_rfl) hA
  exact ⟨_, rfl, _, _, _, [], _, [], hW', trodAll_mk1 (shut_bool Tryd.underlying4 _), hback, rfl, bel.frame _, fun h => by cases h⟩

theorem over : Rows.fractionFieldRow.holds Tryd.pinned (OpenSpec.ofChange Rows.fractionFieldSpec) :=
  OpenClaim.holds_of_wide 5 Tryd.f5 rfl rfl rfl rfl rfl rfl rfl ⟨rfl, rfl, rfl, rfl, rfl⟩ rfl rfl rfl rfl rfl (by kernel_rfl) Tryd.func5 (by kernel_rfl)
    (of_decide_eq_true (by kernel_rfl)) (by unfold Func.isWrapper; first | (rw [if_pos (by decide +kernel)]; kernel_rfl) | (rw [if_neg (by decide +kernel)]; exact ⟨rfl, rfl⟩))
    (fun os started H enc _ => lifted os started H enc)

theorem fractionField_holds : Rows.FractionFieldCardSaid :=
  Claim7.holds_tied_plain_at .later [] [.data, .data, .data, .sentinel, .sentinel] true (true, "6d02be5a01351df019767fbefeb9d3f06b73233ad493a98c11bdba6b4cb22437") true
    over (fun _ h => by cases h) (by kernel_rfl) (fun _ h => by cases h) fractionField_row_tie rfl ⟨rfl, rfl⟩ (by kernel_rfl) rfl
    (fun f fn hf hfn => by
      obtain rfl : f = 5 := Option.some.inj ((show Tryd.prog.funcNamed "wireloom/wireloomlaw02.FractionField" = some 5 by kernel_rfl).symm.trans hf) |>.symm
      obtain rfl : fn = Tryd.f5 := (Option.some.inj (Tryd.func5.symm.trans hfn)).symm
      exact ⟨by kernel_rfl, fun j t ht => by
        rw [Tryd.params5] at ht
        have hm : t ∈ [22, 22, 22] := by simpa using Array.mem_of_getElem? ht
        have hall : ([22, 22, 22].all fun u => !Tryd.prog.wantsStandIn u) = true := by kernel_rfl
        exact (show Tryd.prog.wantsStandIn t = false by simpa using List.all_eq_true.1 hall t hm)⟩)
    (by kernel_rfl)
#print axioms fractionField_holds
end Go.Proofs.YtmdbfhkineaheaaDoor

