/- Part of a proof of the given statements of this seat (SxFrLc, SxFrLd, SxFrLe, SyLaw, SxFrGl, SxFrG3): no conditions beyond those typed here. -/
import Derived.Test.YtmdbfhkineaheaaDoorSz06
import Derived.Test.YtmdbfhkineaheaaDoorSz07
import Derived.HandedShaped
import Derived.Handed
import Derived.LaidMore
import Derived.LaidLaws
import Derived.Test.YtmdbfhkineaheaaDoorSz03
import Derived.Test.YtmdbfhkineaheaaDoorSz04
import Derived.Lib.LaidTab
import Derived.Stop.LaidErr
import Derived.Shelf.Vars
import Derived.MakeChecks
import Derived.Test.YtmdbfhkineaheaaDoorRows
import Derived.Test.YtmdbfhkineaheaaDoorChecked
import Derived.Test.YtmdbfhkineaheaaDoorCards
import Derived.Test.YtmdbfhkineaheaaDoorTie
import Derived.SevenTiedAt
set_option linter.unusedVariables false
set_option linter.unusedSimpArgs false
set_option linter.unusedSectionVars false

namespace Go.Proofs.YtmdbfhkineaheaaDoor
open Go.Sx
set_option maxRecDepth 100000

/-! ### FractionField -/

theorem VF.z : VF 0 1 := ⟨⟨by decide, by decide⟩, by decide, by decide⟩
theorem VF.o : VF 1 1 := ⟨⟨by decide, by decide⟩, by decide, by decide⟩
theorem okPair {n : Nat} {ds : List DV} (h : okT Tryd.prog (n + 3) 22 ds) : ∃ a b : Int, I64 a ∧ I64 b ∧ ds = [.x (.int .i64 a), .x (.int .i64 b)] := by
  obtain ⟨ks, e1, rfl, e3⟩ := okT_ints (c := 2) (by simp only [cntI, Tryd.underlying22, Tryd.underlying3]; rfl) h
  match ks, e1 with
  | [a, b], _ => exact ⟨a, b, e3 a (by simp), e3 b (by simp), rfl⟩

end Go.Proofs.YtmdbfhkineaheaaDoor

namespace Go.Proofs.YtmdbfhkineaheaaDoor
open Go.Sx
set_option maxRecDepth 100000

/-! ### FractionOrder -/

theorem vf_r {s : Rat} (h : fitsR s) : VF (rN s) (rD s) := by rw [rN_of h, rD_of h]; exact VF.of h
end Go.Proofs.YtmdbfhkineaheaaDoor

namespace Go.Proofs.YtmdbfhkineaheaaDoor
open Go.Sx
set_option maxRecDepth 100000

/-! ### FractionRounds -/

theorem ratOf_int (n : Int) : ratOf n 1 = (n : Rat) := by
  have := ratOf_rat (n : Rat)
  simpa using this
theorem VF.i {n : Int} (h : n.natAbs ≤ 4611686018427387904) : VF n 1 := ⟨⟨by omega, by simp⟩, h, by omega⟩
theorem den_pos' (p : Rat) : 0 < (p.den : Int) := by have := p.den_pos; omega
theorem fl_abs {p : Rat} (h : fitsR p) : (p.num / (p.den : Int)).natAbs ≤ 4611686018427387904 := by
  have h1 := h.1
  have := den_pos' p
  have h2 := Int.emod_add_mul_ediv p.num p.den
  have h3 := Int.emod_nonneg p.num (b := (p.den : Int)) (by omega)
  have h4 := Int.emod_lt_of_pos p.num this
  have a1 : p.num / (p.den : Int) ≤ 4611686018427387904 := Int.ediv_le_of_le_mul this (by
    have : (4611686018427387904 : Int) ≤ 4611686018427387904 * (p.den : Int) := by omega
    omega)
  have a2 : -4611686018427387904 ≤ p.num / (p.den : Int) := (Int.le_ediv_iff_mul_le this).2 (by
    have : (4611686018427387904 : Int) ≤ 4611686018427387904 * (p.den : Int) := by omega
    omega)
  omega
theorem ce_num (p : Rat) : -(-p.num / (p.den : Int)) = p.ceil := by rw [Rat.ceil_eq_neg_floor_neg, Rat.floor_def]; rfl
theorem fl_num (p : Rat) : p.num / (p.den : Int) = p.floor := (Rat.floor_def p).symm
theorem fitsR_neg {p : Rat} (h : fitsR p) : fitsR (-p) := ⟨by rw [Rat.neg_num, Int.natAbs_neg]; exact h.1, h.2⟩
theorem ce_abs {p : Rat} (h : fitsR p) : p.ceil.natAbs ≤ 4611686018427387904 := by
  have := fl_abs (fitsR_neg h)
  rw [fl_num] at this
  rw [Rat.ceil_eq_neg_floor_neg, Int.natAbs_neg]; exact this
theorem ce_den1 {p : Rat} (h : p.den = 1) : p.ceil = p.num ∧ p.floor = p.num := by
  rw [← ce_num, ← fl_num, h]; omega
theorem ce_den2 {p : Rat} (h : p.den ≠ 1) : p.ceil = p.floor + 1 := by
  have hp := den_pos' p
  have hlt : (p.floor : Rat) < p := by
    have h1 := Rat.floor_le p
    rcases Rat.le_iff_lt_or_eq.1 h1 with h2 | h2
    · exact h2
    · exact absurd (by rw [← h2]; exact Rat.den_intCast _) h
  have h3 := Rat.lt_floor_add_one p
  have h4 : p.ceil ≤ p.floor + 1 := Rat.ceil_le_iff.2 (by grind)
  have h5 : p.floor < p.ceil := Rat.lt_ceil_iff.2 hlt
  omega
theorem fl_i64 {p : Rat} (h : fitsR p) : p.floor.natAbs ≤ 4611686018427387904 := by rw [← fl_num]; exact fl_abs h

theorem round_sat {x0 x1 k : Int} (hx0 : I64 x0) (hx1 : I64 x1) (hk : -2147483648 ≤ k ∧ k ≤ 2147483647) :
    Sat Tryd.prog (TM .nil 3 [.agg [iv x0, iv x1], .d (.x (.int .i32 k))]) (· = bv true) := by
  constructor
  rw [LRound_eq]; unfold LRound
  have hwk : w64 k = k := w64_of (by omega) (by omega)
  simp only [LRound_q1, LRound_q2, LRound_q3, LRound_q4, LRound_q5, LRound_q6, LRound_q7, LRound_q8, LRound_q9, LRound_q10, mN, mD, ratOf_rat, hwk]
  have hp := mdQ_fits x0 x1
  obtain ⟨p, ep⟩ : ∃ p, mdQ x0 x1 = p := ⟨_, rfl⟩
  rw [ep] at hp
  simp only [ep, ce_num, fl_num, ratOf_int]
  have i0 : (I64 x0 ∧ I64 x1) = True := eq_true ⟨hx0, hx1⟩
  have vp := VF.of hp
  have vk : VF k 1 := VF.i (by omega)
  have vf : VF p.floor 1 := VF.i (fl_i64 hp)
  have vc : VF p.ceil 1 := VF.i (ce_abs hp)
  have vd : VF (p.den : Int) 1 := VF.i hp.2
  have c1 : decide (cmpR (p.floor : Rat) p > 0) = false := by rw [cmpR_pos]; exact decide_eq_false (by have := Rat.floor_le p; grind)
  have c2 : decide (cmpR p (p.ceil : Rat) > 0) = false := by rw [cmpR_pos]; exact decide_eq_false (by have := Rat.le_ceil (x := p); grind)
  have c3 : (!((p.den : Int) == 1) == (p.ceil == p.floor)) = false := by
    by_cases h : p.den = 1
    · rw [(ce_den1 h).1, (ce_den1 h).2, h]; simp
    · rw [ce_den2 h]
      have : ((p.den : Int) == 1) = false := by rw [beq_eq_false_iff_ne]; omega
      rw [this]; simp
      omega
  have c4 : (decide ((p.den : Int) > 1) && p.ceil != w64 (p.floor + 1)) = false := by
    by_cases h : p.den = 1
    · rw [h]; rfl
    · have := fl_i64 hp
      rw [ce_den2 h, w64_of (by omega) (by omega)]; simp
  have c5 : (rE (p + (k : Rat)) == 0 && (rN (p + (k : Rat)) / rD (p + (k : Rat)) != w64 (p.floor + k) || -(-rN (p + (k : Rat)) / rD (p + (k : Rat))) != w64 (p.ceil + k))) = false := by
    by_cases h : fitsR (p + (k : Rat))
    · have f1 := fl_i64 hp
      have f2 := ce_abs hp
      rw [rN_of h, rD_of h, ce_num, fl_num, w64_of (by omega) (by omega), w64_of (by omega) (by omega)]
      have : p.floor + k = (p + (k : Rat)).floor := (Rat.floor_add_intCast).symm
      have : p.ceil + k = (p + (k : Rat)).ceil := (Rat.ceil_add_intCast).symm
      simp [*]
    · rw [rE_no h]; rfl
  have n5 : ((rE (p + (k : Rat)) == 0) = true → VF (rN (p + (k : Rat))) (rD (p + (k : Rat)))) = True := eq_true fun h => by
    have : fitsR (p + (k : Rat)) := Decidable.byContradiction fun hh => by rw [rE_no hh] at h; exact absurd h (by decide)
    exact vf_r this
  have n6 : ((rE (p + (k : Rat)) == 0) = true ∧ (rN (p + (k : Rat)) / rD (p + (k : Rat)) != w64 (p.floor + k)) = false → VF (rN (p + (k : Rat))) (rD (p + (k : Rat)))) = True := eq_true fun h => by
    have h := h.1
    have : fitsR (p + (k : Rat)) := Decidable.byContradiction fun hh => by rw [rE_no hh] at h; exact absurd h (by decide)
    exact vf_r this
  have e7 : p * ((p.den : Int) : Rat) = (p.num : Rat) := by
    have h1 : p = (p.num : Rat) / (p.den : Rat) := by rw [← Rat.mkRat_eq_div, Rat.mkRat_self]
    have h2 : (p.den : Rat) ≠ 0 := fun h => p.den_nz (by exact_mod_cast h)
    have h3 : ((p.den : Int) : Rat) = (p.den : Rat) := Rat.intCast_natCast _
    rw [h3]
    conv => lhs; lhs; rw [h1]
    exact Rat.div_mul_cancel h2
  have f7 : fitsR (p.num : Rat) := ⟨hp.1, by rw [Rat.den_intCast]; omega⟩
  rw [e7, rN_of f7, rD_of f7, rE_of f7]
  simp +decide only [sat_need, sat_ite, sat_ret, bv_inj, c1, c2, c3, c4, c5, n5, n6, vp, vk, vf, vc, vd, i0, Rat.num_intCast, Rat.den_intCast, beq_self_eq_true, bne_self_eq_false, decide_true, Bool.and_true, Bool.true_and, Bool.not_true, Bool.or_false, Bool.false_or, Bool.or_true, Bool.true_or, Bool.and_false, Bool.false_and, true_and, and_true, false_imp_iff, true_imp_iff, reduceCtorEq, forall_const, and_self, Bool.not_false, false_and, and_false, not_true_eq_false, not_false_eq_true, imp_self, implies_true]

theorem fractionRounds_ok : ∃ c : Ctr, CtrOK Tryd.prog 3 c ∧ ∀ ss, okArgs Tryd.prog 6 [22, 21] ss → (c ss).ev (bv true) := by
  refine law_ctr CM_ok DM_ok (by kernel_rfl) (by kernel_rfl) fun ss h => ?_
  obtain ⟨d1, _, rfl, h1, d2, _, rfl, h2, rfl⟩ := h
  obtain ⟨a1, b1, ha1, hb1, rfl⟩ := okPair h1
  obtain ⟨k, hk, rfl⟩ := okT_int (k := .i32) Tryd.underlying21 h2
  have := round_sat ha1 hb1 (k := k) ⟨by have := hk.1; rwa [show IntKind.i32.min = -2147483648 from rfl] at this, by have := hk.2; rwa [show IntKind.i32.max = 2147483647 from rfl] at this⟩
  simp only [svT, Tryd.underlying22, Tryd.underlying21]
  exact ⟨200, .nil, this⟩

end Go.Proofs.YtmdbfhkineaheaaDoor

/- A law's frame where variables are listed: what is listed, and the shape of the world, both are handed to the walk. -/
namespace Go
variable {H : Type} {enc : TypeId × Value → H}

theorem returnsInHanded_of_change_ands {a : Assume} {C : Checked} {os : Os} {f : FuncId} {fn : Func} {s : ChangeSpec} {conds : List PathCond} {apart fresh handsOn again : Bool} {X : World → Array Value → Prop}
    (hX : ∀ (w w' : World) (args : Array Value), w.heap = w'.heap → X w args → X w' args)
    (own : ownKnob C.prog.godebug = none) (started : os.Started) (noInit : C.prog.inits.idxOf? f = none) (hfn : C.prog.funcs[f]? = some fn)
    (witness : ∃ (w : World) (tape : Tape) (i : Input), w.os = os ∧ (w.forCall tape i).Shaped C.prog ∧ i.vars = [] ∧ Input.okWide C.prog (w.forCall tape i) .any w.heap.size f i ∧
      ((s.pre enc C.prog fn conds apart (w.forCall tape i).memory i.args ∧ X (w.forCall tape i).memory i.args) ∧ sizedMet enc C.prog fn (OpenSpec.ofChange s) apart (w.forCall tape i).memory i.args) ∧ a.holds C.prog (lone (Frame.enter C.prog f i.args .normal) [] (w.forCall tape i)))
    (contract : ∀ (W : World) (base : Nat) (args : Array Value) (ds gs : List (DataW H)) (before : List MemPlace),
      (∀ (j : Nat) t v, fn.params[j]? = some t → args[j]? = some v → Value.okWide C.prog W .any base t v) →
      DataW.Whole enc C.prog fn.params.toList s.vars apart W args.toList ds gs before →
      conds.all (PathCond.test C.prog ⟨fn.params.toList, ds, s.plain.varTypes C.prog, gs⟩) = true →
      (DataW.weightsEach C.prog (fn.params.toList ++ s.plain.varTypes C.prog) (ds ++ gs)).all (· ≤ reachBytes) = true → X W args → W.ShapedOpen C.prog →
      a.holds C.prog (lone (Frame.enter C.prog f args .normal) [] W) →
      Calls C.prog f args W fun e W' => ∃ v, e = .returned v ∧ s.post enc C.prog fn apart fresh handsOn again W args v W') :
    ReturnsInHanded a C os f .any (fun w args => (s.pre enc C.prog fn conds apart w args ∧ X w args) ∧ sizedMet enc C.prog fn (OpenSpec.ofChange s) apart w args) (s.post enc C.prog fn apart fresh handsOn again) := by
  refine returnsInHanded_of_calls own started noInit witness ?_
  intro w tape i _ hsh _ hok hpre hholds
  obtain ⟨_, _, _, fn', hfn', _, _, _, _, hval⟩ := hok
  have e : fn' = fn := Option.some.inj (hfn'.symm.trans hfn)
  subst e
  obtain ⟨⟨⟨ds, gs, before, hw, hc⟩, hx⟩, hz⟩ := hpre
  have hw' := DataW.Whole.of_heap (w' := w.forCall tape i) (by rfl) hw
  refine (contract (w.forCall tape i) w.heap.size i.args ds gs before hval hw' hc (hz.weights hw) (hX _ _ _ (by rfl) hx) hsh hholds).mono fun e W' ⟨v, he, hp⟩ => ?_
  subst he
  exact ChangeSpec.post_blind hp

end Go

namespace Go.Proofs.YtmdbfhkineaheaaDoor
open Go.Sx
set_option maxRecDepth 100000

/-! ### What the row's list of variables gives -/

def laid5 : List (String × DataW Unit) := [("math/bits.deBruijn32tab", Rows.laid_math_bits_deBruijn32tab), ("math/bits.deBruijn64tab", Rows.laid_math_bits_deBruijn64tab), ("internal/strconv.uint64pow10", Rows.laid_internal_strconv_uint64pow10), ("strconv.ErrRange", Rows.laid_strconv_ErrRange), ("strconv.ErrSyntax", Rows.laid_strconv_ErrSyntax)]
theorem gPow : Tryd.prog.globalNamed "internal/strconv.uint64pow10" = some 2 := by kernel_rfl
theorem gSyn : Tryd.prog.globalNamed "strconv.ErrSyntax" = some 4 := by kernel_rfl
theorem gRng : Tryd.prog.globalNamed "strconv.ErrRange" = some 5 := by kernel_rfl
theorem plain5 : (laid5.all fun x => x.2.handleName?.isNone) = true := by kernel_rfl
theorem var_obj {w : World} {name : String} {g : Nat} {cs : Array Value} (hg : Tryd.prog.globalNamed name = some g) (h : w.var? Tryd.prog name = some cs) : ∃ e fr, w.heap[g]? = some (.cells cs e fr) := by
  unfold World.var? at h
  rw [hg] at h
  simp only [Option.bind_some] at h
  split at h
  · rename_i c e fr heq
    simp only [Option.some.injEq] at h; subst h
    exact ⟨e, fr, heq⟩
  · cases h
theorem typePow : (Tryd.prog.globals[2]?).map (·.type) = some 99 := by kernel_rfl
theorem typeSyn : (Tryd.prog.globals[4]?).map (·.type) = some 78 := by kernel_rfl
theorem typeRng : (Tryd.prog.globals[5]?).map (·.type) = some 78 := by kernel_rfl
theorem star : "*" ++ "errors.errorString" = "*errors.errorString" := by decide
theorem rowErr (u : TypeId) (h : Tryd.prog.typeName? 3 u = some "*errors.errorString") : u = 117 :=
  typeName_ptr_named (nm := "errors.errorString") (by rw [star]; kernel_rfl) (by kernel_rfl) (by decide) u (by rw [star]; exact h)

theorem glob_of {W : World} (h : laidMetH Tryd.prog laid5 W) (hs : W.ShapedOpen Tryd.prog) : GlobOK W (fun b => b < W.heap.size) := by
  rw [MakeChecks.laidMetH_plain _ _ _ plain5] at h
  have h2 : laidMet Tryd.prog [("internal/strconv.uint64pow10", Lib.tabData .u64 Lib.pow10Tab), ("strconv.ErrRange", Rows.laid_strconv_ErrRange), ("strconv.ErrSyntax", Rows.laid_strconv_ErrSyntax)] W := h.tail.tail
  have ht := Lib.tabIs_of_head gPow typePow Tryd.underlying99 Tryd.underlying49 (by kernel_rfl) (by kernel_rfl) h2
  obtain ⟨a0, s0, hv0, -, -, -⟩ := laid_sentinel h2.tail gRng typeRng Tryd.underlying78 rowErr Tryd.underlying117 Tryd.underlying119 rfl rfl Tryd.underlying9 (by kernel_rfl) (by kernel_rfl)
  obtain ⟨a1, s1, hv1, -, -, -⟩ := laid_sentinel h2.tail.tail gSyn typeSyn Tryd.underlying78 rowErr Tryd.underlying117 Tryd.underlying119 rfl rfl Tryd.underlying9 (by kernel_rfl) (by kernel_rfl)
  obtain ⟨m, hm⟩ := cell_of_shapedOpen_int (g := 3) (t := 3) (zero := #[.int .i64 0]) (k := .i64) hs (of_decide_eq_true (by kernel_rfl)) (by kernel_rfl) rfl (by kernel_rfl) (by kernel_rfl) Tryd.underlying3
  have k1 : okTab Lib.pow10Tab W.heap[2]? := by
    obtain ⟨e, fr, hh⟩ := var_obj gPow ht
    exact ⟨e, fr, hh⟩
  have k2 : okErr W.heap[4]? := by
    obtain ⟨e, fr, hh⟩ := var_obj gSyn hv1
    exact ⟨_, e, fr, _, _, hh, rfl⟩
  have k3 : okErr W.heap[5]? := by
    obtain ⟨e, fr, hh⟩ := var_obj gRng hv0
    exact ⟨_, e, fr, _, _, hh, rfl⟩
  have k4 : okInt W.heap[3]? := cell_okInt hm
  have lt : ∀ {g : Nat} {o : Obj}, W.heap[g]? = some o → g < W.heap.size := fun hh => (Array.getElem?_eq_some_iff.1 hh).1
  refine ⟨fun g n cell hg => (by cases hg), fun g Q hg => ?_⟩
  match g, hg with
  | 2, hg => cases hg; exact ⟨by obtain ⟨e, fr, hh⟩ := k1; exact lt hh, k1⟩
  | 3, hg => cases hg; exact ⟨by obtain ⟨c, e, fr, m, hh, _⟩ := k4; exact lt hh, k4⟩
  | 4, hg => cases hg; exact ⟨by obtain ⟨c, e, fr, t, p, hh, _⟩ := k2; exact lt hh, k2⟩
  | 5, hg => cases hg; exact ⟨by obtain ⟨c, e, fr, t, p, hh, _⟩ := k3; exact lt hh, k3⟩

end Go.Proofs.YtmdbfhkineaheaaDoor

namespace Go.Proofs.YtmdbfhkineaheaaDoor
open Go.ChangeShapes Go.WideShapes Go.ChangeAt Go.RowKit Go.Sx

theorem own : ownKnob Tryd.prog.godebug = none := by kernel_rfl
theorem laidOut : laidOutB Tryd.prog = true := by kernel_rfl
theorem door_met (os : Os) (args : Array Value) : laidMetH Tryd.prog laid5 ((World.doorLaid Tryd.prog 62 os).forCall (fun _ _ => 0) ⟨#[], args, []⟩).memory :=
  laidMetH_of_parts3 (fuel := 8) (laidMet_of_run' 8 (by kernel_rfl) (by kernel_rfl)) (by kernel_rfl) (by kernel_rfl)

set_option maxRecDepth 100000 in
theorem lifted (os : Os) (started : os.Started) (H : Type) (enc : TypeId × Value → H) :
    ReturnsInHanded {} Tryd.checked os 3 .any (fun w args => (Rows.fractionRoundsSpec.pre enc Tryd.prog Tryd.f3 Rows.fractionRoundsRow.domain false w args ∧ laidMetH Tryd.prog laid5 w) ∧ sizedMet enc Tryd.prog Tryd.f3 (OpenSpec.ofChange Rows.fractionRoundsSpec) false w args)
      (Rows.fractionRoundsSpec.post enc Tryd.prog Tryd.f3 false true false false) := by
  refine returnsInHanded_of_change_ands (C := Tryd.checked) (X := fun w _ => laidMetH Tryd.prog laid5 w) (fun _ _ _ hh h => h.of_heap hh) own started (by kernel_rfl) Tryd.func3
    (ChangeSpec.witness_shaped (enc := enc) (C := Tryd.checked) (os := os) (X := fun w _ => laidMetH Tryd.prog laid5 w) false (World.doorLaid Tryd.prog 62 os) #[.agg #[.int .i64 0, .int .i64 0], .int .i32 0] 8 rfl (World.shaped_of_RefB (by kernel_rfl) (by kernel_rfl)) (by kernel_rfl) (by kernel_rfl) (by kernel_rfl) (door_met os _)) ?_
  intro W base args ds gs before hval0 hW hcnd _ hL hsh _
  have hval : ∀ (j : Nat) t v, Tryd.f3.params[j]? = some t → args[j]? = some v → Value.okWide Tryd.prog W .any base t v := hval0
  have hW' := hW
  obtain ⟨p, q, hA0, hV, rfl, hfz, hnd⟩ := hW
  have hA : DataW.TrodAll enc Tryd.prog W 0 (fun _ => true) true Tryd.f3.params.toList args.toList ds p := hA0
  rw [Tryd.params3] at hA hval
  obtain ⟨rfl, rfl⟩ := trodVars_none hV
  obtain ⟨v0, vs0, d0, ds0, p0, q0, hargs, rfl, e0, h0, r0⟩ := trodAll_cons hA
  obtain ⟨v1, vs1, d1, ds1, p1, q1, e1_1, rfl, e2_1, h1, r1⟩ := trodAll_cons r0
  obtain ⟨e3, rfl, e4⟩ := trodAll_nil r1
  obtain ⟨c, hc, hev⟩ := fractionRounds_ok
  have hlt := trodAll_lt hA
  obtain ⟨ss, o1, o2, o3⟩ := open_args (F := fun b => b < W.heap.size) (n := 6) (r := .any) (base := base) (by kernel_rfl) hA (fun j t v a b => hval j t v (by simpa using a) (by simpa using b)) (fun q hq => hlt q hq)
  refine (law_of hc (F := fun b => b < W.heap.size) (fun b hb => hb) (glob_of hL hsh) (ss := ss) ⟨by simpa using o2, fun i hi => by simpa [List.getD, Array.getD_eq_getD_getElem?] using o3 i hi⟩ (hev ss o1)).mono fun e W' ⟨he, bel⟩ => ?_
  subst he
  have hback := trodAll_below laidOut bel (by kernel_rfl) hA
  exact ⟨_, rfl, _, _, _, [], _, [], hW', trodAll_mk1 (shut_bool Tryd.underlying4 _), hback, rfl, bel.frame _, fun h => by cases h⟩

theorem over : Rows.fractionRoundsRow.holds Tryd.pinned (OpenSpec.ofChange Rows.fractionRoundsSpec) :=
  OpenClaim.holds_of_wide 3 Tryd.f3 rfl rfl rfl rfl rfl rfl rfl ⟨rfl, rfl, rfl, rfl, rfl⟩ rfl rfl rfl rfl rfl (by kernel_rfl) Tryd.func3 (by kernel_rfl)
    (of_decide_eq_true (by kernel_rfl)) (by unfold Func.isWrapper; first | (rw [if_pos (by decide +kernel)]; kernel_rfl) | (rw [if_neg (by decide +kernel)]; exact ⟨rfl, rfl⟩))
    (fun os started H enc _ => lifted os started H enc)

theorem fractionRounds_holds : Rows.FractionRoundsCardSaid :=
  Claim7.holds_tied_plain_at .later [] [.data, .data, .data, .sentinel, .sentinel] true (true, "6d02be5a01351df019767fbefeb9d3f06b73233ad493a98c11bdba6b4cb22437") true
    over (fun _ h => by cases h) (by kernel_rfl) (fun _ h => by cases h) fractionRounds_row_tie rfl ⟨rfl, rfl⟩ (by kernel_rfl) rfl
    (fun f fn hf hfn => by
      obtain rfl : f = 3 := Option.some.inj ((show Tryd.prog.funcNamed "wireloom/wireloomlaw02.FractionRounds" = some 3 by kernel_rfl).symm.trans hf) |>.symm
      obtain rfl : fn = Tryd.f3 := (Option.some.inj (Tryd.func3.symm.trans hfn)).symm
      exact ⟨by kernel_rfl, fun j t ht => by
        rw [Tryd.params3] at ht
        have hm : t ∈ [22, 21] := by simpa using Array.mem_of_getElem? ht
        have hall : ([22, 21].all fun u => !Tryd.prog.wantsStandIn u) = true := by kernel_rfl
        exact (show Tryd.prog.wantsStandIn t = false by simpa using List.all_eq_true.1 hall t hm)⟩)
    (by kernel_rfl)
#print axioms fractionRounds_holds
end Go.Proofs.YtmdbfhkineaheaaDoor

