/- Part of a proof of the given statements of this seat (SxChLn, SxChLo, SxChGl, SxChG3J): no conditions beyond those typed here. -/
import Derived.Test.YtgahnelicbddcaaGreatDoorSz15
import Derived.Test.YtgahnelicbddcaaGreatDoorSz16
import Derived.Test.YtgahnelicbddcaaGreatDoorSz04
import Derived.Lib.LaidTab
import Derived.Stop.LaidErr
import Derived.Shelf.Vars
import Derived.MakeChecks
import Derived.Test.YtgahnelicbddcaaGreatDoorRows
import Derived.Test.YtgahnelicbddcaaGreatDoorChecked
import Derived.Test.YtgahnelicbddcaaGreatDoorCards
import Derived.Test.YtgahnelicbddcaaGreatDoorTie
import Derived.SevenTiedAt
import Derived.Lay
set_option linter.unusedVariables false
set_option linter.unusedSimpArgs false
set_option linter.unusedSectionVars false

/- ChipNumbers. -/
namespace Go.Proofs.YtgahnelicbddcaaGreatDoor
open Go.Sx
set_option maxRecDepth 100000
theorem law3_facts {W H T P n : Int} (hg : okG W H T P) (h0 : 0 ≤ n) (h1 : n < gN W H T P) :
    (gE W H T P n = 0 ∧ gF W H T P (gK W H T P n) (gX W H T P n) (gY W H T P n) (gI W H T P n) = 0 ∧ gM W H T P (gK W H T P n) (gX W H T P n) (gY W H T P n) (gI W H T P n) = n) ∧
    (gE W H T P (gN W H T P) = 1 ∧ gE W H T P (-1 - n) = 1) ∧
    (gF W H T P (gK W H T P n) (gX W H T P n + (W + 1)) (gY W H T P n) (gI W H T P n) = 1 ∧ gF W H T P (gK W H T P n) (gX W H T P n) (gY W H T P n) (-1 - gI W H T P n) = 1) ∧
    ((gK W H T P n = 6 ∨ gK W H T P n = 7 ∨ (0 ≤ gX W H T P n ∧ gX W H T P n < W)) ∧ 0 ≤ gY W H T P n ∧ gY W H T P n < H) ∧
    (-1 ≤ gX W H T P n ∧ gX W H T P n ≤ 8) ∧ 0 ≤ gI W H T P n ∧ gI W H T P n ≤ 100 := by
  have hgr := hg.gr
  obtain ⟨⟨a1, a2⟩, ⟨b1, b2⟩, ⟨c1, c2⟩, d1, d2⟩ := hg
  have hcl := cnt_le hgr
  have hN : gN W H T P = ((gr W H T P).cnt : Int) := rfl
  obtain ⟨e1, e2⟩ := dsc_ok hgr h0 (by rw [← hN]; exact h1)
  have hs : (⟨gK W H T P n, gX W H T P n, gY W H T P n, gI W H T P n⟩ : Spt) = dsc (gr W H T P) n := rfl
  have hW : ((gr W H T P).W : Int) = W := by show (W.toNat : Int) = W; omega
  have hH : ((gr W H T P).H : Int) = H := by show (H.toNat : Int) = H; omega
  have hT : ((gr W H T P).T : Int) = T := by show (T.toNat : Int) = T; omega
  have hP : ((gr W H T P).P : Int) = P := by show (P.toNat : Int) = P; omega
  have hE0 : gE W H T P n = 0 := by unfold gE dscE; rw [if_neg (by omega)]
  have hE1 : gE W H T P (gN W H T P) = 1 := by unfold gE dscE; rw [if_pos (by omega)]
  have hE2 : gE W H T P (-1 - n) = 1 := by unfold gE dscE; rw [if_pos (by omega)]
  have hF0 : gF W H T P (gK W H T P n) (gX W H T P n) (gY W H T P n) (gI W H T P n) = 0 := by unfold gF ndE; rw [hs, if_pos e1]
  have hM0 : gM W H T P (gK W H T P n) (gX W H T P n) (gY W H T P n) (gI W H T P n) = n := by unfold gM ndN; rw [hs, if_pos e1, e2]
  rw [← hs] at e1
  generalize gK W H T P n = k at *
  generalize gX W H T P n = x at *
  generalize gY W H T P n = y at *
  generalize gI W H T P n = i at *
  unfold OkS at e1
  simp only [hW, hH, hT, hP] at e1
  have hm := Int.emod_nonneg i (b := H) (by omega)
  have hm2 := Int.emod_lt_of_pos i (b := H) (by omega)
  refine ⟨⟨hE0, hF0, hM0⟩, ⟨hE1, hE2⟩, ⟨?_, ?_⟩, ?_, ?_⟩
  · unfold gF ndE OkS
    simp only [hW, hH, hT, hP]
    rw [if_neg]
    generalize i % H = r at *
    omega
  · unfold gF ndE OkS
    simp only [hW, hH, hT, hP]
    rw [if_neg]
    generalize i % H = r at *
    generalize (-1 - i) % H = r2 at *
    omega
  · generalize i % H = r at *
    omega
  · generalize i % H = r at *
    omega
theorem dsc_pos {W H T P : Int} (hg : okG W H T P) : 1 ≤ (gr W H T P).cnt := by
  obtain ⟨⟨a1, a2⟩, ⟨b1, b2⟩, ⟨c1, c2⟩, d1, d2⟩ := hg
  show 1 ≤ W.toNat * H.toNat * (6 + 2 * T.toNat) + 2 * P.toNat
  have h1 : 1 * 1 ≤ W.toNat * H.toNat := Nat.mul_le_mul (by omega) (by omega)
  have h2 : 1 * 6 ≤ W.toNat * H.toNat * (6 + 2 * T.toNat) := Nat.mul_le_mul (by omega) (by omega)
  omega
theorem any_ok {w h t p : Int} {m : Nat} {f : Nat → Nat → DV} (hr : RawOK w h t p m f) : okG (anN 1 8 w) (anN 1 8 h) (anN 1 8 t) (anN 0 65 p) := by
  have h1 := anN_ok (a := 1) (b := 8) (x := w) (by omega)
  have h2 := anN_ok (a := 1) (b := 8) (x := h) (by omega)
  have h3 := anN_ok (a := 1) (b := 8) (x := t) (by omega)
  have h4 := anN_ok (a := 0) (b := 65) (x := p) (by omega)
  refine ⟨⟨?_, ?_⟩, ⟨?_, ?_⟩, ⟨?_, ?_⟩, ?_, ?_⟩ <;> omega
theorem cnt_pos {W H T P : Int} (hg : okG W H T P) : 1 ≤ gN W H T P ∧ gN W H T P ≤ 1536 := by
  have hcl := (cnt_le hg.gr).2
  have hp := dsc_pos hg
  have hN : gN W H T P = ((gr W H T P).cnt : Int) := rfl
  omega
theorem law3 {w h t p : Int} {m : Nat} {f : Nat → Nat → DV} {k : Int} (hr : RawOK w h t p m f) (hk : 0 ≤ k ∧ k < 65536) : Sat Tryz.prog (TM .nil 3 [rawF w h t p m f, u16V k]) (· = bv true) := by
  refine Sat.of_eq (L3T_eq w h t p m f k) ⟨?_⟩
  have hg := any_ok hr
  unfold L3T L3T_q2 L3T_q1 L3T_q3
  generalize anN 1 8 w = W at *
  generalize anN 1 8 h = H at *
  generalize anN 1 8 t = T at *
  generalize anN 0 65 p = P at *
  have hN := cnt_pos hg
  rw [w64_of (n := k) (by omega) (by omega)]
  have hn0 : 0 ≤ Int.tmod k (gN W H T P) := Int.tmod_nonneg _ hk.1
  have hn1 : Int.tmod k (gN W H T P) < gN W H T P := Int.tmod_lt_of_pos _ (by omega)
  generalize Int.tmod k (gN W H T P) = n at *
  obtain ⟨⟨e1, e2, e3⟩, ⟨e4, e5⟩, ⟨e6, e7⟩, ⟨e8, e9, e10⟩, ⟨e11, e12⟩, e13, e14⟩ := law3_facts hg hn0 hn1
  have hb := hg
  obtain ⟨⟨a1, a2⟩, ⟨b1, b2⟩, ⟨c1, c2⟩, d1, d2⟩ := hb
  rw [w64_of (n := -1 - n) (by omega) (by omega), w64_of (n := W + 1) (by omega) (by omega), w64_of (n := gX W H T P n + (W + 1)) (by omega) (by omega), w64_of (n := -1 - gI W H T P n) (by omega) (by omega)]
  have hi1 : i64B n := ⟨by omega, by omega⟩
  have hi2 : i64B (gN W H T P) := ⟨by omega, by omega⟩
  have hi3 : i64B (-1 - n) := ⟨by omega, by omega⟩
  rw [e2, e3, e4, e5, e6, e7, e1]
  simp only [sat_need, sat_ite, sat_ret, hr, hg, hi1, hi2, hi3, true_and, forall_const, implies_true]
  refine ⟨(fun h => by cases h), fun h => absurd (of_decide_eq_true h) (by omega), fun _ => ⟨by omega, fun h => ?_, fun _ => ?_⟩⟩
  · simp at h
  · refine congrArg bv ?_
    simp only [Bool.and_eq_true, Bool.or_eq_true, beq_iff_eq, decide_eq_true_eq, and_true, true_and]
    omega
end Go.Proofs.YtgahnelicbddcaaGreatDoor

/- ChipNumbers: the law's contract. -/
namespace Go.Proofs.YtgahnelicbddcaaGreatDoor
open Go.Sx
set_option maxRecDepth 100000
theorem chipNumbers_ok : ∃ c : Ctr, CtrOK Tryz.prog 3 c ∧ ∀ ss, okArgs Tryz.prog 6 [24, 25] ss → (c ss).ev (bv true) := by
  refine law_ctr CM_ok DM_ok (by kernel_rfl) (by kernel_rfl) fun ss h => ?_
  obtain ⟨d1, r1, rfl, k1, d2, r2, rfl, k2, rfl⟩ := h
  obtain ⟨w, h, t, p, m, f, hr, e1⟩ := raw_arg k1
  obtain ⟨k, hk, e2⟩ := u16_arg k2
  rw [e1, e2]
  exact ⟨200, .nil, law3 hr hk⟩
end Go.Proofs.YtgahnelicbddcaaGreatDoor

namespace Go.Proofs.YtgahnelicbddcaaGreatDoor
open Go.Sx
set_option maxRecDepth 100000

/-! ### What the row's list of variables gives -/

def laid5 : List (String × DataW Unit) := [("math/bits.deBruijn32tab", Rows.laid_math_bits_deBruijn32tab), ("math/bits.deBruijn64tab", Rows.laid_math_bits_deBruijn64tab), ("internal/strconv.uint64pow10", Rows.laid_internal_strconv_uint64pow10), ("unicode/utf8.acceptRanges", Rows.laid_unicode_utf8_acceptRanges), ("strconv.ErrRange", Rows.laid_strconv_ErrRange), ("strconv.ErrSyntax", Rows.laid_strconv_ErrSyntax), ("unicode/utf8.first", Rows.laid_unicode_utf8_first)]
theorem glPow : Tryz.prog.globalNamed "internal/strconv.uint64pow10" = some 1 := by kernel_rfl
theorem glSyn : Tryz.prog.globalNamed "strconv.ErrSyntax" = some 2 := by kernel_rfl
theorem glRng : Tryz.prog.globalNamed "strconv.ErrRange" = some 3 := by kernel_rfl
theorem plain5 : (laid5.all fun x => x.2.handleName?.isNone) = true := by kernel_rfl
theorem var_obj {w : World} {name : String} {g : Nat} {cs : Array Value} (hg : Tryz.prog.globalNamed name = some g) (h : w.var? Tryz.prog name = some cs) : ∃ e fr, w.heap[g]? = some (.cells cs e fr) := by
  unfold World.var? at h
  rw [hg] at h
  simp only [Option.bind_some] at h
  split at h
  · rename_i c e fr heq
    simp only [Option.some.injEq] at h; subst h
    exact ⟨e, fr, heq⟩
  · cases h
theorem typePow : (Tryz.prog.globals[1]?).map (·.type) = some 168 := by kernel_rfl
theorem typeSyn : (Tryz.prog.globals[2]?).map (·.type) = some 82 := by kernel_rfl
theorem typeRng : (Tryz.prog.globals[3]?).map (·.type) = some 82 := by kernel_rfl
theorem star : "*" ++ "errors.errorString" = "*errors.errorString" := by decide
theorem rowErr (u : TypeId) (h : Tryz.prog.typeName? 3 u = some "*errors.errorString") : u = 187 :=
  typeName_ptr_named (nm := "errors.errorString") (by rw [star]; kernel_rfl) (by kernel_rfl) (by decide) u (by rw [star]; exact h)

theorem glob_of {W : World} (h : laidMetH Tryz.prog laid5 W) (hs : W.ShapedOpen Tryz.prog) : GlobOK W (fun b => b < W.heap.size) := by
  rw [MakeChecks.laidMetH_plain _ _ _ plain5] at h
  have h2 : laidMet Tryz.prog [("internal/strconv.uint64pow10", Lib.tabData .u64 Lib.pow10Tab), ("unicode/utf8.acceptRanges", Rows.laid_unicode_utf8_acceptRanges), ("strconv.ErrRange", Rows.laid_strconv_ErrRange), ("strconv.ErrSyntax", Rows.laid_strconv_ErrSyntax), ("unicode/utf8.first", Rows.laid_unicode_utf8_first)] W := h.tail.tail
  have ht := Lib.tabIs_of_head glPow typePow Tryz.underlying168 Tryz.underlying147 (by kernel_rfl) (by kernel_rfl) h2
  obtain ⟨a0, s0, hv0, -, -, -⟩ := laid_sentinel h2.tail.tail glRng typeRng Tryz.underlying82 rowErr Tryz.underlying187 Tryz.underlying189 rfl rfl Tryz.underlying9 (by kernel_rfl) (by kernel_rfl)
  obtain ⟨a1, s1, hv1, -, -, -⟩ := laid_sentinel h2.tail.tail.tail glSyn typeSyn Tryz.underlying82 rowErr Tryz.underlying187 Tryz.underlying189 rfl rfl Tryz.underlying9 (by kernel_rfl) (by kernel_rfl)
  obtain ⟨m, hm⟩ := cell_of_shapedOpen_int (g := 0) (t := 3) (zero := #[.int .i64 0]) (k := .i64) hs (of_decide_eq_true (by kernel_rfl)) (by kernel_rfl) rfl (by kernel_rfl) (by kernel_rfl) Tryz.underlying3
  have k1 : okTab Lib.pow10Tab W.heap[1]? := by
    obtain ⟨e, fr, hh⟩ := var_obj glPow ht
    exact ⟨e, fr, hh⟩
  have k2 : okErr W.heap[2]? := by
    obtain ⟨e, fr, hh⟩ := var_obj glSyn hv1
    exact ⟨_, e, fr, _, _, hh, rfl⟩
  have k3 : okErr W.heap[3]? := by
    obtain ⟨e, fr, hh⟩ := var_obj glRng hv0
    exact ⟨_, e, fr, _, _, hh, rfl⟩
  have k4 : okInt W.heap[0]? := cell_okInt hm
  have lt : ∀ {g : Nat} {o : Obj}, W.heap[g]? = some o → g < W.heap.size := fun hh => (Array.getElem?_eq_some_iff.1 hh).1
  refine ⟨fun g n cell hg => (by cases hg), fun g Q hg => ?_⟩
  match g, hg with
  | 1, hg => cases hg; exact ⟨by obtain ⟨e, fr, hh⟩ := k1; exact lt hh, k1⟩
  | 0, hg => cases hg; exact ⟨by obtain ⟨c, e, fr, m, hh, _⟩ := k4; exact lt hh, k4⟩
  | 2, hg => cases hg; exact ⟨by obtain ⟨c, e, fr, t, p, hh, _⟩ := k2; exact lt hh, k2⟩
  | 3, hg => cases hg; exact ⟨by obtain ⟨c, e, fr, t, p, hh, _⟩ := k3; exact lt hh, k3⟩

end Go.Proofs.YtgahnelicbddcaaGreatDoor

namespace Go.Proofs.YtgahnelicbddcaaGreatDoor
open Go.ChangeShapes Go.WideShapes Go.ChangeAt Go.RowKit Go.Sx

theorem own : ownKnob Tryz.prog.godebug = none := by kernel_rfl
theorem laidOut : laidOutB Tryz.prog = true := by kernel_rfl

set_option maxRecDepth 100000 in
theorem lifted (os : Os) (started : os.Started) (H : Type) (enc : TypeId × Value → H) :
    ReturnsInHanded {} Tryz.checked os 3 .any (fun w args => (Rows.chipNumbersSpec.pre enc Tryz.prog Tryz.f3 Rows.chipNumbersRow.domain false w args ∧ laidMetH Tryz.prog laid5 w) ∧ sizedMet enc Tryz.prog Tryz.f3 (OpenSpec.ofChange Rows.chipNumbersSpec) false w args)
      (Rows.chipNumbersSpec.post enc Tryz.prog Tryz.f3 false true false false) := by
  refine returnsInHanded_of_change_ands (C := Tryz.checked) (X := fun w _ => laidMetH Tryz.prog laid5 w) (fun _ _ _ hh h => h.of_heap hh) own started (by kernel_rfl) Tryz.func3
    (ChangeSpec.witness_shaped (enc := enc) (C := Tryz.checked) (os := os) (X := fun w _ => laidMetH Tryz.prog laid5 w) false (World.laidAll Tryz.prog os laid5) #[.agg #[.int .u8 0, .int .u8 0, .int .u8 0, .int .u8 0, .slice none 0 0], .int .u16 0] 8 (World.laidAll_os _ _ _) (World.shaped_of_ZipB (by kernel_rfl) (by kernel_rfl)) (by kernel_rfl) (by kernel_rfl) (by kernel_rfl) (by rw [MakeChecks.laidMetH_plain _ _ _ (by kernel_rfl)]; exact laidMet_laidAll _ (by kernel_rfl) (by kernel_rfl))) ?_
  intro W base args ds gs before hval0 hW hcnd _ hL hsh _
  have hval : ∀ (j : Nat) t v, Tryz.f3.params[j]? = some t → args[j]? = some v → Value.okWide Tryz.prog W .any base t v := hval0
  have hW' := hW
  obtain ⟨p, q, hA0, hV, rfl, hfz, hnd⟩ := hW
  have hA : DataW.TrodAll enc Tryz.prog W 0 (fun _ => true) true Tryz.f3.params.toList args.toList ds p := hA0
  rw [Tryz.params3] at hA hval
  obtain ⟨rfl, rfl⟩ := trodVars_none hV
  obtain ⟨v0, vs0, d0, ds0, p0, q0, hargs, rfl, e0, h0, r0⟩ := trodAll_cons hA
  obtain ⟨v1, vs1, d1, ds1, p1, q1, e1_1, rfl, e2_1, h1, r1⟩ := trodAll_cons r0
  obtain ⟨e3, rfl, e4⟩ := trodAll_nil r1
  obtain ⟨c, hc, hev⟩ := chipNumbers_ok
  have hlt := trodAll_lt hA
  obtain ⟨ss, o1, o2, o3⟩ := open_args (F := fun b => b < W.heap.size) (n := 6) (r := .any) (base := base) (by kernel_rfl) hA (fun j t v a b => hval j t v (by simpa using a) (by simpa using b)) (fun q hq => hlt q hq)
  refine (law_of hc (F := fun b => b < W.heap.size) (fun b hb => hb) (glob_of hL hsh) (ss := ss) ⟨by simpa using o2, fun i hi => by simpa [List.getD, Array.getD_eq_getD_getElem?] using o3 i hi⟩ (hev ss o1)).mono fun e W' ⟨he, bel⟩ => ?_
  subst he
  have hback := trodAll_below laidOut bel (by kernel_rfl) hA
  exact ⟨_, rfl, _, _, _, [], _, [], hW', trodAll_mk1 (shut_bool Tryz.underlying4 _), hback, rfl, bel.frame _, fun h => by cases h⟩

theorem over : Rows.chipNumbersRow.holds Tryz.pinned (OpenSpec.ofChange Rows.chipNumbersSpec) :=
  OpenClaim.holds_of_wide 3 Tryz.f3 rfl rfl rfl rfl rfl rfl rfl ⟨rfl, rfl, rfl, rfl, rfl⟩ rfl rfl rfl rfl rfl (by kernel_rfl) Tryz.func3 (by kernel_rfl)
    (of_decide_eq_true (by kernel_rfl)) (by unfold Func.isWrapper; first | (rw [if_pos (by decide +kernel)]; kernel_rfl) | (rw [if_neg (by decide +kernel)]; exact ⟨rfl, rfl⟩))
    (fun os started H enc _ => lifted os started H enc)

theorem chipNumbers_holds : Rows.ChipNumbersCardSaid :=
  Claim7.holds_tied_plain_at .later [] [.data, .data, .data, .data, .sentinel, .sentinel, .pinned] true (true, "852957a0fd3a95ff81f08367dbb2fe76ca4ada6cce9636746d3b1b7e667c6a4c") true
    over (fun _ h => by cases h) (by kernel_rfl) (fun _ h => by cases h) chipNumbers_row_tie rfl ⟨rfl, rfl⟩ (by kernel_rfl) rfl
    (fun f fn hf hfn => by
      obtain rfl : f = 3 := Option.some.inj ((show Tryz.prog.funcNamed "wireloom/wireloomlaw28.ChipNumbers" = some 3 by kernel_rfl).symm.trans hf) |>.symm
      obtain rfl : fn = Tryz.f3 := (Option.some.inj (Tryz.func3.symm.trans hfn)).symm
      exact ⟨by kernel_rfl, fun j t ht => by
        rw [Tryz.params3] at ht
        have hm : t ∈ [24, 25] := by simpa using Array.mem_of_getElem? ht
        have hall : ([24, 25].all fun u => !Tryz.prog.wantsStandIn u) = true := by kernel_rfl
        exact (show Tryz.prog.wantsStandIn t = false by simpa using List.all_eq_true.1 hall t hm)⟩)
    (by kernel_rfl)
#print axioms chipNumbers_holds
end Go.Proofs.YtgahnelicbddcaaGreatDoor

