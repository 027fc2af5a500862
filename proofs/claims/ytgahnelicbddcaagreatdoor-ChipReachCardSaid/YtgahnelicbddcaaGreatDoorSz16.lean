/- Part of a proof of the given statements of this seat (SyLaw, SxChAr, SxChQb, SxChQc, SxChQd, SxChQa, SxChQe, SxChQf, SxChQg, SxChQh, SxChQi, SxChLn, SxChQj): no conditions beyond those typed here. -/
import Derived.HandedShaped
import Derived.Handed
import Derived.LaidMore
import Derived.LaidLaws
import Derived.Test.YtgahnelicbddcaaGreatDoorSz03
import Derived.Test.YtgahnelicbddcaaGreatDoorSz15
import Derived.Test.YtgahnelicbddcaaGreatDoorSz14
set_option linter.unusedVariables false
set_option linter.unusedSimpArgs false
set_option linter.unusedSectionVars false

/- A law's frame where variables are listed: what is listed, and the shape of the world, both are handed to the walk. -/
namespace Go
variable {H : Type} {enc : TypeId × Value → H}

theorem returnsInHanded_of_change_ands {a : Assume} {C : Checked} {os : Os} {f : FuncId} {fn : Func} {s : ChangeSpec} {conds : List PathCond} {apart fresh handsOn again : Bool} {X : World → Array Value → Prop}
    (hX : ∀ (w w' : World) (args : Array Value), w.heap = w'.heap → X w args → X w' args)
    (own : ownKnob C.prog.godebug = none) (started : os.Started) (noInit : C.prog.inits.idxOf? f = none) (hfn : C.prog.funcs[f]? = some fn)
    (witness : ∃ (w : World) (tape : Tape) (i : Input), w.os = os ∧ (w.forCall tape i).Shaped C.prog ∧ i.vars = [] ∧ Input.okWide C.prog (w.forCall tape i) .any w.heap.size f i ∧
      ((s.pre enc C.prog fn conds apart (w.forCall tape i).memory i.args ∧ X (w.forCall tape i).memory i.args) ∧ sizedMet enc C.prog fn (OpenSpec.ofChange s) apart (w.forCall tape i).memory i.args) ∧ a.holds C.prog (lone (Frame.enter C.prog f i.args .normal) [] (w.forCall tape i)))
    (contract : ∀ (W : World) (base : Nat) (args : Array Value) (ds gs : List (DataW H)) (before : List MemPlace),
      (∀ (j : Nat) t v, fn.params[j]? = some t → args[j]? = some v → Value.okWide C.prog W .any base t v) →
      DataW.Whole enc C.prog fn.params.toList s.vars apart W args.toList ds gs before →
      conds.all (PathCond.test C.prog ⟨fn.params.toList, ds, s.plain.varTypes C.prog, gs⟩) = true →
      (DataW.weightsEach C.prog (fn.params.toList ++ s.plain.varTypes C.prog) (ds ++ gs)).all (· ≤ reachBytes) = true → X W args → W.ShapedOpen C.prog →
      a.holds C.prog (lone (Frame.enter C.prog f args .normal) [] W) →
      Calls C.prog f args W fun e W' => ∃ v, e = .returned v ∧ s.post enc C.prog fn apart fresh handsOn again W args v W') :
    ReturnsInHanded a C os f .any (fun w args => (s.pre enc C.prog fn conds apart w args ∧ X w args) ∧ sizedMet enc C.prog fn (OpenSpec.ofChange s) apart w args) (s.post enc C.prog fn apart fresh handsOn again) := by
  refine returnsInHanded_of_calls own started noInit witness ?_
  intro w tape i _ hsh _ hok hpre hholds
  obtain ⟨_, _, _, fn', hfn', _, _, _, _, hval⟩ := hok
  have e : fn' = fn := Option.some.inj (hfn'.symm.trans hfn)
  subst e
  obtain ⟨⟨⟨ds, gs, before, hw, hc⟩, hx⟩, hz⟩ := hpre
  have hw' := DataW.Whole.of_heap (w' := w.forCall tape i) (by rfl) hw
  refine (contract (w.forCall tape i) w.heap.size i.args ds gs before hval hw' hc (hz.weights hw) (hX _ _ _ (by rfl) hx) hsh hholds).mono fun e W' ⟨v, he, hp⟩ => ?_
  subst he
  exact ChangeSpec.post_blind hp

end Go

/- The laws' arguments. -/
namespace Go.Proofs.YtgahnelicbddcaaGreatDoor
open Go.Sx
set_option maxRecDepth 100000
theorem u22 : Tryz.prog.underlying 22 = some (.slice 5) := by kernel_rfl
theorem u5 : Tryz.prog.underlying 5 = some (.int .u8) := by kernel_rfl
theorem u25 : Tryz.prog.underlying 25 = some (.int .u16) := by kernel_rfl
theorem c5 : Tryz.prog.cellsOf 5 = 1 := by kernel_rfl
theorem s24 : (match Tryz.prog.underlying 24 with | some (.struct fs) => some (fs.toList.map (·.type)) | _ => none) = some [5, 5, 5, 5, 22] := by kernel_rfl
theorem fs24 : ∃ fs, Tryz.prog.underlying 24 = some (.struct fs) ∧ ∃ a b c d e, fs.toList = [a, b, c, d, e] ∧ a.type = 5 ∧ b.type = 5 ∧ c.type = 5 ∧ d.type = 5 ∧ e.type = 22 := by
  have h := s24
  split at h
  · rename_i fs hu
    refine ⟨fs, hu, ?_⟩
    simp only [Option.some.injEq] at h
    generalize fs.toList = L at h
    obtain ⟨a, l1, rfl, ta, h⟩ := List.map_eq_cons_iff.1 h
    obtain ⟨b, l2, rfl, tb, h⟩ := List.map_eq_cons_iff.1 h
    obtain ⟨c, l3, rfl, tc, h⟩ := List.map_eq_cons_iff.1 h
    obtain ⟨d, l4, rfl, td, h⟩ := List.map_eq_cons_iff.1 h
    obtain ⟨e, l5, rfl, te, h⟩ := List.map_eq_cons_iff.1 h
    obtain rfl := List.map_eq_nil_iff.1 h
    exact ⟨a, b, c, d, e, rfl, ta, tb, tc, td, te⟩
  · cases h
theorem byte_arg {n : Nat} {ds : List DV} (h : okT Tryz.prog (n + 1) 5 ds) : ∃ v : Int, (0 ≤ v ∧ v < 256) ∧ ds = [.x (.int .u8 v)] := by
  obtain ⟨v, hv, he⟩ := okT_int u5 h
  have h0 : IntKind.u8.min = 0 := rfl
  have h1 : IntKind.u8.max = 255 := rfl
  exact ⟨v, by omega, he⟩
theorem bytes_arg {n : Nat} {ds : List DV} (h : okT Tryz.prog (n + 2) 22 ds) : ∃ (m : Nat) (f : Nat → Nat → DV), ds = [.ro m 1 f] ∧ ∀ a, a < m → f a 0 = .x (.int .u8 (intCell (f a 0))) ∧ 0 ≤ intCell (f a 0) ∧ intCell (f a 0) < 256 := by
  unfold okT at h
  rw [u22] at h
  obtain ⟨m, cell, hm, rfl, hc⟩ := h
  rw [c5] at hc ⊢
  refine ⟨m, cell, rfl, fun a ha => ?_⟩
  obtain ⟨v, hv, he⟩ := byte_arg (hc a ha)
  have : cell a 0 = .x (.int .u8 v) := by simpa [List.range, List.range.loop] using he
  rw [this]
  exact ⟨rfl, hv⟩
theorem raw_arg {ds : List DV} (h : okT Tryz.prog 6 24 ds) : ∃ (w h t p : Int) (m : Nat) (f : Nat → Nat → DV), RawOK w h t p m f ∧ svT Tryz.prog 24 ds = rawF w h t p m f := by
  obtain ⟨fs, hu, a, b, c, d, e, hl, ta, tb, tc, td, te⟩ := fs24
  unfold okT at h
  rw [hu] at h
  simp only [hl, okFs, ta, tb, tc, td, te] at h
  obtain ⟨d1, r1, rfl, k1, d2, r2, rfl, k2, d3, r3, rfl, k3, d4, r4, rfl, k4, d5, r5, rfl, k5, rfl⟩ := h
  obtain ⟨v1, b1, rfl⟩ := byte_arg k1
  obtain ⟨v2, b2, rfl⟩ := byte_arg k2
  obtain ⟨v3, b3, rfl⟩ := byte_arg k3
  obtain ⟨v4, b4, rfl⟩ := byte_arg k4
  obtain ⟨m, f, rfl, hf⟩ := bytes_arg k5
  refine ⟨v1, v2, v3, v4, m, f, ⟨⟨b1, b2, b3, b4⟩, hf⟩, ?_⟩
  unfold svT
  rw [hu]
  rfl
theorem u16_arg {ds : List DV} (h : okT Tryz.prog 6 25 ds) : ∃ v : Int, (0 ≤ v ∧ v < 65536) ∧ svT Tryz.prog 25 ds = u16V v := by
  obtain ⟨v, hv, rfl⟩ := okT_int (n := 5) u25 h
  have h0 : IntKind.u16.min = 0 := rfl
  have h1 : IntKind.u16.max = 65535 := rfl
  refine ⟨v, by omega, ?_⟩
  unfold svT; rw [u25]; rfl
end Go.Proofs.YtgahnelicbddcaaGreatDoor

namespace Go.Proofs.YtgahnelicbddcaaGreatDoor
open Go.Sx
set_option maxRecDepth 100000
noncomputable def tHas (m : Nat) (c : Nat → Int) (n : Int) : Tree SV := T0 .nil 34 [ro64 m c, iv n]
noncomputable def LHas (m : Nat) (c : Nat → Int) (n : Int) : Tree SV :=
  .code (codeC (sub [] (tHas m c n))) (codeS (sub [] (tHas m c n))) (codeK (sub [] (tHas m c n)))

theorem LHas_eq (m : Nat) (c : Nat → Int) (n : Int) : tHas m c n = LHas m c n := by kernel_rfl

noncomputable def invHas (m : Nat) (c : Nat → Int) (n : Int) (r : Bool) (j : Int) : AS := ⟨[.ok (ro64 m c), .ok (iv n), .unk, .unk, .ok (bv r), .ok (iv j)] ++ List.replicate 12 .unk, [], 0, .nil⟩
noncomputable def bodyHas : Code := loopN (bodyOf Tryz.prog 34) 0
noncomputable def BHas_q1 (c : Nat → Int) (i : Nat) (x : Nat) : DV :=
  DV.x (.int .i64 (c i))
noncomputable def BHas (m : Nat) (c : Nat → Int) (n : Int) (r : Bool) (j : Int) : Tree (Ex × AS) :=
  .ite (decide (j < (↑m : Int)))
  (.need ((0 : Int) ≤ j ∧ j < (↑m : Int))
   (.ite (c (Int.toNat j) == n)
   (.ret
   (.ret,
   {
   tm := [.ok (SV.d (DV.ro m 1 (BHas_q1 c))), .ok (iv n), .unk, .unk, .ok (bv true), .ok (iv j), .unk, .unk, .unk, .unk, .unk, .unk, .unk, .unk, .unk, .unk, .unk, .unk],
   hp := [], next := 0, hint := .nil }))
   (.ret
   (.normal,
   {
   tm :=
   [.ok (SV.d (DV.ro m 1 (BHas_q1 c))), .ok (iv n), .unk, .unk, .ok (bv r), .ok (iv (w64 (j + (1 : Int)))), .unk, .unk, .unk, .unk, .unk, .unk, .unk, .unk, .unk, .unk, .unk,
   .unk],
   hp := [], next := 0, hint := .nil }))))
  (.ret
   (.exit 0,
   {
   tm := [.ok (SV.d (DV.ro m 1 (BHas_q1 c))), .ok (iv n), .unk, .unk, .ok (bv r), .ok (iv j), .unk, .unk, .unk, .unk, .unk, .unk, .unk, .unk, .unk, .unk, .unk, .unk], hp := [],
   next := 0, hint := .nil }))

theorem BHas_eq (m : Nat) (c : Nat → Int) (n : Int) (r : Bool) (j : Int) : cutT 0 [] [0, 1, 4, 5] [] 0 .nil (exec Tryz.prog C0 D0 200 bodyHas (invHas m c n r j)) = BHas m c n r j := by kernel_rfl

noncomputable def KHas (m : Nat) (c : Nat → Int) (n : Int) (r : Bool) (j : Int) : Tree SV :=
  .ret (bv false)

theorem KHas_eq (m : Nat) (c : Nat → Int) (n : Int) (r : Bool) (j : Int) : codeK (sub [] (tHas m c n)) (.exit 0) (invHas m c n r j) = KHas m c n r j := by kernel_rfl

noncomputable def RHas (m : Nat) (c : Nat → Int) (n : Int) (r : Bool) (j : Int) : Tree SV :=
  .ret (bv r)

theorem RHas_eq (m : Nat) (c : Nat → Int) (n : Int) (r : Bool) (j : Int) : codeK (sub [] (tHas m c n)) .ret (invHas m c n r j) = RHas m c n r j := by kernel_rfl


end Go.Proofs.YtgahnelicbddcaaGreatDoor

/- Is a number in a list? -/
namespace Go.Sx
def hasB (m : Nat) (f : Nat → Nat → DV) (n : Int) : Bool := decide (n ∈ lsOf m f)
def _root_.Go.Proofs.RowOK (m : Nat) (f : Nat → Nat → DV) : Prop := m ≤ 1000000000 ∧ Proofs.IntRow m f
end Go.Sx
namespace Go.Proofs.YtgahnelicbddcaaGreatDoor
open Go.Sx
set_option maxRecDepth 100000
theorem rg_snoc {α : Type} (j : Nat) (c : Nat → α) : (List.range (j + 1)).map c = (List.range j).map c ++ [c j] := by rw [List.range_succ, List.map_append]; rfl
theorem has_sat {m : Nat} {c : Nat → Int} {n : Int} (hm : m ≤ 1000000000) : Sat Tryz.prog (tHas m c n) (· = bv (decide (n ∈ (List.range m).map c))) := by
  constructor
  rw [LHas_eq]; unfold LHas
  refine code_satS C0_ok D0_ok (n := 200) (n0 := 0) (nx := 0) (roots := []) (keep := [0, 1, 4, 5]) (drop := []) (h := .nil) (c := codeC (sub [] (tHas m c n))) (st := codeS (sub [] (tHas m c n))) (k := codeK (sub [] (tHas m c n))) (body := bodyHas) (by kernel_rfl) (by kernel_rfl)
    (fun q s => ∃ j : Nat, q = m - j ∧ j ≤ m ∧ n ∉ (List.range j).map c ∧ s = invHas m c n false j)
    (fun e s => (e = .exit 0 ∧ n ∉ (List.range m).map c ∧ ∃ j, s = invHas m c n false j) ∨ (e = .ret ∧ n ∈ (List.range m).map c ∧ ∃ j, s = invHas m c n true j))
    ⟨_, _, ⟨0, rfl, by omega, by simp, rfl⟩, ?_⟩ ?_ ?_
  · exact entA_sound (roots := []) (keep := [0, 1, 4, 5]) (drop := []) (nx := 0) (h := .nil) (by kernel_rfl)
  · rintro q s ⟨j, rfl, hj, hn, rfl⟩
    refine Sat.of_eq (BHas_eq m c n false j) ?_
    constructor; unfold BHas
    refine ⟨fun h1 => ⟨?_, fun h2 => ?_, fun h2 => ?_⟩, fun h1 => ?_⟩
    · simp only [decide_eq_true_eq] at h1; omega
    · simp only [decide_eq_true_eq, beq_iff_eq, Int.toNat_natCast] at h1 h2
      exact ⟨_, .inr ⟨rfl, List.mem_map.2 ⟨j, List.mem_range.2 (by omega), h2⟩, _, rfl⟩, Gc.refl _ _⟩
    · simp only [decide_eq_true_eq, beq_eq_false_iff_ne, Int.toNat_natCast, ne_eq] at h1 h2
      rw [w64_of (n := (j : Int) + 1) (by omega) (by omega)]
      refine ⟨m - (j + 1), _, by omega, ⟨j + 1, rfl, by omega, ?_, rfl⟩, Gc.refl _ _⟩
      rw [rg_snoc, List.mem_append, List.mem_singleton]
      rintro (h | h)
      · exact hn h
      · exact h2 h.symm
    · simp only [decide_eq_false_iff_not] at h1
      obtain rfl : j = m := by omega
      exact ⟨_, .inl ⟨rfl, hn, _, rfl⟩, Gc.refl _ _⟩
  · rintro e s (⟨rfl, hn, j, rfl⟩ | ⟨rfl, hn, j, rfl⟩)
    · refine Sat.of_eq (KHas_eq m c n _ j) ⟨?_⟩
      show bv false = _
      rw [decide_eq_false hn]
    · refine Sat.of_eq (RHas_eq m c n _ j) ⟨?_⟩
      show bv true = _
      rw [decide_eq_true hn]
noncomputable def cHas : Ctr := fun ss => match ss with
  | [.d (.ro m 1 f), .d (.x (.int .i64 n))] => .need (RowOK m f) (.ret (bv (hasB m f n)))
  | _ => .fail
theorem cHas_ok : CtrOK Tryz.prog 34 cHas := by
  refine ctrOK_leS C0_ok D0_ok (by kernel_rfl) (by kernel_rfl) fun ss r hr => ?_
  unfold cHas at hr
  split at hr
  · rename_i m f n
    obtain ⟨h1, rfl⟩ := hr
    have k0 := has_sat (c := fun i => intCell (f i 0)) (n := n) h1.1
    refine ⟨_, 200, .nil, ?_, k0⟩
    refine ⟨⟨rfl, rfl, fun i j hi hj => ?_⟩, rfl, by simp only [leSVs]⟩
    obtain rfl : j = 0 := by omega
    exact h1.2 i hi
  · exact hr.elim
theorem hasB_cell (L : List Int) (n : Int) : hasB L.length (fun i _ => .x (.int .i64 (L.getD i 0))) n = decide (n ∈ L) := by
  have : lsOf L.length (fun i _ => .x (.int .i64 (L.getD i 0))) = L := lsOf_cellL L
  unfold hasB; rw [this]
theorem rowOK_cell {L : List Int} (h : L.length ≤ 1000000000) : RowOK L.length (fun i _ => .x (.int .i64 (L.getD i 0))) := ⟨h, fun i hi => rfl⟩
end Go.Proofs.YtgahnelicbddcaaGreatDoor

namespace Go.Proofs.YtgahnelicbddcaaGreatDoor
open Go.Sx
set_option maxRecDepth 100000
noncomputable def tShu (n : Int) (m : Nat) (c : Nat → Int) : Tree SV := T0 .nil 68 [iv n, byT m c]
noncomputable def LShu (n : Int) (m : Nat) (c : Nat → Int) : Tree SV :=
  .code (codeC (sub [] (tShu n m c))) (codeS (sub [] (tShu n m c))) (codeK (sub [] (tShu n m c)))

theorem LShu_eq (n : Int) (m : Nat) (c : Nat → Int) : tShu n m c = LShu n m c := by kernel_rfl

noncomputable def invShu (n : Int) (m : Nat) (c : Nat → Int) (L : List Int) (j : Int) : AS := ⟨[.ok (iv n), .ok (byT m c), .unk, .unk, .unk, .ok (.row 1 0 0 L.length 1), .ok (iv j)] ++ List.replicate 32 .unk, [none, some (lB L)], 2, .nil⟩
noncomputable def bodyShu : Code := loopN (bodyOf Tryz.prog 68) 0
noncomputable def BShu_q1 (c : Nat → Int) (i : Nat) (x : Nat) : DV :=
  DV.x (.int .u8 (c i))
noncomputable def BShu_q2 (c : Nat → Int) (L : List Int) (j : Int) (a : Nat) (b : Nat) : DV :=
  selD (decide (a < 0 + (Int.toNat (Int.tmod (w64 (c (Int.toNat j))) (w64 (j + (1 : Int)))) - 0) + 1))
  (selD (decide (0 + a < 0 + (Int.toNat (Int.tmod (w64 (c (Int.toNat j))) (w64 (j + (1 : Int)))) - 0))) (DV.x (.int .i64 (List.getD L (0 + (0 + (0 + a) - 0)) (0 : Int))))
   (dsAt [DV.x (.int .i64 j)] (0 + (0 + (0 + a - (0 + (Int.toNat (Int.tmod (w64 (c (Int.toNat j))) (w64 (j + (1 : Int)))) - 0)))) * 1 + b)))
  (DV.x
   (.int .i64
   (List.getD L (0 + Int.toNat (Int.tmod (w64 (c (Int.toNat j))) (w64 (j + (1 : Int)))) + (a - (0 + (Int.toNat (Int.tmod (w64 (c (Int.toNat j))) (w64 (j + (1 : Int)))) - 0) + 1))) (0 : Int))))
noncomputable def BShu_q3 (L : List Int) (j : Int) (a : Nat) (b : Nat) : DV :=
  selD (decide (a < 1)) (DV.x (.int .i64 (bif decide (0 + a < 0) then List.getD L (0 + (0 + (0 + a) - 0)) (0 : Int) else j)))
  (DV.x (.int .i64 (List.getD L (0 + (a - 1)) (0 : Int))))
noncomputable def BShu_q4 (L : List Int) (i : Nat) (x : Nat) : DV :=
  DV.x (.int .i64 (List.getD L i (0 : Int)))
noncomputable def BShu (n : Int) (m : Nat) (c : Nat → Int) (L : List Int) (j : Int) : Tree (Ex × AS) :=
  .ite (decide (j < n))
  (.ite (decide (j < (↑m : Int)))
   (.need ((0 : Int) ≤ j ∧ j < (↑m : Int))
   (.need (w64 (j + (1 : Int)) ≠ (0 : Int))
   (.need (((0 : Int) ≤ Int.tmod (w64 (c (Int.toNat j))) (w64 (j + (1 : Int))) ∧ Int.toNat (Int.tmod (w64 (c (Int.toNat j))) (w64 (j + (1 : Int)))) ≤ List.length L) ∧ True)
   (.need
   (0 ≤ 0 ∧
   0 + (Int.toNat (Int.tmod (w64 (c (Int.toNat j))) (w64 (j + (1 : Int)))) - 0) ≤ List.length L ∧
   (0 + (Int.toNat (Int.tmod (w64 (c (Int.toNat j))) (w64 (j + (1 : Int)))) - 0)) * 8 ≤ 140737488355328)
   (.need
   (0 + (0 + (Int.toNat (Int.tmod (w64 (c (Int.toNat j))) (w64 (j + (1 : Int)))) - 0)) ≤ 0 + (Int.toNat (Int.tmod (w64 (c (Int.toNat j))) (w64 (j + (1 : Int)))) - 0) ∧
   1 ≤ 1 ∧ (0 + (Int.toNat (Int.tmod (w64 (c (Int.toNat j))) (w64 (j + (1 : Int)))) - 0) + 1) * 8 ≤ 140737488355328)
   (.need (True ∧ (0 : Int) ≤ Int.tmod (w64 (c (Int.toNat j))) (w64 (j + (1 : Int))) ∧ Int.toNat (Int.tmod (w64 (c (Int.toNat j))) (w64 (j + (1 : Int)))) ≤ List.length L)
   (.need
   (0 + (0 + (Int.toNat (Int.tmod (w64 (c (Int.toNat j))) (w64 (j + (1 : Int)))) - 0) + 1) ≤
   0 + (Int.toNat (Int.tmod (w64 (c (Int.toNat j))) (w64 (j + (1 : Int)))) - 0) + 1 ∧
   0 + Int.toNat (Int.tmod (w64 (c (Int.toNat j))) (w64 (j + (1 : Int)))) + (List.length L - Int.toNat (Int.tmod (w64 (c (Int.toNat j))) (w64 (j + (1 : Int))))) ≤ List.length L ∧
   (0 + (Int.toNat (Int.tmod (w64 (c (Int.toNat j))) (w64 (j + (1 : Int)))) - 0) + 1 + (List.length L - Int.toNat (Int.tmod (w64 (c (Int.toNat j))) (w64 (j + (1 : Int)))))) * 8 ≤
   140737488355328)
   (.ret
   (.normal,
   {
   tm :=
   [.ok (iv n), .ok (SV.d (DV.ro m 1 (BShu_q1 c))), .unk, .unk, .unk,
   .ok
   (SV.row 1 0 0
   (0 + (Int.toNat (Int.tmod (w64 (c (Int.toNat j))) (w64 (j + (1 : Int)))) - 0) + 1 + (List.length L - Int.toNat (Int.tmod (w64 (c (Int.toNat j))) (w64 (j + (1 : Int)))))) 1),
   .ok (iv (w64 (j + (1 : Int)))), .unk, .unk, .unk, .unk, .unk, .unk, .unk, .unk, .unk, .unk, .unk, .unk, .unk, .unk, .unk, .unk, .unk, .unk, .unk, .unk, .unk, .unk,
   .unk, .unk, .unk, .unk, .unk, .unk, .unk, .unk, .unk, .unk],
   hp :=
   [none,
   some
   (.row (0 + (Int.toNat (Int.tmod (w64 (c (Int.toNat j))) (w64 (j + (1 : Int)))) - 0) + 1 + (List.length L - Int.toNat (Int.tmod (w64 (c (Int.toNat j))) (w64 (j + (1 : Int))))))
   1 (BShu_q2 c L j))],
   next := 2, hint := .nil })))))))))
   (.need (((0 : Int) ≤ (0 : Int) ∧ 0 ≤ List.length L) ∧ True)
   (.need (0 ≤ 0 ∧ 0 ≤ List.length L ∧ 0 ≤ 140737488355328)
   (.need (0 ≤ 0 ∧ 1 ≤ 1 ∧ 8 ≤ 140737488355328)
   (.need (True ∧ (0 : Int) ≤ (0 : Int) ∧ 0 ≤ List.length L)
   (.need (1 ≤ 1 ∧ 0 + (List.length L - 0) ≤ List.length L ∧ (1 + (List.length L - 0)) * 8 ≤ 140737488355328)
   (.ret
   (.normal,
   {
   tm :=
   [.ok (iv n), .ok (SV.d (DV.ro m 1 (BShu_q1 c))), .unk, .unk, .unk, .ok (SV.row 1 0 0 (1 + (List.length L - 0)) 1),
   .ok (iv (w64 (j + (1 : Int)))), .unk, .unk, .unk, .unk, .unk, .unk, .unk, .unk, .unk, .unk, .unk, .unk, .unk, .unk, .unk, .unk, .unk, .unk, .unk, .unk, .unk, .unk,
   .unk, .unk, .unk, .unk, .unk, .unk, .unk, .unk, .unk, .unk],
   hp := [none, some (.row (1 + (List.length L - 0)) 1 (BShu_q3 L j))], next := 2, hint := .nil }))))))))
  (.ret
   (.exit 0,
   {
   tm :=
   [.ok (iv n), .ok (SV.d (DV.ro m 1 (BShu_q1 c))), .unk, .unk, .unk, .ok (SV.row 1 0 0 (List.length L) 1), .ok (iv j), .unk, .unk, .unk, .unk,
   .unk, .unk, .unk, .unk, .unk, .unk, .unk, .unk, .unk, .unk, .unk, .unk, .unk, .unk, .unk, .unk, .unk, .unk, .unk, .unk, .unk, .unk, .unk, .unk, .unk, .unk, .unk, .unk],
   hp := [none, some (.row (List.length L) 1 (BShu_q4 L))], next := 2, hint := .nil }))

theorem BShu_eq (n : Int) (m : Nat) (c : Nat → Int) (L : List Int) (j : Int) : cutT 1 [(.slot 5, 1)] [0, 1, 5, 6] [] 2 .nil (exec Tryz.prog C0 D0 200 bodyShu (invShu n m c L j)) = BShu n m c L j := by kernel_rfl

noncomputable def KShu_q1 (L : List Int) (i : Nat) (j : Nat) : DV :=
  DV.x (.int .i64 (List.getD L (0 + i) (0 : Int)))
noncomputable def KShu (n : Int) (m : Nat) (c : Nat → Int) (L : List Int) (j : Int) : Tree SV :=
  .need (0 + List.length L ≤ List.length L) (.ret (SV.d (DV.ro (List.length L) 1 (KShu_q1 L))))

theorem KShu_eq (n : Int) (m : Nat) (c : Nat → Int) (L : List Int) (j : Int) : codeK (sub [] (tShu n m c)) (.exit 0) (invShu n m c L j) = KShu n m c L j := by kernel_rfl


end Go.Proofs.YtgahnelicbddcaaGreatDoor

/- What drives what in a grid: plain facts for the laws on directions, tracks and reach. -/
namespace Go.Proofs.YtgahnelicbddcaaGreatDoor
open Go.Sx
set_option maxRecDepth 100000

theorem mem_refD {w h t p a n : Int} : a ∈ refD w h t p n ↔ (0 ≤ n ∧ n < (gr w h t p).cnt) ∧ (0 ≤ a ∧ a < (gr w h t p).cnt) ∧ canN w h t p a n = true := by
  unfold refD
  by_cases hE : gE w h t p n = 0
  · rw [if_pos hE, List.mem_filter, mem_upTo]
    exact ⟨fun h => ⟨gE_0.1 hE, h⟩, fun h => h.2⟩
  · rw [if_neg hE]
    exact ⟨fun h => absurd h (by simp), fun h => absurd (gE_0.2 h.1) hE⟩
theorem mem_refN {w h t p a n : Int} : a ∈ refN w h t p n ↔ (0 ≤ n ∧ n < (gr w h t p).cnt) ∧ (0 ≤ a ∧ a < (gr w h t p).cnt) ∧ canN w h t p n a = true := by
  unfold refN
  by_cases hE : gE w h t p n = 0
  · rw [if_pos hE, List.mem_filter, mem_upTo]
    exact ⟨fun h => ⟨gE_0.1 hE, h⟩, fun h => h.2⟩
  · rw [if_neg hE]
    exact ⟨fun h => absurd h (by simp), fun h => absurd (gE_0.2 h.1) hE⟩
theorem inc_refD {w h t p n : Int} : Inc (refD w h t p n) := by
  unfold refD; split
  · exact List.Pairwise.filter _ (inc_upTo _)
  · exact List.Pairwise.nil
theorem inc_refN {w h t p n : Int} : Inc (refN w h t p n) := by
  unfold refN; split
  · exact List.Pairwise.filter _ (inc_upTo _)
  · exact List.Pairwise.nil
theorem can_iff {w h t p a b : Int} : canN w h t p a b = true ↔ canP w h (gK w h t p a) (gX w h t p a) (gY w h t p a) (gI w h t p a) (gK w h t p b) (gX w h t p b) (gY w h t p b) (gI w h t p b) := canB_iff _ _ _ _ _ _ _ _ _ _
/-- A node told by its description. -/
structure NdAt (w h t p n k x y i : Int) : Prop where
  r0 : 0 ≤ n
  r1 : n < (gr w h t p).cnt
  k : gK w h t p n = k
  x : gX w h t p n = x
  y : gY w h t p n = y
  i : gI w h t p n = i
theorem nd_at {w h t p k x y i : Int} (hg : okG w h t p) (ho : OkS (gr w h t p) ⟨k, x, y, i⟩) : NdAt w h t p (gM w h t p k x y i) k x y i := by
  have e : gM w h t p k x y i = numS (gr w h t p) ⟨k, x, y, i⟩ := by unfold gM ndN; rw [if_pos ho]
  obtain ⟨h1, h2⟩ := num_ok hg.gr ho
  rw [e]
  refine ⟨h1.1, h1.2, ?_, ?_, ?_, ?_⟩
  · unfold gK; rw [h2]
  · unfold gX; rw [h2]
  · unfold gY; rw [h2]
  · unfold gI; rw [h2]
theorem nd_uni {w h t p m n k x y i : Int} (hg : okG w h t p) (h1 : NdAt w h t p m k x y i) (h2 : NdAt w h t p n k x y i) : m = n :=
  dsc_inj hg.gr h1.r0 h1.r1 h2.r0 h2.r1 (Spt.ext' (h1.k.trans h2.k.symm) (h1.x.trans h2.x.symm) (h1.y.trans h2.y.symm) (h1.i.trans h2.i.symm))
theorem wire_at {w h t p k x y i : Int} (hg : okG w h t p) (hk : k = 4 ∨ k = 5) (hx : 0 ≤ x ∧ x < w) (hy : 0 ≤ y ∧ y < h) (hi : 0 ≤ i ∧ i < t) : NdAt w h t p (gM w h t p k x y i) k x y i := by
  refine nd_at hg (.inr (.inr ?_))
  obtain ⟨g1, g2, g3, g4⟩ := gr_c hg
  rw [g1, g2, g3]
  exact ⟨⟨hx.1, hx.2, hy.1, hy.2⟩, .inr (.inr ⟨hk, hi.1, hi.2⟩)⟩
theorem pin_at {w h t p x y i : Int} (hg : okG w h t p) (hx : 0 ≤ x ∧ x < w) (hy : 0 ≤ y ∧ y < h) (hi : 0 ≤ i ∧ i < 4) : NdAt w h t p (gM w h t p 3 x y i) 3 x y i := by
  refine nd_at hg (.inr (.inr ?_))
  obtain ⟨g1, g2, g3, g4⟩ := gr_c hg
  rw [g1, g2]
  exact ⟨⟨hx.1, hx.2, hy.1, hy.2⟩, .inr (.inl ⟨rfl, hi.1, hi.2⟩)⟩
theorem flip_at {w h t p x y : Int} (hg : okG w h t p) (hx : 0 ≤ x ∧ x < w) (hy : 0 ≤ y ∧ y < h) : NdAt w h t p (gM w h t p 2 x y 0) 2 x y 0 := by
  refine nd_at hg (.inr (.inr ?_))
  obtain ⟨g1, g2, g3, g4⟩ := gr_c hg
  rw [g1, g2]
  exact ⟨⟨hx.1, hx.2, hy.1, hy.2⟩, .inl ⟨.inr rfl, rfl⟩⟩
theorem drives {w h t p a b k x y i k' x' y' i' : Int} (ha : NdAt w h t p a k x y i) (hb : NdAt w h t p b k' x' y' i') (hc : canP w h k x y i k' x' y' i') : b ∈ refN w h t p a ∧ a ∈ refD w h t p b := by
  have : canN w h t p a b = true := can_iff.2 (by rw [ha.k, ha.x, ha.y, ha.i, hb.k, hb.x, hb.y, hb.i]; exact hc)
  exact ⟨mem_refN.2 ⟨⟨ha.r0, ha.r1⟩, ⟨hb.r0, hb.r1⟩, this⟩, mem_refD.2 ⟨⟨hb.r0, hb.r1⟩, ⟨ha.r0, ha.r1⟩, this⟩⟩
theorem nd_self {w h t p a : Int} (h0 : 0 ≤ a) (h1 : a < (gr w h t p).cnt) : NdAt w h t p a (gK w h t p a) (gX w h t p a) (gY w h t p a) (gI w h t p a) := ⟨h0, h1, rfl, rfl, rfl, rfl⟩

/-! ### Directions -/
theorem src_iff {w h t p a : Int} (hg : okG w h t p) (h0 : 0 ≤ a) (h1 : a < (gr w h t p).cnt) : refD w h t p a = [] ↔ (gK w h t p a = 1 ∨ gK w h t p a = 2 ∨ gK w h t p a = 6) := by
  have hb := hg
  obtain ⟨⟨a1, a2⟩, ⟨b1, b2⟩, ⟨c1, c2⟩, d1, d2⟩ := hb
  have hf := (ndF hg h0 h1).ok
  have hm := emod_B (i := gI w h t p a) (h := h) (by omega)
  have hs := nd_self h0 h1
  constructor
  · intro he
    have hno : ∀ b k x y i, NdAt w h t p b k x y i → ¬ canP w h k x y i (gK w h t p a) (gX w h t p a) (gY w h t p a) (gI w h t p a) := fun b k x y i hb hc => by
      have := (drives hb hs hc).2
      rw [he] at this; cases this
    generalize gK w h t p a = k, gX w h t p a = x, gY w h t p a = y, gI w h t p a = i at *
    rcases hf with ⟨e1, _⟩ | ⟨e1, e2, e3, e4, e5⟩ | ⟨hxy, ⟨e1, e2⟩ | ⟨e1, e2, e3⟩ | ⟨e1, e2, e3⟩⟩
    · exact .inr (.inr e1)
    · exfalso
      refine hno _ _ _ _ _ (wire_at hg (k := 4) (x := w - 1) (y := y) (i := 0) (.inl rfl) (by omega) (by omega) (by omega)) ?_
      refine .inr (.inr (.inr ⟨.inl rfl, .inr ⟨by omega, .inr ⟨e1, ?_⟩⟩⟩))
      exact ⟨by omega, .inl ⟨.inl rfl, rfl, rfl⟩⟩
    · rcases e1 with e1 | e1
      · exact .inl e1
      · exact .inr (.inl e1)
    · exfalso
      refine hno _ _ _ _ _ (wire_at hg (k := 4) (x := x) (y := y) (i := 0) (.inl rfl) (by omega) (by omega) (by omega)) ?_
      refine .inr (.inr (.inr ⟨.inl rfl, .inr ⟨by omega, .inl ⟨e1, ?_⟩⟩⟩))
      exact ⟨by omega, .inl ⟨.inl rfl, rfl, rfl⟩⟩
    · exfalso
      refine hno _ _ _ _ _ (flip_at hg (x := x) (y := y) (by omega) (by omega)) ?_
      refine .inr (.inl ⟨rfl, ?_⟩)
      exact ⟨by omega, .inl ⟨e1, rfl, rfl⟩⟩
  · intro hk
    refine List.eq_nil_iff_forall_not_mem.2 fun b hb => ?_
    have hc := can_iff.1 (mem_refD.1 hb).2.2
    unfold canP adjP at hc
    omega
theorem snk_iff {w h t p a : Int} (hg : okG w h t p) (h0 : 0 ≤ a) (h1 : a < (gr w h t p).cnt) : refN w h t p a = [] ↔ (gK w h t p a = 3 ∨ gK w h t p a = 7) := by
  have hb := hg
  obtain ⟨⟨a1, a2⟩, ⟨b1, b2⟩, ⟨c1, c2⟩, d1, d2⟩ := hb
  have hf := (ndF hg h0 h1).ok
  have hm := emod_B (i := gI w h t p a) (h := h) (by omega)
  have hs := nd_self h0 h1
  constructor
  · intro he
    have hno : ∀ b k x y i, NdAt w h t p b k x y i → ¬ canP w h (gK w h t p a) (gX w h t p a) (gY w h t p a) (gI w h t p a) k x y i := fun b k x y i hb hc => by
      have := (drives hs hb hc).1
      rw [he] at this; cases this
    generalize gK w h t p a = k, gX w h t p a = x, gY w h t p a = y, gI w h t p a = i at *
    rcases hf with ⟨e1, e2, e3, e4, e5⟩ | ⟨e1, e2, e3, e4, e5⟩ | ⟨hxy, ⟨e1, e2⟩ | ⟨e1, e2, e3⟩ | ⟨e1, e2, e3⟩⟩
    · exfalso
      refine hno _ _ _ _ _ (wire_at hg (k := 4) (x := 0) (y := y) (i := 0) (.inl rfl) (by omega) (by omega) (by omega)) ?_
      refine .inr (.inr (.inl ⟨e1, ?_⟩))
      exact ⟨by omega, .inl ⟨.inl rfl, rfl, rfl⟩⟩
    · exact .inr e1
    · exfalso
      refine hno _ _ _ _ _ (wire_at hg (k := 4) (x := x) (y := y) (i := 0) (.inl rfl) (by omega) (by omega) (by omega)) ?_
      rcases e1 with e1 | e1
      · exact .inl ⟨e1, .inl ⟨by omega, .inl ⟨.inl rfl, rfl, rfl⟩⟩⟩
      · exact .inr (.inl ⟨e1, by omega, .inl ⟨.inl rfl, rfl, rfl⟩⟩)
    · exact .inl e1
    · exfalso
      refine hno _ _ _ _ _ (pin_at hg (x := x) (y := y) (i := 0) (by omega) (by omega) (by omega)) ?_
      refine .inr (.inr (.inr ⟨e1, .inr ⟨by omega, .inl ⟨rfl, ?_⟩⟩⟩))
      exact ⟨by omega, .inl ⟨e1, rfl, rfl⟩⟩
  · intro hk
    refine List.eq_nil_iff_forall_not_mem.2 fun b hb => ?_
    have hc := can_iff.1 (mem_refN.1 hb).2.2
    unfold canP at hc
    omega

/-! ### Reach -/
theorem reach_all {w h t p a tr : Int} (hg : okG w h t p) (h0 : 0 ≤ a) (h1 : a < (gr w h t p).cnt) (ha : gK w h t p a = 1 ∨ gK w h t p a = 2 ∨ gK w h t p a = 6) (ht : 0 ≤ tr ∧ tr < t) (S : Int → Prop)
    (hS : ∀ m, (m = a ∨ S m) → ∀ b, b ∈ refN w h t p m → (gK w h t p b = 4 ∨ gK w h t p b = 5 → gI w h t p b = tr) → S b) {b : Int} (b0 : 0 ≤ b) (b1 : b < (gr w h t p).cnt) (hb : gK w h t p b = 3 ∨ gK w h t p b = 7) : S b := by
  have hbd := hg
  obtain ⟨⟨a1, a2⟩, ⟨bb1, bb2⟩, ⟨c1, c2⟩, d1, d2⟩ := hbd
  have step : ∀ {k x y k' x' y'}, (k = 4 ∨ k = 5) → (k' = 4 ∨ k' = 5) → (0 ≤ x ∧ x < w) → (0 ≤ y ∧ y < h) → (0 ≤ x' ∧ x' < w) → (0 ≤ y' ∧ y' < h) → S (gM w h t p k x y tr) → ¬ (k = k' ∧ x = x' ∧ y = y') →
      (adjP w h k' x' y' x y ∨ (k = 4 ∧ adjP w h k' x' y' (x + 1) y) ∨ (k = 5 ∧ adjP w h k' x' y' x (y + 1))) → S (gM w h t p k' x' y' tr) := by
    intro k x y k' x' y' hk hk' hx hy hx' hy' hs hne hm
    have w1 := wire_at hg hk hx hy ht
    have w2 := wire_at hg hk' hx' hy' ht
    refine hS _ (.inr hs) _ (drives w1 w2 (.inr (.inr (.inr ⟨hk, .inl ⟨hk', by omega, rfl, hm⟩⟩)))).1 fun _ => w2.i
  have first : ∃ x y, (0 ≤ x ∧ x < w) ∧ (0 ≤ y ∧ y < h) ∧ S (gM w h t p 4 x y tr) := by
    have hf := (ndF hg h0 h1).ok
    have hm := emod_B (i := gI w h t p a) (h := h) (by omega)
    have hs := nd_self h0 h1
    generalize gK w h t p a = k, gX w h t p a = x, gY w h t p a = y, gI w h t p a = i at *
    rcases ha with ha | ha | ha
    · have hx : 0 ≤ x ∧ x < w := by omega
      have hy : 0 ≤ y ∧ y < h := by omega
      have w1 := wire_at hg (k := 4) (.inl rfl) hx hy ht
      exact ⟨x, y, hx, hy, hS _ (.inl rfl) _ (drives hs w1 (.inl ⟨ha, .inl ⟨by omega, .inl ⟨.inl rfl, rfl, rfl⟩⟩⟩)).1 fun _ => w1.i⟩
    · have hx : 0 ≤ x ∧ x < w := by omega
      have hy : 0 ≤ y ∧ y < h := by omega
      have w1 := wire_at hg (k := 4) (.inl rfl) hx hy ht
      exact ⟨x, y, hx, hy, hS _ (.inl rfl) _ (drives hs w1 (.inr (.inl ⟨ha, ⟨by omega, .inl ⟨.inl rfl, rfl, rfl⟩⟩⟩))).1 fun _ => w1.i⟩
    · have hy : 0 ≤ y ∧ y < h := by omega
      have w1 := wire_at hg (k := 4) (x := 0) (.inl rfl) (by omega) hy ht
      exact ⟨0, y, by omega, hy, hS _ (.inl rfl) _ (drives hs w1 (.inr (.inr (.inl ⟨ha, ⟨by omega, .inl ⟨.inl rfl, rfl, rfl⟩⟩⟩)))).1 fun _ => w1.i⟩
  obtain ⟨x0, y0, hx0, hy0, s0⟩ := first
  have hv : ∀ {x y}, (0 ≤ x ∧ x < w) → (0 ≤ y ∧ y < h) → S (gM w h t p 4 x y tr) → S (gM w h t p 5 x y tr) := fun hx hy hs =>
    step (.inl rfl) (.inr rfl) hx hy hx hy hs (by omega) (.inl ⟨by omega, .inl ⟨.inr rfl, rfl, rfl⟩⟩)
  have vh : ∀ {x y}, (0 ≤ x ∧ x < w) → (0 ≤ y ∧ y < h) → S (gM w h t p 5 x y tr) → S (gM w h t p 4 x y tr) := fun hx hy hs =>
    step (.inr rfl) (.inl rfl) hx hy hx hy hs (by omega) (.inl ⟨by omega, .inl ⟨.inl rfl, rfl, rfl⟩⟩)
  have right : ∀ {x y}, (0 ≤ x ∧ x + 1 < w) → (0 ≤ y ∧ y < h) → S (gM w h t p 4 x y tr) → S (gM w h t p 4 (x + 1) y tr) := fun {x y} hx hy hs =>
    step (.inl rfl) (.inl rfl) ⟨hx.1, by omega⟩ hy ⟨by omega, hx.2⟩ hy hs (by omega) (.inr (.inl ⟨rfl, by omega, .inl ⟨.inl rfl, rfl, rfl⟩⟩))
  have left : ∀ {x y}, (0 ≤ x ∧ x + 1 < w) → (0 ≤ y ∧ y < h) → S (gM w h t p 4 (x + 1) y tr) → S (gM w h t p 4 x y tr) := fun {x y} hx hy hs =>
    step (.inl rfl) (.inl rfl) ⟨by omega, hx.2⟩ hy ⟨hx.1, by omega⟩ hy hs (by omega) (.inl ⟨by omega, .inr (.inl ⟨rfl, rfl, rfl⟩)⟩)
  have up : ∀ {x y}, (0 ≤ x ∧ x < w) → (0 ≤ y ∧ y + 1 < h) → S (gM w h t p 4 x y tr) → S (gM w h t p 4 x (y + 1) tr) := fun {x y} hx hy hs =>
    vh hx ⟨by omega, hy.2⟩ (step (.inr rfl) (.inr rfl) hx ⟨hy.1, by omega⟩ hx ⟨by omega, hy.2⟩ (hv hx ⟨hy.1, by omega⟩ hs) (by omega) (.inr (.inr ⟨rfl, by omega, .inl ⟨.inr rfl, rfl, rfl⟩⟩)))
  have down : ∀ {x y}, (0 ≤ x ∧ x < w) → (0 ≤ y ∧ y + 1 < h) → S (gM w h t p 4 x (y + 1) tr) → S (gM w h t p 4 x y tr) := fun {x y} hx hy hs =>
    vh hx ⟨hy.1, by omega⟩ (step (.inr rfl) (.inr rfl) hx ⟨by omega, hy.2⟩ hx ⟨hy.1, by omega⟩ (hv hx ⟨by omega, hy.2⟩ hs) (by omega) (.inl ⟨by omega, .inr (.inr ⟨rfl, rfl, rfl⟩)⟩))
  have goL : ∀ (n : Nat) {x y : Int}, x.toNat = n → (0 ≤ x ∧ x < w) → (0 ≤ y ∧ y < h) → S (gM w h t p 4 x y tr) → S (gM w h t p 4 0 y tr) := by
    intro n
    induction n with
    | zero => intro x y hn hx hy hs; obtain rfl : x = 0 := by omega
              exact hs
    | succ n ih => intro x y hn hx hy hs
                   exact ih (x := x - 1) (by omega) (by omega) hy (left (x := x - 1) (by omega) hy (by rw [show x - 1 + 1 = x by omega]; exact hs))
  have goD : ∀ (n : Nat) {y : Int}, y.toNat = n → (0 ≤ y ∧ y < h) → S (gM w h t p 4 0 y tr) → S (gM w h t p 4 0 0 tr) := by
    intro n
    induction n with
    | zero => intro y hn hy hs; obtain rfl : y = 0 := by omega
              exact hs
    | succ n ih => intro y hn hy hs
                   exact ih (y := y - 1) (by omega) (by omega) (down (y := y - 1) (by omega) (by omega) (by rw [show y - 1 + 1 = y by omega]; exact hs))
  have s00 : S (gM w h t p 4 0 0 tr) := goD _ rfl hy0 (goL _ rfl hx0 hy0 s0)
  have goU : ∀ (n : Nat), (n : Int) < h → S (gM w h t p 4 0 n tr) := by
    intro n
    induction n with
    | zero => intro _; exact s00
    | succ n ih => intro hn; exact up (y := n) (by omega) (by omega) (ih (by omega))
  have goR : ∀ (n : Nat) {y : Int}, (n : Int) < w → (0 ≤ y ∧ y < h) → S (gM w h t p 4 n y tr) := by
    intro n
    induction n with
    | zero => intro y _ hy; have := goU y.toNat (by omega); rw [show ((y.toNat : Nat) : Int) = y by omega] at this; exact this
    | succ n ih => intro y hn hy; exact right (x := n) (by omega) hy (ih (by omega) hy)
  have all : ∀ {x y : Int}, (0 ≤ x ∧ x < w) → (0 ≤ y ∧ y < h) → S (gM w h t p 4 x y tr) := fun {x y} hx hy => by
    have := goR x.toNat (y := y) (by omega) hy; rw [show ((x.toNat : Nat) : Int) = x by omega] at this; exact this
  have hf := (ndF hg b0 b1).ok
  have hm := emod_B (i := gI w h t p b) (h := h) (by omega)
  have hs := nd_self b0 b1
  have hnw : ¬ (gK w h t p b = 4 ∨ gK w h t p b = 5) := by omega
  rcases hb with hb | hb
  · have hx : 0 ≤ gX w h t p b ∧ gX w h t p b < w := by omega
    have hy : 0 ≤ gY w h t p b ∧ gY w h t p b < h := by omega
    have w1 := wire_at hg (k := 4) (.inl rfl) hx hy ht
    refine hS _ (.inr (all hx hy)) _ (drives w1 hs ?_).1 fun h => absurd h hnw
    exact .inr (.inr (.inr ⟨.inl rfl, .inr ⟨hnw, .inl ⟨hb, by omega, .inl ⟨.inl rfl, rfl, rfl⟩⟩⟩⟩))
  · have hy : 0 ≤ gY w h t p b ∧ gY w h t p b < h := by omega
    have w1 := wire_at hg (k := 4) (x := w - 1) (.inl rfl) (by omega) hy ht
    refine hS _ (.inr (all (by omega) hy)) _ (drives w1 hs ?_).1 fun h => absurd h hnw
    exact .inr (.inr (.inr ⟨.inl rfl, .inr ⟨hnw, .inr ⟨hb, by omega, .inl ⟨.inl rfl, rfl, rfl⟩⟩⟩⟩))

/-! ### Tracks -/
theorem len_sub : ∀ {A B : List Int}, A.Pairwise (· ≠ ·) → (∀ x, x ∈ A → x ∈ B) → A.length ≤ B.length
  | [], B, _, _ => by simp
  | a :: A, B, hn, hs => by
    have h1 := List.pairwise_cons.1 hn
    have hm := hs a (by simp)
    have h2 := len_sub (A := A) (B := B.erase a) h1.2 fun x hx => (List.mem_erase_of_ne (Ne.symm (h1.1 x hx))).2 (hs x (by simp [hx]))
    have h3 := List.length_erase_of_mem hm
    have h4 := List.length_pos_of_mem hm
    rw [List.length_cons]; omega
theorem ne_of_inc {A : List Int} (h : Inc A) : A.Pairwise (· ≠ ·) := h.imp fun h => by omega
/-- The node with its track renumbered. -/
def rnI (L : List Int) (k i : Int) : Int := if k = 4 ∨ k = 5 then L.getD i.toNat 0 else i
def rnN (w h t p : Int) (L : List Int) (a : Int) : Int := gM w h t p (gK w h t p a) (gX w h t p a) (gY w h t p a) (rnI L (gK w h t p a) (gI w h t p a))
structure TrOK (t : Int) (L : List Int) : Prop where
  perm : L.Perm (upTo t.toNat)
theorem TrOK.len {t : Int} {L : List Int} (h : TrOK t L) : L.length = t.toNat := by
  rw [h.perm.length_eq]; unfold upTo; simp
theorem TrOK.rng {t : Int} {L : List Int} (h : TrOK t L) {i : Int} (hi : 0 ≤ i ∧ i < t) : 0 ≤ L.getD i.toNat 0 ∧ L.getD i.toNat 0 < t := by
  have hl := h.len
  have hlt : i.toNat < L.length := by omega
  have hm : L.getD i.toNat 0 ∈ upTo t.toNat := h.perm.mem_iff.1 (by rw [List.getD_eq_getElem?_getD, List.getElem?_eq_getElem hlt]; exact List.getElem_mem hlt)
  have := mem_upTo.1 hm
  omega
theorem TrOK.inj {t : Int} {L : List Int} (h : TrOK t L) {i j : Int} (hi : 0 ≤ i ∧ i < t) (hj : 0 ≤ j ∧ j < t) (he : L.getD i.toNat 0 = L.getD j.toNat 0) : i = j := by
  have hl := h.len
  have hn : L.Nodup := h.perm.nodup_iff.2 (ne_of_inc (inc_upTo _))
  have h1 : i.toNat < L.length := by omega
  have h2 : j.toNat < L.length := by omega
  rw [List.getD_eq_getElem?_getD, List.getD_eq_getElem?_getD, List.getElem?_eq_getElem h1, List.getElem?_eq_getElem h2] at he
  have he : L[i.toNat] = L[j.toNat] := he
  have hp := List.pairwise_iff_getElem.1 hn
  rcases Nat.lt_trichotomy i.toNat j.toNat with h3 | h3 | h3
  · exact absurd he (hp _ _ h1 h2 h3)
  · omega
  · exact absurd he.symm (hp _ _ h2 h1 h3)
theorem TrOK.sur {t : Int} {L : List Int} (h : TrOK t L) {v : Int} (hv : 0 ≤ v ∧ v < t) : ∃ i : Int, (0 ≤ i ∧ i < t) ∧ L.getD i.toNat 0 = v := by
  have hm : v ∈ L := h.perm.mem_iff.2 (mem_upTo.2 (by omega))
  obtain ⟨i, hi, e⟩ := List.getElem_of_mem hm
  have hl := h.len
  refine ⟨i, by omega, ?_⟩
  rw [Int.toNat_natCast, List.getD_eq_getElem?_getD, List.getElem?_eq_getElem hi]; exact e
theorem rn_at {w h t p a : Int} {L : List Int} (hg : okG w h t p) (hL : TrOK t L) (h0 : 0 ≤ a) (h1 : a < (gr w h t p).cnt) :
    NdAt w h t p (rnN w h t p L a) (gK w h t p a) (gX w h t p a) (gY w h t p a) (rnI L (gK w h t p a) (gI w h t p a)) := by
  refine nd_at hg ?_
  have hf := (ndF hg h0 h1).ok
  obtain ⟨g1, g2, g3, g4⟩ := gr_c hg
  unfold OkS rnI
  rw [g1, g2, g3, g4]
  by_cases hk : gK w h t p a = 4 ∨ gK w h t p a = 5
  · rw [if_pos hk]
    dsimp only
    have hr := hL.rng (i := gI w h t p a) (by omega)
    refine .inr (.inr ⟨by omega, .inr (.inr ⟨hk, hr.1, hr.2⟩)⟩)
  · rw [if_neg hk]; exact hf
theorem rnI_eq {t : Int} {L : List Int} (hL : TrOK t L) {k k' i i' : Int} (hk : k = 4 ∨ k = 5) (hk' : k' = 4 ∨ k' = 5) (hi : 0 ≤ i ∧ i < t) (hi' : 0 ≤ i' ∧ i' < t) : rnI L k i = rnI L k' i' ↔ i = i' := by
  unfold rnI; rw [if_pos hk, if_pos hk']
  exact ⟨hL.inj hi hi', fun h => by rw [h]⟩
theorem rn_can {w h t p a b : Int} {L : List Int} (hg : okG w h t p) (hL : TrOK t L) (h0 : 0 ≤ a) (h1 : a < (gr w h t p).cnt) (b0 : 0 ≤ b) (b1 : b < (gr w h t p).cnt) :
    canN w h t p (rnN w h t p L a) (rnN w h t p L b) = true ↔ canN w h t p a b = true := by
  have ra := rn_at hg hL h0 h1
  have rb := rn_at hg hL b0 b1
  rw [can_iff, can_iff, ra.k, ra.x, ra.y, ra.i, rb.k, rb.x, rb.y, rb.i]
  have fa := (ndF hg h0 h1).ok
  have fb := (ndF hg b0 b1).ok
  generalize gK w h t p a = k, gX w h t p a = x, gY w h t p a = y, gI w h t p a = i at *
  generalize gK w h t p b = k', gX w h t p b = x', gY w h t p b = y', gI w h t p b = i' at *
  by_cases hk : k = 4 ∨ k = 5
  · by_cases hk' : k' = 4 ∨ k' = 5
    · have e := rnI_eq hL hk hk' (i := i) (i' := i') (by omega) (by omega)
      have n3 : ¬ k' = 3 := by omega
      unfold canP
      simp only [e, n3, false_and]
    · have e : rnI L k' i' = i' := by unfold rnI; rw [if_neg hk']
      unfold canP
      rw [e]
      generalize rnI L k i = j
      have n1 : ¬ k = 1 := by omega
      have n2 : ¬ k = 2 := by omega
      have n3 : ¬ k = 6 := by omega
      simp only [n1, n2, n3, hk', false_and, false_or]
  · have e : rnI L k i = i := by unfold rnI; rw [if_neg hk]
    by_cases hk' : k' = 4 ∨ k' = 5
    · unfold canP
      have n3 : ¬ k' = 3 := by omega
      simp only [hk, n3, false_and, or_false]
    · have e' : rnI L k' i' = i' := by unfold rnI; rw [if_neg hk']
      rw [e, e']
theorem rn_len {w h t p a : Int} {L : List Int} (hg : okG w h t p) (hL : TrOK t L) (h0 : 0 ≤ a) (h1 : a < (gr w h t p).cnt) : (refN w h t p (rnN w h t p L a)).length = (refN w h t p a).length := by
  have ra := rn_at hg hL h0 h1
  refine Nat.le_antisymm ?_ ?_
  · rw [show (refN w h t p a).length = ((refN w h t p a).map (rnN w h t p L)).length by simp]
    refine len_sub (ne_of_inc inc_refN) fun b hb => ?_
    obtain ⟨_, ⟨b0, b1⟩, hc⟩ := mem_refN.1 hb
    have fb := (ndF hg b0 b1).ok
    have sb := nd_self b0 b1
    have : ∃ c : Int, (0 ≤ c ∧ c < (gr w h t p).cnt) ∧ rnN w h t p L c = b := by
      by_cases hk : gK w h t p b = 4 ∨ gK w h t p b = 5
      · obtain ⟨i, hi, e⟩ := hL.sur (v := gI w h t p b) (by omega)
        have wa := wire_at hg hk (x := gX w h t p b) (y := gY w h t p b) (by omega) (by omega) hi
        refine ⟨_, ⟨wa.r0, wa.r1⟩, nd_uni hg (rn_at hg hL wa.r0 wa.r1) ?_⟩
        rw [wa.k, wa.x, wa.y, wa.i]
        refine ⟨b0, b1, rfl, rfl, rfl, ?_⟩
        unfold rnI; rw [if_pos hk, e]
      · refine ⟨b, ⟨b0, b1⟩, nd_uni hg (rn_at hg hL b0 b1) ⟨b0, b1, rfl, rfl, rfl, ?_⟩⟩
        unfold rnI; rw [if_neg hk]
    obtain ⟨c, ⟨c0, c1⟩, rfl⟩ := this
    exact List.mem_map.2 ⟨c, mem_refN.2 ⟨⟨h0, h1⟩, ⟨c0, c1⟩, (rn_can hg hL h0 h1 c0 c1).1 hc⟩, rfl⟩
  · rw [show (refN w h t p a).length = ((refN w h t p a).map (rnN w h t p L)).length by simp]
    refine len_sub ?_ fun b hb => ?_
    · refine List.pairwise_map.2 ((ne_of_inc (inc_refN)).imp_of_mem ?_)
      intro x y hx hy hne he
      obtain ⟨_, ⟨x0, x1⟩, _⟩ := mem_refN.1 hx
      obtain ⟨_, ⟨y0, y1⟩, _⟩ := mem_refN.1 hy
      have rx := rn_at hg hL x0 x1
      have ry := rn_at hg hL y0 y1
      rw [he] at rx
      refine hne (nd_uni hg (nd_self x0 x1) ⟨y0, y1, ?_, ?_, ?_, ?_⟩)
      · exact ry.k.symm.trans rx.k
      · exact ry.x.symm.trans rx.x
      · exact ry.y.symm.trans rx.y
      · have ek := ry.k.symm.trans rx.k
        have ei := ry.i.symm.trans rx.i
        rw [ek] at ei
        have fx := (ndF hg x0 x1).ok
        have fy := (ndF hg y0 y1).ok
        rw [ek] at fy
        by_cases hk : gK w h t p x = 4 ∨ gK w h t p x = 5
        · exact (rnI_eq hL hk hk (by omega) (by omega)).1 ei
        · unfold rnI at ei; rw [if_neg hk, if_neg hk] at ei; exact ei
    · obtain ⟨c, hc, rfl⟩ := List.mem_map.1 hb
      obtain ⟨_, ⟨c0, c1⟩, hc⟩ := mem_refN.1 hc
      have rc := rn_at hg hL c0 c1
      exact mem_refN.2 ⟨⟨ra.r0, ra.r1⟩, ⟨rc.r0, rc.r1⟩, (rn_can hg hL h0 h1 c0 c1).2 hc⟩
theorem rn_mem {w h t p a b : Int} {L : List Int} (hg : okG w h t p) (hL : TrOK t L) (hb : b ∈ refN w h t p a) : rnN w h t p L b ∈ refN w h t p (rnN w h t p L a) := by
  obtain ⟨⟨h0, h1⟩, ⟨b0, b1⟩, hc⟩ := mem_refN.1 hb
  have ra := rn_at hg hL h0 h1
  have rb := rn_at hg hL b0 b1
  exact mem_refN.2 ⟨⟨ra.r0, ra.r1⟩, ⟨rb.r0, rb.r1⟩, (rn_can hg hL h0 h1 b0 b1).2 hc⟩
/-- A wire drives wires of its own track alone. -/
theorem rn_own {w h t p a b : Int} (hb : b ∈ refN w h t p a) (ha : gK w h t p a = 4 ∨ gK w h t p a = 5) (hk : gK w h t p b = 4 ∨ gK w h t p b = 5) : gI w h t p a = gI w h t p b := by
  have hc := can_iff.1 (mem_refN.1 hb).2.2
  unfold canP at hc
  omega
end Go.Proofs.YtgahnelicbddcaaGreatDoor

/- Permutations that bytes say. -/
namespace Go.Sx
def shK (m : Nat) (f : Nat → Nat → DV) (i : Nat) : Nat := if i < m then (intCell (f i 0)).toNat % (i + 1) else 0
def shF (m : Nat) (f : Nat → Nat → DV) : Nat → List Int
  | 0 => []
  | i + 1 => (shF m f i).take (shK m f i) ++ (i : Int) :: (shF m f i).drop (shK m f i)
def _root_.Go.Proofs.ByteRow (m : Nat) (f : Nat → Nat → DV) : Prop := ∀ a, a < m → f a 0 = .x (.int .u8 (intCell (f a 0))) ∧ 0 ≤ intCell (f a 0) ∧ intCell (f a 0) < 256
def shL (n : Int) (m : Nat) (f : Nat → Nat → DV) : List Int := shF m f n.toNat
theorem shK_le (m : Nat) (f : Nat → Nat → DV) (i : Nat) : shK m f i ≤ i := by
  unfold shK; split
  · have := Nat.mod_lt (intCell (f i 0)).toNat (show 0 < i + 1 by omega); omega
  · omega
theorem shF_len (m : Nat) (f : Nat → Nat → DV) : ∀ i, (shF m f i).length = i
  | 0 => rfl
  | i + 1 => by
    have := shF_len m f i
    have := shK_le m f i
    unfold shF
    simp only [List.length_append, List.length_take, List.length_cons, List.length_drop]; omega
theorem shF_perm (m : Nat) (f : Nat → Nat → DV) : ∀ i, (shF m f i).Perm (upTo i)
  | 0 => by unfold shF; exact List.Perm.refl _
  | i + 1 => by
    unfold shF
    rw [upTo_succ]
    refine List.Perm.trans List.perm_middle ?_
    rw [List.take_append_drop]
    exact ((shF_perm m f i).cons _).trans (List.perm_append_comm (l₁ := [(i : Int)]))
theorem ins_get {L : List Int} {k a : Nat} {j : Int} (hk : k ≤ L.length) : (L.take k ++ j :: L.drop k).getD a 0 = if a < k then L.getD a 0 else if a = k then j else L.getD (a - 1) 0 := by
  rw [List.getD_eq_getElem?_getD, List.getElem?_append, List.length_take, Nat.min_eq_left hk]
  split
  · rename_i h
    rw [List.getElem?_take, if_pos h, List.getD_eq_getElem?_getD]
  · rename_i h
    split
    · rename_i h2; subst h2; simp
    · rename_i h2
      rw [show a - k = (a - k - 1) + 1 by omega, List.getElem?_cons_succ, List.getElem?_drop, List.getD_eq_getElem?_getD, show k + (a - k - 1) = a - 1 by omega]
end Go.Sx
namespace Go.Proofs.YtgahnelicbddcaaGreatDoor
open Go.Sx
set_option maxRecDepth 100000
theorem lB_gen {M : List Int} {n : Nat} {f : Nat → Nat → DV} (hl : M.length = n) (h : ∀ i, i < n → f i 0 = .x (.int .i64 (M.getD i 0))) : BlkLe (.row n 1 f) (lB M) := by
  subst hl
  unfold lB
  refine .row fun i j hi hj => ?_
  obtain rfl : j = 0 := by omega
  exact h i hi
theorem ins_sel (L : List Int) (j : Int) (k a : Nat) (hk : k ≤ L.length) : selD (decide (a < 0 + (k - 0) + 1)) (selD (decide (0 + a < 0 + (k - 0))) (.x (.int .i64 (L.getD (0 + (0 + (0 + a) - 0)) 0))) (dsAt [.x (.int .i64 j)] (0 + (0 + (0 + a - (0 + (k - 0)))) * 1 + 0)))
    (.x (.int .i64 (L.getD (0 + k + (a - (0 + (k - 0) + 1))) 0))) = .x (.int .i64 ((L.take k ++ j :: L.drop k).getD a 0)) := by
  rw [ins_get hk]
  have e1 : 0 + (0 + (0 + a) - 0) = a := by omega
  have e2 : 0 + (k - 0) = k := by omega
  have e3 : 0 + a = a := by omega
  rw [e1, e2, e3]
  by_cases h1 : a < k
  · rw [if_pos h1, decide_eq_true (show a < k + 1 by omega), decide_eq_true h1]; rfl
  · rw [if_neg h1]
    by_cases h2 : a = k
    · subst h2
      rw [if_pos rfl, decide_eq_true (show a < a + 1 by omega), decide_eq_false h1, show 0 + (0 + (a - a)) * 1 + 0 = 0 by omega]; rfl
    · rw [if_neg h2, decide_eq_false (show ¬ a < k + 1 by omega), show 0 + k + (a - (k + 1)) = a - 1 by omega]; rfl
theorem ins_sel0 (L : List Int) (j : Int) (a : Nat) : selD (decide (a < 1)) (.x (.int .i64 (bif decide (0 + a < 0) then List.getD L (0 + (0 + (0 + a) - 0)) 0 else j))) (.x (.int .i64 (List.getD L (0 + (a - 1)) 0))) = .x (.int .i64 ((L.take 0 ++ j :: L.drop 0).getD a 0)) := by
  rw [ins_get (Nat.zero_le _), if_neg (by omega), decide_eq_false (show ¬ 0 + a < 0 by omega), show 0 + (a - 1) = a - 1 by omega]
  by_cases h2 : a = 0
  · subst h2; rfl
  · rw [if_neg h2, decide_eq_false (show ¬ a < 1 by omega)]; rfl
theorem shu_sat {N m : Nat} {f : Nat → Nat → DV} (hn : N ≤ 1000) (hb : ByteRow m f) : Sat Tryz.prog (tShu N m fun a => intCell (f a 0)) (· = ivL (shF m f N)) := by
  constructor
  rw [LShu_eq]; unfold LShu
  refine code_satS C0_ok D0_ok (n := 200) (n0 := 1) (nx := 2) (roots := [(.slot 5, 1)]) (keep := [0, 1, 5, 6]) (drop := []) (h := .nil) (c := codeC (sub [] (tShu N m fun a => intCell (f a 0)))) (st := codeS (sub [] (tShu N m fun a => intCell (f a 0)))) (k := codeK (sub [] (tShu N m fun a => intCell (f a 0)))) (body := bodyShu) (by kernel_rfl) (by kernel_rfl)
    (fun q s => ∃ j : Nat, q = N - j ∧ j ≤ N ∧ s = invShu N m (fun a => intCell (f a 0)) (shF m f j) j)
    (fun e s => e = .exit 0 ∧ s = invShu N m (fun a => intCell (f a 0)) (shF m f N) N)
    ⟨_, _, ⟨0, rfl, by omega, rfl⟩, ?_⟩ ?_ ?_
  · refine (entA_sound (s' := ⟨[.ok (iv N), .ok (byT m fun a => intCell (f a 0)), .unk, .unk, .unk, .ok (.row 1 0 0 0 1), .ok (iv 0)] ++ List.replicate 32 .unk, [none, some (.cells [])], 2, .nil⟩) (roots := [(.slot 5, 1)]) (keep := [0, 1, 5, 6]) (drop := [0]) (nx := 2) (h := .nil) (by kernel_rfl)).trans ?_
    refine gc_hp rfl rfl ⟨.inl rfl, .inr ⟨_, _, rfl, rfl, .cells rfl fun i j hi hj => ?_⟩, trivial⟩
    exact absurd hi (Nat.not_lt_zero _)
  · rintro q s ⟨j, rfl, hj, rfl⟩
    refine Sat.of_eq (BShu_eq N m _ _ j) ?_
    constructor; unfold BShu
    have hl := shF_len m f j
    have hk := shK_le m f j
    refine ⟨fun h1 => ?_, fun h1 => ?_⟩
    · simp only [decide_eq_true_eq] at h1
      have hw : w64 ((j : Int) + 1) = ((j + 1 : Nat) : Int) := by rw [w64_of (by omega) (by omega)]; omega
      have e0 : shF m f (j + 1) = (shF m f j).take (shK m f j) ++ (j : Int) :: (shF m f j).drop (shK m f j) := rfl
      refine ⟨fun h2 => ?_, fun h2 => ?_⟩
      · simp only [decide_eq_true_eq] at h2
        obtain ⟨-, b1, b2⟩ := hb j (by omega)
        have hK : shK m f j = (intCell (f j 0)).toNat % (j + 1) := by unfold shK; rw [if_pos (by omega)]
        have hT : Int.tmod (w64 (intCell (f j 0))) ((j + 1 : Nat) : Int) = ((shK m f j : Nat) : Int) := by
          rw [w64_of (n := intCell (f j 0)) (by omega) (by omega), hK]
          obtain ⟨v, hv⟩ : ∃ v : Nat, intCell (f j 0) = v := ⟨(intCell (f j 0)).toNat, by omega⟩
          rw [hv, tmod_nat]; rfl
        simp only [Int.toNat_natCast, hw, hT]
        have e : 0 + (shK m f j - 0) + 1 + ((shF m f j).length - shK m f j) = (shF m f (j + 1)).length := by rw [shF_len, shF_len]; omega
        rw [e]
        refine ⟨⟨by omega, by omega⟩, by omega, ⟨⟨by omega, by omega⟩, trivial⟩, ⟨by omega, by omega, by omega⟩, ⟨by omega, by omega, by omega⟩, ⟨trivial, by omega, by omega⟩, ⟨by omega, by omega, by omega⟩, ?_⟩
        refine ⟨N - (j + 1), _, by omega, ⟨j + 1, rfl, by omega, rfl⟩, ?_⟩
        refine gc_hp rfl rfl ⟨.inl rfl, .inr ⟨_, _, rfl, rfl, lB_gen rfl fun i hi => ?_⟩, trivial⟩
        unfold BShu_q2
        simp only [Int.toNat_natCast, hw, hT]
        rw [e0]
        exact ins_sel _ _ _ _ (by omega)
      · simp only [decide_eq_false_iff_not] at h2
        have hK : shK m f j = 0 := by unfold shK; rw [if_neg (by omega)]
        rw [hK] at e0
        have e : 1 + ((shF m f j).length - 0) = (shF m f (j + 1)).length := by rw [shF_len, shF_len]; omega
        rw [hw, e]
        refine ⟨⟨⟨by omega, by omega⟩, trivial⟩, ⟨by omega, by omega, by omega⟩, ⟨by omega, by omega, by omega⟩, ⟨trivial, by omega, by omega⟩, ⟨by omega, by omega, by rw [shF_len]; omega⟩, ?_⟩
        refine ⟨N - (j + 1), _, by omega, ⟨j + 1, rfl, by omega, rfl⟩, ?_⟩
        refine gc_hp rfl rfl ⟨.inl rfl, .inr ⟨_, _, rfl, rfl, lB_gen rfl fun i hi => ?_⟩, trivial⟩
        unfold BShu_q3
        rw [e0]
        exact ins_sel0 _ _ _
    · simp only [decide_eq_false_iff_not] at h1
      obtain rfl : j = N := by omega
      exact ⟨_, ⟨rfl, rfl⟩, Gc.refl _ _⟩
  · rintro e s ⟨rfl, rfl⟩
    refine Sat.of_eq (KShu_eq N m _ _ _) ⟨⟨by omega, ?_⟩⟩
    show SV.d _ = ivL _
    have : KShu_q1 (shF m f N) = fun i _ => .x (.int .i64 ((shF m f N).getD i 0)) := by
      funext i j; unfold KShu_q1; rw [Nat.zero_add]
    rw [this]; rfl
noncomputable def cShu : Ctr := fun ss => match ss with
  | [.d (.x (.int .i64 n)), .d (.ro m 1 f)] => .need ((0 ≤ n ∧ n ≤ 1000) ∧ ByteRow m f) (.ret (ivL (shL n m f)))
  | _ => .fail
theorem cShu_ok : CtrOK Tryz.prog 68 cShu := by
  refine ctrOK_leS C0_ok D0_ok (by kernel_rfl) (by kernel_rfl) fun ss r hr => ?_
  unfold cShu at hr
  split at hr
  · rename_i n m f
    obtain ⟨h1, rfl⟩ := hr
    obtain ⟨N, rfl⟩ := Int.eq_ofNat_of_zero_le h1.1.1
    have k0 := shu_sat (N := N) (m := m) (f := f) (by omega) h1.2
    refine ⟨_, 200, .nil, ?_, k0⟩
    refine ⟨rfl, ⟨rfl, rfl, fun i j hi hj => ?_⟩, by simp only [leSVs]⟩
    obtain rfl : j = 0 := by omega
    exact (h1.2 i hi).1
  · exact hr.elim
theorem shL_ok {t : Int} {m : Nat} {f : Nat → Nat → DV} : TrOK t (shL t m f) := ⟨shF_perm m f _⟩
end Go.Proofs.YtgahnelicbddcaaGreatDoor

namespace Go.Proofs.YtgahnelicbddcaaGreatDoor
open Go.Sx
set_option maxRecDepth 100000
noncomputable def man8 : FuncId → Option Ctr := fun k => match k with
  | 34 => some cHas
  | 68 => some cShu
  | k => man7 k
theorem man8_ok (k : Nat) (c : Ctr) (h : man8 k = some c) : CtrOK Tryz.prog k c ∧ goodF Tryz.prog k = true := by
  unfold man8 at h
  split at h
  · cases h; exact ⟨cHas_ok, by kernel_rfl⟩
  · cases h; exact ⟨cShu_ok, by kernel_rfl⟩
  · exact man7_ok _ _ h
noncomputable def CN8 : Ctx := ctxN Tryz.prog man8 (fun k => k == 56 || k == 78 || k == 55 || k == 57 || k == 35 || k == 69) 200 .nil 8
theorem CN8_ok : CtxOK Tryz.prog CN8 := ctxN_ok mixed man8_ok 8
noncomputable def DN8 : Dr := fun _ => drawn Tryz.prog CN8
theorem DN8_ok : DrOK Tryz.prog CN8 DN8 := drawn_ok CN8_ok mixed
noncomputable def TN8 (h : Hint) (k : Nat) (args : List SV) : Tree SV := fnT Tryz.prog CN8 DN8 200 (fnOf Tryz.prog k) (bodyOf Tryz.prog k) args h
noncomputable def LRnm (w h t p n : Int) (m : Nat) (c : Nat → Nat → DV) (m2 : Nat) (f : Nat → Int) : Tree SV :=
  .need (okG w h t p)
  (.need (i64B n)
   (.ite (gK w h t p n == (4 : Int) || gK w h t p n == (5 : Int))
   (.need ((0 : Int) ≤ gI w h t p n ∧ gI w h t p n < (↑m2 : Int)) (.need (okG w h t p) (.ret (iv (gM w h t p (gK w h t p n) (gX w h t p n) (gY w h t p n) (f (Int.toNat (gI w h t p n))))))))
   (.need (okG w h t p) (.ret (iv (gM w h t p (gK w h t p n) (gX w h t p n) (gY w h t p n) (gI w h t p n)))))))

theorem LRnm_eq (w h t p n : Int) (m : Nat) (c : Nat → Nat → DV) (m2 : Nat) (f : Nat → Int) : TN8 .nil 36 [gridV w h t p (.d (.ro m 1 c)), iv n, ro64 m2 f] = LRnm w h t p n m c m2 f := by kernel_rfl


end Go.Proofs.YtgahnelicbddcaaGreatDoor

/- The node with its track renumbered. -/
namespace Go.Proofs.YtgahnelicbddcaaGreatDoor
open Go.Sx
set_option maxRecDepth 100000
theorem rnm_sat {w h t p n : Int} {m : Nat} {c : Nat → Nat → DV} {m2 : Nat} {f : Nat → Int} (hg : okG w h t p) (hn : 0 ≤ n ∧ n < gN w h t p) (hm : (m2 : Int) = t) : Sat Tryz.prog (TN8 .nil 36 [gridV w h t p (.d (.ro m 1 c)), iv n, ro64 m2 f]) (· = iv (rnN w h t p ((List.range m2).map f) n)) := by
  constructor
  rw [LRnm_eq]; unfold LRnm
  have hc := cnt_le hg.gr
  have hN : gN w h t p = ((gr w h t p).cnt : Int) := rfl
  have hf := (ndF hg hn.1 (by omega)).ok
  refine ⟨hg, ⟨by omega, by omega⟩, fun h1 => ?_, fun h1 => ⟨hg, ?_⟩⟩
  · have h1 : gK w h t p n = 4 ∨ gK w h t p n = 5 := by simpa using h1
    have hi : 0 ≤ gI w h t p n ∧ gI w h t p n < t := by omega
    refine ⟨by omega, hg, ?_⟩
    show iv _ = iv _
    unfold rnN rnI
    rw [if_pos h1]
    have hlt : (gI w h t p n).toNat < m2 := by omega
    congr 2
    simp [List.getD_eq_getElem?_getD, hlt]
  · have h1 : ¬ (gK w h t p n = 4 ∨ gK w h t p n = 5) := by simpa using h1
    show iv _ = iv _
    unfold rnN rnI
    rw [if_neg h1]
noncomputable def cRnm : Ctr := fun ss => match ss with
  | [.agg [.d (.x (.int .i64 w)), .d (.x (.int .i64 h)), .d (.x (.int .i64 t)), .d (.x (.int .i64 p)), .d (.ro m 1 c)], .d (.x (.int .i64 n)), .d (.ro m2 1 f)] => .nd (okG w h t p) (.need (0 ≤ n ∧ n < gN w h t p) (.need ((m2 : Int) = t ∧ IntRow m2 f) (.ret (iv (rnN w h t p (lsOf m2 f) n)))))
  | _ => .fail
theorem rnm_le {w h t p n : Int} {m m2 : Nat} {c f : Nat → Nat → DV} (hf : IntRow m2 f) : leSVs 0 [] [] [.agg [iv w, iv h, iv t, iv p, .d (.ro m 1 c)], iv n, .d (.ro m2 1 f)] [gridV w h t p (.d (.ro m 1 c)), iv n, ro64 m2 fun i => intCell (f i 0)] := by
  unfold gridV ro64 iv
  simp only [leSVs, leSV, leD, and_true, true_and]
  refine ⟨fun i j hi hj => trivial, fun i j hi hj => ?_⟩
  obtain rfl : j = 0 := by omega
  exact hf i hi
theorem cRnm_ok : CtrOK Tryz.prog 36 cRnm := by
  refine ctrOK_leS CN8_ok DN8_ok (by kernel_rfl) (by kernel_rfl) fun ss r hr => ?_
  unfold cRnm at hr
  split at hr
  · rename_i w h t p m c n m2 f
    obtain ⟨h1, h2, ⟨h3, h4⟩, rfl⟩ := hr
    have k0 := rnm_sat (n := n) (m := m) (c := c) (f := fun i => intCell (f i 0)) h1 h2 h3
    exact ⟨_, 200, .nil, rnm_le h4, k0⟩
  · exact hr.elim
end Go.Proofs.YtgahnelicbddcaaGreatDoor

namespace Go.Proofs.YtgahnelicbddcaaGreatDoor
open Go.Sx
set_option maxRecDepth 100000
noncomputable def man9 : FuncId → Option Ctr := fun k => match k with
  | 36 => some cRnm
  | k => man8 k
theorem man9_ok (k : Nat) (c : Ctr) (h : man9 k = some c) : CtrOK Tryz.prog k c ∧ goodF Tryz.prog k = true := by
  unfold man9 at h
  split at h
  · cases h; exact ⟨cRnm_ok, by kernel_rfl⟩
  · exact man8_ok _ _ h
noncomputable def CN : Ctx := ctxN Tryz.prog man9 (fun k => k == 56 || k == 78 || k == 55 || k == 57 || k == 35 || k == 69) 200 .nil 8
theorem CN_ok : CtxOK Tryz.prog CN := ctxN_ok mixed man9_ok 8
noncomputable def DN : Dr := fun _ => drawn Tryz.prog CN
theorem DN_ok : DrOK Tryz.prog CN DN := drawn_ok CN_ok mixed
noncomputable def TN (h : Hint) (k : Nat) (args : List SV) : Tree SV := fnT Tryz.prog CN DN 200 (fnOf Tryz.prog k) (bodyOf Tryz.prog k) args h
noncomputable def tL6 (w h t p : Int) (m : Nat) (f : Nat → Nat → DV) (k l : Int) : Tree SV := TN .nil 6 [rawF w h t p m f, .agg [u16V k, u16V l]]
noncomputable def L6T_q1 (w : Int) (h : Int) (t : Int) (l : Int) (i : Nat) (x : Nat) : DV :=
  DV.x
  (.int .i64
   (List.getD (refD (anN (2 : Int) (4 : Int) w) (anN (2 : Int) (4 : Int) h) (anN (2 : Int) (3 : Int) t) (24 : Int) (Int.tmod (w64 l) (gN (anN (2 : Int) (4 : Int) w) (anN (2 : Int) (4 : Int) h) (anN (2 : Int) (3 : Int) t) (24 : Int)))) i
   (0 : Int)))
noncomputable def L6T_q2 (w : Int) (h : Int) (t : Int) (k : Int) (i : Nat) (x : Nat) : DV :=
  DV.x
  (.int .i64
   (List.getD (refN (anN (2 : Int) (4 : Int) w) (anN (2 : Int) (4 : Int) h) (anN (2 : Int) (3 : Int) t) (24 : Int) (Int.tmod (w64 k) (gN (anN (2 : Int) (4 : Int) w) (anN (2 : Int) (4 : Int) h) (anN (2 : Int) (3 : Int) t) (24 : Int)))) i
   (0 : Int)))
noncomputable def L6T (w h t p : Int) (m : Nat) (f : Nat → Nat → DV) (k l : Int) : Tree SV :=
  .ite false (.ret (bv false))
  (.need (RawOK w h t p m f)
   (.need (okG (anN (2 : Int) (4 : Int) w) (anN (2 : Int) (4 : Int) h) (anN (2 : Int) (3 : Int) t) (24 : Int))
   (.ite (decide (gN (anN (2 : Int) (4 : Int) w) (anN (2 : Int) (4 : Int) h) (anN (2 : Int) (3 : Int) t) (24 : Int) < (1 : Int))) (.ret (bv false))
   (.need ((0 : Int) ≤ (0 : Int) ∧ (0 : Int) < (2 : Int))
   (.need (0 < 2)
   (.need (gN (anN (2 : Int) (4 : Int) w) (anN (2 : Int) (4 : Int) h) (anN (2 : Int) (3 : Int) t) (24 : Int) ≠ (0 : Int))
   (.need ((0 : Int) ≤ (1 : Int) ∧ (1 : Int) < (2 : Int))
   (.need (1 < 2)
   (.need (gN (anN (2 : Int) (4 : Int) w) (anN (2 : Int) (4 : Int) h) (anN (2 : Int) (3 : Int) t) (24 : Int) ≠ (0 : Int))
   (.need (true = true → okG (anN (2 : Int) (4 : Int) w) (anN (2 : Int) (4 : Int) h) (anN (2 : Int) (3 : Int) t) (24 : Int))
   (.need (true = true → i64B (Int.tmod (w64 l) (gN (anN (2 : Int) (4 : Int) w) (anN (2 : Int) (4 : Int) h) (anN (2 : Int) (3 : Int) t) (24 : Int))))
   (.need
   (true = true →
   RowOK
   (List.length
   (refD (anN (2 : Int) (4 : Int) w) (anN (2 : Int) (4 : Int) h) (anN (2 : Int) (3 : Int) t) (24 : Int)
   (Int.tmod (w64 l) (gN (anN (2 : Int) (4 : Int) w) (anN (2 : Int) (4 : Int) h) (anN (2 : Int) (3 : Int) t) (24 : Int)))))
   (L6T_q1 w h t l))
   (.need (true = true → okG (anN (2 : Int) (4 : Int) w) (anN (2 : Int) (4 : Int) h) (anN (2 : Int) (3 : Int) t) (24 : Int))
   (.need (true = true → i64B (Int.tmod (w64 k) (gN (anN (2 : Int) (4 : Int) w) (anN (2 : Int) (4 : Int) h) (anN (2 : Int) (3 : Int) t) (24 : Int))))
   (.need
   (true = true →
   RowOK
   (List.length
   (refN (anN (2 : Int) (4 : Int) w) (anN (2 : Int) (4 : Int) h) (anN (2 : Int) (3 : Int) t) (24 : Int)
   (Int.tmod (w64 k) (gN (anN (2 : Int) (4 : Int) w) (anN (2 : Int) (4 : Int) h) (anN (2 : Int) (3 : Int) t) (24 : Int)))))
   (L6T_q2 w h t k))
   (.need (okG (anN (2 : Int) (4 : Int) w) (anN (2 : Int) (4 : Int) h) (anN (2 : Int) (3 : Int) t) (24 : Int))
   (.need (i64B (Int.tmod (w64 k) (gN (anN (2 : Int) (4 : Int) w) (anN (2 : Int) (4 : Int) h) (anN (2 : Int) (3 : Int) t) (24 : Int))))
   (.code
   (codeC
   (sub
   [(1 : Nat), (0 : Nat), (0 : Nat), (1 : Nat), (0 : Nat), (0 : Nat), (0 : Nat), (0 : Nat), (0 : Nat), (0 : Nat), (0 : Nat), (0 : Nat), (0 : Nat), (0 : Nat), (0 : Nat), (0 : Nat), (0 : Nat), (0 : Nat)]
   (tL6 w h t p m f k l)))
   (codeS
   (sub
   [(1 : Nat), (0 : Nat), (0 : Nat), (1 : Nat), (0 : Nat), (0 : Nat), (0 : Nat), (0 : Nat), (0 : Nat), (0 : Nat), (0 : Nat), (0 : Nat), (0 : Nat), (0 : Nat), (0 : Nat), (0 : Nat), (0 : Nat), (0 : Nat)]
   (tL6 w h t p m f k l)))
   (codeK
   (sub
   [(1 : Nat), (0 : Nat), (0 : Nat), (1 : Nat), (0 : Nat), (0 : Nat), (0 : Nat), (0 : Nat), (0 : Nat), (0 : Nat), (0 : Nat), (0 : Nat), (0 : Nat), (0 : Nat), (0 : Nat), (0 : Nat), (0 : Nat), (0 : Nat)]
   (tL6 w h t p m f k l)))))))))))))))))))))

theorem L6T_eq (w h t p : Int) (m : Nat) (f : Nat → Nat → DV) (k l : Int) : tL6 w h t p m f k l = L6T w h t p m f k l := by kernel_rfl


end Go.Proofs.YtgahnelicbddcaaGreatDoor

namespace Go.Proofs.YtgahnelicbddcaaGreatDoor
open Go.Sx
set_option maxRecDepth 100000
noncomputable def invL6 (W H T : Int) (mk : Nat) (ck : Nat → Nat → DV) (r up : Bool) (n a : Int) (L : List Int) (z : Int) : AS := ⟨List.replicate 4 .unk ++ [.ok (bv r), .ok (bv up), .ok (.ptr 2 0), .ok (iv n), .ok (iv a), .unk, .ok (ivL L), .ok (iv z)] ++ List.replicate 123 .unk, [none, none, some (.cells [iv W, iv H, iv T, iv 24, .d (.ro mk 1 ck)])] ++ List.replicate 28 none, 31, .nil⟩
noncomputable def bodyL6 : Code := loopN (bodyOf Tryz.prog 6) 0
noncomputable def B6_q1 (L : List Int) (z : Int) : Bool :=
  decide (List.getD L (Int.toNat z) (0 : Int) < (0 : Int))
noncomputable def B6_q2 (n : Int) (L : List Int) (z : Int) : Bool :=
  B6_q1 L z || decide (List.getD L (Int.toNat z) (0 : Int) ≥ n)
noncomputable def B6_q3 (z : Int) : Bool :=
  decide (z > (0 : Int))
noncomputable def B6_q4 (n : Int) (L : List Int) (z : Int) : Bool :=
  B6_q2 n L z || B6_q3 z && decide (List.getD L (Int.toNat (w64 (z - (1 : Int)))) (0 : Int) ≥ List.getD L (Int.toNat z) (0 : Int))
noncomputable def B6_q5 (W : Int) (H : Int) (T : Int) (L : List Int) (z : Int) (i : Nat) (x : Nat) : DV :=
  DV.x (.int .i64 (List.getD (refN W H T (24 : Int) (List.getD L (Int.toNat z) (0 : Int))) i (0 : Int)))
noncomputable def B6_q6 (L : List Int) (i : Nat) (x : Nat) : DV :=
  DV.x (.int .i64 (List.getD L i (0 : Int)))
noncomputable def B6 (W H T : Int) (mk : Nat) (ck : Nat → Nat → DV) (r up : Bool) (n a : Int) (L : List Int) (z : Int) : Tree (Ex × AS) :=
  .ite (decide (z < (↑(List.length L) : Int)))
  (.need ((0 : Int) ≤ z ∧ z < (↑(List.length L) : Int))
   (.need (B6_q1 L z = false → (0 : Int) ≤ z ∧ z < (↑(List.length L) : Int))
   (.need (B6_q2 n L z = false ∧ B6_q3 z = true → (0 : Int) ≤ w64 (z - (1 : Int)) ∧ w64 (z - (1 : Int)) < (↑(List.length L) : Int))
   (.need (B6_q2 n L z = false ∧ B6_q3 z = true → (0 : Int) ≤ z ∧ z < (↑(List.length L) : Int))
   (.need (B6_q4 n L z = false → (0 : Int) ≤ z ∧ z < (↑(List.length L) : Int))
   (.need (B6_q4 n L z = false → okG W H T (24 : Int))
   (.need (B6_q4 n L z = false → i64B (List.getD L (Int.toNat z) (0 : Int)))
   (.need (B6_q4 n L z = false → RowOK (List.length (refN W H T (24 : Int) (List.getD L (Int.toNat z) (0 : Int)))) (B6_q5 W H T L z))
   (.ite (B6_q4 n L z || !hasB (List.length (refN W H T (24 : Int) (List.getD L (Int.toNat z) (0 : Int)))) (B6_q5 W H T L z) a)
   (.ret
   (.ret,
   {
   tm :=
   [.unk, .unk, .unk, .unk, .ok (bv false), .ok (bv up), .ok (SV.ptr 2 0), .ok (iv n), .ok (iv a), .unk, .ok (SV.d (DV.ro (List.length L) 1 (B6_q6 L))),
   .ok (iv z), .unk, .unk, .unk, .unk, .unk, .unk, .unk, .unk, .unk, .unk, .unk, .unk, .unk, .unk, .unk, .unk, .unk, .unk, .unk, .unk, .unk, .unk, .unk, .unk,
   .unk, .unk, .unk, .unk, .unk, .unk, .unk, .unk, .unk, .unk, .unk, .unk, .unk, .unk, .unk, .unk, .unk, .unk, .unk, .unk, .unk, .unk, .unk, .unk, .unk, .unk,
   .unk, .unk, .unk, .unk, .unk, .unk, .unk, .unk, .unk, .unk, .unk, .unk, .unk, .unk, .unk, .unk, .unk, .unk, .unk, .unk, .unk, .unk, .unk, .unk, .unk, .unk,
   .unk, .unk, .unk, .unk, .unk, .unk, .unk, .unk, .unk, .unk, .unk, .unk, .unk, .unk, .unk, .unk, .unk, .unk, .unk, .unk, .unk, .unk, .unk, .unk, .unk, .unk,
   .unk, .unk, .unk, .unk, .unk, .unk, .unk, .unk, .unk, .unk, .unk, .unk, .unk, .unk, .unk, .unk, .unk, .unk, .unk, .unk, .unk],
   hp :=
   [none, none, some (.cells [iv W, iv H, iv T, iv (24 : Int), SV.d (DV.ro mk 1 ck)]), none, none, none, none, none, none, none, none, none, none, none, none, none, none, none, none, none, none, none,
   none, none, none, none, none, none, none, none, none],
   next := 31, hint := .nil }))
   (.ret
   (.normal,
   {
   tm :=
   [.unk, .unk, .unk, .unk, .ok (bv r), .ok (bv up), .ok (SV.ptr 2 0), .ok (iv n), .ok (iv a), .unk, .ok (SV.d (DV.ro (List.length L) 1 (B6_q6 L))),
   .ok (iv (w64 (z + (1 : Int)))), .unk, .unk, .unk, .unk, .unk, .unk, .unk, .unk, .unk, .unk, .unk, .unk, .unk, .unk, .unk, .unk, .unk, .unk, .unk, .unk, .unk, .unk,
   .unk, .unk, .unk, .unk, .unk, .unk, .unk, .unk, .unk, .unk, .unk, .unk, .unk, .unk, .unk, .unk, .unk, .unk, .unk, .unk, .unk, .unk, .unk, .unk, .unk, .unk,
   .unk, .unk, .unk, .unk, .unk, .unk, .unk, .unk, .unk, .unk, .unk, .unk, .unk, .unk, .unk, .unk, .unk, .unk, .unk, .unk, .unk, .unk, .unk, .unk, .unk, .unk,
   .unk, .unk, .unk, .unk, .unk, .unk, .unk, .unk, .unk, .unk, .unk, .unk, .unk, .unk, .unk, .unk, .unk, .unk, .unk, .unk, .unk, .unk, .unk, .unk, .unk, .unk,
   .unk, .unk, .unk, .unk, .unk, .unk, .unk, .unk, .unk, .unk, .unk, .unk, .unk, .unk, .unk, .unk, .unk, .unk, .unk, .unk, .unk, .unk, .unk],
   hp :=
   [none, none, some (.cells [iv W, iv H, iv T, iv (24 : Int), SV.d (DV.ro mk 1 ck)]), none, none, none, none, none, none, none, none, none, none, none, none, none, none, none, none, none, none, none,
   none, none, none, none, none, none, none, none, none],
   next := 31, hint := .nil })))))))))))
  (.ret
   (.exit 0,
   {
   tm :=
   [.unk, .unk, .unk, .unk, .ok (bv r), .ok (bv up), .ok (SV.ptr 2 0), .ok (iv n), .ok (iv a), .unk, .ok (SV.d (DV.ro (List.length L) 1 (B6_q6 L))), .ok (iv z), .unk,
   .unk, .unk, .unk, .unk, .unk, .unk, .unk, .unk, .unk, .unk, .unk, .unk, .unk, .unk, .unk, .unk, .unk, .unk, .unk, .unk, .unk, .unk, .unk, .unk, .unk, .unk, .unk, .unk,
   .unk, .unk, .unk, .unk, .unk, .unk, .unk, .unk, .unk, .unk, .unk, .unk, .unk, .unk, .unk, .unk, .unk, .unk, .unk, .unk, .unk, .unk, .unk, .unk, .unk, .unk, .unk, .unk,
   .unk, .unk, .unk, .unk, .unk, .unk, .unk, .unk, .unk, .unk, .unk, .unk, .unk, .unk, .unk, .unk, .unk, .unk, .unk, .unk, .unk, .unk, .unk, .unk, .unk, .unk, .unk, .unk,
   .unk, .unk, .unk, .unk, .unk, .unk, .unk, .unk, .unk, .unk, .unk, .unk, .unk, .unk, .unk, .unk, .unk, .unk, .unk, .unk, .unk, .unk, .unk, .unk, .unk, .unk, .unk, .unk,
   .unk, .unk, .unk, .unk, .unk, .unk, .unk, .unk, .unk, .unk],
   hp :=
   [none, none, some (.cells [iv W, iv H, iv T, iv (24 : Int), SV.d (DV.ro mk 1 ck)]), none, none, none, none, none, none, none, none, none, none, none, none, none, none, none, none, none, none, none, none, none, none,
   none, none, none, none, none, none],
   next := 31, hint := .nil }))

theorem B6_eq (W H T : Int) (mk : Nat) (ck : Nat → Nat → DV) (r up : Bool) (n a : Int) (L : List Int) (z : Int) : cutT 31 [] [4, 5, 6, 7, 8, 10, 11] [0, 1, 3, 4, 5, 6, 7, 8, 9, 10, 11, 12, 13, 14, 15, 16, 17, 18, 19, 20, 21, 22, 23, 24, 25, 26, 27, 28, 29, 30] 31 .nil (exec Tryz.prog CN DN 200 bodyL6 (invL6 W H T mk ck r up n a L z)) = B6 W H T mk ck r up n a L z := by kernel_rfl

noncomputable def K6_q1 (W : Int) (H : Int) (T : Int) (a : Int) (L : List Int) : Bool :=
  (gK W H T (24 : Int) a == (1 : Int) || gK W H T (24 : Int) a == (2 : Int) || gK W H T (24 : Int) a == (6 : Int)) == ((↑(List.length L) : Int) == (0 : Int))
noncomputable def K6 (w h t p : Int) (m : Nat) (f : Nat → Nat → DV) (k l : Int) (W H T : Int) (mk : Nat) (ck : Nat → Nat → DV) (r up : Bool) (n a : Int) (L : List Int) (z : Int) : Tree SV :=
  .need (okG W H T (24 : Int))
  (.need (i64B a)
   (.need (K6_q1 W H T a L = true → okG W H T (24 : Int))
   (.need (K6_q1 W H T a L = true → i64B a)
   (.ret (bv (K6_q1 W H T a L && (gK W H T (24 : Int) a == (3 : Int) || gK W H T (24 : Int) a == (7 : Int)) == ((↑(List.length (refN W H T (24 : Int) a)) : Int) == (0 : Int)) && up))))))

theorem K6_eq (w h t p : Int) (m : Nat) (f : Nat → Nat → DV) (k l : Int) (W H T : Int) (mk : Nat) (ck : Nat → Nat → DV) (r up : Bool) (n a : Int) (L : List Int) (z : Int) : codeK (sub [1, 0, 0, 1, 0, 0, 0, 0, 0, 0, 0, 0, 0, 0, 0, 0, 0, 0] (tL6 w h t p m f k l)) (.exit 0) (invL6 W H T mk ck r up n a L z) = K6 w h t p m f k l W H T mk ck r up n a L z := by kernel_rfl

end Go.Proofs.YtgahnelicbddcaaGreatDoor

/- ChipNumbers. -/
namespace Go.Proofs.YtgahnelicbddcaaGreatDoor
open Go.Sx
set_option maxRecDepth 100000
theorem dsc_pos {W H T P : Int} (hg : okG W H T P) : 1 ≤ (gr W H T P).cnt := by
  obtain ⟨⟨a1, a2⟩, ⟨b1, b2⟩, ⟨c1, c2⟩, d1, d2⟩ := hg
  show 1 ≤ W.toNat * H.toNat * (6 + 2 * T.toNat) + 2 * P.toNat
  have h1 : 1 * 1 ≤ W.toNat * H.toNat := Nat.mul_le_mul (by omega) (by omega)
  have h2 : 1 * 6 ≤ W.toNat * H.toNat * (6 + 2 * T.toNat) := Nat.mul_le_mul (by omega) (by omega)
  omega
theorem cnt_pos {W H T P : Int} (hg : okG W H T P) : 1 ≤ gN W H T P ∧ gN W H T P ≤ 1536 := by
  have hcl := (cnt_le hg.gr).2
  have hp := dsc_pos hg
  have hN : gN W H T P = ((gr W H T P).cnt : Int) := rfl
  omega
end Go.Proofs.YtgahnelicbddcaaGreatDoor

/- ChipDirections. -/
namespace Go.Proofs.YtgahnelicbddcaaGreatDoor
open Go.Sx
set_option maxRecDepth 100000
theorem md_okG {w h t p : Int} {m : Nat} {f : Nat → Nat → DV} (hr : RawOK w h t p m f) : okG (anN 2 4 w) (anN 2 4 h) (anN 2 3 t) 24 := by
  have h1 := anN_ok (a := 2) (b := 4) (x := w) (by omega)
  have h2 := anN_ok (a := 2) (b := 4) (x := h) (by omega)
  have h3 := anN_ok (a := 2) (b := 3) (x := t) (by omega)
  refine ⟨⟨?_, ?_⟩, ⟨?_, ?_⟩, ⟨?_, ?_⟩, ?_, ?_⟩ <;> omega
abbrev hasV (L : List Int) (n : Int) : Bool := hasB L.length (fun i _ => .x (.int .i64 (L.getD i 0))) n
theorem getD_mem {L : List Int} {j : Nat} (h : j < L.length) : L.getD j 0 ∈ L := by
  rw [List.getD_eq_getElem?_getD, List.getElem?_eq_getElem h]; exact List.getElem_mem h
theorem inc_get {L : List Int} (hL : Inc L) {i j : Nat} (hij : i < j) (h : j < L.length) : L.getD i 0 < L.getD j 0 := by
  have h2 : i < L.length := by omega
  rw [List.getD_eq_getElem?_getD, List.getD_eq_getElem?_getD, List.getElem?_eq_getElem h, List.getElem?_eq_getElem h2]
  exact List.pairwise_iff_getElem.1 hL i j h2 h hij
theorem ref_len {w h t p n : Int} (hg : okG w h t p) : (refD w h t p n).length ≤ 1536 ∧ (refN w h t p n).length ≤ 1536 := by
  have := (cnt_le hg.gr).2
  unfold refD refN
  constructor
  · split
    · have := flt_le w h t p (gr w h t p).cnt fun a => canN w h t p a n; omega
    · simp
  · split
    · have := flt_le w h t p (gr w h t p).cnt fun a => canN w h t p n a; omega
    · simp
theorem refD_N {w h t p a b : Int} : a ∈ refD w h t p b ↔ b ∈ refN w h t p a := by
  rw [mem_refD, mem_refN]
  constructor
  · rintro ⟨h1, h2, h3⟩; exact ⟨h2, h1, h3⟩
  · rintro ⟨h1, h2, h3⟩; exact ⟨h2, h1, h3⟩
theorem dir_up {w h t p a b : Int} : (hasV (refD w h t p b) a == hasV (refN w h t p a) b) = true := by
  rw [hasV, hasV, hasB_cell, hasB_cell, beq_iff_eq, decide_eq_decide, refD_N]
theorem law6 {w h t p : Int} {m : Nat} {f : Nat → Nat → DV} {k l : Int} (hr : RawOK w h t p m f) (hk : 0 ≤ k ∧ k < 65536) (hl : 0 ≤ l ∧ l < 65536) : Sat Tryz.prog (tL6 w h t p m f k l) (· = bv true) := by
  refine Sat.of_eq (L6T_eq w h t p m f k l) ⟨?_⟩
  have hg := md_okG hr
  have ent : Gc 31 (ups (codeS (sub [1, 0, 0, 1, 0, 0, 0, 0, 0, 0, 0, 0, 0, 0, 0, 0, 0, 0] (tL6 w h t p m f k l))) 31) (invL6 (anN 2 4 w) (anN 2 4 h) (anN 2 3 t) (anK 2 4 w h m f).length (fun i _ => .x (.int .i64 ((anK 2 4 w h m f).getD i 0))) false
      (hasV (refD (anN 2 4 w) (anN 2 4 h) (anN 2 3 t) 24 (Int.tmod (w64 l) (gN (anN 2 4 w) (anN 2 4 h) (anN 2 3 t) 24))) (Int.tmod (w64 k) (gN (anN 2 4 w) (anN 2 4 h) (anN 2 3 t) 24)) ==
       hasV (refN (anN 2 4 w) (anN 2 4 h) (anN 2 3 t) 24 (Int.tmod (w64 k) (gN (anN 2 4 w) (anN 2 4 h) (anN 2 3 t) 24))) (Int.tmod (w64 l) (gN (anN 2 4 w) (anN 2 4 h) (anN 2 3 t) 24)))
      (gN (anN 2 4 w) (anN 2 4 h) (anN 2 3 t) 24) (Int.tmod (w64 k) (gN (anN 2 4 w) (anN 2 4 h) (anN 2 3 t) 24))
      (refD (anN 2 4 w) (anN 2 4 h) (anN 2 3 t) 24 (Int.tmod (w64 k) (gN (anN 2 4 w) (anN 2 4 h) (anN 2 3 t) 24))) 0) :=
    entA_sound (roots := []) (keep := [4, 5, 6, 7, 8, 10, 11]) (drop := [0, 1, 3, 4, 5, 6, 7, 8, 9, 10, 11, 12, 13, 14, 15, 16, 17, 18, 19, 20, 21, 22, 23, 24, 25, 26, 27, 28, 29, 30]) (nx := 31) (h := .nil) (by kernel_rfl)
  rw [dir_up] at ent
  unfold L6T
  have q1 : L6T_q1 (w := w) (h := h) (t := t) (l := l) = fun i _ => .x (.int .i64 ((refD (anN 2 4 w) (anN 2 4 h) (anN 2 3 t) 24 (Int.tmod (w64 l) (gN (anN 2 4 w) (anN 2 4 h) (anN 2 3 t) 24))).getD i 0)) := rfl
  have q2 : L6T_q2 (w := w) (h := h) (t := t) (k := k) = fun i _ => .x (.int .i64 ((refN (anN 2 4 w) (anN 2 4 h) (anN 2 3 t) 24 (Int.tmod (w64 k) (gN (anN 2 4 w) (anN 2 4 h) (anN 2 3 t) 24))).getD i 0)) := rfl
  rw [q1, q2]
  generalize (anK 2 4 w h m f).length = mk at *
  generalize (fun (i _ : Nat) => DV.x (.int .i64 ((anK 2 4 w h m f).getD i 0))) = ck at *
  generalize anN 2 4 w = W at *
  generalize anN 2 4 h = H at *
  generalize anN 2 3 t = T at *
  have hN := cnt_pos hg
  rw [w64_of (n := k) (by omega) (by omega), w64_of (n := l) (by omega) (by omega)] at *
  have ha0 : 0 ≤ Int.tmod k (gN W H T 24) := Int.tmod_nonneg _ hk.1
  have ha1 : Int.tmod k (gN W H T 24) < gN W H T 24 := Int.tmod_lt_of_pos _ (by omega)
  have hb0 : 0 ≤ Int.tmod l (gN W H T 24) := Int.tmod_nonneg _ hl.1
  have hb1 : Int.tmod l (gN W H T 24) < gN W H T 24 := Int.tmod_lt_of_pos _ (by omega)
  generalize Int.tmod k (gN W H T 24) = a at *
  generalize Int.tmod l (gN W H T 24) = b at *
  have hc : gN W H T 24 = ((gr W H T 24).cnt : Int) := rfl
  have la := ref_len (n := a) hg
  have lb := ref_len (n := b) hg
  have ia : i64B a := ⟨by omega, by omega⟩
  have ib : i64B b := ⟨by omega, by omega⟩
  have ra := inc_refD (w := W) (h := H) (t := T) (p := 24) (n := a)
  have hcan : ∀ j : Nat, j < (refD W H T 24 a).length → (0 ≤ (refD W H T 24 a).getD j 0 ∧ (refD W H T 24 a).getD j 0 < gN W H T 24) ∧ a ∈ refN W H T 24 ((refD W H T 24 a).getD j 0) := fun j hj =>
    ⟨(mem_refD.1 (getD_mem hj)).2.1, refD_N.1 (getD_mem hj)⟩
  have hsrc := src_iff hg ha0 (by omega)
  have hsnk := snk_iff hg ha0 (by omega)
  refine ⟨fun h => (by cases h), fun _ => ⟨hr, hg, fun h => ?_, fun _ => ⟨by omega, by omega, by omega, by omega, by omega, by omega, fun _ => hg, fun _ => ib, fun _ => rowOK_cell (by omega), fun _ => hg, fun _ => ia, fun _ => rowOK_cell (by omega), hg, ia, ?_⟩⟩⟩
  · simp only [decide_eq_true_eq] at h; omega
  refine code_satS CN_ok DN_ok (n := 200) (n0 := 31) (nx := 31) (roots := []) (keep := [4, 5, 6, 7, 8, 10, 11]) (drop := [0, 1, 3, 4, 5, 6, 7, 8, 9, 10, 11, 12, 13, 14, 15, 16, 17, 18, 19, 20, 21, 22, 23, 24, 25, 26, 27, 28, 29, 30]) (h := .nil) (body := bodyL6) (by kernel_rfl) (by kernel_rfl)
    (fun q s => ∃ j : Nat, q = (refD W H T 24 a).length - j ∧ j ≤ (refD W H T 24 a).length ∧ s = invL6 W H T mk ck false true (gN W H T 24) a (refD W H T 24 a) j)
    (fun e s => e = .exit 0 ∧ ∃ j : Nat, s = invL6 W H T mk ck false true (gN W H T 24) a (refD W H T 24 a) j)
    ⟨_, _, ⟨0, rfl, by omega, rfl⟩, ent⟩ ?_ ?_
  · rintro q s ⟨j, rfl, hj, rfl⟩
    refine Sat.of_eq (B6_eq W H T mk ck false true _ a _ j) ?_
    constructor; unfold B6
    refine ⟨fun h1 => ?_, fun h1 => ?_⟩
    · simp only [decide_eq_true_eq] at h1
      have h1 : j < (refD W H T 24 a).length := by omega
      obtain ⟨⟨c1, c2⟩, c3⟩ := hcan j h1
      have lv := ref_len (n := (refD W H T 24 a).getD j 0) hg
      have q5 : B6_q5 W H T (refD W H T 24 a) (j : Int) = fun i _ => .x (.int .i64 ((refN W H T 24 ((refD W H T 24 a).getD j 0)).getD i 0)) := rfl
      rw [q5, Int.toNat_natCast]
      have hv : hasB (refN W H T 24 ((refD W H T 24 a).getD j 0)).length (fun i _ => .x (.int .i64 ((refN W H T 24 ((refD W H T 24 a).getD j 0)).getD i 0))) a = true := by
        rw [hasB_cell, decide_eq_true c3]
      have q4 : B6_q4 (gN W H T 24) (refD W H T 24 a) (j : Int) = false := by
        unfold B6_q4 B6_q3 B6_q2 B6_q1
        simp only [Int.toNat_natCast, Bool.or_eq_false_iff, Bool.and_eq_false_iff, decide_eq_false_iff_not]
        refine ⟨⟨by omega, by omega⟩, ?_⟩
        by_cases h0 : j = 0
        · left; omega
        · right
          rw [w64_of (by omega) (by omega), show ((j : Int) - 1).toNat = j - 1 by omega]
          have := inc_get ra (i := j - 1) (j := j) (by omega) h1
          omega
      rw [hv, q4]
      refine ⟨by omega, fun _ => by omega, fun h2 => ?_, fun _ => by omega, fun _ => by omega, fun _ => hg, fun _ => ⟨by omega, by omega⟩, fun _ => rowOK_cell (by omega), ⟨(fun h => by cases h), fun _ => ?_⟩⟩
      · have h2 := h2.2
        unfold B6_q3 at h2
        simp only [decide_eq_true_eq] at h2
        rw [w64_of (by omega) (by omega)]; omega
      · rw [w64_of (n := (j : Int) + 1) (by omega) (by omega)]
        exact ⟨(refD W H T 24 a).length - (j + 1), _, by omega, ⟨j + 1, rfl, by omega, rfl⟩, Gc.refl _ _⟩
    · exact ⟨_, ⟨rfl, _, rfl⟩, Gc.refl _ _⟩
  · rintro e s ⟨rfl, j, rfl⟩
    refine Sat.of_eq (K6_eq w h t p m f k l W H T mk ck false true _ a _ j) ⟨?_⟩
    unfold K6
    have e1 : K6_q1 W H T a (refD W H T 24 a) = true := by
      unfold K6_q1
      rw [beq_iff_eq, Bool.eq_iff_iff]
      simp only [Bool.or_eq_true, beq_iff_eq]
      rw [or_assoc, ← hsrc, ← List.length_eq_zero_iff]; omega
    have e2 : ((gK W H T 24 a == 3 || gK W H T 24 a == 7) == (((refN W H T 24 a).length : Int) == 0)) = true := by
      rw [beq_iff_eq, Bool.eq_iff_iff]
      simp only [Bool.or_eq_true, beq_iff_eq]
      rw [← hsnk, ← List.length_eq_zero_iff]; omega
    rw [e1]
    refine ⟨hg, ia, fun _ => hg, fun _ => ia, ?_⟩
    show bv _ = bv true
    rw [e2]; rfl
end Go.Proofs.YtgahnelicbddcaaGreatDoor

