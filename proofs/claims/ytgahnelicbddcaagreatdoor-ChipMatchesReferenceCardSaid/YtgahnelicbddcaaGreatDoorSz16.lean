/- Part of a proof of the given statements of this seat (SyLaw, SxChAr): no conditions beyond those typed here. -/
import Derived.HandedShaped
import Derived.Handed
import Derived.LaidMore
import Derived.LaidLaws
import Derived.Test.YtgahnelicbddcaaGreatDoorSz03
import Derived.Test.YtgahnelicbddcaaGreatDoorSz15
set_option linter.unusedVariables false
set_option linter.unusedSimpArgs false
set_option linter.unusedSectionVars false

namespace Go
variable {H : Type} {enc : TypeId × Value → H}

theorem returnsInHanded_of_change_ands {a : Assume} {C : Checked} {os : Os} {f : FuncId} {fn : Func} {s : ChangeSpec} {conds : List PathCond} {apart fresh handsOn again : Bool} {X : World → Array Value → Prop}
    (hX : ∀ (w w' : World) (args : Array Value), w.heap = w'.heap → X w args → X w' args)
    (own : ownKnob C.prog.godebug = none) (started : os.Started) (noInit : C.prog.inits.idxOf? f = none) (hfn : C.prog.funcs[f]? = some fn)
    (witness : ∃ (w : World) (tape : Tape) (i : Input), w.os = os ∧ (w.forCall tape i).Shaped C.prog ∧ i.vars = [] ∧ Input.okWide C.prog (w.forCall tape i) .any w.heap.size f i ∧
      ((s.pre enc C.prog fn conds apart (w.forCall tape i).memory i.args ∧ X (w.forCall tape i).memory i.args) ∧ sizedMet enc C.prog fn (OpenSpec.ofChange s) apart (w.forCall tape i).memory i.args) ∧ a.holds C.prog (lone (Frame.enter C.prog f i.args .normal) [] (w.forCall tape i)))
    (contract : ∀ (W : World) (base : Nat) (args : Array Value) (ds gs : List (DataW H)) (before : List MemPlace),
      (∀ (j : Nat) t v, fn.params[j]? = some t → args[j]? = some v → Value.okWide C.prog W .any base t v) →
      DataW.Whole enc C.prog fn.params.toList s.vars apart W args.toList ds gs before →
      conds.all (PathCond.test C.prog ⟨fn.params.toList, ds, s.plain.varTypes C.prog, gs⟩) = true →
      (DataW.weightsEach C.prog (fn.params.toList ++ s.plain.varTypes C.prog) (ds ++ gs)).all (· ≤ reachBytes) = true → X W args → W.ShapedOpen C.prog →
      a.holds C.prog (lone (Frame.enter C.prog f args .normal) [] W) →
      Calls C.prog f args W fun e W' => ∃ v, e = .returned v ∧ s.post enc C.prog fn apart fresh handsOn again W args v W') :
    ReturnsInHanded a C os f .any (fun w args => (s.pre enc C.prog fn conds apart w args ∧ X w args) ∧ sizedMet enc C.prog fn (OpenSpec.ofChange s) apart w args) (s.post enc C.prog fn apart fresh handsOn again) := by
  refine returnsInHanded_of_calls own started noInit witness ?_
  intro w tape i _ hsh _ hok hpre hholds
  obtain ⟨_, _, _, fn', hfn', _, _, _, _, hval⟩ := hok
  have e : fn' = fn := Option.some.inj (hfn'.symm.trans hfn)
  subst e
  obtain ⟨⟨⟨ds, gs, before, hw, hc⟩, hx⟩, hz⟩ := hpre
  have hw' := DataW.Whole.of_heap (w' := w.forCall tape i) (by rfl) hw
  refine (contract (w.forCall tape i) w.heap.size i.args ds gs before hval hw' hc (hz.weights hw) (hX _ _ _ (by rfl) hx) hsh hholds).mono fun e W' ⟨v, he, hp⟩ => ?_
  subst he
  exact ChangeSpec.post_blind hp

end Go

namespace Go.Proofs.YtgahnelicbddcaaGreatDoor
open Go.Sx
set_option maxRecDepth 100000
theorem u22 : Tryz.prog.underlying 22 = some (.slice 5) := by kernel_rfl
theorem u5 : Tryz.prog.underlying 5 = some (.int .u8) := by kernel_rfl
theorem c5 : Tryz.prog.cellsOf 5 = 1 := by kernel_rfl
theorem s24 : (match Tryz.prog.underlying 24 with | some (.struct fs) => some (fs.toList.map (·.type)) | _ => none) = some [5, 5, 5, 5, 22] := by kernel_rfl
theorem fs24 : ∃ fs, Tryz.prog.underlying 24 = some (.struct fs) ∧ ∃ a b c d e, fs.toList = [a, b, c, d, e] ∧ a.type = 5 ∧ b.type = 5 ∧ c.type = 5 ∧ d.type = 5 ∧ e.type = 22 := by
  have h := s24
  split at h
  · rename_i fs hu
    refine ⟨fs, hu, ?_⟩
    simp only [Option.some.injEq] at h
    generalize fs.toList = L at h
    obtain ⟨a, l1, rfl, ta, h⟩ := List.map_eq_cons_iff.1 h
    obtain ⟨b, l2, rfl, tb, h⟩ := List.map_eq_cons_iff.1 h
    obtain ⟨c, l3, rfl, tc, h⟩ := List.map_eq_cons_iff.1 h
    obtain ⟨d, l4, rfl, td, h⟩ := List.map_eq_cons_iff.1 h
    obtain ⟨e, l5, rfl, te, h⟩ := List.map_eq_cons_iff.1 h
    obtain rfl := List.map_eq_nil_iff.1 h
    exact ⟨a, b, c, d, e, rfl, ta, tb, tc, td, te⟩
  · cases h
theorem byte_arg {n : Nat} {ds : List DV} (h : okT Tryz.prog (n + 1) 5 ds) : ∃ v : Int, (0 ≤ v ∧ v < 256) ∧ ds = [.x (.int .u8 v)] := by
  obtain ⟨v, hv, he⟩ := okT_int u5 h
  have h0 : IntKind.u8.min = 0 := rfl
  have h1 : IntKind.u8.max = 255 := rfl
  exact ⟨v, by omega, he⟩
theorem bytes_arg {n : Nat} {ds : List DV} (h : okT Tryz.prog (n + 2) 22 ds) : ∃ (m : Nat) (f : Nat → Nat → DV), ds = [.ro m 1 f] ∧ ∀ a, a < m → f a 0 = .x (.int .u8 (intCell (f a 0))) ∧ 0 ≤ intCell (f a 0) ∧ intCell (f a 0) < 256 := by
  unfold okT at h
  rw [u22] at h
  obtain ⟨m, cell, hm, rfl, hc⟩ := h
  rw [c5] at hc ⊢
  refine ⟨m, cell, rfl, fun a ha => ?_⟩
  obtain ⟨v, hv, he⟩ := byte_arg (hc a ha)
  have : cell a 0 = .x (.int .u8 v) := by simpa [List.range, List.range.loop] using he
  rw [this]
  exact ⟨rfl, hv⟩
theorem raw_arg {ds : List DV} (h : okT Tryz.prog 6 24 ds) : ∃ (w h t p : Int) (m : Nat) (f : Nat → Nat → DV), RawOK w h t p m f ∧ svT Tryz.prog 24 ds = rawF w h t p m f := by
  obtain ⟨fs, hu, a, b, c, d, e, hl, ta, tb, tc, td, te⟩ := fs24
  unfold okT at h
  rw [hu] at h
  simp only [hl, okFs, ta, tb, tc, td, te] at h
  obtain ⟨d1, r1, rfl, k1, d2, r2, rfl, k2, d3, r3, rfl, k3, d4, r4, rfl, k4, d5, r5, rfl, k5, rfl⟩ := h
  obtain ⟨v1, b1, rfl⟩ := byte_arg k1
  obtain ⟨v2, b2, rfl⟩ := byte_arg k2
  obtain ⟨v3, b3, rfl⟩ := byte_arg k3
  obtain ⟨v4, b4, rfl⟩ := byte_arg k4
  obtain ⟨m, f, rfl, hf⟩ := bytes_arg k5
  refine ⟨v1, v2, v3, v4, m, f, ⟨⟨b1, b2, b3, b4⟩, hf⟩, ?_⟩
  unfold svT
  rw [hu]
  rfl
end Go.Proofs.YtgahnelicbddcaaGreatDoor

