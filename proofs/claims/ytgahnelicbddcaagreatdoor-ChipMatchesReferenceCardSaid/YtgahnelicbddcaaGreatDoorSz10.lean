/- Part of a proof of the given statements of this seat (SxChN): no conditions beyond those typed here. -/
import Derived.Test.YtgahnelicbddcaaGreatDoorSz08
import Derived.Test.YtgahnelicbddcaaGreatDoorSz09
set_option linter.unusedVariables false
set_option linter.unusedSimpArgs false
set_option linter.unusedSectionVars false

namespace Go.Proofs.YtgahnelicbddcaaGreatDoor
open Go.Sx
set_option maxRecDepth 100000

theorem hpLe_refl : ∀ hp : Heap, hpLe hp hp
  | [] => trivial
  | none :: r => ⟨.inl rfl, hpLe_refl r⟩
  | some b :: r => ⟨.inr ⟨b, b, rfl, rfl, .refl _⟩, hpLe_refl r⟩
noncomputable def colR (w h t p : Int) (m : Nat) (c : Nat → Nat → DV) (L : List Int) : SV × Heap × Nat := (.tup [], [some (.cells [iv w, iv h, iv t, iv p, .d (.ro m 1 c), .row 2 0 0 L.length 1]), none, some (.row L.length 1 (cellL L))], 3)
noncomputable def mAdd : MCtr := fun args hp nx => match args, hp, nx with
  | [.ptr 0 0, .d (.x (.int .i64 k)), .d (.x (.int .i64 x)), .d (.x (.int .i64 y)), .d (.x (.int .i64 i))], [some (.cells [.d (.x (.int .i64 w)), .d (.x (.int .i64 h)), .d (.x (.int .i64 t)), .d (.x (.int .i64 p)), .d (.ro m 1 c), .row 1 0 0 n 1]), some (.row n' 1 f)], 2 =>
    .nd (okG w h t p) (.need (n = n' ∧ n ≤ 100000 ∧ IntRow n f) (.ret (colR w h t p m c (addL w h t p k x y i n f))))
  | _, _, _ => .fail
theorem row_lsOf {n : Nat} {f : Nat → Nat → DV} (h : IntRow n f) : BlkLe (.row n 1 f) (.row (lsOf n f).length 1 (cellL (lsOf n f))) := by
  rw [lsOf_len]
  refine .row fun i j hi hj => ?_
  obtain rfl : j = 0 := by omega
  exact cell_lsOf h hi
theorem mAdd_ok : MuOK Tryz.prog 60 mAdd := by
  refine muOK_walk C4_ok D4_ok fun args hp nx r hr => ?_
  unfold mAdd at hr
  split at hr
  · rename_i k x y i w h t p m c n n' f
    obtain ⟨hg, ⟨rfl, hn, hI⟩, rfl⟩ := hr
    refine ⟨_, _, 200, .nil, hpLe_refl _, fun _ _ _ _ h => h, ?_⟩
    have kk : Sat Tryz.prog (inlT Tryz.prog C4 D4 200 60 [.ptr 0 0, iv k, iv x, iv y, iv i] ⟨[], colH w h t p m c n f, 2, .nil⟩) fun q => Gc 2 ⟨[.ok q.1], q.2.hp, q.2.next, .nil⟩ ⟨[.ok (colR w h t p m c (addL w h t p k x y i n f)).1], (colR w h t p m c (addL w h t p k x y i n f)).2.1, (colR w h t p m c (addL w h t p k x y i n f)).2.2, .nil⟩ := by
      refine Sat.of_eq (LAdd_eq w h t p m c n f k x y i) ?_
      constructor; unfold LAdd
      refine ⟨hg, fun h1 => ⟨⟨by omega, by omega, by omega⟩, ?_⟩, fun h1 => ?_⟩
      · have e : addL w h t p k x y i n f = lsOf n f ++ [gM w h t p k x y i] := by
          unfold LAdd_q1 at h1
          unfold addL ndL; rw [if_pos (beq_iff_eq.1 h1)]
        unfold colR; rw [e]
        have el : (lsOf n f ++ [gM w h t p k x y i]).length = n + 1 := by rw [List.length_append, lsOf_len]; rfl
        rw [el]
        refine (gcA_sound (n0 := 2) (roots := [(.cell (.base 0) 5, 2)]) (keep := [0]) (drop := []) (nx := 3) (h := .nil)
          (s' := ⟨[.ok (.tup [])], [some (.cells [iv w, iv h, iv t, iv p, .d (.ro m 1 c), .row 2 0 0 (n + 1) 1]), none, some (.row (n + 1) 1 (LAdd_q2 w h t p n f k x y i))], 3, .nil⟩) (by kernel_rfl)).trans ?_
        refine gc_hp rfl rfl ⟨.inr ⟨_, _, rfl, rfl, .refl _⟩, .inl rfl, .inr ⟨_, _, rfl, rfl, .row fun a b ha hb => ?_⟩, trivial⟩
        obtain rfl : b = 0 := by omega
        unfold LAdd_q2 cellL
        rw [Nat.zero_add]
        rcases Nat.lt_or_ge a n with h2 | h2
        · rw [decide_eq_true h2]
          have e3 : (lsOf n f ++ [gM w h t p k x y i]).getD a 0 = intCell (f a 0) := by
            rw [List.getD_eq_getElem?_getD, List.getElem?_append_left (by rw [lsOf_len]; exact h2), ← List.getD_eq_getElem?_getD, lsOf_get h2]
          rw [e3, hI a h2, show a - n = 0 by omega]; rfl
        · obtain rfl : a = n := by omega
          have e3 : (lsOf a f ++ [gM w h t p k x y i]).getD a 0 = gM w h t p k x y i := by
            rw [List.getD_eq_getElem?_getD, List.getElem?_append_right (by rw [lsOf_len]; exact Nat.le_refl _), lsOf_len, Nat.sub_self]; rfl
          rw [e3, Nat.sub_self, decide_eq_false (by omega), selD_eq]; rfl
      · have e : addL w h t p k x y i n f = lsOf n f := by
          unfold LAdd_q1 at h1
          unfold addL ndL; rw [if_neg (by simpa using h1), List.append_nil]
        unfold colR; rw [e, lsOf_len]
        refine (gcA_sound (n0 := 2) (roots := [(.cell (.base 0) 5, 2)]) (keep := [0]) (drop := []) (nx := 3) (h := .nil)
          (s' := ⟨[.ok (.tup [])], [some (.cells [iv w, iv h, iv t, iv p, .d (.ro m 1 c), .row 2 0 0 n 1]), none, some (.row n 1 f)], 3, .nil⟩) (by kernel_rfl)).trans ?_
        refine gc_hp rfl rfl ⟨.inr ⟨_, _, rfl, rfl, .refl _⟩, .inl rfl, .inr ⟨_, _, rfl, rfl, .row fun a b ha hb => ?_⟩, trivial⟩
        obtain rfl : b = 0 := by omega
        exact cell_lsOf hI ha
    exact kk
  · exact hr.elim
end Go.Proofs.YtgahnelicbddcaaGreatDoor

