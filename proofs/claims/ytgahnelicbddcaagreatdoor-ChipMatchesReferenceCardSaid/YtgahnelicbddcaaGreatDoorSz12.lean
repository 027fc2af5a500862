/- Part of a proof of the given statements of this seat (SxChO, SxChP, SxChQ, SxChR, SxChS, SxChT): no conditions beyond those typed here. -/
import Derived.Test.YtgahnelicbddcaaGreatDoorSz10
import Derived.Test.YtgahnelicbddcaaGreatDoorSz11
import Derived.Shelf.LaysM
import Derived.Shelf.LaysC
import Derived.Shelf.Strconv.Itoa3
import Derived.Shelf.Strconv.AtoiAll
import Derived.Shelf.Small.Strs
import Derived.Shelf.Strings.Prefix
import Derived.Shelf.Strings.Split
import Derived.Shelf.Strings.Runes
import Derived.Shelf.Slices.Turned
import Derived.Shelf.Slices.CompactI
import Derived.Shelf.Slices.In.SortNone
import Derived.Shelf.Sort.Plain
import Derived.Shelf.SlicesE.DeleteFunc
import Derived.Test.YtgahnelicbddcaaGreatDoorProg
set_option linter.unusedVariables false
set_option linter.unusedSimpArgs false
set_option linter.unusedSectionVars false

namespace Go.Proofs.YtgahnelicbddcaaGreatDoor
open Go.Sx
set_option maxRecDepth 100000

noncomputable def selCol : List SV → Heap → Option (List Nat) := fun args hp => match args with
  | .ptr l 0 :: _ => (match hget hp l with
    | some (.cells [_, _, _, _, _, .row l1 _ _ _ _]) => some [l, l1]
    | some (.cells [_, _, _, _, _, .d (.x (.slice none 0 0))]) => some [l]
    | _ => none)
  | _ => none
noncomputable def nilM (m : MCtr) : MCtr := fun args hp nx => match hp, nx with
  | [some (.cells [.d (.x (.int .i64 w)), .d (.x (.int .i64 h)), .d (.x (.int .i64 t)), .d (.x (.int .i64 p)), .d (.ro k 1 c), .d (.x (.slice none 0 0))])], 1 => (match args with
    | .ptr 0 0 :: r => (match r.all isD with
      | true => m (.ptr 0 0 :: r) [some (.cells [iv w, iv h, iv t, iv p, .d (.ro k 1 c), .row 1 0 0 0 1]), some (.row 0 1 (cellL []))] 2
      | false => .fail)
    | _ => .fail)
  | _, _ => m args hp nx
theorem le_isD {ρ : List (Nat × Nat)} {nils : List Nat} : ∀ {r : List SV}, r.all isD = true → leTm 1 ρ nils (r.map .ok) (r.map .ok)
  | [], _ => trivial
  | s :: r, h => by
    simp only [List.all_cons, Bool.and_eq_true] at h
    refine ⟨?_, le_isD h.2⟩
    cases s with
    | d v =>
      simp only [leTV, leSV]
      cases v with
      | x v => exact rfl
      | ro n e c => exact ⟨rfl, rfl, fun _ _ _ _ => rfl⟩
      | rf n e c => exact ⟨rfl, rfl, fun _ _ _ _ => rfl⟩
    | _ => exact absurd h.1 (by simp [isD])
theorem nilM_ok {k : FuncId} {m : MCtr} (h : MuOK Tryz.prog k m) : MuOK Tryz.prog k (nilM m) := by
  intro args hp nx r hr
  unfold nilM at hr
  split at hr
  · rename_i w h' t p k' c
    split at hr
    · rename_i r' 
      split at hr
      · rename_i hd
        refine CallsTo.pre (hp1 := [some (.cells [iv w, iv h', iv t, iv p, .d (.ro k' 1 c), .row 1 0 0 0 1]), some (.row 0 1 (cellL []))]) (nx1 := 2) (args1 := .ptr 0 0 :: r') ?_ rfl (h _ _ _ _ hr)
        refine gc_sound [] [1] rfl ⟨?_, le_isD hd⟩ ?_
        · simp [leTV, leSV, rn]
        · simp [leHp, leBlk, leSVs, leSV, rn, iv, leD, srcOf, hget]
      · exact hr.elim
    · exact hr.elim
  · exact h _ _ _ _ hr
noncomputable def mAddC : MCtr := mcB selCol (nilM mAdd)
theorem mAddC_ok : MuOK Tryz.prog 60 mAddC := mcB_ok (nilM_ok mAdd_ok)
noncomputable def mu5 : FuncId → Option MCtr := fun k => match k with
  | 60 => some mAddC
  | _ => none
theorem mu5_ok (k : FuncId) (m : MCtr) (h : mu5 k = some m) : MuOK Tryz.prog k m := by
  unfold mu5 at h
  split at h
  · cases h; exact mAddC_ok
  · cases h
def inlK (k : Nat) : Bool := match k with
  | 42 | 44 | 45 | 59 | 60 | 61 | 62 | 63 | 64 | 66 | 71 | 79 | 80 | 81 | 82 | 87 => true
  | _ => false
noncomputable def CB : Ctx := ctxN Tryz.prog man4 inlK 200 .nil 6
theorem CB_ok : CtxOK Tryz.prog CB := ctxN_ok mixed man4_ok 6
noncomputable def C5 : Ctx := withMu Tryz.prog CB mu5
theorem C5_ok : CtxOK Tryz.prog C5 := withMu_ok CB_ok mu5_ok
noncomputable def D5 : Dr := fun _ => drawn Tryz.prog C5
theorem D5_ok : DrOK Tryz.prog C5 D5 := drawn_ok C5_ok mixed
end Go.Proofs.YtgahnelicbddcaaGreatDoor

namespace Go.Proofs.YtgahnelicbddcaaGreatDoor
open Go.Sx
set_option maxRecDepth 100000
noncomputable def LWir_q1 (x : Int) : Bool :=
  decide (x < (0 : Int))
noncomputable def LWir_q2 (w : Int) (x : Int) : Bool :=
  LWir_q1 x || decide (x ≥ w)
noncomputable def LWir_q3 (y : Int) : Bool :=
  decide (y < (0 : Int))
noncomputable def LWir_q4 (w : Int) (x : Int) (y : Int) : Bool :=
  LWir_q2 w x || LWir_q3 y
noncomputable def LWir_q5 (w : Int) (h : Int) (x : Int) (y : Int) : Bool :=
  LWir_q4 w x y || decide (y ≥ h)
noncomputable def LWir_q6 (w : Int) (h : Int) (t : Int) (p : Int) (n : Nat) (f : Nat → Nat → DV) (x : Int) (y : Int) (r : Int) (a : Nat) (b : Nat) : DV :=
  DV.x (.int .i64 (List.getD (addL w h t p (4 : Int) x y r n f) a (0 : Int)))
noncomputable def LWir_q7 (w : Int) (h : Int) (t : Int) (p : Int) (n : Nat) (f : Nat → Nat → DV) (x : Int) (y : Int) (r : Int) (a : Nat) (b : Nat) : DV :=
  DV.x (.int .i64 (List.getD (addL w h t p (5 : Int) x y r (List.length (addL w h t p (4 : Int) x y r n f)) (LWir_q6 w h t p n f x y r)) a (0 : Int)))
noncomputable def LWir_q8 (w : Int) (h : Int) (t : Int) (p : Int) (n : Nat) (f : Nat → Nat → DV) (x : Int) (y : Int) (r : Int) (a : Nat) (b : Nat) : DV :=
  DV.x
  (.int .i64
   (List.getD (addL w h t p (4 : Int) (w64 (x - (1 : Int))) y r (List.length (addL w h t p (5 : Int) x y r (List.length (addL w h t p (4 : Int) x y r n f)) (LWir_q6 w h t p n f x y r))) (LWir_q7 w h t p n f x y r)) a
   (0 : Int)))
noncomputable def LWir_q9 (w : Int) (h : Int) (t : Int) (p : Int) (n : Nat) (f : Nat → Nat → DV) (x : Int) (y : Int) (r : Int) (a : Nat) (b : Nat) : DV :=
  DV.x
  (.int .i64
   (List.getD
   (addL w h t p (5 : Int) x (w64 (y - (1 : Int))) r
   (List.length
   (addL w h t p (4 : Int) (w64 (x - (1 : Int))) y r (List.length (addL w h t p (5 : Int) x y r (List.length (addL w h t p (4 : Int) x y r n f)) (LWir_q6 w h t p n f x y r))) (LWir_q7 w h t p n f x y r)))
   (LWir_q8 w h t p n f x y r))
   a (0 : Int)))
noncomputable def LWir (w h t p : Int) (m : Nat) (c : Nat → Nat → DV) (n : Nat) (f : Nat → Nat → DV) (x y r : Int) : Tree (SV × AS) :=
 .ite (LWir_q5 w h x y)
 (.ret
 (SV.tup [],
 {
 tm :=
 [.ok (SV.ptr 0 0), .ok (iv x), .ok (iv y), .ok (iv r), .unk, .unk, .unk, .unk, .ok (iv x), .ok (bv (LWir_q1 x)), .ok (bv (LWir_q1 x)),
 .tag 10 false (iv x), .tag 10 false (SV.ptr 0 0), .tag 10 false (SV.ptr 0 0), .tag 10 false (SV.ptr 0 0),
 .tag 10 false (SV.ptr 0 0), .tag 10 false (iv w), .tag 10 false (bv (decide (x ≥ w))), .ok (bv (LWir_q2 w x)), .ok (bv (LWir_q2 w x)),
 .tag 19 false (iv y), .tag 19 false (bv (LWir_q3 y)), .ok (bv (LWir_q4 w x y)), .ok (bv (LWir_q4 w x y)), .tag 23 false (iv y),
 .tag 23 false (SV.ptr 0 0), .tag 23 false (SV.ptr 0 0), .tag 23 false (SV.ptr 0 0),
 .tag 23 false (SV.ptr 0 1), .tag 23 false (iv h), .tag 23 false (bv (decide (y ≥ h))), .ok (bv (LWir_q5 w h x y)), .unk, .unk, .unk, .unk, .unk,
 .unk, .unk, .unk, .unk, .unk, .unk, .unk, .unk, .unk, .unk, .unk, .unk, .unk, .unk, .unk, .unk, .unk],
 hp := [some (.cells [iv w, iv h, iv t, iv p, SV.d (DV.ro m 1 c), SV.row 1 0 0 n 1]), some (.row n 1 f)], next := 2, hint := .nil }))
 (.need (okG w h t p)
 (.need (n = n ∧ n ≤ 100000 ∧ IntRow n f)
 (.need (okG w h t p)
 (.need
 (List.length (addL w h t p (4 : Int) x y r n f) = List.length (addL w h t p (4 : Int) x y r n f) ∧
 List.length (addL w h t p (4 : Int) x y r n f) ≤ 100000 ∧ IntRow (List.length (addL w h t p (4 : Int) x y r n f)) (LWir_q6 w h t p n f x y r))
 (.need (okG w h t p)
 (.need
 (List.length (addL w h t p (5 : Int) x y r (List.length (addL w h t p (4 : Int) x y r n f)) (LWir_q6 w h t p n f x y r)) =
 List.length (addL w h t p (5 : Int) x y r (List.length (addL w h t p (4 : Int) x y r n f)) (LWir_q6 w h t p n f x y r)) ∧
 List.length (addL w h t p (5 : Int) x y r (List.length (addL w h t p (4 : Int) x y r n f)) (LWir_q6 w h t p n f x y r)) ≤ 100000 ∧
 IntRow (List.length (addL w h t p (5 : Int) x y r (List.length (addL w h t p (4 : Int) x y r n f)) (LWir_q6 w h t p n f x y r))) (LWir_q7 w h t p n f x y r))
 (.need (okG w h t p)
 (.need
 (List.length
 (addL w h t p (4 : Int) (w64 (x - (1 : Int))) y r (List.length (addL w h t p (5 : Int) x y r (List.length (addL w h t p (4 : Int) x y r n f)) (LWir_q6 w h t p n f x y r)))
 (LWir_q7 w h t p n f x y r)) =
 List.length
 (addL w h t p (4 : Int) (w64 (x - (1 : Int))) y r (List.length (addL w h t p (5 : Int) x y r (List.length (addL w h t p (4 : Int) x y r n f)) (LWir_q6 w h t p n f x y r)))
 (LWir_q7 w h t p n f x y r)) ∧
 List.length
 (addL w h t p (4 : Int) (w64 (x - (1 : Int))) y r (List.length (addL w h t p (5 : Int) x y r (List.length (addL w h t p (4 : Int) x y r n f)) (LWir_q6 w h t p n f x y r)))
 (LWir_q7 w h t p n f x y r)) ≤
 100000 ∧
 IntRow
 (List.length
 (addL w h t p (4 : Int) (w64 (x - (1 : Int))) y r (List.length (addL w h t p (5 : Int) x y r (List.length (addL w h t p (4 : Int) x y r n f)) (LWir_q6 w h t p n f x y r)))
 (LWir_q7 w h t p n f x y r)))
 (LWir_q8 w h t p n f x y r))
 (.ret
 (SV.tup [],
 {
 tm :=
 [.ok (SV.ptr 0 0), .ok (iv x), .ok (iv y), .ok (iv r), .unk, .unk, .unk, .unk, .ok (iv x), .ok (bv (LWir_q1 x)), .ok (bv (LWir_q1 x)), .unk, .unk,
 .unk, .unk, .unk, .unk, .unk, .ok (bv (LWir_q2 w x)), .ok (bv (LWir_q2 w x)), .unk, .unk, .ok (bv (LWir_q4 w x y)), .ok (bv (LWir_q4 w x y)),
 .unk, .unk, .unk, .unk, .unk, .unk, .unk, .ok (bv (LWir_q5 w h x y)), .ok (SV.ptr 0 0), .ok (iv x), .ok (iv y), .ok (iv r), .ok (SV.tup []),
 .ok (SV.ptr 0 0), .ok (iv x), .ok (iv y), .ok (iv r), .ok (SV.tup []), .ok (SV.ptr 0 0), .ok (iv x), .ok (iv (w64 (x - (1 : Int)))), .ok (iv y),
 .ok (iv r), .ok (SV.tup []), .ok (SV.ptr 0 0), .ok (iv x), .ok (iv y), .ok (iv (w64 (y - (1 : Int)))), .ok (iv r), .ok (SV.tup [])],
 hp :=
 [some
 (.cells
 [iv w, iv h, iv t, iv p, SV.d (DV.ro m 1 c),
 SV.row 5 0 0
 (List.length
 (addL w h t p (5 : Int) x (w64 (y - (1 : Int))) r
 (List.length
 (addL w h t p (4 : Int) (w64 (x - (1 : Int))) y r (List.length (addL w h t p (5 : Int) x y r (List.length (addL w h t p (4 : Int) x y r n f)) (LWir_q6 w h t p n f x y r)))
 (LWir_q7 w h t p n f x y r)))
 (LWir_q8 w h t p n f x y r)))
 1]),
 none, none, none, none,
 some
 (.row
 (List.length
 (addL w h t p (5 : Int) x (w64 (y - (1 : Int))) r
 (List.length
 (addL w h t p (4 : Int) (w64 (x - (1 : Int))) y r (List.length (addL w h t p (5 : Int) x y r (List.length (addL w h t p (4 : Int) x y r n f)) (LWir_q6 w h t p n f x y r)))
 (LWir_q7 w h t p n f x y r)))
 (LWir_q8 w h t p n f x y r)))
 1 (LWir_q9 w h t p n f x y r)),
 none, none],
 next := 6, hint := .nil }))))))))))

theorem LWir_eq (w h t p : Int) (m : Nat) (c : Nat → Nat → DV) (n : Nat) (f : Nat → Nat → DV) (x y r : Int) : inlT Tryz.prog C5 D5 200 63 [.ptr 0 0, iv x, iv y, iv r] ⟨[], colH w h t p m c n f, 2, .nil⟩ = LWir w h t p m c n f x y r := by kernel_rfl


end Go.Proofs.YtgahnelicbddcaaGreatDoor

namespace Go.Proofs.YtgahnelicbddcaaGreatDoor
open Go.Sx
set_option maxRecDepth 100000

theorem addL_cell (w h t p k x y i : Int) (L : List Int) : addL w h t p k x y i L.length (cellL L) = L ++ ndL w h t p k x y i := by unfold addL; rw [lsOf_cellL]
theorem addL_len (w h t p k x y i : Int) (n : Nat) (f : Nat → Nat → DV) : (addL w h t p k x y i n f).length ≤ n + 1 := by
  unfold addL; rw [List.length_append, lsOf_len]; have := ndL_len w h t p k x y i; omega
theorem LWir_e6 (w h t p : Int) (n : Nat) (f : Nat → Nat → DV) (x y r : Int) : LWir_q6 w h t p n f x y r = cellL (addL w h t p 4 x y r n f) := rfl
theorem LWir_e7 (w h t p : Int) (n : Nat) (f : Nat → Nat → DV) (x y r : Int) : LWir_q7 w h t p n f x y r = cellL (addL w h t p 5 x y r (addL w h t p 4 x y r n f).length (LWir_q6 w h t p n f x y r)) := rfl
theorem LWir_e8 (w h t p : Int) (n : Nat) (f : Nat → Nat → DV) (x y r : Int) : LWir_q8 w h t p n f x y r = cellL (addL w h t p 4 (w64 (x - 1)) y r (addL w h t p 5 x y r (addL w h t p 4 x y r n f).length (LWir_q6 w h t p n f x y r)).length (LWir_q7 w h t p n f x y r)) := rfl
theorem LWir_e9 (w h t p : Int) (n : Nat) (f : Nat → Nat → DV) (x y r : Int) : LWir_q9 w h t p n f x y r = cellL (addL w h t p 5 x (w64 (y - 1)) r (addL w h t p 4 (w64 (x - 1)) y r (addL w h t p 5 x y r (addL w h t p 4 x y r n f).length (LWir_q6 w h t p n f x y r)).length (LWir_q7 w h t p n f x y r)).length (LWir_q8 w h t p n f x y r)) := rfl
noncomputable def mWir : MCtr := fun args hp nx => match args, hp, nx with
  | [.ptr 0 0, .d (.x (.int .i64 x)), .d (.x (.int .i64 y)), .d (.x (.int .i64 r))], [some (.cells [.d (.x (.int .i64 w)), .d (.x (.int .i64 h)), .d (.x (.int .i64 t)), .d (.x (.int .i64 p)), .d (.ro m 1 c), .row 1 0 0 n 1]), some (.row n' 1 f)], 2 =>
    .nd (okG w h t p ∧ smS x y) (.need (n = n' ∧ n ≤ 99000 ∧ IntRow n f) (.ret (colR w h t p m c (wirA w h t p x y r n f))))
  | _, _, _ => .fail
theorem col_gc {w h t p : Int} {m : Nat} {c : Nat → Nat → DV} {L : List Int} {hp : Heap} {nx : Nat} {f : Nat → Nat → DV} {n : Nat} (hn : n = L.length) (hf : ∀ i, i < n → f i 0 = cellL L i 0)
    (h1 : gcA 2 [(.cell (.base 0) 5, 2)] [0] [] 3 .nil ⟨[.ok (.tup [])], hp, nx, .nil⟩ = some ⟨[.ok (.tup [])], [some (.cells [iv w, iv h, iv t, iv p, .d (.ro m 1 c), .row 2 0 0 n 1]), none, some (.row n 1 f)], 3, .nil⟩) :
    Gc 2 ⟨[.ok (.tup [])], hp, nx, .nil⟩ ⟨[.ok (colR w h t p m c L).1], (colR w h t p m c L).2.1, (colR w h t p m c L).2.2, .nil⟩ := by
  refine (gcA_sound h1).trans ?_
  subst hn
  unfold colR
  refine gc_hp rfl rfl ⟨.inr ⟨_, _, rfl, rfl, .refl _⟩, .inl rfl, .inr ⟨_, _, rfl, rfl, .row fun a b ha hb => ?_⟩, trivial⟩
  obtain rfl : b = 0 := by omega
  exact hf a ha
theorem mWir_ok : MuOK Tryz.prog 63 mWir := by
  refine muOK_walk C5_ok D5_ok fun args hp nx r hr => ?_
  unfold mWir at hr
  split at hr
  · rename_i x y r w h t p m c n n' f
    obtain ⟨⟨hg, hs⟩, ⟨rfl, hn, hI⟩, rfl⟩ := hr
    refine ⟨_, _, 200, .nil, hpLe_refl _, fun _ _ _ _ h => h, ?_⟩
    have kk : Sat Tryz.prog (inlT Tryz.prog C5 D5 200 63 [.ptr 0 0, iv x, iv y, iv r] ⟨[], colH w h t p m c n f, 2, .nil⟩) fun q => Gc 2 ⟨[.ok q.1], q.2.hp, q.2.next, .nil⟩ ⟨[.ok (colR w h t p m c (wirA w h t p x y r n f)).1], (colR w h t p m c (wirA w h t p x y r n f)).2.1, (colR w h t p m c (wirA w h t p x y r n f)).2.2, .nil⟩ := by
      refine Sat.of_eq (LWir_eq w h t p m c n f x y r) ?_
      constructor; unfold LWir
      have hq : LWir_q5 w h x y = true ↔ (x < 0 ∨ x ≥ w ∨ y < 0 ∨ y ≥ h) := by
        unfold LWir_q5 LWir_q4 LWir_q3 LWir_q2 LWir_q1
        simp only [Bool.or_eq_true, decide_eq_true_eq, or_assoc]
      obtain ⟨⟨s1, s2⟩, s3, s4⟩ := hs
      simp only [LWir_e9, LWir_e8, LWir_e7, LWir_e6, addL_cell, w64_of (n := x - 1) (by omega) (by omega), w64_of (n := y - 1) (by omega) (by omega)]
      have l0 := addL_len w h t p 4 x y r n f
      have l1 := ndL_len w h t p 5 x y r
      have l2 := ndL_len w h t p 4 (x - 1) y r
      refine ⟨fun h1 => ?_, fun h1 => ⟨hg, ⟨trivial, by omega, hI⟩, hg, ⟨trivial, by omega, intRow_cellL _ _⟩, hg, ⟨trivial, by rw [List.length_append]; omega, intRow_cellL _ _⟩, hg, ⟨trivial, by rw [List.length_append, List.length_append]; omega, intRow_cellL _ _⟩, ?_⟩⟩
      · have e : wirA w h t p x y r n f = lsOf n f := by unfold wirA wirL; rw [if_pos (hq.1 h1), List.append_nil]
        refine col_gc (f := f) (n := n) (by rw [e, lsOf_len]) (fun i hi => ?_) (by kernel_rfl)
        rw [e]; exact cell_lsOf hI hi
      · have e : wirA w h t p x y r n f = addL w h t p 4 x y r n f ++ ndL w h t p 5 x y r ++ ndL w h t p 4 (x - 1) y r ++ ndL w h t p 5 x (y - 1) r := by
          unfold wirA wirL addL
          rw [if_neg (fun h2 => by rw [hq.2 h2] at h1; cases h1)]
          simp only [List.append_assoc]
        rw [e]
        exact col_gc rfl (fun i hi => rfl) (by kernel_rfl)
    exact kk
  · exact hr.elim
noncomputable def mWirC : MCtr := mcB selCol (nilM mWir)
theorem mWirC_ok : MuOK Tryz.prog 63 mWirC := mcB_ok (nilM_ok mWir_ok)
noncomputable def mu6 : FuncId → Option MCtr := fun k => match k with
  | 60 => some mAddC
  | 63 => some mWirC
  | _ => none
theorem mu6_ok (k : FuncId) (m : MCtr) (h : mu6 k = some m) : MuOK Tryz.prog k m := by
  unfold mu6 at h
  split at h
  · cases h; exact mAddC_ok
  · cases h; exact mWirC_ok
  · cases h
noncomputable def C6 : Ctx := withMu Tryz.prog CB mu6
theorem C6_ok : CtxOK Tryz.prog C6 := withMu_ok CB_ok mu6_ok
noncomputable def D6 : Dr := fun _ => drawn Tryz.prog C6
theorem D6_ok : DrOK Tryz.prog C6 D6 := drawn_ok C6_ok mixed
end Go.Proofs.YtgahnelicbddcaaGreatDoor

namespace Go.Proofs.YtgahnelicbddcaaGreatDoor
open Go.Sx
set_option maxRecDepth 100000
noncomputable def tAll (w h t p : Int) (m : Nat) (c : Nat → Nat → DV) (n : Nat) (f : Nat → Nat → DV) (x y : Int) : Tree (SV × AS) := inlT Tryz.prog C6 D6 200 59 [.ptr 0 0, iv x, iv y] ⟨[], colH w h t p m c n f, 2, .nil⟩
noncomputable def LAll (w h t p : Int) (m : Nat) (c : Nat → Nat → DV) (n : Nat) (f : Nat → Nat → DV) (x y : Int) : Tree (SV × AS) :=
  .code (codeC (sub [] (tAll w h t p m c n f x y))) (codeS (sub [] (tAll w h t p m c n f x y))) (codeK (sub [] (tAll w h t p m c n f x y)))

theorem LAll_eq (w h t p : Int) (m : Nat) (c : Nat → Nat → DV) (n : Nat) (f : Nat → Nat → DV) (x y : Int) : tAll w h t p m c n f x y = LAll w h t p m c n f x y := by kernel_rfl

noncomputable def invAll (w h t p : Int) (m : Nat) (c : Nat → Nat → DV) (x y : Int) (L : List Int) (j : Int) : AS := ⟨[.ok (.ptr 0 0), .ok (iv x), .ok (iv y)] ++ List.replicate 8 .unk ++ [.ok (iv t), .ok (iv j)] ++ List.replicate 8 .unk, (colR w h t p m c L).2.1, 3, .nil⟩
noncomputable def bodyAll : Code := loopN (bodyOf Tryz.prog 59) 0
noncomputable def BAll_q1 (L : List Int) (a : Nat) (b : Nat) : DV :=
  DV.x (.int .i64 (List.getD L a (0 : Int)))
noncomputable def BAll_q2 (w : Int) (h : Int) (t : Int) (p : Int) (x : Int) (y : Int) (L : List Int) (j : Int) (a : Nat) (b : Nat) : DV :=
  DV.x (.int .i64 (List.getD (wirA w h t p x y j (List.length L) (BAll_q1 L)) a (0 : Int)))
noncomputable def BAll (w h t p : Int) (m : Nat) (c : Nat → Nat → DV) (x y : Int) (L : List Int) (j : Int) : Tree (Ex × AS) :=
  .ite (decide (j < t))
  (.need (okG w h t p ∧ smS x y)
   (.need (List.length L = List.length L ∧ List.length L ≤ 99000 ∧ IntRow (List.length L) (BAll_q1 L))
   (.ret
   (.normal,
   {
   tm :=
   [.ok (SV.ptr 0 0), .ok (iv x), .ok (iv y), .unk, .unk, .unk, .unk, .unk, .unk, .unk, .unk, .ok (iv t), .ok (iv (w64 (j + (1 : Int)))), .unk, .unk, .unk, .unk, .unk,
   .unk, .unk, .unk],
   hp :=
   [some (.cells [iv w, iv h, iv t, iv p, SV.d (DV.ro m 1 c), SV.row 2 0 0 (List.length (wirA w h t p x y j (List.length L) (BAll_q1 L))) 1]), none,
   some (.row (List.length (wirA w h t p x y j (List.length L) (BAll_q1 L))) 1 (BAll_q2 w h t p x y L j))],
   next := 3, hint := .nil }))))
  (.ret
   (.exit 0,
   {
   tm := [.ok (SV.ptr 0 0), .ok (iv x), .ok (iv y), .unk, .unk, .unk, .unk, .unk, .unk, .unk, .unk, .ok (iv t), .ok (iv j), .unk, .unk, .unk, .unk, .unk, .unk, .unk, .unk],
   hp := [some (.cells [iv w, iv h, iv t, iv p, SV.d (DV.ro m 1 c), SV.row 2 0 0 (List.length L) 1]), none, some (.row (List.length L) 1 (BAll_q1 L))],
   next := 3, hint := .nil }))

theorem BAll_eq (w h t p : Int) (m : Nat) (c : Nat → Nat → DV) (x y : Int) (L : List Int) (j : Int) : cutT 2 [(.cell (.base 0) 5, 2)] [0, 1, 2, 11, 12] [] 3 .nil (exec Tryz.prog C6 D6 200 bodyAll (invAll w h t p m c x y L j)) = BAll w h t p m c x y L j := by kernel_rfl

noncomputable def KAll_q1 (L : List Int) (a : Nat) (b : Nat) : DV :=
  DV.x (.int .i64 (List.getD L a (0 : Int)))
noncomputable def KAll (w h t p : Int) (m : Nat) (c : Nat → Nat → DV) (n : Nat) (f : Nat → Nat → DV) (x y : Int) (L : List Int) (j : Int) : Tree (SV × AS) :=
  .ret
  (SV.tup [],
   {
   tm := [.ok (SV.ptr 0 0), .ok (iv x), .ok (iv y), .unk, .unk, .unk, .unk, .unk, .unk, .unk, .unk, .ok (iv t), .ok (iv j), .unk, .unk, .unk, .unk, .unk, .unk, .unk, .unk],
   hp := [some (.cells [iv w, iv h, iv t, iv p, SV.d (DV.ro m 1 c), SV.row 2 0 0 (List.length L) 1]), none, some (.row (List.length L) 1 (KAll_q1 L))],
   next := 3, hint := .nil })

theorem KAll_eq (w h t p : Int) (m : Nat) (c : Nat → Nat → DV) (n : Nat) (f : Nat → Nat → DV) (x y : Int) (L : List Int) (j : Int) : codeK (sub [] (tAll w h t p m c n f x y)) (.exit 0) (invAll w h t p m c x y L j) = KAll w h t p m c n f x y L j := by kernel_rfl


end Go.Proofs.YtgahnelicbddcaaGreatDoor

namespace Go.Proofs.YtgahnelicbddcaaGreatDoor
open Go.Sx
set_option maxRecDepth 100000

theorem wirA_cell (w h t p x y r : Int) (L : List Int) : wirA w h t p x y r L.length (cellL L) = L ++ wirL w h t p x y r := by unfold wirA; rw [lsOf_cellL]
noncomputable def mAll : MCtr := fun args hp nx => match args, hp, nx with
  | [.ptr 0 0, .d (.x (.int .i64 x)), .d (.x (.int .i64 y))], [some (.cells [.d (.x (.int .i64 w)), .d (.x (.int .i64 h)), .d (.x (.int .i64 t)), .d (.x (.int .i64 p)), .d (.ro m 1 c), .row 1 0 0 n 1]), some (.row n' 1 f)], 2 =>
    .nd (okG w h t p ∧ smS x y) (.need (n = n' ∧ n ≤ 98000 ∧ IntRow n f) (.ret (colR w h t p m c (allA w h t p x y n f))))
  | _, _, _ => .fail
theorem mAll_ok : MuOK Tryz.prog 59 mAll := by
  refine muOK_walk C6_ok D6_ok fun args hp nx r hr => ?_
  unfold mAll at hr
  split at hr
  · rename_i x y w h t p m c n n' f
    obtain ⟨⟨hg, hs⟩, ⟨rfl, hn, hI⟩, rfl⟩ := hr
    refine ⟨_, _, 200, .nil, hpLe_refl _, fun _ _ _ _ h => h, ?_⟩
    have ht : 1 ≤ t ∧ t ≤ 8 := hg.2.2.1
    have kk : Sat Tryz.prog (tAll w h t p m c n f x y) fun q => Gc 2 ⟨[.ok q.1], q.2.hp, q.2.next, .nil⟩ ⟨[.ok (colR w h t p m c (allA w h t p x y n f)).1], (colR w h t p m c (allA w h t p x y n f)).2.1, (colR w h t p m c (allA w h t p x y n f)).2.2, .nil⟩ := by
      refine Sat.of_eq (LAll_eq w h t p m c n f x y) ?_
      constructor; unfold LAll
      refine code_satS C6_ok D6_ok (n := 200) (n0 := 2) (nx := 3) (roots := [(.cell (.base 0) 5, 2)]) (keep := [0, 1, 2, 11, 12]) (drop := []) (h := .nil) (c := codeC (sub [] (tAll w h t p m c n f x y))) (st := codeS (sub [] (tAll w h t p m c n f x y))) (k := codeK (sub [] (tAll w h t p m c n f x y))) (body := bodyAll) (by kernel_rfl) (by kernel_rfl)
        (fun q s => ∃ j : Nat, q = t.toNat - j ∧ j ≤ t.toNat ∧ s = invAll w h t p m c x y (lsOf n f ++ allL w h t p x y j) j)
        (fun e s => e = .exit 0 ∧ ∃ j : Int, s = invAll w h t p m c x y (allA w h t p x y n f) j)
        ⟨_, _, ⟨0, rfl, by omega, rfl⟩, ?_⟩ ?_ ?_
      · refine (entA_sound (s' := ⟨[.ok (.ptr 0 0), .ok (iv x), .ok (iv y)] ++ List.replicate 8 .unk ++ [.ok (iv t), .ok (iv 0)] ++ List.replicate 8 .unk, [some (.cells [iv w, iv h, iv t, iv p, .d (.ro m 1 c), .row 2 0 0 n 1]), none, some (.row n 1 f)], 3, .nil⟩) (roots := [(.cell (.base 0) 5, 2)]) (keep := [0, 1, 2, 11, 12]) (drop := []) (nx := 3) (h := .nil) (by kernel_rfl)).trans ?_
        have e : lsOf n f ++ allL w h t p x y 0 = lsOf n f := by unfold allL; simp
        unfold invAll colR
        rw [e]
        refine gc_hp rfl rfl ⟨.inr ⟨_, _, rfl, by rw [lsOf_len], .refl _⟩, .inl rfl, .inr ⟨_, _, rfl, rfl, row_lsOf hI⟩, trivial⟩
      · rintro q s ⟨j, rfl, hj, rfl⟩
        refine Sat.of_eq (BAll_eq w h t p m c x y _ j) ?_
        constructor; unfold BAll
        have hl := allL_len w h t p x y j
        have hll : (lsOf n f ++ allL w h t p x y j).length ≤ 99000 := by rw [List.length_append, lsOf_len]; omega
        refine ⟨fun h1 => ⟨⟨hg, hs⟩, ⟨rfl, hll, intRow_cellL _ _⟩, ?_⟩, fun h1 => ?_⟩
        · simp only [decide_eq_true_eq] at h1
          refine ⟨t.toNat - (j + 1), _, by omega, ⟨j + 1, rfl, by omega, rfl⟩, ?_⟩
          rw [w64_of (n := (j : Int) + 1) (by omega) (by omega)]
          have e : wirA w h t p x y j (lsOf n f ++ allL w h t p x y j).length (cellL (lsOf n f ++ allL w h t p x y j)) = lsOf n f ++ allL w h t p x y (j + 1) := by
            rw [wirA_cell, allL_succ, List.append_assoc]
          rw [← e]; exact Gc.refl _ _
        · simp only [decide_eq_false_iff_not] at h1
          obtain rfl : j = t.toNat := by omega
          exact ⟨_, ⟨rfl, _, rfl⟩, Gc.refl _ _⟩
      · rintro e s ⟨rfl, j, rfl⟩
        refine Sat.of_eq (KAll_eq w h t p m c n f x y _ j) ⟨?_⟩
        exact col_gc rfl (fun i hi => rfl) (by kernel_rfl)
    exact kk
  · exact hr.elim
noncomputable def mAllC : MCtr := mcB selCol (nilM mAll)
theorem mAllC_ok : MuOK Tryz.prog 59 mAllC := mcB_ok (nilM_ok mAll_ok)
end Go.Proofs.YtgahnelicbddcaaGreatDoor

namespace Go.Proofs
open Go.Shelf
def Tryz.laysM171_ren : Go.Shelf.Ren := ⟨fun | 171 => 72 | 243 => 88 | 246 => 99 | 283 => 118 | 284 => 119 | 285 => 120 | 286 => 121 | 129 => 117 | 317 => 139 | 318 => 140 | 319 => 141 | 320 => 142 | 337 => 149 | 338 => 150 | n => n, fun | 3 => 3 | 9 => 9 | 2 => 2 | 4 => 4 | 171 => 148 | 0 => 0 | 53 => 147 | 37 => 22 | 5 => 5 | 173 => 150 | 212 => 168 | 51 => 145 | 20 => 20 | 213 => 169 | 46 => 61 | 232 => 190 | 233 => 191 | n => n, fun | 17 => 1 | 18 => 6 | 19 => 7 | n => n⟩
theorem Tryz.laysM171 : Go.Proofs.LaysM.n171 Tryz.prog Tryz.laysM171_ren := {
  mixed := by kernel_rfl
  f129 := Tryz.func117.trans (congrArg some (by kernel_rfl))
  f171 := Tryz.func72.trans (congrArg some (by kernel_rfl))
  f243 := Tryz.func88.trans (congrArg some (by kernel_rfl))
  f246 := Tryz.func99.trans (congrArg some (by kernel_rfl))
  f283 := Tryz.func118.trans (congrArg some (by kernel_rfl))
  f284 := Tryz.func119.trans (congrArg some (by kernel_rfl))
  f285 := Tryz.func120.trans (congrArg some (by kernel_rfl))
  f286 := Tryz.func121.trans (congrArg some (by kernel_rfl))
  f317 := Tryz.func139.trans (congrArg some (by kernel_rfl))
  f318 := Tryz.func140.trans (congrArg some (by kernel_rfl))
  f319 := Tryz.func141.trans (congrArg some (by kernel_rfl))
  f320 := Tryz.func142.trans (congrArg some (by kernel_rfl))
  f337 := Tryz.func149.trans (congrArg some (by kernel_rfl))
  f338 := Tryz.func150.trans (congrArg some (by kernel_rfl))
  t0 := Tryz.underlying0
  a0 := Tryz.isAgg0
  z0 := Tryz.sizeOf0
  v0 := Tryz.zeroValue0
  t2 := Tryz.underlying2
  a2 := Tryz.isAgg2
  z2 := Tryz.sizeOf2
  v2 := Tryz.zeroValue2
  t3 := Tryz.underlying3
  a3 := Tryz.isAgg3
  z3 := Tryz.sizeOf3
  v3 := Tryz.zeroValue3
  t4 := Tryz.underlying4
  a4 := Tryz.isAgg4
  z4 := Tryz.sizeOf4
  v4 := Tryz.zeroValue4
  t5 := Tryz.underlying5
  a5 := Tryz.isAgg5
  z5 := Tryz.sizeOf5
  v5 := Tryz.zeroValue5
  t9 := Tryz.underlying9
  a9 := Tryz.isAgg9
  z9 := Tryz.sizeOf9
  v9 := Tryz.zeroValue9
  t20 := Tryz.underlying20
  a20 := Tryz.isAgg20
  z20 := Tryz.sizeOf20
  v20 := Tryz.zeroValue20
  t37 := Tryz.underlying22
  a37 := Tryz.isAgg22
  z37 := Tryz.sizeOf22
  v37 := Tryz.zeroValue22
  t46 := Tryz.underlying61
  a46 := Tryz.isAgg61
  z46 := Tryz.sizeOf61
  v46 := Tryz.zeroValue61
  t51 := Tryz.underlying145
  a51 := Tryz.isAgg145
  z51 := Tryz.sizeOf145
  v51 := Tryz.zeroValue145
  t53 := Tryz.underlying147
  a53 := Tryz.isAgg147
  z53 := Tryz.sizeOf147
  v53 := Tryz.zeroValue147
  t171 := Tryz.underlying148
  a171 := Tryz.isAgg148
  z171 := Tryz.sizeOf148
  v171 := Tryz.zeroValue148
  t173 := Tryz.underlying150
  a173 := Tryz.isAgg150
  z173 := Tryz.sizeOf150
  v173 := Tryz.zeroValue150
  t212 := Tryz.underlying168
  a212 := Tryz.isAgg168
  z212 := Tryz.sizeOf168
  v212 := Tryz.zeroValue168
  t213 := Tryz.underlying169
  a213 := Tryz.isAgg169
  z213 := Tryz.sizeOf169
  t232 := Tryz.underlying190
  a232 := Tryz.isAgg190
  z232 := Tryz.sizeOf190
  v232 := Tryz.zeroValue190
  t233 := Tryz.underlying191
  a233 := Tryz.isAgg191
  z233 := Tryz.sizeOf191
  v233 := Tryz.zeroValue191
  g17 := by kernel_rfl
  g18 := by kernel_rfl
  g19 := by kernel_rfl
  i0 := by kernel_rfl
  i2 := by kernel_rfl
  i3 := by kernel_rfl
  i4 := by kernel_rfl
  i5 := by kernel_rfl
  i9 := by kernel_rfl
  i20 := by kernel_rfl
  i37 := by kernel_rfl
  i46 := by kernel_rfl
  i51 := by kernel_rfl
  i53 := by kernel_rfl
  i171 := by kernel_rfl
  i173 := by kernel_rfl
  i212 := by kernel_rfl
  i232 := by kernel_rfl
  i233 := by kernel_rfl
  m17 := by kernel_rfl
  m18 := by kernel_rfl
  m19 := by kernel_rfl }
open Go.RowKit Go.Sort Go.Lib in
theorem Tryz.strconv_Itoa (n : Int) (h0 : -9223372036854775808 ≤ n) (h1 : n ≤ 9223372036854775807) (w : World) (htab : Lib.TabIs Tryz.prog w "internal/strconv.uint64pow10" .u64 Lib.pow10Tab) :
    Calls Tryz.prog 72 #[.int .i64 n] w fun e w' => e = .returned (.string ⟨(Lib.itoa n).toArray⟩) ∧ ∃ k os, w' = grow (w.drewN k) os := Any.strconv_Itoa Tryz.laysM171 n h0 h1 w htab
def Tryz.laysC172_ren : Go.Shelf.Ren := ⟨fun | 172 => 90 | 244 => 103 | 245 => 104 | 247 => 126 | 279 => 127 | 280 => 128 | 281 => 129 | 282 => 130 | 287 => 145 | 316 => 146 | 171 => 72 | 205 => 147 | 321 => 152 | 322 => 153 | 243 => 88 | 246 => 99 | 283 => 118 | 284 => 119 | 285 => 120 | 286 => 121 | 129 => 117 | 317 => 139 | 318 => 140 | 319 => 141 | 320 => 142 | 337 => 149 | 338 => 150 | n => n, fun | 9 => 9 | 3 => 3 | 75 => 82 | 76 => 83 | 4 => 4 | 5 => 5 | 167 => 154 | 37 => 22 | 0 => 0 | 85 => 155 | 2 => 2 | 168 => 157 | 53 => 147 | 175 => 170 | 46 => 61 | 210 => 174 | 127 => 111 | 145 => 189 | 143 => 187 | 21 => 21 | 171 => 148 | 173 => 150 | 212 => 168 | 51 => 145 | 20 => 20 | 213 => 169 | 232 => 190 | 233 => 191 | 80 => 87 | n => n, fun | 15 => 2 | 16 => 3 | 17 => 1 | 18 => 6 | 19 => 7 | n => n⟩
theorem Tryz.laysC172 : Go.Proofs.LaysC.n172 Tryz.prog Tryz.laysC172_ren := {
  mixed := by kernel_rfl
  f129 := Tryz.func117.trans (congrArg some (by kernel_rfl))
  f171 := Tryz.func72.trans (congrArg some (by kernel_rfl))
  f172 := Tryz.func90.trans (congrArg some (by kernel_rfl))
  f205 := Tryz.func147.trans (congrArg some (by kernel_rfl))
  f243 := Tryz.func88.trans (congrArg some (by kernel_rfl))
  f244 := Tryz.func103.trans (congrArg some (by kernel_rfl))
  f245 := Tryz.func104.trans (congrArg some (by kernel_rfl))
  f246 := Tryz.func99.trans (congrArg some (by kernel_rfl))
  f247 := Tryz.func126.trans (congrArg some (by kernel_rfl))
  f279 := Tryz.func127.trans (congrArg some (by kernel_rfl))
  f280 := Tryz.func128.trans (congrArg some (by kernel_rfl))
  f281 := Tryz.func129.trans (congrArg some (by kernel_rfl))
  f282 := Tryz.func130.trans (congrArg some (by kernel_rfl))
  f283 := Tryz.func118.trans (congrArg some (by kernel_rfl))
  f284 := Tryz.func119.trans (congrArg some (by kernel_rfl))
  f285 := Tryz.func120.trans (congrArg some (by kernel_rfl))
  f286 := Tryz.func121.trans (congrArg some (by kernel_rfl))
  f287 := Tryz.func145.trans (congrArg some (by kernel_rfl))
  f316 := Tryz.func146.trans (congrArg some (by kernel_rfl))
  f317 := Tryz.func139.trans (congrArg some (by kernel_rfl))
  f318 := Tryz.func140.trans (congrArg some (by kernel_rfl))
  f319 := Tryz.func141.trans (congrArg some (by kernel_rfl))
  f320 := Tryz.func142.trans (congrArg some (by kernel_rfl))
  f321 := Tryz.func152.trans (congrArg some (by kernel_rfl))
  f322 := Tryz.func153.trans (congrArg some (by kernel_rfl))
  f337 := Tryz.func149.trans (congrArg some (by kernel_rfl))
  f338 := Tryz.func150.trans (congrArg some (by kernel_rfl))
  t0 := Tryz.underlying0
  a0 := Tryz.isAgg0
  z0 := Tryz.sizeOf0
  v0 := Tryz.zeroValue0
  t2 := Tryz.underlying2
  a2 := Tryz.isAgg2
  z2 := Tryz.sizeOf2
  v2 := Tryz.zeroValue2
  t3 := Tryz.underlying3
  a3 := Tryz.isAgg3
  z3 := Tryz.sizeOf3
  v3 := Tryz.zeroValue3
  t4 := Tryz.underlying4
  a4 := Tryz.isAgg4
  z4 := Tryz.sizeOf4
  v4 := Tryz.zeroValue4
  t5 := Tryz.underlying5
  a5 := Tryz.isAgg5
  z5 := Tryz.sizeOf5
  v5 := Tryz.zeroValue5
  t9 := Tryz.underlying9
  a9 := Tryz.isAgg9
  z9 := Tryz.sizeOf9
  v9 := Tryz.zeroValue9
  t20 := Tryz.underlying20
  a20 := Tryz.isAgg20
  z20 := Tryz.sizeOf20
  v20 := Tryz.zeroValue20
  t21 := Tryz.underlying21
  a21 := Tryz.isAgg21
  z21 := Tryz.sizeOf21
  v21 := Tryz.zeroValue21
  t37 := Tryz.underlying22
  a37 := Tryz.isAgg22
  z37 := Tryz.sizeOf22
  v37 := Tryz.zeroValue22
  t46 := Tryz.underlying61
  a46 := Tryz.isAgg61
  z46 := Tryz.sizeOf61
  v46 := Tryz.zeroValue61
  t51 := Tryz.underlying145
  a51 := Tryz.isAgg145
  z51 := Tryz.sizeOf145
  v51 := Tryz.zeroValue145
  t53 := Tryz.underlying147
  a53 := Tryz.isAgg147
  z53 := Tryz.sizeOf147
  v53 := Tryz.zeroValue147
  t75 := Tryz.underlying82
  a75 := Tryz.isAgg82
  z75 := Tryz.sizeOf82
  v75 := Tryz.zeroValue82
  t76 := Tryz.underlying83
  a76 := Tryz.isAgg83
  z76 := Tryz.sizeOf83
  v76 := Tryz.zeroValue83
  t85 := Tryz.underlying155
  a85 := Tryz.isAgg155
  z85 := Tryz.sizeOf155
  v85 := Tryz.zeroValue155
  t127 := Tryz.underlying111
  a127 := Tryz.isAgg111
  z127 := Tryz.sizeOf111
  v127 := Tryz.zeroValue111
  t143 := Tryz.underlying187
  a143 := Tryz.isAgg187
  z143 := Tryz.sizeOf187
  v143 := Tryz.zeroValue187
  t145 := Tryz.underlying189
  a145 := Tryz.isAgg189
  z145 := Tryz.sizeOf189
  v145 := Tryz.zeroValue189
  t167 := Tryz.underlying154
  a167 := Tryz.isAgg154
  z167 := Tryz.sizeOf154
  v167 := Tryz.zeroValue154
  t168 := Tryz.underlying157
  a168 := Tryz.isAgg157
  z168 := Tryz.sizeOf157
  v168 := Tryz.zeroValue157
  t171 := Tryz.underlying148
  a171 := Tryz.isAgg148
  z171 := Tryz.sizeOf148
  v171 := Tryz.zeroValue148
  t173 := Tryz.underlying150
  a173 := Tryz.isAgg150
  z173 := Tryz.sizeOf150
  v173 := Tryz.zeroValue150
  t175 := Tryz.underlying170
  a175 := Tryz.isAgg170
  z175 := Tryz.sizeOf170
  v175 := Tryz.zeroValue170
  t210 := Tryz.underlying174
  a210 := Tryz.isAgg174
  z210 := Tryz.sizeOf174
  v210 := Tryz.zeroValue174
  t212 := Tryz.underlying168
  a212 := Tryz.isAgg168
  z212 := Tryz.sizeOf168
  v212 := Tryz.zeroValue168
  t213 := Tryz.underlying169
  a213 := Tryz.isAgg169
  z213 := Tryz.sizeOf169
  t232 := Tryz.underlying190
  a232 := Tryz.isAgg190
  z232 := Tryz.sizeOf190
  v232 := Tryz.zeroValue190
  t233 := Tryz.underlying191
  a233 := Tryz.isAgg191
  z233 := Tryz.sizeOf191
  v233 := Tryz.zeroValue191
  g15 := by kernel_rfl
  g16 := by kernel_rfl
  g17 := by kernel_rfl
  g18 := by kernel_rfl
  g19 := by kernel_rfl
  t80 := Tryz.underlying87
  a80 := Tryz.isAgg87
  z80 := Tryz.sizeOf87
  v80 := Tryz.zeroValue87
  i0 := by kernel_rfl
  i2 := by kernel_rfl
  i3 := by kernel_rfl
  i4 := by kernel_rfl
  i5 := by kernel_rfl
  i9 := by kernel_rfl
  i20 := by kernel_rfl
  i21 := by kernel_rfl
  i37 := by kernel_rfl
  i46 := by kernel_rfl
  i51 := by kernel_rfl
  i53 := by kernel_rfl
  i75 := by kernel_rfl
  i76 := by kernel_rfl
  i80 := by kernel_rfl
  i85 := by kernel_rfl
  i127 := by kernel_rfl
  i143 := by kernel_rfl
  i145 := by kernel_rfl
  i167 := by kernel_rfl
  i168 := by kernel_rfl
  i171 := by kernel_rfl
  i173 := by kernel_rfl
  i175 := by kernel_rfl
  i210 := by kernel_rfl
  i212 := by kernel_rfl
  i232 := by kernel_rfl
  i233 := by kernel_rfl
  m15 := by kernel_rfl
  m16 := by kernel_rfl
  m17 := by kernel_rfl
  m18 := by kernel_rfl
  m19 := by kernel_rfl
  c0 := by kernel_rfl
  c2 := by kernel_rfl
  c3 := by kernel_rfl
  c4 := by kernel_rfl
  c5 := by kernel_rfl
  c9 := by kernel_rfl
  c20 := by kernel_rfl
  c21 := by kernel_rfl
  c37 := by kernel_rfl
  c46 := by kernel_rfl
  c51 := by kernel_rfl
  c53 := by kernel_rfl
  c75 := by kernel_rfl
  c76 := by kernel_rfl
  c80 := by kernel_rfl
  c85 := by kernel_rfl
  c127 := by kernel_rfl
  c143 := by kernel_rfl
  c145 := by kernel_rfl
  c167 := by kernel_rfl
  c168 := by kernel_rfl
  c171 := by kernel_rfl
  c173 := by kernel_rfl
  c175 := by kernel_rfl
  c210 := by kernel_rfl
  c212 := by kernel_rfl
  c213 := by kernel_rfl
  c232 := by kernel_rfl
  c233 := by kernel_rfl }
open Go.RowKit in
theorem Tryz.strconv_Atoi_ok (s : ByteArray) (hmax : s.size ≤ 9223372036854775806) (v : Int) (h : Lib.atoiAll s.data.toList = .ok v) (w : World) :
    Calls Tryz.prog 90 #[.string s] w fun e w' => e = .returned (.tuple #[.int .i64 v, .nilIface]) ∧ (w' = w ∨ ∃ t, w' = Lib.bytesWorld w 5 t) := Any.strconv_Atoi_ok Tryz.laysC172 s hmax v h w
open Go.RowKit in
theorem Tryz.strconv_Atoi_range (s : ByteArray) (hlim : s.size ≤ 281474976710656) (h : Lib.atoiAll s.data.toList = .range) (ev : Value) (w : World) (hv : w.cell? ⟨3, 0, none⟩ = some ev) (hev : ev = .nilIface ∨ ∃ te pe, ev = .iface te pe) :
    Calls Tryz.prog 90 #[.string s] w fun e w' => ∃ N, e = .returned (.tuple #[.int .i64 (Lib.atoiSat s.data.toList), .iface 157 (.pointer (some ⟨N, 0, none⟩))]) ∧ w.heap.size ≤ N ∧ w'.heap[N]? = some (.cells #[.string ⟨#[65, 116, 111, 105]⟩, .string s, ev] 174 (0, 0)) ∧ Below w.heap.size w w' := Any.strconv_Atoi_range Tryz.laysC172 s hlim h ev w hv hev
def Tryz.lays189_ren : Go.Shelf.Ren := ⟨fun | 189 => 79 | 125 => 98 | 257 => 97 | 128 => 116 | 129 => 117 | 294 => 107 | 295 => 108 | 296 => 109 | 297 => 110 | 298 => 111 | 299 => 112 | 216 => 113 | 300 => 114 | 301 => 115 | 328 => 133 | 329 => 134 | 330 => 135 | 331 => 136 | 332 => 137 | 215 => 138 | 343 => 148 | n => n, fun | 28 => 27 | 3 => 3 | 46 => 61 | 0 => 0 | 51 => 145 | 53 => 147 | 4 => 4 | 183 => 137 | 182 => 136 | 131 => 142 | 5 => 5 | 9 => 9 | 218 => 161 | 222 => 165 | 228 => 176 | 229 => 177 | n => n, fun | n => n⟩
theorem Tryz.lays189 : Go.Proofs.Lays.n189 Tryz.prog Tryz.lays189_ren := {
  mixed := by kernel_rfl
  f125 := Tryz.func98.trans (congrArg some (by kernel_rfl))
  f128 := Tryz.func116.trans (congrArg some (by kernel_rfl))
  f129 := Tryz.func117.trans (congrArg some (by kernel_rfl))
  f189 := Tryz.func79.trans (congrArg some (by kernel_rfl))
  f215 := Tryz.func138.trans (congrArg some (by kernel_rfl))
  f216 := Tryz.func113.trans (congrArg some (by kernel_rfl))
  f257 := Tryz.func97.trans (congrArg some (by kernel_rfl))
  f294 := Tryz.func107.trans (congrArg some (by kernel_rfl))
  f295 := Tryz.func108.trans (congrArg some (by kernel_rfl))
  f296 := Tryz.func109.trans (congrArg some (by kernel_rfl))
  f297 := Tryz.func110.trans (congrArg some (by kernel_rfl))
  f298 := Tryz.func111.trans (congrArg some (by kernel_rfl))
  f299 := Tryz.func112.trans (congrArg some (by kernel_rfl))
  f300 := Tryz.func114.trans (congrArg some (by kernel_rfl))
  f301 := Tryz.func115.trans (congrArg some (by kernel_rfl))
  f328 := Tryz.func133.trans (congrArg some (by kernel_rfl))
  f329 := Tryz.func134.trans (congrArg some (by kernel_rfl))
  f330 := Tryz.func135.trans (congrArg some (by kernel_rfl))
  f331 := Tryz.func136.trans (congrArg some (by kernel_rfl))
  f332 := Tryz.func137.trans (congrArg some (by kernel_rfl))
  f343 := Tryz.func148.trans (congrArg some (by kernel_rfl))
  t0 := Tryz.underlying0
  a0 := Tryz.isAgg0
  z0 := Tryz.sizeOf0
  v0 := Tryz.zeroValue0
  t3 := Tryz.underlying3
  a3 := Tryz.isAgg3
  z3 := Tryz.sizeOf3
  v3 := Tryz.zeroValue3
  t4 := Tryz.underlying4
  a4 := Tryz.isAgg4
  z4 := Tryz.sizeOf4
  v4 := Tryz.zeroValue4
  t5 := Tryz.underlying5
  a5 := Tryz.isAgg5
  z5 := Tryz.sizeOf5
  v5 := Tryz.zeroValue5
  t9 := Tryz.underlying9
  a9 := Tryz.isAgg9
  z9 := Tryz.sizeOf9
  v9 := Tryz.zeroValue9
  t28 := Tryz.underlying27
  a28 := Tryz.isAgg27
  z28 := Tryz.sizeOf27
  v28 := Tryz.zeroValue27
  t46 := Tryz.underlying61
  a46 := Tryz.isAgg61
  z46 := Tryz.sizeOf61
  v46 := Tryz.zeroValue61
  t51 := Tryz.underlying145
  a51 := Tryz.isAgg145
  z51 := Tryz.sizeOf145
  v51 := Tryz.zeroValue145
  t53 := Tryz.underlying147
  a53 := Tryz.isAgg147
  z53 := Tryz.sizeOf147
  v53 := Tryz.zeroValue147
  t131 := Tryz.underlying142
  a131 := Tryz.isAgg142
  z131 := Tryz.sizeOf142
  v131 := Tryz.zeroValue142
  t182 := Tryz.underlying136
  a182 := Tryz.isAgg136
  z182 := Tryz.sizeOf136
  v182 := Tryz.zeroValue136
  t183 := Tryz.underlying137
  a183 := Tryz.isAgg137
  z183 := Tryz.sizeOf137
  v183 := Tryz.zeroValue137
  t218 := Tryz.underlying161
  a218 := Tryz.isAgg161
  z218 := Tryz.sizeOf161
  v218 := Tryz.zeroValue161
  t222 := Tryz.underlying165
  a222 := Tryz.isAgg165
  z222 := Tryz.sizeOf165
  v222 := Tryz.zeroValue165
  t228 := Tryz.underlying176
  a228 := Tryz.isAgg176
  z228 := Tryz.sizeOf176
  v228 := Tryz.zeroValue176
  t229 := Tryz.underlying177
  a229 := Tryz.isAgg177
  z229 := Tryz.sizeOf177
  v229 := Tryz.zeroValue177 }
open Go.Sort Go.RowKit in
theorem Tryz.slices_Sort_int (blk off cap : Nat) (zs : List Int) (w : World) (hH : Holds (Value.int .i64) w blk off zs.toArray) (hblk : blk < w.heap.size) (hsz : zs.length < 4611686018427387904) :
    Calls Tryz.prog 79 #[.slice (some ⟨blk, off, none⟩) zs.length cap] w fun e w' =>
      e = .returned (.tuple #[]) ∧ ∃ n os, w' = grow (putRow (Value.int .i64) (Sort.ahead w n) blk off (zs.mergeSort fun x y => decide (x ≤ y)).toArray) os := Any.slices_Sort_int Tryz.lays189 blk off cap zs w hH hblk hsz
def Tryz.lays101_ren : Go.Shelf.Ren := ⟨fun | 101 => 95 | 208 => 106 | 206 => 132 | n => n, fun | 9 => 9 | 4 => 4 | 3 => 3 | n => n, fun | n => n⟩
theorem Tryz.lays101 : Go.Proofs.Lays.n101 Tryz.prog Tryz.lays101_ren := {
  mixed := by kernel_rfl
  f101 := Tryz.func95.trans (congrArg some (by kernel_rfl))
  f206 := Tryz.func132.trans (congrArg some (by kernel_rfl))
  f208 := Tryz.func106.trans (congrArg some (by kernel_rfl))
  t3 := Tryz.underlying3
  a3 := Tryz.isAgg3
  z3 := Tryz.sizeOf3
  v3 := Tryz.zeroValue3
  t4 := Tryz.underlying4
  a4 := Tryz.isAgg4
  z4 := Tryz.sizeOf4
  v4 := Tryz.zeroValue4
  t9 := Tryz.underlying9
  a9 := Tryz.isAgg9
  z9 := Tryz.sizeOf9
  v9 := Tryz.zeroValue9 }
open Go.RowKit Go.Lib in
theorem Tryz.strings_TrimPrefix (s p : ByteArray) (w : World) :
    Calls Tryz.prog 95 #[.string s, .string p] w fun e w' => e = .returned (.string ⟨(Lib.trimPrefix s.data.toList p.data.toList).toArray⟩) ∧ w' = w := Any.strings_TrimPrefix Tryz.lays101 s p w
def Tryz.lays146_ren : Go.Shelf.Ren := ⟨fun | 146 => 73 | 221 => 89 | 268 => 100 | 138 => 101 | 143 => 102 | 195 => 122 | 197 => 123 | 218 => 124 | 219 => 125 | 260 => 143 | 217 => 105 | 225 => 94 | 224 => 93 | 267 => 144 | 266 => 131 | 314 => 151 | n => n, fun | 9 => 9 | 31 => 93 | 3 => 3 | 4 => 4 | 0 => 0 | 105 => 152 | 21 => 21 | 5 => 5 | 46 => 61 | 119 => 179 | 139 => 182 | 138 => 181 | 146 => 183 | 51 => 145 | n => n, fun | 1 => 0 | 3 => 4 | 4 => 5 | n => n⟩
theorem Tryz.lays146 : Go.Proofs.Lays.n146 Tryz.prog Tryz.lays146_ren := {
  mixed := by kernel_rfl
  f138 := Tryz.func101.trans (congrArg some (by kernel_rfl))
  f143 := Tryz.func102.trans (congrArg some (by kernel_rfl))
  f146 := Tryz.func73.trans (congrArg some (by kernel_rfl))
  f195 := Tryz.func122.trans (congrArg some (by kernel_rfl))
  f197 := Tryz.func123.trans (congrArg some (by kernel_rfl))
  f217 := Tryz.func105.trans (congrArg some (by kernel_rfl))
  f218 := Tryz.func124.trans (congrArg some (by kernel_rfl))
  f219 := Tryz.func125.trans (congrArg some (by kernel_rfl))
  f221 := Tryz.func89.trans (congrArg some (by kernel_rfl))
  f224 := Tryz.func93.trans (congrArg some (by kernel_rfl))
  f225 := Tryz.func94.trans (congrArg some (by kernel_rfl))
  f260 := Tryz.func143.trans (congrArg some (by kernel_rfl))
  f266 := Tryz.func131.trans (congrArg some (by kernel_rfl))
  f267 := Tryz.func144.trans (congrArg some (by kernel_rfl))
  f268 := Tryz.func100.trans (congrArg some (by kernel_rfl))
  f314 := Tryz.func151.trans (congrArg some (by kernel_rfl))
  t0 := Tryz.underlying0
  a0 := Tryz.isAgg0
  z0 := Tryz.sizeOf0
  v0 := Tryz.zeroValue0
  t3 := Tryz.underlying3
  a3 := Tryz.isAgg3
  z3 := Tryz.sizeOf3
  v3 := Tryz.zeroValue3
  t4 := Tryz.underlying4
  a4 := Tryz.isAgg4
  z4 := Tryz.sizeOf4
  v4 := Tryz.zeroValue4
  t5 := Tryz.underlying5
  a5 := Tryz.isAgg5
  z5 := Tryz.sizeOf5
  v5 := Tryz.zeroValue5
  t9 := Tryz.underlying9
  a9 := Tryz.isAgg9
  z9 := Tryz.sizeOf9
  v9 := Tryz.zeroValue9
  t21 := Tryz.underlying21
  a21 := Tryz.isAgg21
  z21 := Tryz.sizeOf21
  v21 := Tryz.zeroValue21
  t31 := Tryz.underlying93
  a31 := Tryz.isAgg93
  z31 := Tryz.sizeOf93
  v31 := Tryz.zeroValue93
  t46 := Tryz.underlying61
  a46 := Tryz.isAgg61
  z46 := Tryz.sizeOf61
  v46 := Tryz.zeroValue61
  t51 := Tryz.underlying145
  a51 := Tryz.isAgg145
  z51 := Tryz.sizeOf145
  v51 := Tryz.zeroValue145
  t105 := Tryz.underlying152
  a105 := Tryz.isAgg152
  z105 := Tryz.sizeOf152
  v105 := Tryz.zeroValue152
  t119 := Tryz.underlying179
  a119 := Tryz.isAgg179
  z119 := Tryz.sizeOf179
  t138 := Tryz.underlying181
  a138 := Tryz.isAgg181
  z138 := Tryz.sizeOf181
  v138 := Tryz.zeroValue181
  t139 := Tryz.underlying182
  a139 := Tryz.isAgg182
  z139 := Tryz.sizeOf182
  v139 := Tryz.zeroValue182
  t146 := Tryz.underlying183
  a146 := Tryz.isAgg183
  z146 := Tryz.sizeOf183
  v146 := Tryz.zeroValue183
  g1 := by kernel_rfl
  g3 := by kernel_rfl
  g4 := by kernel_rfl }
open Go.RowKit Go.Lib in
theorem Tryz.strings_Split (s sep : ByteArray) (m : Int) (w : World) (hs : s.size < 4294967281) (hm : w.cell? ⟨0, 0, none⟩ = some (.int .i64 m)) (h1 : 1 ≤ sep.size) :
    Calls Tryz.prog 73 #[.string s, .string sep] w fun e w' =>
      e = .returned (.slice (some ⟨w.heap.size, 0, none⟩) (Lib.countB s sep + 1) (Lib.countB s sep + 1)) ∧ w' = w.alloc (.cells ((Lib.splitB sep 0 (Lib.countB s sep) s).map Value.string).toArray 9) := Any.strings_Split Tryz.lays146 (by kernel_rfl) s sep m w hs hm h1
def Tryz.lays152_ren : Go.Shelf.Ren := ⟨fun | 152 => 75 | 137 => 91 | 119 => 92 | 224 => 93 | 225 => 94 | 217 => 105 | 266 => 131 | n => n, fun | 9 => 9 | 21 => 21 | 3 => 3 | 4 => 4 | 5 => 5 | 0 => 0 | 46 => 61 | n => n, fun | n => n⟩
theorem Tryz.lays152 : Go.Proofs.Lays.n152 Tryz.prog Tryz.lays152_ren := {
  mixed := by kernel_rfl
  f119 := Tryz.func92.trans (congrArg some (by kernel_rfl))
  f137 := Tryz.func91.trans (congrArg some (by kernel_rfl))
  f152 := Tryz.func75.trans (congrArg some (by kernel_rfl))
  f217 := Tryz.func105.trans (congrArg some (by kernel_rfl))
  f224 := Tryz.func93.trans (congrArg some (by kernel_rfl))
  f225 := Tryz.func94.trans (congrArg some (by kernel_rfl))
  f266 := Tryz.func131.trans (congrArg some (by kernel_rfl))
  t0 := Tryz.underlying0
  a0 := Tryz.isAgg0
  z0 := Tryz.sizeOf0
  v0 := Tryz.zeroValue0
  t3 := Tryz.underlying3
  a3 := Tryz.isAgg3
  z3 := Tryz.sizeOf3
  v3 := Tryz.zeroValue3
  t4 := Tryz.underlying4
  a4 := Tryz.isAgg4
  z4 := Tryz.sizeOf4
  v4 := Tryz.zeroValue4
  t5 := Tryz.underlying5
  a5 := Tryz.isAgg5
  z5 := Tryz.sizeOf5
  v5 := Tryz.zeroValue5
  t9 := Tryz.underlying9
  a9 := Tryz.isAgg9
  z9 := Tryz.sizeOf9
  v9 := Tryz.zeroValue9
  t21 := Tryz.underlying21
  a21 := Tryz.isAgg21
  z21 := Tryz.sizeOf21
  v21 := Tryz.zeroValue21
  t46 := Tryz.underlying61
  a46 := Tryz.isAgg61
  z46 := Tryz.sizeOf61
  v46 := Tryz.zeroValue61 }
open Go.RowKit Go.Lib in
theorem Tryz.strings_IndexRune_ascii (s : ByteArray) (r : Int) (w : World) (h0 : 0 ≤ r) (h1 : r < 128) :
    Calls Tryz.prog 75 #[.string s, .int .i32 r] w fun e w' => e = .returned (.int .i64 (Lib.indexByte s.data.toList r.toNat.toUInt8)) ∧ w' = w := Any.strings_IndexRune_ascii Tryz.lays152 s r w h0 h1
def Tryz.lays109_ren : Go.Shelf.Ren := ⟨fun | 109 => 96 | n => n, fun | 31 => 93 | 9 => 9 | 3 => 3 | 0 => 0 | 4 => 4 | n => n, fun | n => n⟩
theorem Tryz.lays109 : Go.Proofs.Lays.n109 Tryz.prog Tryz.lays109_ren := {
  mixed := by kernel_rfl
  f109 := Tryz.func96.trans (congrArg some (by kernel_rfl))
  t0 := Tryz.underlying0
  a0 := Tryz.isAgg0
  z0 := Tryz.sizeOf0
  v0 := Tryz.zeroValue0
  t3 := Tryz.underlying3
  a3 := Tryz.isAgg3
  z3 := Tryz.sizeOf3
  v3 := Tryz.zeroValue3
  t4 := Tryz.underlying4
  a4 := Tryz.isAgg4
  z4 := Tryz.sizeOf4
  v4 := Tryz.zeroValue4
  t9 := Tryz.underlying9
  a9 := Tryz.isAgg9
  z9 := Tryz.sizeOf9
  v9 := Tryz.zeroValue9
  t31 := Tryz.underlying93
  a31 := Tryz.isAgg93
  z31 := Tryz.sizeOf93
  v31 := Tryz.zeroValue93 }
open Go.Lib in
theorem Tryz.slices_Index_string (b off n c : Nat) (zs : List ByteArray) (x : ByteArray) (w : World) (hz : n ≤ zs.length) (hbig : n ≤ 9223372036854775807) (hc : ∀ j, j < zs.length → w.cell? ⟨b, off + j, none⟩ = some (.string (zs.getD j ByteArray.empty))) :
    Calls Tryz.prog 96 #[.slice (some ⟨b, off, none⟩) n c, .string x] w fun e w' => e = .returned (.int .i64 (Lib.idxOfS (zs.take n) x)) ∧ w' = w := Any.slices_Index_string Tryz.lays109 b off n c zs x w hz hbig hc
open Go.Lib in
theorem Tryz.slices_Index_string_empty (a : Option Addr) (c : Nat) (x : ByteArray) (w : World) :
    Calls Tryz.prog 96 #[.slice a 0 c, .string x] w fun e w' => e = .returned (.int .i64 (Lib.idxOfS [] x)) ∧ w' = w := Any.slices_Index_string_empty Tryz.lays109 a c x w
def Tryz.laysNm220_ren : Go.Shelf.Ren := ⟨fun | 20 => 80 | n => n, fun | 22 => 27 | 3 => 3 | 4 => 4 | 0 => 0 | n => n, fun | n => n⟩
theorem Tryz.laysNm220 : Go.Proofs.Lays2.n20 Tryz.prog Tryz.laysNm220_ren := {
  mixed := by kernel_rfl
  f20 := Tryz.func80.trans (congrArg some (by kernel_rfl))
  t0 := Tryz.underlying0
  a0 := Tryz.isAgg0
  z0 := Tryz.sizeOf0
  v0 := Tryz.zeroValue0
  t3 := Tryz.underlying3
  a3 := Tryz.isAgg3
  z3 := Tryz.sizeOf3
  v3 := Tryz.zeroValue3
  t4 := Tryz.underlying4
  a4 := Tryz.isAgg4
  z4 := Tryz.sizeOf4
  v4 := Tryz.zeroValue4
  t22 := Tryz.underlying27
  a22 := Tryz.isAgg27
  z22 := Tryz.sizeOf27
  v22 := Tryz.zeroValue27
  i3 := by kernel_rfl }
open Go.RowKit Go.Lib Go.Sort in
theorem Tryz.slices_Compact_int (blk off cap : Nat) (zs : List Int) (w : World) (hH : Holds (Value.int .i64) w blk off zs.toArray) (hsz : zs.length ≤ 9223372036854775807) (hcap : zs.length ≤ cap) :
    Calls Tryz.prog 80 #[.slice (some ⟨blk, off, none⟩) zs.length cap] w fun e w' => e = .returned (.slice (some ⟨blk, off, none⟩) (Lib.compact zs).length cap) ∧ ∃ q, w' = putRow (Value.int .i64) (Sort.ahead w q) blk off (Lib.compact zs ++ List.replicate (zs.length - (Lib.compact zs).length) 0).toArray := Any.slices_Compact_int Tryz.laysNm220 blk off cap zs w hH hsz hcap
open Go.RowKit Go.Lib Go.Sort in
theorem Tryz.slices_Compact_int_empty (a : Option Addr) (cap : Nat) (w : World) :
    Calls Tryz.prog 80 #[.slice a 0 cap] w fun e w' => e = .returned (.slice a 0 cap) ∧ w' = w := Any.slices_Compact_int_empty Tryz.laysNm220 a cap w
open Go.RowKit Go.Sort in
theorem Tryz.slices_Sort_int_none (p : Option Addr) (cap : Nat) (w : World) :
    Calls Tryz.prog 79 #[.slice p 0 cap] w fun e w' => e = .returned (.tuple #[]) ∧ w' = w := Any.slices_Sort_int_none Tryz.lays189 p cap w
def Tryz.laysSlH10_f81_ren : Go.Shelf.Ren := ⟨fun | 10 => 81 | 6 => 78 | n => n, fun | 22 => 27 | 23 => 3 | 25 => 99 | 3 => 3 | 4 => 4 | 0 => 0 | n => n, fun | n => n⟩
theorem Tryz.laysSlH10_f81 : Go.Proofs.SlLaysH.n10 Tryz.prog Tryz.laysSlH10_f81_ren := {
  mixed := by kernel_rfl
  f6 := ⟨Tryz.f78.name, by decide, Tryz.func78.trans (congrArg some (by kernel_rfl))⟩
  f10 := ⟨Tryz.f81.name, by decide, Tryz.func81.trans (congrArg some (by kernel_rfl))⟩
  t0 := Tryz.underlying0
  a0 := Tryz.isAgg0
  z0 := Tryz.sizeOf0
  v0 := Tryz.zeroValue0
  t3 := Tryz.underlying3
  a3 := Tryz.isAgg3
  z3 := Tryz.sizeOf3
  v3 := Tryz.zeroValue3
  t4 := Tryz.underlying4
  a4 := Tryz.isAgg4
  z4 := Tryz.sizeOf4
  v4 := Tryz.zeroValue4
  t22 := Tryz.underlying27
  a22 := Tryz.isAgg27
  z22 := Tryz.sizeOf27
  v22 := Tryz.zeroValue27
  a23 := Tryz.isAgg3
  z23 := Tryz.sizeOf3
  t25 := Tryz.underlying99
  a25 := Tryz.isAgg99
  z25 := Tryz.sizeOf99
  v25 := Tryz.zeroValue99 }
open Go.RowKit Go.Lib Go.Sort in
theorem Tryz.slices_DeleteFunc {α : Type} [Inhabited α] (enc : α → Value) (hO : OneCell enc) (p : α → Bool) (g : Nat) (lb : Array Value) (eg : ∀ args w, (callFunc g args).run Tryz.prog w = .ok (.enter g args) w) (zr : α) (v23 : ∀ w, (zeroValue 3).run Tryz.prog w = .ok (enc zr) w) (blk off cap : Nat) (d : Array α) (w : World) (hp : PredAt Tryz.prog g lb enc p w) (hpo : PredOver Tryz.prog g lb enc p blk off d.size w) (hH : Holds enc w blk off d) (hsz : d.size ≤ 9223372036854775807) (hcap : d.size ≤ cap) :
    Calls Tryz.prog 81 #[.slice (some ⟨blk, off, none⟩) d.size cap, .func (.func g) #[] lb] w fun e w' => e = .returned (.slice (some ⟨blk, off, none⟩) (d.toList.filter fun x => !p x).length cap) ∧ ∃ q, w' = putRow enc (Sort.ahead w q) blk off ((d.toList.filter fun x => !p x) ++ List.replicate (d.size - (d.toList.filter fun x => !p x).length) zr).toArray := AnyE.slices_DeleteFunc Tryz.laysSlH10_f81 enc hO p g lb eg zr v23 blk off cap d w hp hpo hH hsz hcap
end Go.Proofs

