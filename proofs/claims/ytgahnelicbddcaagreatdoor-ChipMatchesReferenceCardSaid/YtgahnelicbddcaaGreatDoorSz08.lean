/- Part of a proof of the given statements of this seat (SxChL, SxChM, SxChAb): no conditions beyond those typed here. -/
import Derived.Test.YtgahnelicbddcaaGreatDoorSz06
import Derived.Test.YtgahnelicbddcaaGreatDoorSz07
import Derived.Test.YtgahnelicbddcaaGreatDoorSz04
set_option linter.unusedVariables false
set_option linter.unusedSimpArgs false
set_option linter.unusedSectionVars false

namespace Go.Proofs.YtgahnelicbddcaaGreatDoor
open Go.Sx
set_option maxRecDepth 100000

noncomputable def cNi : Ctr := fun ss => match ss with
  | [.agg [.d (.x (.int .i64 w)), .d (.x (.int .i64 h)), .d (.x (.int .i64 t)), .d (.x (.int .i64 p)), .d (.ro m 1 c)], .agg [.d (.x (.int .i64 k)), .d (.x (.int .i64 x)), .d (.x (.int .i64 y)), .d (.x (.int .i64 i))]] => .nd (okG w h t p) (.ret (.agg [iv (gM w h t p k x y i), iv (gF w h t p k x y i)]))
  | _ => .fail
theorem cNi_ok : CtrOK Tryz.prog 27 cNi := by
  refine ctrOK_S C3_ok D3_ok (by kernel_rfl) (by kernel_rfl) fun ss r hr => ?_
  unfold cNi at hr
  split at hr
  · rename_i w h t p m c k x y i
    obtain ⟨h1, rfl⟩ := hr; have k0 := ni_sat h1 (k := k) (x := x) (y := y) (i := i) (m := m) (c := c); refine ⟨200, .nil, ?_⟩; exact k0
  · exact hr.elim
noncomputable def cRd : Ctr := fun ss => match ss with
  | [.agg [.d (.x (.int .i64 w)), .d (.x (.int .i64 h)), .d (.x (.int .i64 t)), .d (.x (.int .i64 p)), .d (.ro m 1 c)], .d (.x (.int .i64 n))] => .nd (okG w h t p) (.need (i64B n) (.ret (ivL (refD w h t p n))))
  | _ => .fail
theorem cRd_ok : CtrOK Tryz.prog 30 cRd := by
  refine ctrOK_S C3_ok D3_ok (by kernel_rfl) (by kernel_rfl) fun ss r hr => ?_
  unfold cRd at hr
  split at hr
  · rename_i w h t p m c n
    obtain ⟨h1, h2, rfl⟩ := hr; have k0 := rd_sat h1 h2 (m := m) (c := c); refine ⟨200, .nil, ?_⟩; exact k0
  · exact hr.elim
noncomputable def cRn : Ctr := fun ss => match ss with
  | [.agg [.d (.x (.int .i64 w)), .d (.x (.int .i64 h)), .d (.x (.int .i64 t)), .d (.x (.int .i64 p)), .d (.ro m 1 c)], .d (.x (.int .i64 n))] => .nd (okG w h t p) (.need (i64B n) (.ret (ivL (refN w h t p n))))
  | _ => .fail
theorem cRn_ok : CtrOK Tryz.prog 32 cRn := by
  refine ctrOK_S C3_ok D3_ok (by kernel_rfl) (by kernel_rfl) fun ss r hr => ?_
  unfold cRn at hr
  split at hr
  · rename_i w h t p m c n
    obtain ⟨h1, h2, rfl⟩ := hr; have k0 := rn_sat h1 h2 (m := m) (c := c); refine ⟨200, .nil, ?_⟩; exact k0
  · exact hr.elim
noncomputable def man4 : FuncId → Option Ctr := fun k => match k with
  | 27 => some cNi
  | 30 => some cRd
  | 32 => some cRn
  | k => man3 k
theorem man4_ok (k : Nat) (c : Ctr) (h : man4 k = some c) : CtrOK Tryz.prog k c ∧ goodF Tryz.prog k = true := by
  unfold man4 at h
  split at h
  · cases h; exact ⟨cNi_ok, by kernel_rfl⟩
  · cases h; exact ⟨cRd_ok, by kernel_rfl⟩
  · cases h; exact ⟨cRn_ok, by kernel_rfl⟩
  · exact man3_ok _ _ h
noncomputable def C4 : Ctx := ctxN Tryz.prog man4 (fun _ => false) 200 .nil 6
theorem C4_ok : CtxOK Tryz.prog C4 := ctxN_ok mixed man4_ok 6
noncomputable def D4 : Dr := fun _ => drawn Tryz.prog C4
theorem D4_ok : DrOK Tryz.prog C4 D4 := drawn_ok C4_ok mixed
noncomputable def colB (w h t p : Int) (m : Nat) (c : Nat → Nat → DV) (l n : Nat) : Blk := .cells [iv w, iv h, iv t, iv p, .d (.ro m 1 c), .row l 0 0 n 1]
noncomputable def colH (w h t p : Int) (m : Nat) (c : Nat → Nat → DV) (n : Nat) (f : Nat → Nat → DV) : Heap := [some (colB w h t p m c 1 n), some (.row n 1 f)]
end Go.Proofs.YtgahnelicbddcaaGreatDoor

namespace Go.Proofs.YtgahnelicbddcaaGreatDoor
open Go.Sx
set_option maxRecDepth 100000
noncomputable def LAdd_q1 (w : Int) (h : Int) (t : Int) (p : Int) (k : Int) (x : Int) (y : Int) (i : Int) : Bool :=
  gF w h t p k x y i == (0 : Int)
noncomputable def LAdd_q2 (w : Int) (h : Int) (t : Int) (p : Int) (n : Nat) (f : Nat → Nat → DV) (k : Int) (x : Int) (y : Int) (i : Int) (a : Nat) (b : Nat) : DV :=
  selD (decide (a < n)) (f (0 + a) b) (dsAt [DV.x (.int .i64 (gM w h t p k x y i))] (0 + (0 + (a - n)) * 1 + b))
noncomputable def LAdd (w h t p : Int) (m : Nat) (c : Nat → Nat → DV) (n : Nat) (f : Nat → Nat → DV) (k x y i : Int) : Tree (SV × AS) :=
 .need (okG w h t p)
 (.ite (LAdd_q1 w h t p k x y i)
 (.need (0 + n ≤ n ∧ 1 ≤ 1 ∧ (n + 1) * 8 ≤ 140737488355328)
 (.ret
 (SV.tup [],
 {
 tm :=
 [.ok (SV.ptr 0 0), .ok (iv k), .ok (iv x), .ok (iv y), .ok (iv i), .unk, .unk, .unk, .unk, .unk, .ok (iv (gM w h t p k x y i)), .ok (iv (gF w h t p k x y i)),
 .ok (SV.tup [iv (gM w h t p k x y i), iv (gF w h t p k x y i)]), .ok (SV.ptr 0 0), .ok (SV.ptr 0 0), .ok (SV.ptr 0 0),
 .ok (SV.agg [iv w, iv h, iv t, iv p, SV.d (DV.ro m 1 c)]), .ok (iv k), .ok (iv x), .ok (iv y), .ok (iv i), .ok (SV.agg [iv k, iv x, iv y, iv i]),
 .ok (SV.tup [iv (gM w h t p k x y i), iv (gF w h t p k x y i)]), .ok (iv (gM w h t p k x y i)), .ok (iv (gF w h t p k x y i)), .ok (iv (gF w h t p k x y i)), .ok (bv (LAdd_q1 w h t p k x y i)),
 .ok (SV.ptr 0 0), .ok (SV.ptr 0 0), .ok (SV.ptr 0 0), .ok (SV.ptr 0 5),
 .ok (SV.row 1 0 0 n 1), .ok (iv (gM w h t p k x y i)), .ok (SV.row 2 0 0 1 1),
 .ok (SV.row 3 0 0 (n + 1) 1), .ok (SV.ptr 0 0), .ok (SV.ptr 0 5)],
 hp :=
 [some (.cells [iv w, iv h, iv t, iv p, SV.d (DV.ro m 1 c), SV.row 3 0 0 (n + 1) 1]), none, some (.cells [iv (gM w h t p k x y i)]),
 some (.row (n + 1) 1 (LAdd_q2 w h t p n f k x y i))],
 next := 5, hint := .nil })))
 (.ret
 (SV.tup [],
 {
 tm :=
 [.ok (SV.ptr 0 0), .ok (iv k), .ok (iv x), .ok (iv y), .ok (iv i), .unk, .unk, .unk, .unk, .unk, .ok (iv (gM w h t p k x y i)), .ok (iv (gF w h t p k x y i)),
 .ok (SV.tup [iv (gM w h t p k x y i), iv (gF w h t p k x y i)]), .ok (SV.ptr 0 0), .ok (SV.ptr 0 0), .ok (SV.ptr 0 0),
 .ok (SV.agg [iv w, iv h, iv t, iv p, SV.d (DV.ro m 1 c)]), .ok (iv k), .ok (iv x), .ok (iv y), .ok (iv i), .ok (SV.agg [iv k, iv x, iv y, iv i]),
 .ok (SV.tup [iv (gM w h t p k x y i), iv (gF w h t p k x y i)]), .ok (iv (gM w h t p k x y i)), .ok (iv (gF w h t p k x y i)), .ok (iv (gF w h t p k x y i)), .ok (bv (LAdd_q1 w h t p k x y i)), .unk,
 .unk, .unk, .unk, .unk, .unk, .unk, .unk, .unk, .unk],
 hp := [some (.cells [iv w, iv h, iv t, iv p, SV.d (DV.ro m 1 c), SV.row 1 0 0 n 1]), some (.row n 1 f)], next := 2, hint := .nil })))

theorem LAdd_eq (w h t p : Int) (m : Nat) (c : Nat → Nat → DV) (n : Nat) (f : Nat → Nat → DV) (k x y i : Int) : inlT Tryz.prog C4 D4 200 60 [.ptr 0 0, iv k, iv x, iv y, iv i] ⟨[], colH w h t p m c n f, 2, .nil⟩ = LAdd w h t p m c n f k x y i := by kernel_rfl


end Go.Proofs.YtgahnelicbddcaaGreatDoor

namespace Go.Sx

def intCell (d : DV) : Int := match d with
  | .x (.int _ z) => z
  | _ => 0
def lsOf (n : Nat) (f : Nat → Nat → DV) : List Int := (List.range n).map fun i => intCell (f i 0)
def cellL (L : List Int) : Nat → Nat → DV := fun a b => .x (.int .i64 (L.getD a 0))
def _root_.Go.Proofs.IntRow (n : Nat) (f : Nat → Nat → DV) : Prop := ∀ i, i < n → f i 0 = .x (.int .i64 (intCell (f i 0)))
open Proofs (IntRow)
theorem lsOf_len (n : Nat) (f : Nat → Nat → DV) : (lsOf n f).length = n := by unfold lsOf; simp
theorem lsOf_get {n i : Nat} {f : Nat → Nat → DV} (h : i < n) : (lsOf n f).getD i 0 = intCell (f i 0) := by
  unfold lsOf
  simp [List.getD_eq_getElem?_getD, h]
theorem lsOf_cellL (L : List Int) : lsOf L.length (cellL L) = L := by
  unfold lsOf cellL
  refine List.ext_getElem (by simp) fun i h1 h2 => ?_
  simp [intCell, h2]
theorem intRow_cellL (n : Nat) (L : List Int) : IntRow n (cellL L) := fun i hi => rfl
theorem cell_lsOf {n i : Nat} {f : Nat → Nat → DV} (h : IntRow n f) (hi : i < n) : f i 0 = .x (.int .i64 ((lsOf n f).getD i 0)) := by
  rw [lsOf_get hi]; exact h i hi
def ndL (w h t p k x y i : Int) : List Int := if gF w h t p k x y i = 0 then [gM w h t p k x y i] else []
def addL (w h t p k x y i : Int) (n : Nat) (f : Nat → Nat → DV) : List Int := lsOf n f ++ ndL w h t p k x y i
theorem ndL_len (w h t p k x y i : Int) : (ndL w h t p k x y i).length ≤ 1 := by unfold ndL; split <;> simp
def wirL (w h t p x y r : Int) : List Int := if x < 0 ∨ x ≥ w ∨ y < 0 ∨ y ≥ h then [] else
  ndL w h t p 4 x y r ++ ndL w h t p 5 x y r ++ ndL w h t p 4 (x - 1) y r ++ ndL w h t p 5 x (y - 1) r
theorem wirL_len (w h t p x y r : Int) : (wirL w h t p x y r).length ≤ 4 := by
  unfold wirL
  have h1 := ndL_len w h t p 4 x y r
  have h2 := ndL_len w h t p 5 x y r
  have h3 := ndL_len w h t p 4 (x - 1) y r
  have h4 := ndL_len w h t p 5 x (y - 1) r
  split
  · simp
  · simp only [List.length_append]; omega
def wirA (w h t p x y r : Int) (n : Nat) (f : Nat → Nat → DV) : List Int := lsOf n f ++ wirL w h t p x y r
def allL (w h t p x y : Int) (j : Nat) : List Int := (List.range j).flatMap fun (r : Nat) => wirL w h t p x y (r : Int)
def allA (w h t p x y : Int) (n : Nat) (f : Nat → Nat → DV) : List Int := lsOf n f ++ allL w h t p x y t.toNat
theorem allL_succ (w h t p x y : Int) (j : Nat) : allL w h t p x y (j + 1) = allL w h t p x y j ++ wirL w h t p x y j := by
  unfold allL; rw [List.range_succ, List.flatMap_append]; simp
theorem allL_len (w h t p x y : Int) : ∀ j : Nat, (allL w h t p x y j).length ≤ 4 * j
  | 0 => by simp [allL]
  | j + 1 => by
    rw [allL_succ, List.length_append]
    have := allL_len w h t p x y j
    have := wirL_len w h t p x y j
    omega
def padF (w h t p kd X y : Int) : Nat → Int → List Int
  | 0, _ => []
  | f + 1, k => if k < p then ndL w h t p kd X y k ++ padF w h t p kd X y f (k + h) else []
def padL (w h t p kd X y : Int) (b : Bool) : List Int := if b = true then padF w h t p kd X y 65 y else []
theorem padF_len (w h t p kd X y : Int) : ∀ (f : Nat) (k : Int), (padF w h t p kd X y f k).length ≤ f
  | 0, _ => by simp [padF]
  | f + 1, k => by
    unfold padF
    split
    · rw [List.length_append]
      have := padF_len w h t p kd X y f (k + h)
      have := ndL_len w h t p kd X y k
      omega
    · simp
def cloD (w h t p i x y : Int) : List Int := ndL w h t p 1 x y 0 ++ ndL w h t p 2 x y 0 ++ wirL w h t p x y i ++ padL w h t p 6 (-1) y (x == 0)
def pinL (w h t p x y : Int) : Nat → List Int
  | 0 => []
  | j + 1 => pinL w h t p x y j ++ ndL w h t p 3 x y j
theorem pinL_len (w h t p x y : Int) : ∀ j : Nat, (pinL w h t p x y j).length ≤ j
  | 0 => by simp [pinL]
  | j + 1 => by
    unfold pinL
    rw [List.length_append]
    have := pinL_len w h t p x y j
    have := ndL_len w h t p 3 x y j
    omega
def cloN (w h t p i x y : Int) : List Int := pinL w h t p x y 4 ++ wirL w h t p x y i ++ padL w h t p 7 w y (x == w - 1)
def cloDA (w h t p i x y : Int) (n : Nat) (f : Nat → Nat → DV) : List Int := lsOf n f ++ cloD w h t p i x y
def cloNA (w h t p i x y : Int) (n : Nat) (f : Nat → Nat → DV) : List Int := lsOf n f ++ cloN w h t p i x y
end Go.Sx

