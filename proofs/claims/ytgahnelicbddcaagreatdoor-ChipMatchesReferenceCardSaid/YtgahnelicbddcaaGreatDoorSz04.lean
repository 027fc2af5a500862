/- Part of a proof of the given statements of this seat (SxChA, SxCh0, SxChB, SxChC): no conditions beyond those typed here. -/
import Derived.Test.YtgahnelicbddcaaGreatDoorSz03
import Derived.Test.YtgahnelicbddcaaGreatDoorProg
import Derived.Lib.ItoaNum
set_option linter.unusedVariables false
set_option linter.unusedSimpArgs false
set_option linter.unusedSectionVars false

namespace Go.Sx

structure Gr where
  W : Nat
  H : Nat
  T : Nat
  P : Nat
structure Spt where
  k : Int
  x : Int
  y : Int
  i : Int
def gr (w h t p : Int) : Gr := ⟨w.toNat, h.toNat, t.toNat, p.toNat⟩
def Gr.each (g : Gr) : Nat := 6 + 2 * g.T
def Gr.tiles (g : Gr) : Nat := g.W * g.H * g.each
def Gr.cnt (g : Gr) : Nat := g.tiles + 2 * g.P
structure Gr.ok (g : Gr) : Prop where
  w1 : 1 ≤ g.W
  w2 : g.W ≤ 8
  h1 : 1 ≤ g.H
  h2 : g.H ≤ 8
  t1 : 1 ≤ g.T
  t2 : g.T ≤ 8
  p2 : g.P ≤ 64
def _root_.Go.Proofs.okG (w h t p : Int) : Prop := (1 ≤ w ∧ w ≤ 8) ∧ (1 ≤ h ∧ h ≤ 8) ∧ (1 ≤ t ∧ t ≤ 8) ∧ (0 ≤ p ∧ p ≤ 64)
instance (w h t p : Int) : Decidable (Proofs.okG w h t p) := by unfold Proofs.okG; exact inferInstance
open Proofs (okG)
theorem _root_.Go.Proofs.okG.gr {w h t p : Int} (h0 : okG w h t p) : (Go.Sx.gr w h t p).ok := by
  obtain ⟨⟨a1, a2⟩, ⟨b1, b2⟩, ⟨c1, c2⟩, d1, d2⟩ := h0
  constructor <;> simp only [Go.Sx.gr] <;> omega

def tilS (T : Nat) (x y : Int) (r : Nat) : Spt :=
  if r = 0 then ⟨1, x, y, 0⟩ else if r = 1 then ⟨2, x, y, 0⟩ else if r < 6 then ⟨3, x, y, (r : Int) - 2⟩
  else if r < 6 + T then ⟨4, x, y, (r : Int) - 6⟩ else ⟨5, x, y, (r : Int) - 6 - T⟩
def dscN (g : Gr) (n : Nat) : Spt :=
  if g.tiles + g.P ≤ n then ⟨7, g.W, (((n - g.tiles - g.P) % g.H : Nat) : Int), ((n - g.tiles - g.P : Nat) : Int)⟩
  else if g.tiles ≤ n then ⟨6, -1, (((n - g.tiles) % g.H : Nat) : Int), ((n - g.tiles : Nat) : Int)⟩
  else tilS g.T (((n / g.each) % g.W : Nat) : Int) (((n / g.each) / g.W : Nat) : Int) (n % g.each)
def dsc (g : Gr) (n : Int) : Spt := if n < 0 ∨ (g.cnt : Int) ≤ n then ⟨0, 0, 0, 0⟩ else dscN g n.toNat
def dscE (g : Gr) (n : Int) : Int := if n < 0 ∨ (g.cnt : Int) ≤ n then 1 else 0
def OkS (g : Gr) (s : Spt) : Prop :=
  (s.k = 6 ∧ s.x = -1 ∧ 0 ≤ s.i ∧ s.i < g.P ∧ s.y = s.i % (g.H : Int)) ∨
  (s.k = 7 ∧ s.x = g.W ∧ 0 ≤ s.i ∧ s.i < g.P ∧ s.y = s.i % (g.H : Int)) ∨
  ((0 ≤ s.x ∧ s.x < g.W ∧ 0 ≤ s.y ∧ s.y < g.H) ∧ (((s.k = 1 ∨ s.k = 2) ∧ s.i = 0) ∨ (s.k = 3 ∧ 0 ≤ s.i ∧ s.i < 4) ∨ ((s.k = 4 ∨ s.k = 5) ∧ 0 ≤ s.i ∧ s.i < g.T)))
instance (g : Gr) (s : Spt) : Decidable (OkS g s) := by unfold OkS; exact inferInstance
def offS (g : Gr) (s : Spt) : Int :=
  if s.k = 1 then 0 else if s.k = 2 then 1 else if s.k = 3 then 2 + s.i else if s.k = 4 then 6 + s.i else 6 + g.T + s.i
def numS (g : Gr) (s : Spt) : Int :=
  if s.k = 6 then g.tiles + s.i else if s.k = 7 then g.tiles + g.P + s.i else (s.y * g.W + s.x) * g.each + offS g s
def ndN (g : Gr) (s : Spt) : Int := if OkS g s then numS g s else 0
def ndE (g : Gr) (s : Spt) : Int := if OkS g s then 0 else 1

theorem each_pos (g : Gr) : 0 < g.each := by unfold Gr.each; omega
theorem Spt.ext' {a b : Spt} (h1 : a.k = b.k) (h2 : a.x = b.x) (h3 : a.y = b.y) (h4 : a.i = b.i) : a = b := by
  cases a; cases b; simp_all

theorem tilS_ok {g : Gr} {x y : Int} {r : Nat} (hx : 0 ≤ x ∧ x < g.W) (hy : 0 ≤ y ∧ y < g.H) (hr : r < g.each) :
    OkS g (tilS g.T x y r) ∧ offS g (tilS g.T x y r) = r ∧ (tilS g.T x y r).x = x ∧ (tilS g.T x y r).y = y ∧ (tilS g.T x y r).k ≠ 6 ∧ (tilS g.T x y r).k ≠ 7 := by
  unfold Gr.each at hr
  unfold tilS OkS offS
  split
  · simp_all
  split
  · simp_all
  split
  · simp; omega
  split
  · simp; omega
  · simp; omega

theorem tile_lt {g : Gr} {q : Nat} (h1 : 1 ≤ g.W) (h : q < g.W * g.H) : q % g.W < g.W ∧ q / g.W < g.H :=
  ⟨Nat.mod_lt _ h1, Nat.div_lt_of_lt_mul h⟩

theorem dsc_ok {g : Gr} (hg : g.ok) {n : Int} (h0 : 0 ≤ n) (h1 : n < g.cnt) : OkS g (dsc g n) ∧ numS g (dsc g n) = n := by
  obtain ⟨m, rfl⟩ : ∃ m : Nat, n = m := ⟨n.toNat, by omega⟩
  have hw := hg.w1
  have hh := hg.h1
  unfold dsc
  rw [if_neg (by omega), Int.toNat_natCast]
  unfold dscN
  unfold Gr.cnt at h1
  split
  · refine ⟨.inr (.inl ⟨rfl, rfl, ?_, ?_, ?_⟩), ?_⟩
    · simp only; omega
    · simp only; omega
    · simp only [Int.natCast_emod]
    · simp only [numS]; rw [if_neg (by decide), if_pos trivial]; omega
  split
  · refine ⟨.inl ⟨rfl, rfl, ?_, ?_, ?_⟩, ?_⟩
    · simp only; omega
    · simp only; omega
    · simp only [Int.natCast_emod]
    · simp only [numS]; rw [if_pos trivial]; omega
  · rename_i h2 h3
    have hq : m / g.each < g.W * g.H := Nat.div_lt_of_lt_mul (by unfold Gr.tiles at h3; rw [Nat.mul_comm]; omega)
    obtain ⟨q1, q2⟩ := tile_lt hw hq
    obtain ⟨k1, k2, k3, k4, k5, k6⟩ := tilS_ok (g := g) (x := ((m / g.each % g.W : Nat) : Int)) (y := ((m / g.each / g.W : Nat) : Int)) (r := m % g.each) ⟨Int.natCast_nonneg _, Int.ofNat_lt.2 q1⟩ ⟨Int.natCast_nonneg _, Int.ofNat_lt.2 q2⟩ (Nat.mod_lt _ (each_pos g))
    refine ⟨k1, ?_⟩
    unfold numS
    rw [if_neg k5, if_neg k6, k2, k3, k4]
    have e1 : m / g.each / g.W * g.W + m / g.each % g.W = m / g.each := by rw [Nat.mul_comm]; exact Nat.div_add_mod _ _
    have e2 : m / g.each * g.each + m % g.each = m := by rw [Nat.mul_comm]; exact Nat.div_add_mod _ _
    rw [← Int.natCast_mul, ← Int.natCast_add, e1, ← Int.natCast_mul, ← Int.natCast_add, e2]

theorem num_ok {g : Gr} (hg : g.ok) {s : Spt} (h : OkS g s) : (0 ≤ numS g s ∧ numS g s < g.cnt) ∧ dsc g (numS g s) = s := by
  have hw := hg.w1
  have hh := hg.h1
  rcases h with ⟨a1, a2, a3, a4, a5⟩ | ⟨a1, a2, a3, a4, a5⟩ | ⟨⟨a1, a2, a3, a4⟩, h⟩
  · obtain ⟨j, hj⟩ : ∃ j : Nat, s.i = j := ⟨s.i.toNat, by omega⟩
    have en : numS g s = ((g.tiles + j : Nat) : Int) := by unfold numS; rw [if_pos a1]; omega
    rw [en]
    refine ⟨by unfold Gr.cnt; omega, ?_⟩
    unfold dsc
    rw [if_neg (by unfold Gr.cnt; omega), Int.toNat_natCast]
    unfold dscN
    rw [if_neg (by omega), if_pos (by omega)]
    refine Spt.ext' a1.symm a2.symm ?_ ?_
    · rw [a5, hj, Nat.add_sub_cancel_left]; simp
    · rw [hj, Nat.add_sub_cancel_left]
  · obtain ⟨j, hj⟩ : ∃ j : Nat, s.i = j := ⟨s.i.toNat, by omega⟩
    have en : numS g s = ((g.tiles + g.P + j : Nat) : Int) := by unfold numS; rw [if_neg (by omega), if_pos a1]; omega
    rw [en]
    refine ⟨by unfold Gr.cnt; omega, ?_⟩
    unfold dsc
    rw [if_neg (by unfold Gr.cnt; omega), Int.toNat_natCast]
    unfold dscN
    have e : g.tiles + g.P + j - g.tiles - g.P = j := by omega
    rw [if_pos (by omega), e]
    refine Spt.ext' a1.symm a2.symm ?_ ?_
    · rw [a5, hj]; simp
    · rw [hj]
  · obtain ⟨x, hx⟩ : ∃ x : Nat, s.x = x := ⟨s.x.toNat, by omega⟩
    obtain ⟨y, hy⟩ : ∃ y : Nat, s.y = y := ⟨s.y.toNat, by omega⟩
    have hk : s.k ≠ 6 ∧ s.k ≠ 7 := by omega
    obtain ⟨r, hr, hr2⟩ : ∃ r : Nat, offS g s = r ∧ (r < g.each ∧ tilS g.T s.x s.y r = s) := by
      unfold offS Gr.each tilS
      rcases h with ⟨h | h, h2⟩ | ⟨h, h2, h3⟩ | ⟨h | h, h2, h3⟩
      · exact ⟨0, by rw [if_pos h]; rfl, by omega, Spt.ext' h.symm rfl rfl h2.symm⟩
      · exact ⟨1, by rw [if_neg (by omega), if_pos h]; rfl, by omega, Spt.ext' h.symm rfl rfl h2.symm⟩
      · refine ⟨(2 + s.i).toNat, by rw [if_neg (by omega), if_neg (by omega), if_pos h]; omega, by omega, ?_⟩
        rw [if_neg (by omega), if_neg (by omega), if_pos (by omega)]
        exact Spt.ext' h.symm rfl rfl (by simp only; omega)
      · refine ⟨(6 + s.i).toNat, by rw [if_neg (by omega), if_neg (by omega), if_neg (by omega), if_pos h]; omega, by omega, ?_⟩
        rw [if_neg (by omega), if_neg (by omega), if_neg (by omega), if_pos (by omega)]
        exact Spt.ext' h.symm rfl rfl (by simp only; omega)
      · refine ⟨(6 + g.T + s.i).toNat, by rw [if_neg (by omega), if_neg (by omega), if_neg (by omega), if_neg (by omega)]; omega, by omega, ?_⟩
        rw [if_neg (by omega), if_neg (by omega), if_neg (by omega), if_neg (by omega)]
        exact Spt.ext' h.symm rfl rfl (by simp only; omega)
    have en : numS g s = (((y * g.W + x) * g.each + r : Nat) : Int) := by
      unfold numS
      rw [if_neg hk.1, if_neg hk.2, hr, hx, hy, Int.natCast_add, Int.natCast_mul, Int.natCast_add, Int.natCast_mul]
    have hq : y * g.W + x < g.W * g.H := by
      have : (y + 1) * g.W ≤ g.H * g.W := Nat.mul_le_mul_right _ (by omega)
      rw [Nat.add_mul] at this
      rw [Nat.mul_comm g.W g.H]; omega
    have hn : (y * g.W + x) * g.each + r < g.tiles := by
      have : (y * g.W + x + 1) * g.each ≤ g.W * g.H * g.each := Nat.mul_le_mul_right _ hq
      rw [Nat.add_mul (y * g.W + x)] at this
      unfold Gr.tiles; omega
    rw [en]
    refine ⟨by unfold Gr.cnt; omega, ?_⟩
    unfold dsc
    rw [if_neg (by unfold Gr.cnt; omega), Int.toNat_natCast]
    unfold dscN
    rw [if_neg (by omega), if_neg (by omega)]
    have d1 : ((y * g.W + x) * g.each + r) / g.each = y * g.W + x := by
      rw [Nat.mul_comm, Nat.mul_add_div (each_pos g), Nat.div_eq_of_lt hr2.1, Nat.add_zero]
    have d2 : ((y * g.W + x) * g.each + r) % g.each = r := by
      rw [Nat.mul_comm, Nat.mul_add_mod, Nat.mod_eq_of_lt hr2.1]
    have d3 : (y * g.W + x) / g.W = y := by
      rw [Nat.mul_comm, Nat.mul_add_div hw, Nat.div_eq_of_lt (by omega), Nat.add_zero]
    have d4 : (y * g.W + x) % g.W = x := by
      rw [Nat.mul_comm, Nat.mul_add_mod, Nat.mod_eq_of_lt (by omega)]
    rw [d1, d2, d3, d4, ← hx, ← hy]
    exact hr2.2
theorem cnt_le {g : Gr} (hg : g.ok) : g.tiles ≤ 1408 ∧ g.cnt ≤ 1536 := by
  have h1 : g.W * g.H ≤ 8 * 8 := Nat.mul_le_mul hg.w2 hg.h2
  have h2 : g.W * g.H * g.each ≤ 64 * 22 := Nat.mul_le_mul h1 (by unfold Gr.each; have := hg.t2; omega)
  have := hg.p2
  unfold Gr.cnt Gr.tiles; omega
theorem dscE_ok {g : Gr} {n : Int} : dscE g n = 0 ↔ 0 ≤ n ∧ n < g.cnt := by
  unfold dscE
  split <;> omega
theorem dsc_inj {g : Gr} (hg : g.ok) {m n : Int} (h0 : 0 ≤ m) (h1 : m < g.cnt) (h2 : 0 ≤ n) (h3 : n < g.cnt) (h : dsc g m = dsc g n) : m = n := by
  rw [← (dsc_ok hg h0 h1).2, ← (dsc_ok hg h2 h3).2, h]
def gK (w h t p n : Int) : Int := (dsc (gr w h t p) n).k
def gX (w h t p n : Int) : Int := (dsc (gr w h t p) n).x
def gY (w h t p n : Int) : Int := (dsc (gr w h t p) n).y
def gI (w h t p n : Int) : Int := (dsc (gr w h t p) n).i
def gE (w h t p n : Int) : Int := dscE (gr w h t p) n
def gN (w h t p : Int) : Int := ((gr w h t p).cnt : Int)
def gM (w h t p k x y i : Int) : Int := ndN (gr w h t p) ⟨k, x, y, i⟩
def gF (w h t p k x y i : Int) : Int := ndE (gr w h t p) ⟨k, x, y, i⟩
def _root_.Go.Proofs.i64B (n : Int) : Prop := -9223372036854775808 ≤ n ∧ n ≤ 9223372036854775807
instance (n : Int) : Decidable (Proofs.i64B n) := by unfold Proofs.i64B; exact inferInstance
def adjB (w h k x y u v : Int) : Bool := !(decide (u < 0) || decide (u ≥ w) || decide (v < 0) || decide (v ≥ h)) &&
  ((k == 4 || k == 5) && x == u && y == v || k == 4 && x + 1 == u && y == v || k == 5 && x == u && y + 1 == v)
def _root_.Go.Proofs.smS (x y : Int) : Prop := (-4611686018427387904 ≤ x ∧ x ≤ 4611686018427387904) ∧ (-4611686018427387904 ≤ y ∧ y ≤ 4611686018427387904)
instance (x y : Int) : Decidable (Proofs.smS x y) := by unfold Proofs.smS; exact inferInstance
def canB (w h k x y i k' x' y' i' : Int) : Bool :=
  if k = 1 then adjB w h k' x' y' x y || k' == 3 && i' == 3 && x' == x && y' == y + 1
  else if k = 2 then adjB w h k' x' y' x y
  else if k = 6 then adjB w h k' x' y' 0 y
  else if k = 4 ∨ k = 5 then
    (if k' = 4 ∨ k' = 5 then (!(k == k' && (x == x' && (y == y' && (i == i' && true)))) && i == i') && (adjB w h k' x' y' x y || k == 4 && adjB w h k' x' y' (x + 1) y || k == 5 && adjB w h k' x' y' x (y + 1))
     else k' == 3 && adjB w h k x y x' y' || k' == 7 && adjB w h k x y (w - 1) y')
  else false
def canN (w h t p a b : Int) : Bool := canB w h (gK w h t p a) (gX w h t p a) (gY w h t p a) (gI w h t p a) (gK w h t p b) (gX w h t p b) (gY w h t p b) (gI w h t p b)
def upTo (n : Nat) : List Int := (List.range n).map fun (k : Nat) => (k : Int)
theorem upTo_succ (n : Nat) : upTo (n + 1) = upTo n ++ [(n : Int)] := by unfold upTo; rw [List.range_succ, List.map_append]; rfl
def refD (w h t p n : Int) : List Int := if gE w h t p n = 0 then (upTo (gr w h t p).cnt).filter fun a => canN w h t p a n else []
def refN (w h t p n : Int) : List Int := if gE w h t p n = 0 then (upTo (gr w h t p).cnt).filter fun a => canN w h t p n a else []
theorem gXY_sm {w h t p n : Int} (hg : Proofs.okG w h t p) : Proofs.smS (gX w h t p n) (gY w h t p n) := by
  have hb := hg
  obtain ⟨⟨a1, a2⟩, ⟨b1, b2⟩, ⟨c1, c2⟩, d1, d2⟩ := hb
  unfold gX gY
  by_cases h0 : n < 0 ∨ ((gr w h t p).cnt : Int) ≤ n
  · unfold dsc; rw [if_pos h0]; exact ⟨⟨by simp, by simp⟩, by simp, by simp⟩
  · obtain ⟨e1, e2⟩ := dsc_ok hg.gr (n := n) (by omega) (by omega)
    have gW : ((gr w h t p).W : Int) = w := by unfold gr; simp only; omega
    have gH : ((gr w h t p).H : Int) = h := by unfold gr; simp only; omega
    have hm : ∀ i : Int, 0 ≤ i % h ∧ i % h < h := fun i => ⟨Int.emod_nonneg _ (by omega), Int.emod_lt_of_pos _ (by omega)⟩
    unfold OkS at e1
    rw [gW, gH] at e1
    have := hm (dsc (gr w h t p) n).i
    unfold Proofs.smS
    omega
end Go.Sx

namespace Go.Proofs.YtgahnelicbddcaaGreatDoor
open Go.Sx
set_option maxRecDepth 100000

noncomputable instance globs : Globs := ⟨fun _ => none, fun g => match g with
  | 1 => some (okTab Lib.pow10Tab)
  | 0 => some okInt
  | 2 => some okErr
  | 3 => some okErr
  | _ => none⟩

theorem mixed : Tryz.prog.follows .mixedOrders = true := by kernel_rfl
noncomputable def C0 : Ctx := ctxN Tryz.prog (fun _ => none) (fun _ => false) 200 .nil 6
theorem C0_ok : CtxOK Tryz.prog C0 := ctxN_ok mixed (fun k c h => by cases h) 6
noncomputable def D0 : Dr := fun _ => drawn Tryz.prog C0
theorem D0_ok : DrOK Tryz.prog C0 D0 := drawn_ok C0_ok mixed
noncomputable def T0 (h : Hint) (k : Nat) (args : List SV) : Tree SV := fnT Tryz.prog C0 D0 200 (fnOf Tryz.prog k) (bodyOf Tryz.prog k) args h

theorem w64_of {n : Int} (h1 : -9223372036854775808 ≤ n) (h2 : n ≤ 9223372036854775807) : w64 n = n := by
  unfold w64 IntKind.wrap
  simp [IntKind.signed, IntKind.bits]
  omega

end Go.Proofs.YtgahnelicbddcaaGreatDoor

namespace Go.Proofs.YtgahnelicbddcaaGreatDoor
open Go.Sx
set_option maxRecDepth 100000
noncomputable def gridV (w h t p : Int) (kd : SV) : SV := .agg [iv w, iv h, iv t, iv p, kd]
noncomputable def LDs (w h t p n : Int) (m : Nat) (c : Nat → Nat → DV) : Tree SV :=
 .ite (decide (n < (0 : Int)) || decide (n ≥ w64 (w64 (w64 (w * h) * w64 ((6 : Int) + w64 ((2 : Int) * t))) + w64 ((2 : Int) * p)))) (.ret (SV.tup [SV.agg [iv (0 : Int), iv (0 : Int), iv (0 : Int), iv (0 : Int)], iv (1 : Int)]))
 (.ite (decide (w64 (n - w64 (w64 (w * h) * w64 ((6 : Int) + w64 ((2 : Int) * t)))) ≥ p))
 (.need (h ≠ (0 : Int))
 (.ret
 (SV.tup
 [SV.agg [iv (7 : Int), iv w, iv (Int.tmod (w64 (w64 (n - w64 (w64 (w * h) * w64 ((6 : Int) + w64 ((2 : Int) * t)))) - p)) h), iv (w64 (w64 (n - w64 (w64 (w * h) * w64 ((6 : Int) + w64 ((2 : Int) * t)))) - p))], iv (0 : Int)])))
 (.ite (decide (w64 (n - w64 (w64 (w * h) * w64 ((6 : Int) + w64 ((2 : Int) * t)))) ≥ (0 : Int)))
 (.need (h ≠ (0 : Int))
 (.ret
 (SV.tup [SV.agg [iv (6 : Int), iv (-1 : Int), iv (Int.tmod (w64 (n - w64 (w64 (w * h) * w64 ((6 : Int) + w64 ((2 : Int) * t))))) h), iv (w64 (n - w64 (w64 (w * h) * w64 ((6 : Int) + w64 ((2 : Int) * t)))))], iv (0 : Int)])))
 (.need (w64 ((6 : Int) + w64 ((2 : Int) * t)) ≠ (0 : Int))
 (.need (w64 ((6 : Int) + w64 ((2 : Int) * t)) ≠ (0 : Int))
 (.need (w ≠ (0 : Int))
 (.need (w ≠ (0 : Int))
 (.ite (decide (Int.tmod n (w64 ((6 : Int) + w64 ((2 : Int) * t))) ≥ w64 ((6 : Int) + t)))
 (.ret
 (SV.tup
 [SV.agg
 [iv (5 : Int), iv (Int.tmod (w64 (Int.tdiv n (w64 ((6 : Int) + w64 ((2 : Int) * t))))) w), iv (w64 (Int.tdiv (w64 (Int.tdiv n (w64 ((6 : Int) + w64 ((2 : Int) * t))))) w)),
 iv (w64 (w64 (w64 (Int.tmod n (w64 ((6 : Int) + w64 ((2 : Int) * t))) - (2 : Int)) - (4 : Int)) - t))],
 iv (0 : Int)]))
 (.ite (decide (Int.tmod n (w64 ((6 : Int) + w64 ((2 : Int) * t))) ≥ (6 : Int)))
 (.ret
 (SV.tup
 [SV.agg
 [iv (4 : Int), iv (Int.tmod (w64 (Int.tdiv n (w64 ((6 : Int) + w64 ((2 : Int) * t))))) w), iv (w64 (Int.tdiv (w64 (Int.tdiv n (w64 ((6 : Int) + w64 ((2 : Int) * t))))) w)),
 iv (w64 (w64 (Int.tmod n (w64 ((6 : Int) + w64 ((2 : Int) * t))) - (2 : Int)) - (4 : Int)))],
 iv (0 : Int)]))
 (.ite (decide (Int.tmod n (w64 ((6 : Int) + w64 ((2 : Int) * t))) ≥ (2 : Int)))
 (.ret
 (SV.tup
 [SV.agg
 [iv (3 : Int), iv (Int.tmod (w64 (Int.tdiv n (w64 ((6 : Int) + w64 ((2 : Int) * t))))) w), iv (w64 (Int.tdiv (w64 (Int.tdiv n (w64 ((6 : Int) + w64 ((2 : Int) * t))))) w)),
 iv (w64 (Int.tmod n (w64 ((6 : Int) + w64 ((2 : Int) * t))) - (2 : Int)))],
 iv (0 : Int)]))
 (.ite (Int.tmod n (w64 ((6 : Int) + w64 ((2 : Int) * t))) == (1 : Int))
 (.ret
 (SV.tup
 [SV.agg [iv (2 : Int), iv (Int.tmod (w64 (Int.tdiv n (w64 ((6 : Int) + w64 ((2 : Int) * t))))) w), iv (w64 (Int.tdiv (w64 (Int.tdiv n (w64 ((6 : Int) + w64 ((2 : Int) * t))))) w)), iv (0 : Int)], iv (0 : Int)]))
 (.ret
 (SV.tup
 [SV.agg [iv (1 : Int), iv (Int.tmod (w64 (Int.tdiv n (w64 ((6 : Int) + w64 ((2 : Int) * t))))) w), iv (w64 (Int.tdiv (w64 (Int.tdiv n (w64 ((6 : Int) + w64 ((2 : Int) * t))))) w)), iv (0 : Int)],
 iv (0 : Int)]))))))))))))

theorem LDs_eq (w h t p n : Int) (m : Nat) (c : Nat → Nat → DV) : T0 .nil 39 [gridV w h t p (.d (.ro m 1 c)), iv n] = LDs w h t p n m c := by kernel_rfl

noncomputable def LDi (w h t p n : Int) (m : Nat) (c : Nat → Nat → DV) : Tree SV :=
 .ite (decide (n < (0 : Int)) || decide (n ≥ w64 (w64 (w64 (w * h) * w64 ((6 : Int) + w64 ((2 : Int) * t))) + w64 ((2 : Int) * p)))) (.ret (SV.agg [iv (0 : Int), iv (0 : Int), iv (0 : Int), iv (0 : Int), iv (1 : Int)]))
 (.ite (decide (n ≥ w64 (w64 (w64 (w * h) * w64 ((6 : Int) + w64 ((2 : Int) * t))) + p)))
 (.need (h ≠ (0 : Int))
 (.ret
 (SV.agg [iv (7 : Int), iv w, iv (Int.tmod (w64 (w64 (n - w64 (w64 (w * h) * w64 ((6 : Int) + w64 ((2 : Int) * t)))) - p)) h), iv (w64 (w64 (n - w64 (w64 (w * h) * w64 ((6 : Int) + w64 ((2 : Int) * t)))) - p)), iv (0 : Int)])))
 (.ite (decide (n ≥ w64 (w64 (w * h) * w64 ((6 : Int) + w64 ((2 : Int) * t)))))
 (.need (h ≠ (0 : Int))
 (.ret (SV.agg [iv (6 : Int), iv (-1 : Int), iv (Int.tmod (w64 (n - w64 (w64 (w * h) * w64 ((6 : Int) + w64 ((2 : Int) * t))))) h), iv (w64 (n - w64 (w64 (w * h) * w64 ((6 : Int) + w64 ((2 : Int) * t))))), iv (0 : Int)])))
 (.need (w64 ((6 : Int) + w64 ((2 : Int) * t)) ≠ (0 : Int))
 (.need (w64 ((6 : Int) + w64 ((2 : Int) * t)) ≠ (0 : Int))
 (.need (w ≠ (0 : Int))
 (.need (w ≠ (0 : Int))
 (.ite (Int.tmod n (w64 ((6 : Int) + w64 ((2 : Int) * t))) == (0 : Int))
 (.ret (SV.agg [iv (1 : Int), iv (Int.tmod (w64 (Int.tdiv n (w64 ((6 : Int) + w64 ((2 : Int) * t))))) w), iv (w64 (Int.tdiv (w64 (Int.tdiv n (w64 ((6 : Int) + w64 ((2 : Int) * t))))) w)), iv (0 : Int), iv (0 : Int)]))
 (.ite (Int.tmod n (w64 ((6 : Int) + w64 ((2 : Int) * t))) == (1 : Int))
 (.ret (SV.agg [iv (2 : Int), iv (Int.tmod (w64 (Int.tdiv n (w64 ((6 : Int) + w64 ((2 : Int) * t))))) w), iv (w64 (Int.tdiv (w64 (Int.tdiv n (w64 ((6 : Int) + w64 ((2 : Int) * t))))) w)), iv (0 : Int), iv (0 : Int)]))
 (.ite (decide (Int.tmod n (w64 ((6 : Int) + w64 ((2 : Int) * t))) < (6 : Int)))
 (.ret
 (SV.agg
 [iv (3 : Int), iv (Int.tmod (w64 (Int.tdiv n (w64 ((6 : Int) + w64 ((2 : Int) * t))))) w), iv (w64 (Int.tdiv (w64 (Int.tdiv n (w64 ((6 : Int) + w64 ((2 : Int) * t))))) w)),
 iv (w64 (Int.tmod n (w64 ((6 : Int) + w64 ((2 : Int) * t))) - (2 : Int))), iv (0 : Int)]))
 (.ite (decide (Int.tmod n (w64 ((6 : Int) + w64 ((2 : Int) * t))) < w64 ((6 : Int) + t)))
 (.ret
 (SV.agg
 [iv (4 : Int), iv (Int.tmod (w64 (Int.tdiv n (w64 ((6 : Int) + w64 ((2 : Int) * t))))) w), iv (w64 (Int.tdiv (w64 (Int.tdiv n (w64 ((6 : Int) + w64 ((2 : Int) * t))))) w)),
 iv (w64 (Int.tmod n (w64 ((6 : Int) + w64 ((2 : Int) * t))) - (6 : Int))), iv (0 : Int)]))
 (.ret
 (SV.agg
 [iv (5 : Int), iv (Int.tmod (w64 (Int.tdiv n (w64 ((6 : Int) + w64 ((2 : Int) * t))))) w), iv (w64 (Int.tdiv (w64 (Int.tdiv n (w64 ((6 : Int) + w64 ((2 : Int) * t))))) w)),
 iv (w64 (w64 (Int.tmod n (w64 ((6 : Int) + w64 ((2 : Int) * t))) - (6 : Int)) - t)), iv (0 : Int)]))))))))))))

theorem LDi_eq (w h t p n : Int) (m : Nat) (c : Nat → Nat → DV) : T0 .nil 26 [gridV w h t p (.d (.ro m 1 c)), iv n] = LDi w h t p n m c := by kernel_rfl

noncomputable def LCt (w h t p : Int) (m : Nat) (c : Nat → Nat → DV) : Tree SV :=
  .ret (iv (w64 (w64 (w64 (w * h) * w64 ((6 : Int) + w64 ((2 : Int) * t))) + w64 ((2 : Int) * p))))

theorem LCt_eq (w h t p : Int) (m : Nat) (c : Nat → Nat → DV) : T0 .nil 11 [gridV w h t p (.d (.ro m 1 c))] = LCt w h t p m c := by kernel_rfl

noncomputable def LCr (w h t p : Int) (m : Nat) (c : Nat → Nat → DV) : Tree SV :=
  .ret (iv (w64 (w64 (w64 (w * h) * w64 ((6 : Int) + w64 ((2 : Int) * t))) + w64 ((2 : Int) * p))))

theorem LCr_eq (w h t p : Int) (m : Nat) (c : Nat → Nat → DV) : T0 .nil 25 [gridV w h t p (.d (.ro m 1 c))] = LCr w h t p m c := by kernel_rfl


end Go.Proofs.YtgahnelicbddcaaGreatDoor

namespace Go.Proofs.YtgahnelicbddcaaGreatDoor
open Go.Sx
set_option maxRecDepth 100000

structure WR (w h t p : Int) : Prop where
  wh : w64 (w * h) = w * h
  ea : w64 (6 + w64 (2 * t)) = ((gr w h t p).each : Int)
  ti : w64 (w * h * ((gr w h t p).each : Int)) = ((gr w h t p).tiles : Int)
  p2 : w64 (2 * p) = 2 * p
  cn : w64 (((gr w h t p).tiles : Int) + 2 * p) = ((gr w h t p).cnt : Int)
theorem gr_nat (W H T P : Nat) : gr W H T P = ⟨W, H, T, P⟩ := by simp [gr]
theorem w64_nat {n : Nat} (h : n ≤ 9223372036854775807) : w64 (n : Int) = n := w64_of (by omega) (by omega)
theorem wr {w h t p : Int} (hg : okG w h t p) : WR w h t p := by
  have hc := cnt_le hg.gr
  obtain ⟨⟨a1, a2⟩, ⟨b1, b2⟩, ⟨c1, c2⟩, d1, d2⟩ := hg
  obtain ⟨W, rfl⟩ : ∃ k : Nat, w = k := ⟨w.toNat, by omega⟩
  obtain ⟨H, rfl⟩ : ∃ k : Nat, h = k := ⟨h.toNat, by omega⟩
  obtain ⟨T, rfl⟩ : ∃ k : Nat, t = k := ⟨t.toNat, by omega⟩
  obtain ⟨P, rfl⟩ : ∃ k : Nat, p = k := ⟨p.toNat, by omega⟩
  have h1 : W * H ≤ 8 * 8 := Nat.mul_le_mul (by omega) (by omega)
  rw [gr_nat] at hc
  simp only [Gr.each, Gr.tiles, Gr.cnt] at hc
  constructor <;> (try rw [gr_nat]) <;> (try simp only [Gr.each, Gr.tiles, Gr.cnt])
  · rw [← Int.natCast_mul, w64_of (by omega) (by omega)]
  · rw [w64_of (n := 2 * (T : Int)) (by omega) (by omega), w64_of (by omega) (by omega)]; omega
  · rw [← Int.natCast_mul, ← Int.natCast_mul, w64_nat (by omega)]
  · rw [w64_of (by omega) (by omega)]
  · rw [show ((W * H * (6 + 2 * T) : Nat) : Int) + 2 * (P : Int) = ((W * H * (6 + 2 * T) + 2 * P : Nat) : Int) by omega, w64_nat (by omega)]
noncomputable def sptV (s : Spt) : SV := .agg [iv s.k, iv s.x, iv s.y, iv s.i]
noncomputable def dsW (g : Gr) (n : Int) : SV := .tup [sptV (dsc g n), iv (dscE g n)]
noncomputable def diW (g : Gr) (n : Int) : SV := .agg [iv (dsc g n).k, iv (dsc g n).x, iv (dsc g n).y, iv (dsc g n).i, iv (dscE g n)]
noncomputable def dsV (w h t p n : Int) : SV := .tup [.agg [iv (gK w h t p n), iv (gX w h t p n), iv (gY w h t p n), iv (gI w h t p n)], iv (gE w h t p n)]
noncomputable def diV (w h t p n : Int) : SV := .agg [iv (gK w h t p n), iv (gX w h t p n), iv (gY w h t p n), iv (gI w h t p n), iv (gE w h t p n)]

theorem tmod_nat (a b : Nat) : Int.tmod (a : Int) (b : Int) = ((a % b : Nat) : Int) := by rw [Int.tmod_eq_emod_of_nonneg (by omega)]; simp
theorem tdiv_nat (a b : Nat) : Int.tdiv (a : Int) (b : Int) = ((a / b : Nat) : Int) := by rw [Int.tdiv_eq_ediv_of_nonneg (by omega)]; simp
theorem dsc_no {g : Gr} {n : Int} (h : n < 0 ∨ (g.cnt : Int) ≤ n) : dsc g n = ⟨0, 0, 0, 0⟩ ∧ dscE g n = 1 := by
  unfold dsc dscE; rw [if_pos h, if_pos h]; exact ⟨rfl, rfl⟩
theorem dsc_at {g : Gr} {n : Nat} (h : n < g.cnt) : dsc g n = dscN g n ∧ dscE g n = 0 := by
  unfold dsc dscE; rw [if_neg (by omega), if_neg (by omega)]; exact ⟨rfl, rfl⟩
theorem ds_sat {w h t p n : Int} {m : Nat} {c : Nat → Nat → DV} (hg : okG w h t p) (hn : -9223372036854775808 ≤ n ∧ n ≤ 9223372036854775807) : Sat Tryz.prog (T0 .nil 39 [gridV w h t p (.d (.ro m 1 c)), iv n]) (· = dsV w h t p n) := by
  constructor
  show Tree.sat _ _ (· = dsW (gr w h t p) n)
  rw [LDs_eq]; unfold LDs
  obtain ⟨r1, r2, r3, r4, r5⟩ := wr hg
  simp only [r1, r2, r3, r4, r5]
  have hk := hg.gr
  have hc := cnt_le hk
  obtain ⟨⟨a1, a2⟩, ⟨b1, b2⟩, ⟨c1, c2⟩, d1, d2⟩ := hg
  obtain ⟨W, rfl⟩ : ∃ k : Nat, w = k := ⟨w.toNat, by omega⟩
  obtain ⟨H, rfl⟩ : ∃ k : Nat, h = k := ⟨h.toNat, by omega⟩
  obtain ⟨T, rfl⟩ : ∃ k : Nat, t = k := ⟨t.toNat, by omega⟩
  obtain ⟨P, rfl⟩ : ∃ k : Nat, p = k := ⟨p.toNat, by omega⟩
  rw [gr_nat] at *
  generalize hgg : (⟨W, H, T, P⟩ : Gr) = g at *
  have gW : g.W = W := by rw [← hgg]
  have gH : g.H = H := by rw [← hgg]
  have gT : g.T = T := by rw [← hgg]
  have gP : g.P = P := by rw [← hgg]
  refine ⟨fun h1 => ?_, fun h1 => ?_⟩
  · simp only [Bool.or_eq_true, decide_eq_true_eq] at h1
    obtain ⟨e1, e2⟩ := dsc_no (g := g) (n := n) (by omega)
    unfold dsW; rw [e1, e2]; rfl
  simp only [Bool.or_eq_false_iff, decide_eq_false_iff_not] at h1
  obtain ⟨k, rfl⟩ : ∃ k : Nat, n = k := ⟨n.toNat, by omega⟩
  have hlt : k < g.cnt := by omega
  obtain ⟨e1, e2⟩ := dsc_at hlt
  have hcn : g.cnt = g.tiles + 2 * P := by unfold Gr.cnt; rw [gP]
  have hw1 : w64 ((k : Int) - (g.tiles : Int)) = (k : Int) - (g.tiles : Int) := w64_of (by omega) (by omega)
  rw [hw1]
  have hep := each_pos g
  have hee : g.each = 6 + 2 * T := by unfold Gr.each; rw [gT]
  unfold dsW; rw [e1, e2]; unfold dscN; rw [gP, gH, gW, gT]
  refine ⟨fun h2 => ⟨by omega, ?_⟩, fun h2 => ⟨fun h3 => ⟨by omega, ?_⟩, fun h3 => ?_⟩⟩
  · simp only [decide_eq_true_eq, ge_iff_le] at h2
    rw [if_pos (by omega), w64_of (n := (k : Int) - g.tiles - P) (by omega) (by omega)]
    have : (k : Int) - g.tiles - P = ((k - g.tiles - P : Nat) : Int) := by omega
    rw [this, tmod_nat]; rfl
  · simp only [decide_eq_true_eq, decide_eq_false_iff_not, ge_iff_le] at h2 h3
    rw [if_neg (by omega), if_pos (by omega)]
    have : (k : Int) - g.tiles = ((k - g.tiles : Nat) : Int) := by omega
    rw [this, tmod_nat]; rfl
  · simp only [decide_eq_true_eq, decide_eq_false_iff_not, ge_iff_le] at h2 h3
    rw [if_neg (by omega), if_neg (by omega)]
    have hd : k / g.each ≤ k := Nat.div_le_self _ _
    have hm := Nat.mod_lt k hep
    have hd2 : k / g.each / W ≤ k / g.each := Nat.div_le_self _ _
    rw [tdiv_nat, tmod_nat, w64_nat (n := k / g.each) (by omega), tdiv_nat, tmod_nat, w64_nat (n := k / g.each / W) (by omega), w64_of (n := 6 + (T : Int)) (by omega) (by omega)]
    generalize k % g.each = r at hm
    generalize hq : ((k / g.each % W : Nat) : Int) = x
    generalize hq : ((k / g.each / W : Nat) : Int) = y
    rw [w64_of (n := (r : Int) - 2) (by omega) (by omega), w64_of (n := (r : Int) - 2 - 4) (by omega) (by omega), w64_of (n := (r : Int) - 2 - 4 - T) (by omega) (by omega)]
    refine ⟨by omega, by omega, by omega, by omega, fun h4 => ?_, fun h4 => ⟨fun h5 => ?_, fun h5 => ⟨fun h6 => ?_, fun h6 => ⟨fun h7 => ?_, fun h7 => ?_⟩⟩⟩⟩
    all_goals simp only [decide_eq_true_eq, decide_eq_false_iff_not, ge_iff_le, beq_iff_eq, beq_eq_false_iff_ne, ne_eq] at *
    all_goals unfold tilS
    · rw [if_neg (by omega), if_neg (by omega), if_neg (by omega), if_neg (by omega)]
      have : (r : Int) - 2 - 4 - T = r - 6 - T := by omega
      rw [this]; rfl
    · rw [if_neg (by omega), if_neg (by omega), if_neg (by omega), if_pos (by omega)]
      have : (r : Int) - 2 - 4 = r - 6 := by omega
      rw [this]; rfl
    · rw [if_neg (by omega), if_neg (by omega), if_pos (by omega)]; rfl
    · rw [if_neg (by omega), if_pos (by omega)]; rfl
    · rw [if_pos (by omega)]; rfl
end Go.Proofs.YtgahnelicbddcaaGreatDoor

