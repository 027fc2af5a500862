/- Part of a proof of the given statements of this seat (SxMrRf, SxMrRg, SxMrG13): no conditions beyond those typed here. -/
import Derived.Test.YtcbjclmjkilphaaSy10
import Derived.Test.YtcbjclmjkilphaaSy11
import Derived.Test.YtcbjclmjkilphaaRows
import Derived.Test.YtcbjclmjkilphaaChecked
set_option linter.unusedVariables false
set_option linter.unusedSimpArgs false

namespace Go.Proofs.Ytcbjclmjkilphaa.Fr
open Go.Sx
set_option maxRecDepth 100000

/-! ### The law of readings -/
noncomputable def u8c (a : Nat → Int) (n : Nat) : List SV := (List.range n).map fun i => .d (.x (.int .u8 (a i)))
noncomputable def u16c (a : Nat → Int) (n : Nat) : List SV := (List.range n).map fun i => .d (.x (.int .u16 (a i)))
noncomputable def tR (m f : Nat → Int) (k : Int) : Tree SV := TQ3 .nil 13 [.agg (u8c m 16), .agg (u16c f 8), .d (.x (.int .u8 k))]
noncomputable def invR (many : Int) (m f : Nat → Int) (i : Nat) (lo hi : Int) (pn pd an ad sn sd : Nat → Int) : AS :=
  ⟨[.unk, .unk, .unk, .ok (.ptr 0 0), .ok (.ptr 1 0), .unk, .unk, .ok (bv true), .ok (iv many), .ok (.row 5 0 0 i 2), .ok (.row 6 0 0 i 2), .ok (.row 7 0 0 i 2), .ok (iv lo), .ok (iv hi), .ok (iv i)] ++ List.replicate 123 .unk,
    [some (.row 8 2 fun i j => .x (.int .u8 (m (2 * i + j)))), some (.row 8 1 fun i j => .x (.int .u16 (f i))), none, none, none, some (.row i 2 (frC pn pd)), some (.row i 2 (frC an ad)), some (.row i 2 (frC sn sd))], 8, .nil⟩
noncomputable def bodyR : Code := loopN (bodyOf Try.prog 13) 0
noncomputable def LR (m f : Nat → Int) (k : Int) : Tree SV :=
  .ite false (.ret (bv false)) (.need ((8 : Int) ≠ (0 : Int)) (.code (codeC (sub [(1 : Nat), (0 : Nat)] (tR m f k))) (codeS (sub [(1 : Nat), (0 : Nat)] (tR m f k))) (codeK (sub [(1 : Nat), (0 : Nat)] (tR m f k)))))

theorem LR_eq (m f : Nat → Int) (k : Int) : tR m f k = LR m f k := by kernel_rfl

noncomputable def BR_q1 (m : Nat → Int) (i : Nat) : Rat :=
  mdQ (w64 ((1 : Int) + w64 (m (2 * Int.toNat (↑i : Int) + 0)))) (w64 ((1 : Int) + w64 (Int.tmod (m (2 * Int.toNat (↑i : Int) + 1)) (8 : Int))))
noncomputable def BR_q2 (f : Nat → Int) (i : Nat) : Rat :=
  mdQ (w64 ((1 : Int) + Int.tmod (w64 (f (Int.toNat (↑i : Int)))) (4000 : Int))) (1000 : Int)
noncomputable def BR_q3 (m : Nat → Int) (i : Nat) : Rat :=
  ratOf (Rat.num (BR_q1 m i)) (↑(Rat.den (BR_q1 m i)) : Int)
noncomputable def BR_q4 (f : Nat → Int) (i : Nat) : Rat :=
  ratOf (Rat.num (BR_q2 f i)) (↑(Rat.den (BR_q2 f i)) : Int)
noncomputable def BR_q5 (m : Nat → Int) (f : Nat → Int) (i : Nat) : Rat :=
  BR_q3 m i * BR_q4 f i
noncomputable def BR_q6 (f : Nat → Int) : Rat :=
  mdQ (w64 ((1 : Int) + Int.tmod (w64 (f 0)) (4000 : Int))) (1000 : Int)
noncomputable def BR_q7 (f : Nat → Int) : Rat :=
  ratOf (Rat.num (BR_q6 f)) (↑(Rat.den (BR_q6 f)) : Int)
noncomputable def BR_q8 (m : Nat → Int) (f : Nat → Int) (i : Nat) : Rat :=
  BR_q3 m i * BR_q7 f
noncomputable def BR_q9 (m : Nat → Int) (i : Nat) (j : Nat) : DV :=
  DV.x (.int .u8 (m (2 * i + j)))
noncomputable def BR_q10 (f : Nat → Int) (i : Nat) (j : Nat) : DV :=
  DV.x (.int .u16 (f i))
noncomputable def BR_q11 (m : Nat → Int) (i : Nat) (pn : Nat → Int) (pd : Nat → Int) (a : Nat) (b : Nat) : DV :=
  selD (decide (a < i)) (frC pn pd (0 + a) b)
  (dsAt [DV.x (.int .i64 (Rat.num (BR_q1 m i))), DV.x (.int .i64 (↑(Rat.den (BR_q1 m i)) : Int))] (0 + (0 + (a - i)) * 2 + b))
noncomputable def BR_q12 (m : Nat → Int) (f : Nat → Int) (i : Nat) (an : Nat → Int) (ad : Nat → Int) (a : Nat) (b : Nat) : DV :=
  selD (decide (a < i)) (frC an ad (0 + a) b) (dsAt [DV.x (.int .i64 (rN (BR_q5 m f i))), DV.x (.int .i64 (rD (BR_q5 m f i)))] (0 + (0 + (a - i)) * 2 + b))
noncomputable def BR_q13 (m : Nat → Int) (f : Nat → Int) (i : Nat) (sn : Nat → Int) (sd : Nat → Int) (a : Nat) (b : Nat) : DV :=
  selD (decide (a < i)) (frC sn sd (0 + a) b) (dsAt [DV.x (.int .i64 (rN (BR_q8 m f i))), DV.x (.int .i64 (rD (BR_q8 m f i)))] (0 + (0 + (a - i)) * 2 + b))
noncomputable def BR_q14 (pn : Nat → Int) (pd : Nat → Int) (i : Nat) (j : Nat) : DV :=
  match j with
| (0 : Nat) => DV.x (.int .i64 (pn i))
| x => DV.x (.int .i64 (pd i))
noncomputable def BR_q15 (an : Nat → Int) (ad : Nat → Int) (i : Nat) (j : Nat) : DV :=
  match j with
| (0 : Nat) => DV.x (.int .i64 (an i))
| x => DV.x (.int .i64 (ad i))
noncomputable def BR_q16 (sn : Nat → Int) (sd : Nat → Int) (i : Nat) (j : Nat) : DV :=
  match j with
| (0 : Nat) => DV.x (.int .i64 (sn i))
| x => DV.x (.int .i64 (sd i))
noncomputable def BR (many : Int) (m f : Nat → Int) (i : Nat) (lo hi : Int) (pn pd an ad sn sd : Nat → Int) : Tree (Ex × AS) :=
  .ite (decide ((↑i : Int) < many))
  (.need ((0 : Int) ≤ (↑i : Int) ∧ (↑i : Int) < (8 : Int))
   (.need (Int.toNat (↑i : Int) < 8)
   (.need ((4000 : Int) ≠ (0 : Int))
   (.need ((0 : Int) ≤ (↑i : Int) ∧ (↑i : Int) < (8 : Int))
   (.need ((0 : Int) ≤ (0 : Int) ∧ (0 : Int) < (2 : Int))
   (.need (Int.toNat (↑i : Int) < 8)
   (.need ((0 : Int) ≤ (↑i : Int) ∧ (↑i : Int) < (8 : Int))
   (.need ((0 : Int) ≤ (1 : Int) ∧ (1 : Int) < (2 : Int))
   (.need (Int.toNat (↑i : Int) < 8)
   (.need ((8 : Int) ≠ (0 : Int))
   (.need (I64 (w64 ((1 : Int) + w64 (m (2 * Int.toNat (↑i : Int) + 0)))) ∧ I64 (w64 ((1 : Int) + w64 (Int.tmod (m (2 * Int.toNat (↑i : Int) + 1)) (8 : Int)))))
   (.need (0 + i ≤ i ∧ 2 ≤ List.length [iv (Rat.num (BR_q1 m i)), iv (↑(Rat.den (BR_q1 m i)) : Int)] ∧ (i + 1) * 16 ≤ 140737488355328)
   (.need (I64 (w64 ((1 : Int) + Int.tmod (w64 (f (Int.toNat (↑i : Int)))) (4000 : Int))) ∧ I64 (1000 : Int))
   (.need (VF (Rat.num (BR_q1 m i)) (↑(Rat.den (BR_q1 m i)) : Int) ∧ VF (Rat.num (BR_q2 f i)) (↑(Rat.den (BR_q2 f i)) : Int))
   (.need (0 + i ≤ i ∧ 2 ≤ List.length [iv (rN (BR_q5 m f i)), iv (rD (BR_q5 m f i))] ∧ (i + 1) * 16 ≤ 140737488355328)
   (.need ((0 : Int) ≤ (0 : Int) ∧ (0 : Int) < (8 : Int))
   (.need (0 < 8)
   (.need ((4000 : Int) ≠ (0 : Int))
   (.need (I64 (w64 ((1 : Int) + Int.tmod (w64 (f 0)) (4000 : Int))) ∧ I64 (1000 : Int))
   (.need (VF (Rat.num (BR_q1 m i)) (↑(Rat.den (BR_q1 m i)) : Int) ∧ VF (Rat.num (BR_q6 f)) (↑(Rat.den (BR_q6 f)) : Int))
   (.need (0 + i ≤ i ∧ 2 ≤ List.length [iv (rN (BR_q8 m f i)), iv (rD (BR_q8 m f i))] ∧ (i + 1) * 16 ≤ 140737488355328)
   (.ret
   (.normal,
   {
   tm :=
   [.unk, .unk, .unk, .ok (SV.ptr 0 0), .ok (SV.ptr 1 0), .unk, .unk, .ok (bv true), .ok (iv many),
   .ok (SV.row 5 0 0 (i + 1) 2), .ok (SV.row 6 0 0 (i + 1) 2),
   .ok (SV.row 7 0 0 (i + 1) 2),
   .ok (iv (if w64 ((1 : Int) + Int.tmod (w64 (f (Int.toNat (↑i : Int)))) (4000 : Int)) < lo then w64 ((1 : Int) + Int.tmod (w64 (f (Int.toNat (↑i : Int)))) (4000 : Int)) else lo)),
   .ok (iv (if w64 ((1 : Int) + Int.tmod (w64 (f (Int.toNat (↑i : Int)))) (4000 : Int)) > hi then w64 ((1 : Int) + Int.tmod (w64 (f (Int.toNat (↑i : Int)))) (4000 : Int)) else hi)),
   .ok (iv (w64 ((↑i : Int) + (1 : Int)))), .unk, .unk, .unk, .unk, .unk, .unk, .unk, .unk, .unk, .unk, .unk, .unk, .unk, .unk, .unk, .unk, .unk, .unk,
   .unk, .unk, .unk, .unk, .unk, .unk, .unk, .unk, .unk, .unk, .unk, .unk, .unk, .unk, .unk, .unk, .unk, .unk, .unk, .unk, .unk, .unk, .unk,
   .unk, .unk, .unk, .unk, .unk, .unk, .unk, .unk, .unk, .unk, .unk, .unk, .unk, .unk, .unk, .unk, .unk, .unk, .unk, .unk, .unk, .unk, .unk,
   .unk, .unk, .unk, .unk, .unk, .unk, .unk, .unk, .unk, .unk, .unk, .unk, .unk, .unk, .unk, .unk, .unk, .unk, .unk, .unk, .unk, .unk, .unk,
   .unk, .unk, .unk, .unk, .unk, .unk, .unk, .unk, .unk, .unk, .unk, .unk, .unk, .unk, .unk, .unk, .unk, .unk, .unk, .unk, .unk, .unk, .unk,
   .unk, .unk, .unk, .unk, .unk, .unk, .unk, .unk, .unk, .unk, .unk, .unk, .unk],
   hp :=
   [some (.row 8 2 (BR_q9 m)), some (.row 8 1 (BR_q10 f)), none, none, none,
   some (.row (i + 1) 2 (BR_q11 m i pn pd)), some (.row (i + 1) 2 (BR_q12 m f i an ad)),
   some (.row (i + 1) 2 (BR_q13 m f i sn sd))],
   next := 8, hint := .nil })))))))))))))))))))))))
  (.ret
   (.exit 0,
   {
   tm :=
   [.unk, .unk, .unk, .ok (SV.ptr 0 0), .ok (SV.ptr 1 0), .unk, .unk, .ok (bv true), .ok (iv many), .ok (SV.row 5 0 0 i 2),
   .ok (SV.row 6 0 0 i 2), .ok (SV.row 7 0 0 i 2), .ok (iv lo), .ok (iv hi), .ok (iv (↑i : Int)), .unk, .unk, .unk, .unk, .unk,
   .unk, .unk, .unk, .unk, .unk, .unk, .unk, .unk, .unk, .unk, .unk, .unk, .unk, .unk, .unk, .unk, .unk, .unk, .unk, .unk, .unk, .unk, .unk, .unk, .unk, .unk, .unk, .unk,
   .unk, .unk, .unk, .unk, .unk, .unk, .unk, .unk, .unk, .unk, .unk, .unk, .unk, .unk, .unk, .unk, .unk, .unk, .unk, .unk, .unk, .unk, .unk, .unk, .unk, .unk, .unk, .unk,
   .unk, .unk, .unk, .unk, .unk, .unk, .unk, .unk, .unk, .unk, .unk, .unk, .unk, .unk, .unk, .unk, .unk, .unk, .unk, .unk, .unk, .unk, .unk, .unk, .unk, .unk, .unk, .unk,
   .unk, .unk, .unk, .unk, .unk, .unk, .unk, .unk, .unk, .unk, .unk, .unk, .unk, .unk, .unk, .unk, .unk, .unk, .unk, .unk, .unk, .unk, .unk, .unk, .unk, .unk, .unk, .unk,
   .unk, .unk, .unk, .unk, .unk, .unk],
   hp :=
   [some (.row 8 2 (BR_q9 m)), some (.row 8 1 (BR_q10 f)), none, none, none, some (.row i 2 (BR_q14 pn pd)),
   some (.row i 2 (BR_q15 an ad)), some (.row i 2 (BR_q16 sn sd))],
   next := 8, hint := .nil }))

theorem BR_eq (many : Int) (m f : Nat → Int) (i : Nat) (lo hi : Int) (pn pd an ad sn sd : Nat → Int) : cutT 5 [(.slot 9, 5), (.slot 10, 6), (.slot 11, 7)] [3, 4, 7, 8, 9, 10, 11, 12, 13, 14] [] 8 .nil (exec Try.prog CQ3 DQ3 300 bodyR (invR many m f i lo hi pn pd an ad sn sd)) = BR many m f i lo hi pn pd an ad sn sd := by kernel_rfl

noncomputable def KR_q1 (pn : Nat → Int) (pd : Nat → Int) (i : Nat) (j : Nat) : DV :=
  frC pn pd (0 + i) j
noncomputable def KR_q2 (an : Nat → Int) (ad : Nat → Int) (i : Nat) (j : Nat) : DV :=
  frC an ad (0 + i) j
noncomputable def KR_q3 (pn : Nat → Int) (i : Nat) : Int :=
  pn (0 + i)
noncomputable def KR_q4 (pd : Nat → Int) (i : Nat) : Int :=
  pd (0 + i)
noncomputable def KR_q5 (an : Nat → Int) (i : Nat) : Int :=
  an (0 + i)
noncomputable def KR_q6 (ad : Nat → Int) (i : Nat) : Int :=
  ad (0 + i)
noncomputable def KR_q7 (sn : Nat → Int) (sd : Nat → Int) (i : Nat) (j : Nat) : DV :=
  frC sn sd (0 + i) j
noncomputable def KR_q8 (sn : Nat → Int) (i : Nat) : Int :=
  sn (0 + i)
noncomputable def KR_q9 (sd : Nat → Int) (i : Nat) : Int :=
  sd (0 + i)
noncomputable def KR_q10 (i : Nat) : Bool :=
  (if rdBad i i = true then (1 : Int) else (0 : Int)) != (0 : Int)
noncomputable def KR_q11 (i : Nat) (lo : Int) (hi : Int) (pn : Nat → Int) (pd : Nat → Int) (an : Nat → Int) (ad : Nat → Int) : Bool :=
  KR_q10 i || decide ((if rdBad i i = true then (0 : Int) else rdV i (KR_q3 pn) (KR_q4 pd) (KR_q5 an) (KR_q6 ad)) < lo) ||
   decide ((if rdBad i i = true then (0 : Int) else rdV i (KR_q3 pn) (KR_q4 pd) (KR_q5 an) (KR_q6 ad)) > hi) ||
  KR_q10 i
noncomputable def KR_q12 (an : Nat → Int) (ad : Nat → Int) (i : Nat) (j : Nat) : DV :=
  frC an ad (1 + i) j
noncomputable def KR_q13 (an : Nat → Int) (i : Nat) : Int :=
  an (1 + i)
noncomputable def KR_q14 (ad : Nat → Int) (i : Nat) : Int :=
  ad (1 + i)
noncomputable def KR (m f : Nat → Int) (k many : Int) (i : Nat) (lo hi : Int) (pn pd an ad sn sd : Nat → Int) : Tree SV :=
  .need (0 + i ≤ i)
  (.need (0 + i ≤ i)
   (.need (FrC i (KR_q1 pn pd) ∧ FrC i (KR_q2 an ad) ∧ (rdBad i i = false → GdR i (KR_q3 pn) (KR_q4 pd) (KR_q5 an) (KR_q6 ad)))
   (.need (0 + i ≤ i)
   (.need (0 + i ≤ i)
   (.need (FrC i (KR_q1 pn pd) ∧ FrC i (KR_q7 sn sd) ∧ (rdBad i i = false → GdR i (KR_q3 pn) (KR_q4 pd) (KR_q8 sn) (KR_q9 sd)))
   (.need (KR_q11 i lo hi pn pd an ad = false → (0 : Int) ≤ (0 : Int) ∧ (0 : Int) < (8 : Int))
   (.need (KR_q11 i lo hi pn pd an ad = false → 0 < 8)
   (.need (KR_q11 i lo hi pn pd an ad = false → (4000 : Int) ≠ (0 : Int))
   (.ite
   (KR_q11 i lo hi pn pd an ad ||
   (if rdBad i i = true then (0 : Int) else rdV i (KR_q3 pn) (KR_q4 pd) (KR_q8 sn) (KR_q9 sd)) != w64 ((1 : Int) + Int.tmod (w64 (f 0)) (4000 : Int)))
   (.ret (bv false))
   (.need (True ∧ (0 : Int) ≤ (1 : Int) ∧ 1 ≤ i)
   (.need (0 + i ≤ i)
   (.need (1 + (i - 1) ≤ i)
   (.need
   (FrC i (KR_q1 pn pd) ∧
   FrC (i - 1) (KR_q12 an ad) ∧ (rdBad i (i - 1) = false → GdR i (KR_q3 pn) (KR_q4 pd) (KR_q13 an) (KR_q14 ad)))
   (.need
   ((FrC 0 fun x x_1 => DV.x (.tuple { toList := [] })) ∧
   (FrC 0 fun x x_1 => DV.x (.tuple { toList := [] })) ∧ (true = false → GdR 0 (fun i => (0 : Int)) (fun i => (0 : Int)) (fun i => (0 : Int)) fun i => (0 : Int)))
   (.ret (bv ((if rdBad i (i - 1) = true then (1 : Int) else (0 : Int)) == (1 : Int) && true && true)))))))))))))))))

theorem KR_eq (m f : Nat → Int) (k many : Int) (i : Nat) (lo hi : Int) (pn pd an ad sn sd : Nat → Int) : codeK (sub [1, 0] (tR m f k)) (.exit 0) (invR many m f i lo hi pn pd an ad sn sd) = KR m f k many i lo hi pn pd an ad sn sd := by kernel_rfl


end Go.Proofs.Ytcbjclmjkilphaa.Fr

namespace Go.Proofs.Ytcbjclmjkilphaa.Fr
open Go.Sx
set_option maxRecDepth 100000

/-! ### The law of readings: its walk -/
def IntsK (k : IntKind) (c : Nat) (ds : List DV) : Prop := ∃ ks : List Int, ks.length = c ∧ ds = ks.map (fun i => DV.x (.int k i)) ∧ ∀ x ∈ ks, k.min ≤ x ∧ x ≤ k.max
theorem wf_intK {k : IntKind} {i : Int} (h : (Lit.int k i).wf = true) : k.min ≤ i ∧ i ≤ k.max := by
  simp only [Lit.wf, Bool.and_eq_true, decide_eq_true_eq] at h; exact h
theorem okT_intK {P : Program} {n : Nat} {t : TypeId} {k : IntKind} {ds : List DV} (hu : P.underlying t = some (.int k)) (h : okT P (n + 1) t ds) : IntsK k 1 ds := by
  unfold okT at h
  rw [hu] at h
  obtain ⟨i, hi, rfl⟩ := h
  exact ⟨[i], rfl, rfl, fun x hx => by rw [List.mem_singleton] at hx; subst hx; exact wf_intK hi⟩
theorem okAs_intK {k : IntKind} {c : Nat} {g : List DV → Prop} (hg : ∀ ds, g ds → IntsK k c ds) : ∀ {m : Nat} {ds : List DV}, okAs g m ds → IntsK k (m * c) ds
  | 0, ds, h => ⟨[], by simp, h, by simp⟩
  | m + 1, ds, h => by
    obtain ⟨a, b, rfl, h1, h2⟩ := h
    obtain ⟨ks, e1, rfl, e3⟩ := hg _ h1
    obtain ⟨js, f1, rfl, f3⟩ := okAs_intK hg h2
    refine ⟨ks ++ js, by rw [List.length_append, e1, f1, Nat.add_mul]; omega, by rw [List.map_append], fun x hx => ?_⟩
    rcases List.mem_append.1 hx with hx | hx
    · exact e3 x hx
    · exact f3 x hx
theorem okT_arrK {P : Program} {n m c : Nat} {t e : TypeId} {k : IntKind} {ds : List DV} (hu : P.underlying t = some (.array m e)) (he : ∀ ds, okT P n e ds → IntsK k c ds) (h : okT P (n + 1) t ds) : IntsK k (m * c) ds := by
  unfold okT at h
  rw [hu] at h
  exact okAs_intK he h
theorem ints_map {k : IntKind} {n : Nat} (ks : List Int) (h : ks.length = n) : (ks.map (fun i => DV.x (.int k i))).map SV.d = (List.range n).map fun i => .d (.x (.int k (ks.getD i 0))) := by
  subst h
  refine List.ext_getElem (by simp) fun i h1 h2 => ?_
  simp at h1 h2
  simp [h1]
theorem getD_bd {k : IntKind} {ks : List Int} (h : ∀ x ∈ ks, k.min ≤ x ∧ x ≤ k.max) (h0 : k.min ≤ 0 ∧ 0 ≤ k.max) (i : Nat) : k.min ≤ ks.getD i 0 ∧ ks.getD i 0 ≤ k.max := by
  rcases Nat.lt_or_ge i ks.length with h1 | h1
  · have e : ks.getD i 0 = ks[i] := by simp [h1]
    rw [e]; exact h _ (List.getElem_mem h1)
  · have e : ks.getD i 0 = 0 := by simp [h1]
    rw [e]; exact h0

section
variable {m f : Nat → Int}
def pM (m : Nat → Int) (i : Nat) : Int := 1 + m (2 * i)
def qM (m : Nat → Int) (i : Nat) : Int := 1 + m (2 * i + 1) % 8
def cM (f : Nat → Int) (i : Nat) : Int := 1 + f i % 4000
structure MF (m f : Nat → Int) : Prop where
  m : ∀ i, 0 ≤ m i ∧ m i < 256
  f : ∀ i, 0 ≤ f i ∧ f i < 65536
theorem rdI (g : MF m f) {n : Nat} (hn : 1 ≤ n ∧ n ≤ 8) : RdI n (pM m) (qM m) (cM f) :=
  ⟨hn, fun i => by have := g.m (2 * i); unfold pM; omega, fun i => by have := g.m (2 * i + 1); unfold qM; omega, fun i => by have := g.f i; unfold cM; omega⟩
theorem rdI0 (g : MF m f) {n : Nat} (hn : 1 ≤ n ∧ n ≤ 8) : RdI n (pM m) (qM m) (fun _ => cM f 0) :=
  ⟨hn, (rdI g hn).p, (rdI g hn).q, fun i => by have := g.f 0; unfold cM; omega⟩
noncomputable abbrev dMn (m : Nat → Int) (i : Nat) : Int := (dI (pM m) (qM m) i).num
noncomputable abbrev dMd (m : Nat → Int) (i : Nat) : Int := (dI (pM m) (qM m) i).den
noncomputable abbrev aMn (m f : Nat → Int) (i : Nat) : Int := (aI (pM m) (qM m) (cM f) i).num
noncomputable abbrev aMd (m f : Nat → Int) (i : Nat) : Int := (aI (pM m) (qM m) (cM f) i).den
noncomputable abbrev sMn (m f : Nat → Int) (i : Nat) : Int := (aI (pM m) (qM m) (fun _ => cM f 0) i).num
noncomputable abbrev sMd (m f : Nat → Int) (i : Nat) : Int := (aI (pM m) (qM m) (fun _ => cM f 0) i).den
theorem row_snoc {n : Nat} {a b : Nat → Int} {x y : Int} {c : Nat → Nat → DV} (hx : x = a n) (hy : y = b n)
    (hc : ∀ i j, c i j = selD (decide (i < n)) (frC a b (0 + i) j) (dsAt [.x (.int .i64 x), .x (.int .i64 y)] (0 + (0 + (i - n)) * 2 + j))) : ∀ i j, i < n + 1 → j < 2 → c i j = frC a b i j := by
  intro i j hi hj
  rw [hc, selD_eq]
  by_cases h : i < n
  · rw [decide_eq_true h, Nat.zero_add]; rfl
  · obtain rfl : i = n := by omega
    rw [decide_eq_false h, hx, hy]
    match j, hj with
    | 0, _ => simp [dsAt, frC]
    | 1, _ => simp [dsAt, frC]
theorem rdBad_in {n : Nat} (hn : 1 ≤ n ∧ n ≤ 8) : rdBad n n = false := by
  unfold rdBad
  simp only [bne_self_eq_false, Bool.false_or, Bool.or_eq_false_iff, decide_eq_false_iff_not]
  omega
theorem rdBad_odd {n : Nat} (hn : 1 ≤ n) : rdBad n (n - 1) = true := by
  unfold rdBad
  have : ((n : Int) != ((n - 1 : Nat) : Int)) = true := by rw [bne_iff_ne]; omega
  rw [this]; rfl
theorem law13 (g : MF m f) {k : Int} (hk : 0 ≤ k ∧ k < 256) : Sat Try.prog (tR m f k) (· = bv true) := by
  constructor
  rw [LR_eq]; unfold LR
  obtain ⟨many, hmany, hn⟩ : ∃ n : Nat, w64 ((1 : Int) + w64 (Int.tmod k 8)) = n ∧ 1 ≤ n ∧ n ≤ 8 := by
    rw [Int.tmod_eq_emod_of_nonneg hk.1, w64_of (n := k % 8) (by omega) (by omega), w64_of (by omega) (by omega)]
    exact ⟨(1 + k % 8).toNat, by omega, by omega, by omega⟩
  refine ⟨fun h => (by cases h), fun _ => ⟨by decide, ?_⟩⟩
  refine code_satS CQ3_ok DQ3_ok (n := 300) (n0 := 5) (nx := 8) (roots := [(.slot 9, 5), (.slot 10, 6), (.slot 11, 7)]) (keep := [3, 4, 7, 8, 9, 10, 11, 12, 13, 14]) (drop := []) (h := .nil) (c := codeC (sub [1, 0] (tR m f k))) (st := codeS (sub [1, 0] (tR m f k))) (k := codeK (sub [1, 0] (tR m f k))) (body := bodyR) (by kernel_rfl) (by kernel_rfl)
    (fun q s => ∃ (i : Nat) (lo hi : Int), q = many - i ∧ i ≤ many ∧ (∀ j, j < i → lo ≤ cM f j ∧ cM f j ≤ hi) ∧ s = invR many m f i lo hi (dMn m) (dMd m) (aMn m f) (aMd m f) (sMn m f) (sMd m f))
    (fun e s => e = .exit 0 ∧ ∃ (lo hi : Int), (∀ j, j < many → lo ≤ cM f j ∧ cM f j ≤ hi) ∧ s = invR many m f many lo hi (dMn m) (dMd m) (aMn m f) (aMd m f) (sMn m f) (sMd m f))
    ⟨_, _, ⟨0, 4000, 1, rfl, by omega, fun j hj => by omega, rfl⟩, ?_⟩ ?_ ?_
  · refine (entA_sound (s' := ⟨[.unk, .unk, .unk, .ok (.ptr 0 0), .ok (.ptr 1 0), .unk, .unk, .ok (bv true), .ok (iv (w64 ((1 : Int) + w64 (Int.tmod k 8)))), .ok (.row 5 0 0 0 2), .ok (.row 6 0 0 0 2), .ok (.row 7 0 0 0 2), .ok (iv 4000), .ok (iv 1), .ok (iv 0)] ++ List.replicate 123 .unk,
      [some (.cells (u8c m 16)), some (.cells (u16c f 8)), none, none, none, some (.cells []), some (.cells []), some (.cells [])], 8, .nil⟩) (roots := [(.slot 9, 5), (.slot 10, 6), (.slot 11, 7)]) (keep := [3, 4, 7, 8, 9, 10, 11, 12, 13, 14]) (drop := []) (nx := 8) (h := .nil) (by kernel_rfl)).trans ?_
    rw [hmany]
    refine gc_hp rfl rfl ⟨.inr ⟨_, _, rfl, rfl, .cells (by simp [u8c]) fun i j hi hj => ?_⟩, .inr ⟨_, _, rfl, rfl, .cells (by simp [u16c]) fun i j hi hj => ?_⟩, .inl rfl, .inl rfl, .inl rfl, .inr ⟨_, _, rfl, rfl, .cells rfl fun i j hi => by omega⟩, .inr ⟨_, _, rfl, rfl, .cells rfl fun i j hi => by omega⟩, .inr ⟨_, _, rfl, rfl, .cells rfl fun i j hi => by omega⟩, trivial⟩
    · have h1 : i * 2 + j < 16 := by omega
      unfold u8c
      simp [h1, Nat.mul_comm]
    · obtain rfl : j = 0 := by omega
      unfold u16c
      simp [hi]
  · rintro q s ⟨i, lo, hi, rfl, hi2, hb, rfl⟩
    refine Sat.of_eq (BR_eq _ m f i lo hi _ _ _ _ _ _) ?_
    constructor
    unfold BR
    simp only [Int.toNat_natCast]
    refine ⟨fun hc => ?_, fun hc => ?_⟩
    · have hc : i < many := by simp only [decide_eq_true_eq] at hc; omega
      have g0 := g.m (2 * i)
      have g1 := g.m (2 * i + 1)
      have f0 := g.f i
      have f1 := g.f 0
      have e1 : w64 ((1 : Int) + w64 (m (2 * i + 0))) = pM m i := by rw [Nat.add_zero, w64_of (n := m (2 * i)) (by omega) (by omega), w64_of (by omega) (by omega)]; rfl
      have e2 : w64 ((1 : Int) + w64 (Int.tmod (m (2 * i + 1)) 8)) = qM m i := by
        rw [Int.tmod_eq_emod_of_nonneg g1.1, w64_of (n := m (2 * i + 1) % 8) (by omega) (by omega), w64_of (by omega) (by omega)]; rfl
      have e3 : w64 ((1 : Int) + Int.tmod (w64 (f i)) 4000) = cM f i := by
        rw [w64_of (n := f i) (by omega) (by omega), Int.tmod_eq_emod_of_nonneg f0.1, w64_of (by omega) (by omega)]; rfl
      have e4 : w64 ((1 : Int) + Int.tmod (w64 (f 0)) 4000) = cM f 0 := by
        rw [w64_of (n := f 0) (by omega) (by omega), Int.tmod_eq_emod_of_nonneg f1.1, w64_of (by omega) (by omega)]; rfl
      have q1 : BR_q1 m i = dI (pM m) (qM m) i := by unfold BR_q1; rw [Int.toNat_natCast, e1, e2]; rfl
      have q2 : BR_q2 f i = mdQ (cM f i) 1000 := by unfold BR_q2; rw [Int.toNat_natCast, e3]
      have q6 : BR_q6 f = mdQ (cM f 0) 1000 := by unfold BR_q6; rw [e4]
      have q5 : BR_q5 m f i = aI (pM m) (qM m) (cM f) i := by unfold BR_q5 BR_q3 BR_q4; rw [ratOf_rat, ratOf_rat, q1, q2]; rfl
      have q8 : BR_q8 m f i = aI (pM m) (qM m) (fun _ => cM f 0) i := by unfold BR_q8 BR_q3 BR_q7; rw [ratOf_rat, ratOf_rat, q1, q6]; rfl
      have gI := rdI g hn
      have gJ := rdI0 g hn
      have v1 : VF (dI (pM m) (qM m) i).num (dI (pM m) (qM m) i).den := VF.of (dI_fits i)
      have n5 := rN_of (aI_fits gI i)
      have d5 := rD_of (aI_fits gI i)
      have n8 := rN_of (aI_fits gJ i)
      have d8 := rD_of (aI_fits gJ i)
      have bp : I64 (pM m i) := by unfold pM I64; omega
      have bq : I64 (qM m i) := by unfold qM I64; omega
      have bc : I64 (cM f i) := by unfold cM I64; omega
      have bc0 : I64 (cM f 0) := by unfold cM I64; omega
      rw [e1, e2, e3, e4, q1, q2, q5, q6, q8]
      have v2 : ∀ x y : Int, VF (mdQ x y).num (mdQ x y).den := fun x y => VF.of (mdQ_fits x y)
      refine ⟨by omega, by omega, by decide, by omega, by decide, by omega, by omega, by decide, by omega, by decide, ⟨bp, bq⟩, ⟨by omega, by simp, by omega⟩, ⟨bc, by unfold I64; omega⟩, ⟨v1, v2 _ _⟩, ⟨by omega, by simp, by omega⟩, by decide, by decide, by decide, ⟨bc0, by unfold I64; omega⟩, ⟨v1, v2 _ _⟩, ⟨by omega, by simp, by omega⟩, ?_⟩
      refine ⟨many - (i + 1), _, by omega, ⟨i + 1, if cM f i < lo then cM f i else lo, if cM f i > hi then cM f i else hi, rfl, by omega, fun j hj => ?_, rfl⟩, ?_⟩
      · rcases Nat.lt_or_ge j i with h | h
        · have := hb j h
          split <;> split <;> omega
        · obtain rfl : j = i := by omega
          split <;> split <;> omega
      · rw [w64_of (n := (i : Int) + 1) (by omega) (by omega)]
        refine gc_hp rfl rfl ⟨.inr ⟨_, _, rfl, rfl, .refl _⟩, .inr ⟨_, _, rfl, rfl, .refl _⟩, .inl rfl, .inl rfl, .inl rfl, .inr ⟨_, _, rfl, rfl, .row ?_⟩, .inr ⟨_, _, rfl, rfl, .row ?_⟩, .inr ⟨_, _, rfl, rfl, .row ?_⟩, trivial⟩
        · exact row_snoc (x := (BR_q1 m i).num) (y := (BR_q1 m i).den) (by rw [q1]) (by rw [q1]) fun i j => rfl
        · exact row_snoc (x := rN (BR_q5 m f i)) (y := rD (BR_q5 m f i)) (by rw [q5, n5]) (by rw [q5, d5]) fun i j => rfl
        · exact row_snoc (x := rN (BR_q8 m f i)) (y := rD (BR_q8 m f i)) (by rw [q8, n8]) (by rw [q8, d8]) fun i j => rfl
    · have hc : i = many := by simp only [decide_eq_false_iff_not] at hc; omega
      subst hc
      exact ⟨_, ⟨rfl, lo, hi, hb, rfl⟩, Gc.refl _ _⟩
  · rintro e s ⟨rfl, lo, hi, hb, rfl⟩
    refine Sat.of_eq (KR_eq m f k _ _ lo hi _ _ _ _ _ _) ⟨?_⟩
    unfold KR
    have f1 := g.f 0
    have e4 : w64 ((1 : Int) + Int.tmod (w64 (f 0)) 4000) = cM f 0 := by
      rw [w64_of (n := f 0) (by omega) (by omega), Int.tmod_eq_emod_of_nonneg f1.1, w64_of (by omega) (by omega)]; rfl
    have z1 : ∀ h : Nat → Int, (fun i => h (0 + i)) = h := fun h => by funext i; rw [Nat.zero_add]
    have x1 : ∀ a b : Nat → Int, KR_q1 a b = frC a b := fun a b => by funext i j; unfold KR_q1; rw [Nat.zero_add]
    have x2 : ∀ a b : Nat → Int, KR_q2 a b = frC a b := fun a b => by funext i j; unfold KR_q2; rw [Nat.zero_add]
    have x7 : ∀ a b : Nat → Int, KR_q7 a b = frC a b := fun a b => by funext i j; unfold KR_q7; rw [Nat.zero_add]
    have x3 : ∀ h : Nat → Int, KR_q3 h = h := z1
    have x4 : ∀ h : Nat → Int, KR_q4 h = h := z1
    have x5 : ∀ h : Nat → Int, KR_q5 h = h := z1
    have x6 : ∀ h : Nat → Int, KR_q6 h = h := z1
    have x8 : ∀ h : Nat → Int, KR_q8 h = h := z1
    have x9 : ∀ h : Nat → Int, KR_q9 h = h := z1
    have gI := rdI g hn
    have gJ := rdI0 g hn
    have r1 := rdV_in gI (lo := lo) (hi := hi) (fun i hi => hb i hi)
    have r2 := rdV_in gJ (lo := cM f 0) (hi := cM f 0) (fun i hi => ⟨Int.le_refl _, Int.le_refl _⟩)
    have q11 : KR_q11 many lo hi (dMn m) (dMd m) (aMn m f) (aMd m f) = false := by
      unfold KR_q11 KR_q10
      rw [rdBad_in hn, x3, x4, x5, x6]
      simp only [Bool.or_eq_false_iff, decide_eq_false_iff_not]
      exact ⟨⟨⟨rfl, by have := r1.1; simp; omega⟩, by have := r1.2; simp; omega⟩, rfl⟩
    have c2 : ((if rdBad many many = true then (0 : Int) else rdV many (dMn m) (dMd m) (sMn m f) (sMd m f)) != cM f 0) = false := by
      rw [rdBad_in hn, if_neg (by simp), bne_eq_false_iff_eq]; exact Int.le_antisymm r2.2 r2.1
    rw [x1, x2, x7, x3, x4, x5, x6, x8, x9, e4, q11, rdBad_odd hn.1, c2]
    have fr : ∀ a b : Nat → Int, FrC many (frC a b) := fun a b => frC_C a b (by omega)
    refine ⟨by omega, by omega, ⟨fr _ _, fr _ _, fun _ => gdR gI⟩, by omega, by omega, ⟨fr _ _, fr _ _, fun _ => gdR gJ⟩, fun _ => by decide, fun _ => by decide, fun _ => by decide, fun h => (by cases h), fun _ => ⟨⟨trivial, by decide, hn.1⟩, by omega, by omega, ⟨fr _ _, ⟨by omega, fun i hi => ⟨rfl, rfl⟩⟩, fun h => (by cases h)⟩, ⟨⟨by omega, fun i hi => by omega⟩, ⟨by omega, fun i hi => by omega⟩, fun h => (by cases h)⟩, rfl⟩⟩
end
theorem reads_ok : ∃ c : Ctr, CtrOK Try.prog 13 c ∧ ∀ ss, okArgs Try.prog 6 [88, 89, 5] ss → (c ss).ev (bv true) := by
  refine ⟨fun ss => .need (okArgs Try.prog 6 [88, 89, 5] ss) (.ret (bv true)), ?_, fun ss hs => ⟨hs, rfl⟩⟩
  refine ctrOK_of CQ3_ok DQ3_ok (fn := fnOf Try.prog 13) (body := bodyOf Try.prog 13) (by kernel_rfl) (by kernel_rfl) fun ss r hr => ?_
  obtain ⟨h, rfl⟩ := hr
  obtain ⟨ds, _, rfl, h1, ds2, _, rfl, h2, ds3, _, rfl, h3, rfl⟩ := h
  have u8 : Try.prog.underlying 5 = some (.int .u8) := by kernel_rfl
  obtain ⟨ks, l1, rfl, b1⟩ := okT_arrK (P := Try.prog) (n := 5) (m := 8) (c := 2) (t := 88) (e := 74) (k := .u8) (by kernel_rfl) (fun ds hd => okT_arrK (n := 4) (m := 2) (c := 1) (e := 5) (by kernel_rfl) (fun ds hd => okT_intK u8 hd) hd) h1
  obtain ⟨js, l2, rfl, b2⟩ := okT_arrK (P := Try.prog) (n := 5) (m := 8) (c := 1) (t := 89) (e := 52) (k := .u16) (by kernel_rfl) (fun ds hd => okT_intK (by kernel_rfl) hd) h2
  obtain ⟨xs, l3, rfl, b3⟩ := okT_intK (P := Try.prog) (n := 5) u8 h3
  obtain ⟨x, rfl⟩ : ∃ x, xs = [x] := List.length_eq_one_iff.1 l3
  have s1 : svT Try.prog 88 (ks.map (fun i => DV.x (.int .u8 i))) = .agg (u8c (fun i => ks.getD i 0) 16) := by
    show SV.agg _ = _
    rw [ints_map ks l1]; rfl
  have s2 : svT Try.prog 89 (js.map (fun i => DV.x (.int .u16 i))) = .agg (u16c (fun i => js.getD i 0) 8) := by
    show SV.agg _ = _
    rw [ints_map js l2]; rfl
  rw [s1, s2]
  have m8 : IntKind.u8.min = 0 ∧ IntKind.u8.max = 255 := ⟨rfl, rfl⟩
  have m16 : IntKind.u16.min = 0 ∧ IntKind.u16.max = 65535 := ⟨rfl, rfl⟩
  have hx := b3 x (List.mem_singleton.2 rfl)
  have := law13 (m := fun i => ks.getD i 0) (f := fun i => js.getD i 0) (k := x) ⟨fun i => by have := getD_bd b1 (by omega) i; omega, fun i => by have := getD_bd b2 (by omega) i; omega⟩ (by omega)
  exact ⟨300, .nil, this.ok⟩
end Go.Proofs.Ytcbjclmjkilphaa.Fr
namespace Go.Proofs.Ytcbjclmjkilphaa
open Go.Sx
theorem driftReads_ok : ∃ c : Ctr, CtrOK Try.prog 13 c ∧ ∀ ss, okArgs Try.prog 6 [88, 89, 5] ss → (c ss).ev (bv true) := Fr.reads_ok
end Go.Proofs.Ytcbjclmjkilphaa

namespace Go.Proofs.Ytcbjclmjkilphaa
open Go.ChangeShapes Go.WideShapes Go.ChangeAt Go.RowKit Go.Sx

theorem own : ownKnob Try.prog.godebug = none := by kernel_rfl
theorem laidOut : laidOutB Try.prog = true := by kernel_rfl

set_option maxRecDepth 100000 in
theorem lifted (os : Os) (started : os.Started) (H : Type) (enc : TypeId × Value → H) :
    ReturnsInHanded {} Try.checked os 13 .any (Rows.driftReadsSpec.pre6 enc Try.prog Try.f13 Rows.driftReadsRow.domain false) (Rows.driftReadsSpec.post enc Try.prog Try.f13 false true false false) := by
  refine returnsInHanded_of_change (C := Try.checked) own started (by kernel_rfl) Try.func13
    (ChangeSpec.witness6 (enc := enc) (C := Try.checked) false ⟨#[], #[.agg #[.int .u8 0, .int .u8 0, .int .u8 0, .int .u8 0, .int .u8 0, .int .u8 0, .int .u8 0, .int .u8 0, .int .u8 0, .int .u8 0, .int .u8 0, .int .u8 0, .int .u8 0, .int .u8 0, .int .u8 0, .int .u8 0], .agg #[.int .u16 0, .int .u16 0, .int .u16 0, .int .u16 0, .int .u16 0, .int .u16 0, .int .u16 0, .int .u16 0], .int .u8 0], []⟩ 8 (by kernel_rfl) (by kernel_rfl) (by kernel_rfl) (by kernel_rfl)) ?_
  intro W base args ds gs before hval0 hW hcnd _
  have hval : ∀ (j : Nat) t v, Try.f13.params[j]? = some t → args[j]? = some v → Value.okWide Try.prog W .any base t v := hval0
  have hW' := hW
  obtain ⟨p, q, hA0, hV, rfl, hfz, hnd⟩ := hW
  have hA : DataW.TrodAll enc Try.prog W 0 (fun _ => true) true Try.f13.params.toList args.toList ds p := hA0
  rw [Try.params13] at hA hval
  obtain ⟨rfl, rfl⟩ := trodVars_none hV
  obtain ⟨v0, vs0, d0, ds0, p0, q0, hargs, rfl, e0, h0, r0⟩ := trodAll_cons hA
  obtain ⟨v1, vs1, d1, ds1, p1, q1, e1_1, rfl, e2_1, h1, r1⟩ := trodAll_cons r0
  obtain ⟨v2, vs2, d2, ds2, p2, q2, e1_2, rfl, e2_2, h2, r2⟩ := trodAll_cons r1
  obtain ⟨e3, rfl, e4⟩ := trodAll_nil r2
  obtain ⟨c, hc, hev⟩ := driftReads_ok
  have hlt := trodAll_lt hA
  obtain ⟨ss, o1, o2, o3⟩ := open_args (F := fun b => ∃ x ∈ p, x.block = b) (n := 6) (r := .any) (base := base) (by kernel_rfl) hA (fun j t v a b => hval j t v (by simpa using a) (by simpa using b)) (fun q hq => ⟨q, hq, rfl⟩)
  refine (law_of hc (F := fun b => ∃ x ∈ p, x.block = b) (fun b ⟨x, hx, e⟩ => e ▸ hlt x hx) (ss := ss) ⟨by simpa using o2, fun i hi => by simpa [List.getD, Array.getD_eq_getD_getElem?] using o3 i hi⟩ (hev ss o1)).mono fun e W' ⟨he, bel⟩ => ?_
  subst he
  have hback := trodAll_below laidOut bel (by kernel_rfl) hA
  exact ⟨_, rfl, _, _, _, [], _, [], hW', trodAll_mk1 (shut_bool Try.underlying4 _), hback, rfl, bel.frame _, fun h => by cases h⟩

theorem over : Rows.driftReadsRow.holds Try.pinned (OpenSpec.ofChange Rows.driftReadsSpec) :=
  OpenClaim.holds_of_wide 13 Try.f13 rfl rfl rfl rfl rfl rfl rfl ⟨rfl, rfl, rfl, rfl, rfl⟩ rfl rfl rfl rfl rfl (by kernel_rfl) Try.func13 (by kernel_rfl)
    (of_decide_eq_true (by kernel_rfl)) (by unfold Func.isWrapper; first | (rw [if_pos (by decide +kernel)]; kernel_rfl) | (rw [if_neg (by decide +kernel)]; exact ⟨rfl, rfl⟩))
    (fun os started H enc _ => lifted os started H enc)

theorem driftReads_holds : Rows.DriftReadsSaid := over
#print axioms driftReads_holds
end Go.Proofs.Ytcbjclmjkilphaa

