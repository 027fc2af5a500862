/- Part of a proof of the given statements of this seat (SxChD, SxChE, SxChF, SxChG, SxChH, SxChI, SxChJ, SxChK): no conditions beyond those typed here. -/
import Derived.Test.YtgahnelicbddcaaGreatDoorSz04
import Derived.Test.YtgahnelicbddcaaGreatDoorSz05
set_option linter.unusedVariables false
set_option linter.unusedSimpArgs false
set_option linter.unusedSectionVars false

namespace Go.Proofs.YtgahnelicbddcaaGreatDoor
open Go.Sx
set_option maxRecDepth 100000

theorem di_sat {w h t p n : Int} {m : Nat} {c : Nat → Nat → DV} (hg : okG w h t p) (hn : -9223372036854775808 ≤ n ∧ n ≤ 9223372036854775807) : Sat Tryz.prog (T0 .nil 26 [gridV w h t p (.d (.ro m 1 c)), iv n]) (· = diV w h t p n) := by
  constructor
  show Tree.sat _ _ (· = diW (gr w h t p) n)
  rw [LDi_eq]; unfold LDi
  obtain ⟨r1, r2, r3, r4, r5⟩ := wr hg
  simp only [r1, r2, r3, r4, r5]
  have hk := hg.gr
  have hc := cnt_le hk
  obtain ⟨⟨a1, a2⟩, ⟨b1, b2⟩, ⟨c1, c2⟩, d1, d2⟩ := hg
  obtain ⟨W, rfl⟩ : ∃ k : Nat, w = k := ⟨w.toNat, by omega⟩
  obtain ⟨H, rfl⟩ : ∃ k : Nat, h = k := ⟨h.toNat, by omega⟩
  obtain ⟨T, rfl⟩ : ∃ k : Nat, t = k := ⟨t.toNat, by omega⟩
  obtain ⟨P, rfl⟩ : ∃ k : Nat, p = k := ⟨p.toNat, by omega⟩
  rw [gr_nat] at *
  generalize hgg : (⟨W, H, T, P⟩ : Gr) = g at *
  have gW : g.W = W := by rw [← hgg]
  have gH : g.H = H := by rw [← hgg]
  have gT : g.T = T := by rw [← hgg]
  have gP : g.P = P := by rw [← hgg]
  refine ⟨fun h1 => ?_, fun h1 => ?_⟩
  · simp only [Bool.or_eq_true, decide_eq_true_eq] at h1
    obtain ⟨e1, e2⟩ := dsc_no (g := g) (n := n) (by omega)
    unfold diW; rw [e1, e2]; rfl
  simp only [Bool.or_eq_false_iff, decide_eq_false_iff_not] at h1
  obtain ⟨k, rfl⟩ : ∃ k : Nat, n = k := ⟨n.toNat, by omega⟩
  have hlt : k < g.cnt := by omega
  obtain ⟨e1, e2⟩ := dsc_at hlt
  have hcn : g.cnt = g.tiles + 2 * P := by unfold Gr.cnt; rw [gP]
  have hw1 : w64 ((g.tiles : Int) + P) = (g.tiles : Int) + P := w64_of (by omega) (by omega)
  have hw2 : w64 ((k : Int) - (g.tiles : Int)) = (k : Int) - (g.tiles : Int) := w64_of (by omega) (by omega)
  rw [hw1, hw2]
  have hep := each_pos g
  have hee : g.each = 6 + 2 * T := by unfold Gr.each; rw [gT]
  unfold diW; rw [e1, e2]; unfold dscN; rw [gP, gH, gW, gT]
  refine ⟨fun h2 => ⟨by omega, ?_⟩, fun h2 => ⟨fun h3 => ⟨by omega, ?_⟩, fun h3 => ?_⟩⟩
  · simp only [decide_eq_true_eq, ge_iff_le] at h2
    rw [if_pos (by omega), w64_of (n := (k : Int) - g.tiles - P) (by omega) (by omega)]
    have : (k : Int) - g.tiles - P = ((k - g.tiles - P : Nat) : Int) := by omega
    rw [this, tmod_nat]; rfl
  · simp only [decide_eq_true_eq, decide_eq_false_iff_not, ge_iff_le] at h2 h3
    rw [if_neg (by omega), if_pos (by omega)]
    have : (k : Int) - g.tiles = ((k - g.tiles : Nat) : Int) := by omega
    rw [this, tmod_nat]; rfl
  · simp only [decide_eq_true_eq, decide_eq_false_iff_not, ge_iff_le] at h2 h3
    rw [if_neg (by omega), if_neg (by omega)]
    have hd : k / g.each ≤ k := Nat.div_le_self _ _
    have hm := Nat.mod_lt k hep
    have hd2 : k / g.each / W ≤ k / g.each := Nat.div_le_self _ _
    rw [tdiv_nat, tmod_nat, w64_nat (n := k / g.each) (by omega), tdiv_nat, tmod_nat, w64_nat (n := k / g.each / W) (by omega), w64_of (n := 6 + (T : Int)) (by omega) (by omega)]
    generalize k % g.each = r at hm
    generalize hq : ((k / g.each % W : Nat) : Int) = x
    generalize hq : ((k / g.each / W : Nat) : Int) = y
    rw [w64_of (n := (r : Int) - 2) (by omega) (by omega), w64_of (n := (r : Int) - 6) (by omega) (by omega), w64_of (n := (r : Int) - 6 - T) (by omega) (by omega)]
    refine ⟨by omega, by omega, by omega, by omega, fun h4 => ?_, fun h4 => ⟨fun h5 => ?_, fun h5 => ⟨fun h6 => ?_, fun h6 => ⟨fun h7 => ?_, fun h7 => ?_⟩⟩⟩⟩
    all_goals simp only [decide_eq_true_eq, decide_eq_false_iff_not, ge_iff_le, beq_iff_eq, beq_eq_false_iff_ne, ne_eq] at *
    all_goals unfold tilS
    · rw [if_pos (by omega)]; rfl
    · rw [if_neg (by omega), if_pos (by omega)]; rfl
    · rw [if_neg (by omega), if_neg (by omega), if_pos (by omega)]; rfl
    · rw [if_neg (by omega), if_neg (by omega), if_neg (by omega), if_pos (by omega)]; rfl
    · rw [if_neg (by omega), if_neg (by omega), if_neg (by omega), if_neg (by omega)]; rfl

noncomputable def cDs : Ctr := fun ss => match ss with
  | [.agg [.d (.x (.int .i64 w)), .d (.x (.int .i64 h)), .d (.x (.int .i64 t)), .d (.x (.int .i64 p)), .d (.ro m 1 c)], .d (.x (.int .i64 n))] => .nd (okG w h t p) (.need (i64B n) (.ret (dsV w h t p n)))
  | _ => .fail
noncomputable def cDi : Ctr := fun ss => match ss with
  | [.agg [.d (.x (.int .i64 w)), .d (.x (.int .i64 h)), .d (.x (.int .i64 t)), .d (.x (.int .i64 p)), .d (.ro m 1 c)], .d (.x (.int .i64 n))] => .nd (okG w h t p) (.need (i64B n) (.ret (diV w h t p n)))
  | _ => .fail
noncomputable def cCt : Ctr := fun ss => match ss with
  | [.agg [.d (.x (.int .i64 w)), .d (.x (.int .i64 h)), .d (.x (.int .i64 t)), .d (.x (.int .i64 p)), .d (.ro m 1 c)]] => .nd (okG w h t p) (.ret (iv (gN w h t p)))
  | _ => .fail
theorem cDs_ok : CtrOK Tryz.prog 39 cDs := by
  refine ctrOK_S C0_ok D0_ok (by kernel_rfl) (by kernel_rfl) fun ss r hr => ?_
  unfold cDs at hr
  split at hr
  · obtain ⟨h1, h2, rfl⟩ := hr; have k := ds_sat h1 h2 (m := ‹Nat›) (c := ‹Nat → Nat → DV›); refine ⟨200, .nil, ?_⟩; exact k
  · exact hr.elim
theorem cDi_ok : CtrOK Tryz.prog 26 cDi := by
  refine ctrOK_S C0_ok D0_ok (by kernel_rfl) (by kernel_rfl) fun ss r hr => ?_
  unfold cDi at hr
  split at hr
  · obtain ⟨h1, h2, rfl⟩ := hr; have k := di_sat h1 h2 (m := ‹Nat›) (c := ‹Nat → Nat → DV›); refine ⟨200, .nil, ?_⟩; exact k
  · exact hr.elim
theorem cCt_ok : CtrOK Tryz.prog 11 cCt ∧ CtrOK Tryz.prog 25 cCt := by
  constructor
  · refine ctrOK_S C0_ok D0_ok (by kernel_rfl) (by kernel_rfl) fun ss r hr => ?_
    unfold cCt at hr
    split at hr
    · rename_i w h t p m c
      obtain ⟨h1, rfl⟩ := hr
      refine ⟨200, .nil, ?_⟩
      have e := LCt_eq w h t p m c
      unfold LCt at e
      obtain ⟨r1, r2, r3, r4, r5⟩ := wr h1
      rw [r1, r2, r3, r4, r5] at e
      have k : Sat Tryz.prog _ (· = iv (gN w h t p)) := Sat.of_eq e ⟨rfl⟩
      exact k
    · exact hr.elim
  · refine ctrOK_S C0_ok D0_ok (by kernel_rfl) (by kernel_rfl) fun ss r hr => ?_
    unfold cCt at hr
    split at hr
    · rename_i w h t p m c
      obtain ⟨h1, rfl⟩ := hr
      refine ⟨200, .nil, ?_⟩
      have e := LCr_eq w h t p m c
      unfold LCr at e
      obtain ⟨r1, r2, r3, r4, r5⟩ := wr h1
      rw [r1, r2, r3, r4, r5] at e
      have k : Sat Tryz.prog _ (· = iv (gN w h t p)) := Sat.of_eq e ⟨rfl⟩
      exact k
    · exact hr.elim
noncomputable def man1 : FuncId → Option Ctr := fun k => match k with
  | 39 => some cDs
  | 26 => some cDi
  | 11 => some cCt
  | 25 => some cCt
  | _ => none
theorem man1_ok (k : Nat) (c : Ctr) (h : man1 k = some c) : CtrOK Tryz.prog k c ∧ goodF Tryz.prog k = true := by
  unfold man1 at h
  split at h <;> first | (cases h; done) | (cases h)
  · exact ⟨cDs_ok, by kernel_rfl⟩
  · exact ⟨cDi_ok, by kernel_rfl⟩
  · exact ⟨cCt_ok.1, by kernel_rfl⟩
  · exact ⟨cCt_ok.2, by kernel_rfl⟩
noncomputable def C1 : Ctx := ctxN Tryz.prog man1 (fun _ => false) 200 .nil 6
theorem C1_ok : CtxOK Tryz.prog C1 := ctxN_ok mixed man1_ok 6
noncomputable def D1 : Dr := fun _ => drawn Tryz.prog C1
theorem D1_ok : DrOK Tryz.prog C1 D1 := drawn_ok C1_ok mixed
noncomputable def T1 (h : Hint) (k : Nat) (args : List SV) : Tree SV := fnT Tryz.prog C1 D1 200 (fnOf Tryz.prog k) (bodyOf Tryz.prog k) args h
end Go.Proofs.YtgahnelicbddcaaGreatDoor

namespace Go.Proofs.YtgahnelicbddcaaGreatDoor
open Go.Sx
set_option maxRecDepth 100000
noncomputable def LNd (w h t p k x y i : Int) (m : Nat) (c : Nat → Nat → DV) : Tree SV :=
 .ite (k == (1 : Int))
 (.need (okG w h t p)
 (.need (i64B (w64 (w64 (w64 (y * w) + x) * w64 ((6 : Int) + w64 ((2 : Int) * t)))))
 (.ite
 (gE w h t p (w64 (w64 (w64 (y * w) + x) * w64 ((6 : Int) + w64 ((2 : Int) * t)))) != (0 : Int) ||
 !(gK w h t p (w64 (w64 (w64 (y * w) + x) * w64 ((6 : Int) + w64 ((2 : Int) * t)))) == k &&
 (gX w h t p (w64 (w64 (w64 (y * w) + x) * w64 ((6 : Int) + w64 ((2 : Int) * t)))) == x &&
 (gY w h t p (w64 (w64 (w64 (y * w) + x) * w64 ((6 : Int) + w64 ((2 : Int) * t)))) == y && (gI w h t p (w64 (w64 (w64 (y * w) + x) * w64 ((6 : Int) + w64 ((2 : Int) * t)))) == i && true)))))
 (.ret (SV.tup [iv (0 : Int), iv (1 : Int)])) (.ret (SV.tup [iv (w64 (w64 (w64 (y * w) + x) * w64 ((6 : Int) + w64 ((2 : Int) * t)))), iv (0 : Int)])))))
 (.ite (k == (2 : Int))
 (.need (okG w h t p)
 (.need (i64B (w64 (w64 (w64 (w64 (y * w) + x) * w64 ((6 : Int) + w64 ((2 : Int) * t))) + (1 : Int))))
 (.ite
 (gE w h t p (w64 (w64 (w64 (w64 (y * w) + x) * w64 ((6 : Int) + w64 ((2 : Int) * t))) + (1 : Int))) != (0 : Int) ||
 !(gK w h t p (w64 (w64 (w64 (w64 (y * w) + x) * w64 ((6 : Int) + w64 ((2 : Int) * t))) + (1 : Int))) == k &&
 (gX w h t p (w64 (w64 (w64 (w64 (y * w) + x) * w64 ((6 : Int) + w64 ((2 : Int) * t))) + (1 : Int))) == x &&
 (gY w h t p (w64 (w64 (w64 (w64 (y * w) + x) * w64 ((6 : Int) + w64 ((2 : Int) * t))) + (1 : Int))) == y &&
 (gI w h t p (w64 (w64 (w64 (w64 (y * w) + x) * w64 ((6 : Int) + w64 ((2 : Int) * t))) + (1 : Int))) == i && true)))))
 (.ret (SV.tup [iv (0 : Int), iv (1 : Int)])) (.ret (SV.tup [iv (w64 (w64 (w64 (w64 (y * w) + x) * w64 ((6 : Int) + w64 ((2 : Int) * t))) + (1 : Int))), iv (0 : Int)])))))
 (.ite (k == (3 : Int))
 (.need (okG w h t p)
 (.need (i64B (w64 (w64 (w64 (w64 (w64 (y * w) + x) * w64 ((6 : Int) + w64 ((2 : Int) * t))) + (2 : Int)) + i)))
 (.ite
 (gE w h t p (w64 (w64 (w64 (w64 (w64 (y * w) + x) * w64 ((6 : Int) + w64 ((2 : Int) * t))) + (2 : Int)) + i)) != (0 : Int) ||
 !(gK w h t p (w64 (w64 (w64 (w64 (w64 (y * w) + x) * w64 ((6 : Int) + w64 ((2 : Int) * t))) + (2 : Int)) + i)) == k &&
 (gX w h t p (w64 (w64 (w64 (w64 (w64 (y * w) + x) * w64 ((6 : Int) + w64 ((2 : Int) * t))) + (2 : Int)) + i)) == x &&
 (gY w h t p (w64 (w64 (w64 (w64 (w64 (y * w) + x) * w64 ((6 : Int) + w64 ((2 : Int) * t))) + (2 : Int)) + i)) == y &&
 (gI w h t p (w64 (w64 (w64 (w64 (w64 (y * w) + x) * w64 ((6 : Int) + w64 ((2 : Int) * t))) + (2 : Int)) + i)) == i && true)))))
 (.ret (SV.tup [iv (0 : Int), iv (1 : Int)])) (.ret (SV.tup [iv (w64 (w64 (w64 (w64 (w64 (y * w) + x) * w64 ((6 : Int) + w64 ((2 : Int) * t))) + (2 : Int)) + i)), iv (0 : Int)])))))
 (.ite (k == (4 : Int))
 (.need (okG w h t p)
 (.need (i64B (w64 (w64 (w64 (w64 (w64 (w64 (y * w) + x) * w64 ((6 : Int) + w64 ((2 : Int) * t))) + (2 : Int)) + (4 : Int)) + i)))
 (.ite
 (gE w h t p (w64 (w64 (w64 (w64 (w64 (w64 (y * w) + x) * w64 ((6 : Int) + w64 ((2 : Int) * t))) + (2 : Int)) + (4 : Int)) + i)) != (0 : Int) ||
 !(gK w h t p (w64 (w64 (w64 (w64 (w64 (w64 (y * w) + x) * w64 ((6 : Int) + w64 ((2 : Int) * t))) + (2 : Int)) + (4 : Int)) + i)) == k &&
 (gX w h t p (w64 (w64 (w64 (w64 (w64 (w64 (y * w) + x) * w64 ((6 : Int) + w64 ((2 : Int) * t))) + (2 : Int)) + (4 : Int)) + i)) == x &&
 (gY w h t p (w64 (w64 (w64 (w64 (w64 (w64 (y * w) + x) * w64 ((6 : Int) + w64 ((2 : Int) * t))) + (2 : Int)) + (4 : Int)) + i)) == y &&
 (gI w h t p (w64 (w64 (w64 (w64 (w64 (w64 (y * w) + x) * w64 ((6 : Int) + w64 ((2 : Int) * t))) + (2 : Int)) + (4 : Int)) + i)) == i && true)))))
 (.ret (SV.tup [iv (0 : Int), iv (1 : Int)])) (.ret (SV.tup [iv (w64 (w64 (w64 (w64 (w64 (w64 (y * w) + x) * w64 ((6 : Int) + w64 ((2 : Int) * t))) + (2 : Int)) + (4 : Int)) + i)), iv (0 : Int)])))))
 (.ite (k == (5 : Int))
 (.need (okG w h t p)
 (.need (i64B (w64 (w64 (w64 (w64 (w64 (w64 (w64 (y * w) + x) * w64 ((6 : Int) + w64 ((2 : Int) * t))) + (2 : Int)) + (4 : Int)) + t) + i)))
 (.ite
 (gE w h t p (w64 (w64 (w64 (w64 (w64 (w64 (w64 (y * w) + x) * w64 ((6 : Int) + w64 ((2 : Int) * t))) + (2 : Int)) + (4 : Int)) + t) + i)) != (0 : Int) ||
 !(gK w h t p (w64 (w64 (w64 (w64 (w64 (w64 (w64 (y * w) + x) * w64 ((6 : Int) + w64 ((2 : Int) * t))) + (2 : Int)) + (4 : Int)) + t) + i)) == k &&
 (gX w h t p (w64 (w64 (w64 (w64 (w64 (w64 (w64 (y * w) + x) * w64 ((6 : Int) + w64 ((2 : Int) * t))) + (2 : Int)) + (4 : Int)) + t) + i)) == x &&
 (gY w h t p (w64 (w64 (w64 (w64 (w64 (w64 (w64 (y * w) + x) * w64 ((6 : Int) + w64 ((2 : Int) * t))) + (2 : Int)) + (4 : Int)) + t) + i)) == y &&
 (gI w h t p (w64 (w64 (w64 (w64 (w64 (w64 (w64 (y * w) + x) * w64 ((6 : Int) + w64 ((2 : Int) * t))) + (2 : Int)) + (4 : Int)) + t) + i)) == i && true)))))
 (.ret (SV.tup [iv (0 : Int), iv (1 : Int)])) (.ret (SV.tup [iv (w64 (w64 (w64 (w64 (w64 (w64 (w64 (y * w) + x) * w64 ((6 : Int) + w64 ((2 : Int) * t))) + (2 : Int)) + (4 : Int)) + t) + i)), iv (0 : Int)])))))
 (.ite (k == (6 : Int))
 (.need (okG w h t p)
 (.need (i64B (w64 (w64 (w64 (w * h) * w64 ((6 : Int) + w64 ((2 : Int) * t))) + i)))
 (.ite
 (gE w h t p (w64 (w64 (w64 (w * h) * w64 ((6 : Int) + w64 ((2 : Int) * t))) + i)) != (0 : Int) ||
 !(gK w h t p (w64 (w64 (w64 (w * h) * w64 ((6 : Int) + w64 ((2 : Int) * t))) + i)) == k &&
 (gX w h t p (w64 (w64 (w64 (w * h) * w64 ((6 : Int) + w64 ((2 : Int) * t))) + i)) == x &&
 (gY w h t p (w64 (w64 (w64 (w * h) * w64 ((6 : Int) + w64 ((2 : Int) * t))) + i)) == y && (gI w h t p (w64 (w64 (w64 (w * h) * w64 ((6 : Int) + w64 ((2 : Int) * t))) + i)) == i && true)))))
 (.ret (SV.tup [iv (0 : Int), iv (1 : Int)])) (.ret (SV.tup [iv (w64 (w64 (w64 (w * h) * w64 ((6 : Int) + w64 ((2 : Int) * t))) + i)), iv (0 : Int)])))))
 (.ite (k == (7 : Int))
 (.need (okG w h t p)
 (.need (i64B (w64 (w64 (w64 (w64 (w * h) * w64 ((6 : Int) + w64 ((2 : Int) * t))) + p) + i)))
 (.ite
 (gE w h t p (w64 (w64 (w64 (w64 (w * h) * w64 ((6 : Int) + w64 ((2 : Int) * t))) + p) + i)) != (0 : Int) ||
 !(gK w h t p (w64 (w64 (w64 (w64 (w * h) * w64 ((6 : Int) + w64 ((2 : Int) * t))) + p) + i)) == k &&
 (gX w h t p (w64 (w64 (w64 (w64 (w * h) * w64 ((6 : Int) + w64 ((2 : Int) * t))) + p) + i)) == x &&
 (gY w h t p (w64 (w64 (w64 (w64 (w * h) * w64 ((6 : Int) + w64 ((2 : Int) * t))) + p) + i)) == y && (gI w h t p (w64 (w64 (w64 (w64 (w * h) * w64 ((6 : Int) + w64 ((2 : Int) * t))) + p) + i)) == i && true)))))
 (.ret (SV.tup [iv (0 : Int), iv (1 : Int)])) (.ret (SV.tup [iv (w64 (w64 (w64 (w64 (w * h) * w64 ((6 : Int) + w64 ((2 : Int) * t))) + p) + i)), iv (0 : Int)])))))
 (.need (okG w h t p)
 (.need (i64B (-1 : Int))
 (.ite (gE w h t p (-1 : Int) != (0 : Int) || !(gK w h t p (-1 : Int) == k && (gX w h t p (-1 : Int) == x && (gY w h t p (-1 : Int) == y && (gI w h t p (-1 : Int) == i && true)))))
 (.ret (SV.tup [iv (0 : Int), iv (1 : Int)])) (.ret (SV.tup [iv (-1 : Int), iv (0 : Int)])))))))))))

theorem LNd_eq (w h t p k x y i : Int) (m : Nat) (c : Nat → Nat → DV) : T1 .nil 40 [gridV w h t p (.d (.ro m 1 c)), .agg [iv k, iv x, iv y, iv i]] = LNd w h t p k x y i m c := by kernel_rfl

noncomputable def LAj (w h t p k x y i u v : Int) (m : Nat) (c : Nat → Nat → DV) : Tree SV :=
  .ite (decide (u < (0 : Int)) || decide (u ≥ w) || decide (v < (0 : Int)) || decide (v ≥ h)) (.ret (bv false))
  (.ret (bv ((k == (4 : Int) || k == (5 : Int)) && x == u && y == v || k == (4 : Int) && w64 (x + (1 : Int)) == u && y == v || k == (5 : Int) && x == u && w64 (y + (1 : Int)) == v)))

theorem LAj_eq (w h t p k x y i u v : Int) (m : Nat) (c : Nat → Nat → DV) : T1 .nil 83 [gridV w h t p (.d (.ro m 1 c)), .agg [iv k, iv x, iv y, iv i], iv u, iv v] = LAj w h t p k x y i u v m c := by kernel_rfl

end Go.Proofs.YtgahnelicbddcaaGreatDoor

namespace Go.Proofs.YtgahnelicbddcaaGreatDoor
open Go.Sx
set_option maxRecDepth 100000

theorem w64_B (n : Int) : i64B (w64 n) := by
  unfold i64B w64 IntKind.wrap
  simp [IntKind.signed, IntKind.bits]
  omega
noncomputable def ndV (w h t p k x y i : Int) : SV := .tup [iv (gM w h t p k x y i), iv (gF w h t p k x y i)]
theorem nd_leaf {w h t p k x y i n0 : Int} (hg : okG w h t p) (hB : i64B n0) (hok : OkS (gr w h t p) ⟨k, x, y, i⟩ → n0 = numS (gr w h t p) ⟨k, x, y, i⟩) :
    Tree.sat Tryz.prog (.need (okG w h t p) (.need (i64B n0) (.ite (gE w h t p n0 != (0 : Int) || !(gK w h t p n0 == k && (gX w h t p n0 == x && (gY w h t p n0 == y && (gI w h t p n0 == i && true)))))
     (.ret (SV.tup [iv (0 : Int), iv (1 : Int)])) (.ret (SV.tup [iv n0, iv (0 : Int)]))))) (· = ndV w h t p k x y i) := by
  refine ⟨hg, hB, fun h1 => ?_, fun h1 => ?_⟩
  · have hno : ¬ OkS (gr w h t p) ⟨k, x, y, i⟩ := by
      intro ho
      obtain ⟨⟨e1, e2⟩, e3⟩ := num_ok hg.gr ho
      have e4 := hok ho
      rw [← e4] at e1 e2 e3
      unfold gE gK gX gY gI at h1
      rw [e3, dscE_ok.2 ⟨e1, e2⟩] at h1
      simp at h1
    unfold ndV gM gF ndN ndE
    rw [if_neg hno, if_neg hno]; rfl
  · simp only [Bool.or_eq_false_iff, bne_eq_false_iff_eq, Bool.not_eq_eq_eq_not, Bool.not_false, Bool.and_true, Bool.and_eq_true, beq_iff_eq] at h1
    obtain ⟨h2, h3, h4, h5, h6⟩ := h1
    unfold gE at h2
    obtain ⟨e1, e2⟩ := dscE_ok.1 h2
    obtain ⟨e3, e4⟩ := dsc_ok hg.gr e1 e2
    have e5 : dsc (gr w h t p) n0 = ⟨k, x, y, i⟩ := Spt.ext' h3 h4 h5 h6
    rw [e5] at e3 e4
    unfold ndV gM gF ndN ndE
    rw [if_pos e3, if_pos e3, e4]; rfl
theorem tile_num {w h t p x y : Int} (hg : okG w h t p) (h1 : 0 ≤ x ∧ x < w) (h2 : 0 ≤ y ∧ y < h) :
    w64 (w64 (w64 (y * w) + x) * w64 ((6 : Int) + w64 ((2 : Int) * t))) = (y * (gr w h t p).W + x) * (gr w h t p).each ∧ (0 ≤ (y * (gr w h t p).W + x) * (gr w h t p).each ∧ (y * (gr w h t p).W + x) * (gr w h t p).each ≤ 1408) ∧ ((gr w h t p).T : Int) = t := by
  obtain ⟨r1, r2, r3, r4, r5⟩ := wr hg
  have hc := cnt_le hg.gr
  rw [r2]
  obtain ⟨⟨a1, a2⟩, ⟨b1, b2⟩, ⟨c1, c2⟩, d1, d2⟩ := hg
  obtain ⟨W, rfl⟩ : ∃ k : Nat, w = k := ⟨w.toNat, by omega⟩
  obtain ⟨H, rfl⟩ : ∃ k : Nat, h = k := ⟨h.toNat, by omega⟩
  obtain ⟨T, rfl⟩ : ∃ k : Nat, t = k := ⟨t.toNat, by omega⟩
  obtain ⟨P, rfl⟩ : ∃ k : Nat, p = k := ⟨p.toNat, by omega⟩
  obtain ⟨X, rfl⟩ : ∃ k : Nat, x = k := ⟨x.toNat, by omega⟩
  obtain ⟨Y, rfl⟩ : ∃ k : Nat, y = k := ⟨y.toNat, by omega⟩
  rw [gr_nat] at *
  have gW : (⟨W, H, T, P⟩ : Gr).W = W := rfl
  have gT : (⟨W, H, T, P⟩ : Gr).T = T := rfl
  have he : (⟨W, H, T, P⟩ : Gr).each ≤ 22 := by unfold Gr.each; omega
  rw [gW, gT]
  generalize (⟨W, H, T, P⟩ : Gr).each = e at *
  have m1 : Y * W ≤ 7 * 8 := Nat.mul_le_mul (by omega) (by omega)
  have m2 : (Y * W + X) * e ≤ 63 * 22 := Nat.mul_le_mul (by omega) he
  rw [← Int.natCast_mul, w64_nat (n := Y * W) (by omega), ← Int.natCast_add, w64_nat (n := Y * W + X) (by omega), ← Int.natCast_mul, w64_nat (by omega)]
  refine ⟨rfl, ⟨by omega, by omega⟩, rfl⟩
theorem nd_sat {w h t p k x y i : Int} {m : Nat} {c : Nat → Nat → DV} (hg : okG w h t p) : Sat Tryz.prog (T1 .nil 40 [gridV w h t p (.d (.ro m 1 c)), .agg [iv k, iv x, iv y, iv i]]) (· = ndV w h t p k x y i) := by
  constructor
  rw [LNd_eq]; unfold LNd
  have gW : ((gr w h t p).W : Int) = w := by obtain ⟨⟨a1, a2⟩, _⟩ := hg; unfold gr; simp only; omega
  have gH : ((gr w h t p).H : Int) = h := by obtain ⟨_, ⟨a1, a2⟩, _⟩ := hg; unfold gr; simp only; omega
  have gT : ((gr w h t p).T : Int) = t := by obtain ⟨_, _, ⟨a1, a2⟩, _⟩ := hg; unfold gr; simp only; omega
  have gP : ((gr w h t p).P : Int) = p := by obtain ⟨_, _, _, a1, a2⟩ := hg; unfold gr; simp only; omega
  have hbd := hg
  obtain ⟨⟨a1, a2⟩, ⟨b1, b2⟩, ⟨c1, c2⟩, d1, d2⟩ := hbd
  have hn : numS (gr w h t p) ⟨k, x, y, i⟩ = if k = 6 then (gr w h t p).tiles + i else if k = 7 then (gr w h t p).tiles + p + i else (y * (gr w h t p).W + x) * (gr w h t p).each + offS (gr w h t p) ⟨k, x, y, i⟩ := by
    unfold numS; rw [gP]
  have ho : offS (gr w h t p) ⟨k, x, y, i⟩ = if k = 1 then 0 else if k = 2 then 1 else if k = 3 then 2 + i else if k = 4 then 6 + i else 6 + t + i := by
    unfold offS; rw [gT]
  have hO : OkS (gr w h t p) ⟨k, x, y, i⟩ ↔ ((k = 6 ∧ x = -1 ∧ 0 ≤ i ∧ i < p ∧ y = i % h) ∨ (k = 7 ∧ x = w ∧ 0 ≤ i ∧ i < p ∧ y = i % h) ∨ ((0 ≤ x ∧ x < w ∧ 0 ≤ y ∧ y < h) ∧ (((k = 1 ∨ k = 2) ∧ i = 0) ∨ (k = 3 ∧ 0 ≤ i ∧ i < 4) ∨ ((k = 4 ∨ k = 5) ∧ 0 ≤ i ∧ i < t)))) := by
    unfold OkS; rw [gW, gH, gT, gP]
  obtain ⟨r1, r2, r3, r4, r5⟩ := wr hg
  have hc := cnt_le hg.gr
  have e3 : w64 (w64 (w * h) * w64 ((6 : Int) + w64 ((2 : Int) * t))) = (gr w h t p).tiles := by rw [r1, r2, r3]
  refine ⟨fun h1 => nd_leaf hg (w64_B _) fun ok => ?_, fun h1 => ⟨fun h2 => nd_leaf hg (w64_B _) fun ok => ?_, fun h2 => ⟨fun h3 => nd_leaf hg (w64_B _) fun ok => ?_, fun h3 => ⟨fun h4 => nd_leaf hg (w64_B _) fun ok => ?_,
    fun h4 => ⟨fun h5 => nd_leaf hg (w64_B _) fun ok => ?_, fun h5 => ⟨fun h6 => nd_leaf hg (w64_B _) fun ok => ?_, fun h6 => ⟨fun h7 => nd_leaf hg (w64_B _) fun ok => ?_, fun h7 => ?_⟩⟩⟩⟩⟩⟩⟩
  all_goals simp only [beq_iff_eq, beq_eq_false_iff_ne, ne_eq] at h1
  all_goals try simp only [beq_iff_eq, beq_eq_false_iff_ne, ne_eq] at h2
  all_goals try simp only [beq_iff_eq, beq_eq_false_iff_ne, ne_eq] at h3
  all_goals try simp only [beq_iff_eq, beq_eq_false_iff_ne, ne_eq] at h4
  all_goals try simp only [beq_iff_eq, beq_eq_false_iff_ne, ne_eq] at h5
  all_goals try simp only [beq_iff_eq, beq_eq_false_iff_ne, ne_eq] at h6
  all_goals try simp only [beq_iff_eq, beq_eq_false_iff_ne, ne_eq] at h7
  · have ok := hO.1 ok
    obtain ⟨f1, f2, f3⟩ := tile_num (x := x) (y := y) hg (by omega) (by omega)
    rw [hn, if_neg (by omega), if_neg (by omega), ho, if_pos h1, f1]; omega
  · have ok := hO.1 ok
    obtain ⟨f1, f2, f3⟩ := tile_num (x := x) (y := y) hg (by omega) (by omega)
    rw [hn, if_neg (by omega), if_neg (by omega), ho, if_neg h1, if_pos h2, f1, w64_of (by omega) (by omega)]
  · have ok := hO.1 ok
    obtain ⟨f1, f2, f3⟩ := tile_num (x := x) (y := y) hg (by omega) (by omega)
    rw [hn, if_neg (by omega), if_neg (by omega), ho, if_neg h1, if_neg h2, if_pos h3, f1]
    generalize (y * (gr w h t p).W + x) * (gr w h t p).each = z at *
    rw [w64_of (n := z + 2) (by omega) (by omega), w64_of (by omega) (by omega)]; omega
  · have ok := hO.1 ok
    obtain ⟨f1, f2, f3⟩ := tile_num (x := x) (y := y) hg (by omega) (by omega)
    rw [hn, if_neg (by omega), if_neg (by omega), ho, if_neg h1, if_neg h2, if_neg h3, if_pos h4, f1]
    generalize (y * (gr w h t p).W + x) * (gr w h t p).each = z at *
    rw [w64_of (n := z + 2) (by omega) (by omega), w64_of (n := z + 2 + 4) (by omega) (by omega), w64_of (by omega) (by omega)]; omega
  · have ok := hO.1 ok
    obtain ⟨f1, f2, f3⟩ := tile_num (x := x) (y := y) hg (by omega) (by omega)
    rw [hn, if_neg (by omega), if_neg (by omega), ho, if_neg h1, if_neg h2, if_neg h3, if_neg h4, f1]
    generalize (y * (gr w h t p).W + x) * (gr w h t p).each = z at *
    rw [w64_of (n := z + 2) (by omega) (by omega), w64_of (n := z + 2 + 4) (by omega) (by omega), w64_of (n := z + 2 + 4 + t) (by omega) (by omega), w64_of (by omega) (by omega)]; omega
  · have ok := hO.1 ok
    rw [hn, if_pos h6, e3, w64_of (by omega) (by omega)]
  · have ok := hO.1 ok
    rw [hn, if_neg (by omega), if_pos h7, e3, w64_of (n := ((gr w h t p).tiles : Int) + p) (by omega) (by omega), w64_of (by omega) (by omega)]
  · refine ⟨hg, ⟨by omega, by omega⟩, fun _ => ?_, fun hh => ?_⟩
    · unfold ndV gM gF ndN ndE
      have hno : ¬ OkS (gr w h t p) ⟨k, x, y, i⟩ := by rw [hO]; omega
      rw [if_neg hno, if_neg hno]; rfl
    · exfalso
      have : gE w h t p (-1) = 1 := by unfold gE dscE; rw [if_pos (.inl (by omega))]
      simp [this] at hh
end Go.Proofs.YtgahnelicbddcaaGreatDoor

namespace Go.Proofs.YtgahnelicbddcaaGreatDoor
open Go.Sx
set_option maxRecDepth 100000

noncomputable def cNd : Ctr := fun ss => match ss with
  | [.agg [.d (.x (.int .i64 w)), .d (.x (.int .i64 h)), .d (.x (.int .i64 t)), .d (.x (.int .i64 p)), .d (.ro m 1 c)], .agg [.d (.x (.int .i64 k)), .d (.x (.int .i64 x)), .d (.x (.int .i64 y)), .d (.x (.int .i64 i))]] => .nd (okG w h t p) (.ret (ndV w h t p k x y i))
  | _ => .fail
theorem cNd_ok : CtrOK Tryz.prog 40 cNd := by
  refine ctrOK_S C1_ok D1_ok (by kernel_rfl) (by kernel_rfl) fun ss r hr => ?_
  unfold cNd at hr
  split at hr
  · rename_i w h t p m c k x y i
    obtain ⟨h1, rfl⟩ := hr; have k0 := nd_sat h1 (k := k) (x := x) (y := y) (i := i) (m := m) (c := c); refine ⟨200, .nil, ?_⟩; exact k0
  · exact hr.elim
noncomputable def cAj : Ctr := fun ss => match ss with
  | [.agg [.d (.x (.int .i64 w)), .d (.x (.int .i64 h)), .d (.x (.int .i64 t)), .d (.x (.int .i64 p)), .d (.ro m 1 c)], .agg [.d (.x (.int .i64 k)), .d (.x (.int .i64 x)), .d (.x (.int .i64 y)), .d (.x (.int .i64 i))], .d (.x (.int .i64 u)), .d (.x (.int .i64 v))] =>
    .nd (smS x y) (.ret (bv (adjB w h k x y u v)))
  | _ => .fail
theorem cAj_ok : CtrOK Tryz.prog 83 cAj := by
  refine ctrOK_S C1_ok D1_ok (by kernel_rfl) (by kernel_rfl) fun ss r hr => ?_
  unfold cAj at hr
  split at hr
  · rename_i w h t p m c k x y i u v
    obtain ⟨⟨⟨h1, h2⟩, h3, h4⟩, rfl⟩ := hr
    refine ⟨200, .nil, ?_⟩
    have k0 : Sat Tryz.prog (T1 .nil 83 [gridV w h t p (.d (.ro m 1 c)), .agg [iv k, iv x, iv y, iv i], iv u, iv v]) (· = bv (adjB w h k x y u v)) := by
      constructor
      rw [LAj_eq]; unfold LAj
      rw [w64_of (n := x + 1) (by omega) (by omega), w64_of (n := y + 1) (by omega) (by omega)]
      refine ⟨fun hh => ?_, fun hh => ?_⟩
      · unfold adjB; rw [hh]; rfl
      · unfold adjB; rw [hh]; rfl
    exact k0
  · exact hr.elim
noncomputable def man2 : FuncId → Option Ctr := fun k => match k with
  | 40 => some cNd
  | 83 => some cAj
  | k => man1 k
theorem man2_ok (k : Nat) (c : Ctr) (h : man2 k = some c) : CtrOK Tryz.prog k c ∧ goodF Tryz.prog k = true := by
  unfold man2 at h
  split at h
  · cases h; exact ⟨cNd_ok, by kernel_rfl⟩
  · cases h; exact ⟨cAj_ok, by kernel_rfl⟩
  · exact man1_ok _ _ h
noncomputable def C2 : Ctx := ctxN Tryz.prog man2 (fun _ => false) 200 .nil 6
theorem C2_ok : CtxOK Tryz.prog C2 := ctxN_ok mixed man2_ok 6
noncomputable def D2 : Dr := fun _ => drawn Tryz.prog C2
theorem D2_ok : DrOK Tryz.prog C2 D2 := drawn_ok C2_ok mixed
noncomputable def T2 (h : Hint) (k : Nat) (args : List SV) : Tree SV := fnT Tryz.prog C2 D2 200 (fnOf Tryz.prog k) (bodyOf Tryz.prog k) args h
end Go.Proofs.YtgahnelicbddcaaGreatDoor

namespace Go.Proofs.YtgahnelicbddcaaGreatDoor
open Go.Sx
set_option maxRecDepth 100000
noncomputable def LCa_q1 (k : Int) (x : Int) (y : Int) (i : Int) (k' : Int) (x' : Int) (y' : Int) (i' : Int) : Bool :=
  !(k == k' && (x == x' && (y == y' && (i == i' && true)))) && i == i'
noncomputable def LCa_q2 (w : Int) (h : Int) (k : Int) (x : Int) (y : Int) (k' : Int) (x' : Int) (y' : Int) : Bool :=
  adjB w h k' x' y' x y || k == (4 : Int) && adjB w h k' x' y' (w64 (x + (1 : Int))) y
noncomputable def LCa_q3 (w : Int) (h : Int) (k : Int) (x : Int) (y : Int) (k' : Int) (x' : Int) (y' : Int) : Bool :=
  k' == (3 : Int) && adjB w h k x y x' y'
noncomputable def LCa (w h t p k x y i k' x' y' i' : Int) (m : Nat) (c : Nat → Nat → DV) : Tree SV :=
 .ite (k == (1 : Int)) (.need (smS x' y') (.ret (bv (adjB w h k' x' y' x y || k' == (3 : Int) && i' == (3 : Int) && x' == x && y' == w64 (y + (1 : Int))))))
 (.ite (k == (2 : Int)) (.need (smS x' y') (.ret (bv (adjB w h k' x' y' x y))))
 (.ite (k == (6 : Int)) (.need (smS x' y') (.ret (bv (adjB w h k' x' y' (0 : Int) y))))
 (.ite (k == (4 : Int))
 (.ite (k == (4 : Int))
 (.ite (k' == (4 : Int) || k' == (5 : Int))
 (.need (LCa_q1 k x y i k' x' y' i' = true → smS x' y')
 (.need (LCa_q1 k x y i k' x' y' i' = true → adjB w h k' x' y' x y = false ∧ (k == (4 : Int)) = true → smS x' y')
 (.need (LCa_q1 k x y i k' x' y' i' = true → LCa_q2 w h k x y k' x' y' = false ∧ (k == (5 : Int)) = true → smS x' y')
 (.ret (bv (LCa_q1 k x y i k' x' y' i' && (LCa_q2 w h k x y k' x' y' || k == (5 : Int) && adjB w h k' x' y' x (w64 (y + (1 : Int))))))))))
 (.need ((k' == (3 : Int)) = true → smS x y)
 (.need (LCa_q3 w h k x y k' x' y' = false ∧ (k' == (7 : Int)) = true → smS x y) (.ret (bv (LCa_q3 w h k x y k' x' y' || k' == (7 : Int) && adjB w h k x y (w64 (w - (1 : Int))) y'))))))
 (.ret (bv false)))
 (.ite (k == (5 : Int))
 (.ite (k' == (4 : Int) || k' == (5 : Int))
 (.need (LCa_q1 k x y i k' x' y' i' = true → smS x' y')
 (.need (LCa_q1 k x y i k' x' y' i' = true → adjB w h k' x' y' x y = false ∧ (k == (4 : Int)) = true → smS x' y')
 (.need (LCa_q1 k x y i k' x' y' i' = true → LCa_q2 w h k x y k' x' y' = false ∧ (k == (5 : Int)) = true → smS x' y')
 (.ret (bv (LCa_q1 k x y i k' x' y' i' && (LCa_q2 w h k x y k' x' y' || k == (5 : Int) && adjB w h k' x' y' x (w64 (y + (1 : Int))))))))))
 (.need ((k' == (3 : Int)) = true → smS x y)
 (.need (LCa_q3 w h k x y k' x' y' = false ∧ (k' == (7 : Int)) = true → smS x y) (.ret (bv (LCa_q3 w h k x y k' x' y' || k' == (7 : Int) && adjB w h k x y (w64 (w - (1 : Int))) y'))))))
 (.ret (bv false))))))

theorem LCa_eq (w h t p k x y i k' x' y' i' : Int) (m : Nat) (c : Nat → Nat → DV) : T2 .nil 65 [gridV w h t p (.d (.ro m 1 c)), .agg [iv k, iv x, iv y, iv i], .agg [iv k', iv x', iv y', iv i']] = LCa w h t p k x y i k' x' y' i' m c := by kernel_rfl


end Go.Proofs.YtgahnelicbddcaaGreatDoor

namespace Go.Proofs.YtgahnelicbddcaaGreatDoor
open Go.Sx
set_option maxRecDepth 100000

theorem can_sat {w h t p k x y i k' x' y' i' : Int} {m : Nat} {c : Nat → Nat → DV} (h1 : smS x y) (h2 : smS x' y') (h3 : smS w h) :
    Sat Tryz.prog (T2 .nil 65 [gridV w h t p (.d (.ro m 1 c)), .agg [iv k, iv x, iv y, iv i], .agg [iv k', iv x', iv y', iv i']]) (· = bv (canB w h k x y i k' x' y' i')) := by
  constructor
  rw [LCa_eq]; unfold LCa
  have a1 := h1; have a2 := h3
  obtain ⟨⟨b1, b2⟩, b3, b4⟩ := a1
  obtain ⟨⟨c1, c2⟩, c3, c4⟩ := a2
  unfold LCa_q1 LCa_q2 LCa_q3
  rw [w64_of (n := x + 1) (by omega) (by omega), w64_of (n := y + 1) (by omega) (by omega), w64_of (n := w - 1) (by omega) (by omega)]
  unfold canB
  simp only [sat_need, sat_ite, sat_ret, h1, h2, h3, true_and, implies_true, beq_iff_eq, beq_eq_false_iff_ne, ne_eq, bv_inj, Bool.or_eq_true, Bool.or_eq_false_iff]
  by_cases k1 : k = 1
  · simp [k1]
  by_cases k2 : k = 2
  · simp [k1, k2]
  by_cases k6 : k = 6
  · simp [k1, k2, k6]
  by_cases k4 : k = 4
  · subst k4
    simp only [k1, k2, k6, not_true, not_false_eq_true, forall_const, if_false, if_true, true_or, or_true, implies_true, and_true, true_and, false_implies]
    refine ⟨fun h => by rw [if_pos h], fun h => by rw [if_neg (by omega)]⟩
  by_cases k5 : k = 5
  · subst k5
    simp only [k1, k2, k4, k6, not_true, not_false_eq_true, forall_const, if_false, if_true, true_or, or_true, implies_true, and_true, true_and, false_implies]
    refine ⟨fun h => by rw [if_pos h], fun h => by rw [if_neg (by omega)]⟩
  · simp [k1, k2, k4, k5, k6]
noncomputable def cCan : Ctr := fun ss => match ss with
  | [.agg [.d (.x (.int .i64 w)), .d (.x (.int .i64 h)), .d (.x (.int .i64 t)), .d (.x (.int .i64 p)), .d (.ro m 1 c)], .agg [.d (.x (.int .i64 k)), .d (.x (.int .i64 x)), .d (.x (.int .i64 y)), .d (.x (.int .i64 i))],
      .agg [.d (.x (.int .i64 k')), .d (.x (.int .i64 x')), .d (.x (.int .i64 y')), .d (.x (.int .i64 i'))]] => .nd (smS x y ∧ smS x' y' ∧ smS w h) (.ret (bv (canB w h k x y i k' x' y' i')))
  | _ => .fail
theorem cCan_ok : CtrOK Tryz.prog 65 cCan := by
  refine ctrOK_S C2_ok D2_ok (by kernel_rfl) (by kernel_rfl) fun ss r hr => ?_
  unfold cCan at hr
  split at hr
  · rename_i w h t p m c k x y i k' x' y' i'
    obtain ⟨⟨h1, h2, h3⟩, rfl⟩ := hr
    refine ⟨200, .nil, ?_⟩
    have k0 := can_sat (t := t) (p := p) (k := k) (i := i) (k' := k') (i' := i') (m := m) (c := c) h1 h2 h3
    exact k0
  · exact hr.elim
noncomputable def man3 : FuncId → Option Ctr := fun k => match k with
  | 65 => some cCan
  | k => man2 k
theorem man3_ok (k : Nat) (c : Ctr) (h : man3 k = some c) : CtrOK Tryz.prog k c ∧ goodF Tryz.prog k = true := by
  unfold man3 at h
  split at h
  · cases h; exact ⟨cCan_ok, by kernel_rfl⟩
  · exact man2_ok _ _ h
noncomputable def C3 : Ctx := ctxN Tryz.prog man3 (fun _ => false) 200 .nil 6
theorem C3_ok : CtxOK Tryz.prog C3 := ctxN_ok mixed man3_ok 6
noncomputable def D3 : Dr := fun _ => drawn Tryz.prog C3
theorem D3_ok : DrOK Tryz.prog C3 D3 := drawn_ok C3_ok mixed
noncomputable def T3 (h : Hint) (k : Nat) (args : List SV) : Tree SV := fnT Tryz.prog C3 D3 200 (fnOf Tryz.prog k) (bodyOf Tryz.prog k) args h
end Go.Proofs.YtgahnelicbddcaaGreatDoor

namespace Go.Proofs.YtgahnelicbddcaaGreatDoor
open Go.Sx
set_option maxRecDepth 100000
noncomputable def spV (k x y i : Int) : SV := .agg [iv k, iv x, iv y, iv i]
noncomputable def tNi (w h t p k x y i : Int) (m : Nat) (c : Nat → Nat → DV) : Tree SV := T3 .nil 27 [gridV w h t p (.d (.ro m 1 c)), spV k x y i]
noncomputable def tRd (w h t p n : Int) (m : Nat) (c : Nat → Nat → DV) : Tree SV := T3 .nil 30 [gridV w h t p (.d (.ro m 1 c)), iv n]
noncomputable def tRn (w h t p n : Int) (m : Nat) (c : Nat → Nat → DV) : Tree SV := T3 .nil 32 [gridV w h t p (.d (.ro m 1 c)), iv n]
noncomputable def LMi (w h t p k x y i : Int) (m : Nat) (c : Nat → Nat → DV) : Tree SV :=
  .code (codeC (sub [] (tNi w h t p k x y i m c))) (codeS (sub [] (tNi w h t p k x y i m c))) (codeK (sub [] (tNi w h t p k x y i m c)))

theorem LMi_eq (w h t p k x y i : Int) (m : Nat) (c : Nat → Nat → DV) : tNi w h t p k x y i m c = LMi w h t p k x y i m c := by kernel_rfl

noncomputable def LRd (w h t p n : Int) (m : Nat) (c : Nat → Nat → DV) : Tree SV :=
  .need (okG w h t p) (.need (i64B n) (.code (codeC (sub [(0 : Nat), (0 : Nat)] (tRd w h t p n m c))) (codeS (sub [(0 : Nat), (0 : Nat)] (tRd w h t p n m c))) (codeK (sub [(0 : Nat), (0 : Nat)] (tRd w h t p n m c)))))

theorem LRd_eq (w h t p n : Int) (m : Nat) (c : Nat → Nat → DV) : tRd w h t p n m c = LRd w h t p n m c := by kernel_rfl

noncomputable def LRn (w h t p n : Int) (m : Nat) (c : Nat → Nat → DV) : Tree SV :=
  .need (okG w h t p) (.need (i64B n) (.code (codeC (sub [(0 : Nat), (0 : Nat)] (tRn w h t p n m c))) (codeS (sub [(0 : Nat), (0 : Nat)] (tRn w h t p n m c))) (codeK (sub [(0 : Nat), (0 : Nat)] (tRn w h t p n m c)))))

theorem LRn_eq (w h t p n : Int) (m : Nat) (c : Nat → Nat → DV) : tRn w h t p n m c = LRn w h t p n m c := by kernel_rfl

noncomputable def lB (L : List Int) : Blk := .row L.length 1 fun i _ => .x (.int .i64 (L.getD i 0))
noncomputable def invNi (w h t p k x y i n r e : Int) (m : Nat) (c : Nat → Nat → DV) : AS := ⟨[.unk, .unk, .ok (.ptr 0 0), .ok (.ptr 1 0), .ok (.ptr 2 0), .ok (iv n)] ++ List.replicate 17 .unk, [some (.cells [iv w, iv h, iv t, iv p, .d (.ro m 1 c)]), some (.cells [iv k, iv x, iv y, iv i]), some (.cells [iv r, iv e])], 3, .nil⟩
noncomputable def bodyNi : Code := loopN (bodyOf Tryz.prog 27) 0
noncomputable def BNi (w h t p k x y i n : Int) (m : Nat) (c : Nat → Nat → DV) : Tree (Ex × AS) :=
 .need (okG w h t p)
 (.ite (decide (n < gN w h t p))
 (.need (okG w h t p)
 (.need (i64B n)
 (.ite (gK w h t p n == k && (gX w h t p n == x && (gY w h t p n == y && (gI w h t p n == i && true))))
 (.ret
 (.ret,
 {
 tm :=
 [.unk, .unk, .ok (SV.ptr 0 0), .ok (SV.ptr 1 0), .ok (SV.ptr 2 0), .ok (iv n), .unk, .unk, .unk, .unk, .unk, .unk, .unk, .unk, .unk,
 .unk, .unk, .unk, .unk, .unk, .unk, .unk, .unk],
 hp := [some (.cells [iv w, iv h, iv t, iv p, SV.d (DV.ro m 1 c)]), some (.cells [iv k, iv x, iv y, iv i]), some (.cells [iv n, iv (0 : Int)])], next := 3, hint := .nil }))
 (.ret
 (.normal,
 {
 tm :=
 [.unk, .unk, .ok (SV.ptr 0 0), .ok (SV.ptr 1 0), .ok (SV.ptr 2 0), .ok (iv (w64 (n + (1 : Int)))), .unk, .unk, .unk, .unk, .unk, .unk,
 .unk, .unk, .unk, .unk, .unk, .unk, .unk, .unk, .unk, .unk, .unk],
 hp := [some (.cells [iv w, iv h, iv t, iv p, SV.d (DV.ro m 1 c)]), some (.cells [iv k, iv x, iv y, iv i]), some (.cells [iv (0 : Int), iv (0 : Int)])], next := 3, hint := .nil })))))
 (.ret
 (.exit 0,
 {
 tm :=
 [.unk, .unk, .ok (SV.ptr 0 0), .ok (SV.ptr 1 0), .ok (SV.ptr 2 0), .ok (iv n), .unk, .unk, .unk, .unk, .unk, .unk, .unk, .unk, .unk,
 .unk, .unk, .unk, .unk, .unk, .unk, .unk, .unk],
 hp := [some (.cells [iv w, iv h, iv t, iv p, SV.d (DV.ro m 1 c)]), some (.cells [iv k, iv x, iv y, iv i]), some (.cells [iv (0 : Int), iv (0 : Int)])], next := 3, hint := .nil })))

theorem BNi_eq (w h t p k x y i n : Int) (m : Nat) (c : Nat → Nat → DV) : cutT 3 [] [2, 3, 4, 5] [] 3 .nil (exec Tryz.prog C3 D3 200 bodyNi (invNi w h t p k x y i n 0 0 m c)) = BNi w h t p k x y i n m c := by kernel_rfl

noncomputable def KNi (w h t p k x y i n : Int) (m : Nat) (c : Nat → Nat → DV) : Tree SV :=
  .ret (SV.agg [iv (0 : Int), iv (1 : Int)])

theorem KNi_eq (w h t p k x y i n : Int) (m : Nat) (c : Nat → Nat → DV) : codeK (sub [] (tNi w h t p k x y i m c)) (.exit 0) (invNi w h t p k x y i n 0 0 m c) = KNi w h t p k x y i n m c := by kernel_rfl

noncomputable def KNr (w h t p k x y i n r : Int) (m : Nat) (c : Nat → Nat → DV) : Tree SV :=
  .ret (SV.agg [iv r, iv (0 : Int)])

theorem KNr_eq (w h t p k x y i n r : Int) (m : Nat) (c : Nat → Nat → DV) : codeK (sub [] (tNi w h t p k x y i m c)) .ret (invNi w h t p k x y i n r 0 m c) = KNr w h t p k x y i n r m c := by kernel_rfl

noncomputable def invRd (w h t p : Int) (m : Nat) (c : Nat → Nat → DV) (dk dx dy di de : Int) (L : List Int) (n : Int) : AS := ⟨[.unk, .unk, .ok (.ptr 0 0), .unk, .unk, .ok (.row 4 0 0 L.length 1), .ok (.ptr 2 0), .ok (iv n)] ++ List.replicate 28 .unk, [some (.cells [iv w, iv h, iv t, iv p, .d (.ro m 1 c)]), none, some (.cells [iv dk, iv dx, iv dy, iv di, iv de]), none, some (lB L)], 5, .nil⟩
noncomputable def bodyRd : Code := loopN (bodyOf Tryz.prog 30) 0
noncomputable def bodyRn : Code := loopN (bodyOf Tryz.prog 32) 0
noncomputable def BRd_q1 (L : List Int) (n : Int) (a : Nat) (b : Nat) : DV :=
  selD (decide (a < List.length L)) (DV.x (.int .i64 (List.getD L (0 + a) (0 : Int)))) (dsAt [DV.x (.int .i64 n)] (0 + (0 + (a - List.length L)) * 1 + b))
noncomputable def BRd_q2 (L : List Int) (i : Nat) (x : Nat) : DV :=
  DV.x (.int .i64 (List.getD L i (0 : Int)))
noncomputable def BRd (w h t p : Int) (m : Nat) (c : Nat → Nat → DV) (dk dx dy di de : Int) (L : List Int) (n : Int) : Tree (Ex × AS) :=
 .need (okG w h t p)
 (.ite (decide (n < gN w h t p) && de == (0 : Int))
 (.need (okG w h t p)
 (.need (i64B n)
 (.need (smS (gX w h t p n) (gY w h t p n) ∧ smS dx dy ∧ smS w h)
 (.ite (canB w h (gK w h t p n) (gX w h t p n) (gY w h t p n) (gI w h t p n) dk dx dy di)
 (.need (0 + List.length L ≤ List.length L ∧ 1 ≤ 1 ∧ (List.length L + 1) * 8 ≤ 140737488355328)
 (.ret
 (.normal,
 {
 tm :=
 [.unk, .unk, .ok (SV.ptr 0 0), .unk, .unk, .ok (SV.row 4 0 0 (List.length L + 1) 1), .ok (SV.ptr 2 0),
 .ok (iv (w64 (n + (1 : Int)))), .unk, .unk, .unk, .unk, .unk, .unk, .unk, .unk, .unk, .unk, .unk, .unk, .unk, .unk, .unk, .unk, .unk, .unk, .unk, .unk, .unk, .unk,
 .unk, .unk, .unk, .unk, .unk, .unk],
 hp :=
 [some (.cells [iv w, iv h, iv t, iv p, SV.d (DV.ro m 1 c)]), none, some (.cells [iv dk, iv dx, iv dy, iv di, iv de]), none,
 some (.row (List.length L + 1) 1 (BRd_q1 L n))],
 next := 5, hint := .nil })))
 (.ret
 (.normal,
 {
 tm :=
 [.unk, .unk, .ok (SV.ptr 0 0), .unk, .unk, .ok (SV.row 4 0 0 (List.length L) 1), .ok (SV.ptr 2 0),
 .ok (iv (w64 (n + (1 : Int)))), .unk, .unk, .unk, .unk, .unk, .unk, .unk, .unk, .unk, .unk, .unk, .unk, .unk, .unk, .unk, .unk, .unk, .unk, .unk, .unk, .unk, .unk, .unk,
 .unk, .unk, .unk, .unk, .unk],
 hp := [some (.cells [iv w, iv h, iv t, iv p, SV.d (DV.ro m 1 c)]), none, some (.cells [iv dk, iv dx, iv dy, iv di, iv de]), none, some (.row (List.length L) 1 (BRd_q2 L))],
 next := 5, hint := .nil }))))))
 (.ret
 (.exit 0,
 {
 tm :=
 [.unk, .unk, .ok (SV.ptr 0 0), .unk, .unk, .ok (SV.row 4 0 0 (List.length L) 1), .ok (SV.ptr 2 0), .ok (iv n), .unk, .unk,
 .unk, .unk, .unk, .unk, .unk, .unk, .unk, .unk, .unk, .unk, .unk, .unk, .unk, .unk, .unk, .unk, .unk, .unk, .unk, .unk, .unk, .unk, .unk, .unk, .unk, .unk],
 hp := [some (.cells [iv w, iv h, iv t, iv p, SV.d (DV.ro m 1 c)]), none, some (.cells [iv dk, iv dx, iv dy, iv di, iv de]), none, some (.row (List.length L) 1 (BRd_q2 L))],
 next := 5, hint := .nil })))

theorem BRd_eq (w h t p : Int) (m : Nat) (c : Nat → Nat → DV) (dk dx dy di de : Int) (L : List Int) (n : Int) : cutT 4 [(.slot 5, 4)] [2, 5, 6, 7] [] 5 .nil (exec Tryz.prog C3 D3 200 bodyRd (invRd w h t p m c dk dx dy di de L n)) = BRd w h t p m c dk dx dy di de L n := by kernel_rfl

noncomputable def BRn_q1 (L : List Int) (n : Int) (a : Nat) (b : Nat) : DV :=
  selD (decide (a < List.length L)) (DV.x (.int .i64 (List.getD L (0 + a) (0 : Int)))) (dsAt [DV.x (.int .i64 n)] (0 + (0 + (a - List.length L)) * 1 + b))
noncomputable def BRn_q2 (L : List Int) (i : Nat) (x : Nat) : DV :=
  DV.x (.int .i64 (List.getD L i (0 : Int)))
noncomputable def BRn (w h t p : Int) (m : Nat) (c : Nat → Nat → DV) (dk dx dy di de : Int) (L : List Int) (n : Int) : Tree (Ex × AS) :=
 .need (okG w h t p)
 (.ite (decide (n < gN w h t p) && de == (0 : Int))
 (.need (okG w h t p)
 (.need (i64B n)
 (.need (smS dx dy ∧ smS (gX w h t p n) (gY w h t p n) ∧ smS w h)
 (.ite (canB w h dk dx dy di (gK w h t p n) (gX w h t p n) (gY w h t p n) (gI w h t p n))
 (.need (0 + List.length L ≤ List.length L ∧ 1 ≤ 1 ∧ (List.length L + 1) * 8 ≤ 140737488355328)
 (.ret
 (.normal,
 {
 tm :=
 [.unk, .unk, .ok (SV.ptr 0 0), .unk, .unk, .ok (SV.row 4 0 0 (List.length L + 1) 1), .ok (SV.ptr 2 0),
 .ok (iv (w64 (n + (1 : Int)))), .unk, .unk, .unk, .unk, .unk, .unk, .unk, .unk, .unk, .unk, .unk, .unk, .unk, .unk, .unk, .unk, .unk, .unk, .unk, .unk, .unk, .unk,
 .unk, .unk, .unk, .unk, .unk, .unk],
 hp :=
 [some (.cells [iv w, iv h, iv t, iv p, SV.d (DV.ro m 1 c)]), none, some (.cells [iv dk, iv dx, iv dy, iv di, iv de]), none,
 some (.row (List.length L + 1) 1 (BRn_q1 L n))],
 next := 5, hint := .nil })))
 (.ret
 (.normal,
 {
 tm :=
 [.unk, .unk, .ok (SV.ptr 0 0), .unk, .unk, .ok (SV.row 4 0 0 (List.length L) 1), .ok (SV.ptr 2 0),
 .ok (iv (w64 (n + (1 : Int)))), .unk, .unk, .unk, .unk, .unk, .unk, .unk, .unk, .unk, .unk, .unk, .unk, .unk, .unk, .unk, .unk, .unk, .unk, .unk, .unk, .unk, .unk, .unk,
 .unk, .unk, .unk, .unk, .unk],
 hp := [some (.cells [iv w, iv h, iv t, iv p, SV.d (DV.ro m 1 c)]), none, some (.cells [iv dk, iv dx, iv dy, iv di, iv de]), none, some (.row (List.length L) 1 (BRn_q2 L))],
 next := 5, hint := .nil }))))))
 (.ret
 (.exit 0,
 {
 tm :=
 [.unk, .unk, .ok (SV.ptr 0 0), .unk, .unk, .ok (SV.row 4 0 0 (List.length L) 1), .ok (SV.ptr 2 0), .ok (iv n), .unk, .unk,
 .unk, .unk, .unk, .unk, .unk, .unk, .unk, .unk, .unk, .unk, .unk, .unk, .unk, .unk, .unk, .unk, .unk, .unk, .unk, .unk, .unk, .unk, .unk, .unk, .unk, .unk],
 hp := [some (.cells [iv w, iv h, iv t, iv p, SV.d (DV.ro m 1 c)]), none, some (.cells [iv dk, iv dx, iv dy, iv di, iv de]), none, some (.row (List.length L) 1 (BRn_q2 L))],
 next := 5, hint := .nil })))

theorem BRn_eq (w h t p : Int) (m : Nat) (c : Nat → Nat → DV) (dk dx dy di de : Int) (L : List Int) (n : Int) : cutT 4 [(.slot 5, 4)] [2, 5, 6, 7] [] 5 .nil (exec Tryz.prog C3 D3 200 bodyRn (invRd w h t p m c dk dx dy di de L n)) = BRn w h t p m c dk dx dy di de L n := by kernel_rfl

noncomputable def KRd_q1 (L : List Int) (i : Nat) (j : Nat) : DV :=
  DV.x (.int .i64 (List.getD L (0 + i) (0 : Int)))
noncomputable def KRd (w h t p n : Int) (m : Nat) (c : Nat → Nat → DV) (dk dx dy di de : Int) (L : List Int) (a : Int) : Tree SV :=
  .need (0 + List.length L ≤ List.length L) (.ret (SV.d (DV.ro (List.length L) 1 (KRd_q1 L))))

theorem KRd_eq (w h t p n : Int) (m : Nat) (c : Nat → Nat → DV) (dk dx dy di de : Int) (L : List Int) (a : Int) : codeK (sub [0, 0] (tRd w h t p n m c)) (.exit 0) (invRd w h t p m c dk dx dy di de L a) = KRd w h t p n m c dk dx dy di de L a := by kernel_rfl

noncomputable def KRn_q1 (L : List Int) (i : Nat) (j : Nat) : DV :=
  DV.x (.int .i64 (List.getD L (0 + i) (0 : Int)))
noncomputable def KRn (w h t p n : Int) (m : Nat) (c : Nat → Nat → DV) (dk dx dy di de : Int) (L : List Int) (a : Int) : Tree SV :=
  .need (0 + List.length L ≤ List.length L) (.ret (SV.d (DV.ro (List.length L) 1 (KRn_q1 L))))

theorem KRn_eq (w h t p n : Int) (m : Nat) (c : Nat → Nat → DV) (dk dx dy di de : Int) (L : List Int) (a : Int) : codeK (sub [0, 0] (tRn w h t p n m c)) (.exit 0) (invRd w h t p m c dk dx dy di de L a) = KRn w h t p n m c dk dx dy di de L a := by kernel_rfl


end Go.Proofs.YtgahnelicbddcaaGreatDoor

namespace Go.Proofs.YtgahnelicbddcaaGreatDoor
open Go.Sx
set_option maxRecDepth 100000

theorem lB_app {L : List Int} {n : Int} {f : Nat → Nat → DV} (h : ∀ i, i < L.length + 1 → f i 0 = .x (.int .i64 ((L ++ [n]).getD i 0))) : BlkLe (.row (L.length + 1) 1 f) (lB (L ++ [n])) := by
  have e : lB (L ++ [n]) = .row (L.length + 1) 1 fun i _ => .x (.int .i64 ((L ++ [n]).getD i 0)) := by unfold lB; rw [List.length_append]; rfl
  rw [e]
  refine .row fun i j hi hj => ?_
  obtain rfl : j = 0 := by omega
  exact h i hi
theorem app_sel (L : List Int) (n : Int) (i : Nat) (hi : i < L.length + 1) : selD (decide (i < L.length)) (.x (.int .i64 (L.getD (0 + i) 0))) (dsAt [.x (.int .i64 n)] (0 + (0 + (i - L.length)) * 1 + 0)) = .x (.int .i64 ((L ++ [n]).getD i 0)) := by
  rw [Nat.zero_add, show i - L.length = 0 by omega]
  rcases Nat.lt_or_ge i L.length with h | h
  · simp [selD, h, List.getD_eq_getElem?_getD, List.getElem?_append]; rfl
  · obtain rfl : i = L.length := by omega
    simp [selD, dsAt]

theorem ni_sat {w h t p k x y i : Int} {m : Nat} {c : Nat → Nat → DV} (hg : okG w h t p) : Sat Tryz.prog (tNi w h t p k x y i m c) (· = .agg [iv (gM w h t p k x y i), iv (gF w h t p k x y i)]) := by
  constructor
  rw [LMi_eq]; unfold LMi
  have hc := cnt_le hg.gr
  refine code_satS C3_ok D3_ok (n := 200) (n0 := 3) (nx := 3) (roots := []) (keep := [2, 3, 4, 5]) (drop := []) (h := .nil) (c := codeC (sub [] (tNi w h t p k x y i m c))) (st := codeS (sub [] (tNi w h t p k x y i m c))) (k := codeK (sub [] (tNi w h t p k x y i m c))) (body := bodyNi) (by kernel_rfl) (by kernel_rfl)
    (fun q s => ∃ j : Nat, q = (gr w h t p).cnt - j ∧ j ≤ (gr w h t p).cnt ∧ (∀ a : Nat, a < j → dsc (gr w h t p) a ≠ ⟨k, x, y, i⟩) ∧ s = invNi w h t p k x y i j 0 0 m c)
    (fun e s => (e = .exit 0 ∧ ¬ OkS (gr w h t p) ⟨k, x, y, i⟩ ∧ ∃ j : Nat, s = invNi w h t p k x y i j 0 0 m c) ∨ (e = .ret ∧ OkS (gr w h t p) ⟨k, x, y, i⟩ ∧ ∃ j : Nat, s = invNi w h t p k x y i j (numS (gr w h t p) ⟨k, x, y, i⟩) 0 m c))
    ⟨_, _, ⟨0, rfl, by omega, fun a ha => by omega, rfl⟩, ?_⟩ ?_ ?_
  · exact entA_sound (roots := []) (keep := [2, 3, 4, 5]) (drop := []) (nx := 3) (h := .nil) (by kernel_rfl)
  · rintro q s ⟨j, rfl, hj, ha, rfl⟩
    refine Sat.of_eq (BNi_eq w h t p k x y i j m c) ?_
    constructor; unfold BNi
    refine ⟨hg, fun h1 => ⟨hg, ⟨by omega, by omega⟩, fun h2 => ?_, fun h2 => ?_⟩, fun h1 => ?_⟩
    · have h1 : j < (gr w h t p).cnt := by unfold gN at h1; simp only [decide_eq_true_eq] at h1; omega
      obtain ⟨e1, e2⟩ := dsc_ok hg.gr (n := (j : Int)) (by omega) (by omega)
      simp only [Bool.and_true, Bool.and_eq_true, beq_iff_eq] at h2
      have e3 : dsc (gr w h t p) j = ⟨k, x, y, i⟩ := Spt.ext' h2.1 h2.2.1 h2.2.2.1 h2.2.2.2
      rw [e3] at e1 e2
      refine ⟨_, .inr ⟨rfl, e1, j, rfl⟩, ?_⟩
      rw [e2]; exact Gc.refl _ _
    · have h1 : j < (gr w h t p).cnt := by unfold gN at h1; simp only [decide_eq_true_eq] at h1; omega
      rw [w64_of (n := (j : Int) + 1) (by omega) (by omega)]
      refine ⟨(gr w h t p).cnt - (j + 1), _, by omega, ⟨j + 1, rfl, by omega, fun a ha2 => ?_, rfl⟩, Gc.refl _ _⟩
      rcases Nat.lt_or_ge a j with h3 | h3
      · exact ha a h3
      · obtain rfl : a = j := by omega
        intro e
        unfold gK gX gY gI at h2
        rw [e] at h2; simp at h2
    · have h1 : ¬ j < (gr w h t p).cnt := by unfold gN at h1; simp only [decide_eq_false_iff_not] at h1; omega
      obtain rfl : j = (gr w h t p).cnt := by omega
      refine ⟨_, .inl ⟨rfl, fun ho => ?_, _, rfl⟩, Gc.refl _ _⟩
      obtain ⟨⟨e1, e2⟩, e3⟩ := num_ok hg.gr ho
      obtain ⟨b, hb⟩ : ∃ b : Nat, numS (gr w h t p) ⟨k, x, y, i⟩ = b := ⟨(numS (gr w h t p) ⟨k, x, y, i⟩).toNat, by omega⟩
      rw [hb] at e2 e3
      exact ha b (by omega) e3
  · rintro e s (⟨rfl, hno, j, rfl⟩ | ⟨rfl, ho, j, rfl⟩)
    · refine Sat.of_eq (KNi_eq w h t p k x y i j m c) ⟨?_⟩
      unfold gM gF ndN ndE; rw [if_neg hno, if_neg hno]; exact rfl
    · refine Sat.of_eq (KNr_eq w h t p k x y i j _ m c) ⟨?_⟩
      unfold gM gF ndN ndE; rw [if_pos ho, if_pos ho]; exact rfl
noncomputable def ivL (L : List Int) : SV := .d (.ro L.length 1 fun i _ => .x (.int .i64 (L.getD i 0)))
theorem flt_le (w h t p : Int) (j : Nat) (f : Int → Bool) : ((upTo j).filter f).length ≤ j := by
  refine Nat.le_trans (List.length_filter_le _ _) ?_
  unfold upTo; simp
theorem rd_sat {w h t p n : Int} {m : Nat} {c : Nat → Nat → DV} (hg : okG w h t p) (hn : i64B n) : Sat Tryz.prog (tRd w h t p n m c) (· = ivL (refD w h t p n)) := by
  constructor
  rw [LRd_eq]; unfold LRd
  have hc := cnt_le hg.gr
  have hw : smS w h := by obtain ⟨⟨a1, a2⟩, ⟨b1, b2⟩, _⟩ := hg; unfold smS; omega
  refine ⟨hg, hn, ?_⟩
  refine code_satS C3_ok D3_ok (n := 200) (n0 := 4) (nx := 5) (roots := [(.slot 5, 4)]) (keep := [2, 5, 6, 7]) (drop := []) (h := .nil) (c := codeC (sub [0, 0] (tRd w h t p n m c))) (st := codeS (sub [0, 0] (tRd w h t p n m c))) (k := codeK (sub [0, 0] (tRd w h t p n m c))) (body := bodyRd) (by kernel_rfl) (by kernel_rfl)
    (fun q s => ∃ j : Nat, q = (gr w h t p).cnt - j ∧ j ≤ (gr w h t p).cnt ∧ s = invRd w h t p m c (gK w h t p n) (gX w h t p n) (gY w h t p n) (gI w h t p n) (gE w h t p n) ((upTo j).filter fun a => canN w h t p a n) j)
    (fun e s => e = .exit 0 ∧ ∃ j : Nat, s = invRd w h t p m c (gK w h t p n) (gX w h t p n) (gY w h t p n) (gI w h t p n) (gE w h t p n) (refD w h t p n) j)
    ⟨_, _, ⟨0, rfl, by omega, rfl⟩, ?_⟩ ?_ ?_
  · refine (entA_sound (s' := ⟨[.unk, .unk, .ok (.ptr 0 0), .unk, .unk, .ok (.row 4 0 0 0 1), .ok (.ptr 2 0), .ok (iv 0)] ++ List.replicate 28 .unk, [some (.cells [iv w, iv h, iv t, iv p, .d (.ro m 1 c)]), none, some (.cells [iv (gK w h t p n), iv (gX w h t p n), iv (gY w h t p n), iv (gI w h t p n), iv (gE w h t p n)]), none, some (.cells [])], 5, .nil⟩) (roots := [(.slot 5, 4)]) (keep := [2, 5, 6, 7]) (drop := [3]) (nx := 5) (h := .nil) (by kernel_rfl)).trans ?_
    refine gc_hp rfl rfl ⟨.inr ⟨_, _, rfl, rfl, .refl _⟩, .inl rfl, .inr ⟨_, _, rfl, rfl, .refl _⟩, .inl rfl, .inr ⟨_, _, rfl, rfl, .cells rfl fun i j hi hj => ?_⟩, trivial⟩
    exact absurd hi (Nat.not_lt_zero _)
  · rintro q s ⟨j, rfl, hj, rfl⟩
    refine Sat.of_eq (BRd_eq w h t p m c _ _ _ _ _ _ j) ?_
    constructor; unfold BRd
    have hl := flt_le w h t p j fun a => canN w h t p a n
    refine ⟨hg, fun h1 => ⟨hg, ⟨by omega, by omega⟩, ⟨gXY_sm hg, gXY_sm hg, hw⟩, fun h2 => ⟨⟨by omega, by omega, by omega⟩, ?_⟩, fun h2 => ?_⟩, fun h1 => ?_⟩
    · simp only [Bool.and_eq_true, decide_eq_true_eq] at h1
      have h1 : j < (gr w h t p).cnt := by have := h1.1; unfold gN at this; omega
      rw [w64_of (n := (j : Int) + 1) (by omega) (by omega)]
      have e : (upTo (j + 1)).filter (fun a => canN w h t p a n) = (upTo j).filter (fun a => canN w h t p a n) ++ [(j : Int)] := by
        rw [upTo_succ, List.filter_append]
        have : canN w h t p j n = true := h2
        simp [this]
      refine ⟨(gr w h t p).cnt - (j + 1), _, by omega, ⟨j + 1, rfl, by omega, rfl⟩, ?_⟩
      rw [e]
      generalize (upTo j).filter (fun a => canN w h t p a n) = L
      refine gc_hp (by rw [List.length_append]; rfl) rfl ⟨.inr ⟨_, _, rfl, rfl, .refl _⟩, .inl rfl, .inr ⟨_, _, rfl, rfl, .refl _⟩, .inl rfl, .inr ⟨_, _, rfl, rfl, lB_app fun i hi => ?_⟩, trivial⟩
      exact app_sel L j i hi
    · simp only [Bool.and_eq_true, decide_eq_true_eq] at h1
      have h1 : j < (gr w h t p).cnt := by have := h1.1; unfold gN at this; omega
      rw [w64_of (n := (j : Int) + 1) (by omega) (by omega)]
      have e : (upTo (j + 1)).filter (fun a => canN w h t p a n) = (upTo j).filter (fun a => canN w h t p a n) := by
        rw [upTo_succ, List.filter_append]
        have : canN w h t p j n = false := h2
        simp [this]
      refine ⟨(gr w h t p).cnt - (j + 1), _, by omega, ⟨j + 1, rfl, by omega, rfl⟩, ?_⟩
      rw [e]; exact Gc.refl _ _
    · refine ⟨_, ⟨rfl, j, ?_⟩, Gc.refl _ _⟩
      have e : refD w h t p n = (upTo j).filter fun a => canN w h t p a n := by
        unfold refD
        by_cases h2 : gE w h t p n = 0
        · rw [if_pos h2]
          rw [h2] at h1
          have : ¬ j < (gr w h t p).cnt := by unfold gN at h1; simp at h1; omega
          obtain rfl : j = (gr w h t p).cnt := by omega
          rfl
        · rw [if_neg h2]
          symm
          rw [List.filter_eq_nil_iff]
          intro a _
          have hk : gK w h t p n = 0 := by
            unfold gE dscE at h2
            unfold gK dsc
            split at h2
            · rw [if_pos (by assumption)]
            · exact absurd rfl h2
          unfold canN; rw [hk]
          unfold canB adjB; simp
      rw [e]; rfl
  · rintro e s ⟨rfl, j, rfl⟩
    refine Sat.of_eq (KRd_eq w h t p n m c _ _ _ _ _ _ j) ⟨⟨by omega, ?_⟩⟩
    show SV.d _ = ivL _
    have : KRd_q1 (refD w h t p n) = fun i _ => .x (.int .i64 ((refD w h t p n).getD i 0)) := by
      funext i j; unfold KRd_q1; rw [Nat.zero_add]
    rw [this]; rfl
theorem rn_sat {w h t p n : Int} {m : Nat} {c : Nat → Nat → DV} (hg : okG w h t p) (hn : i64B n) : Sat Tryz.prog (tRn w h t p n m c) (· = ivL (refN w h t p n)) := by
  constructor
  rw [LRn_eq]; unfold LRn
  have hc := cnt_le hg.gr
  have hw : smS w h := by obtain ⟨⟨a1, a2⟩, ⟨b1, b2⟩, _⟩ := hg; unfold smS; omega
  refine ⟨hg, hn, ?_⟩
  refine code_satS C3_ok D3_ok (n := 200) (n0 := 4) (nx := 5) (roots := [(.slot 5, 4)]) (keep := [2, 5, 6, 7]) (drop := []) (h := .nil) (c := codeC (sub [0, 0] (tRn w h t p n m c))) (st := codeS (sub [0, 0] (tRn w h t p n m c))) (k := codeK (sub [0, 0] (tRn w h t p n m c))) (body := bodyRn) (by kernel_rfl) (by kernel_rfl)
    (fun q s => ∃ j : Nat, q = (gr w h t p).cnt - j ∧ j ≤ (gr w h t p).cnt ∧ s = invRd w h t p m c (gK w h t p n) (gX w h t p n) (gY w h t p n) (gI w h t p n) (gE w h t p n) ((upTo j).filter fun a => canN w h t p n a) j)
    (fun e s => e = .exit 0 ∧ ∃ j : Nat, s = invRd w h t p m c (gK w h t p n) (gX w h t p n) (gY w h t p n) (gI w h t p n) (gE w h t p n) (refN w h t p n) j)
    ⟨_, _, ⟨0, rfl, by omega, rfl⟩, ?_⟩ ?_ ?_
  · refine (entA_sound (s' := ⟨[.unk, .unk, .ok (.ptr 0 0), .unk, .unk, .ok (.row 4 0 0 0 1), .ok (.ptr 2 0), .ok (iv 0)] ++ List.replicate 28 .unk, [some (.cells [iv w, iv h, iv t, iv p, .d (.ro m 1 c)]), none, some (.cells [iv (gK w h t p n), iv (gX w h t p n), iv (gY w h t p n), iv (gI w h t p n), iv (gE w h t p n)]), none, some (.cells [])], 5, .nil⟩) (roots := [(.slot 5, 4)]) (keep := [2, 5, 6, 7]) (drop := [3]) (nx := 5) (h := .nil) (by kernel_rfl)).trans ?_
    refine gc_hp rfl rfl ⟨.inr ⟨_, _, rfl, rfl, .refl _⟩, .inl rfl, .inr ⟨_, _, rfl, rfl, .refl _⟩, .inl rfl, .inr ⟨_, _, rfl, rfl, .cells rfl fun i j hi hj => ?_⟩, trivial⟩
    exact absurd hi (Nat.not_lt_zero _)
  · rintro q s ⟨j, rfl, hj, rfl⟩
    refine Sat.of_eq (BRn_eq w h t p m c _ _ _ _ _ _ j) ?_
    constructor; unfold BRn
    have hl := flt_le w h t p j fun a => canN w h t p n a
    refine ⟨hg, fun h1 => ⟨hg, ⟨by omega, by omega⟩, ⟨gXY_sm hg, gXY_sm hg, hw⟩, fun h2 => ⟨⟨by omega, by omega, by omega⟩, ?_⟩, fun h2 => ?_⟩, fun h1 => ?_⟩
    · simp only [Bool.and_eq_true, decide_eq_true_eq] at h1
      have h1 : j < (gr w h t p).cnt := by have := h1.1; unfold gN at this; omega
      rw [w64_of (n := (j : Int) + 1) (by omega) (by omega)]
      have e : (upTo (j + 1)).filter (fun a => canN w h t p n a) = (upTo j).filter (fun a => canN w h t p n a) ++ [(j : Int)] := by
        rw [upTo_succ, List.filter_append]
        have : canN w h t p n j = true := h2
        simp [this]
      refine ⟨(gr w h t p).cnt - (j + 1), _, by omega, ⟨j + 1, rfl, by omega, rfl⟩, ?_⟩
      rw [e]
      generalize (upTo j).filter (fun a => canN w h t p n a) = L
      refine gc_hp (by rw [List.length_append]; rfl) rfl ⟨.inr ⟨_, _, rfl, rfl, .refl _⟩, .inl rfl, .inr ⟨_, _, rfl, rfl, .refl _⟩, .inl rfl, .inr ⟨_, _, rfl, rfl, lB_app fun i hi => ?_⟩, trivial⟩
      exact app_sel L j i hi
    · simp only [Bool.and_eq_true, decide_eq_true_eq] at h1
      have h1 : j < (gr w h t p).cnt := by have := h1.1; unfold gN at this; omega
      rw [w64_of (n := (j : Int) + 1) (by omega) (by omega)]
      have e : (upTo (j + 1)).filter (fun a => canN w h t p n a) = (upTo j).filter (fun a => canN w h t p n a) := by
        rw [upTo_succ, List.filter_append]
        have : canN w h t p n j = false := h2
        simp [this]
      refine ⟨(gr w h t p).cnt - (j + 1), _, by omega, ⟨j + 1, rfl, by omega, rfl⟩, ?_⟩
      rw [e]; exact Gc.refl _ _
    · refine ⟨_, ⟨rfl, j, ?_⟩, Gc.refl _ _⟩
      have e : refN w h t p n = (upTo j).filter fun a => canN w h t p n a := by
        unfold refN
        by_cases h2 : gE w h t p n = 0
        · rw [if_pos h2]
          rw [h2] at h1
          have : ¬ j < (gr w h t p).cnt := by unfold gN at h1; simp at h1; omega
          obtain rfl : j = (gr w h t p).cnt := by omega
          rfl
        · rw [if_neg h2]
          symm
          rw [List.filter_eq_nil_iff]
          intro a _
          have hk : gK w h t p n = 0 := by
            unfold gE dscE at h2
            unfold gK dsc
            split at h2
            · rw [if_pos (by assumption)]
            · exact absurd rfl h2
          unfold canN; rw [hk]
          unfold canB adjB; simp
      rw [e]; rfl
  · rintro e s ⟨rfl, j, rfl⟩
    refine Sat.of_eq (KRn_eq w h t p n m c _ _ _ _ _ _ j) ⟨⟨by omega, ?_⟩⟩
    show SV.d _ = ivL _
    have : KRn_q1 (refN w h t p n) = fun i _ => .x (.int .i64 ((refN w h t p n).getD i 0)) := by
      funext i j; unfold KRn_q1; rw [Nat.zero_add]
    rw [this]; rfl
end Go.Proofs.YtgahnelicbddcaaGreatDoor

