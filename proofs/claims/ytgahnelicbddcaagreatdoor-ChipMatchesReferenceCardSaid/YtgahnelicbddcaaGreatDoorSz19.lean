/- Part of a proof of the given statements of this seat (SxChVh, SxChSd, SxChSe, SxChSf, SxChSg, SxChSh, SxChVi, SxChVj, SxChVk, SxChVl, SxChVm, SxChVn, SxChVo, SxChSi, SxChVp, SxChVq, SxChSj): no conditions beyond those typed here. -/
import Derived.Test.YtgahnelicbddcaaGreatDoorSz18
import Derived.Test.YtgahnelicbddcaaGreatDoorSz17
set_option linter.unusedVariables false
set_option linter.unusedSimpArgs false
set_option linter.unusedSectionVars false

namespace Go.Proofs.YtgahnelicbddcaaGreatDoor
open Go.Sx
set_option maxRecDepth 100000
theorem ext_let {k : Int} (h : 0 ≤ k ∧ k ≤ 2) : ByteArray.extract (strB [46, 76, 77]) k.toNat (w64 (k + 1)).toNat = strB [letB k] := by
  rw [strB_extract]
  have : k = 0 ∨ k = 1 ∨ k = 2 := by omega
  rcases this with rfl | rfl | rfl <;> rfl
theorem ty5_sat {w h t p : Int} {K : List Int} {S : List (List Int × List Int)} {W y : Nat} {z : List UInt8} (hw : w = W) (hW : W ≤ 8) (hy8 : y ≤ 8) (hy : (y + 1) * W ≤ K.length) (hK : K.length ≤ 1000) (hk : ∀ k ∈ K, 0 ≤ k ∧ k ≤ 2) (hz : z.length ≤ 100000) :
    Sat Tryz.prog (bTx5 w h t p K S z y) fun r => r.1 = .normal ∧ Gc 4 r.2 (invTx5 w h t p K S (z ++ rowT W K y) ((y : Int) - 1)) := by
  refine Sat.of_eq (BTx5_eq w h t p K S z y) ⟨?_⟩
  unfold BTx5
  have hyW : y * W + W ≤ K.length := by rw [Nat.add_mul] at hy; omega
  refine ⟨fun h1 => ?_, fun h1 => ?_⟩
  rotate_left
  · rw [decide_eq_false_iff_not] at h1; omega
  refine code_satS CX5_ok DX5_ok (n := 200) (n0 := 4) (nx := 4) (roots := []) (keep := [1, 3, 4, 5, 6]) (drop := [2, 3]) (h := .nil) (body := bodyTy5) (by kernel_rfl) (by kernel_rfl)
    (fun q u => ∃ (x : Nat) (z2 : List UInt8), q = W - x ∧ x ≤ W ∧ z2 = z ++ ((K.drop (y * W)).take x).map letB ∧ u = invTy5 w h t p K S z2 y x)
    (fun e u => e = .exit 2 ∧ ∃ x, u = invTy5 w h t p K S (z ++ ((K.drop (y * W)).take W).map letB) y x)
    ⟨_, _, ⟨0, z, rfl, by omega, by simp, rfl⟩, ?_⟩ ?_ ?_
  · exact entA_sound (roots := []) (keep := [1, 3, 4, 5, 6]) (drop := [2, 3]) (nx := 4) (h := .nil) (by kernel_rfl)
  · rintro q u ⟨x, z2, rfl, hx, hz2, rfl⟩
    refine Sat.of_eq (BTy5_eq w h t p K S z2 y x) ?_
    constructor; unfold BTy5
    have hz3 : z2.length ≤ 101000 := by
      rw [hz2, List.length_append, List.length_map]
      have := List.length_take_le x (K.drop (y * W)); omega
    refine ⟨fun h2 => ?_, fun h2 => ?_⟩
    · rw [decide_eq_true_eq] at h2
      have hlt : y * W + x < K.length := by omega
      have ei : w64 (w64 ((y : Int) * w) + (x : Int)) = ((y * W + x : Nat) : Int) := by
        have e1 : (y : Int) * w = ((y * W : Nat) : Int) := by rw [hw, Int.natCast_mul]
        rw [e1, w64_of (n := ((y * W : Nat) : Int)) (by omega) (by omega), w64_of (by omega) (by omega)]; omega
      rw [ei, Int.toNat_natCast]
      have hd := drop_oneL 0 (s := K) hlt
      have ht : (K.drop (y * W)).take (x + 1) = (K.drop (y * W)).take x ++ [K.getD (y * W + x) 0] := by
        rw [List.take_add_one, List.getElem?_drop, List.getElem?_eq_getElem hlt, List.getD_eq_getElem?_getD, List.getElem?_eq_getElem hlt]; rfl
      have hkk : 0 ≤ K.getD (y * W + x) 0 ∧ K.getD (y * W + x) 0 ≤ 2 := hk _ (getD_mem5 hlt)
      generalize K.getD (y * W + x) 0 = k at ht hkk
      have ew : w64 (k + 1) = k + 1 := w64_of (by omega) (by omega)
      rw [ext_let hkk, ew, w64_of (n := (x : Int) + 1) (by omega) (by omega), strB_append]
      simp only [strB_size, List.length_singleton]
      refine ⟨by omega, by omega, ⟨by omega, by omega, by omega⟩, by omega, W - (x + 1), _, by omega, ⟨x + 1, z2 ++ [letB k], rfl, by omega, ?_, rfl⟩, Gc.refl _ _⟩
      rw [ht, List.map_append, hz2, List.append_assoc]; rfl
    · rw [decide_eq_false_iff_not] at h2
      have : x = W := by omega
      subst this
      rw [hz2]
      exact ⟨_, ⟨rfl, (x : Int), rfl⟩, Gc.refl _ _⟩
  · rintro e u ⟨rfl, x, rfl⟩
    refine Sat.of_eq (KTy5_eq w h t p K S z y _ x) ⟨?_⟩
    unfold KTy5
    have hl : (z ++ ((K.drop (y * W)).take W).map letB).length ≤ 101000 := by
      rw [List.length_append, List.length_map]
      have := List.length_take_le W (K.drop (y * W)); omega
    rw [strB_append, w64_of (n := (y : Int) - 1) (by omega) (by omega), List.append_assoc]
    rw [strB_size]
    exact ⟨by omega, rfl, Gc.refl _ _⟩
theorem bd_getD {S : List (List Int × List Int)} {i : Nat} (h : i < S.length) : S.take (i + 1) = S.take i ++ [(bdL S i 0, bdL S i 1)] := by
  rw [List.take_add_one, List.getElem?_eq_getElem h]
  have : (bdL S i 0, bdL S i 1) = S.getD i ([], []) := rfl
  rw [this, List.getD_eq_getElem?_getD, List.getElem?_eq_getElem h]; rfl
theorem tz5_sat {w h t p : Int} {K : List Int} {S : List (List Int × List Int)} {z : List UInt8} {y : Int} (hS : S.length ≤ 1000) (hb : ∀ s ∈ S, (s.1.length ≤ 10000 ∧ ∀ n ∈ s.1, 0 ≤ n ∧ n ≤ 1000000) ∧ (s.2.length ≤ 10000 ∧ ∀ n ∈ s.2, 0 ≤ n ∧ n ≤ 1000000)) (hz : z.length ≤ 100000) :
    Sat Tryz.prog (tTz5 w h t p K S z y) (· = strV (z ++ S.flatMap slotT)) := by
  constructor
  rw [KTx5_eq]; unfold KTx5
  refine code_satS CX5_ok DX5_ok (n := 200) (n0 := 4) (nx := 4) (roots := []) (keep := [1, 4, 7]) (drop := [1, 2, 3]) (h := .nil) (body := bodyTz5) (by kernel_rfl) (by kernel_rfl)
    (fun q u => ∃ (i : Nat) (z2 : List UInt8), q = S.length - i ∧ i ≤ S.length ∧ z2 = z ++ (S.take i).flatMap slotT ∧ z2.length ≤ 100000 + 1000000 * i ∧ u = invTz5 w h t p K S z2 i)
    (fun e u => e = .exit 4 ∧ ∃ i, u = invTz5 w h t p K S (z ++ S.flatMap slotT) i)
    ⟨_, _, ⟨0, z, rfl, by omega, by simp, by omega, rfl⟩, ?_⟩ ?_ ?_
  · exact entA_sound (roots := []) (keep := [1, 4, 7]) (drop := [1, 2, 3]) (nx := 4) (h := .nil) (by kernel_rfl)
  · rintro q u ⟨i, z2, rfl, hi, hz2, hzl, rfl⟩
    refine Sat.of_eq (BTz5_eq w h t p K S z2 i) ?_
    constructor; unfold BTz5
    simp only [Int.toNat_natCast]
    refine ⟨fun h2 => ?_, fun h2 => ?_⟩
    · rw [decide_eq_true_eq] at h2
      have hlt : i < S.length := by omega
      have hm := hb _ (bdL_mem hlt).1
      have ht := bd_getD hlt
      have q1 : lsOf (bdL S i 0).length (BTz5_q1 S (i : Int)) = bdL S i 0 := by
        have : BTz5_q1 S (i : Int) = fun a _ => .x (.int .i64 ((bdL S i 0).getD a 0)) := rfl
        rw [this]; exact lsOf_cellL _
      have q2 : lsOf (bdL S i 1).length (BTz5_q2 S (i : Int)) = bdL S i 1 := by
        have : BTz5_q2 S (i : Int) = fun a _ => .x (.int .i64 ((bdL S i 1).getD a 0)) := rfl
        rw [this]; exact lsOf_cellL _
      have n1 := numT_len (L := bdL S i 0) fun n hn => by have := hm.1.2 n hn; omega
      have n2 := numT_len (L := bdL S i 1) fun n hn => by have := hm.2.2 n hn; omega
      have hm1 : (bdL S i 0).length ≤ 10000 := hm.1.1
      have hm2 : (bdL S i 1).length ≤ 10000 := hm.2.1
      rw [q1, q2, w64_of (n := (i : Int) + 1) (by omega) (by omega)]
      simp only [strB_append]
      have e : [(115 : UInt8), 108, 111, 116, 32, 116, 105, 108, 101, 115] ++ numT (bdL S i 0) ++ [32, 110, 111, 100, 101, 115] ++ numT (bdL S i 1) ++ [10] = slotT (bdL S i 0, bdL S i 1) := by
        unfold slotT; simp only [List.append_assoc]; rfl
      have el : (slotT (bdL S i 0, bdL S i 1)).length ≤ 1000000 := by
        rw [← e]; simp only [List.length_append, List.length_cons, List.length_nil]; omega
      rw [e]
      simp only [strB_size, List.length_append, List.length_cons, List.length_nil]
      refine ⟨by omega, ⟨by omega, fun a ha => rfl, by rw [q1]; exact hm.1.2⟩, by omega, by omega, by omega, ⟨by omega, fun a ha => rfl, by rw [q2]; exact hm.2.2⟩, by omega, by omega, by omega, S.length - (i + 1), _, by omega, ⟨i + 1, z2 ++ slotT (bdL S i 0, bdL S i 1), rfl, by omega, ?_, by rw [List.length_append]; omega, rfl⟩, Gc.refl _ _⟩
      rw [ht, List.flatMap_append, hz2, List.append_assoc]; simp
    · rw [decide_eq_false_iff_not] at h2
      have : i = S.length := by omega
      subst this
      rw [hz2, List.take_length]
      exact ⟨_, ⟨rfl, _, rfl⟩, Gc.refl _ _⟩
  · rintro e u ⟨rfl, i, rfl⟩
    exact Sat.of_eq (KTz5_eq w h t p K S z y _ i) ⟨rfl⟩
theorem tTz5_eq (w h t p : Int) (K : List Int) (S : List (List Int × List Int)) (z : List UInt8) (y : Int) : codeK (sub [0, 0, 0, 0] (tTx5 w h t p K S)) (.exit 0) (invTx5 w h t p K S z y) = tTz5 w h t p K S z y := by kernel_rfl
theorem tx5_sat {w h t p : Int} {K : List Int} {S : List (List Int × List Int)} (hv : vchP w h t p K S) : Sat Tryz.prog (tTx5 w h t p K S) (· = strV (txtT w h t p K S)) := by
  have ht := vch_txt hv
  obtain ⟨⟨a1, a2, a3, a4⟩, ⟨a5, a6⟩, -, -⟩ := ht
  have hg : okG w h t p := hv.1.1
  have hN := (cnt_le hg.gr).2
  have hc : gN w h t p = ((gr w h t p).cnt : Int) := rfl
  have hwh : w * h ≤ 8 * 8 := Int.mul_le_mul (by omega) (by omega) (by omega) (by omega)
  have hp64 := hv.1.1.2.2.2
  have ht8 := hv.1.1.2.2.1
  obtain ⟨W, hW⟩ : ∃ W : Nat, w = W := ⟨w.toNat, by omega⟩
  obtain ⟨H, hH⟩ : ∃ H : Nat, h = H := ⟨h.toNat, by omega⟩
  have hKl : K.length = W * H := by rw [a5, hW, hH, Int.toNat_natCast, Int.toNat_natCast]
  have hb : ∀ s ∈ S, (s.1.length ≤ 10000 ∧ ∀ n ∈ s.1, 0 ≤ n ∧ n ≤ 1000000) ∧ (s.2.length ≤ 10000 ∧ ∀ n ∈ s.2, 0 ≤ n ∧ n ≤ 1000000) := fun s hs => by
    obtain ⟨r1, r2⟩ := hv.2.2 s hs
    have b1 := ris_bd r1 (by omega)
    have b2 := ris_bd r2 (by omega)
    exact ⟨⟨b1.1, fun n hn => by have := b1.2 n hn; omega⟩, b2.1, fun n hn => by have := b2.2 n hn; omega⟩
  have hnb : ∀ n ∈ [w, h, t, p], 0 ≤ n ∧ n ≤ 1000000 := fun n hn => by
    simp only [List.mem_cons, List.not_mem_nil, or_false] at hn
    rcases hn with rfl | rfl | rfl | rfl <;> omega
  have hnl := numT_len (L := [w, h, t, p]) fun n hn => by have := hnb n hn; omega
  have hl4 : [w, h, t, p].length = 4 := rfl
  constructor
  rw [LTx5_eq]; unfold LTx5
  have hhd : ([103, 114, 105, 100] : List UInt8) ++ numT [w, h, t, p] ++ [10] = headT w h t p := by unfold headT; rw [List.append_assoc]; rfl
  have hh : (headT w h t p).length ≤ 93 := headT_len fun n hn => by have := hnb n hn; omega
  have hrl := rowsT_len W K H
  have hWH : (W + 1) * H ≤ 9 * 8 := Nat.mul_le_mul (by omega) (by omega)
  have htx : txtT w h t p K S = (headT w h t p ++ rowsT W K H) ++ S.flatMap slotT := by unfold txtT; rw [hW, hH, Int.toNat_natCast, Int.toNat_natCast, List.append_assoc]
  simp only [strB_append]
  simp only [strB_size, List.length_append, List.length_cons, List.length_nil]
  refine ⟨by omega, ⟨by omega, fun a ha => ?_, hnb⟩, by omega, by omega, ?_⟩
  · match a, ha with
    | 0, _ => rfl
    | 1, _ => rfl
    | 2, _ => rfl
    | 3, _ => rfl
  refine code_satS CX5_ok DX5_ok (n := 200) (n0 := 4) (nx := 4) (roots := []) (keep := [1, 3, 4, 5]) (drop := [2, 3]) (h := .nil) (body := bodyTx5) (by kernel_rfl) (by kernel_rfl)
    (fun q u => ∃ (y : Nat) (z : List UInt8), q = y ∧ y ≤ H ∧ z ++ rowsT W K y = headT w h t p ++ rowsT W K H ∧ u = invTx5 w h t p K S z ((y : Int) - 1))
    (fun e u => e = .exit 0 ∧ ∃ y, u = invTx5 w h t p K S (headT w h t p ++ rowsT W K H) y)
    ⟨_, _, ⟨H, headT w h t p, rfl, by omega, rfl, rfl⟩, ?_⟩ ?_ ?_
  · have e1 : w64 (h - 1) = (H : Int) - 1 := by rw [hH]; exact w64_of (by omega) (by omega)
    have e0 : strB [103, 114, 105, 100] ++ strB (numT [w, h, t, p]) ++ strB [10] = strB (headT w h t p) := by rw [strB_append, strB_append, hhd]
    refine (entA_sound (s' := ⟨[.unk, .ok (.ptr 0 0), .unk, .ok (.ptr 1 0), .ok (.d (.x (.string (strB [103, 114, 105, 100] ++ strB (numT [w, h, t, p]) ++ strB [10])))), .ok (iv (w64 (h - 1)))] ++ List.replicate 83 .unk, hpTx5 w h t p K S, 4, .nil⟩) (roots := []) (keep := [1, 3, 4, 5]) (drop := [2, 3]) (nx := 4) (h := .nil) (by kernel_rfl)).trans ?_
    rw [e0, e1]
    exact Gc.refl _ _
  · rintro q u ⟨_, z, rfl, hy, hz, rfl⟩
    have hzl := congrArg List.length hz
    rw [List.length_append, List.length_append] at hzl
    cases q with
    | zero =>
      refine Sat.of_eq (BTx5_eq w h t p K S z _) ⟨?_⟩
      unfold BTx5
      refine ⟨fun h2 => absurd h2 (by decide), fun _ => ?_⟩
      have : z = headT w h t p ++ rowsT W K H := by rw [← hz]; simp [rowsT]
      rw [this]
      exact ⟨_, ⟨rfl, _, rfl⟩, Gc.refl _ _⟩
    | succ y =>
      have ey : ((y + 1 : Nat) : Int) - 1 = (y : Int) := by omega
      rw [ey]
      have hyW : (y + 1) * W ≤ K.length := by rw [hKl, Nat.mul_comm]; exact Nat.mul_le_mul_left _ hy
      have hK1 : K.length ≤ 1000 := by
        have : W * H ≤ 8 * 8 := Nat.mul_le_mul (by omega) (by omega)
        omega
      have k0 := ty5_sat (w := w) (h := h) (t := t) (p := p) (K := K) (S := S) (W := W) (y := y) (z := z) hW (by omega) (by omega) hyW hK1 a6 (by omega)
      refine ⟨Tree.sat_mono (fun r hr => ?_) k0.ok⟩
      obtain ⟨ex, st⟩ := r
      obtain ⟨h6, h7⟩ := hr
      obtain rfl : ex = .normal := h6
      refine ⟨y, _, by omega, ⟨y, z ++ rowT W K y, rfl, by omega, ?_, rfl⟩, h7⟩
      rw [List.append_assoc, ← hz]; rfl
  · rintro e u ⟨rfl, y, rfl⟩
    rw [htx]
    have k0 := tz5_sat (w := w) (h := h) (t := t) (p := p) (K := K) (S := S) (z := headT w h t p ++ rowsT W K H) (y := y) (by have := hv.2.1; omega) hb (by rw [List.length_append]; omega)
    exact Sat.of_eq (tTz5_eq w h t p K S _ y) k0
def _root_.Go.Proofs.VcRO (w h t p : Int) (m : Nat) (c : Nat → Nat → DV) (k : Nat) (s : Nat → Nat → DV) : Prop := IntsD (.ro m 1 c) ∧ BadsD (.ro k 2 s) ∧ vchP w h t p (intsD (.ro m 1 c)) (badsD (.ro k 2 s))
def _root_.Go.Sx.txR (w h t p : Int) (m : Nat) (c : Nat → Nat → DV) (k : Nat) (s : Nat → Nat → DV) : List UInt8 := txtT w h t p (intsD (.ro m 1 c)) (badsD (.ro k 2 s))
noncomputable def cTx5 : Ctr := fun ss => match ss with
  | [.agg [.d (.x (.int .i64 w)), .d (.x (.int .i64 h)), .d (.x (.int .i64 t)), .d (.x (.int .i64 p)), .d (.ro m 1 c), .d (.ro k 2 s)]] => .need (VcRO w h t p m c k s) (.ret (strV (txR w h t p m c k s)))
  | _ => .fail
theorem cTx5_ok : CtrOK Tryz.prog 33 cTx5 := by
  refine ctrOK_repS CX5_ok DX5_ok (by kernel_rfl) (by kernel_rfl) fun ss r hr => ?_
  unfold cTx5 at hr
  split at hr
  · rename_i w h t p m c k s
    obtain ⟨⟨h1, h2, h3⟩, rfl⟩ := hr
    have k0 := tx5_sat h3
    refine ⟨_, 200, .nil, fun w' F vs hr => ?_, k0⟩
    exact repsA (fun v => chip_rep h1 h2) hr
  · exact hr.elim
end Go.Proofs.YtgahnelicbddcaaGreatDoor

namespace Go.Proofs.YtgahnelicbddcaaGreatDoor
open Go.Sx
set_option maxRecDepth 100000
noncomputable def tWt (L : List Int) (n : Int) : Tree SV := T0 .nil 41 [ivL L, iv n]
noncomputable def LWt (L : List Int) (n : Int) : Tree SV :=
  .code (codeC (sub [] (tWt L n))) (codeS (sub [] (tWt L n))) (codeK (sub [] (tWt L n)))

theorem LWt_eq (L : List Int) (n : Int) : tWt L n = LWt L n := by kernel_rfl

noncomputable def invWt (L : List Int) (n : Int) (z : Int) : AS := ⟨[.ok (ivL L), .ok (iv n), .unk, .unk, .unk, .ok (iv z)] ++ List.replicate 39 .unk, [], 0, .nil⟩
noncomputable def bodyWt : Code := loopN (bodyOf Tryz.prog 41) 0
noncomputable def BWt_q1 (L : List Int) (z : Int) : Bool :=
  decide (z < (↑(List.length L) : Int))
noncomputable def BWt_q2 (L : List Int) (i : Nat) (x : Nat) : DV :=
  DV.x (.int .i64 (List.getD L i (0 : Int)))
noncomputable def BWt (L : List Int) (n : Int) (z : Int) : Tree (Ex × AS) :=
  .need (BWt_q1 L z = true → (0 : Int) ≤ z ∧ z < (↑(List.length L) : Int))
  (.ite (BWt_q1 L z && decide (List.getD L (Int.toNat z) (0 : Int) < n))
   (.ret
   (.normal,
   {
   tm :=
   [.ok (SV.d (DV.ro (List.length L) 1 (BWt_q2 L))), .ok (iv n), .unk, .unk, .unk, .ok (iv (w64 (z + (1 : Int)))), .unk, .unk, .unk, .unk, .unk, .unk, .unk, .unk, .unk, .unk,
   .unk, .unk, .unk, .unk, .unk, .unk, .unk, .unk, .unk, .unk, .unk, .unk, .unk, .unk, .unk, .unk, .unk, .unk, .unk, .unk, .unk, .unk, .unk, .unk, .unk, .unk, .unk, .unk,
   .unk],
   hp := [], next := 0, hint := .nil }))
   (.ret
   (.exit 0,
   {
   tm :=
   [.ok (SV.d (DV.ro (List.length L) 1 (BWt_q2 L))), .ok (iv n), .unk, .unk, .unk, .ok (iv z), .unk, .unk, .unk, .unk, .unk, .unk, .unk, .unk, .unk, .unk, .unk, .unk, .unk,
   .unk, .unk, .unk, .unk, .unk, .unk, .unk, .unk, .unk, .unk, .unk, .unk, .unk, .unk, .unk, .unk, .unk, .unk, .unk, .unk, .unk, .unk, .unk, .unk, .unk, .unk],
   hp := [], next := 0, hint := .nil })))

theorem BWt_eq (L : List Int) (n : Int) (z : Int) : cutT 0 [] [0, 1, 5] [] 0 .nil (exec Tryz.prog C0 D0 200 bodyWt (invWt L n z)) = BWt L n z := by kernel_rfl

noncomputable def KWt_q1 (L : List Int) (z : Int) : Bool :=
  decide (z < (↑(List.length L) : Int))
noncomputable def KWt_q2 (L : List Int) (i : Nat) (x : Nat) : DV :=
  DV.x (.int .i64 (List.getD L i (0 : Int)))
noncomputable def KWt_q3 (L : List Int) (n : Int) (z : Int) (i : Nat) (j : Nat) : DV :=
  selD (decide (0 + i < 0 + (Int.toNat z - 0) + 1))
  (selD (decide (0 + (0 + i) < 0 + (Int.toNat z - 0))) (DV.x (.int .i64 (List.getD L (0 + (0 + (0 + (0 + i)) - 0)) (0 : Int))))
   (dsAt [DV.x (.int .i64 n)] (0 + (0 + (0 + (0 + i) - (0 + (Int.toNat z - 0)))) * 1 + j)))
  (DV.x (.int .i64 (List.getD L (Int.toNat z + (0 + i - (0 + (Int.toNat z - 0) + 1))) (0 : Int))))
noncomputable def KWt (L : List Int) (n : Int) (z : Int) : Tree SV :=
  .need (KWt_q1 L z = true → (0 : Int) ≤ z ∧ z < (↑(List.length L) : Int))
  (.ite (KWt_q1 L z && List.getD L (Int.toNat z) (0 : Int) == n) (.ret (SV.d (DV.ro (List.length L) 1 (KWt_q2 L))))
   (.need (((0 : Int) ≤ z ∧ Int.toNat z ≤ List.length L) ∧ True)
   (.need (0 ≤ 0 ∧ True ∧ (0 + (Int.toNat z - 0)) * 8 ≤ 140737488355328)
   (.need (0 + (0 + (Int.toNat z - 0)) ≤ 0 + (Int.toNat z - 0) ∧ 1 ≤ 1 ∧ (0 + (Int.toNat z - 0) + 1) * 8 ≤ 140737488355328)
   (.need (True ∧ (0 : Int) ≤ z ∧ Int.toNat z ≤ List.length L)
   (.need
   (0 + (0 + (Int.toNat z - 0) + 1) ≤ 0 + (Int.toNat z - 0) + 1 ∧
   True ∧ (0 + (Int.toNat z - 0) + 1 + (List.length L - Int.toNat z)) * 8 ≤ 140737488355328)
   (.need (0 + (0 + (Int.toNat z - 0) + 1 + (List.length L - Int.toNat z)) ≤ 0 + (Int.toNat z - 0) + 1 + (List.length L - Int.toNat z))
   (.ret (SV.d (DV.ro (0 + (Int.toNat z - 0) + 1 + (List.length L - Int.toNat z)) 1 (KWt_q3 L n z)))))))))))

theorem KWt_eq (L : List Int) (n : Int) (z : Int) : codeK (sub [] (tWt L n)) (.exit 0) (invWt L n z) = KWt L n z := by kernel_rfl


end Go.Proofs.YtgahnelicbddcaaGreatDoor

namespace Go.Sx
def ltC (n : Int) : List Int → Nat
  | [] => 0
  | a :: L => if a < n then ltC n L + 1 else 0
def wthL (L : List Int) (n : Int) : List Int := if ltC n L < L.length ∧ L.getD (ltC n L) 0 = n then L else L.take (ltC n L) ++ n :: L.drop (ltC n L)
def wthD (d : DV) (n : Int) : List Int := wthL (intsD d) n
theorem ltC_le (n : Int) : ∀ L : List Int, ltC n L ≤ L.length
  | [] => Nat.le_refl _
  | a :: L => by
    unfold ltC; split
    · have := ltC_le n L; simp only [List.length_cons]; omega
    · omega
theorem ltC_lt (n : Int) : ∀ (L : List Int) (i : Nat), i < ltC n L → L.getD i 0 < n
  | [], i, h => by simp [ltC] at h
  | a :: L, i, h => by
    unfold ltC at h
    split at h
    · match i with
      | 0 => simpa
      | i + 1 => rw [List.getD_cons_succ]; exact ltC_lt n L i (by omega)
    · omega
theorem ltC_ge (n : Int) : ∀ (L : List Int), ltC n L < L.length → n ≤ L.getD (ltC n L) 0
  | [], h => by simp at h
  | a :: L, h => by
    unfold ltC at h ⊢
    split
    · rename_i h1
      rw [if_pos h1] at h
      rw [List.getD_cons_succ]; exact ltC_ge n L (by simp only [List.length_cons] at h; omega)
    · simp; omega
theorem ltC_uni {n : Int} {L : List Int} {k : Nat} (h1 : ∀ i, i < k → L.getD i 0 < n) (hk : k ≤ L.length) (h2 : k < L.length → n ≤ L.getD k 0) : k = ltC n L := by
  rcases Nat.lt_trichotomy k (ltC n L) with h | h | h
  · have a := ltC_lt n L k h
    have b := ltC_le n L
    have := h2 (by omega); omega
  · exact h
  · have a := h1 _ h
    have := ltC_ge n L (by omega); omega
theorem wth_ris {L : List Int} {n M : Int} (h : risP L M) (hn : 0 ≤ n ∧ n < M) : risP (wthL L n) M := by
  unfold wthL
  split
  · exact h
  rename_i hne
  have hk := ltC_le n L
  have a1 := ltC_lt n L
  have a2 := ltC_ge n L
  generalize ltC n L = k at *
  have a3 : k < L.length → n < L.getD k 0 := fun hl => by
    have := a2 hl
    have : L.getD k 0 ≠ n := fun e => hne ⟨hl, e⟩
    omega
  intro i hi
  simp only [List.length_append, List.length_take, List.length_cons, List.length_drop] at hi
  have hi : i < L.length + 1 := by omega
  rw [ins_get hk]
  by_cases c1 : i < k
  · rw [if_pos c1]
    have r := h i (by omega)
    refine ⟨r.1, fun h0 => ?_⟩
    rw [ins_get hk, if_pos (by omega)]
    exact r.2 h0
  · rw [if_neg c1]
    by_cases c2 : i = k
    · rw [if_pos c2]
      refine ⟨hn, fun h0 => ?_⟩
      rw [ins_get hk, if_pos (by omega)]
      exact a1 (i - 1) (by omega)
    · rw [if_neg c2]
      have r := h (i - 1) (by omega)
      refine ⟨r.1, fun h0 => ?_⟩
      rw [ins_get hk, if_neg (by omega)]
      by_cases c3 : i - 1 = k
      · rw [if_pos c3]
        have := a3 (by omega)
        rw [c3]; exact this
      · rw [if_neg c3]
        exact r.2 (by omega)
theorem wth_len (L : List Int) (n : Int) : (wthL L n).length ≤ L.length + 1 := by
  unfold wthL
  have := ltC_le n L
  split
  · omega
  · simp only [List.length_append, List.length_take, List.length_cons, List.length_drop]; omega
end Go.Sx
namespace Go.Proofs.YtgahnelicbddcaaGreatDoor
open Go.Sx
set_option maxRecDepth 100000
theorem wt_sat {L : List Int} {n : Int} (hl : L.length ≤ 1000000) : Sat Tryz.prog (tWt L n) fun r => leSV 0 [] [] r (ivL (wthL L n)) := by
  constructor
  rw [LWt_eq]; unfold LWt
  refine code_satS C0_ok D0_ok (n := 200) (n0 := 0) (nx := 0) (roots := []) (keep := [0, 1, 5]) (drop := []) (h := .nil) (c := codeC (sub [] (tWt L n))) (st := codeS (sub [] (tWt L n))) (k := codeK (sub [] (tWt L n))) (body := bodyWt) (by kernel_rfl) (by kernel_rfl)
    (fun q s => ∃ j : Nat, q = L.length - j ∧ j ≤ L.length ∧ (∀ i, i < j → L.getD i 0 < n) ∧ s = invWt L n j)
    (fun e s => e = .exit 0 ∧ s = invWt L n (ltC n L : Nat))
    ⟨_, _, ⟨0, rfl, by omega, fun i hi => by omega, rfl⟩, ?_⟩ ?_ ?_
  · exact entA_sound (roots := []) (keep := [0, 1, 5]) (drop := []) (nx := 0) (h := .nil) (by kernel_rfl)
  · rintro q s ⟨j, rfl, hj, hn, rfl⟩
    refine Sat.of_eq (BWt_eq L n j) ?_
    constructor; unfold BWt BWt_q1
    rw [Int.toNat_natCast]
    refine ⟨fun h1 => ?_, fun h1 => ?_, fun h1 => ?_⟩
    · rw [decide_eq_true_eq] at h1; omega
    · simp only [Bool.and_eq_true, decide_eq_true_eq] at h1
      rw [w64_of (n := (j : Int) + 1) (by omega) (by omega)]
      refine ⟨L.length - (j + 1), _, by omega, ⟨j + 1, rfl, by omega, fun i hi => ?_, rfl⟩, Gc.refl _ _⟩
      by_cases hij : i = j
      · subst hij; exact h1.2
      · exact hn i (by omega)
    · simp only [Bool.and_eq_false_iff, decide_eq_false_iff_not] at h1
      have hu := ltC_uni (n := n) (L := L) (k := j) hn hj (fun h => by omega)
      refine ⟨_, ⟨rfl, ?_⟩, Gc.refl _ _⟩
      rw [← hu]; rfl
  · rintro e s ⟨rfl, rfl⟩
    refine Sat.of_eq (KWt_eq L n _) ⟨?_⟩
    unfold KWt KWt_q1
    have hk := ltC_le n L
    have e0 : wthL L n = if ltC n L < L.length ∧ L.getD (ltC n L) 0 = n then L else L.take (ltC n L) ++ n :: L.drop (ltC n L) := rfl
    have e3 : ∀ i, KWt_q3 L n (ltC n L : Nat) i 0 = .x (.int .i64 ((L.take (ltC n L) ++ n :: L.drop (ltC n L)).getD i 0)) := fun i => by
      have := ins_sel L n (ltC n L) i hk
      unfold KWt_q3
      rw [Int.toNat_natCast]
      simp only [Nat.zero_add, Nat.sub_zero] at this ⊢
      exact this
    rw [e0]
    generalize ltC n L = k at *
    rw [Int.toNat_natCast]
    refine ⟨fun h1 => by rw [decide_eq_true_eq] at h1; omega, fun h1 => ?_, fun h1 => ?_⟩
    · simp only [Bool.and_eq_true, decide_eq_true_eq, beq_iff_eq] at h1
      rw [if_pos ⟨by omega, h1.2⟩]
      exact ⟨rfl, rfl, fun i j hi hj => rfl⟩
    · simp only [Bool.and_eq_false_iff, decide_eq_false_iff_not, beq_eq_false_iff_ne, ne_eq] at h1
      rw [if_neg (by omega)]
      refine ⟨⟨⟨by omega, by omega⟩, trivial⟩, ⟨by omega, trivial, by omega⟩, ⟨by omega, by omega, by omega⟩, ⟨trivial, by omega, by omega⟩, ⟨by omega, trivial, by omega⟩, by omega, ?_⟩
      refine ⟨?_, rfl, fun i j hi hj => ?_⟩
      · simp only [List.length_append, List.length_take, List.length_cons, List.length_drop]; omega
      · obtain rfl : j = 0 := by omega
        exact e3 i
theorem ctrOK_repR {P : Program} {C : Ctx} {dr : Dr} (hC : CtxOK P C) (hD : DrOK P C dr) {k : FuncId} {c : Ctr} (hf : (P.funcs[k]?).isSome = true) (hb : (fnOf P k).body.isSome = true)
    (h : ∀ ss r, (c ss).ev r → ∃ ss' n hint, (∀ (w : World) (F : Nat → Prop) vs, Reps w emp F vs ss → Reps w emp F vs ss') ∧ leSVs 0 [] [] ss' ss' ∧ Sat P (fnT P C dr n (fnOf P k) (bodyOf P k) ss' hint) (fun r' => leSV 0 [] [] r' r)) : CtrOK P k c := by
  intro ss vs w F r hF hgl hr hev
  obtain ⟨ss', n, hint, h1, h0, h2⟩ := h ss r hev
  have h3 : CtrOK P k (fun s => .need (s = ss') (.ret r)) := ctrOK_leR hC hD hf hb fun s r' hr' => by
    obtain ⟨rfl, rfl⟩ := hr'
    exact ⟨s, n, hint, h0, h2⟩
  exact h3 ss' vs w F r hF hgl (h1 w F vs hr) ⟨rfl, rfl⟩
noncomputable def cWt : Ctr := fun ss => match ss with
  | [.d d, .d (.x (.int .i64 n))] => .need (IntsD d ∧ (intsD d).length ≤ 1000000) (.ret (ivL (wthD d n)))
  | _ => .fail
theorem cWt_ok : CtrOK Tryz.prog 41 cWt := by
  refine ctrOK_repR C0_ok D0_ok (by kernel_rfl) (by kernel_rfl) fun ss r hr => ?_
  unfold cWt at hr
  split at hr
  · rename_i d n
    obtain ⟨⟨h1, h2⟩, rfl⟩ := hr
    have k0 := wt_sat (n := n) h2
    refine ⟨_, 200, .nil, fun w F vs hr => ?_, ?_, k0⟩
    · exact repsB (fun v h => .d (ints_canon h1 (rep_d' h))) (fun v h => h) hr
    · exact ⟨⟨rfl, rfl, fun i j hi hj => rfl⟩, rfl, by simp only [leSVs]⟩
  · exact hr.elim
end Go.Proofs.YtgahnelicbddcaaGreatDoor

namespace Go.Proofs.YtgahnelicbddcaaGreatDoor
open Go.Sx
set_option maxRecDepth 100000
noncomputable def manB : FuncId → Option Ctr := fun k => match k with
  | 41 => some cWt
  | 25 => some cCt
  | _ => none
theorem manB_ok (k : Nat) (c : Ctr) (h : manB k = some c) : CtrOK Tryz.prog k c ∧ goodF Tryz.prog k = true := by
  unfold manB at h
  split at h
  · cases h; exact ⟨cWt_ok, by kernel_rfl⟩
  · cases h; exact ⟨cCt_ok.2, by kernel_rfl⟩
  · cases h
noncomputable def CBd : Ctx := ctxN Tryz.prog manB (fun _ => false) 200 .nil 8
theorem CBd_ok : CtxOK Tryz.prog CBd := ctxN_ok mixed manB_ok 8
noncomputable def DBd : Dr := fun _ => drawn Tryz.prog CBd
theorem DBd_ok : DrOK Tryz.prog CBd DBd := drawn_ok CBd_ok mixed
noncomputable def TB (h : Hint) (k : Nat) (args : List SV) : Tree SV := fnT Tryz.prog CBd DBd 200 (fnOf Tryz.prog k) (bodyOf Tryz.prog k) args h
noncomputable def tBd (w h t p : Int) (m : Nat) (c : Nat → Nat → DV) (k : Nat) (f : Nat → Int) : Tree SV := TB .nil 15 [gridV w h t p (.d (.ro m 1 c)), byT k f]
noncomputable def LBd (w h t p : Int) (m : Nat) (c : Nat → Nat → DV) (k : Nat) (f : Nat → Int) : Tree SV :=
  .code (codeC (sub [] (tBd w h t p m c k f))) (codeS (sub [] (tBd w h t p m c k f))) (codeK (sub [] (tBd w h t p m c k f)))

theorem LBd_eq (w h t p : Int) (m : Nat) (c : Nat → Nat → DV) (k : Nat) (f : Nat → Int) : tBd w h t p m c k f = LBd w h t p m c k f := by kernel_rfl

noncomputable def invBd (w h t p : Int) (m : Nat) (c : Nat → Nat → DV) (k : Nat) (f : Nat → Int) (T N : List Int) (z : Int) : AS := ⟨[.unk, .ok (byT k f), .ok (.ptr 0 0), .unk, .ok (.ptr 1 0), .ok (.ptr 2 0), .ok (iv z)] ++ List.replicate 52 .unk, [some (.cells [iv w, iv h, iv t, iv p, .d (.ro m 1 c)]), some (.cells [nilD, nilD]), some (.cells [ivL T, ivL N]), none], 4, .nil⟩
noncomputable def bodyBd : Code := loopN (bodyOf Tryz.prog 15) 0
noncomputable def BBd_q1 (T : List Int) (i : Nat) (x : Nat) : DV :=
  DV.x (.int .i64 (List.getD T i (0 : Int)))
noncomputable def BBd_q2 (f : Nat → Int) (i : Nat) (x : Nat) : DV :=
  DV.x (.int .u8 (f i))
noncomputable def BBd_q3 (w : Int) (h : Int) (f : Nat → Int) (T : List Int) (z : Int) (i : Nat) (x : Nat) : DV :=
  DV.x (.int .i64 (List.getD (wthD (DV.ro (List.length T) 1 (BBd_q1 T)) (Int.tmod (w64 (w64 ((256 : Int) * w64 (f (Int.toNat z))) + w64 (f (Int.toNat (w64 (z + (1 : Int))))))) (w64 (w * h)))) i (0 : Int)))
noncomputable def BBd_q4 (N : List Int) (i : Nat) (x : Nat) : DV :=
  DV.x (.int .i64 (List.getD N i (0 : Int)))
noncomputable def BBd_q5 (w : Int) (h : Int) (t : Int) (p : Int) (f : Nat → Int) (N : List Int) (z : Int) (i : Nat) (x : Nat) : DV :=
  DV.x (.int .i64 (List.getD (wthD (DV.ro (List.length N) 1 (BBd_q4 N)) (Int.tmod (w64 (w64 ((256 : Int) * w64 (f (Int.toNat z))) + w64 (f (Int.toNat (w64 (z + (1 : Int))))))) (gN w h t p))) i (0 : Int)))
noncomputable def BBd (w h t p : Int) (m : Nat) (c : Nat → Nat → DV) (k : Nat) (f : Nat → Int) (T N : List Int) (z : Int) : Tree (Ex × AS) :=
 .ite (decide (w64 (z + (1 : Int)) < (↑k : Int)) && decide (z < (12 : Int)))
 (.need ((0 : Int) ≤ z ∧ z < (↑k : Int))
 (.need ((0 : Int) ≤ w64 (z + (1 : Int)) ∧ w64 (z + (1 : Int)) < (↑k : Int))
 (.need ((0 : Int) ≤ z ∧ z < (↑k : Int))
 (.need ((4 : Int) ≠ (0 : Int))
 (.ite (Int.tmod (f (Int.toNat z)) (4 : Int) == (1 : Int))
 (.need (w64 (w * h) ≠ (0 : Int))
 (.need ((1 = 1 ∧ IntRow (List.length T) (BBd_q1 T)) ∧ List.length (intsD (DV.ro (List.length T) 1 (BBd_q1 T))) ≤ 1000000)
 (.ret
 (.normal,
 {
 tm :=
 [.unk, .ok (SV.d (DV.ro k 1 (BBd_q2 f))), .ok (SV.ptr 0 0), .unk, .ok (SV.ptr 1 0), .ok (SV.ptr 2 0),
 .ok (iv (w64 (z + (2 : Int)))), .unk, .unk, .unk, .unk, .unk, .unk, .unk, .unk, .unk, .unk, .unk, .unk, .unk, .unk, .unk, .unk, .unk, .unk, .unk, .unk, .unk, .unk,
 .unk, .unk, .unk, .unk, .unk, .unk, .unk, .unk, .unk, .unk, .unk, .unk, .unk, .unk, .unk, .unk, .unk, .unk, .unk, .unk, .unk, .unk, .unk, .unk, .unk, .unk,
 .unk, .unk, .unk, .unk],
 hp :=
 [some (.cells [iv w, iv h, iv t, iv p, SV.d (DV.ro m 1 c)]), some (.cells [SV.d (DV.x (.slice none 0 0)), SV.d (DV.x (.slice none 0 0))]),
 some
 (.cells
 [SV.d
 (DV.ro (List.length (wthD (DV.ro (List.length T) 1 (BBd_q1 T)) (Int.tmod (w64 (w64 ((256 : Int) * w64 (f (Int.toNat z))) + w64 (f (Int.toNat (w64 (z + (1 : Int))))))) (w64 (w * h)))))
 1 (BBd_q3 w h f T z)),
 SV.d (DV.ro (List.length N) 1 (BBd_q4 N))]),
 none],
 next := 4, hint := .nil }))))
 (.need (okG w h t p)
 (.need (gN w h t p ≠ (0 : Int))
 (.need ((1 = 1 ∧ IntRow (List.length N) (BBd_q4 N)) ∧ List.length (intsD (DV.ro (List.length N) 1 (BBd_q4 N))) ≤ 1000000)
 (.ret
 (.normal,
 {
 tm :=
 [.unk, .ok (SV.d (DV.ro k 1 (BBd_q2 f))), .ok (SV.ptr 0 0), .unk, .ok (SV.ptr 1 0), .ok (SV.ptr 2 0),
 .ok (iv (w64 (z + (2 : Int)))), .unk, .unk, .unk, .unk, .unk, .unk, .unk, .unk, .unk, .unk, .unk, .unk, .unk, .unk, .unk, .unk, .unk, .unk, .unk, .unk, .unk, .unk,
 .unk, .unk, .unk, .unk, .unk, .unk, .unk, .unk, .unk, .unk, .unk, .unk, .unk, .unk, .unk, .unk, .unk, .unk, .unk, .unk, .unk, .unk, .unk, .unk, .unk, .unk,
 .unk, .unk, .unk, .unk],
 hp :=
 [some (.cells [iv w, iv h, iv t, iv p, SV.d (DV.ro m 1 c)]), some (.cells [SV.d (DV.x (.slice none 0 0)), SV.d (DV.x (.slice none 0 0))]),
 some
 (.cells
 [SV.d (DV.ro (List.length T) 1 (BBd_q1 T)),
 SV.d
 (DV.ro (List.length (wthD (DV.ro (List.length N) 1 (BBd_q4 N)) (Int.tmod (w64 (w64 ((256 : Int) * w64 (f (Int.toNat z))) + w64 (f (Int.toNat (w64 (z + (1 : Int))))))) (gN w h t p))))
 1 (BBd_q5 w h t p f N z))]),
 none],
 next := 4, hint := .nil }))))))))))
 (.ret
 (.exit 0,
 {
 tm :=
 [.unk, .ok (SV.d (DV.ro k 1 (BBd_q2 f))), .ok (SV.ptr 0 0), .unk, .ok (SV.ptr 1 0), .ok (SV.ptr 2 0), .ok (iv z), .unk, .unk,
 .unk, .unk, .unk, .unk, .unk, .unk, .unk, .unk, .unk, .unk, .unk, .unk, .unk, .unk, .unk, .unk, .unk, .unk, .unk, .unk, .unk, .unk, .unk, .unk, .unk, .unk, .unk, .unk,
 .unk, .unk, .unk, .unk, .unk, .unk, .unk, .unk, .unk, .unk, .unk, .unk, .unk, .unk, .unk, .unk, .unk, .unk, .unk, .unk, .unk, .unk],
 hp :=
 [some (.cells [iv w, iv h, iv t, iv p, SV.d (DV.ro m 1 c)]), some (.cells [SV.d (DV.x (.slice none 0 0)), SV.d (DV.x (.slice none 0 0))]),
 some (.cells [SV.d (DV.ro (List.length T) 1 (BBd_q1 T)), SV.d (DV.ro (List.length N) 1 (BBd_q4 N))]), none],
 next := 4, hint := .nil }))

theorem BBd_eq (w h t p : Int) (m : Nat) (c : Nat → Nat → DV) (k : Nat) (f : Nat → Int) (T N : List Int) (z : Int) : cutT 4 [] [1, 2, 4, 5, 6] [3] 4 .nil (exec Tryz.prog CBd DBd 200 bodyBd (invBd w h t p m c k f T N z)) = BBd w h t p m c k f T N z := by kernel_rfl

noncomputable def KBd_q1 (T : List Int) (i : Nat) (x : Nat) : DV :=
  DV.x (.int .i64 (List.getD T i (0 : Int)))
noncomputable def KBd_q2 (N : List Int) (i : Nat) (x : Nat) : DV :=
  DV.x (.int .i64 (List.getD N i (0 : Int)))
noncomputable def KBd (w h t p : Int) (m : Nat) (c : Nat → Nat → DV) (k : Nat) (f : Nat → Int) (T N : List Int) (z : Int) : Tree SV :=
  .ret (SV.agg [SV.d (DV.ro (List.length T) 1 (KBd_q1 T)), SV.d (DV.ro (List.length N) 1 (KBd_q2 N))])

theorem KBd_eq (w h t p : Int) (m : Nat) (c : Nat → Nat → DV) (k : Nat) (f : Nat → Int) (T N : List Int) (z : Int) : codeK (sub [] (tBd w h t p m c k f)) (.exit 0) (invBd w h t p m c k f T N z) = KBd w h t p m c k f T N z := by kernel_rfl


end Go.Proofs.YtgahnelicbddcaaGreatDoor

namespace Go.Sx
def bdSt (w h t p : Int) (f : Nat → Int) : Nat → List Int × List Int
  | 0 => ([], [])
  | j + 1 => if f (2 * j) % 4 = 1 then (wthL (bdSt w h t p f j).1 ((256 * f (2 * j) + f (2 * j + 1)) % (w * h)), (bdSt w h t p f j).2)
    else ((bdSt w h t p f j).1, wthL (bdSt w h t p f j).2 ((256 * f (2 * j) + f (2 * j + 1)) % gN w h t p))
def bdJ (k : Nat) : Nat := if k / 2 < 6 then k / 2 else 6
def bdT (w h t p : Int) (k : Nat) (f : Nat → Nat → DV) : List Int := (bdSt w h t p (fun i => intCell (f i 0)) (bdJ k)).1
def bdNd (w h t p : Int) (k : Nat) (f : Nat → Nat → DV) : List Int := (bdSt w h t p (fun i => intCell (f i 0)) (bdJ k)).2
theorem bdSt_len (w h t p : Int) (f : Nat → Int) : ∀ j, (bdSt w h t p f j).1.length ≤ j ∧ (bdSt w h t p f j).2.length ≤ j
  | 0 => ⟨Nat.le_refl _, Nat.le_refl _⟩
  | j + 1 => by
    have ih := bdSt_len w h t p f j
    unfold bdSt
    split
    · have := wth_len (bdSt w h t p f j).1 ((256 * f (2 * j) + f (2 * j + 1)) % (w * h))
      simp only; omega
    · have := wth_len (bdSt w h t p f j).2 ((256 * f (2 * j) + f (2 * j + 1)) % gN w h t p)
      simp only; omega
theorem bdSt_ris {w h t p : Int} (h1 : 1 ≤ w * h) (h2 : 1 ≤ gN w h t p) (f : Nat → Int) : ∀ j, risP (bdSt w h t p f j).1 (w * h) ∧ risP (bdSt w h t p f j).2 (gN w h t p)
  | 0 => ⟨fun i hi => absurd hi (Nat.not_lt_zero _), fun i hi => absurd hi (Nat.not_lt_zero _)⟩
  | j + 1 => by
    have ih := bdSt_ris h1 h2 f j
    unfold bdSt
    split
    · exact ⟨wth_ris ih.1 ⟨Int.emod_nonneg _ (by omega), Int.emod_lt_of_pos _ (by omega)⟩, ih.2⟩
    · exact ⟨ih.1, wth_ris ih.2 ⟨Int.emod_nonneg _ (by omega), Int.emod_lt_of_pos _ (by omega)⟩⟩
end Go.Sx
namespace Go.Proofs.YtgahnelicbddcaaGreatDoor
open Go.Sx
set_option maxRecDepth 100000
theorem wh_pos {w h t p : Int} (hg : okG w h t p) : 1 ≤ w * h ∧ w * h ≤ 64 := by
  obtain ⟨⟨a1, a2⟩, ⟨b1, b2⟩, _⟩ := hg
  have h1 : 1 * 1 ≤ w * h := Int.mul_le_mul (by omega) (by omega) (by omega) (by omega)
  have h2 : w * h ≤ 8 * 8 := Int.mul_le_mul (by omega) (by omega) (by omega) (by omega)
  omega
theorem bd_sat {w h t p : Int} {m : Nat} {c : Nat → Nat → DV} {k : Nat} {f : Nat → Int} (hg : okG w h t p) (hf : ∀ i, i < k → 0 ≤ f i ∧ f i < 256) :
    Sat Tryz.prog (tBd w h t p m c k f) (· = .agg [ivL (bdSt w h t p f (bdJ k)).1, ivL (bdSt w h t p f (bdJ k)).2]) := by
  constructor
  rw [LBd_eq]; unfold LBd
  have ewh : w64 (w * h) = w * h := (wr hg).wh
  have hwh := wh_pos hg
  have hN := cnt_pos hg
  refine code_satS CBd_ok DBd_ok (n := 200) (n0 := 4) (nx := 4) (roots := []) (keep := [1, 2, 4, 5, 6]) (drop := [3]) (h := .nil) (c := codeC (sub [] (tBd w h t p m c k f))) (st := codeS (sub [] (tBd w h t p m c k f))) (k := codeK (sub [] (tBd w h t p m c k f))) (body := bodyBd) (by kernel_rfl) (by kernel_rfl)
    (fun q s => ∃ j : Nat, q = 7 - j ∧ j ≤ 6 ∧ 2 * j ≤ k ∧ s = invBd w h t p m c k f (bdSt w h t p f j).1 (bdSt w h t p f j).2 ((2 * j : Nat) : Int))
    (fun e s => e = .exit 0 ∧ ∃ z, s = invBd w h t p m c k f (bdSt w h t p f (bdJ k)).1 (bdSt w h t p f (bdJ k)).2 z)
    ⟨_, _, ⟨0, rfl, by omega, by omega, rfl⟩, ?_⟩ ?_ ?_
  · refine (entA_sound (s' := ⟨[.unk, .ok (byT k f), .ok (.ptr 0 0), .unk, .ok (.ptr 1 0), .ok (.ptr 2 0), .ok (iv 0)] ++ List.replicate 52 .unk, [some (.cells [iv w, iv h, iv t, iv p, .d (.ro m 1 c)]), some (.cells [nilD, nilD]), some (.cells [nilD, nilD]), none], 4, .nil⟩) (roots := []) (keep := [1, 2, 4, 5, 6]) (drop := [3]) (nx := 4) (h := .nil) (by kernel_rfl)).trans ?_
    refine gc_sound [] [] rfl ?_ ?_
    · simp [invBd, leTm, leTV, leSV, leSVs, rn, iv, leD, List.replicate, byT]
    · simp [invBd, leHp, leBlk, leSVs, leSV, rn, iv, leD, srcOf, hget, nilD, ivL, bdSt]
  · rintro q s ⟨j, rfl, hj, hjk, rfl⟩
    refine Sat.of_eq (BBd_eq w h t p m c k f _ _ _) ?_
    constructor; unfold BBd
    have hw1 : w64 (((2 * j : Nat) : Int) + 1) = ((2 * j + 1 : Nat) : Int) := by rw [w64_of (by omega) (by omega)]; omega
    have hw2 : w64 (((2 * j : Nat) : Int) + 2) = ((2 * (j + 1) : Nat) : Int) := by rw [w64_of (by omega) (by omega)]; omega
    have hl := bdSt_len w h t p f j
    have d1 : ∀ L : List Int, intsD (.ro L.length 1 fun i _ => .x (.int .i64 (L.getD i 0))) = L := fun L => lsOf_cellL L
    rw [hw1]
    refine ⟨fun h1 => ?_, fun h1 => ?_⟩
    · simp only [Bool.and_eq_true, decide_eq_true_eq] at h1
      have f0 := hf (2 * j) (by omega)
      have f1 := hf (2 * j + 1) (by omega)
      have et : Int.tmod (f (2 * j)) 4 = f (2 * j) % 4 := Int.tmod_eq_emod_of_nonneg f0.1
      have ev : w64 (w64 (256 * w64 (f (2 * j))) + w64 (f (2 * j + 1))) = 256 * f (2 * j) + f (2 * j + 1) := by
        rw [w64_of (n := f (2 * j)) (by omega) (by omega), w64_of (n := f (2 * j + 1)) (by omega) (by omega), w64_of (n := 256 * f (2 * j)) (by omega) (by omega), w64_of (by omega) (by omega)]
      have q1 : BBd_q1 (bdSt w h t p f j).1 = fun i _ => .x (.int .i64 ((bdSt w h t p f j).1.getD i 0)) := rfl
      have q4 : BBd_q4 (bdSt w h t p f j).2 = fun i _ => .x (.int .i64 ((bdSt w h t p f j).2.getD i 0)) := rfl
      have w3 : ∀ x, wthD (.ro (bdSt w h t p f j).1.length 1 (BBd_q1 (bdSt w h t p f j).1)) x = wthL (bdSt w h t p f j).1 x := fun x => by unfold wthD; rw [q1, d1]
      have w4 : ∀ x, wthD (.ro (bdSt w h t p f j).2.length 1 (BBd_q4 (bdSt w h t p f j).2)) x = wthL (bdSt w h t p f j).2 x := fun x => by unfold wthD; rw [q4, d1]
      have s1 : bdSt w h t p f (j + 1) = if f (2 * j) % 4 = 1 then (wthL (bdSt w h t p f j).1 ((256 * f (2 * j) + f (2 * j + 1)) % (w * h)), (bdSt w h t p f j).2)
          else ((bdSt w h t p f j).1, wthL (bdSt w h t p f j).2 ((256 * f (2 * j) + f (2 * j + 1)) % gN w h t p)) := rfl
      have q3 : BBd_q3 w h f (bdSt w h t p f j).1 ((2 * j : Nat) : Int) = fun i _ => .x (.int .i64 ((wthL (bdSt w h t p f j).1 ((256 * f (2 * j) + f (2 * j + 1)) % (w * h))).getD i 0)) := by
        funext i x; unfold BBd_q3; rw [w3, hw1, Int.toNat_natCast, Int.toNat_natCast, ev, ewh, Int.tmod_eq_emod_of_nonneg (by omega)]
      have q5 : BBd_q5 w h t p f (bdSt w h t p f j).2 ((2 * j : Nat) : Int) = fun i _ => .x (.int .i64 ((wthL (bdSt w h t p f j).2 ((256 * f (2 * j) + f (2 * j + 1)) % gN w h t p)).getD i 0)) := by
        funext i x; unfold BBd_q5; rw [w4, hw1, Int.toNat_natCast, Int.toNat_natCast, ev, Int.tmod_eq_emod_of_nonneg (by omega)]
      rw [w3, w4, Int.toNat_natCast, Int.toNat_natCast, ev, ewh, et, Int.tmod_eq_emod_of_nonneg (show 0 ≤ 256 * f (2 * j) + f (2 * j + 1) by omega), Int.tmod_eq_emod_of_nonneg (show 0 ≤ 256 * f (2 * j) + f (2 * j + 1) by omega), q3, q5, hw2]
      refine ⟨by omega, by omega, by omega, by omega, fun h2 => ⟨by omega, ⟨⟨rfl, fun i hi => rfl⟩, by rw [q1, d1]; omega⟩, 7 - (j + 1), _, by omega, ⟨j + 1, rfl, by omega, by omega, rfl⟩, ?_⟩, fun h2 => ⟨hg, by omega, ⟨⟨rfl, fun i hi => rfl⟩, by rw [q4, d1]; omega⟩, 7 - (j + 1), _, by omega, ⟨j + 1, rfl, by omega, by omega, rfl⟩, ?_⟩⟩
      · rw [beq_iff_eq] at h2
        rw [s1, if_pos h2]
        exact Gc.refl _ _
      · rw [beq_eq_false_iff_ne] at h2
        rw [s1, if_neg h2]
        exact Gc.refl _ _
    · simp only [Bool.and_eq_false_iff, decide_eq_false_iff_not] at h1
      have hJ : bdJ k = j := by unfold bdJ; split <;> omega
      rw [hJ]
      exact ⟨_, ⟨rfl, _, rfl⟩, Gc.refl _ _⟩
  · rintro e s ⟨rfl, z, rfl⟩
    exact Sat.of_eq (KBd_eq w h t p m c k f _ _ z) ⟨rfl⟩
noncomputable def cBad : Ctr := fun ss => match ss with
  | [.agg [.d (.x (.int .i64 w)), .d (.x (.int .i64 h)), .d (.x (.int .i64 t)), .d (.x (.int .i64 p)), .d (.ro m 1 c)], .d (.ro k 1 f)] => .nd (okG w h t p) (.need (ByteRow k f) (.ret (.agg [ivL (bdT w h t p k f), ivL (bdNd w h t p k f)])))
  | _ => .fail
theorem cBad_ok : CtrOK Tryz.prog 15 cBad := by
  refine ctrOK_leS CBd_ok DBd_ok (by kernel_rfl) (by kernel_rfl) fun ss r hr => ?_
  unfold cBad at hr
  split at hr
  · rename_i w h t p m c k f
    obtain ⟨h1, h3, rfl⟩ := hr
    have k0 := bd_sat (m := m) (c := c) (f := fun i => intCell (f i 0)) h1 (fun i hi => (h3 i hi).2)
    refine ⟨_, 200, .nil, ?_, k0⟩
    unfold gridV byT iv
    simp only [leSVs, leSV, leD, and_true, true_and]
    refine ⟨fun i j hi hj => trivial, fun i j hi hj => ?_⟩
    obtain rfl : j = 0 := by omega
    exact (h3 i hi).1
  · exact hr.elim
theorem bd_ris {w h t p : Int} {k : Nat} {f : Nat → Nat → DV} (hg : okG w h t p) : risP (bdT w h t p k f) (w * h) ∧ risP (bdNd w h t p k f) (gN w h t p) := bdSt_ris (wh_pos hg).1 (cnt_pos hg).1 _ _
end Go.Proofs.YtgahnelicbddcaaGreatDoor

namespace Go.Sx
def _root_.Go.Proofs.BdIs (w h t p : Int) (k : Nat) (f : Nat → Nat → DV) (n0 : Nat) (c0 : Nat → Nat → DV) (n1 : Nat) (c1 : Nat → Nat → DV) : Prop :=
  Proofs.okG w h t p ∧ Proofs.ByteRow k f ∧ (bdT w h t p k f).length = n0 ∧ (fun (i _ : Nat) => DV.x (.int .i64 ((bdT w h t p k f).getD i 0))) = c0 ∧ (bdNd w h t p k f).length = n1 ∧ (fun (i _ : Nat) => DV.x (.int .i64 ((bdNd w h t p k f).getD i 0))) = c1
end Go.Sx
namespace Go.Proofs.YtgahnelicbddcaaGreatDoor
open Go.Sx
set_option maxRecDepth 100000
noncomputable def cBadV (n0 : Nat) (c0 : Nat → Nat → DV) (n1 : Nat) (c1 : Nat → Nat → DV) : Ctr := fun ss => match ss with
  | [.agg [.d (.x (.int .i64 w)), .d (.x (.int .i64 h)), .d (.x (.int .i64 t)), .d (.x (.int .i64 p)), .d (.ro m 1 c)], .d (.ro k 1 f)] => .need (BdIs w h t p k f n0 c0 n1 c1) (.ret (.agg [.d (.ro n0 1 c0), .d (.ro n1 1 c1)]))
  | _ => .fail
theorem cBadV_ok (n0 : Nat) (c0 : Nat → Nat → DV) (n1 : Nat) (c1 : Nat → Nat → DV) : CtrOK Tryz.prog 15 (cBadV n0 c0 n1 c1) := cBad_ok.mono fun ss r h => by
  unfold cBadV at h
  split at h
  · obtain ⟨⟨h1, h2, rfl, rfl, rfl, rfl⟩, rfl⟩ := h
    exact ⟨h1, h2, rfl⟩
  · exact h.elim
noncomputable def cTxV (tx : Int → Int → Int → Int → DV → DV → List UInt8) : Ctr := fun ss => match ss with
  | [.agg [.d (.x (.int .i64 w)), .d (.x (.int .i64 h)), .d (.x (.int .i64 t)), .d (.x (.int .i64 p)), .d (.ro m 1 c), .d (.ro k 2 s)]] => .need (TxtRO w h t p m c k s) (.ret (strV (tx w h t p (.ro m 1 c) (.ro k 2 s))))
  | _ => .fail
def txD (w h t p : Int) (kd sd : DV) : List UInt8 := txtT w h t p (intsD kd) (badsD sd)
theorem cTxV_ok : CtrOK Tryz.prog 16 (cTxV txD) := cTxt_ok.mono fun ss r h => by
  unfold cTxV at h
  split at h
  · exact h
  · exact h.elim
noncomputable def cPaV (gw gh gt gp : List UInt8 → Int) (gk : List UInt8 → List Int) (gn : List UInt8 → Nat) (gs : List UInt8 → Nat → Nat → DV) (ge : List UInt8 → Int) : Ctr := fun ss => match ss with
  | [.d (.x (.string s))] => .need (s.size ≤ 800000) (.ret (.tup [.agg [iv (gw s.data.toList), iv (gh s.data.toList), iv (gt s.data.toList), iv (gp s.data.toList), ivL (gk s.data.toList), .d (.ro (gn s.data.toList) 2 (gs s.data.toList))], iv (ge s.data.toList)]))
  | _ => .fail
def pN (s : List UInt8) : Nat := (pS s).length
def pSd (s : List UInt8) : Nat → Nat → DV := badC (pS s)
theorem cPaV_ok : CtrOK Tryz.prog 46 (cPaV pW pH pT pP pK pN pSd pE) := cPar_ok
def _root_.Go.Proofs.ChRO (m : Nat) (c : Nat → Nat → DV) (k : Nat) (s : Nat → Nat → DV) : Prop := ChOK (.ro m 1 c) (.ro k 2 s)
def _root_.Go.Sx.vchR (w h t p : Int) (m : Nat) (c : Nat → Nat → DV) (k : Nat) (s : Nat → Nat → DV) : Int := vchD w h t p (.ro m 1 c) (.ro k 2 s)
def _root_.Go.Sx.smeR (w h t p : Int) (m : Nat) (c : Nat → Nat → DV) (k : Nat) (s : Nat → Nat → DV) (w2 h2 t2 p2 : Int) (m2 : Nat) (c2 : Nat → Nat → DV) (k2 : Nat) (s2 : Nat → Nat → DV) : Bool := smeD w h t p (.ro m 1 c) (.ro k 2 s) w2 h2 t2 p2 (.ro m2 1 c2) (.ro k2 2 s2)
noncomputable def cVcR : Ctr := fun ss => match ss with
  | [.agg [.d (.x (.int .i64 w)), .d (.x (.int .i64 h)), .d (.x (.int .i64 t)), .d (.x (.int .i64 p)), .d (.ro m 1 c), .d (.ro k 2 s)]] => .need (ChRO m c k s) (.ret (iv (vchR w h t p m c k s)))
  | _ => .fail
theorem cVc20_ok : CtrOK Tryz.prog 20 cVcR := cVh_ok.mono fun ss r h => by
  unfold cVcR at h
  split at h
  · exact h
  · exact h.elim
theorem cVc19_ok : CtrOK Tryz.prog 19 cVcR := cVi_ok.mono fun ss r h => by
  unfold cVcR at h
  split at h
  · exact h
  · exact h.elim
noncomputable def cSmR : Ctr := fun ss => match ss with
  | [.agg [.d (.x (.int .i64 w)), .d (.x (.int .i64 h)), .d (.x (.int .i64 t)), .d (.x (.int .i64 p)), .d (.ro m 1 c), .d (.ro k 2 s)], .agg [.d (.x (.int .i64 w2)), .d (.x (.int .i64 h2)), .d (.x (.int .i64 t2)), .d (.x (.int .i64 p2)), .d (.ro m2 1 c2), .d (.ro k2 2 s2)]] => .need (ChRO m c k s ∧ ChRO m2 c2 k2 s2) (.ret (bv (smeR w h t p m c k s w2 h2 t2 p2 m2 c2 k2 s2)))
  | _ => .fail
theorem cSmR_ok : CtrOK Tryz.prog 18 cSmR := cSme_ok.mono fun ss r h => by
  unfold cSmR at h
  split at h
  · exact h
  · exact h.elim
end Go.Proofs.YtgahnelicbddcaaGreatDoor

namespace Go.Proofs.YtgahnelicbddcaaGreatDoor
open Go.Sx
set_option maxRecDepth 100000
noncomputable def manY5 : FuncId → Option Ctr := fun k => match k with
  | 51 => some cLn5
  | 52 => some cWd5
  | 53 => some cNr5
  | 54 => some cSl5
  | 19 => some cVcR
  | 33 => some cTx5
  | _ => none
theorem manY5_ok (k : Nat) (c : Ctr) (hk : manY5 k = some c) : CtrOK Tryz.prog k c ∧ goodF Tryz.prog k = true := by
  unfold manY5 at hk
  split at hk
  · cases hk; exact ⟨cLn5_ok, by kernel_rfl⟩
  · cases hk; exact ⟨cWd5_ok, by kernel_rfl⟩
  · cases hk; exact ⟨cNr5_ok, by kernel_rfl⟩
  · cases hk; exact ⟨cSl5_ok, by kernel_rfl⟩
  · cases hk; exact ⟨cVc19_ok, by kernel_rfl⟩
  · cases hk; exact ⟨cTx5_ok, by kernel_rfl⟩
  · cases hk
noncomputable def CY5 : Ctx := ctxN Tryz.prog manY5 (fun _ => false) 200 .nil 6
theorem CY5_ok : CtxOK Tryz.prog CY5 := ctxN_ok mixed manY5_ok 6
noncomputable def DY5 : Dr := fun _ => drawn Tryz.prog CY5
theorem DY5_ok : DrOK Tryz.prog CY5 DY5 := drawn_ok CY5_ok mixed
noncomputable def tPi5 (s : List UInt8) : Tree SV := fnT Tryz.prog CY5 DY5 200 (fnOf Tryz.prog 22) (bodyOf Tryz.prog 22) [strV s] .nil
noncomputable def LPi5 (s : List UInt8) : Tree SV :=
 .need (ByteArray.size (strB s) ≤ 1000000)
 (.ite ((↑(List.length (linesR (Array.toList (ByteArray.data (strB s))))) : Int) == (0 : Int) || decide ((↑(ByteArray.size (strB s)) : Int) > (200000 : Int)))
 (.ret (SV.agg [iv (0 : Int), iv (0 : Int), iv (0 : Int), iv (0 : Int), SV.d (DV.x (.slice none 0 0)), SV.d (DV.x (.slice none 0 0)), iv (5 : Int)]))
 (.need ((0 : Int) ≤ (0 : Int) ∧ (0 : Int) < (↑(List.length (linesR (Array.toList (ByteArray.data (strB s))))) : Int))
 (.need (ByteArray.size (strB (List.getD (linesR (Array.toList (ByteArray.data (strB s)))) 0 [])) ≤ 1000000)
 (.ite ((↑(List.length (wordsR (Array.toList (ByteArray.data (strB (List.getD (linesR (Array.toList (ByteArray.data (strB s)))) 0 [])))))) : Int) != (5 : Int))
 (.ret (SV.agg [iv (0 : Int), iv (0 : Int), iv (0 : Int), iv (0 : Int), SV.d (DV.x (.slice none 0 0)), SV.d (DV.x (.slice none 0 0)), iv (5 : Int)]))
 (.need ((0 : Int) ≤ (1 : Int) ∧ (1 : Int) < (↑(List.length (wordsR (Array.toList (ByteArray.data (strB (List.getD (linesR (Array.toList (ByteArray.data (strB s)))) 0 [])))))) : Int))
 (.need (ByteArray.size (strB (List.getD (wordsR (Array.toList (ByteArray.data (strB (List.getD (linesR (Array.toList (ByteArray.data (strB s)))) 0 []))))) 1 [])) ≤ 1000000)
 (.need ((0 : Int) ≤ (2 : Int) ∧ (2 : Int) < (↑(List.length (wordsR (Array.toList (ByteArray.data (strB (List.getD (linesR (Array.toList (ByteArray.data (strB s)))) 0 [])))))) : Int))
 (.need (ByteArray.size (strB (List.getD (wordsR (Array.toList (ByteArray.data (strB (List.getD (linesR (Array.toList (ByteArray.data (strB s)))) 0 []))))) 2 [])) ≤ 1000000)
 (.need ((0 : Int) ≤ (3 : Int) ∧ (3 : Int) < (↑(List.length (wordsR (Array.toList (ByteArray.data (strB (List.getD (linesR (Array.toList (ByteArray.data (strB s)))) 0 [])))))) : Int))
 (.need (ByteArray.size (strB (List.getD (wordsR (Array.toList (ByteArray.data (strB (List.getD (linesR (Array.toList (ByteArray.data (strB s)))) 0 []))))) 3 [])) ≤ 1000000)
 (.need ((0 : Int) ≤ (4 : Int) ∧ (4 : Int) < (↑(List.length (wordsR (Array.toList (ByteArray.data (strB (List.getD (linesR (Array.toList (ByteArray.data (strB s)))) 0 [])))))) : Int))
 (.need (ByteArray.size (strB (List.getD (wordsR (Array.toList (ByteArray.data (strB (List.getD (linesR (Array.toList (ByteArray.data (strB s)))) 0 []))))) 4 [])) ≤ 1000000)
 (.ite
 (decide
 (numR (Array.toList (ByteArray.data (strB (List.getD (wordsR (Array.toList (ByteArray.data (strB (List.getD (linesR (Array.toList (ByteArray.data (strB s)))) 0 []))))) 1 [])))) >
 (8 : Int)) ||
 decide
 (numR (Array.toList (ByteArray.data (strB (List.getD (wordsR (Array.toList (ByteArray.data (strB (List.getD (linesR (Array.toList (ByteArray.data (strB s)))) 0 []))))) 2 [])))) >
 (8 : Int)) ||
 decide
 ((↑(List.length (linesR (Array.toList (ByteArray.data (strB s))))) : Int) <
 w64
 ((1 : Int) +
 numR (Array.toList (ByteArray.data (strB (List.getD (wordsR (Array.toList (ByteArray.data (strB (List.getD (linesR (Array.toList (ByteArray.data (strB s)))) 0 []))))) 2 [])))))))
 (.ret (SV.agg [iv (0 : Int), iv (0 : Int), iv (0 : Int), iv (0 : Int), SV.d (DV.x (.slice none 0 0)), SV.d (DV.x (.slice none 0 0)), iv (5 : Int)]))
 (.code (codeC (sub [(0 : Nat), (1 : Nat), (0 : Nat), (0 : Nat), (1 : Nat), (0 : Nat), (0 : Nat), (0 : Nat), (0 : Nat), (0 : Nat), (0 : Nat), (0 : Nat), (0 : Nat), (1 : Nat)] (tPi5 s)))
 (codeS (sub [(0 : Nat), (1 : Nat), (0 : Nat), (0 : Nat), (1 : Nat), (0 : Nat), (0 : Nat), (0 : Nat), (0 : Nat), (0 : Nat), (0 : Nat), (0 : Nat), (0 : Nat), (1 : Nat)] (tPi5 s)))
 (codeK (sub [(0 : Nat), (1 : Nat), (0 : Nat), (0 : Nat), (1 : Nat), (0 : Nat), (0 : Nat), (0 : Nat), (0 : Nat), (0 : Nat), (0 : Nat), (0 : Nat), (0 : Nat), (1 : Nat)] (tPi5 s)))))))))))))))))

theorem LPi5_eq (s : List UInt8) : tPi5 s = LPi5 s := by kernel_rfl

noncomputable def hpPi5 (W H T P : Int) (K : List Int) (l : Nat) : List (Option Blk) := [some (.cells [iv 0, iv 0, iv 0, iv 0, nilD, nilD, iv 0])] ++ List.replicate 17 none ++ [some (.cells [iv W, iv H, iv T, iv P, .row l 0 0 K.length 1])]
noncomputable def invPi5 (s : List UInt8) (n : Nat) (C : Nat → List UInt8) (W H T P : Int) (K : List Int) (y : Int) : AS := ⟨[.ok (strV s), .unk, .ok (.ptr 0 0), .ok (strC n C), .unk, .ok (.ptr 18 0), .ok (iv y)] ++ List.replicate 130 .unk, hpPi5 W H T P K 20 ++ [none, some (lB K)], 21, .nil⟩
noncomputable def bodyPi5 : Code := loopN (bodyOf Tryz.prog 22) 0
noncomputable def bPi5 (s : List UInt8) (n : Nat) (C : Nat → List UInt8) (W H T P : Int) (K : List Int) (y : Int) : Tree (Ex × AS) := cutT 20 [(.cell (.base 18) 4, 20)] [0, 2, 3, 5, 6] [1, 2, 3, 4, 5, 6, 7, 8, 9, 10, 11, 12, 13, 14, 15, 16, 17, 19] 21 .nil (exec Tryz.prog CY5 DY5 200 bodyPi5 (invPi5 s n C W H T P K y))
noncomputable def BPi5_q1 (C : Nat → List UInt8) (i : Nat) (x : Nat) : DV :=
  DV.x (.string (strB (C i)))
noncomputable def BPi5_q2 (K : List Int) (i : Nat) (x : Nat) : DV :=
  DV.x (.int .i64 (List.getD K i (0 : Int)))
noncomputable def BPi5 (s : List UInt8) (n : Nat) (C : Nat → List UInt8) (W H T P : Int) (K : List Int) (y : Int) : Tree (Ex × AS) :=
 .ite (decide (y < H))
 (.need ((0 : Int) ≤ w64 (H - y) ∧ w64 (H - y) < (↑n : Int))
 (.code (codeC (sub [(0 : Nat), (0 : Nat)] (bPi5 s n C W H T P K y))) (codeS (sub [(0 : Nat), (0 : Nat)] (bPi5 s n C W H T P K y))) (codeK (sub [(0 : Nat), (0 : Nat)] (bPi5 s n C W H T P K y)))))
 (.ret
 (.exit 0,
 {
 tm :=
 [.ok (SV.d (DV.x (.string (strB s)))), .unk, .ok (SV.ptr 0 0), .ok (SV.d (DV.ro n 1 (BPi5_q1 C))), .unk, .ok (SV.ptr 18 0), .ok (iv y), .unk,
 .unk, .unk, .unk, .unk, .unk, .unk, .unk, .unk, .unk, .unk, .unk, .unk, .unk, .unk, .unk, .unk, .unk, .unk, .unk, .unk, .unk, .unk, .unk, .unk, .unk, .unk, .unk, .unk,
 .unk, .unk, .unk, .unk, .unk, .unk, .unk, .unk, .unk, .unk, .unk, .unk, .unk, .unk, .unk, .unk, .unk, .unk, .unk, .unk, .unk, .unk, .unk, .unk, .unk, .unk, .unk, .unk,
 .unk, .unk, .unk, .unk, .unk, .unk, .unk, .unk, .unk, .unk, .unk, .unk, .unk, .unk, .unk, .unk, .unk, .unk, .unk, .unk, .unk, .unk, .unk, .unk, .unk, .unk, .unk, .unk,
 .unk, .unk, .unk, .unk, .unk, .unk, .unk, .unk, .unk, .unk, .unk, .unk, .unk, .unk, .unk, .unk, .unk, .unk, .unk, .unk, .unk, .unk, .unk, .unk, .unk, .unk, .unk, .unk,
 .unk, .unk, .unk, .unk, .unk, .unk, .unk, .unk, .unk, .unk, .unk, .unk, .unk, .unk, .unk, .unk, .unk],
 hp :=
 [some (.cells [iv (0 : Int), iv (0 : Int), iv (0 : Int), iv (0 : Int), SV.d (DV.x (.slice none 0 0)), SV.d (DV.x (.slice none 0 0)), iv (0 : Int)]), none, none, none, none,
 none, none, none, none, none, none, none, none, none, none, none, none, none, some (.cells [iv W, iv H, iv T, iv P, SV.row 20 0 0 (List.length K) 1]), none,
 some (.row (List.length K) 1 (BPi5_q2 K))],
 next := 21, hint := .nil }))

theorem BPi5_eq (s : List UInt8) (n : Nat) (C : Nat → List UInt8) (W H T P : Int) (K : List Int) (y : Int) : bPi5 s n C W H T P K y = BPi5 s n C W H T P K y := by kernel_rfl

noncomputable def invPj5 (s : List UInt8) (n : Nat) (C : Nat → List UInt8) (W H T P : Int) (K : List Int) (y : Int) (u : List UInt8) (x : Int) : AS := ⟨[.ok (strV s), .unk, .ok (.ptr 0 0), .ok (strC n C), .unk, .ok (.ptr 18 0), .ok (iv y), .ok (strV u), .ok (iv x)] ++ List.replicate 128 .unk, hpPi5 W H T P K 21 ++ [none, none, some (lB K)], 22, .nil⟩
noncomputable def bodyPj5 : Code := loopN (bodyOf Tryz.prog 22) 1
noncomputable def BPj5_q1 (u : List UInt8) (x : Int) : Bool :=
  (↑(UInt8.toNat (Array.getD (ByteArray.data (strB u)) (Int.toNat x) (0 : UInt8))) : Int) == (77 : Int)
noncomputable def BPj5_q2 (C : Nat → List UInt8) (i : Nat) (x : Nat) : DV :=
  DV.x (.string (strB (C i)))
noncomputable def BPj5_q3 (K : List Int) (a : Nat) (b : Nat) : DV :=
  selD (decide (a < List.length K)) (DV.x (.int .i64 (List.getD K (0 + a) (0 : Int)))) (dsAt [DV.x (.int .i64 (2 : Int))] (0 + (0 + (a - List.length K)) * 1 + b))
noncomputable def BPj5_q4 (K : List Int) (a : Nat) (b : Nat) : DV :=
  selD (decide (a < List.length K)) (DV.x (.int .i64 (List.getD K (0 + a) (0 : Int)))) (dsAt [DV.x (.int .i64 (1 : Int))] (0 + (0 + (a - List.length K)) * 1 + b))
noncomputable def BPj5_q5 (K : List Int) (a : Nat) (b : Nat) : DV :=
  selD (decide (a < List.length K)) (DV.x (.int .i64 (List.getD K (0 + a) (0 : Int)))) (dsAt [DV.x (.int .i64 (0 : Int))] (0 + (0 + (a - List.length K)) * 1 + b))
noncomputable def BPj5_q6 (K : List Int) (i : Nat) (x : Nat) : DV :=
  DV.x (.int .i64 (List.getD K i (0 : Int)))
noncomputable def BPj5 (s : List UInt8) (n : Nat) (C : Nat → List UInt8) (W H T P : Int) (K : List Int) (y : Int) (u : List UInt8) (x : Int) : Tree (Ex × AS) :=
 .ite (decide (x < W) && decide (x < (↑(ByteArray.size (strB u)) : Int))) (.need ((0 : Int) ≤ x ∧ x < (↑(ByteArray.size (strB u)) : Int)) (.ite ((↑(UInt8.toNat (Array.getD (ByteArray.data (strB u)) (Int.toNat x) (0 : UInt8))) : Int) == (76 : Int)) (.need ((0 : Int) ≤ x ∧ x < (↑(ByteArray.size (strB u)) : Int)) (.ite (BPj5_q1 u x) (.need (0 + List.length K ≤ List.length K ∧ 1 ≤ 1 ∧ (List.length K + 1) * 8 ≤ 140737488355328) (.ret (.normal, { tm := [.ok (SV.d (DV.x (.string (strB s)))), .unk, .ok (SV.ptr 0 0), .ok (SV.d (DV.ro n 1 (BPj5_q2 C))), .unk, .ok (SV.ptr 18 0), .ok (iv y), .ok (SV.d (DV.x (.string (strB u)))), .ok (iv (w64 (x + (1 : Int)))), .unk, .unk, .unk, .unk, .unk, .unk, .unk, .unk, .unk, .unk, .unk, .unk, .unk, .unk, .unk, .unk, .unk, .unk, .unk, .unk, .unk, .unk, .unk, .unk, .unk, .unk, .unk, .unk, .unk, .unk, .unk, .unk, .unk, .unk, .unk, .unk, .unk, .unk, .unk, .unk, .unk, .unk, .unk, .unk, .unk, .unk, .unk, .unk, .unk, .unk, .unk, .unk, .unk, .unk, .unk, .unk, .unk, .unk, .unk, .unk, .unk, .unk, .unk, .unk, .unk, .unk, .unk, .unk, .unk, .unk, .unk, .unk, .unk, .unk, .unk, .unk, .unk, .unk, .unk, .unk, .unk, .unk, .unk, .unk, .unk, .unk, .unk, .unk, .unk, .unk, .unk, .unk, .unk, .unk, .unk, .unk, .unk, .unk, .unk, .unk, .unk, .unk, .unk, .unk, .unk, .unk, .unk, .unk, .unk, .unk, .unk, .unk, .unk, .unk, .unk, .unk, .unk, .unk, .unk, .unk, .unk, .unk, .unk, .unk, .unk, .unk, .unk, .unk], hp := [some (.cells [iv (0 : Int), iv (0 : Int), iv (0 : Int), iv (0 : Int), SV.d (DV.x (.slice none 0 0)), SV.d (DV.x (.slice none 0 0)), iv (0 : Int)]), none, none, none, none, none, none, none, none, none, none, none, none, none, none, none, none, none, some (.cells [iv W, iv H, iv T, iv P, SV.row 21 0 0 (List.length K + 1) 1]), none, none, some (.row (List.length K + 1) 1 (BPj5_q3 K))], next := 22, hint := .nil }))) (.need (0 + List.length K ≤ List.length K ∧ 1 ≤ 1 ∧ (List.length K + 1) * 8 ≤ 140737488355328) (.ret (.normal, { tm := [.ok (SV.d (DV.x (.string (strB s)))), .unk, .ok (SV.ptr 0 0), .ok (SV.d (DV.ro n 1 (BPj5_q2 C))), .unk, .ok (SV.ptr 18 0), .ok (iv y), .ok (SV.d (DV.x (.string (strB u)))), .ok (iv (w64 (x + (1 : Int)))), .unk, .unk, .unk, .unk, .unk, .unk, .unk, .unk, .unk, .unk, .unk, .unk, .unk, .unk, .unk, .unk, .unk, .unk, .unk, .unk, .unk, .unk, .unk, .unk, .unk, .unk, .unk, .unk, .unk, .unk, .unk, .unk, .unk, .unk, .unk, .unk, .unk, .unk, .unk, .unk, .unk, .unk, .unk, .unk, .unk, .unk, .unk, .unk, .unk, .unk, .unk, .unk, .unk, .unk, .unk, .unk, .unk, .unk, .unk, .unk, .unk, .unk, .unk, .unk, .unk, .unk, .unk, .unk, .unk, .unk, .unk, .unk, .unk, .unk, .unk, .unk, .unk, .unk, .unk, .unk, .unk, .unk, .unk, .unk, .unk, .unk, .unk, .unk, .unk, .unk, .unk, .unk, .unk, .unk, .unk, .unk, .unk, .unk, .unk, .unk, .unk, .unk, .unk, .unk, .unk, .unk, .unk, .unk, .unk, .unk, .unk, .unk, .unk, .unk, .unk, .unk, .unk, .unk, .unk, .unk, .unk, .unk, .unk, .unk, .unk, .unk, .unk, .unk], hp := [some (.cells [iv (0 : Int), iv (0 : Int), iv (0 : Int), iv (0 : Int), SV.d (DV.x (.slice none 0 0)), SV.d (DV.x (.slice none 0 0)), iv (0 : Int)]), none, none, none, none, none, none, none, none, none, none, none, none, none, none, none, none, none, some (.cells [iv W, iv H, iv T, iv P, SV.row 21 0 0 (List.length K + 1) 1]), none, none, some (.row (List.length K + 1) 1 (BPj5_q4 K))], next := 22, hint := .nil }))))) (.need ((0 : Int) ≤ x ∧ x < (↑(ByteArray.size (strB u)) : Int)) (.ite (BPj5_q1 u x) (.need (0 + List.length K ≤ List.length K ∧ 1 ≤ 1 ∧ (List.length K + 1) * 8 ≤ 140737488355328) (.ret (.normal, { tm := [.ok (SV.d (DV.x (.string (strB s)))), .unk, .ok (SV.ptr 0 0), .ok (SV.d (DV.ro n 1 (BPj5_q2 C))), .unk, .ok (SV.ptr 18 0), .ok (iv y), .ok (SV.d (DV.x (.string (strB u)))), .ok (iv (w64 (x + (1 : Int)))), .unk, .unk, .unk, .unk, .unk, .unk, .unk, .unk, .unk, .unk, .unk, .unk, .unk, .unk, .unk, .unk, .unk, .unk, .unk, .unk, .unk, .unk, .unk, .unk, .unk, .unk, .unk, .unk, .unk, .unk, .unk, .unk, .unk, .unk, .unk, .unk, .unk, .unk, .unk, .unk, .unk, .unk, .unk, .unk, .unk, .unk, .unk, .unk, .unk, .unk, .unk, .unk, .unk, .unk, .unk, .unk, .unk, .unk, .unk, .unk, .unk, .unk, .unk, .unk, .unk, .unk, .unk, .unk, .unk, .unk, .unk, .unk, .unk, .unk, .unk, .unk, .unk, .unk, .unk, .unk, .unk, .unk, .unk, .unk, .unk, .unk, .unk, .unk, .unk, .unk, .unk, .unk, .unk, .unk, .unk, .unk, .unk, .unk, .unk, .unk, .unk, .unk, .unk, .unk, .unk, .unk, .unk, .unk, .unk, .unk, .unk, .unk, .unk, .unk, .unk, .unk, .unk, .unk, .unk, .unk, .unk, .unk, .unk, .unk, .unk, .unk, .unk, .unk], hp := [some (.cells [iv (0 : Int), iv (0 : Int), iv (0 : Int), iv (0 : Int), SV.d (DV.x (.slice none 0 0)), SV.d (DV.x (.slice none 0 0)), iv (0 : Int)]), none, none, none, none, none, none, none, none, none, none, none, none, none, none, none, none, none, some (.cells [iv W, iv H, iv T, iv P, SV.row 21 0 0 (List.length K + 1) 1]), none, none, some (.row (List.length K + 1) 1 (BPj5_q3 K))], next := 22, hint := .nil }))) (.need (0 + List.length K ≤ List.length K ∧ 1 ≤ 1 ∧ (List.length K + 1) * 8 ≤ 140737488355328) (.ret (.normal, { tm := [.ok (SV.d (DV.x (.string (strB s)))), .unk, .ok (SV.ptr 0 0), .ok (SV.d (DV.ro n 1 (BPj5_q2 C))), .unk, .ok (SV.ptr 18 0), .ok (iv y), .ok (SV.d (DV.x (.string (strB u)))), .ok (iv (w64 (x + (1 : Int)))), .unk, .unk, .unk, .unk, .unk, .unk, .unk, .unk, .unk, .unk, .unk, .unk, .unk, .unk, .unk, .unk, .unk, .unk, .unk, .unk, .unk, .unk, .unk, .unk, .unk, .unk, .unk, .unk, .unk, .unk, .unk, .unk, .unk, .unk, .unk, .unk, .unk, .unk, .unk, .unk, .unk, .unk, .unk, .unk, .unk, .unk, .unk, .unk, .unk, .unk, .unk, .unk, .unk, .unk, .unk, .unk, .unk, .unk, .unk, .unk, .unk, .unk, .unk, .unk, .unk, .unk, .unk, .unk, .unk, .unk, .unk, .unk, .unk, .unk, .unk, .unk, .unk, .unk, .unk, .unk, .unk, .unk, .unk, .unk, .unk, .unk, .unk, .unk, .unk, .unk, .unk, .unk, .unk, .unk, .unk, .unk, .unk, .unk, .unk, .unk, .unk, .unk, .unk, .unk, .unk, .unk, .unk, .unk, .unk, .unk, .unk, .unk, .unk, .unk, .unk, .unk, .unk, .unk, .unk, .unk, .unk, .unk, .unk, .unk, .unk, .unk, .unk, .unk], hp := [some (.cells [iv (0 : Int), iv (0 : Int), iv (0 : Int), iv (0 : Int), SV.d (DV.x (.slice none 0 0)), SV.d (DV.x (.slice none 0 0)), iv (0 : Int)]), none, none, none, none, none, none, none, none, none, none, none, none, none, none, none, none, none, some (.cells [iv W, iv H, iv T, iv P, SV.row 21 0 0 (List.length K + 1) 1]), none, none, some (.row (List.length K + 1) 1 (BPj5_q5 K))], next := 22, hint := .nil }))))))) (.ret (.exit 2, { tm := [.ok (SV.d (DV.x (.string (strB s)))), .unk, .ok (SV.ptr 0 0), .ok (SV.d (DV.ro n 1 (BPj5_q2 C))), .unk, .ok (SV.ptr 18 0), .ok (iv y), .ok (SV.d (DV.x (.string (strB u)))), .ok (iv x), .unk, .unk, .unk, .unk, .unk, .unk, .unk, .unk, .unk, .unk, .unk, .unk, .unk, .unk, .unk, .unk, .unk, .unk, .unk, .unk, .unk, .unk, .unk, .unk, .unk, .unk, .unk, .unk, .unk, .unk, .unk, .unk, .unk, .unk, .unk, .unk, .unk, .unk, .unk, .unk, .unk, .unk, .unk, .unk, .unk, .unk, .unk, .unk, .unk, .unk, .unk, .unk, .unk, .unk, .unk, .unk, .unk, .unk, .unk, .unk, .unk, .unk, .unk, .unk, .unk, .unk, .unk, .unk, .unk, .unk, .unk, .unk, .unk, .unk, .unk, .unk, .unk, .unk, .unk, .unk, .unk, .unk, .unk, .unk, .unk, .unk, .unk, .unk, .unk, .unk, .unk, .unk, .unk, .unk, .unk, .unk, .unk, .unk, .unk, .unk, .unk, .unk, .unk, .unk, .unk, .unk, .unk, .unk, .unk, .unk, .unk, .unk, .unk, .unk, .unk, .unk, .unk, .unk, .unk, .unk, .unk, .unk, .unk, .unk, .unk, .unk, .unk, .unk], hp := [some (.cells [iv (0 : Int), iv (0 : Int), iv (0 : Int), iv (0 : Int), SV.d (DV.x (.slice none 0 0)), SV.d (DV.x (.slice none 0 0)), iv (0 : Int)]), none, none, none, none, none, none, none, none, none, none, none, none, none, none, none, none, none, some (.cells [iv W, iv H, iv T, iv P, SV.row 21 0 0 (List.length K) 1]), none, none, some (.row (List.length K) 1 (BPj5_q6 K))], next := 22, hint := .nil }))

theorem BPj5_eq (s : List UInt8) (n : Nat) (C : Nat → List UInt8) (W H T P : Int) (K : List Int) (y : Int) (u : List UInt8) (x : Int) : cutT 21 [(.cell (.base 18) 4, 21)] [0, 2, 3, 5, 6, 7, 8] [1, 2, 3, 4, 5, 6, 7, 8, 9, 10, 11, 12, 13, 14, 15, 16, 17, 19, 20] 22 .nil (exec Tryz.prog CY5 DY5 200 bodyPj5 (invPj5 s n C W H T P K y u x)) = BPj5 s n C W H T P K y u x := by kernel_rfl

noncomputable def KPj5_q1 (C : Nat → List UInt8) (i : Nat) (x : Nat) : DV :=
  DV.x (.string (strB (C i)))
noncomputable def KPj5_q2 (K2 : List Int) (i : Nat) (x : Nat) : DV :=
  DV.x (.int .i64 (List.getD K2 i (0 : Int)))
noncomputable def KPj5 (s : List UInt8) (n : Nat) (C : Nat → List UInt8) (W H T P : Int) (K : List Int) (y : Int) (K2 : List Int) (u : List UInt8) (x : Int) : Tree (Ex × AS) :=
 .ret
 (.normal,
 {
 tm :=
 [.ok (SV.d (DV.x (.string (strB s)))), .unk, .ok (SV.ptr 0 0), .ok (SV.d (DV.ro n 1 (KPj5_q1 C))), .unk, .ok (SV.ptr 18 0),
 .ok (iv (w64 (y + (1 : Int)))), .unk, .unk, .unk, .unk, .unk, .unk, .unk, .unk, .unk, .unk, .unk, .unk, .unk, .unk, .unk, .unk, .unk, .unk, .unk, .unk, .unk, .unk, .unk, .unk,
 .unk, .unk, .unk, .unk, .unk, .unk, .unk, .unk, .unk, .unk, .unk, .unk, .unk, .unk, .unk, .unk, .unk, .unk, .unk, .unk, .unk, .unk, .unk, .unk, .unk, .unk, .unk, .unk,
 .unk, .unk, .unk, .unk, .unk, .unk, .unk, .unk, .unk, .unk, .unk, .unk, .unk, .unk, .unk, .unk, .unk, .unk, .unk, .unk, .unk, .unk, .unk, .unk, .unk, .unk, .unk, .unk,
 .unk, .unk, .unk, .unk, .unk, .unk, .unk, .unk, .unk, .unk, .unk, .unk, .unk, .unk, .unk, .unk, .unk, .unk, .unk, .unk, .unk, .unk, .unk, .unk, .unk, .unk, .unk, .unk,
 .unk, .unk, .unk, .unk, .unk, .unk, .unk, .unk, .unk, .unk, .unk, .unk, .unk, .unk, .unk, .unk, .unk, .unk, .unk, .unk, .unk, .unk],
 hp :=
 [some (.cells [iv (0 : Int), iv (0 : Int), iv (0 : Int), iv (0 : Int), SV.d (DV.x (.slice none 0 0)), SV.d (DV.x (.slice none 0 0)), iv (0 : Int)]), none, none, none, none, none,
 none, none, none, none, none, none, none, none, none, none, none, none, some (.cells [iv W, iv H, iv T, iv P, SV.row 20 0 0 (List.length K2) 1]), none,
 some (.row (List.length K2) 1 (KPj5_q2 K2))],
 next := 21, hint := .nil })

theorem KPj5_eq (s : List UInt8) (n : Nat) (C : Nat → List UInt8) (W H T P : Int) (K : List Int) (y : Int) (K2 : List Int) (u : List UInt8) (x : Int) : codeK (sub [0, 0] (bPi5 s n C W H T P K y)) (.exit 2) (invPj5 s n C W H T P K2 y u x) = KPj5 s n C W H T P K y K2 u x := by kernel_rfl

noncomputable def tPk5 (s : List UInt8) (n : Nat) (C : Nat → List UInt8) (W H T P : Int) (K : List Int) (y : Int) : Tree SV := codeK (sub [0, 1, 0, 0, 1, 0, 0, 0, 0, 0, 0, 0, 0, 1] (tPi5 s)) (.exit 0) (invPi5 s n C W H T P K y)
noncomputable def KPi5 (s : List UInt8) (n : Nat) (C : Nat → List UInt8) (W H T P : Int) (K : List Int) (y : Int) : Tree SV :=
  .code (codeC (sub [] (tPk5 s n C W H T P K y))) (codeS (sub [] (tPk5 s n C W H T P K y))) (codeK (sub [] (tPk5 s n C W H T P K y)))

theorem KPi5_eq (s : List UInt8) (n : Nat) (C : Nat → List UInt8) (W H T P : Int) (K : List Int) (y : Int) : tPk5 s n C W H T P K y = KPi5 s n C W H T P K y := by kernel_rfl


end Go.Proofs.YtgahnelicbddcaaGreatDoor

namespace Go.Proofs.YtgahnelicbddcaaGreatDoor
open Go.Sx
set_option maxRecDepth 100000
noncomputable def invPk5 (s : List UInt8) (n : Nat) (C : Nat → List UInt8) (W H T P : Int) (K : List Int) (S : List (List Int × List Int)) (g : Int) : AS := ⟨[.ok (strV s), .unk, .ok (.ptr 0 0), .ok (strC n C)] ++ List.replicate 6 .unk ++ [.ok (.ptr 21 0), .ok (iv g)] ++ List.replicate 125 .unk, [some (.cells [iv 0, iv 0, iv 0, iv 0, nilD, nilD, iv 0])] ++ List.replicate 19 none ++ [some (lB K), some (.cells [iv W, iv H, iv T, iv P, .row 20 0 0 K.length 1, .row 23 0 0 S.length 2]), none, some (.row S.length 2 (badC S))], 24, .nil⟩
noncomputable def bodyPk5 : Code := loopN (bodyOf Tryz.prog 22) 2
noncomputable def BPk5_q1 (C : Nat → List UInt8) (i : Nat) (x : Nat) : DV :=
  DV.x (.string (strB (C i)))
noncomputable def BPk5_q2 (K : List Int) (i : Nat) (x : Nat) : DV :=
  DV.x (.int .i64 (List.getD K i (0 : Int)))
noncomputable def BPk5_q3 (C : Nat → List UInt8) (g : Int) (i : Nat) (x : Nat) : DV :=
  DV.x (.int .i64 (List.getD (Prod.fst (slotR (Array.toList (ByteArray.data (strB (C (Int.toNat g))))))) i (0 : Int)))
noncomputable def BPk5_q4 (C : Nat → List UInt8) (g : Int) (i : Nat) (x : Nat) : DV :=
  DV.x (.int .i64 (List.getD (Prod.snd (slotR (Array.toList (ByteArray.data (strB (C (Int.toNat g))))))) i (0 : Int)))
noncomputable def BPk5_q5 (C : Nat → List UInt8) (S : List (List Int × List Int)) (g : Int) (a : Nat) (b : Nat) : DV :=
  selD (decide (a < List.length S)) (DV.ro (List.length (bdL S (0 + a) b)) 1 fun i x => DV.x (.int .i64 (List.getD (bdL S (0 + a) b) i (0 : Int))))
  (dsAt
   [DV.ro (List.length (Prod.fst (slotR (Array.toList (ByteArray.data (strB (C (Int.toNat g)))))))) 1 (BPk5_q3 C g),
   DV.ro (List.length (Prod.snd (slotR (Array.toList (ByteArray.data (strB (C (Int.toNat g)))))))) 1 (BPk5_q4 C g)]
   (0 + (0 + (a - List.length S)) * 2 + b))
noncomputable def BPk5_q6 (S : List (List Int × List Int)) (i : Nat) (j : Nat) : DV :=
  DV.ro (List.length (bdL S i j)) 1 fun i_1 x => DV.x (.int .i64 (List.getD (bdL S i j) i_1 (0 : Int)))
noncomputable def BPk5 (s : List UInt8) (n : Nat) (C : Nat → List UInt8) (W H T P : Int) (K : List Int) (S : List (List Int × List Int)) (g : Int) : Tree (Ex × AS) :=
 .ite (decide (g < (↑n : Int)))
 (.need ((0 : Int) ≤ g ∧ g < (↑n : Int))
 (.need (ByteArray.size (strB (C (Int.toNat g))) ≤ 900000)
 (.need (0 + List.length S ≤ List.length S ∧ 2 ≤ 2 ∧ (List.length S + 1) * 48 ≤ 140737488355328)
 (.ret
 (.normal,
 {
 tm :=
 [.ok (SV.d (DV.x (.string (strB s)))), .unk, .ok (SV.ptr 0 0), .ok (SV.d (DV.ro n 1 (BPk5_q1 C))), .unk, .unk, .unk, .unk, .unk, .unk,
 .ok (SV.ptr 21 0), .ok (iv (w64 (g + (1 : Int)))), .unk, .unk, .unk, .unk, .unk, .unk, .unk, .unk, .unk, .unk, .unk, .unk, .unk, .unk, .unk, .unk, .unk, .unk,
 .unk, .unk, .unk, .unk, .unk, .unk, .unk, .unk, .unk, .unk, .unk, .unk, .unk, .unk, .unk, .unk, .unk, .unk, .unk, .unk, .unk, .unk, .unk, .unk, .unk, .unk, .unk,
 .unk, .unk, .unk, .unk, .unk, .unk, .unk, .unk, .unk, .unk, .unk, .unk, .unk, .unk, .unk, .unk, .unk, .unk, .unk, .unk, .unk, .unk, .unk, .unk, .unk, .unk, .unk,
 .unk, .unk, .unk, .unk, .unk, .unk, .unk, .unk, .unk, .unk, .unk, .unk, .unk, .unk, .unk, .unk, .unk, .unk, .unk, .unk, .unk, .unk, .unk, .unk, .unk, .unk, .unk,
 .unk, .unk, .unk, .unk, .unk, .unk, .unk, .unk, .unk, .unk, .unk, .unk, .unk, .unk, .unk, .unk, .unk, .unk, .unk, .unk, .unk, .unk, .unk, .unk, .unk, .unk],
 hp :=
 [some (.cells [iv (0 : Int), iv (0 : Int), iv (0 : Int), iv (0 : Int), SV.d (DV.x (.slice none 0 0)), SV.d (DV.x (.slice none 0 0)), iv (0 : Int)]), none, none, none,
 none, none, none, none, none, none, none, none, none, none, none, none, none, none, none, none, some (.row (List.length K) 1 (BPk5_q2 K)),
 some (.cells [iv W, iv H, iv T, iv P, SV.row 20 0 0 (List.length K) 1, SV.row 23 0 0 (List.length S + 1) 2]), none,
 some (.row (List.length S + 1) 2 (BPk5_q5 C S g))],
 next := 24, hint := .nil })))))
 (.ret
 (.exit 4,
 {
 tm :=
 [.ok (SV.d (DV.x (.string (strB s)))), .unk, .ok (SV.ptr 0 0), .ok (SV.d (DV.ro n 1 (BPk5_q1 C))), .unk, .unk, .unk, .unk, .unk, .unk,
 .ok (SV.ptr 21 0), .ok (iv g), .unk, .unk, .unk, .unk, .unk, .unk, .unk, .unk, .unk, .unk, .unk, .unk, .unk, .unk, .unk, .unk, .unk, .unk, .unk, .unk, .unk,
 .unk, .unk, .unk, .unk, .unk, .unk, .unk, .unk, .unk, .unk, .unk, .unk, .unk, .unk, .unk, .unk, .unk, .unk, .unk, .unk, .unk, .unk, .unk, .unk, .unk, .unk, .unk, .unk,
 .unk, .unk, .unk, .unk, .unk, .unk, .unk, .unk, .unk, .unk, .unk, .unk, .unk, .unk, .unk, .unk, .unk, .unk, .unk, .unk, .unk, .unk, .unk, .unk, .unk, .unk, .unk, .unk,
 .unk, .unk, .unk, .unk, .unk, .unk, .unk, .unk, .unk, .unk, .unk, .unk, .unk, .unk, .unk, .unk, .unk, .unk, .unk, .unk, .unk, .unk, .unk, .unk, .unk, .unk, .unk, .unk,
 .unk, .unk, .unk, .unk, .unk, .unk, .unk, .unk, .unk, .unk, .unk, .unk, .unk, .unk, .unk, .unk, .unk, .unk, .unk, .unk],
 hp :=
 [some (.cells [iv (0 : Int), iv (0 : Int), iv (0 : Int), iv (0 : Int), SV.d (DV.x (.slice none 0 0)), SV.d (DV.x (.slice none 0 0)), iv (0 : Int)]), none, none, none, none,
 none, none, none, none, none, none, none, none, none, none, none, none, none, none, none, some (.row (List.length K) 1 (BPk5_q2 K)),
 some (.cells [iv W, iv H, iv T, iv P, SV.row 20 0 0 (List.length K) 1, SV.row 23 0 0 (List.length S) 2]), none,
 some (.row (List.length S) 2 (BPk5_q6 S))],
 next := 24, hint := .nil }))

theorem BPk5_eq (s : List UInt8) (n : Nat) (C : Nat → List UInt8) (W H T P : Int) (K : List Int) (S : List (List Int × List Int)) (g : Int) : cutT 23 [(.cell (.base 21) 5, 23)] [0, 2, 3, 10, 11] [1, 2, 3, 4, 5, 6, 7, 8, 9, 10, 11, 12, 13, 14, 15, 16, 17, 18, 19, 22] 24 .nil (exec Tryz.prog CY5 DY5 200 bodyPk5 (invPk5 s n C W H T P K S g)) = BPk5 s n C W H T P K S g := by kernel_rfl

noncomputable def KPk5_q1 (K : List Int) (i : Nat) (j : Nat) : DV :=
  DV.x (.int .i64 (List.getD K (0 + i) (0 : Int)))
noncomputable def KPk5_q2 (S : List (List Int × List Int)) (i : Nat) (j : Nat) : DV :=
  DV.ro (List.length (bdL S (0 + i) j)) 1 fun i_1 x => DV.x (.int .i64 (List.getD (bdL S (0 + i) j) i_1 (0 : Int)))
noncomputable def KPk5_q3 (W : Int) (H : Int) (T : Int) (P : Int) (K : List Int) (S : List (List Int × List Int)) : Bool :=
  vchR W H T P (List.length K) (KPk5_q1 K) (List.length S) (KPk5_q2 S) != (0 : Int)
noncomputable def KPk5 (s : List UInt8) (n : Nat) (C : Nat → List UInt8) (W H T P : Int) (K : List Int) (y : Int) (S : List (List Int × List Int)) (g : Int) : Tree SV :=
  .need (0 + List.length K ≤ List.length K)
  (.need (0 + List.length S ≤ List.length S)
   (.need (ChRO (List.length K) (KPk5_q1 K) (List.length S) (KPk5_q2 S))
   (.need (KPk5_q3 W H T P K S = false → 0 + List.length K ≤ List.length K)
   (.need (KPk5_q3 W H T P K S = false → 0 + List.length S ≤ List.length S)
   (.need (KPk5_q3 W H T P K S = false → VcRO W H T P (List.length K) (KPk5_q1 K) (List.length S) (KPk5_q2 S))
   (.ite (KPk5_q3 W H T P K S || !strEq (strB (txR W H T P (List.length K) (KPk5_q1 K) (List.length S) (KPk5_q2 S))) (strB s))
   (.ret (SV.agg [iv (0 : Int), iv (0 : Int), iv (0 : Int), iv (0 : Int), SV.d (DV.x (.slice none 0 0)), SV.d (DV.x (.slice none 0 0)), iv (5 : Int)]))
   (.need (0 + List.length K ≤ List.length K)
   (.need (0 + List.length S ≤ List.length S)
   (.ret (SV.agg [iv W, iv H, iv T, iv P, SV.d (DV.ro (List.length K) 1 (KPk5_q1 K)), SV.d (DV.ro (List.length S) 2 (KPk5_q2 S)), iv (0 : Int)]))))))))))

theorem KPk5_eq (s : List UInt8) (n : Nat) (C : Nat → List UInt8) (W H T P : Int) (K : List Int) (y : Int) (S : List (List Int × List Int)) (g : Int) : codeK (sub [] (tPk5 s n C W H T P K y)) (.exit 4) (invPk5 s n C W H T P K S g) = KPk5 s n C W H T P K y S g := by kernel_rfl


end Go.Proofs.YtgahnelicbddcaaGreatDoor

namespace Go.Sx
def letR (b : UInt8) : Int := if b.toNat = 77 then 2 else if b.toNat = 76 then 1 else 0
def rowR (w : Nat) (u : List UInt8) : List Int := (u.take w).map letR
end Go.Sx
namespace Go.Proofs.YtgahnelicbddcaaGreatDoor
open Go.Sx
set_option maxRecDepth 100000
theorem pj5_sat {s : List UInt8} {n : Nat} {C : Nat → List UInt8} {W H y : Nat} {T P : Int} {K : List Int} (hH : H ≤ 8) (hW : W ≤ 8) (hy : y < H) (hn : H < n) (hK : K.length ≤ 1000) :
    Sat Tryz.prog (bPi5 s n C W H T P K y) fun r => r.1 = .normal ∧ Gc 20 r.2 (invPi5 s n C W H T P (K ++ rowR W (C (H - y))) ((y : Int) + 1)) := by
  refine Sat.of_eq (BPi5_eq s n C W H T P K y) ⟨?_⟩
  unfold BPi5
  have e1 : w64 ((H : Int) - y) = ((H - y : Nat) : Int) := by rw [w64_of (by omega) (by omega)]; omega
  rw [e1]
  refine ⟨fun h1 => ⟨by omega, ?_⟩, fun h1 => ?_⟩
  rotate_left
  · rw [decide_eq_false_iff_not] at h1; omega
  refine code_satS CY5_ok DY5_ok (n := 200) (n0 := 21) (nx := 22) (roots := [(.cell (.base 18) 4, 21)]) (keep := [0, 2, 3, 5, 6, 7, 8]) (drop := [1, 2, 3, 4, 5, 6, 7, 8, 9, 10, 11, 12, 13, 14, 15, 16, 17, 19, 20]) (h := .nil) (body := bodyPj5) (by kernel_rfl) (by kernel_rfl)
    (fun q a => ∃ x : Nat, q = W - x ∧ x ≤ W ∧ x ≤ (C (H - y)).length ∧ a = invPj5 s n C W H T P (K ++ ((C (H - y)).take x).map letR) y (C (H - y)) x)
    (fun e a => e = .exit 2 ∧ ∃ x, a = invPj5 s n C W H T P (K ++ rowR W (C (H - y))) y (C (H - y)) x)
    ⟨_, _, ⟨0, rfl, by omega, by omega, rfl⟩, ?_⟩ ?_ ?_
  · refine (entA_sound (s' := ⟨[.ok (strV s), .unk, .ok (.ptr 0 0), .ok (strC n C), .unk, .ok (.ptr 18 0), .ok (iv y), .ok (strV (C (w64 ((H : Int) - y)).toNat)), .ok (iv 0)] ++ List.replicate 128 .unk, hpPi5 W H T P K 21 ++ [none, none, some (lB K)], 22, .nil⟩) (roots := [(.cell (.base 18) 4, 21)]) (keep := [0, 2, 3, 5, 6, 7, 8]) (drop := [1, 2, 3, 4, 5, 6, 7, 8, 9, 10, 11, 12, 13, 14, 15, 16, 17, 19, 20]) (nx := 22) (h := .nil) (by kernel_rfl)).trans ?_
    · have e2 : (w64 ((H : Int) - y)).toNat = H - y := by rw [e1, Int.toNat_natCast]
      rw [e2]
      rw [show ((C (H - y)).take 0).map letR = [] from rfl, List.append_nil]
      exact Gc.refl _ _
  · rintro q a ⟨x, rfl, hx, hxu, rfl⟩
    refine Sat.of_eq (BPj5_eq s n C W H T P _ y _ x) ?_
    constructor; unfold BPj5 BPj5_q1
    simp only [strB_size, strB_at, Int.toNat_natCast]
    generalize hu : C (H - y) = u at hxu
    refine ⟨fun h2 => ?_, fun h2 => ?_⟩
    · simp only [Bool.and_eq_true, decide_eq_true_eq] at h2
      have hlt : x < u.length := by omega
      have ht : (u.take (x + 1)).map letR = (u.take x).map letR ++ [letR (u.getD x 0)] := by
        rw [List.take_add_one, List.getElem?_eq_getElem hlt, List.map_append, List.getD_eq_getElem?_getD, List.getElem?_eq_getElem hlt]; rfl
      have hKl : (K ++ (u.take x).map letR).length ≤ 1008 := by
        rw [List.length_append, List.length_map]
        have := List.length_take_le x u; omega
      have hnext : W - (x + 1) < W - x := by omega
      rw [w64_of (n := (x : Int) + 1) (by omega) (by omega)]
      have go : ∀ (v : Int) (f : Nat → Nat → DV), letR (u.getD x 0) = v → (∀ a, a < (K ++ (u.take x).map letR).length + 1 → f a 0 = .x (.int .i64 (((K ++ (u.take x).map letR) ++ [v]).getD a 0))) →
          Gc 21 ⟨[.ok (strV s), .unk, .ok (.ptr 0 0), .ok (strC n C), .unk, .ok (.ptr 18 0), .ok (iv y), .ok (strV u), .ok (iv ((x : Int) + 1))] ++ List.replicate 128 .unk, [some (.cells [iv 0, iv 0, iv 0, iv 0, nilD, nilD, iv 0])] ++ List.replicate 17 none ++ [some (.cells [iv W, iv H, iv T, iv P, .row 21 0 0 ((K ++ (u.take x).map letR).length + 1) 1]), none, none, some (.row ((K ++ (u.take x).map letR).length + 1) 1 f)], 22, .nil⟩
            (invPj5 s n C W H T P (K ++ (u.take (x + 1)).map letR) y u ((x + 1 : Nat) : Int)) := fun v f hv hf => by
        rw [ht, hv, ← List.append_assoc]
        generalize K ++ (u.take x).map letR = L at hf
        unfold invPj5 hpPi5
        refine gc_hp rfl rfl ⟨.inr ⟨_, _, rfl, rfl, .refl _⟩, .inl rfl, .inl rfl, .inl rfl, .inl rfl, .inl rfl, .inl rfl, .inl rfl, .inl rfl, .inl rfl, .inl rfl, .inl rfl, .inl rfl, .inl rfl, .inl rfl, .inl rfl, .inl rfl, .inl rfl, .inr ⟨_, _, rfl, rfl, by rw [List.length_append]; exact .refl _⟩, .inl rfl, .inl rfl, .inr ⟨_, _, rfl, rfl, lB_app hf⟩, trivial⟩
      refine ⟨by omega, fun h3 => ⟨by omega, fun h4 => ?_, fun h4 => ?_⟩, fun h3 => ⟨by omega, fun h4 => ?_, fun h4 => ?_⟩⟩
      all_goals
        simp only [beq_iff_eq, beq_eq_false_iff_ne] at h3 h4
      · omega
      · exact ⟨by omega, W - (x + 1), _, hnext, ⟨x + 1, rfl, by omega, by omega, rfl⟩, go 1 _ (by unfold letR; rw [if_neg (by omega), if_pos (by omega)]) fun a ha => app_sel _ _ a ha⟩
      · exact ⟨by omega, W - (x + 1), _, hnext, ⟨x + 1, rfl, by omega, by omega, rfl⟩, go 2 _ (by unfold letR; rw [if_pos (by omega)]) fun a ha => app_sel _ _ a ha⟩
      · exact ⟨by omega, W - (x + 1), _, hnext, ⟨x + 1, rfl, by omega, by omega, rfl⟩, go 0 _ (by unfold letR; rw [if_neg (by omega), if_neg (by omega)]) fun a ha => app_sel _ _ a ha⟩
    · simp only [Bool.and_eq_false_iff, decide_eq_false_iff_not] at h2
      have : (u.take x).map letR = rowR W u := by
        unfold rowR
        rcases h2 with h2 | h2
        · rw [show x = W by omega]
        · rw [List.take_of_length_le (by omega), List.take_of_length_le (by omega)]
      rw [this]
      exact ⟨_, ⟨rfl, _, rfl⟩, Gc.refl _ _⟩
  · rintro e a ⟨rfl, x, rfl⟩
    refine Sat.of_eq (KPj5_eq s n C W H T P K y _ _ x) ⟨?_⟩
    unfold KPj5
    rw [w64_of (n := (y : Int) + 1) (by omega) (by omega)]
    exact ⟨rfl, Gc.refl _ _⟩
end Go.Proofs.YtgahnelicbddcaaGreatDoor

namespace Go.Sx
def slM (C : Nat → List UInt8) (k z : Nat) : List (List Int × List Int) := (List.range z).map fun i => slotR (C (k + i))
theorem slM_succ (C : Nat → List UInt8) (k z : Nat) : slM C k (z + 1) = slM C k z ++ [slotR (C (k + z))] := by unfold slM; rw [List.range_succ, List.map_append]; rfl
theorem slM_len (C : Nat → List UInt8) (k z : Nat) : (slM C k z).length = z := by unfold slM; simp
theorem slR_len : ∀ (l : List (List UInt8)) (nd : Bool) (r : List Int × List Int), (slR l nd r).1.length ≤ r.1.length + l.length ∧ (slR l nd r).2.length ≤ r.2.length + l.length
  | [], _, _ => ⟨Nat.le_refl _, Nat.le_refl _⟩
  | w :: l, nd, r => by
    unfold slR
    rw [List.length_cons]
    split
    · have := slR_len l true r; omega
    · split
      · have := slR_len l nd (r.1, r.2 ++ [numR w]); simp only [List.length_append, List.length_singleton] at this; omega
      · have := slR_len l nd (r.1 ++ [numR w], r.2); simp only [List.length_append, List.length_singleton] at this; omega
end Go.Sx
namespace Go.Proofs.YtgahnelicbddcaaGreatDoor
open Go.Sx
set_option maxRecDepth 100000
theorem slotR_len {u : List UInt8} {m : Nat} (h : u.length ≤ m) : (slotR u).1.length ≤ m + 1 ∧ (slotR u).2.length ≤ m + 1 := by
  have h1 := slR_len ((wordsR u).drop 2) false ([], [])
  have h2 := cutL_len 32 u
  rw [List.length_drop] at h1
  unfold slotR
  have h3 : (wordsR u).length = (cutL 32 u).length := rfl
  simp only [List.length_nil] at h1
  omega
noncomputable def okW (w h t p : Int) (K : List Int) (S : List (List Int × List Int)) : SV := .agg [iv w, iv h, iv t, iv p, ivL K, .d (.ro S.length 2 (badC S)), iv 0]
noncomputable def noW : SV := .agg [iv 0, iv 0, iv 0, iv 0, ivL [], .d (.ro 0 2 (badC [])), iv 5]
theorem no_leW : leSV 0 [] [] (.agg [iv 0, iv 0, iv 0, iv 0, nilD, nilD, iv 5]) noW := by
  unfold noW nilD ivL iv
  simp [leSV, leSVs, leD]
theorem ok_leW {w h t p : Int} {K : List Int} {S : List (List Int × List Int)} : leSV 0 [] [] (.agg [iv w, iv h, iv t, iv p, .d (.ro K.length 1 (KPk5_q1 K)), .d (.ro S.length 2 (KPk5_q2 S)), iv 0]) (okW w h t p K S) := by
  unfold okW ivL iv
  simp only [leSV, leSVs, leD, and_true, true_and]
  refine ⟨fun i j hi hj => ?_, fun i j hi hj => ?_⟩
  · unfold KPk5_q1; rw [Nat.zero_add]
  · unfold KPk5_q2 badC ivD; rw [Nat.zero_add]
theorem fin5_sat {s : List UInt8} {n : Nat} {C : Nat → List UInt8} {W H T P : Int} {K : List Int} {y g : Int} {S : List (List Int × List Int)} (hl : ChLen K S) {R : SV}
    (hR : R = if vchP W H T P K S ∧ txtT W H T P K S = s then okW W H T P K S else noW) : Sat Tryz.prog (codeK (sub [] (tPk5 s n C W H T P K y)) (.exit 4) (invPk5 s n C W H T P K S g)) fun r => leSV 0 [] [] r R := by
  refine Sat.of_eq (KPk5_eq s n C W H T P K y S g) ⟨?_⟩
  unfold KPk5
  have k4 : KPk5_q1 K = fun i _ => .x (.int .i64 (K.getD i 0)) := by funext i j; unfold KPk5_q1; rw [Nat.zero_add]
  have k5 : KPk5_q2 S = badC S := by funext i j; unfold KPk5_q2 badC ivD; rw [Nat.zero_add]
  have iK : intsD (.ro K.length 1 (KPk5_q1 K)) = K := by rw [k4]; exact lsOf_cellL K
  have iS : badsD (.ro S.length 2 (KPk5_q2 S)) = S := by rw [k5]; exact badsD_badC S
  have oK : IntsD (.ro K.length 1 (KPk5_q1 K)) := ⟨rfl, fun i hi => rfl⟩
  have oS : BadsD (.ro S.length 2 (KPk5_q2 S)) := by rw [k5]; exact badsD_ok S
  have e6 : KPk5_q3 W H T P K S = !decide (vchP W H T P K S) := by
    unfold KPk5_q3 vchR vchD
    rw [iK, iS]
    unfold vchE
    split
    · rename_i h; rw [decide_eq_true h]; rfl
    · rename_i h; rw [decide_eq_false h]; rfl
  have ch : ChRO K.length (KPk5_q1 K) S.length (KPk5_q2 S) := ⟨oK, oS, by rw [iK, iS]; exact hl⟩
  have tx : KPk5_q3 W H T P K S = false → VcRO W H T P K.length (KPk5_q1 K) S.length (KPk5_q2 S) := fun h => by
    rw [e6, Bool.not_eq_false', decide_eq_true_eq] at h
    exact ⟨oK, oS, by rw [iK, iS]; exact h⟩
  have et : txR W H T P K.length (KPk5_q1 K) S.length (KPk5_q2 S) = txtT W H T P K S := by unfold txR; rw [iK, iS]
  rw [et, strEq_list]
  refine ⟨by omega, by omega, ch, fun _ => by omega, fun _ => by omega, tx, fun h1 => ?_, fun h1 => ⟨by omega, by omega, ?_⟩⟩
  · rw [e6, Bool.or_eq_true, Bool.not_eq_true', decide_eq_false_iff_not, Bool.not_eq_true', beq_eq_false_iff_ne] at h1
    rw [hR, if_neg (fun h => by rcases h1 with h1 | h1; exact h1 h.1; exact h1 h.2)]
    exact no_leW
  · rw [e6, Bool.or_eq_false_iff, Bool.not_eq_false', decide_eq_true_eq, Bool.not_eq_false', beq_iff_eq] at h1
    rw [hR, if_pos h1]
    exact ok_leW
end Go.Proofs.YtgahnelicbddcaaGreatDoor

namespace Go.Proofs.YtgahnelicbddcaaGreatDoor
open Go.Sx
set_option maxRecDepth 100000
theorem pk5_sat {s : List UInt8} {n : Nat} {C : Nat → List UInt8} {W T P : Int} {H : Nat} {K : List Int} {y : Int} (h8 : H ≤ 8) (hn : 1 + H ≤ n) (hn2 : n ≤ 1000000) (hC : ∀ i, (C i).length ≤ 800000) (hK : K.length ≤ 100000000) {R : SV}
    (hR : R = if vchP W H T P K (slM C (1 + H) (n - (1 + H))) ∧ txtT W H T P K (slM C (1 + H) (n - (1 + H))) = s then okW W H T P K (slM C (1 + H) (n - (1 + H))) else noW) :
    Sat Tryz.prog (tPk5 s n C W H T P K y) fun r => leSV 0 [] [] r R := by
  refine Sat.of_eq (KPi5_eq s n C W H T P K y) ⟨?_⟩
  unfold KPi5
  have e1 : w64 (1 + (H : Int)) = ((1 + H : Nat) : Int) := by rw [w64_of (by omega) (by omega)]; omega
  refine code_satS CY5_ok DY5_ok (n := 200) (n0 := 23) (nx := 24) (roots := [(.cell (.base 21) 5, 23)]) (keep := [0, 2, 3, 10, 11]) (drop := [1, 2, 3, 4, 5, 6, 7, 8, 9, 10, 11, 12, 13, 14, 15, 16, 17, 18, 19, 22]) (h := .nil) (body := bodyPk5) (by kernel_rfl) (by kernel_rfl)
    (fun m a => ∃ z : Nat, m = n - (1 + H) - z ∧ z ≤ n - (1 + H) ∧ a = invPk5 s n C W H T P K (slM C (1 + H) z) ((1 + H + z : Nat) : Int))
    (fun e a => e = .exit 4 ∧ ∃ g, a = invPk5 s n C W H T P K (slM C (1 + H) (n - (1 + H))) g)
    ⟨_, _, ⟨0, rfl, by omega, rfl⟩, ?_⟩ ?_ ?_
  · refine (entA_sound (s' := ⟨[.ok (strV s), .unk, .ok (.ptr 0 0), .ok (strC n C)] ++ List.replicate 6 .unk ++ [.ok (.ptr 21 0), .ok (iv (w64 (1 + (H : Int))))] ++ List.replicate 125 .unk, [some (.cells [iv 0, iv 0, iv 0, iv 0, nilD, nilD, iv 0])] ++ List.replicate 19 none ++ [some (lB K), some (.cells [iv W, iv H, iv T, iv P, .row 20 0 0 K.length 1, nilD]), none], 23, .nil⟩) (roots := []) (keep := [0, 2, 3, 10, 11]) (drop := [1, 2, 3, 4, 5, 6, 7, 8, 9, 10, 11, 12, 13, 14, 15, 16, 17, 18, 19, 22]) (nx := 23) (h := .nil) (by kernel_rfl)).trans ?_
    rw [e1]
    refine gc_sound [] [23] rfl ?_ ?_
    · simp [invPk5, leTm, leTV, leSV, leSVs, rn, iv, leD, List.replicate, strC, strV]
    · simp [invPk5, leHp, leBlk, leSVs, leSV, rn, iv, leD, srcOf, hget, lB, nilD, slM, List.replicate]
  · rintro m a ⟨z, rfl, hz, rfl⟩
    refine Sat.of_eq (BPk5_eq s n C W H T P K _ _) ?_
    constructor; unfold BPk5
    have hl := slM_len C (1 + H) z
    rw [Int.toNat_natCast]
    refine ⟨fun h1 => ?_, fun h1 => ?_⟩
    · simp only [decide_eq_true_eq] at h1
      have hc := hC (1 + H + z)
      rw [strB_size, w64_of (n := ((1 + H + z : Nat) : Int) + 1) (by omega) (by omega)]
      refine ⟨by omega, by omega, ⟨by omega, by omega, by omega⟩, n - (1 + H) - (z + 1), _, by omega, ⟨z + 1, rfl, by omega, rfl⟩, ?_⟩
      rw [slM_succ]
      have e5 : ∀ a b, a < (slM C (1 + H) z).length + 1 → b < 2 → BPk5_q5 C (slM C (1 + H) z) ((1 + H + z : Nat) : Int) a b = badC (slM C (1 + H) z ++ [slotR (C (1 + H + z))]) a b := fun a b ha hb => by
        generalize slM C (1 + H) z = S at *
        unfold BPk5_q5 badC
        rw [Nat.zero_add, Int.toNat_natCast]
        by_cases h5 : a < S.length
        · rw [decide_eq_true h5, bdL_app1 h5]; rfl
        · obtain rfl : a = S.length := by omega
          rw [decide_eq_false h5, bdL_app2]
          have e3 : BPk5_q3 C ((1 + H + z : Nat) : Int) = fun i _ => .x (.int .i64 ((slotR (C (1 + H + z))).1.getD i 0)) := by
            funext i j; unfold BPk5_q3; rw [Int.toNat_natCast, strB_list]
          have e4 : BPk5_q4 C ((1 + H + z : Nat) : Int) = fun i _ => .x (.int .i64 ((slotR (C (1 + H + z))).2.getD i 0)) := by
            funext i j; unfold BPk5_q4; rw [Int.toNat_natCast, strB_list]
          rw [e3, e4, strB_list, Nat.sub_self]
          match b, hb with
          | 0, _ => rfl
          | 1, _ => rfl
      have e7 : ((1 + H + (z + 1) : Nat) : Int) = ((1 + H + z : Nat) : Int) + 1 := by omega
      rw [e7]
      generalize slM C (1 + H) z = S at *
      refine gc_hp rfl rfl ⟨.inr ⟨_, _, rfl, rfl, .refl _⟩, .inl rfl, .inl rfl, .inl rfl, .inl rfl, .inl rfl, .inl rfl, .inl rfl, .inl rfl, .inl rfl, .inl rfl, .inl rfl, .inl rfl, .inl rfl, .inl rfl, .inl rfl, .inl rfl, .inl rfl, .inl rfl, .inl rfl, .inr ⟨_, _, rfl, rfl, .refl _⟩, .inr ⟨_, _, rfl, by rw [List.length_append]; rfl, .refl _⟩, .inl rfl, .inr ⟨_, _, rfl, by rw [List.length_append]; rfl, .row fun i j hi hj => e5 i j hi hj⟩, trivial⟩
    · simp only [decide_eq_false_iff_not] at h1
      obtain rfl : z = n - (1 + H) := by omega
      exact ⟨_, ⟨rfl, _, rfl⟩, Gc.refl _ _⟩
  · rintro e a ⟨rfl, g, rfl⟩
    have hl : ChLen K (slM C (1 + H) (n - (1 + H))) := ⟨by omega, by rw [slM_len]; omega, fun x hx => by
      obtain ⟨i, hi, rfl⟩ := List.mem_map.1 hx
      have := slotR_len (u := C (1 + H + i)) (hC _)
      omega⟩
    exact fin5_sat hl hR
end Go.Proofs.YtgahnelicbddcaaGreatDoor

namespace Go.Sx
open Proofs.YtgahnelicbddcaaGreatDoor (txtT)
def lnM (s : List UInt8) (i : Nat) : List UInt8 := (linesR s).getD i []
def hdM (s : List UInt8) : List (List UInt8) := wordsR (lnM s 0)
def mW (s : List UInt8) : Int := numR ((hdM s).getD 1 [])
def mH (s : List UInt8) : Int := numR ((hdM s).getD 2 [])
def mT (s : List UInt8) : Int := numR ((hdM s).getD 3 [])
def mP (s : List UInt8) : Int := numR ((hdM s).getD 4 [])
def kdM (W : Nat) (C : Nat → List UInt8) (H y : Nat) : List Int := (List.range y).flatMap fun i => rowR W (C (H - i))
def mK (s : List UInt8) : List Int := kdM (mW s).toNat (lnM s) (mH s).toNat (mH s).toNat
def mS (s : List UInt8) : List (List Int × List Int) := slM (lnM s) (1 + (mH s).toNat) ((linesR s).length - (1 + (mH s).toNat))
def rdyM (s : List UInt8) : Prop := ((linesR s).length ≠ 0 ∧ s.length ≤ 200000) ∧ (hdM s).length = 5 ∧ mW s ≤ 8 ∧ mH s ≤ 8 ∧ 1 + mH s ≤ ((linesR s).length : Int)
instance (s : List UInt8) : Decidable (rdyM s) := by unfold rdyM; exact inferInstance
def okM (s : List UInt8) : Prop := rdyM s ∧ vchP (mW s) (mH s) (mT s) (mP s) (mK s) (mS s) ∧ txtT (mW s) (mH s) (mT s) (mP s) (mK s) (mS s) = s
instance (s : List UInt8) : Decidable (okM s) := by unfold okM; exact inferInstance
theorem nrF_bd : ∀ (l : List UInt8) (n : Int) (k : Nat), 0 ≤ n → n < 10 ^ k → 0 ≤ nrF l n ∧ nrF l n < 10 ^ (k + l.length)
  | [], n, k, h0, h1 => ⟨h0, h1⟩
  | b :: l, n, k, h0, h1 => by
    unfold nrF
    have hp : (0 : Int) < 10 ^ (k + (b :: l).length) := Int.pow_pos (by omega)
    split
    · have h2 : 10 * n + ((b.toNat : Int) - 48) < 10 ^ (k + 1) := by rw [Int.pow_succ]; omega
      have := nrF_bd l (10 * n + ((b.toNat : Int) - 48)) (k + 1) (by omega) h2
      rw [List.length_cons, show k + (l.length + 1) = k + 1 + l.length by omega]
      exact this
    · exact ⟨by omega, hp⟩
theorem numR_bd (s : List UInt8) : 0 ≤ numR s ∧ numR s < 100000 := by
  unfold numR
  split
  · rename_i h
    have h1 := nrF_bd s 0 0 (by omega) (by decide)
    have h2 : (10 : Nat) ^ (0 + s.length) ≤ 10 ^ 5 := Nat.pow_le_pow_right (by decide) (by omega)
    have h3 : (10 : Int) ^ (0 + s.length) ≤ 10 ^ 5 := by exact_mod_cast h2
    omega
  · omega
theorem linesR_len (s : List UInt8) : (linesR s).length ≤ s.length := by
  have := cutL_len 10 s
  unfold linesR; rw [List.length_dropLast]; omega
theorem linesR_el {s w : List UInt8} (h : w ∈ linesR s) : w.length ≤ s.length := cut_el (c := 10) (List.dropLast_subset _ h)
theorem lnM_len (s : List UInt8) (i : Nat) : (lnM s i).length ≤ s.length := get_el (fun w h => linesR_el h) i
theorem hdM_len (s : List UInt8) (i : Nat) : ((hdM s).getD i []).length ≤ s.length := by
  have h1 := get_el (s := hdM s) (m := (lnM s 0).length) (fun w h => cut_el (c := 32) h) i
  have h2 := lnM_len s 0
  omega
theorem kdM_succ (W : Nat) (C : Nat → List UInt8) (H y : Nat) : kdM W C H (y + 1) = kdM W C H y ++ rowR W (C (H - y)) := by
  unfold kdM; rw [List.range_succ, List.flatMap_append]; simp
theorem rowR_len (W : Nat) (u : List UInt8) : (rowR W u).length ≤ W := by
  unfold rowR; rw [List.length_map]; exact List.length_take_le _ _
theorem kdM_len (W : Nat) (C : Nat → List UInt8) (H : Nat) : ∀ y, (kdM W C H y).length ≤ y * W
  | 0 => by simp [kdM]
  | y + 1 => by
    rw [kdM_succ, List.length_append, Nat.add_mul]
    have := kdM_len W C H y
    have := rowR_len W (C (H - y))
    omega
end Go.Sx
namespace Go.Proofs.YtgahnelicbddcaaGreatDoor
open Go.Sx
set_option maxRecDepth 100000
theorem tPk5_eq (s : List UInt8) (n : Nat) (C : Nat → List UInt8) (W H T P : Int) (K : List Int) (y : Int) : codeK (sub [0, 1, 0, 0, 1, 0, 0, 0, 0, 0, 0, 0, 0, 1] (tPi5 s)) (.exit 0) (invPi5 s n C W H T P K y) = tPk5 s n C W H T P K y := by kernel_rfl
theorem pi5_sat {s : List UInt8} (hs : s.length ≤ 900000) {R : SV} (hR : R = if okM s then okW (mW s) (mH s) (mT s) (mP s) (mK s) (mS s) else noW) : Sat Tryz.prog (tPi5 s) fun r => leSV 0 [] [] r R := by
  refine Sat.of_eq (LPi5_eq s) ⟨?_⟩
  unfold LPi5
  have hE : Gc 20 (ups (codeS (sub [0, 1, 0, 0, 1, 0, 0, 0, 0, 0, 0, 0, 0, 1] (tPi5 s))) 20) ⟨[.ok (strV s), .unk, .ok (.ptr 0 0), .ok (strC (linesR s).length (lnM s)), .unk, .ok (.ptr 18 0), .ok (iv 0)] ++ List.replicate 130 .unk, [some (.cells [iv 0, iv 0, iv 0, iv 0, nilD, nilD, iv 0])] ++ List.replicate 17 none ++ [some (.cells [iv (mW s), iv (mH s), iv (mT s), iv (mP s), nilD]), none], 20, .nil⟩ :=
    entA_sound (roots := []) (keep := [0, 2, 3, 5, 6]) (drop := [1, 2, 3, 4, 5, 6, 7, 8, 9, 10, 11, 12, 13, 14, 15, 16, 17, 19]) (nx := 20) (h := .nil) (by kernel_rfl)
  have hno : ¬ rdyM s → leSV 0 [] [] (.agg [iv 0, iv 0, iv 0, iv 0, nilD, nilD, iv 5]) R := fun h => by
    rw [hR, if_neg (fun h2 : okM s => h h2.1)]; exact no_leW
  have w0 : ((linesR s).getD 0 []).length ≤ 900000 := by have : (lnM s 0).length ≤ s.length := lnM_len s 0; unfold lnM at this; omega
  have wi : ∀ i, ((wordsR ((linesR s).getD 0 [])).getD i []).length ≤ 1000000 := fun i => by have : ((wordsR ((linesR s).getD 0 [])).getD i []).length ≤ s.length := hdM_len s i; omega
  have hll := linesR_len s
  have bW := numR_bd ((hdM s).getD 1 [])
  have bH := numR_bd ((hdM s).getD 2 [])
  have eW : numR ((wordsR ((linesR s).getD 0 [])).getD 1 []) = mW s := rfl
  have eH : numR ((wordsR ((linesR s).getD 0 [])).getD 2 []) = mH s := rfl
  have eL : (wordsR ((linesR s).getD 0 [])).length = (hdM s).length := rfl
  have bW : 0 ≤ mW s ∧ mW s < 100000 := bW
  have bH : 0 ≤ mH s ∧ mH s < 100000 := bH
  simp only [strB_list, strB_size, eW, eH, eL]
  refine ⟨by omega, fun h1 => hno fun h => ?_, fun h1 => ⟨?_, by omega, fun h2 => hno fun h => ?_, fun h2 => ?_⟩⟩
  · simp only [Bool.or_eq_true, beq_iff_eq, decide_eq_true_eq] at h1
    have := h.1; omega
  · simp only [Bool.or_eq_false_iff, beq_eq_false_iff_ne, decide_eq_false_iff_not] at h1
    omega
  · simp only [bne_iff_ne] at h2
    have := h.2.1; omega
  have h2 : (hdM s).length = 5 := by
    simp only [bne_eq_false_iff_eq] at h2; omega
  simp only [Bool.or_eq_false_iff, beq_eq_false_iff_ne, decide_eq_false_iff_not] at h1
  refine ⟨by omega, wi 1, by omega, wi 2, by omega, wi 3, by omega, wi 4, fun h3 => hno fun h => ?_, fun h3 => ?_⟩
  · simp only [Bool.or_eq_true, decide_eq_true_eq] at h3
    rw [w64_of (by omega) (by omega)] at h3
    have := h.2.2; omega
  simp only [Bool.or_eq_false_iff, decide_eq_false_iff_not] at h3
  rw [w64_of (by omega) (by omega)] at h3
  have hrd : rdyM s := ⟨⟨by omega, by omega⟩, h2, by omega, by omega, by omega⟩
  obtain ⟨W, hW⟩ : ∃ W : Nat, mW s = W := ⟨(mW s).toNat, by omega⟩
  obtain ⟨H, hH⟩ : ∃ H : Nat, mH s = H := ⟨(mH s).toNat, by omega⟩
  have eK : mK s = kdM W (lnM s) H H := by unfold mK; rw [hW, hH, Int.toNat_natCast, Int.toNat_natCast]
  have eS : mS s = slM (lnM s) (1 + H) ((linesR s).length - (1 + H)) := by unfold mS; rw [hH, Int.toNat_natCast]
  rw [hW, hH] at hE
  have hC : ∀ i, (lnM s i).length ≤ 800000 := fun i => by have := lnM_len s i; omega
  have hkl : ∀ y, y ≤ H → (kdM W (lnM s) H y).length ≤ 64 := fun y hy => by
    have h5 := kdM_len W (lnM s) H y
    have h6 : y * W ≤ 8 * 8 := Nat.mul_le_mul (by omega) (by omega)
    omega
  have hR2 : R = if vchP W H (mT s) (mP s) (kdM W (lnM s) H H) (slM (lnM s) (1 + H) ((linesR s).length - (1 + H))) ∧ txtT W H (mT s) (mP s) (kdM W (lnM s) H H) (slM (lnM s) (1 + H) ((linesR s).length - (1 + H))) = s then okW W H (mT s) (mP s) (kdM W (lnM s) H H) (slM (lnM s) (1 + H) ((linesR s).length - (1 + H))) else noW := by
    rw [hR, ← eK, ← eS, ← hW, ← hH]
    by_cases h : vchP (mW s) (mH s) (mT s) (mP s) (mK s) (mS s) ∧ txtT (mW s) (mH s) (mT s) (mP s) (mK s) (mS s) = s
    · rw [if_pos h, if_pos (show okM s from ⟨hrd, h⟩)]
    · rw [if_neg h, if_neg (fun h2 : okM s => h h2.2)]
  refine code_satS CY5_ok DY5_ok (n := 200) (n0 := 20) (nx := 21) (roots := [(.cell (.base 18) 4, 20)]) (keep := [0, 2, 3, 5, 6]) (drop := [1, 2, 3, 4, 5, 6, 7, 8, 9, 10, 11, 12, 13, 14, 15, 16, 17, 19]) (h := .nil) (body := bodyPi5) (by kernel_rfl) (by kernel_rfl)
    (fun m a => ∃ y : Nat, m = H - y ∧ y ≤ H ∧ a = invPi5 s (linesR s).length (lnM s) W H (mT s) (mP s) (kdM W (lnM s) H y) y)
    (fun e a => e = .exit 0 ∧ a = invPi5 s (linesR s).length (lnM s) W H (mT s) (mP s) (kdM W (lnM s) H H) H)
    ⟨_, _, ⟨0, rfl, by omega, rfl⟩, ?_⟩ ?_ ?_
  · refine hE.trans ?_
    refine gc_sound [] [20] rfl ?_ ?_
    · simp [invPi5, leTm, leTV, leSV, leSVs, rn, iv, leD, List.replicate, strC, strV]
    · simp [invPi5, hpPi5, leHp, leBlk, leSVs, leSV, rn, iv, leD, srcOf, hget, lB, nilD, kdM, List.replicate]
  · rintro m a ⟨y, rfl, hy, rfl⟩
    by_cases hyH : y < H
    · have k0 := pj5_sat (s := s) (n := (linesR s).length) (C := lnM s) (W := W) (H := H) (y := y) (T := mT s) (P := mP s) (K := kdM W (lnM s) H y) (by omega) (by omega) hyH (by omega) (by have := hkl y hy; omega)
      rw [← kdM_succ] at k0
      refine ⟨Tree.sat_mono (fun r hr => ?_) k0.ok⟩
      obtain ⟨ex, st⟩ := r
      obtain ⟨h6, h7⟩ := hr
      obtain rfl : ex = .normal := h6
      exact ⟨H - (y + 1), _, by omega, ⟨y + 1, rfl, by omega, rfl⟩, h7⟩
    · obtain rfl : y = H := by omega
      refine Sat.of_eq (BPi5_eq s _ _ W y _ _ _ y) ⟨?_⟩
      unfold BPi5
      refine ⟨fun h5 => ?_, fun h5 => ?_⟩
      · rw [decide_eq_true_eq] at h5; omega
      · exact ⟨_, ⟨rfl, rfl⟩, Gc.refl _ _⟩
  · rintro e a ⟨rfl, rfl⟩
    have k0 := pk5_sat (s := s) (n := (linesR s).length) (C := lnM s) (W := W) (H := H) (T := mT s) (P := mP s) (K := kdM W (lnM s) H H) (y := H) (by omega) (by omega) (by omega) hC (by have := hkl H (by omega); omega) hR2
    exact Sat.of_eq (tPk5_eq s _ _ W H _ _ _ _) k0
end Go.Proofs.YtgahnelicbddcaaGreatDoor

namespace Go.Sx
open Proofs.YtgahnelicbddcaaGreatDoor (letB)
theorem nrF_app : ∀ (l : List UInt8) (n : Int) (b : UInt8), (∀ x ∈ l, 48 ≤ x.toNat ∧ x.toNat ≤ 57) → (48 ≤ b.toNat ∧ b.toNat ≤ 57) → nrF (l ++ [b]) n = 10 * nrF l n + ((b.toNat : Int) - 48)
  | [], n, b, _, hb => by
    show nrF [b] n = 10 * nrF [] n + _
    rw [show nrF [b] n = if 48 ≤ b.toNat ∧ b.toNat ≤ 57 then nrF [] (10 * n + ((b.toNat : Int) - 48)) else 0 from rfl, if_pos hb]; rfl
  | a :: l, n, b, hl, hb => by
    have ha := hl a (by simp)
    rw [List.cons_append, show nrF (a :: (l ++ [b])) n = if 48 ≤ a.toNat ∧ a.toNat ≤ 57 then nrF (l ++ [b]) (10 * n + ((a.toNat : Int) - 48)) else 0 from rfl, show nrF (a :: l) n = if 48 ≤ a.toNat ∧ a.toNat ≤ 57 then nrF l (10 * n + ((a.toNat : Int) - 48)) else 0 from rfl, if_pos ha, if_pos ha]
    exact nrF_app l _ b (fun x hx => hl x (List.mem_cons_of_mem _ hx)) hb
theorem digU {u : Nat} (h : u < 10) : (UInt8.ofNat (48 + u)).toNat = 48 + u := by
  rw [UInt8.toNat_ofNat']; omega
theorem nrF_dec : ∀ (m u : Nat), u < 10 ^ m → nrF (decF m u) 0 = u
  | 0, u, h => by simp at h; subst h; rfl
  | m + 1, u, h => by
    by_cases h1 : u < 10
    · have h2 := digU h1
      rw [decF_pos _ _ h1 (by omega), ← List.nil_append [UInt8.ofNat (48 + u)], nrF_app [] 0 _ (by simp) (by omega), h2]
      show 10 * (0 : Int) + _ = _
      omega
    · have h2 := digU (u := u % 10) (by omega)
      rw [Nat.pow_succ] at h
      rw [decF_step h1, nrF_app _ 0 _ (decF_dig m _) (by omega), nrF_dec m (u / 10) (by omega), h2]
      omega
theorem decF_lk : ∀ (m u k : Nat), 0 < k → u < 10 ^ k → (decF m u).length ≤ k
  | 0, u, k, hk, h => by unfold decF; rw [List.length_singleton]; omega
  | m + 1, u, k, hk, h => by
    by_cases h1 : u < 10
    · rw [decF_pos _ _ h1 (by omega), List.length_singleton]; omega
    · have : 1 < k := by
        rcases Nat.lt_or_ge 1 k with h2 | h2
        · exact h2
        · obtain rfl : k = 1 := by omega
          simp at h; omega
      obtain ⟨j, rfl⟩ : ∃ j, k = j + 1 := ⟨k - 1, by omega⟩
      rw [Nat.pow_succ] at h
      have := decF_lk m (u / 10) j (by omega) (by omega)
      rw [decF_step h1, List.length_append, List.length_singleton]; omega
theorem numR_itoa {n : Int} (h0 : 0 ≤ n) (h1 : n < 100000) : numR (itoaC n) = n := by
  have e : itoaC n = decF 19 n.toNat := by unfold itoaC; rw [if_neg (by omega)]
  have p5 : (10 : Nat) ^ 5 = 100000 := by decide
  have p19 : (10 : Nat) ^ 19 = 10000000000000000000 := by decide
  rw [e]
  unfold numR
  rw [if_pos (decF_lk 19 _ 5 (by omega) (by omega)), nrF_dec 19 _ (by omega)]
  omega
theorem map_numR {L : List Int} (h : ∀ n ∈ L, 0 ≤ n ∧ n < 100000) : (L.map itoaC).map numR = L := by
  rw [List.map_map]
  conv => rhs; rw [← List.map_id L]
  exact List.map_congr_left fun n hn => numR_itoa (h n hn).1 (h n hn).2
theorem rowR_let {w : Nat} {L : List Int} (hw : L.length ≤ w) (hL : ∀ k ∈ L, 0 ≤ k ∧ k ≤ 2) : rowR w (L.map letB) = L := by
  unfold rowR
  rw [List.take_of_length_le (by rw [List.length_map]; exact hw), List.map_map]
  conv => rhs; rw [← List.map_id L]
  refine List.map_congr_left fun k hk => ?_
  have hk := hL k hk
  have : k = 0 ∨ k = 1 ∨ k = 2 := by omega
  rcases this with rfl | rfl | rfl <;> decide
theorem slR_til : ∀ {a l : List (List UInt8)} {r : List Int × List Int}, (∀ w ∈ a, w ≠ wdNodes) → slR (a ++ l) false r = slR l false (r.1 ++ a.map numR, r.2)
  | [], l, r, _ => by simp
  | w :: a, l, r, h => by
    rw [List.cons_append, show slR (w :: (a ++ l)) false r = if w = wdNodes then slR (a ++ l) true r else if false = true then slR (a ++ l) false (r.1, r.2 ++ [numR w]) else slR (a ++ l) false (r.1 ++ [numR w], r.2) from rfl, if_neg (h w (by simp)), if_neg (by decide), slR_til fun v hv => h v (List.mem_cons_of_mem _ hv)]
    simp
theorem slR_nod : ∀ {a : List (List UInt8)} {r : List Int × List Int}, (∀ w ∈ a, w ≠ wdNodes) → slR a true r = (r.1, r.2 ++ a.map numR)
  | [], r, _ => by simp [slR]
  | w :: a, r, h => by
    rw [show slR (w :: a) true r = if w = wdNodes then slR a true r else if true = true then slR a true (r.1, r.2 ++ [numR w]) else slR a true (r.1 ++ [numR w], r.2) from rfl, if_neg (h w (by simp)), if_pos rfl, slR_nod fun v hv => h v (List.mem_cons_of_mem _ hv)]
    simp
theorem itoa_neN {n : Int} (h0 : 0 ≤ n) : itoaC n ≠ wdNodes := fun h => by
  have := itoaC_dig h0 110 (by rw [h]; simp [wdNodes])
  have h110 : (110 : UInt8).toNat = 110 := rfl
  omega
end Go.Sx
namespace Go.Proofs.YtgahnelicbddcaaGreatDoor
open Go.Sx
set_option maxRecDepth 100000
theorem slot_readR {a b : List Int} (ha : ∀ n ∈ a, 0 ≤ n ∧ n < 100000) (hb : ∀ n ∈ b, 0 ≤ n ∧ n < 100000) : slotR (slotW (a, b)) = (a, b) := by
  have e2 : wordsR (slotW (a, b)) = [115, 108, 111, 116] :: [116, 105, 108, 101, 115] :: (a.map itoaC ++ wdNodes :: b.map itoaC) := by
    unfold wordsR
    show cutL 32 ([115, 108, 111, 116] ++ 32 :: ([116, 105, 108, 101, 115] ++ (numT a ++ 32 :: (wdNodes ++ numT b)))) = _
    rw [cutL_app (by decide), cut_num2 (fun n hn => (ha n hn).1) (by decide), cut_num (fun n hn => (hb n hn).1) (by decide)]
  have no : ∀ L : List Int, (∀ n ∈ L, 0 ≤ n ∧ n < 100000) → ∀ w ∈ L.map itoaC, w ≠ wdNodes := fun L hL w hw => by
    obtain ⟨n, hn, rfl⟩ := List.mem_map.1 hw
    exact itoa_neN (hL n hn).1
  unfold slotR
  rw [e2]
  show slR (a.map itoaC ++ wdNodes :: b.map itoaC) false ([], []) = _
  rw [slR_til (no a ha)]
  rw [show ∀ r, slR (wdNodes :: b.map itoaC) false r = if wdNodes = wdNodes then slR (b.map itoaC) true r else if false = true then slR (b.map itoaC) false (r.1, r.2 ++ [numR wdNodes]) else slR (b.map itoaC) false (r.1 ++ [numR wdNodes], r.2) from fun r => rfl, if_pos rfl, slR_nod (no b hb), map_numR ha, map_numR hb]
  rfl
structure RdsM (w h t p : Int) (K : List Int) (S : List (List Int × List Int)) (s : List UInt8) : Prop where
  rd : rdyM s
  w : mW s = w
  h : mH s = h
  t : mT s = t
  p : mP s = p
  k : mK s = K
  s : mS s = S
theorem roundM {w h t p : Int} {K : List Int} {S : List (List Int × List Int)} (hv : vchP w h t p K S) (hsz : (txtT w h t p K S).length ≤ 200000) : RdsM w h t p K S (txtT w h t p K S) := by
  have ht := vch_txt hv
  obtain ⟨⟨⟨a1, a2, a3, a4⟩, a5, a6⟩, b1, b2⟩ := hv
  have hg : okG w h t p := ⟨a1, a2, a3, a4⟩
  have hN := (cnt_le hg.gr).2
  have hc : gN w h t p = ((gr w h t p).cnt : Int) := rfl
  have hwh : w * h ≤ 8 * 8 := Int.mul_le_mul (by omega) (by omega) (by omega) (by omega)
  have hK : ∀ k ∈ K, 0 ≤ k ∧ k ≤ 2 := ht.2.1.2
  have hKl : K.length = w.toNat * h.toNat := ht.2.1.1
  have hS : ∀ s ∈ S, (∀ n ∈ s.1, 0 ≤ n ∧ n < 100000) ∧ (∀ n ∈ s.2, 0 ≤ n ∧ n < 100000) := fun s hs => by
    obtain ⟨r1, r2⟩ := b2 s hs
    exact ⟨fun n hn => by have := (ris_bd r1 (by omega)).2 n hn; omega, fun n hn => by have := (ris_bd r2 (by omega)).2 n hn; omega⟩
  have hhd : ∀ n ∈ [w, h, t, p], (0 : Int) ≤ n ∧ n < 100000 := fun n hn => by
    simp only [List.mem_cons, List.not_mem_nil, or_false] at hn
    rcases hn with rfl | rfl | rfl | rfl <;> omega
  have hno : ∀ l ∈ linesW w h t p K S, (10 : UInt8) ∉ l := fun l hl hx => by
    unfold linesW at hl
    rcases List.mem_cons.1 hl with rfl | hl
    · unfold headW at hx
      rcases List.mem_append.1 hx with hx | hx
      · revert hx; decide
      · exact numT_no (fun n hn => (hhd n hn).1) hx
    rcases List.mem_append.1 hl with hl | hl
    · obtain ⟨i, hi, e⟩ := List.getElem_of_mem hl
      rw [rowLs_len] at hi
      have := rowLs_get w.toNat K h.toNat i hi
      rw [List.getElem?_eq_getElem (by rw [rowLs_len]; exact hi), Option.some.injEq] at this
      rw [e] at this
      subst this
      exact let_no _ hx
    · obtain ⟨q, hq, rfl⟩ := List.mem_map.1 hl
      unfold slotW at hx
      rcases List.mem_append.1 hx with hx | hx
      · revert hx; decide
      rcases List.mem_append.1 hx with hx | hx
      · exact numT_no (fun n hn => ((hS q hq).1 n hn).1) hx
      rcases List.mem_append.1 hx with hx | hx
      · revert hx; decide
      · exact numT_no (fun n hn => ((hS q hq).2 n hn).1) hx
  have hcut : linesR (txtT w h t p K S) = linesW w h t p K S := by
    unfold linesR
    rw [txt_lines, cut_lines hno, List.dropLast_concat]
  have hll : (linesW w h t p K S).length = 1 + h.toNat + S.length := by
    unfold linesW; rw [List.length_cons, List.length_append, rowLs_len, List.length_map]; omega
  have hln : ∀ i, lnM (txtT w h t p K S) i = (linesW w h t p K S).getD i [] := fun i => by unfold lnM; rw [hcut]
  have hhdL : hdM (txtT w h t p K S) = sGrd :: [w, h, t, p].map itoaC := by
    unfold hdM wordsR
    rw [hln]
    show cutL 32 (sGrd ++ numT [w, h, t, p]) = _
    rw [cut_num (fun n hn => (hhd n hn).1) (by decide)]
  have hi : ∀ n ∈ [w, h, t, p], numR (itoaC n) = n := fun n hn => numR_itoa (hhd n hn).1 (hhd n hn).2
  have eW : mW (txtT w h t p K S) = w := by unfold mW; rw [hhdL]; exact hi w (by simp)
  have eH : mH (txtT w h t p K S) = h := by unfold mH; rw [hhdL]; exact hi h (by simp)
  have eT : mT (txtT w h t p K S) = t := by unfold mT; rw [hhdL]; exact hi t (by simp)
  have eP : mP (txtT w h t p K S) = p := by unfold mP; rw [hhdL]; exact hi p (by simp)
  have hcl : (linesR (txtT w h t p K S)).length = 1 + h.toNat + S.length := by rw [hcut, hll]
  refine ⟨⟨⟨by omega, hsz⟩, by rw [hhdL]; rfl, by rw [eW]; omega, by rw [eH]; omega, by rw [eH, hcl]; omega⟩, eW, eH, eT, eP, ?_, ?_⟩
  · unfold mK kdM
    rw [eH, eW]
    have : (List.range h.toNat).flatMap (fun i => rowR w.toNat (lnM (txtT w h t p K S) (h.toNat - i))) = (List.range h.toNat).flatMap (fun i => (K.drop (i * w.toNat)).take w.toNat) := by
      rw [List.flatMap_def, List.flatMap_def]
      congr 1
      refine List.map_congr_left fun i hi => ?_
      have hi := List.mem_range.1 hi
      rw [hln]
      have e : (linesW w h t p K S).getD (h.toNat - i) [] = rowB w.toNat K i := by
        unfold linesW
        rw [List.getD_eq_getElem?_getD, show h.toNat - i = (h.toNat - i - 1) + 1 by omega, List.getElem?_cons_succ, List.getElem?_append_left (by rw [rowLs_len]; omega), rowLs_get _ _ _ _ (by omega), show h.toNat - 1 - (h.toNat - i - 1) = i by omega]; rfl
      rw [e]
      exact rowR_let (List.length_take_le _ _) fun k hk => hK k (List.mem_of_mem_drop (List.mem_of_mem_take hk))
    rw [this, flat_rows, Nat.mul_comm, ← hKl, List.take_length]
  · unfold mS slM
    rw [eH, hcl]
    rw [show 1 + h.toNat + S.length - (1 + h.toNat) = S.length by omega]
    refine List.ext_getElem (by simp) fun i hi1 hi2 => ?_
    rw [List.getElem_map, List.getElem_range, hln]
    have e : (linesW w h t p K S).getD (1 + h.toNat + i) [] = slotW S[i] := by
      unfold linesW
      rw [List.getD_eq_getElem?_getD, show 1 + h.toNat + i = (h.toNat + i) + 1 by omega, List.getElem?_cons_succ, List.getElem?_append_right (by rw [rowLs_len]; omega), rowLs_len, show h.toNat + i - h.toNat = i by omega, List.getElem?_map, List.getElem?_eq_getElem hi2]; rfl
    rw [e]
    have := hS S[i] (List.getElem_mem hi2)
    exact slot_readR this.1 this.2
theorem okM_iff {s : List UInt8} (hs : s.length ≤ 200000) : (okM s ↔ okP s) ∧ (okP s → mW s = rW s ∧ mH s = rH s ∧ mT s = rT s ∧ mP s = rP s ∧ mK s = rKd s ∧ mS s = rSl s) := by
  have h1 : okP s → RdsM (rW s) (rH s) (rT s) (rP s) (rKd s) (rSl s) s := fun h => by
    have := roundM h.2.1 (by rw [h.2.2]; exact hs)
    rw [h.2.2] at this
    exact this
  refine ⟨⟨fun h => ?_, fun h => ?_⟩, fun h => ?_⟩
  · have := okP_txt h.2.1
    rw [h.2.2] at this
    exact this
  · obtain ⟨k1, k2, k3, k4, k5, k6, k7⟩ := h1 h
    exact ⟨k1, by rw [k2, k3, k4, k5, k6, k7]; exact h.2⟩
  · obtain ⟨k1, k2, k3, k4, k5, k6, k7⟩ := h1 h
    exact ⟨k2, k3, k4, k5, k6, k7⟩
noncomputable def cPiV (gw gh gt gp : List UInt8 → Int) (gk : List UInt8 → List Int) (gn : List UInt8 → Nat) (gs : List UInt8 → Nat → Nat → DV) (ge : List UInt8 → Int) : Ctr := fun ss => match ss with
  | [.d (.x (.string s))] => .need (s.size ≤ 200000) (.ret (.agg [iv (gw s.data.toList), iv (gh s.data.toList), iv (gt s.data.toList), iv (gp s.data.toList), ivL (gk s.data.toList), .d (.ro (gn s.data.toList) 2 (gs s.data.toList)), iv (ge s.data.toList)]))
  | _ => .fail
theorem cPiV_ok : CtrOK Tryz.prog 22 (cPiV pW pH pT pP pK pN pSd pE) := by
  refine ctrOK_leR CY5_ok DY5_ok (by kernel_rfl) (by kernel_rfl) fun ss r hr => ?_
  unfold cPiV at hr
  split at hr
  · rename_i s
    obtain ⟨h1, rfl⟩ := hr
    have hs : s.data.toList.length ≤ 200000 := by simpa using h1
    have k0 := pi5_sat (s := s.data.toList) (by omega) rfl
    obtain ⟨e1, e2⟩ := okM_iff hs
    have e : (if okM s.data.toList then okW (mW s.data.toList) (mH s.data.toList) (mT s.data.toList) (mP s.data.toList) (mK s.data.toList) (mS s.data.toList) else noW) = .agg [iv (pW s.data.toList), iv (pH s.data.toList), iv (pT s.data.toList), iv (pP s.data.toList), ivL (pK s.data.toList), .d (.ro (pN s.data.toList) 2 (pSd s.data.toList)), iv (pE s.data.toList)] := by
      unfold pN pSd pW pH pT pP pK pS pE
      by_cases h : okP s.data.toList
      · obtain ⟨f1, f2, f3, f4, f5, f6⟩ := e2 h
        simp only [if_pos h, if_pos (e1.2 h), f1, f2, f3, f4, f5, f6]; rfl
      · simp only [if_neg h, if_neg (fun h2 => h (e1.1 h2))]; rfl
    rw [e] at k0
    refine ⟨_, 200, .nil, ?_, k0⟩
    exact ⟨rfl, by simp only [leSVs]⟩
  · exact hr.elim
end Go.Proofs.YtgahnelicbddcaaGreatDoor

namespace Go.Sx
structure PG where
  gw : List UInt8 → Int
  gh : List UInt8 → Int
  gt : List UInt8 → Int
  gp : List UInt8 → Int
  gk : List UInt8 → List Int
  gn : List UInt8 → Nat
  gs : List UInt8 → Nat → Nat → DV
  ge : List UInt8 → Int
abbrev bL (O : ByteArray) : List UInt8 := O.data.toList
def g4 (P : PG) (O : ByteArray) (i _ : Nat) : DV := .x (.int .i64 ((P.gk (bL O)).getD i 0))
def v4 (P : PG) (O : ByteArray) : Bool := vchR (P.gw (bL O)) (P.gh (bL O)) (P.gt (bL O)) (P.gp (bL O)) (P.gk (bL O)).length (g4 P O) (P.gn (bL O)) (P.gs (bL O)) == 0
def w4 (P : PG) (O : ByteArray) : Bool := v4 P O && (vchR (P.gw (bL O)) (P.gh (bL O)) (P.gt (bL O)) (P.gp (bL O)) (P.gk (bL O)).length (g4 P O) (P.gn (bL O)) (P.gs (bL O)) == 0)
def f4 (tx : Int → Int → Int → Int → DV → DV → List UInt8) (P : PG) (S O : ByteArray) : Tree SV :=
  .need (O.size ≤ 800000) (.ite (P.ge (bL O) != 0) (.ret (bv (P.ge (bL O) == 5 && P.gw (bL O) == 0 && !strEq O S && true)))
    (.need (Proofs.ChRO (P.gk (bL O)).length (g4 P O) (P.gn (bL O)) (P.gs (bL O))) (.need (v4 P O = true → Proofs.ChRO (P.gk (bL O)).length (g4 P O) (P.gn (bL O)) (P.gs (bL O)))
    (.need (w4 P O = true → Proofs.TxtRO (P.gw (bL O)) (P.gh (bL O)) (P.gt (bL O)) (P.gp (bL O)) (P.gk (bL O)).length (g4 P O) (P.gn (bL O)) (P.gs (bL O)))
    (.ret (bv (w4 P O && strEq (strB (tx (P.gw (bL O)) (P.gh (bL O)) (P.gt (bL O)) (P.gp (bL O)) (.ro (P.gk (bL O)).length 1 (g4 P O)) (.ro (P.gn (bL O)) 2 (P.gs (bL O))))) O && true)))))))
def zq4 (zb : Int) (i j : Nat) : DV := dsAt [DV.x (.int .u8 zb)] (0 + (0 + i) * 1 + j)
def e1 (S : ByteArray) (A : Int) : ByteArray := S.extract 0 A.toNat
def e2 (S : ByteArray) (A : Int) : ByteArray := S.extract (w64 (A + 1)).toNat S.size
def e3 (S : ByteArray) (A : Int) : ByteArray := S.extract A.toNat S.size
def m4 (tx : Int → Int → Int → Int → DV → DV → List UInt8) (P : PG) (zk zb : Int) (S : ByteArray) (A : Int) : Fin 3 → Tree SV
  | 0 => .need ((Int.tmod zk 3 == 1) = false) (.need ((3 : Int) ≠ 0) (.need ((Int.tmod zk 3 == 2) = false) (f4 tx P S (e1 S A ++ strOf 1 (zq4 zb) ++ e2 S A))))
  | 1 => .need ((Int.tmod zk 3 == 1) = true) (.need ((0 ≤ A ∧ A.toNat ≤ S.size) ∧ True) (.need (1 ≤ 1) (.need (∀ i, i < 1 → isU8 (zq4 zb i 0) = true) (.need ((e1 S A).size + 1 ≤ 9223372036854775807) (.need (True ∧ 0 ≤ A ∧ A.toNat ≤ S.size) (.need ((e1 S A ++ strOf 1 (zq4 zb)).size + (e3 S A).size ≤ 9223372036854775807)
      (.need ((3 : Int) ≠ 0) (.need ((Int.tmod zk 3 == 2) = false) (f4 tx P S (e1 S A ++ strOf 1 (zq4 zb) ++ e3 S A))))))))))
  | 2 => .need ((Int.tmod zk 3 == 1) = false) (.need ((3 : Int) ≠ 0) (.need ((Int.tmod zk 3 == 2) = true) (.need ((0 ≤ A ∧ A.toNat ≤ S.size) ∧ True) (.need (True ∧ 0 ≤ w64 (A + 1) ∧ (w64 (A + 1)).toNat ≤ S.size) (.need ((e1 S A).size + (e2 S A).size ≤ 9223372036854775807) (f4 tx P S (e1 S A ++ e2 S A)))))))
def l4 (tx : Int → Int → Int → Int → DV → DV → List UInt8) (P : PG) (W H T : Int) (mk : Nat) (ck : Nat → Nat → DV) (K : Nat) (sl : Nat → Nat → DV) (zk zb za : Int) (S : ByteArray) (r : Fin 3) : Tree SV :=
  .need (2 ≤ 2) (.need (Proofs.TxtRO W H T 24 mk ck K sl) (.need (S.size ≤ 800000) (.need ((P.ge (bL S) != 0) = false → 2 ≤ 2) (.need ((P.ge (bL S) != 0) = false → Proofs.ChRO (P.gk (bL S)).length (g4 P S) (P.gn (bL S)) (P.gs (bL S)) ∧ Proofs.ChRO mk ck K sl)
    (.need ((P.ge (bL S) != 0 || !smeR (P.gw (bL S)) (P.gh (bL S)) (P.gt (bL S)) (P.gp (bL S)) (P.gk (bL S)).length (g4 P S) (P.gn (bL S)) (P.gs (bL S)) W H T 24 mk ck K sl || decide ((S.size : Int) < 10)) = false)
    (.need ((S.size : Int) ≠ 0) (.need ((0 ≤ Int.tmod (w64 za) S.size ∧ (Int.tmod (w64 za) S.size).toNat ≤ S.size) ∧ True) (.need (1 ≤ 1) (.need (∀ i, i < 1 → isU8 (zq4 zb i 0) = true) (.need ((e1 S (Int.tmod (w64 za) S.size)).size + 1 ≤ 9223372036854775807)
    (.need (True ∧ 0 ≤ w64 (Int.tmod (w64 za) S.size + 1) ∧ (w64 (Int.tmod (w64 za) S.size + 1)).toNat ≤ S.size) (.need ((e1 S (Int.tmod (w64 za) S.size) ++ strOf 1 (zq4 zb)).size + (e2 S (Int.tmod (w64 za) S.size)).size ≤ 9223372036854775807) (.need ((3 : Int) ≠ 0)
    (m4 tx P zk zb S (Int.tmod (w64 za) S.size) r))))))))))))))
end Go.Sx
namespace Go.Proofs.YtgahnelicbddcaaGreatDoor
open Go.Sx
set_option maxRecDepth 100000
def PD : PG := ⟨pW, pH, pT, pP, pK, pN, pSd, pE⟩
end Go.Proofs.YtgahnelicbddcaaGreatDoor

namespace Go.Sx
structure DG where
  gk : Int → Int
  gx : Int → Int
  gy : Int → Int
  gi : Int → Int
  ge : Int → Int
  gm : Int → Int → Int → Int → Int
  gf : Int → Int → Int → Int → Int
  dr : Int → List Int
  dv : Int → List Int
  cn : Int
def gD (w h t p : Int) : DG := ⟨gK w h t p, gX w h t p, gY w h t p, gI w h t p, gE w h t p, gM w h t p, gF w h t p, refD w h t p, refN w h t p, gN w h t p⟩
def _root_.Go.Proofs.GrIs (w h t p : Int) (D : DG) : Prop := Proofs.okG w h t p ∧ D = gD w h t p
def _root_.Go.Proofs.AnIs (w h t p : Int) (m : Nat) (f : Nat → Nat → DV) (W H T Q : Int) (mk : Nat) (ck : Nat → Nat → DV) : Prop :=
  Proofs.RawOK w h t p m f ∧ anN 1 8 w = W ∧ anN 1 8 h = H ∧ anN 1 8 t = T ∧ anN 0 65 p = Q ∧ (anK 1 8 w h m f).length = mk ∧ (fun (i _ : Nat) => DV.x (.int .i64 ((anK 1 8 w h m f).getD i 0))) = ck
def vldR (w h t p : Int) (m : Nat) (c : Nat → Nat → DV) : Int := vldE w h t p (lsOf m c)
end Go.Sx
namespace Go.Proofs.YtgahnelicbddcaaGreatDoor
open Go.Sx
set_option maxRecDepth 100000
noncomputable def cAnV (W H T Q : Int) (mk : Nat) (ck : Nat → Nat → DV) : Ctr := fun ss => match ss with
  | [.agg [.d (.x (.int .u8 w)), .d (.x (.int .u8 h)), .d (.x (.int .u8 t)), .d (.x (.int .u8 p)), .d (.ro m 1 f)]] => .need (AnIs w h t p m f W H T Q mk ck) (.ret (.agg [iv W, iv H, iv T, iv Q, .d (.ro mk 1 ck)]))
  | _ => .fail
theorem cAnV_ok (W H T Q : Int) (mk : Nat) (ck : Nat → Nat → DV) : CtrOK Tryz.prog 10 (cAnV W H T Q mk ck) := cAny_ok.mono fun ss r h => by
  unfold cAnV at h
  split at h
  · obtain ⟨⟨h1, rfl, rfl, rfl, rfl, rfl, rfl⟩, rfl⟩ := h
    exact ⟨h1, rfl⟩
  · exact h.elim
noncomputable def cCtV (D : DG) : Ctr := fun ss => match ss with
  | [.agg [.d (.x (.int .i64 w)), .d (.x (.int .i64 h)), .d (.x (.int .i64 t)), .d (.x (.int .i64 p)), .d (.ro m 1 c)]] => .need (GrIs w h t p D) (.ret (iv D.cn))
  | _ => .fail
noncomputable def cDsV (D : DG) : Ctr := fun ss => match ss with
  | [.agg [.d (.x (.int .i64 w)), .d (.x (.int .i64 h)), .d (.x (.int .i64 t)), .d (.x (.int .i64 p)), .d (.ro m 1 c)], .d (.x (.int .i64 n))] => .need (GrIs w h t p D) (.need (i64B n) (.ret (.tup [.agg [iv (D.gk n), iv (D.gx n), iv (D.gy n), iv (D.gi n)], iv (D.ge n)])))
  | _ => .fail
noncomputable def cDiV (D : DG) : Ctr := fun ss => match ss with
  | [.agg [.d (.x (.int .i64 w)), .d (.x (.int .i64 h)), .d (.x (.int .i64 t)), .d (.x (.int .i64 p)), .d (.ro m 1 c)], .d (.x (.int .i64 n))] => .need (GrIs w h t p D) (.need (i64B n) (.ret (.agg [iv (D.gk n), iv (D.gx n), iv (D.gy n), iv (D.gi n), iv (D.ge n)])))
  | _ => .fail
noncomputable def cNdV (D : DG) : Ctr := fun ss => match ss with
  | [.agg [.d (.x (.int .i64 w)), .d (.x (.int .i64 h)), .d (.x (.int .i64 t)), .d (.x (.int .i64 p)), .d (.ro m 1 c)], .agg [.d (.x (.int .i64 k)), .d (.x (.int .i64 x)), .d (.x (.int .i64 y)), .d (.x (.int .i64 i))]] => .need (GrIs w h t p D) (.ret (.tup [iv (D.gm k x y i), iv (D.gf k x y i)]))
  | _ => .fail
noncomputable def cNiV (D : DG) : Ctr := fun ss => match ss with
  | [.agg [.d (.x (.int .i64 w)), .d (.x (.int .i64 h)), .d (.x (.int .i64 t)), .d (.x (.int .i64 p)), .d (.ro m 1 c)], .agg [.d (.x (.int .i64 k)), .d (.x (.int .i64 x)), .d (.x (.int .i64 y)), .d (.x (.int .i64 i))]] => .need (GrIs w h t p D) (.ret (.agg [iv (D.gm k x y i), iv (D.gf k x y i)]))
  | _ => .fail
noncomputable def cDrV (D : DG) : Ctr := fun ss => match ss with
  | [.agg [.d (.x (.int .i64 w)), .d (.x (.int .i64 h)), .d (.x (.int .i64 t)), .d (.x (.int .i64 p)), .d (.ro m 1 c)], .d (.x (.int .i64 n))] => .need (GrIs w h t p D) (.need (i64B n) (.ret (ivL (D.dr n))))
  | _ => .fail
noncomputable def cDvV (D : DG) : Ctr := fun ss => match ss with
  | [.agg [.d (.x (.int .i64 w)), .d (.x (.int .i64 h)), .d (.x (.int .i64 t)), .d (.x (.int .i64 p)), .d (.ro m 1 c)], .d (.x (.int .i64 n))] => .need (GrIs w h t p D) (.need (i64B n) (.ret (ivL (D.dv n))))
  | _ => .fail
theorem cCtV11 (D : DG) : CtrOK Tryz.prog 11 (cCtV D) := cCt_ok.1.mono fun ss r h => by
  unfold cCtV at h
  split at h
  · obtain ⟨⟨h1, rfl⟩, rfl⟩ := h
    exact ⟨h1, rfl⟩
  · exact h.elim
theorem cCtV25 (D : DG) : CtrOK Tryz.prog 25 (cCtV D) := cCt_ok.2.mono fun ss r h => by
  unfold cCtV at h
  split at h
  · obtain ⟨⟨h1, rfl⟩, rfl⟩ := h
    exact ⟨h1, rfl⟩
  · exact h.elim
theorem cDsV_ok (D : DG) : CtrOK Tryz.prog 39 (cDsV D) := cDs_ok.mono fun ss r h => by
  unfold cDsV at h
  split at h
  · obtain ⟨⟨h1, rfl⟩, h2, rfl⟩ := h
    exact ⟨h1, h2, rfl⟩
  · exact h.elim
theorem cDiV_ok (D : DG) : CtrOK Tryz.prog 26 (cDiV D) := cDi_ok.mono fun ss r h => by
  unfold cDiV at h
  split at h
  · obtain ⟨⟨h1, rfl⟩, h2, rfl⟩ := h
    exact ⟨h1, h2, rfl⟩
  · exact h.elim
theorem cNdV_ok (D : DG) : CtrOK Tryz.prog 40 (cNdV D) := cNd_ok.mono fun ss r h => by
  unfold cNdV at h
  split at h
  · obtain ⟨⟨h1, rfl⟩, rfl⟩ := h
    exact ⟨h1, rfl⟩
  · exact h.elim
theorem cNiV_ok (D : DG) : CtrOK Tryz.prog 27 (cNiV D) := cNi_ok.mono fun ss r h => by
  unfold cNiV at h
  split at h
  · obtain ⟨⟨h1, rfl⟩, rfl⟩ := h
    exact ⟨h1, rfl⟩
  · exact h.elim
theorem cDrV29 (D : DG) : CtrOK Tryz.prog 29 (cDrV D) := cDr_ok.mono fun ss r h => by
  unfold cDrV at h
  split at h
  · obtain ⟨⟨h1, rfl⟩, h2, rfl⟩ := h
    exact ⟨h1, h2, rfl⟩
  · exact h.elim
theorem cDrV30 (D : DG) : CtrOK Tryz.prog 30 (cDrV D) := cRd_ok.mono fun ss r h => by
  unfold cDrV at h
  split at h
  · obtain ⟨⟨h1, rfl⟩, h2, rfl⟩ := h
    exact ⟨h1, h2, rfl⟩
  · exact h.elim
theorem cDvV31 (D : DG) : CtrOK Tryz.prog 31 (cDvV D) := cDv_ok.mono fun ss r h => by
  unfold cDvV at h
  split at h
  · obtain ⟨⟨h1, rfl⟩, h2, rfl⟩ := h
    exact ⟨h1, h2, rfl⟩
  · exact h.elim
theorem cDvV32 (D : DG) : CtrOK Tryz.prog 32 (cDvV D) := cRn_ok.mono fun ss r h => by
  unfold cDvV at h
  split at h
  · obtain ⟨⟨h1, rfl⟩, h2, rfl⟩ := h
    exact ⟨h1, h2, rfl⟩
  · exact h.elim
noncomputable def cVaR : Ctr := fun ss => match ss with
  | [.agg [.d (.x (.int .i64 w)), .d (.x (.int .i64 h)), .d (.x (.int .i64 t)), .d (.x (.int .i64 p)), .d (.ro m 1 c)]] => .need (RowOK m c) (.ret (iv (vldR w h t p m c)))
  | _ => .fail
theorem cVaR23 : CtrOK Tryz.prog 23 cVaR := cVa_ok.mono fun ss r h => by
  unfold cVaR at h
  split at h
  · exact h
  · exact h.elim
theorem cVaR24 : CtrOK Tryz.prog 24 cVaR := cVe_ok.mono fun ss r h => by
  unfold cVaR at h
  split at h
  · exact h
  · exact h.elim
noncomputable def manZ0 (P : PG) (D : DG) : FuncId → Option Ctr := fun k => match k with
  | 46 => some (cPaV P.gw P.gh P.gt P.gp P.gk P.gn P.gs P.ge)
  | 39 => some (cDsV D)
  | 40 => some (cNdV D)
  | _ => none
theorem manZ0_ok (D : DG) (k : Nat) (c : Ctr) (h : manZ0 PD D k = some c) : CtrOK Tryz.prog k c ∧ goodF Tryz.prog k = true := by
  unfold manZ0 at h
  split at h
  · cases h; exact ⟨cPaV_ok, by kernel_rfl⟩
  · cases h; exact ⟨cDsV_ok D, by kernel_rfl⟩
  · cases h; exact ⟨cNdV_ok D, by kernel_rfl⟩
  · cases h
noncomputable def CZ0 (P : PG) (D : DG) : Ctx := ctxN Tryz.prog (manZ0 P D) (fun _ => false) 200 .nil 8
theorem CZ0_ok (D : DG) : CtxOK Tryz.prog (CZ0 PD D) := ctxN_ok mixed (manZ0_ok D) 8
noncomputable def DZ0 (P : PG) (D : DG) : Dr := fun _ => drawn Tryz.prog (CZ0 P D)
theorem DZ0_ok (D : DG) : DrOK Tryz.prog (CZ0 PD D) (DZ0 PD D) := drawn_ok (CZ0_ok D) mixed
noncomputable def gridF (w h t p : Int) (m : Nat) (c : Nat → Nat → DV) : SV := .agg [iv w, iv h, iv t, iv p, .d (.ro m 1 c)]
noncomputable def tZ0 (P : PG) (D : DG) (k : Nat) (l : List SV) : Tree SV := fnT Tryz.prog (CZ0 P D) (DZ0 P D) 200 (fnOf Tryz.prog k) (bodyOf Tryz.prog k) l .nil
theorem z12 (P : PG) (D : DG) (w h t p : Int) (m : Nat) (c : Nat → Nat → DV) (n : Int) : tZ0 P D 12 [gridF w h t p m c, iv n] = .need (GrIs w h t p D) (.need (i64B n) (.ret (.agg [iv (D.gk n), iv (D.gx n), iv (D.gy n), iv (D.gi n), iv (D.ge n)]))) := by kernel_rfl
theorem z13 (P : PG) (D : DG) (w h t p : Int) (m : Nat) (c : Nat → Nat → DV) (k x y i : Int) : tZ0 P D 13 [gridF w h t p m c, .agg [iv k, iv x, iv y, iv i]] = .need (GrIs w h t p D) (.ret (.agg [iv (D.gm k x y i), iv (D.gf k x y i)])) := by kernel_rfl
theorem z17 (P : PG) (D : DG) (s : ByteArray) : tZ0 P D 17 [.d (.x (.string s))] = .need (s.size ≤ 800000) (.ret (.agg [iv (P.gw s.data.toList), iv (P.gh s.data.toList), iv (P.gt s.data.toList), iv (P.gp s.data.toList), ivL (P.gk s.data.toList), .d (.ro (P.gn s.data.toList) 2 (P.gs s.data.toList)), iv (P.ge s.data.toList)])) := by kernel_rfl
noncomputable def cPbV (P : PG) : Ctr := fun ss => match ss with
  | [.d (.x (.string s))] => .need (s.size ≤ 800000) (.ret (.agg [iv (P.gw s.data.toList), iv (P.gh s.data.toList), iv (P.gt s.data.toList), iv (P.gp s.data.toList), ivL (P.gk s.data.toList), .d (.ro (P.gn s.data.toList) 2 (P.gs s.data.toList)), iv (P.ge s.data.toList)]))
  | _ => .fail
theorem cDbV_ok (D : DG) : CtrOK Tryz.prog 12 (cDiV D) := ctrOK_S (CZ0_ok D) (DZ0_ok D) (by kernel_rfl) (by kernel_rfl) fun ss r h => by
  unfold cDiV at h
  split at h
  · obtain ⟨h1, h2, rfl⟩ := h
    exact ⟨200, .nil, Sat.of_eq (z12 PD D _ _ _ _ _ _ _) ⟨h1, h2, rfl⟩⟩
  · exact h.elim
theorem cNbV_ok (D : DG) : CtrOK Tryz.prog 13 (cNiV D) := ctrOK_S (CZ0_ok D) (DZ0_ok D) (by kernel_rfl) (by kernel_rfl) fun ss r h => by
  unfold cNiV at h
  split at h
  · obtain ⟨h1, rfl⟩ := h
    exact ⟨200, .nil, Sat.of_eq (z13 PD D _ _ _ _ _ _ _ _ _ _) ⟨h1, rfl⟩⟩
  · exact h.elim
theorem cPbV_ok : CtrOK Tryz.prog 17 (cPbV PD) := ctrOK_S (CZ0_ok (gD 1 1 1 1)) (DZ0_ok (gD 1 1 1 1)) (by kernel_rfl) (by kernel_rfl) fun ss r h => by
  unfold cPbV at h
  split at h
  · obtain ⟨h1, rfl⟩ := h
    exact ⟨200, .nil, Sat.of_eq (z17 PD _ _) ⟨h1, rfl⟩⟩
  · exact h.elim
noncomputable def manZ5 (W H T Q : Int) (mk : Nat) (ck : Nat → Nat → DV) (n0 : Nat) (c0 : Nat → Nat → DV) (n1 : Nat) (c1 : Nat → Nat → DV) (tx : Int → Int → Int → Int → DV → DV → List UInt8) (P : PG) (D : DG) : FuncId → Option Ctr := fun k => match k with
  | 9 => some cEx
  | 10 => some (cAnV W H T Q mk ck)
  | 15 => some (cBadV n0 c0 n1 c1)
  | 16 => some (cTxV tx)
  | 33 => some cTx5
  | 17 => some (cPbV P)
  | 22 => some (cPiV P.gw P.gh P.gt P.gp P.gk P.gn P.gs P.ge)
  | 18 => some cSmR
  | 19 => some cVcR
  | 20 => some cVcR
  | 23 => some cVaR
  | 24 => some cVaR
  | 11 => some (cCtV D)
  | 25 => some (cCtV D)
  | 12 => some (cDiV D)
  | 26 => some (cDiV D)
  | 13 => some (cNiV D)
  | 27 => some (cNiV D)
  | 29 => some (cDrV D)
  | 30 => some (cDrV D)
  | 31 => some (cDvV D)
  | 32 => some (cDvV D)
  | 28 => some cIn2
  | _ => none
theorem manZ5_ok (W H T Q : Int) (mk : Nat) (ck : Nat → Nat → DV) (n0 : Nat) (c0 : Nat → Nat → DV) (n1 : Nat) (c1 : Nat → Nat → DV) (D : DG) (k : Nat) (c : Ctr) (h : manZ5 W H T Q mk ck n0 c0 n1 c1 txD PD D k = some c) : CtrOK Tryz.prog k c ∧ goodF Tryz.prog k = true := by
  unfold manZ5 at h
  split at h
  · cases h; exact ⟨cEx_ok, by kernel_rfl⟩
  · cases h; exact ⟨cAnV_ok _ _ _ _ _ _, by kernel_rfl⟩
  · cases h; exact ⟨cBadV_ok _ _ _ _, by kernel_rfl⟩
  · cases h; exact ⟨cTxV_ok, by kernel_rfl⟩
  · cases h; exact ⟨cTx5_ok, by kernel_rfl⟩
  · cases h; exact ⟨cPbV_ok, by kernel_rfl⟩
  · cases h; exact ⟨cPiV_ok, by kernel_rfl⟩
  · cases h; exact ⟨cSmR_ok, by kernel_rfl⟩
  · cases h; exact ⟨cVc19_ok, by kernel_rfl⟩
  · cases h; exact ⟨cVc20_ok, by kernel_rfl⟩
  · cases h; exact ⟨cVaR23, by kernel_rfl⟩
  · cases h; exact ⟨cVaR24, by kernel_rfl⟩
  · cases h; exact ⟨cCtV11 D, by kernel_rfl⟩
  · cases h; exact ⟨cCtV25 D, by kernel_rfl⟩
  · cases h; exact ⟨cDbV_ok D, by kernel_rfl⟩
  · cases h; exact ⟨cDiV_ok D, by kernel_rfl⟩
  · cases h; exact ⟨cNbV_ok D, by kernel_rfl⟩
  · cases h; exact ⟨cNiV_ok D, by kernel_rfl⟩
  · cases h; exact ⟨cDrV29 D, by kernel_rfl⟩
  · cases h; exact ⟨cDrV30 D, by kernel_rfl⟩
  · cases h; exact ⟨cDvV31 D, by kernel_rfl⟩
  · cases h; exact ⟨cDvV32 D, by kernel_rfl⟩
  · cases h; exact ⟨cIn2_ok, by kernel_rfl⟩
  · cases h
noncomputable def CZ5 (W H T Q : Int) (mk : Nat) (ck : Nat → Nat → DV) (n0 : Nat) (c0 : Nat → Nat → DV) (n1 : Nat) (c1 : Nat → Nat → DV) (tx : Int → Int → Int → Int → DV → DV → List UInt8) (P : PG) (D : DG) : Ctx := ctxN Tryz.prog (manZ5 W H T Q mk ck n0 c0 n1 c1 tx P D) (fun k => k == 21) 200 .nil 8
theorem CZ5_ok (W H T Q : Int) (mk : Nat) (ck : Nat → Nat → DV) (n0 : Nat) (c0 : Nat → Nat → DV) (n1 : Nat) (c1 : Nat → Nat → DV) (D : DG) : CtxOK Tryz.prog (CZ5 W H T Q mk ck n0 c0 n1 c1 txD PD D) := ctxN_ok mixed (manZ5_ok W H T Q mk ck n0 c0 n1 c1 D) 8
noncomputable def DZ5 (W H T Q : Int) (mk : Nat) (ck : Nat → Nat → DV) (n0 : Nat) (c0 : Nat → Nat → DV) (n1 : Nat) (c1 : Nat → Nat → DV) (tx : Int → Int → Int → Int → DV → DV → List UInt8) (P : PG) (D : DG) : Dr := fun _ => drawn Tryz.prog (CZ5 W H T Q mk ck n0 c0 n1 c1 tx P D)
theorem DZ5_ok (W H T Q : Int) (mk : Nat) (ck : Nat → Nat → DV) (n0 : Nat) (c0 : Nat → Nat → DV) (n1 : Nat) (c1 : Nat → Nat → DV) (D : DG) : DrOK Tryz.prog (CZ5 W H T Q mk ck n0 c0 n1 c1 txD PD D) (DZ5 W H T Q mk ck n0 c0 n1 c1 txD PD D) := drawn_ok (CZ5_ok W H T Q mk ck n0 c0 n1 c1 D) mixed
noncomputable def oddF (cw ch ct cp : Int) (m2 : Nat) (c2 : Nat → Nat → DV) (k2 : Nat) (s2 : Nat → Nat → DV) (nd sk sx sy si : Int) (s : List UInt8) (k : Nat) (b : Nat → Nat → DV) : SV := .agg [iv cw, iv ch, iv ct, iv cp, .d (.ro m2 1 c2), .d (.ro k2 2 s2), iv nd, iv sk, iv sx, iv sy, iv si, strV s, .d (.ro k 1 b)]
noncomputable def tL5 (w h t p : Int) (m : Nat) (f : Nat → Nat → DV) (cw ch ct cp : Int) (m2 : Nat) (c2 : Nat → Nat → DV) (k2 : Nat) (s2 : Nat → Nat → DV) (nd sk sx sy si : Int) (s : List UInt8) (k : Nat) (b : Nat → Nat → DV) (W H T Q : Int) (mk : Nat) (ck : Nat → Nat → DV) (n0 : Nat) (c0 : Nat → Nat → DV) (n1 : Nat) (c1 : Nat → Nat → DV) (tx : Int → Int → Int → Int → DV → DV → List UInt8) (P : PG) (D : DG) (hn : Hint) : Tree SV := fnT Tryz.prog (CZ5 W H T Q mk ck n0 c0 n1 c1 tx P D) (DZ5 W H T Q mk ck n0 c0 n1 c1 tx P D) 200 (fnOf Tryz.prog 5) (bodyOf Tryz.prog 5) [rawF w h t p m f, oddF cw ch ct cp m2 c2 k2 s2 nd sk sx sy si s k b] hn
noncomputable def L5F (w h t p : Int) (m : Nat) (f : Nat → Nat → DV) (cw ch ct cp : Int) (m2 : Nat) (c2 : Nat → Nat → DV) (k2 : Nat) (s2 : Nat → Nat → DV) (nd sk sx sy si : Int) (s : List UInt8) (k : Nat) (b : Nat → Nat → DV) (W H T Q : Int) (mk : Nat) (ck : Nat → Nat → DV) (n0 : Nat) (c0 : Nat → Nat → DV) (n1 : Nat) (c1 : Nat → Nat → DV) (tx : Int → Int → Int → Int → DV → DV → List UInt8) (P : PG) (D : DG) : Tree SV :=
  .need (false = false)
  (.need ((!(decide ((↑m2 : Int) ≤ (100 : Int)) && decide ((↑k2 : Int) ≤ (20 : Int)) && decide ((↑(ByteArray.size (strB s)) : Int) ≤ (400 : Int)) && decide ((↑k : Int) ≤ (40 : Int)))) = true) (.ret (bv true)))

theorem L5F_eq (w h t p : Int) (m : Nat) (f : Nat → Nat → DV) (cw ch ct cp : Int) (m2 : Nat) (c2 : Nat → Nat → DV) (k2 : Nat) (s2 : Nat → Nat → DV) (nd sk sx sy si : Int) (s : List UInt8) (k : Nat) (b : Nat → Nat → DV) (W H T Q : Int) (mk : Nat) (ck : Nat → Nat → DV) (n0 : Nat) (c0 : Nat → Nat → DV) (n1 : Nat) (c1 : Nat → Nat → DV) (tx : Int → Int → Int → Int → DV → DV → List UInt8) (P : PG) (D : DG) : tL5 w h t p m f cw ch ct cp m2 c2 k2 s2 nd sk sx sy si s k b W H T Q mk ck n0 c0 n1 c1 tx P D (.f (.t .nil)) = L5F w h t p m f cw ch ct cp m2 c2 k2 s2 nd sk sx sy si s k b W H T Q mk ck n0 c0 n1 c1 tx P D := by kernel_rfl


end Go.Proofs.YtgahnelicbddcaaGreatDoor

namespace Go.Proofs.YtgahnelicbddcaaGreatDoor
open Go.Sx
set_option maxRecDepth 100000
noncomputable def L5T_q1 (W : Int) (H : Int) (T : Int) (Q : Int) (mk : Nat) (ck : Nat → Nat → DV) : Bool :=
  vldR W H T Q mk ck != (0 : Int)
noncomputable def L5T_q2 (cw : Int) (ch : Int) (ct : Int) (cp : Int) (m2 : Nat) (c2 : Nat → Nat → DV) (W : Int) (H : Int) (T : Int) (Q : Int) (mk : Nat) (ck : Nat → Nat → DV) : Bool :=
  L5T_q1 W H T Q mk ck || vldR cw ch ct cp m2 c2 != vldR cw ch ct cp m2 c2
noncomputable def L5T_q3 (cw : Int) (ch : Int) (ct : Int) (cp : Int) (m2 : Nat) (c2 : Nat → Nat → DV) (k2 : Nat) (s2 : Nat → Nat → DV) (W : Int) (H : Int) (T : Int) (Q : Int) (mk : Nat) (ck : Nat → Nat → DV) : Bool :=
  L5T_q2 cw ch ct cp m2 c2 W H T Q mk ck || vchR cw ch ct cp m2 c2 k2 s2 != vchR cw ch ct cp m2 c2 k2 s2
noncomputable def L5T_q4 (n0 : Nat) (c0 : Nat → Nat → DV) (n1 : Nat) (c1 : Nat → Nat → DV) (i : Nat) (j : Nat) : DV :=
  dsAt [DV.ro n0 1 c0, DV.ro n1 1 c1, DV.x (.slice none 0 0), DV.x (.slice none 0 0)] (0 + (0 + i) * 2 + j)
noncomputable def L5T_q5 (cw : Int) (ch : Int) (ct : Int) (cp : Int) (m2 : Nat) (c2 : Nat → Nat → DV) (k2 : Nat) (s2 : Nat → Nat → DV) (W : Int) (H : Int) (T : Int) (Q : Int) (mk : Nat) (ck : Nat → Nat → DV) (n0 : Nat) (c0 : Nat → Nat → DV) (n1 : Nat) (c1 : Nat → Nat → DV) : Bool :=
  L5T_q3 cw ch ct cp m2 c2 k2 s2 W H T Q mk ck || vchR W H T Q mk ck 2 (L5T_q4 n0 c0 n1 c1) != (0 : Int)
noncomputable def L5T_q6 (cw : Int) (ch : Int) (ct : Int) (cp : Int) (m2 : Nat) (c2 : Nat → Nat → DV) (k2 : Nat) (s2 : Nat → Nat → DV) (s : List UInt8) (W : Int) (H : Int) (T : Int) (Q : Int) (mk : Nat) (ck : Nat → Nat → DV) (n0 : Nat) (c0 : Nat → Nat → DV) (n1 : Nat) (c1 : Nat → Nat → DV) (P : PG) (D : DG) : Bool :=
  L5T_q5 cw ch ct cp m2 c2 k2 s2 W H T Q mk ck n0 c0 n1 c1 || DG.cn D != DG.cn D || PG.ge P (Array.toList (ByteArray.data (strB s))) != PG.ge P (Array.toList (ByteArray.data (strB s)))
noncomputable def L5T_q7 (s : List UInt8) (P : PG) (i : Nat) (x : Nat) : DV :=
  DV.x (.int .i64 (List.getD (PG.gk P (Array.toList (ByteArray.data (strB s)))) i (0 : Int)))
noncomputable def L5T_q8 (nd : Int) (D : DG) : Bool :=
  DG.gk D (w64 (Int.tmod (IntKind.wrap .u64 nd) (IntKind.wrap .u64 (w64 (DG.cn D + (1 : Int)))))) == DG.gk D (w64 (Int.tmod (IntKind.wrap .u64 nd) (IntKind.wrap .u64 (w64 (DG.cn D + (1 : Int)))))) &&
   (DG.gx D (w64 (Int.tmod (IntKind.wrap .u64 nd) (IntKind.wrap .u64 (w64 (DG.cn D + (1 : Int)))))) == DG.gx D (w64 (Int.tmod (IntKind.wrap .u64 nd) (IntKind.wrap .u64 (w64 (DG.cn D + (1 : Int)))))) &&
   (DG.gy D (w64 (Int.tmod (IntKind.wrap .u64 nd) (IntKind.wrap .u64 (w64 (DG.cn D + (1 : Int)))))) == DG.gy D (w64 (Int.tmod (IntKind.wrap .u64 nd) (IntKind.wrap .u64 (w64 (DG.cn D + (1 : Int)))))) &&
   (DG.gi D (w64 (Int.tmod (IntKind.wrap .u64 nd) (IntKind.wrap .u64 (w64 (DG.cn D + (1 : Int)))))) == DG.gi D (w64 (Int.tmod (IntKind.wrap .u64 nd) (IntKind.wrap .u64 (w64 (DG.cn D + (1 : Int)))))) &&
   true))) &&
  (DG.ge D (w64 (Int.tmod (IntKind.wrap .u64 nd) (IntKind.wrap .u64 (w64 (DG.cn D + (1 : Int)))))) == DG.ge D (w64 (Int.tmod (IntKind.wrap .u64 nd) (IntKind.wrap .u64 (w64 (DG.cn D + (1 : Int)))))) && true)
noncomputable def L5T_q9 (nd : Int) (D : DG) : Bool :=
  L5T_q8 nd D && (DG.gk D nd == DG.gk D nd && (DG.gx D nd == DG.gx D nd && (DG.gy D nd == DG.gy D nd && (DG.gi D nd == DG.gi D nd && true))) && (DG.ge D nd == DG.ge D nd && true))
noncomputable def L5T_q10 (nd : Int) (sk : Int) (sx : Int) (sy : Int) (si : Int) (D : DG) : Bool :=
  L5T_q9 nd D && (DG.gm D sk sx sy si == DG.gm D sk sx sy si && (DG.gf D sk sx sy si == DG.gf D sk sx sy si && true))
noncomputable def L5T_q11 (nd : Int) (D : DG) (i : Nat) (x : Nat) : DV :=
  DV.x (.int .i64 (List.getD (DG.dr D (w64 (Int.tmod (IntKind.wrap .u64 nd) (IntKind.wrap .u64 (w64 (DG.cn D + (1 : Int))))))) i (0 : Int)))
noncomputable def L5T_q12 (nd : Int) (sk : Int) (sx : Int) (sy : Int) (si : Int) (D : DG) : Bool :=
  L5T_q10 nd sk sx sy si D &&
  eqI (List.length (DG.dr D (w64 (Int.tmod (IntKind.wrap .u64 nd) (IntKind.wrap .u64 (w64 (DG.cn D + (1 : Int)))))))) (L5T_q11 nd D)
   (List.length (DG.dr D (w64 (Int.tmod (IntKind.wrap .u64 nd) (IntKind.wrap .u64 (w64 (DG.cn D + (1 : Int)))))))) (L5T_q11 nd D)
noncomputable def L5T_q13 (nd : Int) (D : DG) (i : Nat) (x : Nat) : DV :=
  DV.x (.int .i64 (List.getD (DG.dv D (w64 (Int.tmod (IntKind.wrap .u64 nd) (IntKind.wrap .u64 (w64 (DG.cn D + (1 : Int))))))) i (0 : Int)))
noncomputable def L5T_q14 (nd : Int) (sk : Int) (sx : Int) (sy : Int) (si : Int) (D : DG) : Bool :=
  L5T_q12 nd sk sx sy si D &&
  eqI (List.length (DG.dv D (w64 (Int.tmod (IntKind.wrap .u64 nd) (IntKind.wrap .u64 (w64 (DG.cn D + (1 : Int)))))))) (L5T_q13 nd D)
   (List.length (DG.dv D (w64 (Int.tmod (IntKind.wrap .u64 nd) (IntKind.wrap .u64 (w64 (DG.cn D + (1 : Int)))))))) (L5T_q13 nd D)
noncomputable def L5T_q15 (nd : Int) (D : DG) (i : Nat) (x : Nat) : DV :=
  DV.x (.int .i64 (List.getD (DG.dr D nd) i (0 : Int)))
noncomputable def L5T_q16 (nd : Int) (sk : Int) (sx : Int) (sy : Int) (si : Int) (D : DG) : Bool :=
  L5T_q14 nd sk sx sy si D && eqI (List.length (DG.dr D nd)) (L5T_q15 nd D) (List.length (DG.dr D nd)) (L5T_q15 nd D)
noncomputable def L5T_q17 (n0 : Nat) (c0 : Nat → Nat → DV) (n1 : Nat) (c1 : Nat → Nat → DV) (i : Nat) (j : Nat) : DV :=
  dsAt [DV.ro n0 (1 : Nat) c0, DV.ro n1 (1 : Nat) c1, DV.x (.slice none (0 : Nat) (0 : Nat)), DV.x (.slice none (0 : Nat) (0 : Nat))]
  ((0 : Nat) + ((0 : Nat) + i) * TypeInfo.size (Tables.types (Program.toTables Tryz.prog))[(45 : Nat)] + j)
noncomputable def L5T (w h t p : Int) (m : Nat) (f : Nat → Nat → DV) (cw ch ct cp : Int) (m2 : Nat) (c2 : Nat → Nat → DV) (k2 : Nat) (s2 : Nat → Nat → DV) (nd sk sx sy si : Int) (s : List UInt8) (k : Nat) (b : Nat → Nat → DV) (W H T Q : Int) (mk : Nat) (ck : Nat → Nat → DV) (n0 : Nat) (c0 : Nat → Nat → DV) (n1 : Nat) (c1 : Nat → Nat → DV) (tx : Int → Int → Int → Int → DV → DV → List UInt8) (P : PG) (D : DG) : Tree SV :=
 .need (false = false)
 (.need ((!(decide ((↑m2 : Int) ≤ (100 : Int)) && decide ((↑k2 : Int) ≤ (20 : Int)) && decide ((↑(ByteArray.size (strB s)) : Int) ≤ (400 : Int)) && decide ((↑k : Int) ≤ (40 : Int)))) = false)
 (.need (AnIs w h t p m f W H T Q mk ck)
 (.need (BdIs W H T Q k b n0 c0 n1 c1)
 (.need (ByteArray.size (strB s) ≤ 800000)
 (.need (ByteArray.size (strB s) ≤ 200000)
 (.need (RowOK mk ck)
 (.need (L5T_q1 W H T Q mk ck = false → RowOK m2 c2)
 (.need (L5T_q1 W H T Q mk ck = false → RowOK m2 c2)
 (.need (L5T_q2 cw ch ct cp m2 c2 W H T Q mk ck = false → ChRO m2 c2 k2 s2)
 (.need (L5T_q2 cw ch ct cp m2 c2 W H T Q mk ck = false → ChRO m2 c2 k2 s2)
 (.need (L5T_q3 cw ch ct cp m2 c2 k2 s2 W H T Q mk ck = false → 4 ≤ 4)
 (.need (L5T_q3 cw ch ct cp m2 c2 k2 s2 W H T Q mk ck = false → ChRO mk ck 2 (L5T_q4 n0 c0 n1 c1))
 (.need (L5T_q5 cw ch ct cp m2 c2 k2 s2 W H T Q mk ck n0 c0 n1 c1 = false → GrIs W H T Q D)
 (.need (L5T_q5 cw ch ct cp m2 c2 k2 s2 W H T Q mk ck n0 c0 n1 c1 = false → GrIs W H T Q D)
 (.need
 (L5T_q6 cw ch ct cp m2 c2 k2 s2 s W H T Q mk ck n0 c0 n1 c1 P D = false →
 ChRO (List.length (PG.gk P (Array.toList (ByteArray.data (strB s))))) (L5T_q7 s P) (PG.gn P (Array.toList (ByteArray.data (strB s)))) (PG.gs P (Array.toList (ByteArray.data (strB s)))) ∧
 ChRO (List.length (PG.gk P (Array.toList (ByteArray.data (strB s))))) (L5T_q7 s P) (PG.gn P (Array.toList (ByteArray.data (strB s)))) (PG.gs P (Array.toList (ByteArray.data (strB s)))))
 (.need
 ((L5T_q6 cw ch ct cp m2 c2 k2 s2 s W H T Q mk ck n0 c0 n1 c1 P D ||
 !smeR (PG.gw P (Array.toList (ByteArray.data (strB s)))) (PG.gh P (Array.toList (ByteArray.data (strB s)))) (PG.gt P (Array.toList (ByteArray.data (strB s))))
 (PG.gp P (Array.toList (ByteArray.data (strB s)))) (List.length (PG.gk P (Array.toList (ByteArray.data (strB s))))) (L5T_q7 s P) (PG.gn P (Array.toList (ByteArray.data (strB s))))
 (PG.gs P (Array.toList (ByteArray.data (strB s)))) (PG.gw P (Array.toList (ByteArray.data (strB s)))) (PG.gh P (Array.toList (ByteArray.data (strB s))))
 (PG.gt P (Array.toList (ByteArray.data (strB s)))) (PG.gp P (Array.toList (ByteArray.data (strB s)))) (List.length (PG.gk P (Array.toList (ByteArray.data (strB s))))) (L5T_q7 s P)
 (PG.gn P (Array.toList (ByteArray.data (strB s)))) (PG.gs P (Array.toList (ByteArray.data (strB s))))) =
 false)
 (.need (GrIs W H T Q D)
 (.need (IntKind.wrap .u64 (w64 (DG.cn D + (1 : Int))) ≠ (0 : Int))
 (.need (GrIs W H T Q D)
 (.need (i64B (w64 (Int.tmod (IntKind.wrap .u64 nd) (IntKind.wrap .u64 (w64 (DG.cn D + (1 : Int)))))))
 (.need (GrIs W H T Q D)
 (.need (i64B (w64 (Int.tmod (IntKind.wrap .u64 nd) (IntKind.wrap .u64 (w64 (DG.cn D + (1 : Int)))))))
 (.need (L5T_q8 nd D = true → GrIs W H T Q D)
 (.need (L5T_q8 nd D = true → i64B nd)
 (.need (L5T_q8 nd D = true → GrIs W H T Q D)
 (.need (L5T_q8 nd D = true → i64B nd)
 (.need (L5T_q9 nd D = true → GrIs W H T Q D)
 (.need (L5T_q9 nd D = true → GrIs W H T Q D)
 (.need (L5T_q10 nd sk sx sy si D = true → GrIs W H T Q D)
 (.need (L5T_q10 nd sk sx sy si D = true → i64B (w64 (Int.tmod (IntKind.wrap .u64 nd) (IntKind.wrap .u64 (w64 (DG.cn D + (1 : Int)))))))
 (.need (L5T_q10 nd sk sx sy si D = true → GrIs W H T Q D)
 (.need (L5T_q10 nd sk sx sy si D = true → i64B (w64 (Int.tmod (IntKind.wrap .u64 nd) (IntKind.wrap .u64 (w64 (DG.cn D + (1 : Int)))))))
 (.need
 (L5T_q10 nd sk sx sy si D = true →
 RowOK (List.length (DG.dr D (w64 (Int.tmod (IntKind.wrap .u64 nd) (IntKind.wrap .u64 (w64 (DG.cn D + (1 : Int)))))))) (L5T_q11 nd D) ∧
 RowOK (List.length (DG.dr D (w64 (Int.tmod (IntKind.wrap .u64 nd) (IntKind.wrap .u64 (w64 (DG.cn D + (1 : Int)))))))) (L5T_q11 nd D))
 (.need (L5T_q12 nd sk sx sy si D = true → GrIs W H T Q D)
 (.need (L5T_q12 nd sk sx sy si D = true → i64B (w64 (Int.tmod (IntKind.wrap .u64 nd) (IntKind.wrap .u64 (w64 (DG.cn D + (1 : Int)))))))
 (.need (L5T_q12 nd sk sx sy si D = true → GrIs W H T Q D)
 (.need (L5T_q12 nd sk sx sy si D = true → i64B (w64 (Int.tmod (IntKind.wrap .u64 nd) (IntKind.wrap .u64 (w64 (DG.cn D + (1 : Int)))))))
 (.need
 (L5T_q12 nd sk sx sy si D = true →
 RowOK (List.length (DG.dv D (w64 (Int.tmod (IntKind.wrap .u64 nd) (IntKind.wrap .u64 (w64 (DG.cn D + (1 : Int)))))))) (L5T_q13 nd D) ∧
 RowOK (List.length (DG.dv D (w64 (Int.tmod (IntKind.wrap .u64 nd) (IntKind.wrap .u64 (w64 (DG.cn D + (1 : Int)))))))) (L5T_q13 nd D))
 (.need (L5T_q14 nd sk sx sy si D = true → GrIs W H T Q D)
 (.need (L5T_q14 nd sk sx sy si D = true → i64B nd)
 (.need (L5T_q14 nd sk sx sy si D = true → GrIs W H T Q D)
 (.need (L5T_q14 nd sk sx sy si D = true → i64B nd)
 (.need
 (L5T_q14 nd sk sx sy si D = true →
 RowOK (List.length (DG.dr D nd)) (L5T_q15 nd D) ∧ RowOK (List.length (DG.dr D nd)) (L5T_q15 nd D))
 (.need (L5T_q16 nd sk sx sy si D = true → 4 ≤ 4)
 (.need (L5T_q16 nd sk sx sy si D = true → TxtRO W H T Q mk ck 2 (L5T_q4 n0 c0 n1 c1))
 (.need (L5T_q16 nd sk sx sy si D = true → 4 ≤ 4)
 (.need (L5T_q16 nd sk sx sy si D = true → VcRO W H T Q mk ck 2 (L5T_q4 n0 c0 n1 c1))
 (.ret
 (bv
 (L5T_q16 nd sk sx sy si D &&
 strEq (strB (tx W H T Q (DV.ro mk (1 : Nat) ck) (DV.ro (2 : Nat) (2 : Nat) (L5T_q17 n0 c0 n1 c1))))
 (strB (txR W H T Q mk ck 2 (L5T_q4 n0 c0 n1 c1))) &&
 true))))))))))))))))))))))))))))))))))))))))))))))))))

theorem L5T_eq (w h t p : Int) (m : Nat) (f : Nat → Nat → DV) (cw ch ct cp : Int) (m2 : Nat) (c2 : Nat → Nat → DV) (k2 : Nat) (s2 : Nat → Nat → DV) (nd sk sx sy si : Int) (s : List UInt8) (k : Nat) (b : Nat → Nat → DV) (W H T Q : Int) (mk : Nat) (ck : Nat → Nat → DV) (n0 : Nat) (c0 : Nat → Nat → DV) (n1 : Nat) (c1 : Nat → Nat → DV) (tx : Int → Int → Int → Int → DV → DV → List UInt8) (P : PG) (D : DG) : tL5 w h t p m f cw ch ct cp m2 c2 k2 s2 nd sk sx sy si s k b W H T Q mk ck n0 c0 n1 c1 tx P D (.f (.f (.f .nil))) = L5T w h t p m f cw ch ct cp m2 c2 k2 s2 nd sk sx sy si s k b W H T Q mk ck n0 c0 n1 c1 tx P D := by kernel_rfl


end Go.Proofs.YtgahnelicbddcaaGreatDoor

namespace Go.Sx
theorem bdSt_le (w h t p : Int) (k : Nat) (f : Nat → Nat → DV) : (bdT w h t p k f).length ≤ 6 ∧ (bdNd w h t p k f).length ≤ 6 := by
  have h1 : bdJ k ≤ 6 := by unfold bdJ; split <;> omega
  have h2 := bdSt_len w h t p (fun i => intCell (f i 0)) (bdJ k)
  unfold bdT bdNd; omega
end Go.Sx
namespace Go.Proofs.YtgahnelicbddcaaGreatDoor
open Go.Sx
set_option maxRecDepth 100000
theorem vch_len {w h t p : Int} {K : List Int} {S : List (List Int × List Int)} (hv : vchP w h t p K S) : ChLen K S := by
  obtain ⟨⟨a1, a2, a3, a4⟩, ⟨a5, a6⟩, b1, b2⟩ := vch_txt hv
  have h3 : w.toNat * h.toNat ≤ 8 * 8 := Nat.mul_le_mul (by omega) (by omega)
  refine ⟨by omega, by omega, fun s hs => ?_⟩
  have h1 := (b2 s hs).1.1
  have h2 := (b2 s hs).2.1
  omega
theorem okP_read {s : List UInt8} (h : okP s) : pW s = rW s ∧ pH s = rH s ∧ pT s = rT s ∧ pP s = rP s ∧ pK s = rKd s ∧ pS s = rSl s ∧ pE s = 0 :=
  ⟨if_pos h, if_pos h, if_pos h, if_pos h, if_pos h, if_pos h, if_pos h⟩
theorem okP_v {s : List UInt8} (h : okP s) : vchP (pW s) (pH s) (pT s) (pP s) (pK s) (pS s) ∧ txtT (pW s) (pH s) (pT s) (pP s) (pK s) (pS s) = s := by
  obtain ⟨e1, e2, e3, e4, e5, e6, e7⟩ := okP_read h
  rw [e1, e2, e3, e4, e5, e6]
  exact h.2
theorem g4_ints (O : ByteArray) : intsD (.ro (PD.gk (bL O)).length 1 (g4 PD O)) = pK (bL O) := lsOf_cellL _
theorem g4_bads (O : ByteArray) : badsD (.ro (PD.gn (bL O)) 2 (PD.gs (bL O))) = pS (bL O) := badsD_badC _
theorem chro_okP {O : ByteArray} (h : okP (bL O)) : ChRO (PD.gk (bL O)).length (g4 PD O) (PD.gn (bL O)) (PD.gs (bL O)) :=
  ⟨⟨rfl, fun i hi => rfl⟩, badsD_ok _, by rw [g4_ints, g4_bads]; exact vch_len (okP_v h).1⟩
end Go.Proofs.YtgahnelicbddcaaGreatDoor

