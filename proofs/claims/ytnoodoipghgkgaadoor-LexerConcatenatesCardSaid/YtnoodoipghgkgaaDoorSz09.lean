/- Part of a proof of the given statements of this seat (SxLxL6, SxLxM6): no conditions beyond those typed here. -/
import Derived.Test.YtnoodoipghgkgaaDoorSz08
set_option linter.unusedVariables false
set_option linter.unusedSimpArgs false
set_option linter.unusedSectionVars false

namespace Go.Proofs.YtnoodoipghgkgaaDoor
open Go.Sx
set_option maxRecDepth 100000

def rowF (L : List Tok) (k : Nat) (i j : Nat) : DV := tkC L (k + i) j
def n61 (L : List Tok) : Int := w64 ((L.length : Int) - 1)
def q61 (L LY LB : List Tok) (E : Int) : Bool := decide (n61 L ≥ 0) && E == 0 && (LY.length : Int) == w64 (n61 L + (LB.length : Int))
def q62 (L LY LB : List Tok) (E : Int) : Bool := q61 L LY LB E && smB (Int.toNat (n61 L) - 0) (tokR (Int.toNat (n61 L) - 0) (rowF L 0)) (Int.toNat (n61 L) - 0) (tokR (Int.toNat (n61 L) - 0) (rowF LY 0)) 0
noncomputable def P6 (m : Nat) (b : List UInt8) (c : Bool) (S B Y : List UInt8) (V : ByteArray) (L LB LY : List Tok) : Tree SV :=
  .need (ByOK m (byC b)) (.need ((strB S).size ≤ 100000) (.need ((strB B).size ≤ 100000) (.need ((strB S).size + 1 ≤ 9223372036854775807) (.need ((strB S ++ strB [10]).size + (strB B).size ≤ 9223372036854775807) (.need (V.size ≤ 100000)
  (.ite (c && lxE S != 0) (.ret (bv false)) (.ite (lxE S != 0) (.ret (bv (lxE Y == lxE S && (lxA Y : Int) == (lxA S : Int) && true)))
  (.ite (lxE B != 0) (.ret (bv (lxE Y == lxE B && (lxA Y : Int) == w64 (w64 ((lxA B : Int) + ((strB S).size : Int)) + 1) && (LY.length : Int) == 0 && true)))
  (.need (q61 L LY LB (lxE Y) = true → (0 ≤ n61 L ∧ Int.toNat (n61 L) ≤ L.length) ∧ True)
  (.need (q61 L LY LB (lxE Y) = true → (0 ≤ n61 L ∧ Int.toNat (n61 L) ≤ LY.length) ∧ True)
  (.need (q61 L LY LB (lxE Y) = true → TokOK (Int.toNat (n61 L) - 0) (rowF L 0) ∧ TokOK (Int.toNat (n61 L) - 0) (rowF LY 0) ∧ Int.toNat (n61 L) - 0 ≤ 1000000 ∧ ((-1000000000 : Int) ≤ 0 ∧ (0 : Int) ≤ 1000000000) ∧ ∀ i, tkA (tokR (Int.toNat (n61 L) - 0) (rowF L 0)) i ≤ 1000000000)
  (.need (q62 L LY LB (lxE Y) = true → True ∧ 0 ≤ n61 L ∧ Int.toNat (n61 L) ≤ LY.length)
  (.need (q62 L LY LB (lxE Y) = true → TokOK LB.length (tkC LB) ∧ TokOK (LY.length - Int.toNat (n61 L)) (rowF LY (Int.toNat (n61 L))) ∧ LB.length ≤ 1000000 ∧ (-1000000000 ≤ w64 (((strB S).size : Int) + 1) ∧ w64 (((strB S).size : Int) + 1) ≤ 1000000000) ∧ ∀ i, tkA (tokR LB.length (tkC LB)) i ≤ 1000000000)
  (.ret (bv (q62 L LY LB (lxE Y) && smB LB.length (tokR LB.length (tkC LB)) (LY.length - Int.toNat (n61 L)) (tokR (LY.length - Int.toNat (n61 L)) (rowF LY (Int.toNat (n61 L)))) (w64 (((strB S).size : Int) + 1)) && true))))))))))))))))
noncomputable def P6' (m : Nat) (b : List UInt8) (c : Bool) (S B : List UInt8) : Tree SV :=
  P6 m b c S B (strB S ++ strB [10] ++ strB B).data.toList (strB S ++ strB [10] ++ strB B) (lxO S) (lxO B) (lxO (strB S ++ strB [10] ++ strB B).data.toList)
noncomputable def LL6 (n : Nat) (a : List UInt8) (m : Nat) (b : List UInt8) (c : Bool) : Tree SV :=
  .ite false (.ret (bv false)) (.need (ByOK n (byC a)) (.ite c (.need (ByOK n (byC a)) (P6' m b c (clS n (byC a)) (mdS m (byC b)))) (P6' m b c (mdS n (byC a)) (mdS m (byC b)))))
theorem LL6_eq (n : Nat) (a : List UInt8) (m : Nat) (b : List UInt8) (c : Bool) : tL6 n a m b c = LL6 n a m b c := by kernel_rfl
end Go.Proofs.YtnoodoipghgkgaaDoor


namespace Go.Proofs.YtnoodoipghgkgaaDoor
open Go.Sx
set_option maxRecDepth 100000

theorem rowF_eq {L M : List Tok} {k n : Nat} (h : ∀ i, i < n → L.getD (k + i) default = M.getD i default) : ∀ i j, i < n → j < 3 → rowF L k i j = tkC M i j := by
  intro i j hi hj
  unfold rowF tkC tkK tkT tkA
  rw [h i hi]
theorem getD_left {α : Type} {d : α} {xs ys : List α} {i : Nat} (h : i < xs.length) : (xs ++ ys).getD (0 + i) d = xs.getD i d := by
  rw [Nat.zero_add, List.getD_eq_getElem?_getD, List.getD_eq_getElem?_getD, List.getElem?_append_left h]
theorem getD_right {α : Type} {d : α} {xs ys : List α} {i : Nat} : (xs ++ ys).getD (xs.length + i) d = ys.getD i d := by
  rw [List.getD_eq_getElem?_getD, List.getD_eq_getElem?_getD, List.getElem?_append_right (by omega)]
  congr 2; omega
theorem smB_shift (L : List Tok) (d : Nat) : smB L.length L L.length (L.map (shT d)) (d : Nat) = true := by
  rw [smB_iff]
  refine ⟨rfl, fun i hi => ?_⟩
  have h1 : L.getD i default = L[i] := by rw [List.getD_eq_getElem?_getD, List.getElem?_eq_getElem hi]; rfl
  have h2 : (L.map (shT d)).getD i default = shT d L[i] := by rw [List.getD_eq_getElem?_getD, List.getElem?_map, List.getElem?_eq_getElem hi]; rfl
  unfold smF tkK tkT tkA
  rw [h1, h2]
  unfold shT
  rw [strEq_self]
  simp
theorem cat_laws {S B : List UInt8} (hS : S.length ≤ 600) (hB : B.length ≤ 600) {Y : List UInt8} (hY : Y = S ++ 10 :: B) :
    (lxE S ≠ 0 → lxE Y = lxE S ∧ lxA Y = lxA S) ∧
    (lxE S = 0 → lxE B ≠ 0 → lxE Y = lxE B ∧ lxA Y = lxA B + S.length + 1 ∧ lxO Y = []) ∧
    (lxE S = 0 → lxE B = 0 → ∃ xs : List Tok, lxO S = xs ++ [⟨4, [], S.length⟩] ∧ lxE Y = 0 ∧ lxO Y = xs ++ (lxO B).map (shT (S.length + 1))) := by
  have hYl : Y.length ≤ 8000 := by rw [hY, List.length_append, List.length_cons]; omega
  have cS := lxO_cases S (by omega)
  have cB := lxO_cases B (by omega)
  have cY := lxO_cases Y hYl
  refine ⟨fun h => ?_, fun h hb => ?_, fun h hb => ?_⟩
  · obtain ⟨p, hp, e5, e6⟩ : ∃ p, (lexL S 0).2 = some p ∧ lxE S = 5 ∧ lxA S = p := by
      rcases cS with ⟨p, hp, _, _, e5, e6⟩ | ⟨_, _, _, _, e5, _⟩
      · exact ⟨p, hp, e5, e6⟩
      · exact absurd e5 h
    have hYp : (lexL Y 0).2 = some p := by rw [hY]; exact lex_err_app ends10 B S 0 p hp
    rcases cY with ⟨q, hq, _, _, f5, f6⟩ | ⟨hn, _⟩
    · rw [hYp] at hq; cases hq
      exact ⟨f5.trans e5.symm, f6.trans e6.symm⟩
    · rw [hYp] at hn; cases hn
  · rcases cS with ⟨p, hp, _, _, e5, e6⟩ | ⟨hSn, xs, hxs, _⟩
    · rw [e5] at h; cases h
    obtain ⟨p, hp, e5, e6⟩ : ∃ p, (lexL B 0).2 = some p ∧ lxE B = 5 ∧ lxA B = p := by
      rcases cB with ⟨p, hp, _, _, e5, e6⟩ | ⟨_, _, _, _, e5, _⟩
      · exact ⟨p, hp, e5, e6⟩
      · exact absurd e5 hb
    have hc := lex_cat B S 0 hSn
    rw [← hY, show 0 + S.length + 1 = 0 + (S.length + 1) by omega, lex_shift (S.length + 1) B 0, hp] at hc
    have hYp : (lexL Y 0).2 = some (p + (S.length + 1)) := by rw [hc]; rfl
    rcases cY with ⟨q, hq, _, fO, f5, f6⟩ | ⟨hn, _⟩
    · rw [hYp] at hq; cases hq
      exact ⟨f5.trans e5.symm, by rw [f6, e6]; omega, fO⟩
    · rw [hYp] at hn; cases hn
  · rcases cS with ⟨p, hp, _, _, e5, e6⟩ | ⟨hSn, xs, hxs, eO, _⟩
    · rw [e5] at h; cases h
    rcases cB with ⟨p, hp, _, _, e5, e6⟩ | ⟨hBn, ys, hys, eB, _⟩
    · rw [e5] at hb; cases hb
    have hc := lex_cat B S 0 hSn
    rw [← hY, show 0 + S.length + 1 = 0 + (S.length + 1) by omega, lex_shift (S.length + 1) B 0, hBn, hxs, List.dropLast_concat] at hc
    have hYn : (lexL Y 0).2 = none := by rw [hc]; rfl
    rcases cY with ⟨q, hq, _⟩ | ⟨hn, zs, hzs, fO, f5, _⟩
    · rw [hYn] at hq; cases hq
    · refine ⟨xs, eO, f5, ?_⟩
      rw [fO, ← hzs, hc, hys, eB]
theorem clS_ok' (n : Nat) (e : Nat → Nat → DV) : (lexL (clS n e) 0).2 = none := clean_ok _ _ _
theorem p6_sat {m : Nat} {b : List UInt8} {c : Bool} {S B : List UInt8} (hb : b.length = m) (hS : S.length ≤ 600) (hB : B.length ≤ 600) (hc : c = true → lxE S = 0) : (P6' m b c S B).sat Tryd.prog (· = bv true) := by
  unfold P6'
  have hV : strB S ++ strB [10] ++ strB B = strB (S ++ 10 :: B) := by
    rw [strB_append, strB_append, List.append_assoc]; rfl
  rw [hV, strB_list]
  generalize hY : S ++ 10 :: B = Y
  have hYl : Y.length ≤ 1201 := by rw [← hY, List.length_append, List.length_cons]; omega
  obtain ⟨l1, l2, l3⟩ := cat_laws hS hB hY.symm
  have hok := byOK_l hb
  have nS := lxO_len S
  have nB := lxO_len B
  have nY := lxO_len Y
  have h2 : (strB S ++ strB [10]).size = S.length + 1 := by rw [strB_append, strB_size, List.length_append]; rfl
  unfold P6
  rw [h2]
  simp only [strB_size]
  refine ⟨hok, by omega, by omega, by omega, by omega, by omega, fun h => ?_, fun h => ⟨fun hs => ?_, fun hs => ⟨fun hb => ?_, fun hb => ?_⟩⟩⟩
  · exfalso
    rw [Bool.and_eq_true, bne_iff_ne] at h
    exact h.2 (hc h.1)
  · rw [bne_iff_ne] at hs
    obtain ⟨k1, k2⟩ := l1 hs
    rw [k1, k2]
    show bv _ = bv true
    rw [bv_inj]; simp
  · rw [bne_eq_false_iff_eq] at hs
    rw [bne_iff_ne] at hb
    obtain ⟨k1, k2, k3⟩ := l2 hs hb
    rw [k1, k2, k3]
    have hA : lxA B ≤ 600 := by
      rcases lxO_cases B (by omega) with ⟨p, _, hp, _, _, e⟩ | ⟨_, _, _, _, _, e, _⟩ <;> omega
    rw [w64_of (n := (lxA B : Int) + (S.length : Int)) (by omega) (by omega), w64_of (by omega) (by omega)]
    show bv _ = bv true
    rw [bv_inj]; simp
  · rw [bne_eq_false_iff_eq] at hs hb
    obtain ⟨xs, k1, k2, k3⟩ := l3 hs hb
    have hA : ∀ i, tkA (lxO B) i ≤ 1000000000 := fun i => by
      have := tkA_le (L := lxO B) (n := B.length) (fun x hx => lxO_at x hx) i
      omega
    have hAS : ∀ x ∈ lxO S, x.a ≤ S.length := fun x hx => lxO_at x hx
    rw [k1, List.length_append, List.length_singleton] at nS
    rw [k1, k2, k3]
    rw [k1] at hAS
    generalize lxO B = LB at *
    have n61' : n61 (xs ++ [⟨4, [], S.length⟩]) = (xs.length : Nat) := by
      unfold n61
      rw [List.length_append, List.length_singleton, w64_of (by omega) (by omega)]; omega
    have hq1 : q61 (xs ++ [⟨4, [], S.length⟩]) (xs ++ LB.map (shT (S.length + 1))) LB 0 = true := by
      unfold q61
      rw [n61', List.length_append, List.length_map, w64_of (by omega) (by omega), decide_eq_true (by omega)]
      simp
    have r1 : ∀ i j, i < xs.length → j < 3 → rowF (xs ++ [⟨4, [], S.length⟩]) 0 i j = tkC xs i j := rowF_eq fun i hi => getD_left hi
    have r2 : ∀ i j, i < xs.length → j < 3 → rowF (xs ++ LB.map (shT (S.length + 1))) 0 i j = tkC xs i j := rowF_eq fun i hi => getD_left hi
    have r3 : ∀ i j, i < LB.length → j < 3 → rowF (xs ++ LB.map (shT (S.length + 1))) xs.length i j = tkC (LB.map (shT (S.length + 1))) i j := rowF_eq fun i hi => getD_right
    have t1 : tokR xs.length (rowF (xs ++ [⟨4, [], S.length⟩]) 0) = xs := tokR_of rfl r1
    have t2 : tokR xs.length (rowF (xs ++ LB.map (shT (S.length + 1))) 0) = xs := tokR_of rfl r2
    have t3 : tokR LB.length (rowF (xs ++ LB.map (shT (S.length + 1))) xs.length) = LB.map (shT (S.length + 1)) := tokR_of (by rw [List.length_map]) r3
    have hq2 : q62 (xs ++ [⟨4, [], S.length⟩]) (xs ++ LB.map (shT (S.length + 1))) LB 0 = true := by
      unfold q62
      rw [hq1, n61', Int.toNat_natCast, Nat.sub_zero, t1, t2, smB_self]; rfl
    have hlY : (xs ++ LB.map (shT (S.length + 1))).length = xs.length + LB.length := by rw [List.length_append, List.length_map]
    have hlS : (xs ++ [(⟨4, [], S.length⟩ : Tok)]).length = xs.length + 1 := by rw [List.length_append, List.length_singleton]
    have wS : w64 ((S.length : Int) + 1) = ((S.length + 1 : Nat) : Int) := by rw [w64_of (by omega) (by omega)]; omega
    rw [hq1, hq2, n61', hlY, hlS, wS, Int.toNat_natCast, Nat.sub_zero, show xs.length + LB.length - xs.length = LB.length by omega, t1, t3, tokR_C]
    refine ⟨fun _ => ⟨⟨by omega, by omega⟩, trivial⟩, fun _ => ⟨⟨by omega, by omega⟩, trivial⟩, fun _ => ⟨tokOK_of rfl r1, tokOK_of rfl r2, by omega, ⟨by omega, by omega⟩, fun i => ?_⟩, fun _ => ⟨trivial, by omega, by omega⟩, fun _ => ⟨tokOK_C _, tokOK_of (by rw [List.length_map]) r3, by omega, ⟨by omega, by omega⟩, hA⟩, ?_⟩
    · have := tkA_le (L := xs) (n := S.length) (fun x hx => hAS x (List.mem_append_left _ hx)) i
      omega
    · rw [smB_shift]; rfl
theorem law6 {n m : Nat} {a b : List UInt8} {c : Bool} (ha : a.length = n) (hb : b.length = m) : Sat Tryd.prog (tL6 n a m b c) (· = bv true) := by
  constructor
  rw [LL6_eq]; unfold LL6
  have hok := byOK_l ha
  have hE : lxE (clS n (byC a)) = 0 := by
    have hcl := clS_ok' n (byC a)
    rcases lxO_cases (clS n (byC a)) (by have := clS_len (n := n) (e := byC a); omega) with ⟨p, e0, _⟩ | ⟨_, _, _, _, e, _⟩
    · rw [e0] at hcl; cases hcl
    · exact e
  refine ⟨fun h => (by cases h), fun _ => ⟨hok, fun h => ⟨hok, p6_sat hb clS_len mdS_len fun _ => hE⟩, fun h => p6_sat hb mdS_len mdS_len fun h2 => ?_⟩⟩
  rw [h] at h2; cases h2
theorem lexerConcatenates_ok : ∃ c : Ctr, CtrOK Tryd.prog 6 c ∧ ∀ ss, okArgs Tryd.prog 6 [22, 22, 4] ss → (c ss).ev (bv true) := by
  refine law_le C6_ok D6_ok (by kernel_rfl) (by kernel_rfl) fun ss h => ?_
  obtain ⟨ds, _, rfl, h1, ds3, _, rfl, h3, ds4, _, rfl, h4, rfl⟩ := h
  obtain ⟨n, a, ha, l1⟩ := bytes_arg h1
  obtain ⟨m, b, hb, l3⟩ := bytes_arg h3
  obtain ⟨c, l4⟩ := bool_arg h4
  exact ⟨[byT n a, byT m b, bv c], 300, .nil, ⟨l1, l3, l4, rfl⟩, law6 ha hb⟩
end Go.Proofs.YtnoodoipghgkgaaDoor

