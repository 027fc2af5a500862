/- Part of a proof of the given statements of this seat (SxLxL4, SxLxM4): no conditions beyond those typed here. -/
import Derived.Test.YtnoodoipghgkgaaDoorSz08
set_option linter.unusedVariables false
set_option linter.unusedSimpArgs false
set_option linter.unusedSectionVars false

namespace Go.Proofs.YtnoodoipghgkgaaDoor
open Go.Sx
set_option maxRecDepth 100000

noncomputable def invL4 (u : List UInt8) (L : List Tok) (a e : Int) (f i : Nat) : AS := ⟨List.replicate 4 .unk ++ [.ok (bv false), .ok (bv true), .ok (strV u), .ok (.ptr 0 0), .ok (iv f), .ok (iv i)] ++ List.replicate 153 .unk, [some (.cells [.d (.ro L.length 3 (tkC L)), iv a, iv e]), none], 2, .nil⟩
noncomputable def bodyL4 : Code := loopN (bodyOf Tryd.prog 4) 0
noncomputable def LL4_q1 (b : List UInt8) (i : Nat) (j : Nat) : DV :=
  DV.x (.int .u8 (↑(byN b i) : Int))
noncomputable def LL4 (n : Nat) (b s : List UInt8) : Tree SV :=
  .ite (false || decide ((↑(ByteArray.size (strB s)) : Int) > (300 : Int))) (.ret (bv true))
  (.need (ByOK n (LL4_q1 b))
   (.need (ByteArray.size (strB (mdS n (LL4_q1 b))) + ByteArray.size (strB s) ≤ 9223372036854775807)
   (.need (ByteArray.size (strB (mdS n (LL4_q1 b)) ++ strB s) ≤ 100000)
   (.ite (lxE (Array.toList (ByteArray.data (strB (mdS n (LL4_q1 b)) ++ strB s))) != (0 : Int))
   (.ret
   (bv
   (lxE (Array.toList (ByteArray.data (strB (mdS n (LL4_q1 b)) ++ strB s))) == (5 : Int) && decide ((↑(lxA (Array.toList (ByteArray.data (strB (mdS n (LL4_q1 b)) ++ strB s)))) : Int) ≥ (0 : Int)) &&
   decide ((↑(lxA (Array.toList (ByteArray.data (strB (mdS n (LL4_q1 b)) ++ strB s)))) : Int) < (↑(ByteArray.size (strB (mdS n (LL4_q1 b)) ++ strB s)) : Int)) &&
   (↑(List.length (lxO (Array.toList (ByteArray.data (strB (mdS n (LL4_q1 b)) ++ strB s))))) : Int) == (0 : Int))))
   (.code (codeC (sub [(1 : Nat), (0 : Nat), (0 : Nat), (0 : Nat), (1 : Nat)] (tL4 n b s))) (codeS (sub [(1 : Nat), (0 : Nat), (0 : Nat), (0 : Nat), (1 : Nat)] (tL4 n b s)))
   (codeK (sub [(1 : Nat), (0 : Nat), (0 : Nat), (0 : Nat), (1 : Nat)] (tL4 n b s))))))))

theorem LL4_eq (n : Nat) (b s : List UInt8) : tL4 n b s = LL4 n b s := by kernel_rfl

noncomputable def BL4_q1 (u : List UInt8) (L : List Tok) (f : Nat) (i : Nat) : Bool :=
  decide (tkA L (Int.toNat (↑i : Int)) < (↑f : Int)) || decide (w64 (tkA L (Int.toNat (↑i : Int)) + (↑(ByteArray.size (tkT L (Int.toNat (↑i : Int)))) : Int)) > (↑(ByteArray.size (strB u)) : Int))
noncomputable def BL4_q2 (u : List UInt8) (L : List Tok) (f : Nat) (i : Nat) : Bool :=
  BL4_q1 u L f i ||
  !strEq (ByteArray.extract (strB u) (Int.toNat (tkA L (Int.toNat (↑i : Int)))) (Int.toNat (w64 (tkA L (Int.toNat (↑i : Int)) + (↑(ByteArray.size (tkT L (Int.toNat (↑i : Int)))) : Int))))) (tkT L (Int.toNat (↑i : Int)))
noncomputable def BL4_q3 (u : List UInt8) (L : List Tok) (f : Nat) (i : Nat) : Bool :=
  BL4_q2 u L f i || !wh (Array.toList (ByteArray.data (ByteArray.extract (strB u) (Int.toNat (↑f : Int)) (Int.toNat (tkA L (Int.toNat (↑i : Int)))))))
noncomputable def BL4_q4 (L : List Tok) (i : Nat) : Bool :=
  (↑i : Int) == w64 ((↑(List.length L) : Int) - (1 : Int))
noncomputable def BL4_q5 (u : List UInt8) (L : List Tok) (f : Nat) (i : Nat) : Bool :=
  BL4_q3 u L f i || !(tkK L (Int.toNat (↑i : Int)) == (4 : Int)) == BL4_q4 L i
noncomputable def BL4_q6 (L : List Tok) (i : Nat) (j : Nat) : DV :=
  match j with
| (0 : Nat) => DV.x (.int .i64 (tkK L i))
| (1 : Nat) => DV.x (.string (tkT L i))
| x => DV.x (.int .i64 (tkA L i))
noncomputable def BL4 (u : List UInt8) (L : List Tok) (a e : Int) (f i : Nat) : Tree (Ex × AS) :=
  .ite (decide ((↑i : Int) < (↑(List.length L) : Int)))
  (.need ((0 : Int) ≤ (↑i : Int) ∧ (↑i : Int) < (↑(List.length L) : Int))
   (.need ((0 : Int) ≤ (↑i : Int) ∧ (↑i : Int) < (↑(List.length L) : Int))
   (.need ((0 : Int) ≤ (↑i : Int) ∧ (↑i : Int) < (↑(List.length L) : Int))
   (.need (BL4_q1 u L f i = false → (0 : Int) ≤ (↑i : Int) ∧ (↑i : Int) < (↑(List.length L) : Int))
   (.need
   (BL4_q1 u L f i = false →
   ((0 : Int) ≤ w64 (tkA L (Int.toNat (↑i : Int)) + (↑(ByteArray.size (tkT L (Int.toNat (↑i : Int)))) : Int)) ∧
   Int.toNat (w64 (tkA L (Int.toNat (↑i : Int)) + (↑(ByteArray.size (tkT L (Int.toNat (↑i : Int)))) : Int))) ≤ ByteArray.size (strB u)) ∧
   (0 : Int) ≤ tkA L (Int.toNat (↑i : Int)) ∧ Int.toNat (tkA L (Int.toNat (↑i : Int))) ≤ Int.toNat (w64 (tkA L (Int.toNat (↑i : Int)) + (↑(ByteArray.size (tkT L (Int.toNat (↑i : Int)))) : Int))))
   (.need (BL4_q1 u L f i = false → (0 : Int) ≤ (↑i : Int) ∧ (↑i : Int) < (↑(List.length L) : Int))
   (.need (BL4_q2 u L f i = false → (0 : Int) ≤ (↑i : Int) ∧ (↑i : Int) < (↑(List.length L) : Int))
   (.need
   (BL4_q2 u L f i = false →
   ((0 : Int) ≤ tkA L (Int.toNat (↑i : Int)) ∧ Int.toNat (tkA L (Int.toNat (↑i : Int))) ≤ ByteArray.size (strB u)) ∧ (0 : Int) ≤ (↑f : Int) ∧ Int.toNat (↑f : Int) ≤ Int.toNat (tkA L (Int.toNat (↑i : Int))))
   (.need (BL4_q2 u L f i = false → ByteArray.size (ByteArray.extract (strB u) (Int.toNat (↑f : Int)) (Int.toNat (tkA L (Int.toNat (↑i : Int))))) ≤ 1000000)
   (.need (BL4_q3 u L f i = false → (0 : Int) ≤ (↑i : Int) ∧ (↑i : Int) < (↑(List.length L) : Int))
   (.need (BL4_q5 u L f i = false → (0 : Int) ≤ (↑i : Int) ∧ (↑i : Int) < (↑(List.length L) : Int))
   (.ite (BL4_q5 u L f i || !(w64 (tkA L (Int.toNat (↑i : Int)) + (↑(ByteArray.size (tkT L (Int.toNat (↑i : Int)))) : Int)) == tkA L (Int.toNat (↑i : Int))) == BL4_q4 L i)
   (.ret
   (.ret,
   {
   tm :=
   [.unk, .unk, .unk, .unk, .ok (bv false), .ok (bv true), .ok (SV.d (DV.x (.string (strB u)))), .ok (SV.ptr 0 0), .ok (iv (↑f : Int)), .ok (iv (↑i : Int)), .unk,
   .unk, .unk, .unk, .unk, .unk, .unk, .unk, .unk, .unk, .unk, .unk, .unk, .unk, .unk, .unk, .unk, .unk, .unk, .unk, .unk, .unk, .unk, .unk, .unk, .unk,
   .unk, .unk, .unk, .unk, .unk, .unk, .unk, .unk, .unk, .unk, .unk, .unk, .unk, .unk, .unk, .unk, .unk, .unk, .unk, .unk, .unk, .unk, .unk, .unk, .unk,
   .unk, .unk, .unk, .unk, .unk, .unk, .unk, .unk, .unk, .unk, .unk, .unk, .unk, .unk, .unk, .unk, .unk, .unk, .unk, .unk, .unk, .unk, .unk, .unk, .unk,
   .unk, .unk, .unk, .unk, .unk, .unk, .unk, .unk, .unk, .unk, .unk, .unk, .unk, .unk, .unk, .unk, .unk, .unk, .unk, .unk, .unk, .unk, .unk, .unk, .unk,
   .unk, .unk, .unk, .unk, .unk, .unk, .unk, .unk, .unk, .unk, .unk, .unk, .unk, .unk, .unk, .unk, .unk, .unk, .unk, .unk, .unk, .unk, .unk, .unk, .unk,
   .unk, .unk, .unk, .unk, .unk, .unk, .unk, .unk, .unk, .unk, .unk, .unk, .unk, .unk, .unk, .unk, .unk, .unk, .unk, .unk, .unk, .unk, .unk, .unk, .unk,
   .unk, .unk],
   hp := [some (.cells [SV.d (DV.ro (List.length L) 3 (BL4_q6 L)), iv a, iv e]), none], next := 2, hint := .nil }))
   (.ret
   (.normal,
   {
   tm :=
   [.unk, .unk, .unk, .unk, .ok (bv false), .ok (bv true), .ok (SV.d (DV.x (.string (strB u)))), .ok (SV.ptr 0 0),
   .ok (iv (w64 (tkA L (Int.toNat (↑i : Int)) + (↑(ByteArray.size (tkT L (Int.toNat (↑i : Int)))) : Int)))), .ok (iv (w64 ((↑i : Int) + (1 : Int)))), .unk, .unk, .unk, .unk, .unk, .unk,
   .unk, .unk, .unk, .unk, .unk, .unk, .unk, .unk, .unk, .unk, .unk, .unk, .unk, .unk, .unk, .unk, .unk, .unk, .unk, .unk, .unk, .unk, .unk, .unk, .unk,
   .unk, .unk, .unk, .unk, .unk, .unk, .unk, .unk, .unk, .unk, .unk, .unk, .unk, .unk, .unk, .unk, .unk, .unk, .unk, .unk, .unk, .unk, .unk, .unk, .unk,
   .unk, .unk, .unk, .unk, .unk, .unk, .unk, .unk, .unk, .unk, .unk, .unk, .unk, .unk, .unk, .unk, .unk, .unk, .unk, .unk, .unk, .unk, .unk, .unk, .unk,
   .unk, .unk, .unk, .unk, .unk, .unk, .unk, .unk, .unk, .unk, .unk, .unk, .unk, .unk, .unk, .unk, .unk, .unk, .unk, .unk, .unk, .unk, .unk, .unk, .unk,
   .unk, .unk, .unk, .unk, .unk, .unk, .unk, .unk, .unk, .unk, .unk, .unk, .unk, .unk, .unk, .unk, .unk, .unk, .unk, .unk, .unk, .unk, .unk, .unk, .unk,
   .unk, .unk, .unk, .unk, .unk, .unk, .unk, .unk, .unk, .unk, .unk, .unk, .unk, .unk, .unk, .unk, .unk, .unk, .unk, .unk, .unk, .unk],
   hp := [some (.cells [SV.d (DV.ro (List.length L) 3 (BL4_q6 L)), iv a, iv e]), none], next := 2, hint := .nil }))))))))))))))
  (.ret
   (.exit 0,
   {
   tm :=
   [.unk, .unk, .unk, .unk, .ok (bv false), .ok (bv true), .ok (SV.d (DV.x (.string (strB u)))), .ok (SV.ptr 0 0), .ok (iv (↑f : Int)), .ok (iv (↑i : Int)), .unk, .unk, .unk, .unk,
   .unk, .unk, .unk, .unk, .unk, .unk, .unk, .unk, .unk, .unk, .unk, .unk, .unk, .unk, .unk, .unk, .unk, .unk, .unk, .unk, .unk, .unk, .unk, .unk, .unk, .unk, .unk, .unk,
   .unk, .unk, .unk, .unk, .unk, .unk, .unk, .unk, .unk, .unk, .unk, .unk, .unk, .unk, .unk, .unk, .unk, .unk, .unk, .unk, .unk, .unk, .unk, .unk, .unk, .unk, .unk, .unk,
   .unk, .unk, .unk, .unk, .unk, .unk, .unk, .unk, .unk, .unk, .unk, .unk, .unk, .unk, .unk, .unk, .unk, .unk, .unk, .unk, .unk, .unk, .unk, .unk, .unk, .unk, .unk, .unk,
   .unk, .unk, .unk, .unk, .unk, .unk, .unk, .unk, .unk, .unk, .unk, .unk, .unk, .unk, .unk, .unk, .unk, .unk, .unk, .unk, .unk, .unk, .unk, .unk, .unk, .unk, .unk, .unk,
   .unk, .unk, .unk, .unk, .unk, .unk, .unk, .unk, .unk, .unk, .unk, .unk, .unk, .unk, .unk, .unk, .unk, .unk, .unk, .unk, .unk, .unk, .unk, .unk, .unk, .unk, .unk, .unk,
   .unk, .unk, .unk, .unk, .unk, .unk, .unk, .unk, .unk],
   hp := [some (.cells [SV.d (DV.ro (List.length L) 3 (BL4_q6 L)), iv a, iv e]), none], next := 2, hint := .nil }))

theorem BL4_eq (u : List UInt8) (L : List Tok) (a e : Int) (f i : Nat) : cutT 2 [] [4, 5, 6, 7, 8, 9] [1] 2 .nil (exec Tryd.prog C6 D6 300 bodyL4 (invL4 u L a e f i)) = BL4 u L a e f i := by kernel_rfl

noncomputable def KL4 (n : Nat) (b s : List UInt8) (u : List UInt8) (L : List Tok) (a e : Int) (f i : Nat) : Tree SV :=
  .ret (bv ((↑f : Int) == (↑(ByteArray.size (strB u)) : Int) && decide ((↑(List.length L) : Int) > (0 : Int)) && true))

theorem KL4_eq (n : Nat) (b s : List UInt8) (u : List UInt8) (L : List Tok) (a e : Int) (f i : Nat) : codeK (sub [1, 0, 0, 0, 1] (tL4 n b s)) (.exit 0) (invL4 u L a e f i) = KL4 n b s u L a e f i := by kernel_rfl



end Go.Proofs.YtnoodoipghgkgaaDoor

namespace Go.Proofs.YtnoodoipghgkgaaDoor
open Go.Sx
set_option maxRecDepth 100000

theorem law4 {n : Nat} {b s : List UInt8} (hb : b.length = n) : Sat Tryd.prog (tL4 n b s) (· = bv true) := by
  constructor
  rw [LL4_eq]; unfold LL4
  have eq1 : LL4_q1 b = byC b := rfl
  rw [eq1]
  have hok := byOK_l hb
  have hl : (mdS n (byC b)).length ≤ 600 := mdS_len
  refine ⟨fun h => rfl, fun h => ?_⟩
  have hs : s.length ≤ 300 := by rw [Bool.false_or, decide_eq_false_iff_not, strB_size] at h; omega
  obtain ⟨Y, hY⟩ : ∃ Y, (strB (mdS n (byC b)) ++ strB s).data.toList = Y := ⟨_, rfl⟩
  obtain ⟨U, hU⟩ : ∃ U, mdS n (byC b) = U := ⟨_, rfl⟩
  rw [hU] at hl ⊢
  have hYU : Y = U ++ s := by rw [← hY, hU, strB_append, strB_list]
  have hYl : Y.length ≤ 900 := by rw [hYU, List.length_append]; omega
  have hYs : (strB U ++ strB s).size = Y.length := by rw [strB_append, strB_size, hYU]
  have hYd : (strB U ++ strB s).data.toList = Y := by rw [← hU]; exact hY
  rw [hYs, hYd]
  simp only [strB_size]
  refine ⟨hok, by omega, by omega, fun he => ?_, fun he => ?_⟩
  · rcases lxO_cases Y (by omega) with ⟨p, _, hpl, eO, eE, eA⟩ | ⟨_, _, _, _, eE, _⟩
    · rw [eO, eE, eA]
      show bv _ = bv true
      rw [bv_inj, decide_eq_true (by omega), decide_eq_true (by omega)]; rfl
    · rw [eE] at he; cases he
  have hex : (lexL Y 0).2 = none ∧ lxO Y = (lexL Y 0).1 ∧ 0 < (lxO Y).length := by
    rcases lxO_cases Y (by omega) with ⟨p, _, hpl, eO, eE, eA⟩ | ⟨hn, ts, e0, eO, _⟩
    · rw [eE] at he; cases he
    · exact ⟨hn, by rw [eO, e0], by rw [eO, List.length_append, List.length_singleton]; omega⟩
  obtain ⟨hn, eL, hpos⟩ := hex
  have hcov := lex_covers hn
  rw [← eL] at hcov
  have hlen := lxO_len Y
  refine code_satS C6_ok D6_ok (n := 300) (n0 := 2) (nx := 2) (roots := []) (keep := [4, 5, 6, 7, 8, 9]) (drop := [1]) (h := .nil) (c := codeC (sub [1, 0, 0, 0, 1] (tL4 n b s))) (st := codeS (sub [1, 0, 0, 0, 1] (tL4 n b s))) (k := codeK (sub [1, 0, 0, 0, 1] (tL4 n b s))) (body := bodyL4) (by kernel_rfl) (by kernel_rfl)
    (fun q t => ∃ i f : Nat, q = (lxO Y).length - i ∧ i ≤ (lxO Y).length ∧ Cov Y f ((lxO Y).drop i) ∧ f ≤ Y.length ∧ t = invL4 Y (lxO Y) (lxA Y) (lxE Y) f i)
    (fun e t => e = .exit 0 ∧ ∃ i, t = invL4 Y (lxO Y) (lxA Y) (lxE Y) Y.length i)
    ⟨_, _, ⟨0, 0, rfl, by omega, hcov, by omega, rfl⟩, ?_⟩ ?_ ?_
  · clear hYU hYl hYs hYd hn eL hpos hcov hlen he
    subst hU; subst hY
    exact entA_sound (roots := []) (keep := [4, 5, 6, 7, 8, 9]) (drop := [1]) (nx := 2) (h := .nil) (by kernel_rfl)
  · rintro q t ⟨i, f, rfl, hi, hc, hf, rfl⟩
    refine Sat.of_eq (BL4_eq Y (lxO Y) (lxA Y) (lxE Y) f i) ?_
    constructor
    unfold BL4
    have wi : w64 ((i : Int) + 1) = ((i + 1 : Nat) : Int) := by rw [w64_of (by omega) (by omega)]; omega
    simp only [Int.toNat_natCast, wi]
    refine ⟨fun h1 => ?_, fun h1 => ?_⟩
    · rw [decide_eq_true_eq] at h1
      have hlt : i < (lxO Y).length := by omega
      generalize lxO Y = L at *
      have hdr : L.drop i = L[i] :: L.drop (i + 1) := List.drop_eq_getElem_cons hlt
      have hgx : L.getD i default = L[i] := by rw [List.getD_eq_getElem?_getD, List.getElem?_eq_getElem hlt]; rfl
      have hr : L.drop (i + 1) = [] ↔ i + 1 = L.length := by rw [List.drop_eq_nil_iff]; omega
      have hA : tkA L i = (L[i].a : Nat) := by unfold tkA; rw [hgx]
      have hT : tkT L i = strB L[i].t := by unfold tkT; rw [hgx]
      have hK : tkK L i = (L[i].k : Nat) := by unfold tkK; rw [hgx]
      rw [hdr] at hc
      generalize L[i] = x at hc hA hT hK
      obtain ⟨c1, c2, c3, c4, c5, c6, c7⟩ := hc
      have q1 : BL4_q1 Y L f i = false := by
        unfold BL4_q1
        rw [Int.toNat_natCast, hA, hT, strB_size, strB_size, w64_of (by omega) (by omega), decide_eq_false (by omega), decide_eq_false (by omega)]; rfl
      have wE : w64 ((x.a : Nat) + (x.t.length : Nat) : Int) = ((x.a + x.t.length : Nat) : Int) := by rw [w64_of (by omega) (by omega)]; omega
      have q2 : BL4_q2 Y L f i = false := by
        unfold BL4_q2
        rw [q1, Int.toNat_natCast, hA, hT, strB_size, wE, Int.toNat_natCast, Int.toNat_natCast, strB_extract, c3, strEq_self]; rfl
      have q3 : BL4_q3 Y L f i = false := by
        unfold BL4_q3
        rw [q2]
        simp only [Int.toNat_natCast, hA]
        rw [strB_extract, strB_list, c4]; rfl
      have q4 : BL4_q4 L i = decide (i + 1 = L.length) := by
        unfold BL4_q4
        rw [w64_of (by omega) (by omega)]
        by_cases h : i + 1 = L.length
        · rw [decide_eq_true h, beq_iff_eq]; omega
        · rw [decide_eq_false h, beq_eq_false_iff_ne]; omega
      have q5 : BL4_q5 Y L f i = false := by
        unfold BL4_q5
        rw [q3, q4, Int.toNat_natCast, hK, Bool.false_or, Bool.not_eq_false', beq_iff_eq]
        by_cases h : i + 1 = L.length
        · rw [decide_eq_true h, beq_iff_eq, c5.2 (hr.2 h)]; rfl
        · rw [decide_eq_false h, beq_eq_false_iff_ne]
          intro hk
          exact h (hr.1 (c5.1 (by omega)))
      have q6 : (!((((x.a + x.t.length : Nat) : Int) == (x.a : Nat)) == BL4_q4 L i)) = false := by
        rw [q4, Bool.not_eq_false', beq_iff_eq]
        by_cases h : i + 1 = L.length
        · rw [decide_eq_true h, beq_iff_eq, c6.2 (hr.2 h)]; rfl
        · rw [decide_eq_false h, beq_eq_false_iff_ne]
          intro hk
          have : x.t = [] := List.length_eq_zero_iff.1 (by omega)
          exact h (hr.1 (c6.1 this))
      rw [q1, q2, q3, q5, hA, hT, strB_size, wE]
      simp only [Int.toNat_natCast, strB_size]
      refine ⟨by omega, by omega, by omega, fun _ => by omega, fun _ => ⟨⟨by omega, by omega⟩, by omega, by omega⟩, fun _ => by omega, fun _ => by omega, fun _ => ⟨⟨by omega, by omega⟩, by omega, by omega⟩, fun _ => ?_, fun _ => by omega, fun _ => by omega, fun h2 => ?_, fun _ => ?_⟩
      · rw [strB_extract, strB_size, List.length_drop, List.length_take]; omega
      · rw [Bool.false_or, q6] at h2; cases h2
      · exact ⟨L.length - (i + 1), _, by omega, ⟨i + 1, x.a + x.t.length, rfl, by omega, c7, c2, rfl⟩, Gc.refl _ _⟩
    · rw [decide_eq_false_iff_not] at h1
      rw [List.drop_eq_nil_of_le (by omega)] at hc
      have : f = Y.length := hc
      subst this
      exact ⟨_, ⟨rfl, i, rfl⟩, Gc.refl _ _⟩
  · rintro e t ⟨rfl, i, rfl⟩
    refine Sat.of_eq (KL4_eq n b s Y (lxO Y) (lxA Y) (lxE Y) Y.length i) ⟨?_⟩
    unfold KL4
    show bv _ = bv true
    rw [bv_inj, strB_size, decide_eq_true (by omega)]; simp
theorem lexerCovers_ok : ∃ c : Ctr, CtrOK Tryd.prog 4 c ∧ ∀ ss, okArgs Tryd.prog 6 [22, 9] ss → (c ss).ev (bv true) := by
  refine law_le C6_ok D6_ok (by kernel_rfl) (by kernel_rfl) fun ss h => ?_
  obtain ⟨ds, _, rfl, h1, ds3, _, rfl, h3, rfl⟩ := h
  obtain ⟨n, b, hb, l1⟩ := bytes_arg h1
  obtain ⟨s, l3⟩ := string_arg h3
  exact ⟨[byT n b, strV s], 300, .nil, ⟨l1, l3, rfl⟩, law4 hb⟩
end Go.Proofs.YtnoodoipghgkgaaDoor

