/- Part of a proof of the given statements of this seat (SxLxL3, SxLxM3): no conditions beyond those typed here. -/
import Derived.Test.YtnoodoipghgkgaaDoorSz08
set_option linter.unusedVariables false
set_option linter.unusedSimpArgs false
set_option linter.unusedSectionVars false

namespace Go.Proofs.YtnoodoipghgkgaaDoor
open Go.Sx
set_option maxRecDepth 100000

noncomputable def invL3 (T : List (List UInt8)) (a : Int) (i : Nat) : AS := ⟨[.unk, .unk, .ok (iv a), .unk, .unk, .unk, .ok (bv false), .ok (bv true), .ok (.row 0 0 0 3 1), .ok (iv i)] ++ List.replicate 75 .unk, [some (.row 3 1 (txD T))], 1, .nil⟩
noncomputable def bodyL3 : Code := loopN (bodyOf Tryd.prog 3) 0
noncomputable def LL3_q1 (b : List UInt8) (i : Nat) (j : Nat) : DV :=
  DV.x (.int .u8 (↑(byN b i) : Int))
noncomputable def LL3 (n : Nat) (b s : List UInt8) (a : Int) : Tree SV :=
  .ite (false || decide ((↑(ByteArray.size (strB s)) : Int) > (300 : Int))) (.ret (bv true))
  (.need (ByOK n (LL3_q1 b))
   (.need (ByOK n (LL3_q1 b))
   (.need (ByteArray.size (strB (clS n (LL3_q1 b))) + ByteArray.size (strB s) ≤ 9223372036854775807)
   (.code (codeC (sub [(1 : Nat), (0 : Nat), (0 : Nat), (0 : Nat)] (tL3 n b s a))) (codeS (sub [(1 : Nat), (0 : Nat), (0 : Nat), (0 : Nat)] (tL3 n b s a)))
   (codeK (sub [(1 : Nat), (0 : Nat), (0 : Nat), (0 : Nat)] (tL3 n b s a)))))))

theorem LL3_eq (n : Nat) (b s : List UInt8) (a : Int) : tL3 n b s a = LL3 n b s a := by kernel_rfl

noncomputable def BL3_q1 (T : List (List UInt8)) (x : Nat) (i : Nat) (j : Nat) : DV :=
  match j with
| (0 : Nat) => DV.x (.int .i64 (tkK (lxO (Array.toList (ByteArray.data (txT T (0 + Int.toNat (↑x : Int)))))) i))
| (1 : Nat) => DV.x (.string (tkT (lxO (Array.toList (ByteArray.data (txT T (0 + Int.toNat (↑x : Int)))))) i))
| x_1 => DV.x (.int .i64 (tkA (lxO (Array.toList (ByteArray.data (txT T (0 + Int.toNat (↑x : Int)))))) i))
noncomputable def BL3_q2 (T : List (List UInt8)) (x : Nat) : Bool :=
  !(lxE (Array.toList (ByteArray.data (txT T (0 + Int.toNat (↑x : Int))))) == lxE (Array.toList (ByteArray.data (txT T (0 + Int.toNat (↑x : Int))))) &&
   (↑(lxA (Array.toList (ByteArray.data (txT T (0 + Int.toNat (↑x : Int)))))) : Int) == (↑(lxA (Array.toList (ByteArray.data (txT T (0 + Int.toNat (↑x : Int)))))) : Int) &&
   smB (List.length (lxO (Array.toList (ByteArray.data (txT T (0 + Int.toNat (↑x : Int))))))) (tokR (List.length (lxO (Array.toList (ByteArray.data (txT T (0 + Int.toNat (↑x : Int))))))) (BL3_q1 T x))
   (List.length (lxO (Array.toList (ByteArray.data (txT T (0 + Int.toNat (↑x : Int))))))) (tokR (List.length (lxO (Array.toList (ByteArray.data (txT T (0 + Int.toNat (↑x : Int))))))) (BL3_q1 T x)) (0 : Int))
noncomputable def BL3_q3 (T : List (List UInt8)) (x : Nat) : Bool :=
  BL3_q2 T x || (↑(kindL (Array.toList (ByteArray.data (txT T (0 + Int.toNat (↑x : Int)))))) : Int) != (↑(kindL (Array.toList (ByteArray.data (txT T (0 + Int.toNat (↑x : Int)))))) : Int)
noncomputable def BL3_q4 (T : List (List UInt8)) (a : Int) (x : Nat) : Bool :=
  BL3_q3 T x ||
  !((↑(Prod.fst (lnO (Array.toList (ByteArray.data (txT T (0 + Int.toNat (↑x : Int))))) a)) : Int) == (↑(Prod.fst (lnO (Array.toList (ByteArray.data (txT T (0 + Int.toNat (↑x : Int))))) a)) : Int) &&
   ((↑(Prod.snd (lnO (Array.toList (ByteArray.data (txT T (0 + Int.toNat (↑x : Int))))) a)) : Int) == (↑(Prod.snd (lnO (Array.toList (ByteArray.data (txT T (0 + Int.toNat (↑x : Int))))) a)) : Int) && true))
noncomputable def BL3_q5 (T : List (List UInt8)) (i : Nat) (j : Nat) : DV :=
  DV.x (.string (txT T i))
noncomputable def BL3 (T : List (List UInt8)) (a : Int) (x : Nat) : Tree (Ex × AS) :=
  .ite (decide ((↑x : Int) < (3 : Int)))
  (.need ((0 : Int) ≤ (↑x : Int) ∧ (↑x : Int) < (3 : Int))
   (.need (0 + Int.toNat (↑x : Int) < 3)
   (.need (ByteArray.size (txT T (0 + Int.toNat (↑x : Int))) ≤ 100000)
   (.need ((0 : Int) ≤ (↑x : Int) ∧ (↑x : Int) < (3 : Int))
   (.need (0 + Int.toNat (↑x : Int) < 3)
   (.need (ByteArray.size (txT T (0 + Int.toNat (↑x : Int))) ≤ 100000)
   (.need
   ((∀ (i j : Nat),
   i < List.length (lxO (Array.toList (ByteArray.data (txT T ((0 : Nat) + Int.toNat (↑x : Int)))))) →
   j < (3 : Nat) →
   tkC (lxO (Array.toList (ByteArray.data (txT T ((0 : Nat) + Int.toNat (↑x : Int)))))) i j =
   tkC (tokR (List.length (lxO (Array.toList (ByteArray.data (txT T ((0 : Nat) + Int.toNat (↑x : Int))))))) (tkC (lxO (Array.toList (ByteArray.data (txT T ((0 : Nat) + Int.toNat (↑x : Int)))))))) i j) ∧
   (∀ (i j : Nat),
   i < List.length (lxO (Array.toList (ByteArray.data (txT T ((0 : Nat) + Int.toNat (↑x : Int)))))) →
   j < (3 : Nat) →
   tkC (lxO (Array.toList (ByteArray.data (txT T ((0 : Nat) + Int.toNat (↑x : Int)))))) i j =
   tkC (tokR (List.length (lxO (Array.toList (ByteArray.data (txT T ((0 : Nat) + Int.toNat (↑x : Int))))))) (tkC (lxO (Array.toList (ByteArray.data (txT T ((0 : Nat) + Int.toNat (↑x : Int)))))))) i j) ∧
   List.length (lxO (Array.toList (ByteArray.data (txT T (0 + Int.toNat (↑x : Int)))))) ≤ 1000000 ∧
   ∀ (i : Nat),
   tkA (tokR (List.length (lxO (Array.toList (ByteArray.data (txT T ((0 : Nat) + Int.toNat (↑x : Int))))))) (tkC (lxO (Array.toList (ByteArray.data (txT T ((0 : Nat) + Int.toNat (↑x : Int)))))))) i ≤ (1000000000 : Int))
   (.need (BL3_q2 T x = false → (0 : Int) ≤ (↑x : Int) ∧ (↑x : Int) < (3 : Int))
   (.need (BL3_q2 T x = false → 0 + Int.toNat (↑x : Int) < 3)
   (.need (BL3_q2 T x = false → ByteArray.size (txT T (0 + Int.toNat (↑x : Int))) ≤ 100000)
   (.need (BL3_q2 T x = false → (0 : Int) ≤ (↑x : Int) ∧ (↑x : Int) < (3 : Int))
   (.need (BL3_q2 T x = false → 0 + Int.toNat (↑x : Int) < 3)
   (.need (BL3_q2 T x = false → ByteArray.size (txT T (0 + Int.toNat (↑x : Int))) ≤ 100000)
   (.need (BL3_q3 T x = false → (0 : Int) ≤ (↑x : Int) ∧ (↑x : Int) < (3 : Int))
   (.need (BL3_q3 T x = false → 0 + Int.toNat (↑x : Int) < 3)
   (.need (BL3_q3 T x = false → ByteArray.size (txT T (0 + Int.toNat (↑x : Int))) ≤ 100000)
   (.need (BL3_q3 T x = false → (0 : Int) ≤ (↑x : Int) ∧ (↑x : Int) < (3 : Int))
   (.need (BL3_q3 T x = false → 0 + Int.toNat (↑x : Int) < 3)
   (.need (BL3_q3 T x = false → ByteArray.size (txT T (0 + Int.toNat (↑x : Int))) ≤ 100000)
   (.need
   (BL3_q4 T a x = false →
   (∀ (i j : Nat),
   i < List.length (lxO (Array.toList (ByteArray.data (txT T ((0 : Nat) + Int.toNat (↑x : Int)))))) →
   j < (3 : Nat) →
   tkC (lxO (Array.toList (ByteArray.data (txT T ((0 : Nat) + Int.toNat (↑x : Int)))))) i j =
   tkC
   (tokR (List.length (lxO (Array.toList (ByteArray.data (txT T ((0 : Nat) + Int.toNat (↑x : Int)))))))
   (tkC (lxO (Array.toList (ByteArray.data (txT T ((0 : Nat) + Int.toNat (↑x : Int))))))))
   i j) ∧
   List.length (lxO (Array.toList (ByteArray.data (txT T (0 + Int.toNat (↑x : Int)))))) ≤ 100000 ∧
   List.length
   (joinL
   (ktx (tokR (List.length (lxO (Array.toList (ByteArray.data (txT T (0 + Int.toNat (↑x : Int))))))) (BL3_q1 T x))
   (List.length (lxO (Array.toList (ByteArray.data (txT T (0 + Int.toNat (↑x : Int))))))))) ≤
   100000)
   (.need
   (BL3_q4 T a x = false →
   (∀ (i j : Nat),
   i < List.length (lxO (Array.toList (ByteArray.data (txT T ((0 : Nat) + Int.toNat (↑x : Int)))))) →
   j < (3 : Nat) →
   tkC (lxO (Array.toList (ByteArray.data (txT T ((0 : Nat) + Int.toNat (↑x : Int)))))) i j =
   tkC
   (tokR (List.length (lxO (Array.toList (ByteArray.data (txT T ((0 : Nat) + Int.toNat (↑x : Int)))))))
   (tkC (lxO (Array.toList (ByteArray.data (txT T ((0 : Nat) + Int.toNat (↑x : Int))))))))
   i j) ∧
   List.length (lxO (Array.toList (ByteArray.data (txT T (0 + Int.toNat (↑x : Int)))))) ≤ 100000 ∧
   List.length
   (joinL
   (ktx (tokR (List.length (lxO (Array.toList (ByteArray.data (txT T (0 + Int.toNat (↑x : Int))))))) (BL3_q1 T x))
   (List.length (lxO (Array.toList (ByteArray.data (txT T (0 + Int.toNat (↑x : Int))))))))) ≤
   100000)
   (.ite
   (BL3_q4 T a x ||
   !strEq
   (strB
   (joinL
   (ktx (tokR (List.length (lxO (Array.toList (ByteArray.data (txT T (0 + Int.toNat (↑x : Int))))))) (BL3_q1 T x))
   (List.length (lxO (Array.toList (ByteArray.data (txT T (0 + Int.toNat (↑x : Int))))))))))
   (strB
   (joinL
   (ktx (tokR (List.length (lxO (Array.toList (ByteArray.data (txT T (0 + Int.toNat (↑x : Int))))))) (BL3_q1 T x))
   (List.length (lxO (Array.toList (ByteArray.data (txT T (0 + Int.toNat (↑x : Int)))))))))))
   (.ret
   (.ret,
   {
   tm :=
   [.unk, .unk, .ok (iv a), .unk, .unk, .unk, .ok (bv false), .ok (bv true), .ok (SV.row 0 0 0 3 1),
   .ok (iv (↑x : Int)), .unk, .unk, .unk, .unk, .unk, .unk, .unk, .unk, .unk, .unk, .unk, .unk, .unk, .unk, .unk, .unk, .unk, .unk, .unk, .unk,
   .unk, .unk, .unk, .unk, .unk, .unk, .unk, .unk, .unk, .unk, .unk, .unk, .unk, .unk, .unk, .unk, .unk, .unk, .unk, .unk, .unk, .unk, .unk,
   .unk, .unk, .unk, .unk, .unk, .unk, .unk, .unk, .unk, .unk, .unk, .unk, .unk, .unk, .unk, .unk, .unk, .unk, .unk, .unk, .unk, .unk, .unk,
   .unk, .unk, .unk, .unk, .unk, .unk, .unk, .unk, .unk],
   hp := [some (.row 3 1 (BL3_q5 T))], next := 1, hint := .nil }))
   (.ret
   (.normal,
   {
   tm :=
   [.unk, .unk, .ok (iv a), .unk, .unk, .unk, .ok (bv false), .ok (bv true), .ok (SV.row 0 0 0 3 1),
   .ok (iv (w64 ((↑x : Int) + (1 : Int)))), .unk, .unk, .unk, .unk, .unk, .unk, .unk, .unk, .unk, .unk, .unk, .unk, .unk, .unk, .unk, .unk, .unk,
   .unk, .unk, .unk, .unk, .unk, .unk, .unk, .unk, .unk, .unk, .unk, .unk, .unk, .unk, .unk, .unk, .unk, .unk, .unk, .unk, .unk, .unk, .unk,
   .unk, .unk, .unk, .unk, .unk, .unk, .unk, .unk, .unk, .unk, .unk, .unk, .unk, .unk, .unk, .unk, .unk, .unk, .unk, .unk, .unk, .unk, .unk,
   .unk, .unk, .unk, .unk, .unk, .unk, .unk, .unk, .unk, .unk, .unk, .unk],
   hp := [some (.row 3 1 (BL3_q5 T))], next := 1, hint := .nil }))))))))))))))))))))))))
  (.ret
   (.exit 0,
   {
   tm :=
   [.unk, .unk, .ok (iv a), .unk, .unk, .unk, .ok (bv false), .ok (bv true), .ok (SV.row 0 0 0 3 1), .ok (iv (↑x : Int)), .unk, .unk, .unk, .unk, .unk,
   .unk, .unk, .unk, .unk, .unk, .unk, .unk, .unk, .unk, .unk, .unk, .unk, .unk, .unk, .unk, .unk, .unk, .unk, .unk, .unk, .unk, .unk, .unk, .unk, .unk, .unk, .unk, .unk,
   .unk, .unk, .unk, .unk, .unk, .unk, .unk, .unk, .unk, .unk, .unk, .unk, .unk, .unk, .unk, .unk, .unk, .unk, .unk, .unk, .unk, .unk, .unk, .unk, .unk, .unk, .unk, .unk,
   .unk, .unk, .unk, .unk, .unk, .unk, .unk, .unk, .unk, .unk, .unk, .unk, .unk, .unk],
   hp := [some (.row 3 1 (BL3_q5 T))], next := 1, hint := .nil }))

theorem BL3_eq (T : List (List UInt8)) (a : Int) (x : Nat) : cutT 1 [] [2, 6, 7, 8, 9] [] 1 .nil (exec Tryd.prog C6 D6 300 bodyL3 (invL3 T a x)) = BL3 T a x := by kernel_rfl

noncomputable def KL3 (n : Nat) (b s : List UInt8) (a : Int) (T : List (List UInt8)) (i : Nat) : Tree SV :=
  .ret (bv true)

theorem KL3_eq (n : Nat) (b s : List UInt8) (a : Int) (T : List (List UInt8)) (i : Nat) : codeK (sub [1, 0, 0, 0] (tL3 n b s a)) (.exit 0) (invL3 T a i) = KL3 n b s a T i := by kernel_rfl



end Go.Proofs.YtnoodoipghgkgaaDoor

namespace Go.Proofs.YtnoodoipghgkgaaDoor
open Go.Sx
set_option maxRecDepth 100000

theorem law3 {n : Nat} {b s : List UInt8} {a : Int} (hb : b.length = n) : Sat Tryd.prog (tL3 n b s a) (· = bv true) := by
  constructor
  rw [LL3_eq]; unfold LL3
  have eq1 : LL3_q1 b = byC b := rfl
  rw [eq1]
  have hok := byOK_l hb
  have hl : (mdS n (byC b)).length ≤ 600 := mdS_len
  have hl2 : (clS n (byC b)).length ≤ 600 := clS_len
  generalize hU : mdS n (byC b) = U at hl ⊢
  generalize hV : clS n (byC b) = V at hl2 ⊢
  simp only [strB_size, strB_list]
  refine ⟨fun h => rfl, fun h => ⟨hok, hok, by rw [Bool.false_or, decide_eq_false_iff_not] at h; omega, ?_⟩⟩
  have hs : s.length ≤ 300 := by rw [Bool.false_or, decide_eq_false_iff_not] at h; omega
  have hT : ∀ i, (([U, s, V ++ s] : List (List UInt8)).getD i []).length ≤ 900 := by
    intro i
    match i with
    | 0 => show U.length ≤ 900; omega
    | 1 => show s.length ≤ 900; omega
    | 2 => show (V ++ s).length ≤ 900; rw [List.length_append]; omega
    | (k + 3) => show ([] : List UInt8).length ≤ 900; simp
  generalize hTT : ([U, s, V ++ s] : List (List UInt8)) = T at hT
  refine code_satS C6_ok D6_ok (n := 300) (n0 := 1) (nx := 1) (roots := []) (keep := [2, 6, 7, 8, 9]) (drop := []) (h := .nil) (c := codeC (sub [1, 0, 0, 0] (tL3 n b s a))) (st := codeS (sub [1, 0, 0, 0] (tL3 n b s a))) (k := codeK (sub [1, 0, 0, 0] (tL3 n b s a))) (body := bodyL3) (by kernel_rfl) (by kernel_rfl)
    (fun q t => ∃ i : Nat, q = 3 - i ∧ i ≤ 3 ∧ t = invL3 T a i)
    (fun e t => e = .exit 0 ∧ ∃ i, t = invL3 T a i)
    ⟨_, _, ⟨0, rfl, by omega, rfl⟩, ?_⟩ ?_ ?_
  · subst hTT; subst hU; subst hV
    refine (entA_sound (s' := ⟨[.unk, .unk, .ok (iv a), .unk, .unk, .unk, .ok (bv false), .ok (bv true), .ok (.row 0 0 0 3 1), .ok (iv (0 : Nat))] ++ List.replicate 75 .unk, [some (.cells [strV (mdS n (byC b)), strV s, .d (.x (.string (strB (clS n (byC b)) ++ strB s)))])], 1, .nil⟩) (roots := []) (keep := [2, 6, 7, 8, 9]) (drop := []) (nx := 1) (h := .nil) (by kernel_rfl)).trans ?_
    refine gc_hp rfl rfl ⟨.inr ⟨_, _, rfl, rfl, BlkLe.cells rfl fun i j hi hj => ?_⟩, trivial⟩
    obtain rfl : j = 0 := by omega
    match i, hi with
    | 0, _ => rfl
    | 1, _ => rfl
    | 2, _ => show SV.d (.x (.string (strB (clS n (byC b)) ++ strB s))) = SV.d (.x (.string (strB (clS n (byC b) ++ s)))); rw [strB_append]
  · rintro q t ⟨x, rfl, hx, rfl⟩
    refine Sat.of_eq (BL3_eq T a x) ?_
    constructor
    unfold BL3
    have hx0 : 0 + Int.toNat ((x : Nat) : Int) = x := by simp
    have hUx := hT x
    have hTx : txT T x = strB (T.getD x []) := rfl
    generalize T.getD x [] = Y at hUx hTx
    have e1 : BL3_q1 T x = tkC (lxO Y) := by
      funext i j
      unfold BL3_q1 tkC
      rw [hx0, hTx, strB_list]
      match j with
      | 0 => rfl
      | 1 => rfl
      | (k + 2) => rfl
    have e2 : BL3_q2 T x = false := by
      unfold BL3_q2
      rw [e1, hx0, hTx, strB_list, tokR_C, smB_self]; simp
    have e3 : BL3_q3 T x = false := by
      unfold BL3_q3
      rw [e2]; simp
    have e4 : BL3_q4 T a x = false := by
      unfold BL3_q4
      rw [e3]; simp
    rw [e1, e2, e3, e4]
    simp only [hx0, hTx, strB_list, strB_size]
    have hn := lxO_len Y
    have hj := lxJ_len Y
    have hA : ∀ i, tkA (tokR (lxO Y).length (tkC (lxO Y))) i ≤ 1000000000 := fun i => by
      rw [tokR_C]
      have := tkA_le (L := lxO Y) (n := Y.length) (fun x hx => lxO_at x hx) i
      omega
    have hJ : (joinL (ktx (tokR (lxO Y).length (tkC (lxO Y))) (lxO Y).length)).length ≤ 100000 := by rw [tokR_C]; omega
    have wx : w64 ((x : Int) + 1) = ((x + 1 : Nat) : Int) := by rw [w64_of (by omega) (by omega)]; omega
    rw [wx]
    refine ⟨fun h => ?_, fun h => ?_⟩
    · rw [decide_eq_true_eq] at h
      refine ⟨by omega, by omega, by omega, by omega, by omega, by omega, ⟨tokOK_C _, tokOK_C _, by omega, hA⟩, fun _ => by omega, fun _ => by omega, fun _ => by omega, fun _ => by omega, fun _ => by omega, fun _ => by omega, fun _ => by omega, fun _ => by omega, fun _ => by omega, fun _ => by omega, fun _ => by omega, fun _ => by omega, fun _ => ⟨tokOK_C _, by omega, hJ⟩, fun _ => ⟨tokOK_C _, by omega, hJ⟩, fun h => ?_, fun _ => ?_⟩
      · exfalso
        rw [strEq_self] at h; simp at h
      · exact ⟨3 - (x + 1), _, by omega, ⟨x + 1, rfl, by omega, rfl⟩, Gc.refl _ _⟩
    · exact ⟨_, ⟨rfl, x, rfl⟩, Gc.refl _ _⟩
  · rintro e t ⟨rfl, i, rfl⟩
    exact Sat.of_eq (KL3_eq n b s a T i) ⟨rfl⟩
theorem lexerMatchesReference_ok : ∃ c : Ctr, CtrOK Tryd.prog 3 c ∧ ∀ ss, okArgs Tryd.prog 6 [22, 9, 3] ss → (c ss).ev (bv true) := by
  refine law_le C6_ok D6_ok (by kernel_rfl) (by kernel_rfl) fun ss h => ?_
  obtain ⟨ds, _, rfl, h1, ds3, _, rfl, h3, ds2, _, rfl, h2, rfl⟩ := h
  obtain ⟨n, b, hb, l1⟩ := bytes_arg h1
  obtain ⟨s, l3⟩ := string_arg h3
  obtain ⟨a, l2⟩ := int_arg h2
  exact ⟨[byT n b, strV s, iv a], 300, .nil, ⟨l1, l3, l2, rfl⟩, law3 hb⟩
end Go.Proofs.YtnoodoipghgkgaaDoor

