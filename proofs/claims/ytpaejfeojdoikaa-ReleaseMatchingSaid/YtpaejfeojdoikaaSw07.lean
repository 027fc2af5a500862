/- Part of a proof of the given statements of this seat (SxRmG, SxRmH, SxRmI, SxRmJ, SxRmK, SxRmL, SxRmM, SxRmN, SxRmO, SxRmP, SxRmQ, SxRmR, SxRmS, SxRmT, SxRmU, SxRmV, SxRmW, SxRmX, SxRmY, SxRmZ, SxRnA, SxRnB): no conditions beyond those typed here. -/
import Derived.Test.YtpaejfeojdoikaaSw06
import Derived.Test.YtpaejfeojdoikaaSw04
set_option linter.unusedVariables false
set_option linter.unusedSimpArgs false
set_option linter.unusedSectionVars false
set_option linter.constructorNameAsVariable false

namespace Go.Proofs.Ytpaejfeojdoikaa.Rm
open Go.Sx
set_option maxRecDepth 100000
theorem app2 (L A B : List Int) : appC (L.length + A.length) (appC L.length (cellI L) A) B = cellI (L ++ (A ++ B)) := by
  rw [appC_cellI, ← List.length_append, appC_cellI, List.append_assoc]
theorem len2 (L A B : List Int) : L.length + A.length + B.length = (L ++ (A ++ B)).length := by simp only [List.length_append]; omega
theorem app3 (L A B C : List Int) : appC (L.length + A.length + B.length) (appC (L.length + A.length) (appC L.length (cellI L) A) B) C = cellI (L ++ (A ++ (B ++ C))) := by
  rw [appC_cellI, ← List.length_append, appC_cellI, ← List.length_append, appC_cellI]; simp only [List.append_assoc]
theorem len3 (L A B C : List Int) : L.length + A.length + B.length + C.length = (L ++ (A ++ (B ++ C))).length := by simp only [List.length_append]; omega
noncomputable def hpL3 (n : Nat) (f : Nat → Nat → Sx.DV) : Heap := [some (.cells [.row 3 0 0 n 1]), none, none, some (.row n 1 f)]
theorem hpB_L {n : Nat} {f : Nat → Nat → Sx.DV} (h : IsI n f) (N : List Int) : hpB n f N = hpL3 (lsI n f ++ N).length (cellI (lsI n f ++ N)) := hpB_eq h N
noncomputable def exM : MCtr := fun args hp nx => match args, hp, nx with
  | [.ptr 0 0, .row 2 0 0 1 7], [some (.cells [.row 1 0 0 m 1]), some (.row m' 1 f), some (.cells [.d (.x (.int .i64 op)), .d (.x (.string nm)), .d (.x (.int .i64 kn)), .d (.x (.string kp)), .d (.x (.int .i64 wn)), .d (.x (.string wp)), .d (.ro n 7 a)])], 3 =>
    .need (ExAny n a) (.need (RowI m m' f (exH op nm kn kp wn wp n (argsD 8 n a)).length) (.ret (.tup [], hpB m f (exH op nm kn kp wn wp n (argsD 8 n a)), 4)))
  | [.ptr 0 0, .row 2 0 0 2 7], [some (.cells [.row 1 0 0 m 1]), some (.row m' 1 f), some (.cells [.d (.x (.int .i64 op)), .d (.x (.string nm)), .d (.x (.int .i64 kn)), .d (.x (.string kp)), .d (.x (.int .i64 wn)), .d (.x (.string wp)), .d (.ro n 7 a),
      .d (.x (.int .i64 op2)), .d (.x (.string nm2)), .d (.x (.int .i64 kn2)), .d (.x (.string kp2)), .d (.x (.int .i64 wn2)), .d (.x (.string wp2)), .d (.ro n2 7 a2)])], 3 =>
    .need (ExAny n a ∧ ExAny n2 a2) (.need (RowI m m' f (exH op nm kn kp wn wp n (argsD 8 n a) ++ exH op2 nm2 kn2 kp2 wn2 wp2 n2 (argsD 8 n2 a2)).length) (.ret (.tup [], hpB m f (exH op nm kn kp wn wp n (argsD 8 n a) ++ exH op2 nm2 kn2 kp2 wn2 wp2 n2 (argsD 8 n2 a2)), 4)))
  | _, _, _ => .fail
theorem exM_ok : MuOK Try.prog 170 exM := by
  refine muOK_walk CF1_ok DF1_ok fun args hp nx r hr => ?_
  unfold exM at hr
  split at hr
  · rename_i m m' f op nm kn kp wn wp n a
    obtain ⟨hx, ⟨rfl, hI, hl⟩, rfl⟩ := hr
    have h1 := lsI_len m f
    obtain ⟨N, hN⟩ : ∃ N, exH op nm kn kp wn wp n (argsD 8 n a) = N := ⟨_, rfl⟩
    refine ⟨_, _, 200, _, ad_bl hI (xS op nm kn kp wn wp n a), fun _ _ _ _ h => h, Sat.of_eq (LEx1_eq (lsI m f) op nm kn kp wn wp n a) ⟨?_⟩⟩
    unfold LEx1
    rw [hpB_L hI]
    refine ⟨rfl, by omega, by omega, hx, rowI_c (by rw [h1]; exact hl), rfl, ?_⟩
    refine (gcA_sound (n0 := 3) (roots := [(.cell (.base 0) 0, 3)]) (keep := [0]) (drop := [1, 2]) (nx := 4) (h := .nil) (s' := ⟨[.ok (.tup [])], hpL3 ((lsI m f).length + (exH op nm kn kp wn wp n (argsD 8 n a)).length) (appC (lsI m f).length (cellI (lsI m f)) (exH op nm kn kp wn wp n (argsD 8 n a))), 4, .nil⟩) (by kernel_rfl)).trans ?_
    rw [appC_cellI, ← List.length_append]
    exact Gc.refl _ _
  · rename_i m m' f op nm kn kp wn wp n a op2 nm2 kn2 kp2 wn2 wp2 n2 a2
    obtain ⟨⟨hx, hx2⟩, ⟨rfl, hI, hl⟩, rfl⟩ := hr
    have h1 := lsI_len m f
    rw [List.length_append] at hl
    refine ⟨_, _, 200, _, ad_bl hI (xS op nm kn kp wn wp n a ++ xS op2 nm2 kn2 kp2 wn2 wp2 n2 a2), fun _ _ _ _ h => h, Sat.of_eq (LEx2_eq (lsI m f) op nm kn kp wn wp n a op2 nm2 kn2 kp2 wn2 wp2 n2 a2) ⟨?_⟩⟩
    unfold LEx2
    rw [hpB_L hI]
    have b1 : (lsI m f).length + (exH op nm kn kp wn wp n (argsD 8 n a)).length ≤ 1000000000 := by omega
    have b2 : (lsI m f).length + (exH op nm kn kp wn wp n (argsD 8 n a)).length + (exH op2 nm2 kn2 kp2 wn2 wp2 n2 (argsD 8 n2 a2)).length ≤ 1000000000 := by omega
    refine ⟨rfl, by omega, by omega, hx, rowI_c b1, rfl, by omega, by omega, hx2, rowI_a b2, rfl, ?_⟩
    refine (gcA_sound (n0 := 3) (roots := [(.cell (.base 0) 0, 3)]) (keep := [0]) (drop := [1, 2]) (nx := 4) (h := .nil) (s' := ⟨[.ok (.tup [])], hpL3 ((lsI m f).length + (exH op nm kn kp wn wp n (argsD 8 n a)).length + (exH op2 nm2 kn2 kp2 wn2 wp2 n2 (argsD 8 n2 a2)).length) (appC ((lsI m f).length + (exH op nm kn kp wn wp n (argsD 8 n a)).length) (appC (lsI m f).length (cellI (lsI m f)) (exH op nm kn kp wn wp n (argsD 8 n a))) (exH op2 nm2 kn2 kp2 wn2 wp2 n2 (argsD 8 n2 a2))), 4, .nil⟩) (by kernel_rfl)).trans ?_
    rw [app2, len2]
    exact Gc.refl _ _
  · exact hr.elim
noncomputable def mEx : MCtr := mcB selA exM
theorem mEx_ok : MuOK Try.prog 170 mEx := mcB_ok exM_ok
noncomputable def nRu : List SV → Tr (List Int) := fun r => match r with
  | [.agg [.d (.x (.int .i64 k)), .d (.x (.string s)), .d (.x (.int .i64 n))]] => .ret ([k] ++ (textL s.data.toList ++ [n]))
  | _ => .fail
noncomputable def mRu : MCtr := mcB selN (appM nRu)
theorem mRu_ok : MuOK Try.prog 171 mRu := mcB_ok (appM_ok CF1_ok DF1_ok fun r N0 L h1 h2 => by
  unfold nRu at h1
  split at h1
  · rename_i k s n
    obtain rfl : N0 = [k] ++ (textL s.data.toList ++ [n]) := h1
    simp only [List.length_append, List.length_singleton] at h2
    refine ⟨_, 200, .nil, fun _ _ _ _ h => h, Sat.of_eq (LRu_eq L k s.data.toList n) ⟨?_⟩⟩
    unfold LRu
    refine ⟨rowI_c (by omega), rowI_a (by rw [strB_list]; omega), rowI_a (by rw [strB_list]; omega), ?_⟩
    refine (gcA_sound (n0 := 2) (roots := [(.cell (.base 0) 0, 2)]) (keep := [0]) (drop := [1]) (nx := 3) (h := .nil) (s' := ⟨[.ok (.tup [])], [some (.cells [.row 2 0 0 (L.length + [k].length + (textL s.data.toList).length + [n].length) 1]), none, some (.row (L.length + [k].length + (textL s.data.toList).length + [n].length) 1 (appC (L.length + [k].length + (textL s.data.toList).length) (appC (L.length + [k].length) (appC L.length (cellI L) [k]) (textL s.data.toList)) [n]))], 3, .nil⟩) (by kernel_rfl)).trans ?_
    rw [app3, len3]
    exact Gc.refl _ _
  · exact h1.elim)
end Go.Proofs.Ytpaejfeojdoikaa.Rm
namespace Go.Sx
structure XT where
  op : Int
  nm : ByteArray
  kn : Int
  kp : ByteArray
  wn : Int
  wp : ByteArray
  n : Nat
  a : Nat → Nat → DV
def xtC (x : XT) : Nat → DV
  | 0 => .x (.int .i64 x.op)
  | 1 => .x (.string x.nm)
  | 2 => .x (.int .i64 x.kn)
  | 3 => .x (.string x.kp)
  | 4 => .x (.int .i64 x.wn)
  | 5 => .x (.string x.wp)
  | 6 => .ro x.n 7 x.a
  | _ => .x undef
def xtN (x : XT) : List Int := exH x.op x.nm x.kn x.kp x.wn x.wp x.n (argsD 8 x.n x.a)
structure RgT where
  nm : ByteArray
  w : Int
  ini : Int
  nx : XT
  rk : Int
  rf : ByteArray
  rn : Int
def rgC (r : RgT) : Nat → DV
  | 0 => .x (.string r.nm)
  | 1 => .x (.int .i64 r.w)
  | 2 => .x (.int .i64 r.ini)
  | 3 => xtC r.nx 0
  | 4 => xtC r.nx 1
  | 5 => xtC r.nx 2
  | 6 => xtC r.nx 3
  | 7 => xtC r.nx 4
  | 8 => xtC r.nx 5
  | 9 => xtC r.nx 6
  | 10 => .x (.int .i64 r.rk)
  | 11 => .x (.string r.rf)
  | 12 => .x (.int .i64 r.rn)
  | _ => .x undef
def ruN (k : Int) (s : ByteArray) (n : Int) : List Int := [k] ++ (textL s.data.toList ++ [n])
def rgN (r : RgT) : List Int := textL r.nm.data.toList ++ ([r.w, r.ini] ++ (xtN r.nx ++ ruN r.rk r.rf r.rn))
structure TkT where
  ch : Int
  w : Int
  wh : XT
def tkC (t : TkT) : Nat → DV
  | 0 => .x (.int .i64 t.ch)
  | 1 => .x (.int .i64 t.w)
  | 2 => xtC t.wh 0
  | 3 => xtC t.wh 1
  | 4 => xtC t.wh 2
  | 5 => xtC t.wh 3
  | 6 => xtC t.wh 4
  | 7 => xtC t.wh 5
  | 8 => xtC t.wh 6
  | _ => .x undef
def tkN (t : TkT) : List Int := [t.ch, t.w] ++ xtN t.wh
structure PtT where
  ch : Int
  w : Int
  wh : XT
  da : XT
def ptC (t : PtT) : Nat → DV
  | 0 => .x (.int .i64 t.ch)
  | 1 => .x (.int .i64 t.w)
  | 2 => xtC t.wh 0
  | 3 => xtC t.wh 1
  | 4 => xtC t.wh 2
  | 5 => xtC t.wh 3
  | 6 => xtC t.wh 4
  | 7 => xtC t.wh 5
  | 8 => xtC t.wh 6
  | 9 => xtC t.da 0
  | 10 => xtC t.da 1
  | 11 => xtC t.da 2
  | 12 => xtC t.da 3
  | 13 => xtC t.da 4
  | 14 => xtC t.da 5
  | 15 => xtC t.da 6
  | _ => .x undef
def ptN (t : PtT) : List Int := [t.ch, t.w] ++ (xtN t.wh ++ xtN t.da)
def xtOf (c : Nat → DV) (o : Nat) : XT := ⟨numV (c o), strV' (c (o + 1)), numV (c (o + 2)), strV' (c (o + 3)), numV (c (o + 4)), strV' (c (o + 5)), lenV (c (o + 6)), cellV (c (o + 6))⟩
def rgOf (c : Nat → DV) : RgT := ⟨strV' (c 0), numV (c 1), numV (c 2), xtOf c 3, numV (c 10), strV' (c 11), numV (c 12)⟩
def tkOf (c : Nat → DV) : TkT := ⟨numV (c 0), numV (c 1), xtOf c 2⟩
def ptOf (c : Nat → DV) : PtT := ⟨numV (c 0), numV (c 1), xtOf c 2, xtOf c 9⟩
def allN {α : Type} (f : α → List Int) (g : Nat → α) (n : Nat) : List Int := (List.range n).flatMap fun i => f (g i)
structure PrT where
  nm : ByteArray
  ck : ByteArray
  nr : Nat
  r : Nat → RgT
  nt : Nat
  t : Nat → TkT
  np : Nat
  p : Nat → PtT
def prN (p : PrT) : List Int := textL p.nm.data.toList ++ (textL p.ck.data.toList ++ ([(p.nr : Int)] ++ (allN rgN p.r p.nr ++ ([0] ++ ([(p.nt : Int)] ++ (allN tkN p.t p.nt ++ ([(p.np : Int)] ++ allN ptN p.p p.np)))))))
theorem allN_len {α : Type} (f : α → List Int) (g : Nat → α) {i n : Nat} (h : i ≤ n) : (allN f g i).length ≤ (allN f g n).length := by
  unfold allN
  obtain ⟨k, rfl⟩ : ∃ k, n = i + k := ⟨n - i, by omega⟩
  rw [List.range_add, List.flatMap_append, List.length_append]; omega
theorem allN_succ {α : Type} (f : α → List Int) (g : Nat → α) (i : Nat) : allN f g (i + 1) = allN f g i ++ f (g i) := by
  unfold allN; rw [List.range_succ, List.flatMap_append]; simp
theorem allN_ge {α : Type} {f : α → List Int} (g : Nat → α) (h : ∀ x, 1 ≤ (f x).length) : ∀ n, n ≤ (allN f g n).length
  | 0 => Nat.zero_le _
  | n + 1 => by
    rw [allN_succ, List.length_append]
    have := allN_ge g h n
    have := h (g n)
    omega
theorem rgN_pos (r : RgT) : 1 ≤ (rgN r).length := by unfold rgN; simp only [List.length_append, List.length_cons]; omega
theorem tkN_pos (r : TkT) : 1 ≤ (tkN r).length := by unfold tkN; simp only [List.length_append, List.length_cons]; omega
theorem ptN_pos (r : PtT) : 1 ≤ (ptN r).length := by unfold ptN; simp only [List.length_append, List.length_cons]; omega
def _root_.Go.Proofs.XtOK (x : XT) : Prop := Proofs.ExAny x.n x.a
structure _root_.Go.Proofs.PrOK (p : PrT) : Prop where
  r : ∀ i, i < p.nr → Proofs.XtOK (p.r i).nx
  t : ∀ i, i < p.nt → Proofs.XtOK (p.t i).wh
  p : ∀ i, i < p.np → Proofs.XtOK (p.p i).wh ∧ Proofs.XtOK (p.p i).da
end Go.Sx
namespace Go.Proofs.Ytpaejfeojdoikaa.Rm
open Go.Sx
inductive It where
  | n (A : List Int)
  | x (p : Prop) (A : List Int)
def It.l : It → List Int
  | .n A => A
  | .x _ A => A
def It.ok : It → Prop
  | .n _ => True
  | .x p _ => p
def rowsT {α : Type} (k : Nat → (Nat → Nat → Sx.DV) → Tree α) : List It → Nat → (Nat → Nat → Sx.DV) → Tree α
  | [], n, f => k n f
  | .n A :: r, n, f => .need (RowI n n f A.length) (rowsT k r (n + A.length) (appC n f A))
  | .x p A :: r, n, f => .need p (.need (RowI n n f A.length) (rowsT k r (n + A.length) (appC n f A)))
def itsN (l : List It) : List Int := l.flatMap It.l
theorem rowsT_sat {α : Type} {P : Program} {Q : α → Prop} {k : Nat → (Nat → Nat → Sx.DV) → Tree α} : ∀ {l : List It} {L : List Int}, L.length + (itsN l).length ≤ 1000000000 → (∀ x ∈ l, x.ok) → (k (L ++ itsN l).length (cellI (L ++ itsN l))).sat P Q → (rowsT k l L.length (cellI L)).sat P Q
  | [], L, _, _, h => by
    have e : L ++ itsN [] = L := by unfold itsN; simp
    rw [e] at h; exact h
  | .n A :: r, L, hl, ho, h => by
    have e : itsN (.n A :: r) = A ++ itsN r := rfl
    rw [e, List.length_append] at hl
    rw [e, ← List.append_assoc] at h
    refine ⟨⟨rfl, isI_cellI L, by omega⟩, ?_⟩
    rw [appC_cellI, ← List.length_append]
    exact rowsT_sat (by rw [List.length_append]; omega) (fun x hx => ho x (List.mem_cons_of_mem _ hx)) h
  | .x p A :: r, L, hl, ho, h => by
    have e : itsN (.x p A :: r) = A ++ itsN r := rfl
    rw [e, List.length_append] at hl
    rw [e, ← List.append_assoc] at h
    refine ⟨ho (.x p A) List.mem_cons_self, ⟨rfl, isI_cellI L, by omega⟩, ?_⟩
    rw [appC_cellI, ← List.length_append]
    exact rowsT_sat (by rw [List.length_append]; omega) (fun x hx => ho x (List.mem_cons_of_mem _ hx)) h
def rowsN : List It → Nat → Nat
  | [], n => n
  | x :: r, n => rowsN r (n + x.l.length)
def rowsF : List It → Nat → (Nat → Nat → Sx.DV) → Nat → Nat → Sx.DV
  | [], n, f => f
  | x :: r, n, f => rowsF r (n + x.l.length) (appC n f x.l)
theorem rows_eq : ∀ (l : List It) (L : List Int), rowsN l L.length = (L ++ itsN l).length ∧ rowsF l L.length (cellI L) = cellI (L ++ itsN l)
  | [], L => by unfold itsN; simp [rowsN, rowsF]
  | x :: r, L => by
    have e : itsN (x :: r) = x.l ++ itsN r := rfl
    rw [e, ← List.append_assoc]
    unfold rowsN rowsF
    rw [appC_cellI, ← List.length_append]
    exact rows_eq r _
end Go.Proofs.Ytpaejfeojdoikaa.Rm
namespace Go.Proofs.Ytpaejfeojdoikaa.Rm
open Go.Sx
set_option maxRecDepth 100000
noncomputable def muI : FuncId → Option MCtr := fun k => match k with
  | 122 => some mAd
  | 124 => some mTx
  | 170 => some mEx
  | 171 => some mRu
  | _ => none
theorem muI_ok (k : FuncId) (m : MCtr) (hk : muI k = some m) : MuOK Try.prog k m := by
  unfold muI at hk
  split at hk
  · cases hk; exact mAd_ok
  · cases hk; exact mTx_ok
  · cases hk; exact mEx_ok
  · cases hk; exact mRu_ok
  · cases hk
noncomputable def CI : Ctx := withMu Try.prog CA muI
theorem CI_ok : CtxOK Try.prog CI := withMu_ok CA_ok muI_ok
noncomputable def DI : Dr := drawnL Try.prog CI
theorem DI_ok : DrOK Try.prog CI DI := drawnL_ok CI_ok mixed
noncomputable def prA (p : PrT) : SV := .agg [.d (.x (.string p.nm)), .d (.x (.string p.ck)), .d (.ro p.nr 13 fun i j => rgC (p.r i) j), .d (.ro 0 27 fun _ _ => .x undef), .d (.ro p.nt 9 fun i j => tkC (p.t i) j), .d (.ro p.np 16 fun i j => ptC (p.p i) j)]
noncomputable def tPr (p : PrT) (L : List Int) : Tree (SV × AS) := inlT Try.prog CI DI 200 123 [.ptr 0 0, prA p] ⟨[], hpN L, 2, .nil⟩
noncomputable def atCode {α : Type} (t : Tree α) : Tree α := .code (codeC t) (codeS t) (codeK t)
noncomputable def LPr (p : PrT) (L : List Int) : Tree (SV × AS) := rowsT (fun _ _ => atCode (sub [0, 0, 0] (tPr p L))) [.n (textL p.nm.data.toList), .n (textL p.ck.data.toList), .n [(p.nr : Int)]] L.length (cellI L)
theorem LPr_eq (p : PrT) (L : List Int) : tPr p L = LPr p L := by kernel_rfl
noncomputable def slP (l : List (Nat × SV)) : List TV := (List.range 146).map fun k => match l.find? (fun e => Nat.beq e.1 k) with | some e => .ok e.2 | none => .unk
noncomputable def boxP (p : PrT) : List SV := [.d (.x (.string p.nm)), .d (.x (.string p.ck)), .d (.ro p.nr 13 fun i j => rgC (p.r i) j), .d (.ro 0 27 fun _ _ => .x undef), .d (.ro p.nt 9 fun i j => tkC (p.t i) j), .d (.ro p.np 16 fun i j => ptC (p.p i) j)]
noncomputable def hp7 (p : PrT) (n : Nat) (f : Nat → Nat → Sx.DV) : Heap := [some (.cells [.row 7 0 0 n 1]), none, some (.cells (boxP p)), none, none, none, none, some (.row n 1 f)]
noncomputable def stP1 (p : PrT) (n : Nat) (f : Nat → Nat → Sx.DV) (i : Int) : AS := ⟨slP [(0, .ptr 0 0), (3, .ptr 2 0), (27, .d (.ro p.nr 13 fun i j => rgC (p.r i) j)), (28, iv p.nr), (29, iv i)], hp7 p n f, 8, .u (.f .nil)⟩
noncomputable def bodyP1 : Code := loopN (bodyOf Try.prog 123) 0
noncomputable def BP1 (p : PrT) (L : List Int) (i : Int) : Tree (Ex × AS) :=
  .ite (decide (i < (p.nr : Int)))
    (.need (0 ≤ i ∧ i < (p.nr : Int)) (rowsT (fun n f => .ret (.normal, stP1 p n f (w64 (i + 1)))) [.n (textL (p.r i.toNat).nm.data.toList), .n [(p.r i.toNat).w, (p.r i.toNat).ini], .x (ExAny (p.r i.toNat).nx.n (p.r i.toNat).nx.a) (xtN (p.r i.toNat).nx), .n (ruN (p.r i.toNat).rk (p.r i.toNat).rf (p.r i.toNat).rn)] L.length (cellI L)))
    (.ret (.exit 0, stP1 p L.length (cellI L) i))
theorem BP1_eq (p : PrT) (L : List Int) (i : Int) : cutT 7 [(.cell (.base 0) 0, 7)] [0, 3, 27, 28, 29] [1, 3, 4, 5, 6] 8 (.u (.f .nil)) (exec Try.prog CI DI 200 bodyP1 (stP1 p L.length (cellI L) i)) = BP1 p L i := by kernel_rfl
noncomputable def tP2 (p : PrT) (L0 L : List Int) (i : Int) : Tree (SV × AS) := codeK (sub [0, 0, 0] (tPr p L0)) (.exit 0) (stP1 p L.length (cellI L) i)
noncomputable def KP1 (p : PrT) (L0 L : List Int) (i : Int) : Tree (SV × AS) := rowsT (fun n f => .need (false = false) (rowsT (fun _ _ => atCode (sub [0, 0, 0] (tP2 p L0 L i))) [.n [(p.nt : Int)]] n f)) [.n [0]] L.length (cellI L)
theorem KP1_eq (p : PrT) (L0 L : List Int) (i : Int) : tP2 p L0 L i = KP1 p L0 L i := by kernel_rfl
noncomputable def hp12 (p : PrT) (n : Nat) (f : Nat → Nat → Sx.DV) : Heap := [some (.cells [.row 12 0 0 n 1]), none, some (.cells (boxP p))] ++ List.replicate 9 none ++ [some (.row n 1 f)]
noncomputable def stP2 (p : PrT) (n : Nat) (f : Nat → Nat → Sx.DV) (i : Int) : AS := ⟨slP [(0, .ptr 0 0), (3, .ptr 2 0), (99, .d (.ro p.nt 9 fun i j => tkC (p.t i) j)), (100, iv p.nt), (101, iv i)], hp12 p n f, 13, .nil⟩
noncomputable def bodyP2 : Code := loopN (bodyOf Try.prog 123) 2
noncomputable def BP2 (p : PrT) (L : List Int) (i : Int) : Tree (Ex × AS) :=
  .ite (decide (i < (p.nt : Int)))
    (.need (0 ≤ i ∧ i < (p.nt : Int)) (rowsT (fun n f => .ret (.normal, stP2 p n f (w64 (i + 1)))) [.n [(p.t i.toNat).ch, (p.t i.toNat).w], .x (ExAny (p.t i.toNat).wh.n (p.t i.toNat).wh.a) (xtN (p.t i.toNat).wh)] L.length (cellI L)))
    (.ret (.exit 4, stP2 p L.length (cellI L) i))
theorem BP2_eq (p : PrT) (L : List Int) (i : Int) : cutT 12 [(.cell (.base 0) 0, 12)] [0, 3, 99, 100, 101] [1, 3, 4, 5, 6, 7, 8, 9, 10, 11] 13 .nil (exec Try.prog CI DI 200 bodyP2 (stP2 p L.length (cellI L) i)) = BP2 p L i := by kernel_rfl
noncomputable def tP3 (p : PrT) (L0 L1 L : List Int) (i1 i : Int) : Tree (SV × AS) := codeK (sub [0, 0, 0] (tP2 p L0 L1 i1)) (.exit 4) (stP2 p L.length (cellI L) i)
noncomputable def KP2 (p : PrT) (L0 L1 L : List Int) (i1 i : Int) : Tree (SV × AS) := rowsT (fun _ _ => atCode (sub [0] (tP3 p L0 L1 L i1 i))) [.n [(p.np : Int)]] L.length (cellI L)
theorem KP2_eq (p : PrT) (L0 L1 L : List Int) (i1 i : Int) : tP3 p L0 L1 L i1 i = KP2 p L0 L1 L i1 i := by kernel_rfl
noncomputable def hp15 (n : Nat) (f : Nat → Nat → Sx.DV) : Heap := [some (.cells [.row 15 0 0 n 1])] ++ List.replicate 14 none ++ [some (.row n 1 f)]
noncomputable def stP3 (p : PrT) (n : Nat) (f : Nat → Nat → Sx.DV) (i : Int) : AS := ⟨slP [(0, .ptr 0 0), (125, .d (.ro p.np 16 fun i j => ptC (p.p i) j)), (126, iv p.np), (127, iv i)], hp15 n f, 16, .nil⟩
noncomputable def bodyP3 : Code := loopN (bodyOf Try.prog 123) 3
noncomputable def BP3 (p : PrT) (L : List Int) (i : Int) : Tree (Ex × AS) :=
  .ite (decide (i < (p.np : Int)))
    (.need (0 ≤ i ∧ i < (p.np : Int)) (rowsT (fun n f => .ret (.normal, stP3 p n f (w64 (i + 1)))) [.n [(p.p i.toNat).ch, (p.p i.toNat).w], .x (ExAny (p.p i.toNat).wh.n (p.p i.toNat).wh.a ∧ ExAny (p.p i.toNat).da.n (p.p i.toNat).da.a) (xtN (p.p i.toNat).wh ++ xtN (p.p i.toNat).da)] L.length (cellI L)))
    (.ret (.exit 6, stP3 p L.length (cellI L) i))
theorem BP3_eq (p : PrT) (L : List Int) (i : Int) : cutT 15 [(.cell (.base 0) 0, 15)] [0, 125, 126, 127] [1, 2, 3, 4, 5, 6, 7, 8, 9, 10, 11, 12, 13, 14] 16 .nil (exec Try.prog CI DI 200 bodyP3 (stP3 p L.length (cellI L) i)) = BP3 p L i := by kernel_rfl
theorem KP3_eq (p : PrT) (L0 L1 L2 L : List Int) (i1 i2 i : Int) : codeK (sub [0] (tP3 p L0 L1 L2 i1 i2)) (.exit 6) (stP3 p L.length (cellI L) i) = .ret (.tup [], stP3 p L.length (cellI L) i) := by kernel_rfl
end Go.Proofs.Ytpaejfeojdoikaa.Rm
namespace Go.Proofs.Ytpaejfeojdoikaa.Rm
open Go.Sx
set_option maxRecDepth 100000
theorem allN_pre {α : Type} {f : α → List Int} {g : Nat → α} {i n : Nat} (h : i < n) : (allN f g i).length + (f (g i)).length ≤ (allN f g n).length := by
  have := allN_len f g (i := i + 1) (n := n) h
  rw [allN_succ, List.length_append] at this; exact this
theorem pr_sat {p : PrT} {L : List Int} (hp : PrOK p) (hL : L.length + (prN p).length ≤ 1000000000) :
    Sat Try.prog (tPr p L) fun q => Gc 2 ⟨[.ok q.1], q.2.hp, q.2.next, .nil⟩ ⟨[.ok (.tup [])], hpR (L ++ prN p), 3, .nil⟩ := by
  obtain ⟨A, hA⟩ : ∃ A, itsN [.n (textL p.nm.data.toList), .n (textL p.ck.data.toList), .n [(p.nr : Int)]] = A := ⟨_, rfl⟩
  have eN : prN p = A ++ (allN rgN p.r p.nr ++ ([0] ++ ([(p.nt : Int)] ++ (allN tkN p.t p.nt ++ ([(p.np : Int)] ++ allN ptN p.p p.np))))) := by
    rw [← hA]; unfold prN itsN It.l; simp [List.flatMap, List.append_assoc]
  rw [eN] at hL
  simp only [List.length_append, List.length_singleton] at hL
  have g1 := allN_ge p.r rgN_pos p.nr
  have g2 := allN_ge p.t tkN_pos p.nt
  have g3 := allN_ge p.p ptN_pos p.np
  refine Sat.of_eq (LPr_eq p L) ⟨?_⟩
  unfold LPr
  refine rowsT_sat (by rw [hA]; omega) (fun x hx => ?_) ?_
  · simp only [List.mem_cons, List.not_mem_nil, or_false] at hx
    rcases hx with rfl | rfl | rfl <;> trivial
  refine code_satS CI_ok DI_ok (n := 200) (n0 := 7) (nx := 8) (roots := [(.cell (.base 0) 0, 7)]) (keep := [0, 3, 27, 28, 29]) (drop := [1, 3, 4, 5, 6]) (h := .u (.f .nil)) (c := codeC (sub [0, 0, 0] (tPr p L))) (st := codeS (sub [0, 0, 0] (tPr p L))) (k := codeK (sub [0, 0, 0] (tPr p L))) (body := bodyP1) (by kernel_rfl) (by kernel_rfl)
    (fun q t => ∃ i : Nat, q = p.nr - i ∧ i ≤ p.nr ∧ t = stP1 p (L ++ (A ++ allN rgN p.r i)).length (cellI (L ++ (A ++ allN rgN p.r i))) i)
    (fun x t => x = .exit 0 ∧ ∃ i, t = stP1 p (L ++ (A ++ allN rgN p.r p.nr)).length (cellI (L ++ (A ++ allN rgN p.r p.nr))) i)
    ⟨_, _, ⟨0, rfl, by omega, rfl⟩, ?_⟩ ?_ ?_
  · refine (entA_sound (s' := stP1 p (rowsN [.n (textL p.nm.data.toList), .n (textL p.ck.data.toList), .n [(p.nr : Int)]] L.length) (rowsF [.n (textL p.nm.data.toList), .n (textL p.ck.data.toList), .n [(p.nr : Int)]] L.length (cellI L)) 0) (roots := [(.cell (.base 0) 0, 7)]) (keep := [0, 3, 27, 28, 29]) (drop := [1, 3, 4, 5]) (nx := 8) (h := .u (.f .nil)) (by kernel_rfl)).trans ?_
    rw [(rows_eq _ L).1, (rows_eq _ L).2, hA, show allN rgN p.r 0 = [] from rfl, List.append_nil]
    exact Gc.refl _ _
  · rintro q t ⟨i, rfl, hi, rfl⟩
    have hpre := allN_len rgN p.r hi
    generalize hM : L ++ (A ++ allN rgN p.r i) = M
    have hMl : M.length = L.length + (A.length + (allN rgN p.r i).length) := by rw [← hM]; simp
    refine Sat.of_eq (BP1_eq p M i) ⟨?_⟩
    unfold BP1
    refine ⟨fun h1 => ?_, fun h1 => ?_⟩
    · simp only [decide_eq_true_eq] at h1
      have hlt : i < p.nr := by omega
      have hp1 := allN_pre (f := rgN) (g := p.r) hlt
      rw [Int.toNat_natCast, w64_of (n := (i : Int) + 1) (by omega) (by omega)]
      have eI : itsN [.n (textL (p.r i).nm.data.toList), .n [(p.r i).w, (p.r i).ini], .x (ExAny (p.r i).nx.n (p.r i).nx.a) (xtN (p.r i).nx), .n (ruN (p.r i).rk (p.r i).rf (p.r i).rn)] = rgN (p.r i) := by
        unfold itsN It.l rgN; simp [List.flatMap, List.append_assoc]
      refine ⟨by omega, rowsT_sat (by rw [eI]; omega) (fun x hx => ?_) ?_⟩
      · simp only [List.mem_cons, List.not_mem_nil, or_false] at hx
        rcases hx with rfl | rfl | rfl | rfl
        · trivial
        · trivial
        · exact hp.r i hlt
        · trivial
      · rw [eI]
        refine ⟨p.nr - (i + 1), _, by omega, ⟨i + 1, rfl, by omega, rfl⟩, ?_⟩
        have e1 : L ++ (A ++ allN rgN p.r (i + 1)) = M ++ rgN (p.r i) := by rw [← hM, allN_succ]; simp only [List.append_assoc]
        rw [e1]
        exact Gc.refl _ _
    · simp only [decide_eq_false_iff_not] at h1
      obtain rfl : i = p.nr := by omega
      rw [← hM]
      exact ⟨_, ⟨rfl, _, rfl⟩, Gc.refl _ _⟩
  rintro x t ⟨rfl, i1, rfl⟩
  generalize hL1 : L ++ (A ++ allN rgN p.r p.nr) = L1
  have hl1 : L1.length = L.length + (A.length + (allN rgN p.r p.nr).length) := by rw [← hL1]; simp
  refine Sat.of_eq (KP1_eq p L L1 i1) ⟨?_⟩
  unfold KP1
  refine rowsT_sat (by show L1.length + 1 ≤ _; omega) (fun x hx => ?_) ⟨rfl, ?_⟩
  · simp only [List.mem_cons, List.not_mem_nil, or_false] at hx
    subst hx; trivial
  refine rowsT_sat (by show (L1 ++ [0]).length + 1 ≤ _; simp only [List.length_append, List.length_singleton]; omega) (fun x hx => ?_) ?_
  · simp only [List.mem_cons, List.not_mem_nil, or_false] at hx
    subst hx; trivial
  refine code_satS CI_ok DI_ok (n := 200) (n0 := 12) (nx := 13) (roots := [(.cell (.base 0) 0, 12)]) (keep := [0, 3, 99, 100, 101]) (drop := [1, 3, 4, 5, 6, 7, 8, 9, 10, 11]) (h := .nil) (c := codeC (sub [0, 0, 0] (tP2 p L L1 i1))) (st := codeS (sub [0, 0, 0] (tP2 p L L1 i1))) (k := codeK (sub [0, 0, 0] (tP2 p L L1 i1))) (body := bodyP2) (by kernel_rfl) (by kernel_rfl)
    (fun q t => ∃ i : Nat, q = p.nt - i ∧ i ≤ p.nt ∧ t = stP2 p (L1 ++ ([0] ++ ([(p.nt : Int)] ++ allN tkN p.t i))).length (cellI (L1 ++ ([0] ++ ([(p.nt : Int)] ++ allN tkN p.t i)))) i)
    (fun x t => x = .exit 4 ∧ ∃ i, t = stP2 p (L1 ++ ([0] ++ ([(p.nt : Int)] ++ allN tkN p.t p.nt))).length (cellI (L1 ++ ([0] ++ ([(p.nt : Int)] ++ allN tkN p.t p.nt)))) i)
    ⟨_, _, ⟨0, rfl, by omega, rfl⟩, ?_⟩ ?_ ?_
  · refine (entA_sound (s' := stP2 p (rowsN [.n [0], .n [(p.nt : Int)]] L1.length) (rowsF [.n [0], .n [(p.nt : Int)]] L1.length (cellI L1)) 0) (roots := [(.cell (.base 0) 0, 12)]) (keep := [0, 3, 99, 100, 101]) (drop := [1, 3, 4, 5, 6, 7, 8, 9, 10]) (nx := 13) (h := .nil) (by kernel_rfl)).trans ?_
    rw [(rows_eq _ L1).1, (rows_eq _ L1).2, show allN tkN p.t 0 = [] from rfl, List.append_nil]
    exact Gc.refl _ _
  · rintro q t ⟨i, rfl, hi, rfl⟩
    have hpre := allN_len tkN p.t hi
    generalize hM : L1 ++ ([0] ++ ([(p.nt : Int)] ++ allN tkN p.t i)) = M
    have hMl : M.length = L1.length + (2 + (allN tkN p.t i).length) := by rw [← hM]; simp; omega
    refine Sat.of_eq (BP2_eq p M i) ⟨?_⟩
    unfold BP2
    refine ⟨fun h1 => ?_, fun h1 => ?_⟩
    · simp only [decide_eq_true_eq] at h1
      have hlt : i < p.nt := by omega
      have hp1 := allN_pre (f := tkN) (g := p.t) hlt
      rw [Int.toNat_natCast, w64_of (n := (i : Int) + 1) (by omega) (by omega)]
      have eI : itsN [.n [(p.t i).ch, (p.t i).w], .x (ExAny (p.t i).wh.n (p.t i).wh.a) (xtN (p.t i).wh)] = tkN (p.t i) := by
        unfold itsN It.l tkN; simp [List.flatMap]
      refine ⟨by omega, rowsT_sat (by rw [eI]; omega) (fun x hx => ?_) ?_⟩
      · simp only [List.mem_cons, List.not_mem_nil, or_false] at hx
        rcases hx with rfl | rfl
        · trivial
        · exact hp.t i hlt
      · rw [eI]
        refine ⟨p.nt - (i + 1), _, by omega, ⟨i + 1, rfl, by omega, rfl⟩, ?_⟩
        have e1 : L1 ++ ([0] ++ ([(p.nt : Int)] ++ allN tkN p.t (i + 1))) = M ++ tkN (p.t i) := by rw [← hM, allN_succ]; simp only [List.append_assoc]
        rw [e1]
        exact Gc.refl _ _
    · simp only [decide_eq_false_iff_not] at h1
      obtain rfl : i = p.nt := by omega
      rw [← hM]
      exact ⟨_, ⟨rfl, _, rfl⟩, Gc.refl _ _⟩
  rintro x t ⟨rfl, i2, rfl⟩
  generalize hL2 : L1 ++ ([0] ++ ([(p.nt : Int)] ++ allN tkN p.t p.nt)) = L2
  have hl2 : L2.length = L1.length + (2 + (allN tkN p.t p.nt).length) := by rw [← hL2]; simp; omega
  refine Sat.of_eq (KP2_eq p L L1 L2 i1 i2) ⟨?_⟩
  unfold KP2
  refine rowsT_sat (by show L2.length + 1 ≤ _; omega) (fun x hx => ?_) ?_
  · simp only [List.mem_cons, List.not_mem_nil, or_false] at hx
    subst hx; trivial
  refine code_satS CI_ok DI_ok (n := 200) (n0 := 15) (nx := 16) (roots := [(.cell (.base 0) 0, 15)]) (keep := [0, 125, 126, 127]) (drop := [1, 2, 3, 4, 5, 6, 7, 8, 9, 10, 11, 12, 13, 14]) (h := .nil) (c := codeC (sub [0] (tP3 p L L1 L2 i1 i2))) (st := codeS (sub [0] (tP3 p L L1 L2 i1 i2))) (k := codeK (sub [0] (tP3 p L L1 L2 i1 i2))) (body := bodyP3) (by kernel_rfl) (by kernel_rfl)
    (fun q t => ∃ i : Nat, q = p.np - i ∧ i ≤ p.np ∧ t = stP3 p (L2 ++ ([(p.np : Int)] ++ allN ptN p.p i)).length (cellI (L2 ++ ([(p.np : Int)] ++ allN ptN p.p i))) i)
    (fun x t => x = .exit 6 ∧ ∃ i, t = stP3 p (L2 ++ ([(p.np : Int)] ++ allN ptN p.p p.np)).length (cellI (L2 ++ ([(p.np : Int)] ++ allN ptN p.p p.np))) i)
    ⟨_, _, ⟨0, rfl, by omega, rfl⟩, ?_⟩ ?_ ?_
  · refine (entA_sound (s' := stP3 p (rowsN [.n [(p.np : Int)]] L2.length) (rowsF [.n [(p.np : Int)]] L2.length (cellI L2)) 0) (roots := [(.cell (.base 0) 0, 15)]) (keep := [0, 125, 126, 127]) (drop := [1, 2, 3, 4, 5, 6, 7, 8, 9, 10, 11, 12, 13]) (nx := 16) (h := .nil) (by kernel_rfl)).trans ?_
    rw [(rows_eq _ L2).1, (rows_eq _ L2).2, show allN ptN p.p 0 = [] from rfl, List.append_nil]
    exact Gc.refl _ _
  · rintro q t ⟨i, rfl, hi, rfl⟩
    have hpre := allN_len ptN p.p hi
    generalize hM : L2 ++ ([(p.np : Int)] ++ allN ptN p.p i) = M
    have hMl : M.length = L2.length + (1 + (allN ptN p.p i).length) := by rw [← hM]; simp; omega
    refine Sat.of_eq (BP3_eq p M i) ⟨?_⟩
    unfold BP3
    refine ⟨fun h1 => ?_, fun h1 => ?_⟩
    · simp only [decide_eq_true_eq] at h1
      have hlt : i < p.np := by omega
      have hp1 := allN_pre (f := ptN) (g := p.p) hlt
      rw [Int.toNat_natCast, w64_of (n := (i : Int) + 1) (by omega) (by omega)]
      have eI : itsN [.n [(p.p i).ch, (p.p i).w], .x (ExAny (p.p i).wh.n (p.p i).wh.a ∧ ExAny (p.p i).da.n (p.p i).da.a) (xtN (p.p i).wh ++ xtN (p.p i).da)] = ptN (p.p i) := by
        unfold itsN It.l ptN; simp [List.flatMap]
      refine ⟨by omega, rowsT_sat (by rw [eI]; omega) (fun x hx => ?_) ?_⟩
      · simp only [List.mem_cons, List.not_mem_nil, or_false] at hx
        rcases hx with rfl | rfl
        · trivial
        · exact hp.p i hlt
      · rw [eI]
        refine ⟨p.np - (i + 1), _, by omega, ⟨i + 1, rfl, by omega, rfl⟩, ?_⟩
        have e1 : L2 ++ ([(p.np : Int)] ++ allN ptN p.p (i + 1)) = M ++ ptN (p.p i) := by rw [← hM, allN_succ]; simp only [List.append_assoc]
        rw [e1]
        exact Gc.refl _ _
    · simp only [decide_eq_false_iff_not] at h1
      obtain rfl : i = p.np := by omega
      rw [← hM]
      exact ⟨_, ⟨rfl, _, rfl⟩, Gc.refl _ _⟩
  rintro x t ⟨rfl, i3, rfl⟩
  have eF : L2 ++ ([(p.np : Int)] ++ allN ptN p.p p.np) = L ++ prN p := by
    rw [eN, ← hL2, ← hL1]; simp only [List.append_assoc]
  rw [eF]
  refine Sat.of_eq (KP3_eq p L L1 L2 (L ++ prN p) i1 i2 i3) ⟨?_⟩
  generalize L ++ prN p = M
  exact gcA_sound (n0 := 2) (roots := [(.cell (.base 0) 0, 2)]) (keep := [0]) (drop := [1]) (nx := 3) (h := .nil)
      (s' := ⟨[.ok (.tup [])], hpR M, 3, .nil⟩) (by kernel_rfl)
end Go.Proofs.Ytpaejfeojdoikaa.Rm
namespace Go.Sx
def prOf (nm ck : ByteArray) (nr : Nat) (R : Nat → Nat → DV) (nt : Nat) (T : Nat → Nat → DV) (np : Nat) (U : Nat → Nat → DV) : PrT := ⟨nm, ck, nr, fun i => rgOf (R i), nt, fun i => tkOf (T i), np, fun i => ptOf (U i)⟩
def _root_.Go.Proofs.PrIs (nm ck : ByteArray) (nr : Nat) (R : Nat → Nat → DV) (nt : Nat) (T : Nat → Nat → DV) (np : Nat) (U : Nat → Nat → DV) : Prop :=
  ((∀ i j, i < nr → j < 13 → R i j = rgC (rgOf (R i)) j) ∧ (∀ i j, i < nt → j < 9 → T i j = tkC (tkOf (T i)) j) ∧ (∀ i j, i < np → j < 16 → U i j = ptC (ptOf (U i)) j)) ∧ Proofs.PrOK (prOf nm ck nr R nt T np U)
def prC (p : PrT) : Nat → DV
  | 0 => .x (.string p.nm)
  | 1 => .x (.string p.ck)
  | 2 => .ro p.nr 13 fun i j => rgC (p.r i) j
  | 3 => .ro 0 27 fun _ _ => .x undef
  | 4 => .ro p.nt 9 fun i j => tkC (p.t i) j
  | 5 => .ro p.np 16 fun i j => ptC (p.p i) j
  | _ => .x undef
theorem prIs_C {p : PrT} (h : Proofs.PrOK p) : Proofs.PrIs p.nm p.ck p.nr (fun i j => rgC (p.r i) j) p.nt (fun i j => tkC (p.t i) j) p.np (fun i j => ptC (p.p i) j) :=
  ⟨⟨fun _ _ _ _ => rfl, fun _ _ _ _ => rfl, fun _ _ _ _ => rfl⟩, h⟩
structure ChT where
  nm : ByteArray
  w : Int
  cap : Int
  fr : Int
  to : Int
def chC (c : ChT) : Nat → DV
  | 0 => .x (.string c.nm)
  | 1 => .x (.int .i64 c.w)
  | 2 => .x (.int .i64 c.cap)
  | 3 => .x (.int .i64 c.fr)
  | 4 => .x (.int .i64 c.to)
  | _ => .x undef
def chN (c : ChT) : List Int := textL c.nm.data.toList ++ [c.w, c.cap, c.fr, c.to]
structure CiT where
  np : Nat
  p : Nat → PrT
  nc : Nat
  c : Nat → ChT
def ciN (x : CiT) : List Int := [(x.np : Int)] ++ (allN prN x.p x.np ++ ([(x.nc : Int)] ++ allN chN x.c x.nc))
theorem prN_pos (p : PrT) : 1 ≤ (prN p).length := by unfold prN; simp only [List.length_append, List.length_cons]; omega
theorem chN_pos (p : ChT) : 1 ≤ (chN p).length := by unfold chN; simp only [List.length_append, List.length_cons]; omega
end Go.Sx
namespace Go.Proofs.Ytpaejfeojdoikaa.Rm
open Go.Sx
set_option maxRecDepth 100000
noncomputable def nPr : List SV → Tr (List Int) := fun r => match r with
  | [.agg [.d (.x (.string nm)), .d (.x (.string ck)), .d (.ro nr 13 R), .d (.ro 0 27 M), .d (.ro nt 9 T), .d (.ro np 16 U)]] => .need (PrIs nm ck nr R nt T np U) (.ret (prN (prOf nm ck nr R nt T np U)))
  | _ => .fail
noncomputable def mPr : MCtr := mcB selN (appM nPr)
theorem pr_rep {w : World} {μ : Mu} {F : Nat → Prop} {v : Value} {nm ck : ByteArray} {nr : Nat} {R R' M M' : Nat → Nat → Sx.DV} {nt : Nat} {T T' : Nat → Nat → Sx.DV} {np : Nat} {U U' : Nat → Nat → Sx.DV} (hR : ∀ i j, i < nr → j < 13 → R i j = R' i j) (hT : ∀ i j, i < nt → j < 9 → T i j = T' i j) (hU : ∀ i j, i < np → j < 16 → U i j = U' i j)
    (h : Rep w μ F v (.agg [.d (.x (.string nm)), .d (.x (.string ck)), .d (.ro nr 13 R), .d (.ro 0 27 M), .d (.ro nt 9 T), .d (.ro np 16 U)])) : Rep w μ F v (.agg [.d (.x (.string nm)), .d (.x (.string ck)), .d (.ro nr 13 R'), .d (.ro 0 27 M'), .d (.ro nt 9 T'), .d (.ro np 16 U')]) := by
  cases h with
  | agg cs _ hl h =>
    refine .agg cs _ hl fun i hi => ?_
    have h0 := h i hi
    match i, hi with
    | 0, _ => exact h0
    | 1, _ => exact h0
    | 2, _ => exact .d (leD_sound (rep_d h0) ⟨rfl, rfl, fun i j hi hj => by rw [hR i j hi hj]⟩)
    | 3, _ => exact .d (leD_sound (rep_d h0) ⟨rfl, rfl, fun i j hi hj => absurd hi (Nat.not_lt_zero _)⟩)
    | 4, _ => exact .d (leD_sound (rep_d h0) ⟨rfl, rfl, fun i j hi hj => by rw [hT i j hi hj]⟩)
    | 5, _ => exact .d (leD_sound (rep_d h0) ⟨rfl, rfl, fun i j hi hj => by rw [hU i j hi hj]⟩)
theorem reps2 {w : World} {μ : Mu} {F : Nat → Prop} {vs : Array Value} {A B p : SV} (h : ∀ v, Rep w μ F v A → Rep w μ F v B) (hr : Reps w μ F vs [p, A]) : Reps w μ F vs [p, B] := by
  obtain ⟨h1, h2⟩ := hr
  refine ⟨h1, fun i hi => ?_⟩
  have h0 := h2 i hi
  match i, hi with
  | 0, _ => exact h0
  | 1, _ => exact h _ h0
theorem mPr_ok : MuOK Try.prog 123 mPr := mcB_ok (appM_ok CI_ok DI_ok fun r N0 L h1 h2 => by
  unfold nPr at h1
  split at h1
  · rename_i nm ck nr R M nt T np U
    obtain ⟨⟨⟨hR, hT, hU⟩, hp⟩, h1⟩ := h1
    obtain rfl : N0 = prN (prOf nm ck nr R nt T np U) := h1
    exact ⟨_, 200, .nil, fun w μ F vs hv => reps2 (fun v hv => pr_rep hR hT hU hv) hv, pr_sat (p := prOf nm ck nr R nt T np U) hp h2⟩
  · exact h1.elim)
noncomputable def _root_.Go.Sx.dgV (n : Nat) (f : Nat → Nat → Sx.DV) : Int := dgW n (intCell f)
noncomputable def _root_.Go.Sx.dgL (L : List Int) : Int := dgW L.length fun i => L.getD i 0
theorem dgV_cellI (L : List Int) : dgV L.length (cellI L) = dgL L := rfl
def _root_.Go.Proofs.WdOK (n : Nat) (f : Nat → Nat → Sx.DV) : Prop := I64C n f
noncomputable def cWdV : Ctr := fun ss => match ss with
  | [.d (.ro n 1 f)] => .need (WdOK n f) (.ret (u64v (dgV n f)))
  | _ => .fail
theorem cWdV_ok : CtrOK Try.prog 100 cWdV := cWords_ok.mono fun ss r h => by
  unfold cWdV at h
  split at h
  · exact h
  · exact h.elim
theorem wdOK_cellI {L : List Int} (h : L.length ≤ 1000000000) : WdOK L.length (cellI L) := ⟨by omega, fun i hi => rfl⟩
end Go.Proofs.Ytpaejfeojdoikaa.Rm
namespace Go.Proofs.Ytpaejfeojdoikaa.Rm
open Go.Sx
set_option maxRecDepth 100000
noncomputable def muL : FuncId → Option MCtr := fun k => match k with
  | 122 => some mAd
  | 123 => some mPr
  | 124 => some mTx
  | _ => none
theorem muL_ok (k : FuncId) (m : MCtr) (hk : muL k = some m) : MuOK Try.prog k m := by
  unfold muL at hk
  split at hk
  · cases hk; exact mAd_ok
  · cases hk; exact mPr_ok
  · cases hk; exact mTx_ok
  · cases hk
noncomputable def manL : FuncId → Option Ctr := fun k => match k with
  | 100 => some cWdV
  | _ => none
theorem manL_ok (k : Nat) (c : Ctr) (hk : manL k = some c) : CtrOK Try.prog k c ∧ goodF Try.prog k = true := by
  unfold manL at hk
  split at hk
  · cases hk; exact ⟨cWdV_ok, by kernel_rfl⟩
  · cases hk
noncomputable def CLb : Ctx := ctxN Try.prog manL inA 200 .nil 6
theorem CLb_ok : CtxOK Try.prog CLb := ctxN_ok mixed manL_ok 6
noncomputable def CL : Ctx := withMu Try.prog CLb muL
theorem CL_ok : CtxOK Try.prog CL := withMu_ok CLb_ok muL_ok
noncomputable def DL : Dr := drawnL Try.prog CL
theorem DL_ok : DrOK Try.prog CL DL := drawnL_ok CL_ok mixed
noncomputable def ciA (x : CiT) : SV := .agg [.d (.ro x.np 6 fun i j => prC (x.p i) j), .d (.ro x.nc 5 fun i j => chC (x.c i) j)]
noncomputable def tCi (x : CiT) : Tree SV := fnT Try.prog CL DL 200 (fnOf Try.prog 50) (bodyOf Try.prog 50) [ciA x] .nil
theorem LCi_eq (x : CiT) : tCi x = atCode (sub [] (tCi x)) := by kernel_rfl
noncomputable def slC (l : List (Nat × SV)) : List TV := (List.range 51).map fun k => match l.find? (fun e => Nat.beq e.1 k) with | some e => .ok e.2 | none => .unk
noncomputable def stC1 (x : CiT) (n : Nat) (f : Nat → Nat → Sx.DV) (i : Int) : AS := ⟨slC [(1, .ptr 0 0), (3, .ptr 1 0), (14, .d (.ro x.np 6 fun i j => prC (x.p i) j)), (15, iv x.np), (16, iv i)], [some (.cells [.d (.ro x.np 6 fun i j => prC (x.p i) j), .d (.ro x.nc 5 fun i j => chC (x.c i) j)]), some (.cells [.row 4 0 0 n 1]), none, none, some (.row n 1 f)], 5, .nil⟩
noncomputable def bodyC1 : Code := loopN (bodyOf Try.prog 50) 0
noncomputable def itP (p : PrT) : It := .x (PrIs p.nm p.ck p.nr (fun i j => rgC (p.r i) j) p.nt (fun i j => tkC (p.t i) j) p.np (fun i j => ptC (p.p i) j)) (prN p)
noncomputable def BC1 (x : CiT) (L : List Int) (i : Int) : Tree (Ex × AS) :=
  .ite (decide (i < (x.np : Int)))
    (.need (0 ≤ i ∧ i < (x.np : Int)) (rowsT (fun n f => .ret (.normal, stC1 x n f (w64 (i + 1)))) [itP (x.p i.toNat)] L.length (cellI L)))
    (.ret (.exit 0, stC1 x L.length (cellI L) i))
theorem BC1_eq (x : CiT) (L : List Int) (i : Int) : cutT 4 [(.cell (.base 1) 0, 4)] [1, 3, 14, 15, 16] [2, 3] 5 .nil (exec Try.prog CL DL 200 bodyC1 (stC1 x L.length (cellI L) i)) = BC1 x L i := by kernel_rfl
noncomputable def tC2 (x : CiT) (L : List Int) (i : Int) : Tree SV := codeK (sub [] (tCi x)) (.exit 0) (stC1 x L.length (cellI L) i)
noncomputable def KC1 (x : CiT) (L : List Int) (i : Int) : Tree SV := rowsT (fun _ _ => atCode (sub [0] (tC2 x L i))) [.n [(x.nc : Int)]] L.length (cellI L)
theorem KC1_eq (x : CiT) (L : List Int) (i : Int) : tC2 x L i = KC1 x L i := by kernel_rfl
noncomputable def stC2 (x : CiT) (n : Nat) (f : Nat → Nat → Sx.DV) (i : Int) : AS := ⟨slC [(3, .ptr 1 0), (29, .d (.ro x.nc 5 fun i j => chC (x.c i) j)), (30, iv x.nc), (31, iv i)], [none, some (.cells [.row 7 0 0 n 1])] ++ List.replicate 5 none ++ [some (.row n 1 f)], 8, .nil⟩
noncomputable def bodyC2 : Code := loopN (bodyOf Try.prog 50) 1
noncomputable def BC2 (x : CiT) (L : List Int) (i : Int) : Tree (Ex × AS) :=
  .ite (decide (i < (x.nc : Int)))
    (.need (0 ≤ i ∧ i < (x.nc : Int)) (rowsT (fun n f => .ret (.normal, stC2 x n f (w64 (i + 1)))) [.n (textL (x.c i.toNat).nm.data.toList), .n [(x.c i.toNat).w, (x.c i.toNat).cap, (x.c i.toNat).fr, (x.c i.toNat).to]] L.length (cellI L)))
    (.ret (.exit 2, stC2 x L.length (cellI L) i))
theorem BC2_eq (x : CiT) (L : List Int) (i : Int) : cutT 7 [(.cell (.base 1) 0, 7)] [3, 29, 30, 31] [0, 2, 3, 4, 5, 6] 8 .nil (exec Try.prog CL DL 200 bodyC2 (stC2 x L.length (cellI L) i)) = BC2 x L i := by kernel_rfl
noncomputable def KC2_q1 (L : List Int) (i : Nat) (j : Nat) : Sx.DV :=
  DV.x (.int .i64 (List.getD L (0 + i) (0 : Int)))
noncomputable def KC2 (x : CiT) (L1 L : List Int) (i1 i : Int) : Tree SV :=
  .need (0 + List.length L ≤ List.length L) (.need (WdOK (List.length L) (KC2_q1 L)) (.ret (SV.d (DV.x (.int .u64 (dgV (List.length L) (KC2_q1 L)))))))
theorem KC2_eq (x : CiT) (L1 L : List Int) (i1 i : Int) : codeK (sub [0] (tC2 x L1 i1)) (.exit 2) (stC2 x L.length (cellI L) i) = KC2 x L1 L i1 i := by kernel_rfl
end Go.Proofs.Ytpaejfeojdoikaa.Rm
namespace Go.Sx
structure _root_.Go.Proofs.CiOK (x : CiT) : Prop where
  p : ∀ i, i < x.np → Proofs.PrOK (x.p i)
  l : (ciN x).length ≤ 1000000000
end Go.Sx
namespace Go.Proofs.Ytpaejfeojdoikaa.Rm
open Go.Sx
set_option maxRecDepth 100000
theorem ci_sat {x : CiT} (hx : CiOK x) : Sat Try.prog (tCi x) (· = u64v (dgL (ciN x))) := by
  obtain ⟨hp, hL⟩ := hx
  unfold ciN at hL
  simp only [List.length_append, List.length_singleton] at hL
  have g1 := allN_ge x.p prN_pos x.np
  have g2 := allN_ge x.c chN_pos x.nc
  refine Sat.of_eq (LCi_eq x) ⟨?_⟩
  refine code_satS CL_ok DL_ok (n := 200) (n0 := 4) (nx := 5) (roots := [(.cell (.base 1) 0, 4)]) (keep := [1, 3, 14, 15, 16]) (drop := [2, 3]) (h := .nil) (c := codeC (sub [] (tCi x))) (st := codeS (sub [] (tCi x))) (k := codeK (sub [] (tCi x))) (body := bodyC1) (by kernel_rfl) (by kernel_rfl)
    (fun q t => ∃ i : Nat, q = x.np - i ∧ i ≤ x.np ∧ t = stC1 x ([(x.np : Int)] ++ allN prN x.p i).length (cellI ([(x.np : Int)] ++ allN prN x.p i)) i)
    (fun e t => e = .exit 0 ∧ ∃ i, t = stC1 x ([(x.np : Int)] ++ allN prN x.p x.np).length (cellI ([(x.np : Int)] ++ allN prN x.p x.np)) i)
    ⟨_, _, ⟨0, rfl, by omega, rfl⟩, ?_⟩ ?_ ?_
  · exact entA_sound (s' := stC1 x 1 (cellI [(x.np : Int)]) 0) (roots := [(.cell (.base 1) 0, 4)]) (keep := [1, 3, 14, 15, 16]) (drop := [2]) (nx := 5) (h := .nil) (by kernel_rfl)
  · rintro q t ⟨i, rfl, hi, rfl⟩
    have hpre := allN_len prN x.p hi
    generalize hM : [(x.np : Int)] ++ allN prN x.p i = M
    have hMl : M.length = 1 + (allN prN x.p i).length := by rw [← hM]; simp; omega
    refine Sat.of_eq (BC1_eq x M i) ⟨?_⟩
    unfold BC1
    refine ⟨fun h1 => ?_, fun h1 => ?_⟩
    · simp only [decide_eq_true_eq] at h1
      have hlt : i < x.np := by omega
      have hp1 := allN_pre (f := prN) (g := x.p) hlt
      rw [Int.toNat_natCast, w64_of (n := (i : Int) + 1) (by omega) (by omega)]
      have eI : itsN [itP (x.p i)] = prN (x.p i) := by unfold itsN itP It.l; simp [List.flatMap]
      refine ⟨by omega, rowsT_sat (by rw [eI]; omega) (fun y hy => ?_) ?_⟩
      · simp only [List.mem_cons, List.not_mem_nil, or_false] at hy
        subst hy
        exact prIs_C (hp i hlt)
      · rw [eI]
        refine ⟨x.np - (i + 1), _, by omega, ⟨i + 1, rfl, by omega, rfl⟩, ?_⟩
        have e1 : [(x.np : Int)] ++ allN prN x.p (i + 1) = M ++ prN (x.p i) := by rw [← hM, allN_succ]; simp only [List.append_assoc]
        rw [e1]
        exact Gc.refl _ _
    · simp only [decide_eq_false_iff_not] at h1
      obtain rfl : i = x.np := by omega
      rw [← hM]
      exact ⟨_, ⟨rfl, _, rfl⟩, Gc.refl _ _⟩
  rintro e t ⟨rfl, i1, rfl⟩
  generalize hL1 : [(x.np : Int)] ++ allN prN x.p x.np = L1
  have hl1 : L1.length = 1 + (allN prN x.p x.np).length := by rw [← hL1]; simp; omega
  refine Sat.of_eq (KC1_eq x L1 i1) ⟨?_⟩
  unfold KC1
  refine rowsT_sat (by show L1.length + 1 ≤ _; omega) (fun y hy => ?_) ?_
  · simp only [List.mem_cons, List.not_mem_nil, or_false] at hy
    subst hy; trivial
  refine code_satS CL_ok DL_ok (n := 200) (n0 := 7) (nx := 8) (roots := [(.cell (.base 1) 0, 7)]) (keep := [3, 29, 30, 31]) (drop := [0, 2, 3, 4, 5, 6]) (h := .nil) (c := codeC (sub [0] (tC2 x L1 i1))) (st := codeS (sub [0] (tC2 x L1 i1))) (k := codeK (sub [0] (tC2 x L1 i1))) (body := bodyC2) (by kernel_rfl) (by kernel_rfl)
    (fun q t => ∃ i : Nat, q = x.nc - i ∧ i ≤ x.nc ∧ t = stC2 x (L1 ++ ([(x.nc : Int)] ++ allN chN x.c i)).length (cellI (L1 ++ ([(x.nc : Int)] ++ allN chN x.c i))) i)
    (fun e t => e = .exit 2 ∧ ∃ i, t = stC2 x (L1 ++ ([(x.nc : Int)] ++ allN chN x.c x.nc)).length (cellI (L1 ++ ([(x.nc : Int)] ++ allN chN x.c x.nc))) i)
    ⟨_, _, ⟨0, rfl, by omega, rfl⟩, ?_⟩ ?_ ?_
  · refine (entA_sound (s' := stC2 x (rowsN [.n [(x.nc : Int)]] L1.length) (rowsF [.n [(x.nc : Int)]] L1.length (cellI L1)) 0) (roots := [(.cell (.base 1) 0, 7)]) (keep := [3, 29, 30, 31]) (drop := [0, 2, 3, 4, 5]) (nx := 8) (h := .nil) (by kernel_rfl)).trans ?_
    rw [(rows_eq _ L1).1, (rows_eq _ L1).2, show allN chN x.c 0 = [] from rfl, List.append_nil]
    exact Gc.refl _ _
  · rintro q t ⟨i, rfl, hi, rfl⟩
    have hpre := allN_len chN x.c hi
    generalize hM : L1 ++ ([(x.nc : Int)] ++ allN chN x.c i) = M
    have hMl : M.length = L1.length + (1 + (allN chN x.c i).length) := by rw [← hM]; simp; omega
    refine Sat.of_eq (BC2_eq x M i) ⟨?_⟩
    unfold BC2
    refine ⟨fun h1 => ?_, fun h1 => ?_⟩
    · simp only [decide_eq_true_eq] at h1
      have hlt : i < x.nc := by omega
      have hp1 := allN_pre (f := chN) (g := x.c) hlt
      rw [Int.toNat_natCast, w64_of (n := (i : Int) + 1) (by omega) (by omega)]
      have eI : itsN [.n (textL (x.c i).nm.data.toList), .n [(x.c i).w, (x.c i).cap, (x.c i).fr, (x.c i).to]] = chN (x.c i) := by unfold itsN It.l chN; simp [List.flatMap]
      refine ⟨by omega, rowsT_sat (by rw [eI]; omega) (fun y hy => ?_) ?_⟩
      · simp only [List.mem_cons, List.not_mem_nil, or_false] at hy
        rcases hy with rfl | rfl <;> trivial
      · rw [eI]
        refine ⟨x.nc - (i + 1), _, by omega, ⟨i + 1, rfl, by omega, rfl⟩, ?_⟩
        have e1 : L1 ++ ([(x.nc : Int)] ++ allN chN x.c (i + 1)) = M ++ chN (x.c i) := by rw [← hM, allN_succ]; simp only [List.append_assoc]
        rw [e1]
        exact Gc.refl _ _
    · simp only [decide_eq_false_iff_not] at h1
      obtain rfl : i = x.nc := by omega
      rw [← hM]
      exact ⟨_, ⟨rfl, _, rfl⟩, Gc.refl _ _⟩
  rintro e t ⟨rfl, i2, rfl⟩
  have eF : L1 ++ ([(x.nc : Int)] ++ allN chN x.c x.nc) = ciN x := by rw [← hL1]; unfold ciN; simp only [List.append_assoc]
  rw [eF]
  refine Sat.of_eq (KC2_eq x L1 (ciN x) i1 i2) ⟨?_⟩
  unfold KC2
  have eq : KC2_q1 (ciN x) = cellI (ciN x) := by funext i j; unfold KC2_q1 cellI; rw [Nat.zero_add]
  rw [eq, dgV_cellI]
  refine ⟨by omega, wdOK_cellI ?_, rfl⟩
  unfold ciN; simp only [List.length_append, List.length_singleton]; omega
def _root_.Go.Proofs.CiIs (np : Nat) (P : Nat → Nat → Sx.DV) (nc : Nat) (Q : Nat → Nat → Sx.DV) (x : CiT) : Prop :=
  CiOK x ∧ x.np = np ∧ x.nc = nc ∧ (∀ i j, i < np → j < 6 → P i j = prC (x.p i) j) ∧ ∀ i j, i < nc → j < 5 → Q i j = chC (x.c i) j
noncomputable def cCiV (x : CiT) : Ctr := fun ss => match ss with
  | [.agg [.d (.ro np 6 P), .d (.ro nc 5 Q)]] => .need (CiIs np P nc Q x) (.ret (u64v (dgL (ciN x))))
  | _ => .fail
theorem cCiV_ok (x : CiT) : CtrOK Try.prog 50 (cCiV x) := ctrOK_leS CL_ok DL_ok (by kernel_rfl) (by kernel_rfl) fun ss r h => by
  unfold cCiV at h
  split at h
  · rename_i np P nc Q
    obtain ⟨⟨hx, rfl, rfl, hP, hQ⟩, rfl⟩ := h
    refine ⟨[ciA x], 200, .nil, ?_, ci_sat hx⟩
    unfold ciA
    simp only [leSVs, leSV, leD, and_true, true_and]
    exact ⟨hP, hQ⟩
  · exact h.elim
end Go.Proofs.Ytpaejfeojdoikaa.Rm
namespace Go.Proofs.Ytpaejfeojdoikaa.Rm
open Go.Sx
set_option maxRecDepth 100000
noncomputable def hpS (s : Int) (g : Nat → Int) : Heap := [some (.cells [u64v s]), some (.row 2 1 fun i _ => .x (.int .u64 (g i)))]
noncomputable def tSm (s : Int) (g : Nat → Int) : Tree (SV × AS) := inlT Try.prog C00 D00 200 147 [.ptr 0 0, .row 1 0 0 2 1] ⟨[], hpS s g, 2, .nil⟩
theorem LSm_eq (s : Int) (g : Nat → Int) : tSm s g = atCode (sub [] (tSm s g)) := by kernel_rfl
noncomputable def stS (s : Int) (g : Nat → Int) (k : Int) : AS := ⟨[.ok (.ptr 0 0)] ++ List.replicate 6 .unk ++ [.ok (.row 1 0 0 2 1), .ok (iv 2), .ok (iv k)] ++ List.replicate 17 .unk, hpS s g, 2, .nil⟩
noncomputable def bodySm : Code := loopN (bodyOf Try.prog 147) 0
noncomputable def BSm (s : Int) (g : Nat → Int) (k : Int) : Tree (Ex × AS) :=
  .ite (decide (k < 2)) (.need (0 ≤ k ∧ k < 2) (.need (0 + k.toNat < 2) (.need ((0 : Int) ≤ 32) (.ret (.normal, stS (stp s (g (0 + k.toNat))) g (w64 (k + 1))))))) (.ret (.exit 0, stS s g k))
theorem BSm_eq (s : Int) (g : Nat → Int) (k : Int) : cutT 2 [] [0, 7, 8, 9] [] 2 .nil (exec Try.prog C00 D00 200 bodySm (stS s g k)) = BSm s g k := by kernel_rfl
theorem KSm_eq (s : Int) (g : Nat → Int) (s' : Int) (k : Int) : codeK (sub [] (tSm s g)) (.exit 0) (stS s' g k) = .ret (.tup [], stS s' g k) := by kernel_rfl
theorem sm_sat {s : Int} {g : Nat → Int} : Sat Try.prog (tSm s g) fun q => Gc 2 ⟨[.ok q.1], q.2.hp, q.2.next, .nil⟩ ⟨[.ok (.tup [])], [some (.cells [u64v (stp (stp s (g 0)) (g 1))]), none], 2, .nil⟩ := by
  refine Sat.of_eq (LSm_eq s g) ⟨?_⟩
  refine code_satS C00_ok D00_ok (n := 200) (n0 := 2) (nx := 2) (roots := []) (keep := [0, 7, 8, 9]) (drop := []) (h := .nil) (c := codeC (sub [] (tSm s g))) (st := codeS (sub [] (tSm s g))) (k := codeK (sub [] (tSm s g))) (body := bodySm) (by kernel_rfl) (by kernel_rfl)
    (fun q t => (q = 2 ∧ t = stS s g 0) ∨ (q = 1 ∧ t = stS (stp s (g 0)) g 1) ∨ (q = 0 ∧ t = stS (stp (stp s (g 0)) (g 1)) g 2))
    (fun e t => e = .exit 0 ∧ ∃ k, t = stS (stp (stp s (g 0)) (g 1)) g k)
    ⟨_, _, .inl ⟨rfl, rfl⟩, ?_⟩ ?_ ?_
  · exact entA_sound (s' := stS s g 0) (roots := []) (keep := [0, 7, 8, 9]) (drop := []) (nx := 2) (h := .nil) (by kernel_rfl)
  · rintro q t (⟨rfl, rfl⟩ | ⟨rfl, rfl⟩ | ⟨rfl, rfl⟩)
    · refine Sat.of_eq (BSm_eq s g 0) ⟨?_⟩
      exact ⟨fun _ => ⟨by omega, by decide, by omega, 1, _, by omega, .inr (.inl ⟨rfl, rfl⟩), Gc.refl _ _⟩, fun h => by simp at h⟩
    · refine Sat.of_eq (BSm_eq (stp s (g 0)) g 1) ⟨?_⟩
      exact ⟨fun _ => ⟨by omega, by decide, by omega, 0, _, by omega, .inr (.inr ⟨rfl, rfl⟩), Gc.refl _ _⟩, fun h => by simp at h⟩
    · refine Sat.of_eq (BSm_eq (stp (stp s (g 0)) (g 1)) g 2) ⟨?_⟩
      exact ⟨fun h => by simp at h, fun _ => ⟨_, ⟨rfl, _, rfl⟩, Gc.refl _ _⟩⟩
  · rintro e t ⟨rfl, k, rfl⟩
    refine Sat.of_eq (KSm_eq s g _ k) ⟨?_⟩
    exact gcA_sound (n0 := 2) (roots := []) (keep := [0]) (drop := [1]) (nx := 2) (h := .nil) (by kernel_rfl)
noncomputable def smM : MCtr := fun args hp nx => match args, hp, nx with
  | [.ptr 0 0, .row 1 0 0 2 1], [some (.cells [.d (.x (.int .u64 s))]), some (.cells [.d (.x (.int .u64 a)), .d (.x (.int .u64 b))])], 2 => .ret (.tup [], [some (.cells [u64v (stp (stp s a) b)]), none], 2)
  | _, _, _ => .fail
theorem smM_ok : MuOK Try.prog 147 smM := by
  refine muOK_walk C00_ok D00_ok fun args hp nx r hr => ?_
  unfold smM at hr
  split at hr
  · rename_i s a b
    have hr := hr
    subst hr
    refine ⟨_, hpS s fun i => if i = 0 then a else b, 200, .nil, ?_, fun _ _ _ _ h => h, sm_sat (s := s) (g := fun i => if i = 0 then a else b)⟩
    refine ⟨.inr ⟨_, _, rfl, rfl, .refl _⟩, .inr ⟨_, _, rfl, rfl, .cells rfl fun i j hi hj => ?_⟩, trivial⟩
    obtain rfl : j = 0 := by omega
    have : i = 0 ∨ i = 1 := by omega
    rcases this with rfl | rfl <;> rfl
  · exact hr.elim
noncomputable def selS : List SV → Heap → Option (List Nat) := fun args hp => match args with
  | [.ptr l 0, .row l2 _ _ _ _] => some [l, l2]
  | _ => none
noncomputable def mSm : MCtr := mcB selS smM
theorem mSm_ok : MuOK Try.prog 147 mSm := mcB_ok smM_ok
noncomputable def muN : FuncId → Option MCtr := fun k => match k with
  | 147 => some mSm
  | _ => none
theorem muN_ok (k : FuncId) (m : MCtr) (hk : muN k = some m) : MuOK Try.prog k m := by
  unfold muN at hk
  split at hk
  · cases hk; exact mSm_ok
  · cases hk
noncomputable def CNb : Ctx := ctxN Try.prog (fun _ => none) (fun k => k == 147) 200 .nil 6
theorem CNb_ok : CtxOK Try.prog CNb := ctxN_ok mixed (fun k c h => by cases h) 6
noncomputable def CN1 : Ctx := withMu Try.prog CNb muN
theorem CN1_ok : CtxOK Try.prog CN1 := withMu_ok CNb_ok muN_ok
noncomputable def DN1 : Dr := drawnL Try.prog CN1
theorem DN1_ok : DrOK Try.prog CN1 DN1 := drawnL_ok CN1_ok mixed
def _root_.Go.Sx.jnV (a b : Int) : Int := stp (stp 1852793957 a) b
theorem LJn_eq (a b : Int) : fnT Try.prog CN1 DN1 200 (fnOf Try.prog 173) (bodyOf Try.prog 173) [u64v a, u64v b] .nil = .ret (u64v (jnV a b)) := by kernel_rfl
theorem LHf2_eq : fnT Try.prog CN1 DN1 200 (fnOf Try.prog 172) (bodyOf Try.prog 172) [iv 2] .run = .ret (iv 1) := by kernel_rfl
theorem LHf3_eq : fnT Try.prog CN1 DN1 200 (fnOf Try.prog 172) (bodyOf Try.prog 172) [iv 3] .run = .ret (iv 2) := by kernel_rfl
theorem LHf4_eq : fnT Try.prog CN1 DN1 200 (fnOf Try.prog 172) (bodyOf Try.prog 172) [iv 4] .run = .ret (iv 2) := by kernel_rfl
noncomputable def cJn : Ctr := fun ss => match ss with
  | [.d (.x (.int .u64 a)), .d (.x (.int .u64 b))] => .ret (u64v (jnV a b))
  | _ => .fail
theorem cJn_ok : CtrOK Try.prog 173 cJn := ctrOK_S CN1_ok DN1_ok (by kernel_rfl) (by kernel_rfl) fun ss r h => by
  unfold cJn at h
  split at h
  · rename_i a b
    have h := h
    subst h
    exact ⟨200, .nil, Sat.of_eq (LJn_eq a b) ⟨rfl⟩⟩
  · exact h.elim
noncomputable def cHf : Ctr := fun ss => match ss with
  | [.d (.x (.int .i64 2))] => .ret (iv 1)
  | [.d (.x (.int .i64 3))] => .ret (iv 2)
  | [.d (.x (.int .i64 4))] => .ret (iv 2)
  | _ => .fail
theorem cHf_ok : CtrOK Try.prog 172 cHf := ctrOK_S CN1_ok DN1_ok (by kernel_rfl) (by kernel_rfl) fun ss r h => by
  unfold cHf at h
  split at h
  · have h := h
    subst h; exact ⟨200, .run, Sat.of_eq LHf2_eq ⟨rfl⟩⟩
  · have h := h
    subst h; exact ⟨200, .run, Sat.of_eq LHf3_eq ⟨rfl⟩⟩
  · have h := h
    subst h; exact ⟨200, .run, Sat.of_eq LHf4_eq ⟨rfl⟩⟩
  · exact h.elim
end Go.Proofs.Ytpaejfeojdoikaa.Rm
namespace Go.Proofs.Ytpaejfeojdoikaa.Rm
open Go.Sx
set_option maxRecDepth 100000
noncomputable def cWd0 : Ctr := fun ss => match ss with
  | [.d (.x (.slice none 0 0))] => .ret (u64v (dgL []))
  | [.d (.ro n 1 f)] => .need (WdOK n f) (.ret (u64v (dgV n f)))
  | _ => .fail
theorem cWd0_ok : CtrOK Try.prog 100 cWd0 := cWords_ok.mono fun ss r h => by
  unfold cWd0 at h
  split at h
  · have h := h
    subst h
    exact ⟨⟨by omega, fun i hi => absurd hi (Nat.not_lt_zero _)⟩, rfl⟩
  · exact h
  · exact h.elim
def _root_.Go.Proofs.UOK (n : Nat) (c : Nat → Nat → Sx.DV) : Prop := ∀ i, i < n → c i 0 = .x (.int .u64 (numV (c i 0)))
noncomputable def ruV (n : Nat) (g : Nat → Int) : SV := .d (.ro n 1 fun i _ => .x (.int .u64 (g i)))
theorem uOK_le {n : Nat} {c : Nat → Nat → Sx.DV} (h : UOK n c) : leSVs 0 [] [] [.d (.ro n 1 c)] [ruV n fun i => numV (c i 0)] := by
  simp only [leSVs, leSV, ruV, leD, and_true, true_and]
  intro i j hi hj
  obtain rfl : j = 0 := by omega
  exact h i hi
noncomputable def mnO (c2 : Option Ctr) : FuncId → Option Ctr := fun k => match k with
  | 100 => some cWd0
  | 172 => some cHf
  | 173 => some cJn
  | 125 => c2
  | _ => none
theorem mnO_ok {c2 : Option Ctr} (h : ∀ c, c2 = some c → CtrOK Try.prog 125 c) (k : Nat) (c : Ctr) (hk : mnO c2 k = some c) : CtrOK Try.prog k c ∧ goodF Try.prog k = true := by
  unfold mnO at hk
  split at hk
  · cases hk; exact ⟨cWd0_ok, by kernel_rfl⟩
  · cases hk; exact ⟨cHf_ok, by kernel_rfl⟩
  · cases hk; exact ⟨cJn_ok, by kernel_rfl⟩
  · exact ⟨h c hk, by kernel_rfl⟩
  · cases hk
noncomputable def CO (c2 : Option Ctr) : Ctx := ctxN Try.prog (mnO c2) (fun _ => false) 200 .run 6
theorem CO_ok {c2 : Option Ctr} (h : ∀ c, c2 = some c → CtrOK Try.prog 125 c) : CtxOK Try.prog (CO c2) := ctxN_ok mixed (mnO_ok h) 6
noncomputable def DO' (c2 : Option Ctr) : Dr := drawnL Try.prog (CO c2)
theorem DO_ok {c2 : Option Ctr} (h : ∀ c, c2 = some c → CtrOK Try.prog 125 c) : DrOK Try.prog (CO c2) (DO' c2) := drawnL_ok (CO_ok h) mixed
noncomputable def tRt (c2 : Option Ctr) (n : Nat) (g : Nat → Int) : Tree SV := fnT Try.prog (CO c2) (DO' c2) 200 (fnOf Try.prog 125) (bodyOf Try.prog 125) [ruV n g] .run
theorem LRt0_eq (g : Nat → Int) : tRt none 0 g = .ret (u64v (dgL [])) := by kernel_rfl
theorem LRt1_eq (g : Nat → Int) : tRt none 1 g = .ret (u64v (g 0)) := by kernel_rfl
noncomputable def cR1 : Ctr := fun ss => match ss with
  | [.d (.ro 1 1 c)] => .need (UOK 1 c) (.ret (u64v (numV (c 0 0))))
  | _ => .fail
theorem noO : ∀ c : Ctr, (none : Option Ctr) = some c → CtrOK Try.prog 125 c := fun c h => by cases h
theorem someO {d : Ctr} (hd : CtrOK Try.prog 125 d) : ∀ c : Ctr, some d = some c → CtrOK Try.prog 125 c := fun c h => by cases h; exact hd
theorem cR1_ok : CtrOK Try.prog 125 cR1 := ctrOK_leS (CO_ok noO) (DO_ok noO) (by kernel_rfl) (by kernel_rfl) fun ss r h => by
  unfold cR1 at h
  split at h
  · rename_i c
    obtain ⟨h1, rfl⟩ := h
    exact ⟨[ruV 1 fun i => numV (c i 0)], 200, .run, uOK_le h1, Sat.of_eq (LRt1_eq fun i => numV (c i 0)) ⟨rfl⟩⟩
  · exact h.elim
noncomputable def LRt2 (g : Nat → Int) : Tree SV := .need (((0 : Int) ≤ 1 ∧ 1 ≤ 2) ∧ True) (.need (UOK 1 fun i _ => .x (.int .u64 (g (0 + i)))) (.need (True ∧ (0 : Int) ≤ 1 ∧ 1 ≤ 2) (.need (UOK 1 fun i _ => .x (.int .u64 (g (1 + i)))) (.ret (u64v (jnV (g 0) (g 1)))))))
theorem LRt2_eq (g : Nat → Int) : tRt (some cR1) 2 g = LRt2 g := by kernel_rfl
noncomputable def cR2 : Ctr := fun ss => match ss with
  | [.d (.ro 1 1 c)] => .need (UOK 1 c) (.ret (u64v (numV (c 0 0))))
  | [.d (.ro 2 1 c)] => .need (UOK 2 c) (.ret (u64v (jnV (numV (c 0 0)) (numV (c 1 0)))))
  | _ => .fail
theorem cR2_ok : CtrOK Try.prog 125 cR2 := by
  intro ss vs w F r hF hgl hr hev
  unfold cR2 at hev
  split at hev
  · exact cR1_ok _ vs w F r hF hgl hr hev
  · rename_i c
    refine (ctrOK_leS (c := fun s => .need (s = [.d (.ro 2 1 c)] ∧ UOK 2 c) (.ret (u64v (jnV (numV (c 0 0)) (numV (c 1 0)))))) (CO_ok (someO cR1_ok)) (DO_ok (someO cR1_ok)) (by kernel_rfl) (by kernel_rfl) fun ss r h => ?_) _ vs w F r hF hgl hr ⟨⟨rfl, hev.1⟩, hev.2⟩
    obtain ⟨⟨rfl, h1⟩, rfl⟩ := h
    refine ⟨[ruV 2 fun i => numV (c i 0)], 200, .run, uOK_le h1, Sat.of_eq (LRt2_eq fun i => numV (c i 0)) ⟨?_⟩⟩
    exact ⟨⟨⟨by omega, by omega⟩, trivial⟩, fun i hi => rfl, ⟨trivial, by omega, by omega⟩, fun i hi => rfl, rfl⟩
  · exact hev.elim
noncomputable def LRt3 (g : Nat → Int) : Tree SV := .need (((0 : Int) ≤ 2 ∧ 2 ≤ 3) ∧ True) (.need (UOK 2 fun i _ => .x (.int .u64 (g (0 + i)))) (.need (True ∧ (0 : Int) ≤ 2 ∧ 2 ≤ 3) (.need (UOK 1 fun i _ => .x (.int .u64 (g (2 + i)))) (.ret (u64v (jnV (jnV (g 0) (g 1)) (g 2)))))))
theorem LRt3_eq (g : Nat → Int) : tRt (some cR2) 3 g = LRt3 g := by kernel_rfl
noncomputable def LRt4 (g : Nat → Int) : Tree SV := .need (((0 : Int) ≤ 2 ∧ 2 ≤ 4) ∧ True) (.need (UOK 2 fun i _ => .x (.int .u64 (g (0 + i)))) (.need (True ∧ (0 : Int) ≤ 2 ∧ 2 ≤ 4) (.need (UOK 2 fun i _ => .x (.int .u64 (g (2 + i)))) (.ret (u64v (jnV (jnV (g 0) (g 1)) (jnV (g 2) (g 3))))))))
theorem LRt4_eq (g : Nat → Int) : tRt (some cR2) 4 g = LRt4 g := by kernel_rfl
noncomputable def _root_.Go.Sx.rtG (n : Nat) (g : Nat → Int) : Int := match n with
  | 0 => dgL []
  | 1 => g 0
  | 2 => jnV (g 0) (g 1)
  | 3 => jnV (jnV (g 0) (g 1)) (g 2)
  | _ => jnV (jnV (g 0) (g 1)) (jnV (g 2) (g 3))
noncomputable def _root_.Go.Sx.rtV (n : Nat) (c : Nat → Nat → Sx.DV) : Int := rtG n fun i => numV (c i 0)
noncomputable def cRt : Ctr := fun ss => match ss with
  | [.d (.ro n 1 c)] => .need (n ≤ 4 ∧ UOK n c) (.ret (u64v (rtV n c)))
  | _ => .fail
theorem cRt_ok : CtrOK Try.prog 125 cRt := by
  intro ss vs w F r hF hgl hr hev
  unfold cRt at hev
  split at hev
  · rename_i n c
    obtain ⟨⟨hn, hu⟩, hv⟩ := hev
    have one : ∀ {c2 : Option Ctr} (h2 : ∀ c, c2 = some c → CtrOK Try.prog 125 c) (t : Tree SV), tRt c2 n (fun i => numV (c i 0)) = t → Sat Try.prog t (· = u64v (rtV n c)) → Calls Try.prog 125 vs w fun e w' => ∃ v, e = .returned v ∧ Out w emp F [] (fun x => True) [] v r w' := by
      intro c2 h2 t ht hs
      refine (ctrOK_leS (c := fun s => .need (s = [.d (.ro n 1 c)] ∧ UOK n c) (.ret (u64v (rtV n c)))) (CO_ok h2) (DO_ok h2) (by kernel_rfl) (by kernel_rfl) fun ss r h => ?_) _ vs w F r hF hgl hr ⟨⟨rfl, hu⟩, hv⟩
      obtain ⟨⟨rfl, h1⟩, rfl⟩ := h
      exact ⟨[ruV n fun i => numV (c i 0)], 200, .run, uOK_le h1, Sat.of_eq ht hs⟩
    have hn' : n = 0 ∨ n = 1 ∨ n = 2 ∨ n = 3 ∨ n = 4 := by omega
    rcases hn' with rfl | rfl | rfl | rfl | rfl
    · exact one noO _ (LRt0_eq _) ⟨rfl⟩
    · exact one noO _ (LRt1_eq _) ⟨rfl⟩
    · exact one (someO cR1_ok) _ (LRt2_eq _) ⟨⟨⟨⟨by omega, by omega⟩, trivial⟩, fun i hi => rfl, ⟨trivial, by omega, by omega⟩, fun i hi => rfl, rfl⟩⟩
    · exact one (someO cR2_ok) _ (LRt3_eq _) ⟨⟨⟨⟨by omega, by omega⟩, trivial⟩, fun i hi => rfl, ⟨trivial, by omega, by omega⟩, fun i hi => rfl, rfl⟩⟩
    · exact one (someO cR2_ok) _ (LRt4_eq _) ⟨⟨⟨⟨by omega, by omega⟩, trivial⟩, fun i hi => rfl, ⟨trivial, by omega, by omega⟩, fun i hi => rfl, rfl⟩⟩
  · exact hev.elim
end Go.Proofs.Ytpaejfeojdoikaa.Rm
namespace Go.Sx
structure FrT where
  n : Nat
  w : Nat → Int
def fmC (f : FrT) : Nat → DV
  | 0 => .ro f.n 1 fun j _ => .x (.int .u64 (f.w j))
  | _ + 1 => .x undef
def fmN (f : FrT) : List Int := (List.range f.n).map fun j => w64 (f.w j)
end Go.Sx
namespace Go.Proofs.Ytpaejfeojdoikaa.Rm
open Go.Sx
set_option maxRecDepth 100000
noncomputable def muP : FuncId → Option MCtr := fun k => match k with
  | 122 => some mAd
  | _ => none
theorem muP_ok (k : FuncId) (m : MCtr) (hk : muP k = some m) : MuOK Try.prog k m := by
  unfold muP at hk
  split at hk
  · cases hk; exact mAd_ok
  · cases hk
noncomputable def manP : FuncId → Option Ctr := fun k => match k with
  | 100 => some cWd0
  | 125 => some cRt
  | _ => none
theorem manP_ok (k : Nat) (c : Ctr) (hk : manP k = some c) : CtrOK Try.prog k c ∧ goodF Try.prog k = true := by
  unfold manP at hk
  split at hk
  · cases hk; exact ⟨cWd0_ok, by kernel_rfl⟩
  · cases hk; exact ⟨cRt_ok, by kernel_rfl⟩
  · cases hk
noncomputable def CPb : Ctx := ctxN Try.prog manP (fun k => k == 122) 200 .nil 6
theorem CPb_ok : CtxOK Try.prog CPb := ctxN_ok mixed manP_ok 6
noncomputable def CP : Ctx := withMu Try.prog CPb muP
theorem CP_ok : CtxOK Try.prog CP := withMu_ok CPb_ok muP_ok
noncomputable def DP : Dr := drawnL Try.prog CP
theorem DP_ok : DrOK Try.prog CP DP := drawnL_ok CP_ok mixed
noncomputable def fmS (n : Nat) (f : Nat → FrT) : SV := .d (.ro n 1 fun i j => fmC (f i) j)
noncomputable def tFr (n : Nat) (f : Nat → FrT) : Tree SV := fnT Try.prog CP DP 200 (fnOf Try.prog 51) (bodyOf Try.prog 51) [fmS n f] .nil
theorem LFr_eq (n : Nat) (f : Nat → FrT) : tFr n f = atCode (sub [] (tFr n f)) := by kernel_rfl
noncomputable def slF (l : List (Nat × SV)) : List TV := (List.range 35).map fun k => match l.find? (fun e => Nat.beq e.1 k) with | some e => .ok e.2 | none => .unk
noncomputable def cellU (L : List Int) : Nat → Nat → Sx.DV := fun i _ => .x (.int .u64 (L.getD i 0))
noncomputable def stF1 (n : Nat) (f : Nat → FrT) (m : Nat) (c : Nat → Nat → Sx.DV) (i : Int) : AS := ⟨slF [(3, .row 0 0 0 m 1), (9, fmS n f), (10, iv n), (11, iv i)], [some (.row m 1 c)], 1, .nil⟩
noncomputable def bodyF1 : Code := loopN (bodyOf Try.prog 51) 0
noncomputable def bF1 (n : Nat) (f : Nat → FrT) (L : List Int) (i : Int) : Tree (Ex × AS) := cutT 0 [(.slot 3, 0)] [3, 9, 10, 11] [] 1 .nil (exec Try.prog CP DP 200 bodyF1 (stF1 n f L.length (cellU L) i))
noncomputable def wdS (f : FrT) : SV := .d (.ro f.n 1 fun j _ => .x (.int .u64 (f.w j)))
noncomputable def stF2 (n : Nat) (f : Nat → FrT) (m : Nat) (c : Nat → Nat → Sx.DV) (i : Int) (x : FrT) (q : Nat) (d : Nat → Nat → Sx.DV) (j : Int) : AS := ⟨slF [(3, .row 0 0 0 m 1), (6, .ptr 3 0), (9, fmS n f), (10, iv n), (11, iv i), (16, wdS x), (17, iv x.n), (18, iv j)], [some (.row m 1 c), none, none, some (.cells [.row 4 0 0 q 1]), some (.row q 1 d)], 5, .nil⟩
noncomputable def bodyF2 : Code := loopN (bodyOf Try.prog 51) 1
noncomputable def BF2 (n : Nat) (f : Nat → FrT) (L : List Int) (i : Int) (x : FrT) (M : List Int) (j : Int) : Tree (Ex × AS) :=
  .ite (decide (j < (x.n : Int)))
    (.need (0 ≤ j ∧ j < (x.n : Int)) (rowsT (fun q d => .ret (.normal, stF2 n f L.length (cellU L) i x q d (w64 (j + 1)))) [.n [w64 (x.w j.toNat)]] M.length (cellI M)))
    (.ret (.exit 2, stF2 n f L.length (cellU L) i x M.length (cellI M) j))
theorem BF2_eq (n : Nat) (f : Nat → FrT) (L : List Int) (i : Int) (x : FrT) (M : List Int) (j : Int) : cutT 4 [(.cell (.base 3) 0, 4)] [3, 6, 9, 10, 11, 16, 17, 18] [1, 2] 5 .nil (exec Try.prog CP DP 200 bodyF2 (stF2 n f L.length (cellU L) i x M.length (cellI M) j)) = BF2 n f L i x M j := by kernel_rfl
noncomputable def BF1 (n : Nat) (f : Nat → FrT) (L : List Int) (i : Int) : Tree (Ex × AS) :=
  .ite (decide (i < (n : Int))) (.need (0 ≤ i ∧ i < (n : Int)) (atCode (sub [0, 0] (bF1 n f L i)))) (.ret (.exit 0, stF1 n f L.length (cellU L) i))
theorem BF1_eq (n : Nat) (f : Nat → FrT) (L : List Int) (i : Int) : bF1 n f L i = BF1 n f L i := by kernel_rfl
noncomputable def selU (L : List Int) (v : Int) (a b : Nat) : Sx.DV := selD (decide (a < L.length)) (.x (.int .u64 (L.getD (0 + a) 0))) (dsAt [.x (.int .u64 v)] (0 + (0 + (a - L.length)) * 1 + b))
noncomputable def cell0 (M : List Int) : Nat → Nat → Sx.DV := fun i _ => .x (.int .i64 (M.getD (0 + i) 0))
noncomputable def KF2 (n : Nat) (f : Nat → FrT) (L : List Int) (i : Int) (M : List Int) : Tree (Ex × AS) :=
  .need (0 + M.length ≤ M.length) (.need (WdOK M.length (cell0 M)) (.need (0 + L.length ≤ L.length ∧ 1 ≤ 1 ∧ (L.length + 1) * 8 ≤ 140737488355328) (.ret (.normal, stF1 n f (L.length + 1) (selU L (dgV M.length (cell0 M))) (w64 (i + 1))))))
theorem KF2_eq (n : Nat) (f : Nat → FrT) (L : List Int) (i : Int) (x : FrT) (M : List Int) (j : Int) : codeK (sub [0, 0] (bF1 n f L i)) (.exit 2) (stF2 n f L.length (cellU L) i x M.length (cellI M) j) = KF2 n f L i M := by kernel_rfl
noncomputable def KF1_q1 (L : List Int) (i : Nat) (j : Nat) : Sx.DV :=
  DV.x (.int .u64 (List.getD L (0 + i) (0 : Int)))
noncomputable def KF1 (n : Nat) (f : Nat → FrT) (L : List Int) (i : Int) : Tree SV :=
  .need (0 + List.length L ≤ List.length L) (.need (List.length L ≤ 4 ∧ UOK (List.length L) (KF1_q1 L)) (.ret (SV.d (DV.x (.int .u64 (rtV (List.length L) (KF1_q1 L)))))))
theorem KF1_eq (n : Nat) (f : Nat → FrT) (L : List Int) (i : Int) : codeK (sub [] (tFr n f)) (.exit 0) (stF1 n f L.length (cellU L) i) = KF1 n f L i := by kernel_rfl
end Go.Proofs.Ytpaejfeojdoikaa.Rm
namespace Go.Proofs.Ytpaejfeojdoikaa.Rm
open Go.Sx
set_option maxRecDepth 100000
noncomputable def _root_.Go.Sx.dgFr (f : Nat → FrT) (i : Nat) : List Int := (List.range i).map fun k => dgL (fmN (f k))
theorem dgFr_len (f : Nat → FrT) (i : Nat) : (dgFr f i).length = i := by unfold dgFr; simp
theorem dgFr_succ (f : Nat → FrT) (i : Nat) : dgFr f (i + 1) = dgFr f i ++ [dgL (fmN (f i))] := by unfold dgFr; rw [List.range_succ, List.map_append]; rfl
theorem sel_appU (L : List Int) (v : Int) (a : Nat) (h : a < L.length + 1) : selD (decide (a < L.length)) (.x (.int .u64 (L.getD (0 + a) 0))) (dsAt [.x (.int .u64 v)] (0 + (0 + (a - L.length)) * 1 + 0)) = .x (.int .u64 ((L ++ [v]).getD a 0)) := by
  rw [Nat.zero_add, show a - L.length = 0 by omega]
  rcases Nat.lt_or_ge a L.length with h | h
  · simp [selD, h, List.getD_eq_getElem?_getD, List.getElem?_append]; rfl
  · obtain rfl : a = L.length := by omega
    simp [selD, dsAt]
theorem row_appU {L : List Int} {v : Int} {f : Nat → Nat → Sx.DV} (h : ∀ a, a < L.length + 1 → f a 0 = .x (.int .u64 ((L ++ [v]).getD a 0))) : BlkLe (.row (L.length + 1) 1 f) (.row (L ++ [v]).length 1 (cellU (L ++ [v]))) := by
  rw [List.length_append]
  refine .row fun i j hi hj => ?_
  obtain rfl : j = 0 := by omega
  exact h i hi
theorem rtG_congr {n : Nat} {g h : Nat → Int} (hn : n ≤ 4) (e : ∀ i, i < n → g i = h i) : rtG n g = rtG n h := by
  have hn' : n = 0 ∨ n = 1 ∨ n = 2 ∨ n = 3 ∨ n = 4 := by omega
  rcases hn' with rfl | rfl | rfl | rfl | rfl
  · show dgL [] = dgL []; rfl
  · exact e 0 (by omega)
  · show jnV (g 0) (g 1) = jnV (h 0) (h 1)
    rw [e 0 (by omega), e 1 (by omega)]
  · show jnV (jnV (g 0) (g 1)) (g 2) = jnV (jnV (h 0) (h 1)) (h 2)
    rw [e 0 (by omega), e 1 (by omega), e 2 (by omega)]
  · show jnV (jnV (g 0) (g 1)) (jnV (g 2) (g 3)) = jnV (jnV (h 0) (h 1)) (jnV (h 2) (h 3))
    rw [e 0 (by omega), e 1 (by omega), e 2 (by omega), e 3 (by omega)]
theorem fmN_len (f : FrT) : (fmN f).length = f.n := by unfold fmN; simp
theorem f2_sat {n : Nat} {f : Nat → FrT} {L : List Int} {i : Nat} (hL : L.length ≤ 4) (hi : i < n) (hn : n ≤ 4) (hw : (f i).n ≤ 1000000000) :
    Sat Try.prog (bF1 n f L i) fun r => r.1 = .normal ∧ Gc 0 r.2 (stF1 n f (L ++ [dgL (fmN (f i))]).length (cellU (L ++ [dgL (fmN (f i))])) ((i + 1 : Nat) : Int)) := by
  refine Sat.of_eq (BF1_eq n f L i) ⟨?_⟩
  unfold BF1
  refine ⟨fun h1 => ⟨by omega, ?_⟩, fun h1 => ?_⟩
  rotate_left
  · simp only [decide_eq_false_iff_not] at h1; omega
  refine code_satS CP_ok DP_ok (n := 200) (n0 := 4) (nx := 5) (roots := [(.cell (.base 3) 0, 4)]) (keep := [3, 6, 9, 10, 11, 16, 17, 18]) (drop := [1, 2]) (h := .nil) (c := codeC (sub [0, 0] (bF1 n f L i))) (st := codeS (sub [0, 0] (bF1 n f L i))) (k := codeK (sub [0, 0] (bF1 n f L i))) (body := bodyF2) (by kernel_rfl) (by kernel_rfl)
    (fun q t => ∃ j : Nat, q = (f i).n - j ∧ j ≤ (f i).n ∧ t = stF2 n f L.length (cellU L) i (f i) ((fmN (f i)).take j).length (cellI ((fmN (f i)).take j)) j)
    (fun e t => e = .exit 2 ∧ ∃ j, t = stF2 n f L.length (cellU L) i (f i) (fmN (f i)).length (cellI (fmN (f i))) j)
    ⟨_, _, ⟨0, rfl, by omega, rfl⟩, ?_⟩ ?_ ?_
  · refine (entA_sound (s' := ⟨slF [(3, .row 0 0 0 L.length 1), (6, .ptr 3 0), (9, fmS n f), (10, iv n), (11, iv i), (16, wdS (f (i : Int).toNat)), (17, iv (f (i : Int).toNat).n), (18, iv 0)], [some (.row L.length 1 (cellU L)), none, none, some (.cells [.d (.x (.slice none 0 0))])], 4, .nil⟩) (roots := []) (keep := [3, 6, 9, 10, 11, 16, 17, 18]) (drop := [1, 2]) (nx := 4) (h := .nil) (by kernel_rfl)).trans ?_
    rw [Int.toNat_natCast]
    refine gc_sound [] [4] rfl ?_ ?_
    · simp [stF2, slF, leTm, leTV, leSV, leSVs, rn, iv, leD, List.range, List.range.loop, List.find?, fmS, wdS]
    · simp [stF2, leHp, leBlk, leSVs, leSV, rn, iv, leD, srcOf, hget]
  · rintro q t ⟨j, rfl, hj, rfl⟩
    have hl : ((fmN (f i)).take j).length = j := by rw [List.length_take, fmN_len]; omega
    refine Sat.of_eq (BF2_eq n f L i (f i) ((fmN (f i)).take j) j) ⟨?_⟩
    unfold BF2
    refine ⟨fun h2 => ?_, fun h2 => ?_⟩
    · simp only [decide_eq_true_eq] at h2
      rw [Int.toNat_natCast, w64_of (n := (j : Int) + 1) (by omega) (by omega)]
      refine ⟨by omega, rowsT_sat (by rw [hl]; show j + 1 ≤ _; omega) (fun y hy => ?_) ?_⟩
      · simp only [List.mem_cons, List.not_mem_nil, or_false] at hy
        subst hy; trivial
      · have e1 : (fmN (f i)).take j ++ itsN [.n [w64 ((f i).w j)]] = (fmN (f i)).take (j + 1) := by
          rw [List.take_add_one]
          have : (fmN (f i))[j]? = some (w64 ((f i).w j)) := by
            unfold fmN; rw [List.getElem?_map, List.getElem?_range (by omega)]; rfl
          rw [this]; rfl
        rw [e1]
        exact ⟨(f i).n - (j + 1), _, by omega, ⟨j + 1, rfl, by omega, rfl⟩, Gc.refl _ _⟩
    · simp only [decide_eq_false_iff_not] at h2
      obtain rfl : j = (f i).n := by omega
      rw [show (fmN (f i)).take (f i).n = fmN (f i) from List.take_of_length_le (by rw [fmN_len]; exact Nat.le_refl _)]
      exact ⟨_, ⟨rfl, _, rfl⟩, Gc.refl _ _⟩
  · rintro e t ⟨rfl, j, rfl⟩
    refine Sat.of_eq (KF2_eq n f L i (f i) (fmN (f i)) j) ⟨?_⟩
    unfold KF2
    have eq : cell0 (fmN (f i)) = cellI (fmN (f i)) := by funext a b; unfold cell0 cellI; rw [Nat.zero_add]
    rw [eq, dgV_cellI, w64_of (n := (i : Int) + 1) (by omega) (by omega)]
    refine ⟨by omega, wdOK_cellI (by rw [fmN_len]; exact hw), ⟨by omega, by omega, by omega⟩, rfl, ?_⟩
    have ei : ((i + 1 : Nat) : Int) = (i : Int) + 1 := by omega
    rw [ei]
    generalize dgL (fmN (f i)) = v
    unfold stF1
    exact gc_hp (by rw [List.length_append, List.length_singleton]) rfl ⟨.inr ⟨_, _, rfl, rfl, row_appU fun a ha => sel_appU L v a ha⟩, trivial⟩
theorem fr_sat {n : Nat} {f : Nat → FrT} (hn : n ≤ 4) (hw : ∀ i, i < n → (f i).n ≤ 1000000000) : Sat Try.prog (tFr n f) (· = u64v (rtG n fun i => dgL (fmN (f i)))) := by
  refine Sat.of_eq (LFr_eq n f) ⟨?_⟩
  refine code_satS CP_ok DP_ok (n := 200) (n0 := 0) (nx := 1) (roots := [(.slot 3, 0)]) (keep := [3, 9, 10, 11]) (drop := []) (h := .nil) (c := codeC (sub [] (tFr n f))) (st := codeS (sub [] (tFr n f))) (k := codeK (sub [] (tFr n f))) (body := bodyF1) (by kernel_rfl) (by kernel_rfl)
    (fun q t => ∃ i : Nat, q = n - i ∧ i ≤ n ∧ t = stF1 n f (dgFr f i).length (cellU (dgFr f i)) i)
    (fun e t => e = .exit 0 ∧ ∃ i, t = stF1 n f (dgFr f n).length (cellU (dgFr f n)) i)
    ⟨_, _, ⟨0, rfl, by omega, rfl⟩, ?_⟩ ?_ ?_
  · refine (entA_sound (s' := ⟨slF [(3, .d (.x (.slice none 0 0))), (9, fmS n f), (10, iv n), (11, iv 0)], [], 0, .nil⟩) (roots := []) (keep := [3, 9, 10, 11]) (drop := []) (nx := 0) (h := .nil) (by kernel_rfl)).trans ?_
    refine gc_sound [] [0] rfl ?_ ?_
    · simp [stF1, slF, leTm, leTV, leSV, leSVs, rn, iv, leD, List.range, List.range.loop, List.find?, fmS, dgFr]
    · simp [stF1, leHp, leBlk, leSVs, leSV, rn, iv, leD, srcOf, hget, dgFr]
  · rintro q t ⟨i, rfl, hi, rfl⟩
    have hl := dgFr_len f i
    by_cases h1 : i < n
    · have k0 := f2_sat (n := n) (f := f) (L := dgFr f i) (i := i) (by omega) h1 hn (hw i h1)
      rw [← dgFr_succ] at k0
      refine ⟨Tree.sat_mono (fun r hr => ?_) k0.ok⟩
      obtain ⟨ex, st⟩ := r
      obtain ⟨h6, h7⟩ := hr
      obtain rfl : ex = .normal := h6
      exact ⟨n - (i + 1), _, by omega, ⟨i + 1, rfl, by omega, rfl⟩, h7⟩
    · obtain rfl : i = n := by omega
      refine Sat.of_eq (BF1_eq i f (dgFr f i) i) ⟨?_⟩
      unfold BF1
      refine ⟨fun h2 => ?_, fun h2 => ?_⟩
      · simp only [decide_eq_true_eq] at h2; omega
      · exact ⟨_, ⟨rfl, _, rfl⟩, Gc.refl _ _⟩
  · rintro e t ⟨rfl, i, rfl⟩
    refine Sat.of_eq (KF1_eq n f (dgFr f n) i) ⟨?_⟩
    unfold KF1
    have hl := dgFr_len f n
    refine ⟨by omega, ⟨by omega, fun a ha => rfl⟩, ?_⟩
    show SV.d (.x (.int .u64 _)) = u64v _
    unfold u64v
    congr 3
    unfold rtV
    rw [hl]
    refine rtG_congr hn fun a ha => ?_
    unfold KF1_q1 numV
    rw [Nat.zero_add]
    unfold dgFr
    simp [List.getD_eq_getElem?_getD, ha]
end Go.Proofs.Ytpaejfeojdoikaa.Rm
namespace Go.Sx
def fmOf (c : Nat → DV) : FrT := ⟨lenV (c 0), fun j => numV (cellV (c 0) j 0)⟩
def _root_.Go.Proofs.FrD (n : Nat) (F : Nat → Nat → DV) : Prop := n ≤ 4 ∧ ∀ i, i < n → (fmOf (F i)).n ≤ 1000000000 ∧ F i 0 = fmC (fmOf (F i)) 0
noncomputable def fmV (n : Nat) (F : Nat → Nat → DV) : Int := rtG n fun i => dgL (fmN (fmOf (F i)))
structure FsT where
  n : Nat
  f : Nat → FrT
def fsC (x : FsT) : Nat → DV
  | 0 => .ro x.n 1 fun i j => fmC (x.f i) j
  | _ + 1 => .x undef
noncomputable def fsV (x : FsT) : Int := rtG x.n fun i => dgL (fmN (x.f i))
structure _root_.Go.Proofs.FsOK (x : FsT) : Prop where
  n : x.n ≤ 4
  w : ∀ i, i < x.n → (x.f i).n ≤ 1000000000
end Go.Sx
namespace Go.Proofs.Ytpaejfeojdoikaa.Rm
open Go.Sx
set_option maxRecDepth 100000
noncomputable def cFr : Ctr := fun ss => match ss with
  | [.d (.ro n 1 F)] => .need (FrD n F) (.ret (u64v (fmV n F)))
  | _ => .fail
theorem cFr_ok : CtrOK Try.prog 51 cFr := ctrOK_leS CP_ok DP_ok (by kernel_rfl) (by kernel_rfl) fun ss r h => by
  unfold cFr at h
  split at h
  · rename_i n F
    obtain ⟨⟨hn, hF⟩, rfl⟩ := h
    refine ⟨[fmS n fun i => fmOf (F i)], 200, .nil, ?_, fr_sat hn fun i hi => (hF i hi).1⟩
    unfold fmS
    simp only [leSVs, leSV, leD, and_true, true_and]
    intro i j hi hj
    obtain rfl : j = 0 := by omega
    exact (hF i hi).2
  · exact h.elim
noncomputable def manR : FuncId → Option Ctr := fun k => match k with
  | 51 => some cFr
  | _ => none
theorem manR_ok (k : Nat) (c : Ctr) (hk : manR k = some c) : CtrOK Try.prog k c ∧ goodF Try.prog k = true := by
  unfold manR at hk
  split at hk
  · cases hk; exact ⟨cFr_ok, by kernel_rfl⟩
  · cases hk
noncomputable def CRr : Ctx := ctxN Try.prog manR (fun k => k == 127) 200 .nil 6
theorem CRr_ok : CtxOK Try.prog CRr := ctxN_ok mixed manR_ok 6
noncomputable def DRr : Dr := drawnL Try.prog CRr
theorem DRr_ok : DrOK Try.prog CRr DRr := drawnL_ok CRr_ok mixed
noncomputable def ssS (m : Nat) (s : Nat → FsT) : SV := .d (.ro m 1 fun i j => fsC (s i) j)
noncomputable def tEq (n : Nat) (d : Nat → Int) (m : Nat) (s : Nat → FsT) : Tree SV := fnT Try.prog CRr DRr 200 (fnOf Try.prog 126) (bodyOf Try.prog 126) [ruV n d, ssS m s, .fn (.func 127) [] []] .nil
noncomputable def LEq (n : Nat) (d : Nat → Int) (m : Nat) (s : Nat → FsT) : Tree SV :=
  .ite ((↑n : Int) != (↑m : Int)) (.ret (bv false)) (.code (codeC (sub [(1 : Nat)] (tEq n d m s))) (codeS (sub [(1 : Nat)] (tEq n d m s))) (codeK (sub [(1 : Nat)] (tEq n d m s))))
theorem LEq_eq (n : Nat) (d : Nat → Int) (m : Nat) (s : Nat → FsT) : tEq n d m s = LEq n d m s := by kernel_rfl
noncomputable def slE (l : List (Nat × SV)) : List TV := (List.range 32).map fun k => match l.find? (fun e => Nat.beq e.1 k) with | some e => .ok e.2 | none => .unk
noncomputable def stE (n : Nat) (d : Nat → Int) (m : Nat) (s : Nat → FsT) (b : Bool) (i : Int) : AS := ⟨slE [(1, ssS m s), (2, .fn (.func 127) [] []), (6, bv b), (15, ruV n d), (16, iv n), (17, iv i)], [], 0, .nil⟩
noncomputable def bodyEq : Code := loopN (bodyOf Try.prog 126) 0
noncomputable def BEq' (n : Nat) (d : Nat → Int) (m : Nat) (s : Nat → FsT) (b : Bool) (i : Int) : Tree (Ex × AS) :=
  .ite (decide (i < (n : Int)))
    (.need (0 ≤ i ∧ i < (n : Int)) (.need (0 ≤ i ∧ i < (m : Int)) (.need (FrD (s i.toNat).n fun k j => fmC ((s i.toNat).f k) j)
      (.ite (!(d i.toNat == fsV (s i.toNat))) (.ret (.ret, stE n d m s false i)) (.ret (.normal, stE n d m s b (w64 (i + 1))))))))
    (.ret (.exit 0, stE n d m s b i))
theorem BEq_eq (n : Nat) (d : Nat → Int) (m : Nat) (s : Nat → FsT) (b : Bool) (i : Int) : cutT 0 [] [1, 2, 6, 15, 16, 17] [] 0 .nil (exec Try.prog CRr DRr 200 bodyEq (stE n d m s b i)) = BEq' n d m s b i := by kernel_rfl
theorem KEq0_eq (n : Nat) (d : Nat → Int) (m : Nat) (s : Nat → FsT) (b : Bool) (i : Int) : codeK (sub [1] (tEq n d m s)) (.exit 0) (stE n d m s b i) = .ret (bv true) := by kernel_rfl
theorem KEq1_eq (n : Nat) (d : Nat → Int) (m : Nat) (s : Nat → FsT) (b : Bool) (i : Int) : codeK (sub [1] (tEq n d m s)) .ret (stE n d m s b i) = .ret (bv b) := by kernel_rfl
end Go.Proofs.Ytpaejfeojdoikaa.Rm
namespace Go.Sx
noncomputable def eqS (n : Nat) (d : Nat → Int) (m : Nat) (s : Nat → FsT) : Bool := decide (n = m ∧ ∀ i, i < n → d i = fsV (s i))
def fsOf (c : Nat → DV) : FsT := ⟨lenV (c 0), fun i => fmOf (cellV (c 0) i)⟩
def _root_.Go.Proofs.SsD (m : Nat) (F : Nat → Nat → DV) : Prop := ∀ i, i < m → Proofs.FsOK (fsOf (F i)) ∧ F i 0 = fsC (fsOf (F i)) 0
noncomputable def eqFs (n : Nat) (D : Nat → Nat → DV) (m : Nat) (F : Nat → Nat → DV) : Bool := eqS n (fun i => numV (D i 0)) m fun i => fsOf (F i)
def _root_.Go.Proofs.UrD (n : Nat) (D : Nat → Nat → DV) : Prop := n ≤ 1000000000 ∧ ∀ i, i < n → D i 0 = .x (.int .u64 (numV (D i 0)))
def prRd (c : Nat → DV) : PrT := ⟨strV' (c 0), strV' (c 1), lenV (c 2), fun i => rgOf (cellV (c 2) i), lenV (c 4), fun i => tkOf (cellV (c 4) i), lenV (c 5), fun i => ptOf (cellV (c 5) i)⟩
def chRd (c : Nat → DV) : ChT := ⟨strV' (c 0), numV (c 1), numV (c 2), numV (c 3), numV (c 4)⟩
def rdC (np : Nat) (P : Nat → Nat → DV) (nc : Nat) (Q : Nat → Nat → DV) : CiT := ⟨np, fun i => prRd (P i), nc, fun i => chRd (Q i)⟩
def _root_.Go.Proofs.CiD (np : Nat) (P : Nat → Nat → DV) (nc : Nat) (Q : Nat → Nat → DV) : Prop :=
  Proofs.CiOK (rdC np P nc Q) ∧ (∀ i j, i < np → j < 6 → P i j = prC (prRd (P i)) j) ∧ ∀ i j, i < nc → j < 5 → Q i j = chC (chRd (Q i)) j
noncomputable def dgC (np : Nat) (P : Nat → Nat → DV) (nc : Nat) (Q : Nat → Nat → DV) : Int := dgL (ciN (rdC np P nc Q))
end Go.Sx
namespace Go.Proofs.Ytpaejfeojdoikaa.Rm
open Go.Sx
set_option maxRecDepth 100000
theorem eq_sat {n : Nat} {d : Nat → Int} {m : Nat} {s : Nat → FsT} (hn : n ≤ 1000000000) (hs : ∀ i, i < m → FsOK (s i)) : Sat Try.prog (tEq n d m s) (· = bv (eqS n d m s)) := by
  refine Sat.of_eq (LEq_eq n d m s) ⟨?_⟩
  unfold LEq
  refine ⟨fun h => ?_, fun h => ?_⟩
  · rw [bne_iff_ne] at h
    unfold eqS
    rw [decide_eq_false (fun h2 => h (by rw [h2.1]))]
    rfl
  rw [bne_eq_false_iff_eq] at h
  obtain rfl : n = m := by omega
  refine code_satS CRr_ok DRr_ok (n := 200) (n0 := 0) (nx := 0) (roots := []) (keep := [1, 2, 6, 15, 16, 17]) (drop := []) (h := .nil) (c := codeC (sub [1] (tEq n d n s))) (st := codeS (sub [1] (tEq n d n s))) (k := codeK (sub [1] (tEq n d n s))) (body := bodyEq) (by kernel_rfl) (by kernel_rfl)
    (fun q t => ∃ i : Nat, q = n - i ∧ i ≤ n ∧ (∀ k, k < i → d k = fsV (s k)) ∧ t = stE n d n s false i)
    (fun e t => (e = .exit 0 ∧ eqS n d n s = true ∧ ∃ i, t = stE n d n s false i) ∨ (e = .ret ∧ eqS n d n s = false ∧ ∃ i, t = stE n d n s false i))
    ⟨_, _, ⟨0, rfl, by omega, fun k hk => by omega, rfl⟩, ?_⟩ ?_ ?_
  · exact entA_sound (s' := stE n d n s false 0) (roots := []) (keep := [1, 2, 6, 15, 16, 17]) (drop := []) (nx := 0) (h := .nil) (by kernel_rfl)
  · rintro q t ⟨i, rfl, hi, hk, rfl⟩
    refine Sat.of_eq (BEq_eq n d n s false i) ⟨?_⟩
    unfold BEq'
    rw [Int.toNat_natCast]
    refine ⟨fun h1 => ?_, fun h1 => ?_⟩
    · simp only [decide_eq_true_eq] at h1
      have hlt : i < n := by omega
      rw [w64_of (n := (i : Int) + 1) (by omega) (by omega)]
      refine ⟨by omega, by omega, ⟨(hs i hlt).n, fun k hk => ⟨(hs i hlt).w k hk, rfl⟩⟩, fun h2 => ?_, fun h2 => ?_⟩
      · rw [Bool.not_eq_true', beq_eq_false_iff_ne] at h2
        refine ⟨_, .inr ⟨rfl, ?_, _, rfl⟩, Gc.refl _ _⟩
        unfold eqS
        rw [decide_eq_false (fun h3 => h2 (h3.2 i hlt))]
      · rw [Bool.not_eq_false', beq_iff_eq] at h2
        refine ⟨n - (i + 1), _, by omega, ⟨i + 1, rfl, by omega, fun k hk' => ?_, rfl⟩, Gc.refl _ _⟩
        by_cases hki : k = i
        · subst hki; exact h2
        · exact hk k (by omega)
    · simp only [decide_eq_false_iff_not] at h1
      obtain rfl : i = n := by omega
      refine ⟨_, .inl ⟨rfl, ?_, _, rfl⟩, Gc.refl _ _⟩
      unfold eqS
      exact decide_eq_true ⟨rfl, hk⟩
  · rintro e t (⟨rfl, he, i, rfl⟩ | ⟨rfl, he, i, rfl⟩)
    · exact Sat.of_eq (KEq0_eq n d n s false i) ⟨by rw [he]; rfl⟩
    · exact Sat.of_eq (KEq1_eq n d n s false i) ⟨by rw [he]; rfl⟩
noncomputable def cEq : Ctr := fun ss => match ss with
  | [.d (.ro n 1 D), .d (.ro m 1 F), .fn (.func 127) [] []] => .need (UrD n D ∧ SsD m F) (.ret (bv (eqFs n D m F)))
  | _ => .fail
theorem cEq_ok : CtrOK Try.prog 126 cEq := ctrOK_leS CRr_ok DRr_ok (by kernel_rfl) (by kernel_rfl) fun ss r h => by
  unfold cEq at h
  split at h
  · rename_i n D m F
    obtain ⟨⟨⟨hn, hD⟩, hF⟩, rfl⟩ := h
    refine ⟨[ruV n fun i => numV (D i 0), ssS m fun i => fsOf (F i), .fn (.func 127) [] []], 200, .nil, ?_, eq_sat hn fun i hi => (hF i hi).1⟩
    unfold ssS ruV
    simp only [leSVs, leSV, leD, and_true, true_and]
    refine ⟨fun i j hi hj => ?_, fun i j hi hj => ?_⟩
    · obtain rfl : j = 0 := by omega
      exact hD i hi
    · obtain rfl : j = 0 := by omega
      exact (hF i hi).2
  · exact h.elim
noncomputable def cCi : Ctr := fun ss => match ss with
  | [.agg [.d (.ro np 6 P), .d (.ro nc 5 Q)]] => .need (CiD np P nc Q) (.ret (u64v (dgC np P nc Q)))
  | _ => .fail
theorem cCi_ok : CtrOK Try.prog 50 cCi := by
  intro ss vs w F r hF hgl hr hev
  unfold cCi at hev
  split at hev
  · rename_i np P nc Q
    obtain ⟨⟨hx, hP, hQ⟩, hv⟩ := hev
    exact cCiV_ok (rdC np P nc Q) _ vs w F r hF hgl hr ⟨⟨hx, rfl, rfl, hP, hQ⟩, hv⟩
  · exact hev.elim
noncomputable def manS : FuncId → Option Ctr := fun k => match k with
  | 50 => some cCi
  | 126 => some cEq
  | _ => none
theorem manS_ok (k : Nat) (c : Ctr) (hk : manS k = some c) : CtrOK Try.prog k c ∧ goodF Try.prog k = true := by
  unfold manS at hk
  split at hk
  · cases hk; exact ⟨cCi_ok, by kernel_rfl⟩
  · cases hk; exact ⟨cEq_ok, by kernel_rfl⟩
  · cases hk
noncomputable def CS : Ctx := ctxN Try.prog manS (fun _ => false) 200 .nil 6
theorem CS_ok : CtxOK Try.prog CS := ctxN_ok mixed manS_ok 6
noncomputable def DS : Dr := drawnL Try.prog CS
theorem DS_ok : DrOK Try.prog CS DS := drawnL_ok CS_ok mixed
noncomputable def rlS (no prev src cir : Int) (n : Nat) (D : Nat → Nat → Sx.DV) (b0 b1 b2 b3 b4 b5 b6 b7 b8 b9 b10 b11 pn pd tag : Int) : SV := .agg [iv no, u64v prev, u64v src, u64v cir, .d (.ro n 1 D), iv b0, iv b1, iv b2, iv b3, iv b4, iv b5, iv b6, iv b7, iv b8, iv b9, iv b10, iv b11, iv pn, iv pd, u64v tag]
noncomputable def tMt (no prev src cir : Int) (n : Nat) (D : Nat → Nat → Sx.DV) (b0 b1 b2 b3 b4 b5 b6 b7 b8 b9 b10 b11 pn pd tag : Int) (np : Nat) (P : Nat → Nat → Sx.DV) (nc : Nat) (Q : Nat → Nat → Sx.DV) (m : Nat) (F : Nat → Nat → Sx.DV) : Tree SV := fnT Try.prog CS DS 200 (fnOf Try.prog 52) (bodyOf Try.prog 52) [rlS no prev src cir n D b0 b1 b2 b3 b4 b5 b6 b7 b8 b9 b10 b11 pn pd tag, .agg [.d (.ro np 6 P), .d (.ro nc 5 Q)], .d (.ro m 1 F)] .nil
noncomputable def mtB (cir : Int) (n : Nat) (D : Nat → Nat → Sx.DV) (np : Nat) (P : Nat → Nat → Sx.DV) (nc : Nat) (Q : Nat → Nat → Sx.DV) (m : Nat) (F : Nat → Nat → Sx.DV) : Bool := cir == dgC np P nc Q && eqFs n D m F
theorem LMt_eq (no prev src cir : Int) (n : Nat) (D : Nat → Nat → Sx.DV) (b0 b1 b2 b3 b4 b5 b6 b7 b8 b9 b10 b11 pn pd tag : Int) (np : Nat) (P : Nat → Nat → Sx.DV) (nc : Nat) (Q : Nat → Nat → Sx.DV) (m : Nat) (F : Nat → Nat → Sx.DV) :
    tMt no prev src cir n D b0 b1 b2 b3 b4 b5 b6 b7 b8 b9 b10 b11 pn pd tag np P nc Q m F = .need (CiD np P nc Q) (.need ((cir == dgC np P nc Q) = true → UrD n D ∧ SsD m F) (.ret (bv (mtB cir n D np P nc Q m F)))) := by kernel_rfl
noncomputable def cMt : Ctr := fun ss => match ss with
  | [.agg [.d (.x (.int .i64 no)), .d (.x (.int .u64 prev)), .d (.x (.int .u64 src)), .d (.x (.int .u64 cir)), .d (.ro n 1 D), .d (.x (.int .i64 b0)), .d (.x (.int .i64 b1)), .d (.x (.int .i64 b2)), .d (.x (.int .i64 b3)), .d (.x (.int .i64 b4)), .d (.x (.int .i64 b5)), .d (.x (.int .i64 b6)), .d (.x (.int .i64 b7)), .d (.x (.int .i64 b8)), .d (.x (.int .i64 b9)), .d (.x (.int .i64 b10)), .d (.x (.int .i64 b11)), .d (.x (.int .i64 pn)), .d (.x (.int .i64 pd)), .d (.x (.int .u64 tag))],
      .agg [.d (.ro np 6 P), .d (.ro nc 5 Q)], .d (.ro m 1 F)] => .need (CiD np P nc Q ∧ UrD n D ∧ SsD m F) (.ret (bv (mtB cir n D np P nc Q m F)))
  | _ => .fail
theorem cMt_ok : CtrOK Try.prog 52 cMt := ctrOK_S CS_ok DS_ok (by kernel_rfl) (by kernel_rfl) fun ss r h => by
  unfold cMt at h
  split at h
  · rename_i no prev src cir n D b0 b1 b2 b3 b4 b5 b6 b7 b8 b9 b10 b11 pn pd tag np P nc Q m F
    obtain ⟨⟨h1, h2⟩, rfl⟩ := h
    exact ⟨200, .nil, Sat.of_eq (LMt_eq no prev src cir n D b0 b1 b2 b3 b4 b5 b6 b7 b8 b9 b10 b11 pn pd tag np P nc Q m F) ⟨⟨h1, fun _ => h2, rfl⟩⟩⟩
  · exact h.elim
end Go.Proofs.Ytpaejfeojdoikaa.Rm
namespace Go.Sx
abbrev LL1 := List (List Int)
abbrev LL2 := List LL1
def fmT (ws : List Int) : FrT := ⟨ws.length, fun j => ws.getD j 0⟩
def fsT (fs : LL1) : FsT := ⟨fs.length, fun k => fmT (fs.getD k [])⟩
def rowS1 (fs : LL1) : Nat → Nat → DV := fun k j => fmC (fmT (fs.getD k [])) j
def rowS2 (ss : LL2) : Nat → Nat → DV := fun i j => fsC (fsT (ss.getD i [])) j
end Go.Sx
namespace Go.Proofs.Ytpaejfeojdoikaa.Rm
open Go.Sx
set_option maxRecDepth 100000
noncomputable def rwS (a : Nat) (sh : Nat → Int) (b : Nat) (wd : Nat → Int) : SV := .agg [.d (.ro a 1 fun i _ => .x (.int .u8 (sh i))), .d (.ro b 1 fun i _ => .x (.int .u64 (wd i)))]
noncomputable def tSe (a : Nat) (sh : Nat → Int) (b : Nat) (wd : Nat → Int) : Tree SV := fnT Try.prog C00 D00 200 (fnOf Try.prog 49) (bodyOf Try.prog 49) [rwS a sh b wd] .nil
theorem LSe_eq (a : Nat) (sh : Nat → Int) (b : Nat) (wd : Nat → Int) : tSe a sh b wd = atCode (sub [] (tSe a sh b wd)) := by kernel_rfl
noncomputable def slS (l : List (Nat × SV)) : List TV := (List.range 80).map fun k => match l.find? (fun e => Nat.beq e.1 k) with | some e => .ok e.2 | none => .unk
noncomputable def bxS (a : Nat) (sh : Nat → Int) (b : Nat) (wd : Nat → Int) : Option Blk := some (.cells [.d (.ro a 1 fun i _ => .x (.int .u8 (sh i))), .d (.ro b 1 fun i _ => .x (.int .u64 (wd i)))])
noncomputable def stS1 (a : Nat) (sh : Nat → Int) (b : Nat) (wd : Nat → Int) (m : Nat) (c : Nat → Nat → Sx.DV) (n i : Int) : AS := ⟨slS [(1, .ptr 0 0), (3, .row 2 0 0 m 1), (4, iv n), (5, iv i)], [bxS a sh b wd, none, some (.row m 1 c)], 3, .nil⟩
noncomputable def bodyS1 : Code := loopN (bodyOf Try.prog 49) 0
noncomputable def bS1 (a : Nat) (sh : Nat → Int) (b : Nat) (wd : Nat → Int) (ss : LL2) (n i : Int) : Tree (Ex × AS) := cutT 2 [(.slot 3, 2)] [1, 3, 4, 5] [1] 3 .nil (exec Try.prog C00 D00 200 bodyS1 (stS1 a sh b wd ss.length (rowS2 ss) n i))
noncomputable def BS1 (a : Nat) (sh : Nat → Int) (b : Nat) (wd : Nat → Int) (ss : LL2) (n i : Int) : Tree (Ex × AS) :=
  .ite (decide (i < (a : Int)) && decide (i < (4 : Int))) (atCode (sub [0] (bS1 a sh b wd ss n i))) (.ret (.exit 0, stS1 a sh b wd ss.length (rowS2 ss) n i))
theorem BS1_eq (a : Nat) (sh : Nat → Int) (b : Nat) (wd : Nat → Int) (ss : LL2) (n i : Int) : bS1 a sh b wd ss n i = BS1 a sh b wd ss n i := by kernel_rfl
noncomputable def stS2 (a : Nat) (sh : Nat → Int) (b : Nat) (wd : Nat → Int) (ss : LL2) (n i : Int) (m : Nat) (c : Nat → Nat → Sx.DV) (k : Int) : AS := ⟨slS [(1, .ptr 0 0), (3, .row 2 0 0 ss.length 1), (4, iv n), (5, iv i), (6, .row 4 0 0 m 1), (7, iv k)], [bxS a sh b wd, none, some (.row ss.length 1 (rowS2 ss)), none, some (.row m 1 c)], 5, .nil⟩
noncomputable def bodyS2 : Code := loopN (bodyOf Try.prog 49) 1
noncomputable def bS2 (a : Nat) (sh : Nat → Int) (b : Nat) (wd : Nat → Int) (ss : LL2) (n i : Int) (fs : LL1) (k : Int) : Tree (Ex × AS) := cutT 4 [(.slot 6, 4)] [1, 3, 4, 5, 6, 7] [1, 3] 5 .nil (exec Try.prog C00 D00 200 bodyS2 (stS2 a sh b wd ss n i fs.length (rowS1 fs) k))
noncomputable def BS2 (a : Nat) (sh : Nat → Int) (b : Nat) (wd : Nat → Int) (ss : LL2) (n i : Int) (fs : LL1) (k : Int) : Tree (Ex × AS) :=
  .need (0 ≤ i ∧ i < (a : Int)) (.need ((5 : Int) ≠ 0) (.ite (decide (k < w64 (Int.tmod (sh i.toNat) 5))) (atCode (sub [0, 0, 0] (bS2 a sh b wd ss n i fs k))) (.ret (.exit 2, stS2 a sh b wd ss n i fs.length (rowS1 fs) k))))
theorem BS2_eq (a : Nat) (sh : Nat → Int) (b : Nat) (wd : Nat → Int) (ss : LL2) (n i : Int) (fs : LL1) (k : Int) : bS2 a sh b wd ss n i fs k = BS2 a sh b wd ss n i fs k := by kernel_rfl
noncomputable def stS3 (a : Nat) (sh : Nat → Int) (b : Nat) (wd : Nat → Int) (ss : LL2) (n i : Int) (fs : LL1) (k : Int) (m : Nat) (c : Nat → Nat → Sx.DV) (v : Int) : AS := ⟨slS [(1, .ptr 0 0), (3, .row 2 0 0 ss.length 1), (4, iv n), (5, iv i), (6, .row 4 0 0 fs.length 1), (7, iv k), (8, .ptr 5 0), (9, iv v)], [bxS a sh b wd, none, some (.row ss.length 1 (rowS2 ss)), none, some (.row fs.length 1 (rowS1 fs)), some (.cells [.row 7 0 0 m 1]), none, some (.row m 1 c)], 8, .nil⟩
noncomputable def bodyS3 : Code := loopN (bodyOf Try.prog 49) 2
noncomputable def bS3 (a : Nat) (sh : Nat → Int) (b : Nat) (wd : Nat → Int) (ss : LL2) (n i : Int) (fs : LL1) (k : Int) (ws : List Int) (v : Int) : Tree (Ex × AS) := cutT 7 [(.cell (.base 5) 0, 7)] [1, 3, 4, 5, 6, 7, 8, 9] [1, 3, 6] 8 .nil (exec Try.prog C00 D00 200 bodyS3 (stS3 a sh b wd ss n i fs k ws.length (cellU ws) v))
noncomputable def _root_.Go.Sx.cntS (s k : Int) : Int := Int.tmod (w64 (IntKind.wrap .u8 (IntKind.wrap .u8 (Int.tdiv s 5) + IntKind.wrap .u8 k))) 5
noncomputable def BS3 (a : Nat) (sh : Nat → Int) (b : Nat) (wd : Nat → Int) (ss : LL2) (n i : Int) (fs : LL1) (k : Int) (ws : List Int) (v : Int) : Tree (Ex × AS) :=
  .need (0 ≤ i ∧ i < (a : Int)) (.need ((5 : Int) ≠ 0) (.need ((5 : Int) ≠ 0) (.ite (decide (v < cntS (sh i.toNat) k))
    (.ite (decide (n < (b : Int)))
      (.need (0 ≤ n ∧ n < (b : Int)) (.need (0 + ws.length ≤ ws.length ∧ 1 ≤ 1 ∧ (ws.length + 1) * 8 ≤ 140737488355328) (.ret (.normal, stS3 a sh b wd ss (w64 (n + 1)) i fs k (ws.length + 1) (selU ws (wd n.toNat)) (w64 (v + 1))))))
      (.need (0 + ws.length ≤ ws.length ∧ 1 ≤ 1 ∧ (ws.length + 1) * 8 ≤ 140737488355328) (.ret (.normal, stS3 a sh b wd ss (w64 (n + 1)) i fs k (ws.length + 1) (selU ws (IntKind.wrap .u64 n)) (w64 (v + 1))))))
    (.ret (.exit 4, stS3 a sh b wd ss n i fs k ws.length (cellU ws) v)))))
theorem BS3_eq (a : Nat) (sh : Nat → Int) (b : Nat) (wd : Nat → Int) (ss : LL2) (n i : Int) (fs : LL1) (k : Int) (ws : List Int) (v : Int) : bS3 a sh b wd ss n i fs k ws v = BS3 a sh b wd ss n i fs k ws v := by kernel_rfl
noncomputable def selF (fs : LL1) (ws : List Int) (p q : Nat) : Sx.DV := selD (decide (p < fs.length)) (rowS1 fs (0 + p) q) (dsAt [.ro ws.length 1 fun i j => cellU ws (0 + i) j] (0 + (0 + (p - fs.length)) * 1 + q))
theorem KS3_eq (a : Nat) (sh : Nat → Int) (b : Nat) (wd : Nat → Int) (ss : LL2) (n0 n i : Int) (fs : LL1) (k : Int) (ws : List Int) (v : Int) : codeK (sub [0, 0, 0] (bS2 a sh b wd ss n0 i fs k)) (.exit 4) (stS3 a sh b wd ss n i fs k ws.length (cellU ws) v) =
  .need (0 + ws.length ≤ ws.length) (.need (0 + fs.length ≤ fs.length ∧ 1 ≤ 1 ∧ (fs.length + 1) * 24 ≤ 140737488355328) (.ret (.normal, stS2 a sh b wd ss n i (fs.length + 1) (selF fs ws) (w64 (k + 1))))) := by kernel_rfl
noncomputable def selG (ss : LL2) (fs : LL1) (p q : Nat) : Sx.DV := selD (decide (p < ss.length)) (rowS2 ss (0 + p) q) (dsAt [.ro fs.length 1 fun i j => rowS1 fs (0 + i) j] (0 + (0 + (p - ss.length)) * 1 + q))
theorem KS2_eq (a : Nat) (sh : Nat → Int) (b : Nat) (wd : Nat → Int) (ss : LL2) (n0 n i : Int) (fs : LL1) (k : Int) : codeK (sub [0] (bS1 a sh b wd ss n0 i)) (.exit 2) (stS2 a sh b wd ss n i fs.length (rowS1 fs) k) =
  .need (0 + fs.length ≤ fs.length) (.need (0 + ss.length ≤ ss.length ∧ 1 ≤ 1 ∧ (ss.length + 1) * 24 ≤ 140737488355328) (.ret (.normal, stS1 a sh b wd (ss.length + 1) (selG ss fs) n (w64 (i + 1))))) := by kernel_rfl
theorem KS1_eq (a : Nat) (sh : Nat → Int) (b : Nat) (wd : Nat → Int) (ss : LL2) (n i : Int) : codeK (sub [] (tSe a sh b wd)) (.exit 0) (stS1 a sh b wd ss.length (rowS2 ss) n i) =
  .need (0 + ss.length ≤ ss.length) (.ret (.d (.ro ss.length 1 fun i j => rowS2 ss (0 + i) j))) := by kernel_rfl
end Go.Proofs.Ytpaejfeojdoikaa.Rm
namespace Go.Sx
def wG (b : Nat) (wd : Nat → Int) (n : Nat) : Int := if n < b then wd n else (n : Int)
def wsG (b : Nat) (wd : Nat → Int) (n c : Nat) : List Int := (List.range c).map fun j => wG b wd (n + j)
noncomputable def cnS (s : Int) (k : Nat) : Nat := (cntS s k).toNat
noncomputable def fsG (b : Nat) (wd : Nat → Int) (s : Int) (n : Nat) : Nat → LL1 × Nat
  | 0 => ([], n)
  | k + 1 => ((fsG b wd s n k).1 ++ [wsG b wd (fsG b wd s n k).2 (cnS s k)], (fsG b wd s n k).2 + cnS s k)
noncomputable def nfS (s : Int) : Nat := (s % 5).toNat
noncomputable def ssG (b : Nat) (wd : Nat → Int) (sh : Nat → Int) : Nat → LL2 × Nat
  | 0 => ([], 0)
  | i + 1 => ((ssG b wd sh i).1 ++ [(fsG b wd (sh i) (ssG b wd sh i).2 (nfS (sh i))).1], (fsG b wd (sh i) (ssG b wd sh i).2 (nfS (sh i))).2)
theorem wsG_len (b : Nat) (wd : Nat → Int) (n c : Nat) : (wsG b wd n c).length = c := by unfold wsG; simp
theorem wsG_succ (b : Nat) (wd : Nat → Int) (n c : Nat) : wsG b wd n (c + 1) = wsG b wd n c ++ [wG b wd (n + c)] := by unfold wsG; rw [List.range_succ, List.map_append]; rfl
theorem fsG_len (b : Nat) (wd : Nat → Int) (s : Int) (n : Nat) : ∀ k, (fsG b wd s n k).1.length = k
  | 0 => rfl
  | k + 1 => by unfold fsG; rw [List.length_append, fsG_len b wd s n k]; rfl
theorem ssG_len (b : Nat) (wd : Nat → Int) (sh : Nat → Int) : ∀ k, (ssG b wd sh k).1.length = k
  | 0 => rfl
  | k + 1 => by unfold ssG; rw [List.length_append, ssG_len b wd sh k]; rfl
theorem cntS_ok (s : Int) (k : Nat) : 0 ≤ cntS s k ∧ cntS s k ≤ 4 := by
  unfold cntS
  have h : ∀ x : Int, IntKind.wrap .u8 x = x % 256 := fun x => by unfold IntKind.wrap; rfl
  rw [h]
  generalize hy : (IntKind.wrap .u8 (Int.tdiv s 5) + IntKind.wrap .u8 k) % 256 = y
  have h1 : 0 ≤ y ∧ y < 256 := by rw [← hy]; omega
  have h2 : w64 y = y := by
    unfold w64 IntKind.wrap
    simp [IntKind.signed, IntKind.bits]
    omega
  rw [h2, Int.tmod_eq_emod_of_nonneg h1.1]
  omega
theorem cnS_le (s : Int) (k : Nat) : cnS s k ≤ 4 := by unfold cnS; have := cntS_ok s k; omega
theorem nfS_le (s : Int) : nfS s ≤ 4 := by unfold nfS; omega
theorem fsG_nx (b : Nat) (wd : Nat → Int) (s : Int) (n : Nat) : ∀ k, (fsG b wd s n k).2 ≤ n + 4 * k
  | 0 => by show n ≤ _; omega
  | k + 1 => by
    show (fsG b wd s n k).2 + cnS s k ≤ _
    have := fsG_nx b wd s n k
    have := cnS_le s k
    omega
theorem ssG_nx (b : Nat) (wd : Nat → Int) (sh : Nat → Int) : ∀ k, (ssG b wd sh k).2 ≤ 16 * k
  | 0 => by show 0 ≤ _; omega
  | k + 1 => by
    show (fsG b wd (sh k) (ssG b wd sh k).2 (nfS (sh k))).2 ≤ _
    have h1 := ssG_nx b wd sh k
    have h2 := fsG_nx b wd (sh k) (ssG b wd sh k).2 (nfS (sh k))
    have h3 := nfS_le (sh k)
    omega
end Go.Sx
namespace Go.Proofs.Ytpaejfeojdoikaa.Rm
open Go.Sx
set_option maxRecDepth 100000
theorem selF_eq (fs : LL1) (ws : List Int) (p q : Nat) (hp : p < fs.length + 1) (hq : q < 1) : selF fs ws p q = rowS1 (fs ++ [ws]) p q := by
  obtain rfl : q = 0 := by omega
  unfold selF
  rw [selD_eq, Nat.zero_add, show 0 + (0 + (p - fs.length)) * 1 + 0 = 0 by omega]
  by_cases h : p < fs.length
  · rw [decide_eq_true h]
    unfold rowS1
    rw [show (fs ++ [ws]).getD p [] = fs.getD p [] by rw [List.getD_eq_getElem?_getD, List.getElem?_append_left h, ← List.getD_eq_getElem?_getD]]
    rfl
  · obtain rfl : p = fs.length := by omega
    rw [decide_eq_false (by omega)]
    unfold rowS1
    rw [show (fs ++ [ws]).getD fs.length [] = ws by rw [List.getD_eq_getElem?_getD, List.getElem?_append_right (Nat.le_refl _), Nat.sub_self]; rfl]
    show DV.ro ws.length 1 (fun i j => cellU ws (0 + i) j) = DV.ro ws.length 1 fun j _ => .x (.int .u64 (ws.getD j 0))
    congr 1
    funext i j
    unfold cellU
    rw [Nat.zero_add]
theorem selG_eq (ss : LL2) (fs : LL1) (p q : Nat) (hp : p < ss.length + 1) (hq : q < 1) : selG ss fs p q = rowS2 (ss ++ [fs]) p q := by
  obtain rfl : q = 0 := by omega
  unfold selG
  rw [selD_eq, Nat.zero_add, show 0 + (0 + (p - ss.length)) * 1 + 0 = 0 by omega]
  by_cases h : p < ss.length
  · rw [decide_eq_true h]
    unfold rowS2
    rw [show (ss ++ [fs]).getD p [] = ss.getD p [] by rw [List.getD_eq_getElem?_getD, List.getElem?_append_left h, ← List.getD_eq_getElem?_getD]]
    rfl
  · obtain rfl : p = ss.length := by omega
    rw [decide_eq_false (by omega)]
    unfold rowS2
    rw [show (ss ++ [fs]).getD ss.length [] = fs by rw [List.getD_eq_getElem?_getD, List.getElem?_append_right (Nat.le_refl _), Nat.sub_self]; rfl]
    show DV.ro fs.length 1 (fun i j => rowS1 fs (0 + i) j) = DV.ro fs.length 1 fun i j => fmC ((fsT fs).f i) j
    congr 1
    funext i j
    rw [Nat.zero_add]
    rfl
section
variable {a : Nat} {sh : Nat → Int} {b : Nat} {wd : Nat → Int} {ss : LL2} {n i k : Nat} {fs : LL1}
theorem s3_sat (hi : i < a) (hk : k < nfS (sh i)) (hs : 0 ≤ sh i) (hn : n ≤ 1000) (hf : fs.length ≤ 4) :
    Sat Try.prog (bS2 a sh b wd ss n i fs k) fun r => r.1 = .normal ∧ Gc 4 r.2 (stS2 a sh b wd ss ((n + cnS (sh i) k : Nat) : Int) i (fs ++ [wsG b wd n (cnS (sh i) k)]).length (rowS1 (fs ++ [wsG b wd n (cnS (sh i) k)])) ((k + 1 : Nat) : Int)) := by
  have hc := cntS_ok (sh i) k
  have hcn : cntS (sh i) k = (cnS (sh i) k : Int) := by unfold cnS; omega
  have hc4 := cnS_le (sh i) k
  have hk4 := nfS_le (sh i)
  refine Sat.of_eq (BS2_eq a sh b wd ss n i fs k) ⟨?_⟩
  unfold BS2
  rw [Int.toNat_natCast]
  refine ⟨by omega, by omega, fun h1 => ?_, fun h1 => ?_⟩
  rotate_left
  · simp only [decide_eq_false_iff_not] at h1
    rw [Int.tmod_eq_emod_of_nonneg hs, w64_of (by omega) (by omega)] at h1
    unfold nfS at hk; omega
  refine code_satS C00_ok D00_ok (n := 200) (n0 := 7) (nx := 8) (roots := [(.cell (.base 5) 0, 7)]) (keep := [1, 3, 4, 5, 6, 7, 8, 9]) (drop := [1, 3, 6]) (h := .nil) (c := codeC (sub [0, 0, 0] (bS2 a sh b wd ss n i fs k))) (st := codeS (sub [0, 0, 0] (bS2 a sh b wd ss n i fs k))) (k := codeK (sub [0, 0, 0] (bS2 a sh b wd ss n i fs k))) (body := bodyS3) (by kernel_rfl) (by kernel_rfl)
    (fun q t => ∃ v : Nat, q = cnS (sh i) k - v ∧ v ≤ cnS (sh i) k ∧ t = stS3 a sh b wd ss ((n + v : Nat) : Int) i fs k (wsG b wd n v).length (cellU (wsG b wd n v)) v)
    (fun e t => e = .exit 4 ∧ ∃ v, t = stS3 a sh b wd ss ((n + cnS (sh i) k : Nat) : Int) i fs k (wsG b wd n (cnS (sh i) k)).length (cellU (wsG b wd n (cnS (sh i) k))) v)
    ⟨_, _, ⟨0, rfl, by omega, rfl⟩, ?_⟩ ?_ ?_
  · refine (entA_sound (s' := ⟨slS [(1, .ptr 0 0), (3, .row 2 0 0 ss.length 1), (4, iv n), (5, iv i), (6, .row 4 0 0 fs.length 1), (7, iv k), (8, .ptr 5 0), (9, iv 0)], [bxS a sh b wd, none, some (.row ss.length 1 (rowS2 ss)), none, some (.row fs.length 1 (rowS1 fs)), some (.cells [.d (.x (.slice none 0 0))]), none], 7, .nil⟩) (roots := []) (keep := [1, 3, 4, 5, 6, 7, 8, 9]) (drop := [1, 3, 6]) (nx := 7) (h := .nil) (by kernel_rfl)).trans ?_
    refine gc_sound [] [7] rfl ?_ ?_
    · simp [stS3, slS, leTm, leTV, leSV, leSVs, rn, iv, leD, List.range, List.range.loop, List.find?]
    · simp [stS3, bxS, leHp, leBlk, leSVs, leSV, rn, iv, leD, srcOf, hget, wsG]
  · rintro q t ⟨v, rfl, hv, rfl⟩
    have hl := wsG_len b wd n v
    refine Sat.of_eq (BS3_eq a sh b wd ss ((n + v : Nat) : Int) i fs k (wsG b wd n v) v) ⟨?_⟩
    unfold BS3
    rw [Int.toNat_natCast, hcn]
    refine ⟨by omega, by omega, by omega, fun h2 => ?_, fun h2 => ?_⟩
    · simp only [decide_eq_true_eq] at h2
      rw [w64_of (n := ((n + v : Nat) : Int) + 1) (by omega) (by omega), w64_of (n := (v : Int) + 1) (by omega) (by omega)]
      have e1 : ((n + (v + 1) : Nat) : Int) = ((n + v : Nat) : Int) + 1 := by omega
      have e2 : ((v + 1 : Nat) : Int) = (v : Int) + 1 := by omega
      have go : ∀ w : Int, w = wG b wd (n + v) → Gc 7 (stS3 a sh b wd ss (((n + v : Nat) : Int) + 1) i fs k ((wsG b wd n v).length + 1) (selU (wsG b wd n v) w) ((v : Int) + 1)) (stS3 a sh b wd ss ((n + (v + 1) : Nat) : Int) i fs k (wsG b wd n (v + 1)).length (cellU (wsG b wd n (v + 1))) ((v + 1 : Nat) : Int)) := fun w hw => by
        rw [e1, e2, wsG_succ, ← hw]
        generalize wsG b wd n v = M
        unfold stS3
        exact gc_hp rfl rfl ⟨.inr ⟨_, _, rfl, rfl, .refl _⟩, .inl rfl, .inr ⟨_, _, rfl, rfl, .refl _⟩, .inl rfl, .inr ⟨_, _, rfl, rfl, .refl _⟩, .inr ⟨_, _, rfl, by rw [List.length_append, List.length_singleton], .refl _⟩, .inl rfl, .inr ⟨_, _, rfl, rfl, row_appU fun x hx => sel_appU M w x hx⟩, trivial⟩
      refine ⟨fun h3 => ?_, fun h3 => ?_⟩
      · simp only [decide_eq_true_eq] at h3
        refine ⟨by omega, ⟨by omega, by omega, by omega⟩, cnS (sh i) k - (v + 1), _, by omega, ⟨v + 1, rfl, by omega, rfl⟩, go _ ?_⟩
        unfold wG
        rw [Int.toNat_natCast, if_pos (by omega)]
      · simp only [decide_eq_false_iff_not] at h3
        refine ⟨⟨by omega, by omega, by omega⟩, cnS (sh i) k - (v + 1), _, by omega, ⟨v + 1, rfl, by omega, rfl⟩, go _ ?_⟩
        unfold wG
        rw [if_neg (by omega)]
        have : ∀ x : Int, IntKind.wrap .u64 x = x % 18446744073709551616 := fun x => by unfold IntKind.wrap; rfl
        rw [this]; omega
    · simp only [decide_eq_false_iff_not] at h2
      obtain rfl : v = cnS (sh i) k := by omega
      exact ⟨_, ⟨rfl, _, rfl⟩, Gc.refl _ _⟩
  · rintro e t ⟨rfl, v, rfl⟩
    have hl := wsG_len b wd n (cnS (sh i) k)
    refine Sat.of_eq (KS3_eq a sh b wd ss n _ i fs k _ v) ⟨?_⟩
    rw [w64_of (n := (k : Int) + 1) (by omega) (by omega)]
    refine ⟨by omega, ⟨by omega, by omega, by omega⟩, rfl, ?_⟩
    have e2 : ((k + 1 : Nat) : Int) = (k : Int) + 1 := by omega
    rw [e2]
    generalize wsG b wd n (cnS (sh i) k) = M
    unfold stS2
    exact gc_hp (by rw [List.length_append, List.length_singleton]) rfl ⟨.inr ⟨_, _, rfl, rfl, .refl _⟩, .inl rfl, .inr ⟨_, _, rfl, rfl, .refl _⟩, .inl rfl, .inr ⟨_, _, rfl, by rw [List.length_append]; rfl, .row fun x y hx hy => selF_eq fs M x y hx hy⟩, trivial⟩
theorem s2_sat (hi : i < a) (hi4 : i < 4) (hs : 0 ≤ sh i) (hn : n ≤ 500) (hl : ss.length ≤ 4) :
    Sat Try.prog (bS1 a sh b wd ss n i) fun r => r.1 = .normal ∧ Gc 2 r.2 (stS1 a sh b wd (ss ++ [(fsG b wd (sh i) n (nfS (sh i))).1]).length (rowS2 (ss ++ [(fsG b wd (sh i) n (nfS (sh i))).1])) ((fsG b wd (sh i) n (nfS (sh i))).2 : Nat) ((i + 1 : Nat) : Int)) := by
  have hk4 := nfS_le (sh i)
  refine Sat.of_eq (BS1_eq a sh b wd ss n i) ⟨?_⟩
  unfold BS1
  refine ⟨fun h1 => ?_, fun h1 => ?_⟩
  rotate_left
  · simp only [Bool.and_eq_false_iff, decide_eq_false_iff_not] at h1; omega
  refine code_satS C00_ok D00_ok (n := 200) (n0 := 4) (nx := 5) (roots := [(.slot 6, 4)]) (keep := [1, 3, 4, 5, 6, 7]) (drop := [1, 3]) (h := .nil) (c := codeC (sub [0] (bS1 a sh b wd ss n i))) (st := codeS (sub [0] (bS1 a sh b wd ss n i))) (k := codeK (sub [0] (bS1 a sh b wd ss n i))) (body := bodyS2) (by kernel_rfl) (by kernel_rfl)
    (fun q t => ∃ k : Nat, q = nfS (sh i) - k ∧ k ≤ nfS (sh i) ∧ t = stS2 a sh b wd ss ((fsG b wd (sh i) n k).2 : Nat) i (fsG b wd (sh i) n k).1.length (rowS1 (fsG b wd (sh i) n k).1) k)
    (fun e t => e = .exit 2 ∧ ∃ k : Int, t = stS2 a sh b wd ss ((fsG b wd (sh i) n (nfS (sh i))).2 : Nat) i (fsG b wd (sh i) n (nfS (sh i))).1.length (rowS1 (fsG b wd (sh i) n (nfS (sh i))).1) k)
    ⟨_, _, ⟨0, rfl, by omega, rfl⟩, ?_⟩ ?_ ?_
  · refine (entA_sound (s' := ⟨slS [(1, .ptr 0 0), (3, .row 2 0 0 ss.length 1), (4, iv n), (5, iv i), (6, .row 4 0 0 0 1), (7, iv 0)], [bxS a sh b wd, none, some (.row ss.length 1 (rowS2 ss)), none, some (.cells [])], 5, .nil⟩) (roots := [(.slot 6, 4)]) (keep := [1, 3, 4, 5, 6, 7]) (drop := [1]) (nx := 5) (h := .nil) (by kernel_rfl)).trans ?_
    refine gc_hp rfl rfl ⟨.inr ⟨_, _, rfl, rfl, .refl _⟩, .inl rfl, .inr ⟨_, _, rfl, rfl, .refl _⟩, .inl rfl, .inr ⟨_, _, rfl, rfl, .cells rfl fun x y hx hy => absurd hx (Nat.not_lt_zero _)⟩, trivial⟩
  · rintro q t ⟨k, rfl, hk, rfl⟩
    have h5 := fsG_len b wd (sh i) n k
    have h6 := fsG_nx b wd (sh i) n k
    by_cases hlt : k < nfS (sh i)
    · have k0 := s3_sat (b := b) (wd := wd) (ss := ss) (n := (fsG b wd (sh i) n k).2) (fs := (fsG b wd (sh i) n k).1) hi hlt hs (by omega) (by omega)
      refine ⟨Tree.sat_mono (fun r hr => ?_) k0.ok⟩
      obtain ⟨ex, st⟩ := r
      obtain ⟨e6, e7⟩ := hr
      obtain rfl : ex = .normal := e6
      exact ⟨nfS (sh i) - (k + 1), _, by omega, ⟨k + 1, rfl, by omega, rfl⟩, e7⟩
    · obtain rfl : k = nfS (sh i) := by omega
      refine Sat.of_eq (BS2_eq a sh b wd ss _ i _ _) ⟨?_⟩
      unfold BS2
      rw [Int.toNat_natCast]
      refine ⟨by omega, by omega, fun h2 => ?_, fun h2 => ?_⟩
      · simp only [decide_eq_true_eq] at h2
        rw [Int.tmod_eq_emod_of_nonneg hs, w64_of (by omega) (by omega)] at h2
        unfold nfS at h2; omega
      · exact ⟨_, ⟨rfl, _, rfl⟩, Gc.refl _ _⟩
  · rintro e t ⟨rfl, k, rfl⟩
    have h5 := fsG_len b wd (sh i) n (nfS (sh i))
    refine Sat.of_eq (KS2_eq a sh b wd ss n _ i _ k) ⟨?_⟩
    rw [w64_of (n := (i : Int) + 1) (by omega) (by omega)]
    refine ⟨by omega, ⟨by omega, by omega, by omega⟩, rfl, ?_⟩
    have e2 : ((i + 1 : Nat) : Int) = (i : Int) + 1 := by omega
    rw [e2]
    generalize (fsG b wd (sh i) n (nfS (sh i))).1 = M
    unfold stS1
    exact gc_hp (by rw [List.length_append, List.length_singleton]) rfl ⟨.inr ⟨_, _, rfl, rfl, .refl _⟩, .inl rfl, .inr ⟨_, _, rfl, by rw [List.length_append]; rfl, .row fun x y hx hy => selG_eq ss M x y hx hy⟩, trivial⟩
end
noncomputable def _root_.Go.Sx.seV (a : Nat) (sh : Nat → Int) (b : Nat) (wd : Nat → Int) : LL2 := (ssG b wd sh (min a 4)).1
theorem se_sat {a : Nat} {sh : Nat → Int} {b : Nat} {wd : Nat → Int} (hs : ∀ i, i < a → 0 ≤ sh i) : Sat Try.prog (tSe a sh b wd) (· = .d (.ro (seV a sh b wd).length 1 (rowS2 (seV a sh b wd)))) := by
  refine Sat.of_eq (LSe_eq a sh b wd) ⟨?_⟩
  refine code_satS C00_ok D00_ok (n := 200) (n0 := 2) (nx := 3) (roots := [(.slot 3, 2)]) (keep := [1, 3, 4, 5]) (drop := [1]) (h := .nil) (c := codeC (sub [] (tSe a sh b wd))) (st := codeS (sub [] (tSe a sh b wd))) (k := codeK (sub [] (tSe a sh b wd))) (body := bodyS1) (by kernel_rfl) (by kernel_rfl)
    (fun q t => ∃ i : Nat, q = min a 4 - i ∧ i ≤ min a 4 ∧ t = stS1 a sh b wd (ssG b wd sh i).1.length (rowS2 (ssG b wd sh i).1) ((ssG b wd sh i).2 : Nat) i)
    (fun e t => e = .exit 0 ∧ ∃ n i : Int, t = stS1 a sh b wd (seV a sh b wd).length (rowS2 (seV a sh b wd)) n i)
    ⟨_, _, ⟨0, rfl, by omega, rfl⟩, ?_⟩ ?_ ?_
  · refine (entA_sound (s' := ⟨slS [(1, .ptr 0 0), (3, .row 2 0 0 0 1), (4, iv 0), (5, iv 0)], [bxS a sh b wd, none, some (.cells [])], 3, .nil⟩) (roots := [(.slot 3, 2)]) (keep := [1, 3, 4, 5]) (drop := []) (nx := 3) (h := .nil) (by kernel_rfl)).trans ?_
    refine gc_hp rfl rfl ⟨.inr ⟨_, _, rfl, rfl, .refl _⟩, .inl rfl, .inr ⟨_, _, rfl, rfl, .cells rfl fun x y hx hy => absurd hx (Nat.not_lt_zero _)⟩, trivial⟩
  · rintro q t ⟨i, rfl, hi, rfl⟩
    have h5 := ssG_len b wd sh i
    have h6 := ssG_nx b wd sh i
    by_cases hlt : i < min a 4
    · have k0 := s2_sat (a := a) (sh := sh) (b := b) (wd := wd) (ss := (ssG b wd sh i).1) (n := (ssG b wd sh i).2) (i := i) (by omega) (by omega) (hs i (by omega)) (by omega) (by omega)
      have hn : ssG b wd sh (i + 1) = ((ssG b wd sh i).1 ++ [(fsG b wd (sh i) (ssG b wd sh i).2 (nfS (sh i))).1], (fsG b wd (sh i) (ssG b wd sh i).2 (nfS (sh i))).2) := rfl
      show Sat Try.prog (bS1 a sh b wd (ssG b wd sh i).1 ((ssG b wd sh i).2 : Nat) (i : Nat)) _
      have k1 := k0.ok
      refine ⟨?_⟩
      generalize bS1 a sh b wd (ssG b wd sh i).1 ((ssG b wd sh i).2 : Nat) (i : Nat) = T at k1 ⊢
      refine Tree.sat_mono (fun r hr => ?_) k1
      obtain ⟨ex, st⟩ := r
      obtain ⟨e6, e7⟩ := hr
      obtain rfl : ex = .normal := e6
      refine ⟨min a 4 - (i + 1), _, by omega, ⟨i + 1, rfl, by omega, rfl⟩, ?_⟩
      rw [hn]
      exact e7
    · obtain rfl : i = min a 4 := by omega
      refine Sat.of_eq (BS1_eq a sh b wd _ _ _) ⟨?_⟩
      unfold BS1
      refine ⟨fun h2 => ?_, fun h2 => ?_⟩
      · simp only [Bool.and_eq_true, decide_eq_true_eq] at h2; omega
      · have hz : seV a sh b wd = (ssG b wd sh (min a 4)).1 := rfl
        rw [hz]
        generalize (ssG b wd sh (min a 4)) = S
        generalize min a 4 = m
        exact ⟨_, ⟨rfl, _, _, rfl⟩, Gc.refl _ _⟩
  · rintro e t ⟨rfl, n, i, rfl⟩
    refine Sat.of_eq (KS1_eq a sh b wd (seV a sh b wd) n i) ⟨?_⟩
    generalize seV a sh b wd = M
    refine ⟨by omega, ?_⟩
    show SV.d _ = SV.d _
    congr 2
    funext p q
    rw [Nat.zero_add]
end Go.Proofs.Ytpaejfeojdoikaa.Rm
namespace Go.Sx
def _root_.Go.Proofs.RowK (k : IntKind) (n : Nat) (c : Nat → Nat → DV) (v : Nat → Int) : Prop := ∀ i, i < n → c i 0 = .x (.int k (v i))
end Go.Sx
namespace Go.Proofs.Ytpaejfeojdoikaa.Rm
open Go.Sx
set_option maxRecDepth 100000
noncomputable def cSe (sh wd : Nat → Int) : Ctr := fun ss => match ss with
  | [.agg [.d (.ro a 1 S), .d (.ro b 1 W)]] => .need ((∀ i, 0 ≤ sh i) ∧ RowK .u8 a S sh ∧ RowK .u64 b W wd) (.ret (.d (.ro (seV a sh b wd).length 1 (rowS2 (seV a sh b wd)))))
  | _ => .fail
theorem cSe_ok (sh wd : Nat → Int) : CtrOK Try.prog 49 (cSe sh wd) := ctrOK_leS C00_ok D00_ok (by kernel_rfl) (by kernel_rfl) fun ss r h => by
  unfold cSe at h
  split at h
  · rename_i a S b W
    obtain ⟨⟨h0, h1, h2⟩, rfl⟩ := h
    refine ⟨[rwS a sh b wd], 200, .nil, ?_, se_sat fun i _ => h0 i⟩
    unfold rwS
    simp only [leSVs, leSV, leD, and_true, true_and]
    refine ⟨fun i j hi hj => ?_, fun i j hi hj => ?_⟩
    · obtain rfl : j = 0 := by omega
      exact h1 i hi
    · obtain rfl : j = 0 := by omega
      exact h2 i hi
  · exact h.elim
theorem fsG_ok (b : Nat) (wd : Nat → Int) (s : Int) (n : Nat) : ∀ k, ∀ ws ∈ (fsG b wd s n k).1, ws.length ≤ 4
  | 0, ws, h => by cases h
  | k + 1, ws, h => by
    unfold fsG at h
    rcases List.mem_append.1 h with h | h
    · exact fsG_ok b wd s n k ws h
    · obtain rfl := List.mem_singleton.1 h
      rw [wsG_len]; exact cnS_le s k
theorem ssG_ok (b : Nat) (wd sh : Nat → Int) : ∀ k, ∀ fs ∈ (ssG b wd sh k).1, fs.length ≤ 4 ∧ ∀ ws ∈ fs, ws.length ≤ 4
  | 0, fs, h => by cases h
  | k + 1, fs, h => by
    unfold ssG at h
    rcases List.mem_append.1 h with h | h
    · exact ssG_ok b wd sh k fs h
    · obtain rfl := List.mem_singleton.1 h
      exact ⟨by rw [fsG_len]; exact nfS_le _, fsG_ok b wd _ _ _⟩
theorem seV_ok (a : Nat) (sh : Nat → Int) (b : Nat) (wd : Nat → Int) : (seV a sh b wd).length ≤ 4 ∧ ∀ fs ∈ seV a sh b wd, fs.length ≤ 4 ∧ ∀ ws ∈ fs, ws.length ≤ 4 := by
  unfold seV
  exact ⟨by rw [ssG_len]; omega, ssG_ok b wd sh _⟩
end Go.Proofs.Ytpaejfeojdoikaa.Rm
namespace Go.Proofs.Ytpaejfeojdoikaa.Rm
open Go.Sx
set_option maxRecDepth 100000
noncomputable def LBy (n : Nat) (bt : Nat → Int) (p : Int) : Tree SV :=
  .ite (decide (p < (↑n : Int))) (.need ((0 : Int) ≤ p ∧ p < (↑n : Int)) (.ret (iv (w64 (bt (Int.toNat p)))))) (.ret (iv (0 : Int)))
theorem LBy_eq (n : Nat) (bt : Nat → Int) (p : Int) : fnT Try.prog C00 D00 200 (fnOf Try.prog 165) (bodyOf Try.prog 165) [.agg [.d (.ro n 1 fun i _ => .x (.int .u8 (bt i))), iv p]] .nil = LBy n bt p := by kernel_rfl
noncomputable def LOn (n : Nat) (B : Nat → Nat → Sx.DV) (p k : Int) : Tree SV :=
  .ret (SV.agg [SV.d (DV.ro n 1 B), iv (w64 (p + k))])
theorem LOn_eq (n : Nat) (B : Nat → Nat → Sx.DV) (p k : Int) : fnT Try.prog C00 D00 200 (fnOf Try.prog 166) (bodyOf Try.prog 166) [.agg [.d (.ro n 1 B), iv p], iv k] .nil = LOn n B p k := by kernel_rfl
noncomputable def LMk (w : Int) : Tree SV :=
  .ite (decide (w < (0 : Int)) || decide (w > (62 : Int))) (.ret (iv (0 : Int)))
  (.need ((0 : Int) ≤ IntKind.wrap .u64 w) (.ret (iv (w64 (w64 ((1 : Int) * (2 : Int) ^ min (Int.toNat (IntKind.wrap .u64 w)) 64) - (1 : Int))))))
theorem LMk_eq (w : Int) : fnT Try.prog C00 D00 200 (fnOf Try.prog 167) (bodyOf Try.prog 167) [iv w] .nil = LMk w := by kernel_rfl
noncomputable def LCo (v w : Int) : Tree SV :=
  .need ((0 : Int) ≤ IntKind.wrap .u64 w)
  (.ret
   (SV.agg
   [iv (1 : Int), SV.d (DV.x (.string (strB []))),
   iv (w64 (↑(BitVec.toNat (BitVec.ofInt 64 v &&& BitVec.ofInt 64 (w64 (w64 ((1 : Int) * (2 : Int) ^ min (Int.toNat (IntKind.wrap .u64 w)) 64) - (1 : Int))))) : Int)),
   SV.d (DV.x (.string (strB []))), iv w, SV.d (DV.x (.string (strB []))), SV.d (DV.x (.slice none 0 0))]))
theorem LCo_eq (v w : Int) : fnT Try.prog C00 D00 200 (fnOf Try.prog 186) (bodyOf Try.prog 186) [iv v, iv w] .nil = LCo v w := by kernel_rfl
noncomputable def LOe  : Tree SV :=
  .ret (SV.agg [iv (1 : Int), SV.d (DV.x (.string (strB []))), iv (1 : Int), SV.d (DV.x (.string (strB []))), iv (1 : Int), SV.d (DV.x (.string (strB []))), SV.d (DV.x (.slice none 0 0))])
theorem LOe_eq  : fnT Try.prog C00 D00 200 (fnOf Try.prog 178) (bodyOf Try.prog 178) [] .nil = LOe  := by kernel_rfl
end Go.Proofs.Ytpaejfeojdoikaa.Rm
namespace Go.Sx
def lvD (x : Int × Int) : Nat → DV
  | 0 => .x (.int .i64 x.1)
  | 1 => .x (.string (strB []))
  | 2 => .x (.int .i64 x.2)
  | 3 => .x (.string (strB []))
  | 4 => .x (.int .i64 0)
  | 5 => .x (.string (strB []))
  | 6 => .x (.slice none 0 0)
  | _ => .x undef
def lvC (l : List (Int × Int)) : Nat → Nat → DV := fun i j => lvD (l.getD i (0, 0)) j
def lvX (x : Int × Int) : List DV := [.x (.int .i64 x.1), .x (.string (strB [])), .x (.int .i64 x.2), .x (.string (strB [])), .x (.int .i64 0), .x (.string (strB [])), .x (.slice none 0 0)]
noncomputable def selL (l : List (Int × Int)) (x : Int × Int) (p q : Nat) : DV := selD (decide (p < l.length)) (lvC l (0 + p) q) (dsAt (lvX x) (0 + (0 + (p - l.length)) * 7 + q))
theorem selL_eq (l : List (Int × Int)) (x : Int × Int) (p q : Nat) (hp : p < l.length + 1) (hq : q < 7) : selL l x p q = lvC (l ++ [x]) p q := by
  unfold selL
  rw [selD_eq, Nat.zero_add]
  by_cases h : p < l.length
  · rw [decide_eq_true h]
    unfold lvC
    rw [show (l ++ [x]).getD p (0, 0) = l.getD p (0, 0) by rw [List.getD_eq_getElem?_getD, List.getElem?_append_left h, ← List.getD_eq_getElem?_getD]]
    rfl
  · obtain rfl : p = l.length := by omega
    rw [decide_eq_false (by omega), Nat.sub_self]
    unfold lvC
    rw [show (l ++ [x]).getD l.length (0, 0) = x by rw [List.getD_eq_getElem?_getD, List.getElem?_append_right (Nat.le_refl _), Nat.sub_self]; rfl]
    have : q = 0 ∨ q = 1 ∨ q = 2 ∨ q = 3 ∨ q = 4 ∨ q = 5 ∨ q = 6 := by omega
    rcases this with rfl | rfl | rfl | rfl | rfl | rfl | rfl <;> rfl
def lvR (rg : Nat → Int) (w : Int) (op : Int) : Nat → List (Int × Int)
  | 0 => []
  | i + 1 => lvR rg w op i ++ if rg i = w then [(op, (i : Int))] else []
def lvA (nr : Nat) (rg : Nat → Int) (nt : Nat) (tk : Nat → Int) (da : Bool) (w : Int) : List (Int × Int) := lvR rg w 16 nr ++ if da then lvR tk w 18 nt else []
end Go.Sx
namespace Go.Proofs.Ytpaejfeojdoikaa.Rm
open Go.Sx
set_option maxRecDepth 100000
section
variable (nr : Nat) (rg : Nat → Int) (nt : Nat) (tk : Nat → Int) (da : Bool) (w : Int)
noncomputable def scS : SV := .agg [.d (.ro nr 1 fun i _ => .x (.int .i64 (rg i))), .d (.ro nt 1 fun i _ => .x (.int .i64 (tk i))), .d (.x (.slice none 0 0)), bv da]
noncomputable def tLv : Tree SV := fnT Try.prog C00 D00 200 (fnOf Try.prog 185) (bodyOf Try.prog 185) [scS nr rg nt tk da, iv w] .nil
theorem LLv_eq : tLv nr rg nt tk da w = atCode (sub [] (tLv nr rg nt tk da w)) := by kernel_rfl
noncomputable def slL (l : List (Nat × SV)) : List TV := (List.range 54).map fun k => match l.find? (fun e => Nat.beq e.1 k) with | some e => .ok e.2 | none => .unk
noncomputable def bxL : Option Blk := some (.cells [.d (.ro nr 1 fun i _ => .x (.int .i64 (rg i))), .d (.ro nt 1 fun i _ => .x (.int .i64 (tk i))), .d (.x (.slice none 0 0)), bv da])
noncomputable def stL1 (m : Nat) (c : Nat → Nat → Sx.DV) (i : Int) : AS := ⟨slL [(1, iv w), (2, .ptr 0 0), (5, .row 2 0 0 m 7), (6, iv i)], [bxL nr rg nt tk da, none, some (.row m 7 c)], 3, .nil⟩
noncomputable def bodyL1 : Code := loopN (bodyOf Try.prog 185) 0
noncomputable def bL1 (l : List (Int × Int)) (i : Int) : Tree (Ex × AS) := cutT 2 [(.slot 5, 2)] [1, 2, 5, 6] [1] 3 .nil (exec Try.prog C00 D00 200 bodyL1 (stL1 nr rg nt tk da w l.length (lvC l) i))
noncomputable def BL1 (l : List (Int × Int)) (i : Int) : Tree (Ex × AS) :=
  .ite (decide (i < (nr : Int))) (.need (0 ≤ i ∧ i < (nr : Int)) (.ite (rg i.toNat == w)
    (.need (0 + l.length ≤ l.length ∧ 7 ≤ 7 ∧ (l.length + 1) * 96 ≤ 140737488355328) (.ret (.normal, stL1 nr rg nt tk da w (l.length + 1) (selL l (16, i)) (w64 (i + 1)))))
    (.ret (.normal, stL1 nr rg nt tk da w l.length (lvC l) (w64 (i + 1))))))
    (.ret (.exit 0, stL1 nr rg nt tk da w l.length (lvC l) i))
theorem BL1_eq (l : List (Int × Int)) (i : Int) : bL1 nr rg nt tk da w l i = BL1 nr rg nt tk da w l i := by kernel_rfl
noncomputable def stL2 (m : Nat) (c : Nat → Nat → Sx.DV) (i : Int) : AS := ⟨slL [(1, iv w), (2, .ptr 0 0), (5, .row 3 0 0 m 7), (7, iv i)], [bxL nr rg nt tk da, none, none, some (.row m 7 c)], 4, .nil⟩
noncomputable def tL2 (l : List (Int × Int)) (i : Int) : Tree SV := codeK (sub [] (tLv nr rg nt tk da w)) (.exit 0) (stL1 nr rg nt tk da w l.length (lvC l) i)
theorem KL1_eq (l : List (Int × Int)) (i : Int) : tL2 nr rg nt tk da w l i = atCode (sub [] (tL2 nr rg nt tk da w l i)) := by kernel_rfl
noncomputable def bodyL2 : Code := loopN (bodyOf Try.prog 185) 1
noncomputable def bL2 (l : List (Int × Int)) (i : Int) : Tree (Ex × AS) := cutT 3 [(.slot 5, 3)] [1, 2, 5, 7] [2] 4 .nil (exec Try.prog C00 D00 200 bodyL2 (stL2 nr rg nt tk da w l.length (lvC l) i))
noncomputable def BL2 (l : List (Int × Int)) (i : Int) : Tree (Ex × AS) :=
  .ite (decide (i < (nt : Int)) && da) (.need (0 ≤ i ∧ i < (nt : Int)) (.ite (tk i.toNat == w)
    (.need (0 + l.length ≤ l.length ∧ 7 ≤ 7 ∧ (l.length + 1) * 96 ≤ 140737488355328) (.ret (.normal, stL2 nr rg nt tk da w (l.length + 1) (selL l (18, i)) (w64 (i + 1)))))
    (.ret (.normal, stL2 nr rg nt tk da w l.length (lvC l) (w64 (i + 1))))))
    (.ret (.exit 2, stL2 nr rg nt tk da w l.length (lvC l) i))
theorem BL2_eq (l : List (Int × Int)) (i : Int) : bL2 nr rg nt tk da w l i = BL2 nr rg nt tk da w l i := by kernel_rfl
theorem KL2_eq (l0 l : List (Int × Int)) (i0 i : Int) : codeK (sub [] (tL2 nr rg nt tk da w l0 i0)) (.exit 2) (stL2 nr rg nt tk da w l.length (lvC l) i) =
  .need (0 + l.length ≤ l.length) (.ret (.d (.ro l.length 7 fun i j => lvC l (0 + i) j))) := by kernel_rfl
end
end Go.Proofs.Ytpaejfeojdoikaa.Rm
namespace Go.Sx
theorem lvR_len (rg : Nat → Int) (w op : Int) : ∀ n, (lvR rg w op n).length ≤ n
  | 0 => Nat.le_refl _
  | n + 1 => by
    unfold lvR
    rw [List.length_append]
    have := lvR_len rg w op n
    split <;> simp <;> omega
end Go.Sx
namespace Go.Proofs.Ytpaejfeojdoikaa.Rm
open Go.Sx
set_option maxRecDepth 100000
theorem lv_sat {nr : Nat} {rg : Nat → Int} {nt : Nat} {tk : Nat → Int} {da : Bool} {w : Int} (hr : nr ≤ 1000) (ht : nt ≤ 1000) :
    Sat Try.prog (tLv nr rg nt tk da w) (· = .d (.ro (lvA nr rg nt tk da w).length 7 (lvC (lvA nr rg nt tk da w)))) := by
  refine Sat.of_eq (LLv_eq nr rg nt tk da w) ⟨?_⟩
  refine code_satS C00_ok D00_ok (n := 200) (n0 := 2) (nx := 3) (roots := [(.slot 5, 2)]) (keep := [1, 2, 5, 6]) (drop := [1]) (h := .nil) (c := codeC (sub [] (tLv nr rg nt tk da w))) (st := codeS (sub [] (tLv nr rg nt tk da w))) (k := codeK (sub [] (tLv nr rg nt tk da w))) (body := bodyL1) (by kernel_rfl) (by kernel_rfl)
    (fun q t => ∃ i : Nat, q = nr - i ∧ i ≤ nr ∧ t = stL1 nr rg nt tk da w (lvR rg w 16 i).length (lvC (lvR rg w 16 i)) i)
    (fun e t => e = .exit 0 ∧ ∃ i : Int, t = stL1 nr rg nt tk da w (lvR rg w 16 nr).length (lvC (lvR rg w 16 nr)) i)
    ⟨_, _, ⟨0, rfl, by omega, rfl⟩, ?_⟩ ?_ ?_
  · refine (entA_sound (s' := ⟨slL [(1, iv w), (2, .ptr 0 0), (5, .row 2 0 0 0 7), (6, iv 0)], [bxL nr rg nt tk da, none, some (.cells [])], 3, .nil⟩) (roots := [(.slot 5, 2)]) (keep := [1, 2, 5, 6]) (drop := []) (nx := 3) (h := .nil) (by kernel_rfl)).trans ?_
    refine gc_hp rfl rfl ⟨.inr ⟨_, _, rfl, rfl, .refl _⟩, .inl rfl, .inr ⟨_, _, rfl, rfl, .cells rfl fun x y hx hy => absurd hx (Nat.not_lt_zero _)⟩, trivial⟩
  · rintro q t ⟨i, rfl, hi, rfl⟩
    have hl := lvR_len rg w 16 i
    have hs : lvR rg w 16 (i + 1) = lvR rg w 16 i ++ if rg i = w then [(16, (i : Int))] else [] := rfl
    refine Sat.of_eq (BL1_eq nr rg nt tk da w (lvR rg w 16 i) i) ⟨?_⟩
    unfold BL1
    rw [Int.toNat_natCast]
    refine ⟨fun h1 => ?_, fun h1 => ?_⟩
    · simp only [decide_eq_true_eq] at h1
      have hlt : i < nr := by omega
      rw [w64_of (n := (i : Int) + 1) (by omega) (by omega)]
      refine ⟨by omega, fun h2 => ?_, fun h2 => ?_⟩
      · rw [beq_iff_eq] at h2
        rw [if_pos h2] at hs
        refine ⟨by omega, nr - (i + 1), _, by omega, ⟨i + 1, rfl, by omega, rfl⟩, ?_⟩
        rw [hs]
        generalize lvR rg w 16 i = M
        unfold stL1
        exact gc_hp (by rw [List.length_append, List.length_singleton]; rfl) rfl ⟨.inr ⟨_, _, rfl, rfl, .refl _⟩, .inl rfl, .inr ⟨_, _, rfl, by rw [List.length_append]; rfl, .row fun x y hx hy => selL_eq M _ x y hx hy⟩, trivial⟩
      · rw [beq_eq_false_iff_ne] at h2
        rw [if_neg h2, List.append_nil] at hs
        refine ⟨nr - (i + 1), _, by omega, ⟨i + 1, rfl, by omega, rfl⟩, ?_⟩
        rw [hs]
        exact Gc.refl _ _
    · simp only [decide_eq_false_iff_not] at h1
      obtain rfl : i = nr := by omega
      exact ⟨_, ⟨rfl, _, rfl⟩, Gc.refl _ _⟩
  · rintro e t ⟨rfl, i0, rfl⟩
    have hl0 := lvR_len rg w 16 nr
    generalize hM : lvR rg w 16 nr = M at hl0
    refine Sat.of_eq (KL1_eq nr rg nt tk da w M i0) ⟨?_⟩
    refine code_satS C00_ok D00_ok (n := 200) (n0 := 3) (nx := 4) (roots := [(.slot 5, 3)]) (keep := [1, 2, 5, 7]) (drop := [2]) (h := .nil) (c := codeC (sub [] (tL2 nr rg nt tk da w M i0))) (st := codeS (sub [] (tL2 nr rg nt tk da w M i0))) (k := codeK (sub [] (tL2 nr rg nt tk da w M i0))) (body := bodyL2) (by kernel_rfl) (by kernel_rfl)
      (fun q t => ∃ i : Nat, q = nt - i ∧ i ≤ nt ∧ t = stL2 nr rg nt tk da w (M ++ if da then lvR tk w 18 i else []).length (lvC (M ++ if da then lvR tk w 18 i else [])) i)
      (fun e t => e = .exit 2 ∧ ∃ i : Int, t = stL2 nr rg nt tk da w (M ++ if da then lvR tk w 18 nt else []).length (lvC (M ++ if da then lvR tk w 18 nt else [])) i)
      ⟨_, _, ⟨0, rfl, by omega, rfl⟩, ?_⟩ ?_ ?_
    · have h0 : (M ++ if da then lvR tk w 18 0 else []) = M := by cases da <;> simp [lvR]
      rw [h0]
      exact entA_sound (s' := stL2 nr rg nt tk da w M.length (lvC M) 0) (roots := [(.slot 5, 3)]) (keep := [1, 2, 5, 7]) (drop := [2]) (nx := 4) (h := .nil) (by kernel_rfl)
    · rintro q t ⟨i, rfl, hi, rfl⟩
      have hl := lvR_len tk w 18 i
      refine Sat.of_eq (BL2_eq nr rg nt tk da w _ i) ⟨?_⟩
      unfold BL2
      rw [Int.toNat_natCast]
      cases da with
      | false =>
        refine ⟨fun h1 => by simp at h1, fun h1 => ?_⟩
        exact ⟨_, ⟨rfl, _, rfl⟩, Gc.refl _ _⟩
      | true =>
        have hs : (M ++ lvR tk w 18 (i + 1)) = (M ++ lvR tk w 18 i) ++ if tk i = w then [(18, (i : Int))] else [] := by rw [List.append_assoc]; rfl
        simp only [if_true]
        have hl2 : (M ++ lvR tk w 18 i).length ≤ 2000 := by rw [List.length_append]; omega
        refine ⟨fun h1 => ?_, fun h1 => ?_⟩
        · simp only [Bool.and_true, decide_eq_true_eq] at h1
          have hlt : i < nt := by omega
          rw [w64_of (n := (i : Int) + 1) (by omega) (by omega)]
          refine ⟨by omega, fun h2 => ?_, fun h2 => ?_⟩
          · rw [beq_iff_eq] at h2
            rw [if_pos h2] at hs
            refine ⟨by omega, nt - (i + 1), _, by omega, ⟨i + 1, rfl, by omega, rfl⟩, ?_⟩
            rw [hs]
            generalize M ++ lvR tk w 18 i = M
            unfold stL2
            exact gc_hp (by rw [List.length_append, List.length_singleton]; rfl) rfl ⟨.inr ⟨_, _, rfl, rfl, .refl _⟩, .inl rfl, .inl rfl, .inr ⟨_, _, rfl, by rw [List.length_append]; rfl, .row fun x y hx hy => selL_eq M _ x y hx hy⟩, trivial⟩
          · rw [beq_eq_false_iff_ne] at h2
            rw [if_neg h2, List.append_nil] at hs
            refine ⟨nt - (i + 1), _, by omega, ⟨i + 1, rfl, by omega, rfl⟩, ?_⟩
            rw [hs]
            exact Gc.refl _ _
        · simp only [Bool.and_true, decide_eq_false_iff_not] at h1
          obtain rfl : i = nt := by omega
          exact ⟨_, ⟨rfl, _, rfl⟩, Gc.refl _ _⟩
    · rintro e t ⟨rfl, i1, rfl⟩
      have hA : (M ++ if da then lvR tk w 18 nt else []) = lvA nr rg nt tk da w := by rw [← hM]; rfl
      rw [hA]
      refine Sat.of_eq (KL2_eq nr rg nt tk da w M (lvA nr rg nt tk da w) i0 i1) ⟨?_⟩
      generalize lvA nr rg nt tk da w = N
      refine ⟨by omega, ?_⟩
      show SV.d _ = SV.d _
      congr 2
      funext p q
      rw [Nat.zero_add]
end Go.Proofs.Ytpaejfeojdoikaa.Rm
namespace Go.Sx
def _root_.Go.Proofs.BtD (n : Nat) (B : Nat → Nat → DV) : Prop := n ≤ 9223372036854775807 ∧ ∀ i, i < n → B i 0 = .x (.int .u8 (numV (B i 0))) ∧ 0 ≤ numV (B i 0) ∧ numV (B i 0) ≤ 255
def byV (n : Nat) (B : Nat → Nat → DV) (p : Int) : Int := if p < n then numV (B p.toNat 0) else 0
def conK (v w : Int) : Int := w64 (↑(BitVec.toNat (BitVec.ofInt 64 v &&& BitVec.ofInt 64 (w64 (w64 ((1 : Int) * (2 : Int) ^ min (Int.toNat (IntKind.wrap .u64 w)) 64) - (1 : Int))))) : Int)
def mskV (w : Int) : Int := if w < 0 ∨ w > 62 then 0 else w64 (w64 ((1 : Int) * (2 : Int) ^ min (Int.toNat (IntKind.wrap .u64 w)) 64) - (1 : Int))
theorem byV_ok {n : Nat} {B : Nat → Nat → DV} (h : Proofs.BtD n B) {p : Int} (hp : 0 ≤ p) : 0 ≤ byV n B p ∧ byV n B p ≤ 255 := by
  unfold byV
  split
  · exact (h.2 p.toNat (by omega)).2
  · omega
def _root_.Go.Proofs.WiD (n : Nat) (R : Nat → Nat → DV) : Prop := n ≤ 1000 ∧ ∀ i, i < n → R i 0 = .x (.int .i64 (numV (R i 0)))
def lvS (nr : Nat) (R : Nat → Nat → DV) (nt : Nat) (T : Nat → Nat → DV) (da : Bool) (w : Int) : List (Int × Int) := lvA nr (fun i => numV (R i 0)) nt (fun i => numV (T i 0)) da w
end Go.Sx
namespace Go.Proofs.Ytpaejfeojdoikaa.Rm
open Go.Sx
set_option maxRecDepth 100000
noncomputable def cBy : Ctr := fun ss => match ss with
  | [.agg [.d (.ro n 1 B), .d (.x (.int .i64 p))]] => .need (BtD n B ∧ 0 ≤ p) (.ret (iv (byV n B p)))
  | _ => .fail
theorem cBy_ok : CtrOK Try.prog 165 cBy := ctrOK_leS C00_ok D00_ok (by kernel_rfl) (by kernel_rfl) fun ss r h => by
  unfold cBy at h
  split at h
  · rename_i n B p
    obtain ⟨⟨hB, hp⟩, rfl⟩ := h
    refine ⟨[.agg [.d (.ro n 1 fun i _ => .x (.int .u8 (numV (B i 0)))), iv p]], 200, .nil, ?_, Sat.of_eq (LBy_eq n (fun i => numV (B i 0)) p) ⟨?_⟩⟩
    · simp only [leSVs, leSV, leD, and_true, true_and]
      refine ⟨fun i j hi hj => ?_, rfl⟩
      obtain rfl : j = 0 := by omega
      exact (hB.2 i hi).1
    · unfold LBy
      refine ⟨fun h1 => ?_, fun h1 => ?_⟩
      · simp only [decide_eq_true_eq] at h1
        refine ⟨⟨hp, h1⟩, ?_⟩
        have h2 := hB.2 p.toNat (by omega)
        show iv _ = iv _
        unfold byV
        rw [if_pos h1]
        show SV.d _ = SV.d _
        rw [w64_of (n := numV (B p.toNat 0)) (by omega) (by omega)]
      · simp only [decide_eq_false_iff_not] at h1
        show iv _ = iv _
        unfold byV
        rw [if_neg h1]
  · exact h.elim
noncomputable def cOn : Ctr := fun ss => match ss with
  | [.agg [.d (.ro n 1 B), .d (.x (.int .i64 p))], .d (.x (.int .i64 k))] => .need ((0 ≤ p ∧ p ≤ 1000000000) ∧ 0 ≤ k ∧ k ≤ 1000) (.ret (.agg [.d (.ro n 1 B), iv (p + k)]))
  | _ => .fail
theorem cOn_ok : CtrOK Try.prog 166 cOn := ctrOK_S C00_ok D00_ok (by kernel_rfl) (by kernel_rfl) fun ss r h => by
  unfold cOn at h
  split at h
  · rename_i n B p k
    obtain ⟨⟨⟨h1, h2⟩, h3, h4⟩, rfl⟩ := h
    refine ⟨200, .nil, Sat.of_eq (LOn_eq n B p k) ⟨?_⟩⟩
    unfold LOn
    rw [w64_of (by omega) (by omega)]
    rfl
  · exact h.elim
noncomputable def cMk : Ctr := fun ss => match ss with
  | [.d (.x (.int .i64 w))] => .ret (iv (mskV w))
  | _ => .fail
theorem cMk_ok : CtrOK Try.prog 167 cMk := ctrOK_S C00_ok D00_ok (by kernel_rfl) (by kernel_rfl) fun ss r h => by
  unfold cMk at h
  split at h
  · rename_i w
    obtain rfl := h
    refine ⟨200, .nil, Sat.of_eq (LMk_eq w) ⟨?_⟩⟩
    unfold LMk
    refine ⟨fun h1 => ?_, fun h1 => ?_⟩
    · simp only [Bool.or_eq_true, decide_eq_true_eq] at h1
      show iv _ = iv _
      unfold mskV
      rw [if_pos h1]
    · simp only [Bool.or_eq_false_iff, decide_eq_false_iff_not] at h1
      refine ⟨?_, ?_⟩
      · have : IntKind.wrap .u64 w = w % 18446744073709551616 := by unfold IntKind.wrap; rfl
        rw [this]; omega
      · show iv _ = iv _
        unfold mskV
        rw [if_neg (by omega)]
  · exact h.elim
def _root_.Go.Sx.noC : Nat → Nat → Sx.DV := fun _ _ => .x undef
noncomputable def cCo : Ctr := fun ss => match ss with
  | [.d (.x (.int .i64 v)), .d (.x (.int .i64 w))] => .ret (.agg [iv 1, .d (.x (.string (strB []))), iv (conK v w), .d (.x (.string (strB []))), iv w, .d (.x (.string (strB []))), .d (.ro 0 7 noC)])
  | _ => .fail
theorem cCo_ok : CtrOK Try.prog 186 cCo := ctrOK_leR C00_ok D00_ok (by kernel_rfl) (by kernel_rfl) fun ss r h => by
  unfold cCo at h
  split at h
  · rename_i v w
    obtain rfl := h
    refine ⟨[iv v, iv w], 200, .nil, ⟨rfl, rfl, rfl⟩, Sat.of_eq (LCo_eq v w) ⟨?_⟩⟩
    unfold LCo
    refine ⟨?_, ?_⟩
    · have : IntKind.wrap .u64 w = w % 18446744073709551616 := by unfold IntKind.wrap; rfl
      rw [this]; omega
    · exact ⟨rfl, rfl, rfl, rfl, rfl, rfl, ⟨rfl, rfl⟩, rfl⟩
  · exact h.elim
noncomputable def cOe : Ctr := fun ss => match ss with
  | [] => .ret (.agg [iv 1, .d (.x (.string (strB []))), iv 1, .d (.x (.string (strB []))), iv 1, .d (.x (.string (strB []))), .d (.ro 0 7 noC)])
  | _ => .fail
theorem cOe_ok : CtrOK Try.prog 178 cOe := ctrOK_leR C00_ok D00_ok (by kernel_rfl) (by kernel_rfl) fun ss r h => by
  unfold cOe at h
  split at h
  · obtain rfl := h
    refine ⟨[], 200, .nil, by simp only [leSVs], Sat.of_eq LOe_eq ⟨?_⟩⟩
    exact ⟨rfl, rfl, rfl, rfl, rfl, rfl, ⟨rfl, rfl⟩, rfl⟩
  · exact h.elim
noncomputable def lvR' (nr : Nat) (R : Nat → Nat → Sx.DV) (nt : Nat) (T : Nat → Nat → Sx.DV) (da : Bool) (w : Int) : SV := .d (.ro (lvS nr R nt T da w).length 7 (lvC (lvS nr R nt T da w)))
noncomputable def cLv : Ctr := fun ss => match ss with
  | [.agg [.d (.ro nr 1 R), .d (.ro nt 1 T), .d (.x (.slice none 0 0)), .d (.x (.bool da))], .d (.x (.int .i64 w))] => .need (WiD nr R ∧ WiD nt T) (.ret (lvR' nr R nt T da w))
  | [.agg [.d (.ro nr 1 R), .d (.x (.slice none 0 0)), .d (.x (.slice none 0 0)), .d (.x (.bool da))], .d (.x (.int .i64 w))] => .need (WiD nr R) (.ret (lvR' nr R 0 noC da w))
  | _ => .fail
theorem cLv_ok : CtrOK Try.prog 185 cLv := ctrOK_leS C00_ok D00_ok (by kernel_rfl) (by kernel_rfl) fun ss r h => by
  unfold cLv at h
  split at h
  · rename_i nr R nt T da w
    obtain ⟨⟨h1, h2⟩, rfl⟩ := h
    refine ⟨[scS nr (fun i => numV (R i 0)) nt (fun i => numV (T i 0)) da, iv w], 200, .nil, ?_, lv_sat h1.1 h2.1⟩
    unfold scS
    simp only [leSVs, leSV, leD, and_true, true_and]
    refine ⟨⟨fun i j hi hj => ?_, fun i j hi hj => ?_, rfl⟩, rfl⟩
    · obtain rfl : j = 0 := by omega
      exact h1.2 i hi
    · obtain rfl : j = 0 := by omega
      exact h2.2 i hi
  · rename_i nr R da w
    obtain ⟨h1, rfl⟩ := h
    refine ⟨[scS nr (fun i => numV (R i 0)) 0 (fun i => numV (noC i 0)) da, iv w], 200, .nil, ?_, lv_sat h1.1 (Nat.zero_le _)⟩
    unfold scS
    simp only [leSVs, leSV, leD, and_true, true_and]
    refine ⟨⟨fun i j hi hj => ?_, rfl⟩, rfl⟩
    obtain rfl : j = 0 := by omega
    exact h1.2 i hi
  · exact h.elim
end Go.Proofs.Ytpaejfeojdoikaa.Rm
namespace Go.Sx
def lfB (l : List (Int × Int)) (b : Int) : Bool := (l.length : Int) == 0 || Int.tmod b 4 == 0
def lfX (l : List (Int × Int)) (w b : Int) : Int × Int × Int :=
  if lfB l b = true then (1, conK (w64 (Int.tdiv b 4)) w, w) else ((l.getD (Int.toNat (Int.tmod (w64 (Int.tdiv b 4)) l.length)) (0, 0)).1, (l.getD (Int.toNat (Int.tmod (w64 (Int.tdiv b 4)) l.length)) (0, 0)).2, 0)
end Go.Sx
namespace Go.Proofs.Ytpaejfeojdoikaa.Rm
open Go.Sx
set_option maxRecDepth 100000
noncomputable def manV : FuncId → Option Ctr := fun k => match k with
  | 165 => some cBy
  | 166 => some cOn
  | 185 => some cLv
  | 186 => some cCo
  | _ => none
theorem manV_ok (k : Nat) (c : Ctr) (hk : manV k = some c) : CtrOK Try.prog k c ∧ goodF Try.prog k = true := by
  unfold manV at hk
  split at hk
  · cases hk; exact ⟨cBy_ok, by kernel_rfl⟩
  · cases hk; exact ⟨cOn_ok, by kernel_rfl⟩
  · cases hk; exact ⟨cLv_ok, by kernel_rfl⟩
  · cases hk; exact ⟨cCo_ok, by kernel_rfl⟩
  · cases hk
noncomputable def CVl : Ctx := ctxN Try.prog manV (fun _ => false) 200 .nil 6
theorem CVl_ok : CtxOK Try.prog CVl := ctxN_ok mixed manV_ok 6
noncomputable def DVl : Dr := drawnL Try.prog CVl
theorem DVl_ok : DrOK Try.prog CVl DVl := drawnL_ok CVl_ok mixed
noncomputable def lfS (x : Int × Int × Int) : SV := .agg [iv x.1, .d (.x (.string (strB []))), iv x.2.1, .d (.x (.string (strB []))), iv x.2.2, .d (.x (.string (strB []))), .d (.ro 0 7 noC)]
noncomputable def LfT (l : List (Int × Int)) (w b : Int) : Tree SV :=
  .need (((l.length : Int) == 0) = false → (4 : Int) ≠ 0)
   (.ite ((l.length : Int) == 0 || Int.tmod b 4 == 0)
    (.need ((4 : Int) ≠ 0) (.ret (lfS (1, conK (w64 (Int.tdiv b 4)) w, w))))
    (.need ((4 : Int) ≠ 0) (.need ((l.length : Int) ≠ 0) (.need (0 ≤ Int.tmod (w64 (Int.tdiv b 4)) l.length ∧ Int.tmod (w64 (Int.tdiv b 4)) l.length < l.length)
     (.ret (.agg [iv (l.getD (Int.toNat (Int.tmod (w64 (Int.tdiv b 4)) l.length)) (0, 0)).1, .d (.x (.string (strB []))), iv (l.getD (Int.toNat (Int.tmod (w64 (Int.tdiv b 4)) l.length)) (0, 0)).2, .d (.x (.string (strB []))), iv 0, .d (.x (.string (strB []))), .d (.x (.slice none 0 0))]))))))
theorem LLf_eq (nr : Nat) (R : Nat → Nat → Sx.DV) (nt : Nat) (T : Nat → Nat → Sx.DV) (da : Bool) (w b : Int) : fnT Try.prog CVl DVl 200 (fnOf Try.prog 179) (bodyOf Try.prog 179) [.agg [.d (.ro nr 1 R), .d (.ro nt 1 T), .d (.x (.slice none 0 0)), bv da], iv w, iv b] .nil = .need (WiD nr R ∧ WiD nt T) (LfT (lvS nr R nt T da w) w b) := by kernel_rfl
theorem LLg_eq (nr : Nat) (R : Nat → Nat → Sx.DV) (da : Bool) (w b : Int) : fnT Try.prog CVl DVl 200 (fnOf Try.prog 179) (bodyOf Try.prog 179) [.agg [.d (.ro nr 1 R), .d (.x (.slice none 0 0)), .d (.x (.slice none 0 0)), bv da], iv w, iv b] .nil = .need (WiD nr R) (LfT (lvS nr R 0 noC da w) w b) := by kernel_rfl
theorem lf_sat {l : List (Int × Int)} {w b : Int} (hb : 0 ≤ b) (hb2 : b ≤ 1000000) : Tree.sat Try.prog (LfT l w b) fun r => leSV 0 [] [] r (lfS (lfX l w b)) := by
  unfold LfT
  have e1 : w64 (Int.tdiv b 4) = b / 4 := by rw [Int.tdiv_eq_ediv_of_nonneg hb, w64_of (by omega) (by omega)]
  refine ⟨fun _ => by decide, fun h => ⟨by decide, ?_⟩, fun h => ⟨by decide, ?_⟩⟩
  · have : lfX l w b = (1, conK (w64 (Int.tdiv b 4)) w, w) := by exact if_pos (show lfB l b = true from h)
    rw [this]
    exact ⟨rfl, rfl, rfl, rfl, rfl, rfl, ⟨rfl, rfl, fun i j hi => absurd hi (Nat.not_lt_zero _)⟩, rfl⟩
  · have h3 : lfX l w b = ((l.getD (Int.toNat (Int.tmod (w64 (Int.tdiv b 4)) l.length)) (0, 0)).1, (l.getD (Int.toNat (Int.tmod (w64 (Int.tdiv b 4)) l.length)) (0, 0)).2, 0) := by unfold lfX; rw [if_neg (by unfold lfB; rw [h]; decide)]
    have h4 : (l.length : Int) ≠ 0 := by
      rw [Bool.or_eq_false_iff, beq_eq_false_iff_ne] at h
      exact h.1
    rw [e1] at h3 ⊢
    rw [Int.tmod_eq_emod_of_nonneg (by omega)] at h3 ⊢
    have h5 : (0 : Int) ≤ (l.length : Int) := Int.natCast_nonneg _
    have h6 : (0 : Int) < (l.length : Int) := by omega
    refine ⟨h4, ⟨Int.emod_nonneg _ h4, Int.emod_lt_of_pos _ h6⟩, ?_⟩
    rw [h3]
    exact ⟨rfl, rfl, rfl, rfl, rfl, rfl, ⟨rfl, rfl⟩, rfl⟩
noncomputable def cLf : Ctr := fun ss => match ss with
  | [.agg [.d (.ro nr 1 R), .d (.ro nt 1 T), .d (.x (.slice none 0 0)), .d (.x (.bool da))], .d (.x (.int .i64 w)), .d (.x (.int .i64 b))] => .need ((WiD nr R ∧ WiD nt T) ∧ 0 ≤ b ∧ b ≤ 1000000) (.ret (lfS (lfX (lvS nr R nt T da w) w b)))
  | [.agg [.d (.ro nr 1 R), .d (.x (.slice none 0 0)), .d (.x (.slice none 0 0)), .d (.x (.bool da))], .d (.x (.int .i64 w)), .d (.x (.int .i64 b))] => .need (WiD nr R ∧ 0 ≤ b ∧ b ≤ 1000000) (.ret (lfS (lfX (lvS nr R 0 noC da w) w b)))
  | _ => .fail
theorem cLf_ok : CtrOK Try.prog 179 cLf := ctrOK_leR CVl_ok DVl_ok (by kernel_rfl) (by kernel_rfl) fun ss r h => by
  unfold cLf at h
  split at h
  · rename_i nr R nt T da w b
    obtain ⟨⟨h1, h2, h3⟩, rfl⟩ := h
    exact ⟨[.agg [.d (.ro nr 1 R), .d (.ro nt 1 T), .d (.x (.slice none 0 0)), bv da], iv w, iv b], 200, .nil, ⟨⟨⟨rfl, rfl, fun _ _ _ _ => rfl⟩, ⟨rfl, rfl, fun _ _ _ _ => rfl⟩, rfl, rfl, rfl⟩, rfl, rfl, rfl⟩, Sat.of_eq (LLf_eq nr R nt T da w b) ⟨⟨h1, lf_sat h2 h3⟩⟩⟩
  · rename_i nr R da w b
    obtain ⟨⟨h1, h2, h3⟩, rfl⟩ := h
    exact ⟨[.agg [.d (.ro nr 1 R), .d (.x (.slice none 0 0)), .d (.x (.slice none 0 0)), bv da], iv w, iv b], 200, .nil, ⟨⟨⟨rfl, rfl, fun _ _ _ _ => rfl⟩, rfl, rfl, rfl, rfl⟩, rfl, rfl, rfl⟩, Sat.of_eq (LLg_eq nr R da w b) ⟨⟨h1, lf_sat h2 h3⟩⟩⟩
  · exact h.elim
end Go.Proofs.Ytpaejfeojdoikaa.Rm
namespace Go.Sx
def xpL (x : Int × Int × Int) : Xp := .mk x.1 (strB []) x.2.1 (strB []) x.2.2 (strB []) 0 fun _ => .no
def xpA (op kn wn : Int) (l : List Xp) : Xp := .mk op (strB []) kn (strB []) wn (strB []) l.length fun i => l.getD i .no
def chX (f : Int → Int → Xp × Int) : List Int → Int → List Xp × Int
  | [], p => ([], p)
  | w :: ws, p => ((f p w).1 :: (chX f ws (f p w).2).1, (chX f ws (f p w).2).2)
def tyOp (k w : Int) : Int :=
  if k = 4 then 2 else if k = 5 then 3 else if k = 6 then 4 else if k = 7 then 5 else if k = 8 then 6 else if k = 9 then 7 else if k = 10 then 10
  else if k = 13 then (if w = 1 then 3 else 11) else (if w > 1 then 5 else if k = 11 then 8 else 9)
def tyWs (k w b : Int) : List Int :=
  if k = 4 then [w] else if k = 10 then [1, w, w]
  else if k = 13 then (if w = 1 then [w, w] else [w - 1, 1]) else if k = 11 ∨ k = 12 then (if w > 1 then [w, w] else [1 + b % 3, 1 + b % 3]) else [w, w]
def spX (f : Int → Int → Xp × Int) (p w b : Int) : Xp × Int :=
  if b % 3 = 1 ∧ w > 1 then (xpA 13 0 w [(f p (w - 1)).1], (f p (w - 1)).2) else (xpA 12 (b / 3 % 2) w [(f p (w + b / 3 % 2)).1], (f p (w + b / 3 % 2)).2)
def tyX (by' : Int → Int) (lv : Int → List (Int × Int)) : Nat → Int → Int → Xp × Int
  | 0, p, w => (.no, p)
  | d + 1, p, w =>
    if d = 0 ∨ by' p % 14 < 2 then (xpL (lfX (lv w) w (by' p / 14)), p + 1)
    else if by' p % 14 = 2 ∨ by' p % 14 = 3 then spX (tyX by' lv d) (p + 1) w (by' p / 14)
    else (xpA (tyOp (by' p % 14) w) 0 0 (chX (tyX by' lv d) (tyWs (by' p % 14) w (by' p / 14)) (p + 1)).1, (chX (tyX by' lv d) (tyWs (by' p % 14) w (by' p / 14)) (p + 1)).2)
theorem chX_pos {f : Int → Int → Xp × Int} {K : Int} (hK : 0 ≤ K) (hf : ∀ p w, p ≤ (f p w).2 ∧ (f p w).2 ≤ p + K) : ∀ ws p, p ≤ (chX f ws p).2 ∧ (chX f ws p).2 ≤ p + K * ws.length
  | [], p => by show p ≤ p ∧ p ≤ p + K * ((0 : Nat) : Int); simp
  | w :: ws, p => by
    have h1 := hf p w
    have h2 := chX_pos hK hf ws (f p w).2
    have h3 : K * ((w :: ws).length : Int) = K * ws.length + K := by rw [List.length_cons, Int.natCast_add, Int.mul_add]; simp
    show p ≤ (chX f ws (f p w).2).2 ∧ (chX f ws (f p w).2).2 ≤ p + K * ((w :: ws).length : Int)
    rw [h3]
    generalize K * (ws.length : Int) = M at *
    omega
theorem tyWs_len (k w b : Int) : (tyWs k w b).length ≤ 3 := by
  unfold tyWs
  repeat' split
  all_goals simp
def tyK : Nat → Int
  | 0 => 0
  | d + 1 => 1 + 3 * tyK d
theorem tyK_nn : ∀ d, 0 ≤ tyK d
  | 0 => Int.le_refl _
  | d + 1 => by show 0 ≤ 1 + 3 * tyK d; have := tyK_nn d; omega
theorem tyX_pos (by' : Int → Int) (lv : Int → List (Int × Int)) : ∀ d p w, p ≤ (tyX by' lv d p w).2 ∧ (tyX by' lv d p w).2 ≤ p + tyK d
  | 0, p, w => by show p ≤ p ∧ p ≤ p + 0; omega
  | d + 1, p, w => by
    have hK := tyK_nn d
    have ih := tyX_pos by' lv d
    have e : tyK (d + 1) = 1 + 3 * tyK d := rfl
    rw [e]
    unfold tyX
    split
    · show p ≤ p + 1 ∧ p + 1 ≤ _; omega
    split
    · unfold spX
      split
      · have := ih (p + 1) (w - 1)
        dsimp only; omega
      · have := ih (p + 1) (w + by' p / 14 / 3 % 2)
        dsimp only; omega
    · have h1 := chX_pos hK ih (tyWs (by' p % 14) w (by' p / 14)) (p + 1)
      have h2 : tyK d * ((tyWs (by' p % 14) w (by' p / 14)).length : Int) ≤ tyK d * 3 := Int.mul_le_mul_of_nonneg_left (by have := tyWs_len (by' p % 14) w (by' p / 14); omega) hK
      dsimp only
      generalize tyK d * ((tyWs (by' p % 14) w (by' p / 14)).length : Int) = M at *
      omega
end Go.Sx
