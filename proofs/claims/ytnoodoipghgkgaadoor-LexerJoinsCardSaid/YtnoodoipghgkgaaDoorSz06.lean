/- Part of a proof of the given statements of this seat (SxLxD, SxLxE, SyStr, SxLxF, SxLxS, SxLxT, SxLxM, SxLxG, SxLxN, SxLxI, SxLxJ, SxLxK): no conditions beyond those typed here. -/
import Derived.Test.YtnoodoipghgkgaaDoorSz04
import Derived.Test.YtnoodoipghgkgaaDoorSz05
import Derived.Lib.ItoaNum
import Derived.Lib.ItoaLen
import Derived.Lib.AtoiErrMem
import Derived.Lib.AtoiAll
import Derived.Shelf.LaysM
import Derived.Shelf.LaysC
import Derived.Shelf.Strconv.Itoa3
import Derived.Shelf.Strconv.AtoiAll
import Derived.Shelf.Small.Strs
import Derived.Shelf.Strings.Count
import Derived.Shelf.Strings.LastIndex
import Derived.Shelf.Strings.Prefix
import Derived.Shelf.Strings.OnBuilder
import Derived.Test.YtnoodoipghgkgaaDoorProg
import Derived.Lib.LastIndexByte
set_option linter.unusedVariables false
set_option linter.unusedSimpArgs false
set_option linter.unusedSectionVars false

namespace Go.Proofs.YtnoodoipghgkgaaDoor
open Go.Sx
set_option maxRecDepth 100000

def cF1 (k i : Nat) : Int := if 97 ≤ i ∧ i < 97 + k then 1 else 0
def cF2 (k i : Nat) : Int := if 48 ≤ i ∧ i < 48 + k then 2 else cF1 26 i
def cF3 (k i : Nat) : Int := if ((sgL.take k).map UInt8.toNat).contains i then 4 else cF2 10 i
/-- The class of a byte. -/
def clsN (i : Nat) : Int := if i = 10 ∨ i = 32 then 3 else cF3 21 i
noncomputable def clsA : SV := .agg ((List.range 256).map fun i => .d (.x (.int .u8 (clsN i))))

theorem i32_of {n : Int} (h1 : -2147483648 ≤ n) (h2 : n ≤ 2147483647) : IntKind.wrap .i32 n = n := by
  unfold IntKind.wrap
  simp [IntKind.signed, IntKind.bits]
  omega
noncomputable def zB : Blk := .cells (List.replicate 256 (.d (.x (.int .u8 0))))
theorem zB_le (c : Nat → Int) (hc : ∀ i, i < 256 → c i = 0) : BlkLe zB (clsB c) := by
  refine BlkLe.cells rfl fun i j hi hj => ?_
  obtain rfl : j = 0 := by omega
  rw [hc i hi, Nat.mul_one, Nat.add_zero, List.getD_eq_getElem?_getD, List.getElem?_replicate, if_pos hi]; rfl
theorem selD_u8 (b : Bool) (x y : Int) : selD b (.x (.int .u8 x)) (.x (.int .u8 y)) = .x (.int .u8 (bif b then x else y)) := by simp [selD]
theorem sg_dec : ∀ k : Fin 21, Utf8.decode (strB [40, 41, 123, 125, 91, 93, 44, 59, 58, 61, 43, 45, 38, 124, 94, 126, 60, 63, 64, 35, 46]) k = ((sgL.getD k 0).toNat, 1) := by decide +kernel
theorem sg_lt : ∀ k : Fin 21, (sgL.getD k 0).toNat < 256 := by decide +kernel
theorem cls_sat : Sat Tryd.prog tCls (· = clsA) := by
  constructor
  rw [LC1_eq]; unfold LC1
  refine code_satS C0_ok D0_ok (n := 200) (n0 := 2) (nx := 2) (roots := []) (keep := [0, 1, 2]) (drop := []) (h := .nil) (c := codeC (sub [] tCls)) (st := codeS (sub [] tCls)) (k := codeK (sub [] tCls)) (body := body1) (by kernel_rfl) (by kernel_rfl)
    (fun q s => ∃ k : Nat, q = 26 - k ∧ k ≤ 26 ∧ s = inv1 (97 + k) (cF1 k))
    (fun e s => e = .exit 0 ∧ s = inv1 123 (cF1 26))
    ⟨_, _, ⟨0, rfl, by omega, rfl⟩, ?_⟩ ?_ ?_
  · exact (entA_sound (s' := ⟨[.ok (.ptr 0 0), .ok (.ptr 1 0), .ok (.d (.x (.int .i32 97)))] ++ List.replicate 24 .unk, [some zB, some zB], 2, .nil⟩) (roots := []) (keep := [0, 1, 2]) (drop := []) (nx := 2) (h := .nil) (by kernel_rfl)).trans
      (gc_hp rfl rfl ⟨.inr ⟨_, _, rfl, rfl, zB_le _ fun _ _ => rfl⟩, .inr ⟨_, _, rfl, rfl, zB_le _ fun i _ => by unfold cF1; rw [if_neg (by omega)]⟩, trivial⟩)
  · rintro q s ⟨k, rfl, hk, rfl⟩
    refine Sat.of_eq (BC1_eq _ _) ?_
    constructor; unfold BC1
    refine ⟨fun h => ?_, fun h => ?_⟩
    · simp only [decide_eq_true_eq] at h
      refine ⟨by omega, by omega, 26 - (k + 1), _, by omega, ⟨k + 1, rfl, by omega, rfl⟩, ?_⟩
      have e : IntKind.wrap .i32 ((97 : Int) + k + 1) = 97 + ((k + 1 : Nat) : Int) := by rw [i32_of (by omega) (by omega)]; omega
      rw [e]
      refine gc_hp rfl rfl ⟨.inr ⟨_, _, rfl, rfl, .refl _⟩, .inr ⟨_, _, rfl, rfl, .row fun i j hi hj => ?_⟩, trivial⟩
      obtain rfl : j = 0 := by omega
      refine (selD_u8 _ _ _).trans ?_
      unfold cF1
      by_cases h2 : i = Int.toNat (97 + (k : Int))
      · have h3 : 97 ≤ i ∧ i < 97 + (k + 1) := by omega
        rw [decide_eq_true h2, if_pos h3]; rfl
      · rw [decide_eq_false h2]
        have e2 : (97 ≤ i ∧ i < 97 + (k + 1)) ↔ (97 ≤ i ∧ i < 97 + k) := by omega
        simp only [e2]; rfl
    · simp only [decide_eq_false_iff_not] at h
      obtain rfl : k = 26 := by omega
      exact ⟨_, ⟨rfl, rfl⟩, Gc.refl _ _⟩
  rintro e s ⟨rfl, rfl⟩
  refine Sat.of_eq (LC2_eq _ _) ⟨?_⟩
  unfold LC2
  refine code_satS C0_ok D0_ok (n := 200) (n0 := 2) (nx := 2) (roots := []) (keep := [0, 1, 3]) (drop := []) (h := .nil) (body := body2) (by kernel_rfl) (by kernel_rfl)
    (fun q s => ∃ k : Nat, q = 10 - k ∧ k ≤ 10 ∧ s = inv2 (48 + k) (cF2 k))
    (fun e s => e = .exit 2 ∧ s = inv2 58 (cF2 10))
    ⟨_, _, ⟨0, rfl, by omega, rfl⟩, ?_⟩ ?_ ?_
  · exact (entA_sound (s' := inv2 48 (cF1 26)) (roots := []) (keep := [0, 1, 3]) (drop := []) (nx := 2) (h := .nil) (by kernel_rfl)).trans
      (gc_hp rfl rfl ⟨.inr ⟨_, _, rfl, rfl, .refl _⟩, .inr ⟨_, _, rfl, rfl, .row fun i j hi hj => by unfold cF2; rw [if_neg (by omega)]⟩, trivial⟩)
  · rintro q s ⟨k, rfl, hk, rfl⟩
    refine Sat.of_eq (BC2_eq _ _) ?_
    constructor; unfold BC2
    refine ⟨fun h => ?_, fun h => ?_⟩
    · simp only [decide_eq_true_eq] at h
      refine ⟨by omega, by omega, 10 - (k + 1), _, by omega, ⟨k + 1, rfl, by omega, rfl⟩, ?_⟩
      have e : IntKind.wrap .i32 ((48 : Int) + k + 1) = 48 + ((k + 1 : Nat) : Int) := by rw [i32_of (by omega) (by omega)]; omega
      rw [e]
      refine gc_hp rfl rfl ⟨.inr ⟨_, _, rfl, rfl, .refl _⟩, .inr ⟨_, _, rfl, rfl, .row fun i j hi hj => ?_⟩, trivial⟩
      obtain rfl : j = 0 := by omega
      refine (selD_u8 _ _ _).trans ?_
      unfold cF2
      by_cases h2 : i = Int.toNat (48 + (k : Int))
      · have h3 : 48 ≤ i ∧ i < 48 + (k + 1) := by omega
        rw [decide_eq_true h2, if_pos h3]; rfl
      · rw [decide_eq_false h2]
        have e2 : (48 ≤ i ∧ i < 48 + (k + 1)) ↔ (48 ≤ i ∧ i < 48 + k) := by omega
        simp only [e2]; rfl
    · simp only [decide_eq_false_iff_not] at h
      obtain rfl : k = 10 := by omega
      exact ⟨_, ⟨rfl, rfl⟩, Gc.refl _ _⟩
  rintro e s ⟨rfl, rfl⟩
  refine Sat.of_eq (LC3_eq _ _) ⟨?_⟩
  unfold LC3
  refine code_satS C0_ok D0_ok (n := 200) (n0 := 3) (nx := 3) (roots := []) (keep := [0, 1, 18]) (drop := []) (h := .nil) (body := body3) (by kernel_rfl) (by kernel_rfl)
    (fun q s => ∃ k : Nat, q = 21 - k ∧ k ≤ 21 ∧ s = inv3 k (cF3 k))
    (fun e s => e = .exit 4 ∧ s = inv3 21 (cF3 21))
    ⟨_, _, ⟨0, rfl, by omega, rfl⟩, ?_⟩ ?_ ?_
  · exact (entA_sound (s' := inv3 0 (cF2 10)) (roots := []) (keep := [0, 1, 18]) (drop := []) (nx := 3) (h := .nil) (by kernel_rfl)).trans
      (gc_hp rfl rfl ⟨.inr ⟨_, _, rfl, rfl, .refl _⟩, .inr ⟨_, _, rfl, rfl, .row fun i j hi hj => by unfold cF3; rfl⟩, .inr ⟨_, _, rfl, rfl, .refl _⟩, trivial⟩)
  · rintro q s ⟨k, rfl, hk, rfl⟩
    refine Sat.of_eq (BC3_eq _ _) ?_
    constructor; unfold BC3
    refine ⟨fun h => ⟨fun _ => ?_, fun h => (by cases h)⟩, fun h => ?_⟩
    · simp only [decide_eq_true_eq] at h
      have hd := sg_dec ⟨k, h⟩
      have hl := sg_lt ⟨k, h⟩
      simp only at hd hl
      rw [hd]
      refine ⟨⟨by simp only; omega, by simp only; omega⟩, by simp only; omega, 21 - (k + 1), _, by omega, ⟨k + 1, rfl, by omega, rfl⟩, ?_⟩
      refine gc_hp rfl rfl ⟨.inr ⟨_, _, rfl, rfl, .refl _⟩, .inr ⟨_, _, rfl, rfl, .row fun i j hi hj => ?_⟩, .inr ⟨_, _, rfl, rfl, .refl _⟩, trivial⟩
      obtain rfl : j = 0 := by omega
      refine (selD_u8 _ _ _).trans ?_
      unfold cF3
      have ht : sgL.take (k + 1) = sgL.take k ++ [sgL.getD k 0] := by
        rw [List.take_add_one]
        have : sgL[k]? = some (sgL.getD k 0) := by
          have hlen : k < sgL.length := h
          rw [List.getD_eq_getElem?_getD, List.getElem?_eq_getElem hlen]; rfl
        rw [this]; rfl
      rw [ht]
      simp only [List.map_append, List.map_cons, List.map_nil, List.contains_append, Int.toNat_natCast]
      by_cases h2 : i = (sgL.getD k 0).toNat
      · rw [decide_eq_true h2, ← h2]
        simp
      · rw [decide_eq_false h2]
        have e3 : [(sgL.getD k 0).toNat].contains i = false := by
          generalize (sgL.getD k 0).toNat = z at h2
          simp [h2]
        rw [e3, Bool.or_false]; rfl
    · simp only [decide_eq_false_iff_not] at h
      obtain rfl : k = 21 := by omega
      exact ⟨fun h => (by cases h), fun _ => ⟨_, ⟨rfl, rfl⟩, Gc.refl _ _⟩⟩
  rintro e s ⟨rfl, rfl⟩
  refine Sat.of_eq (KC3_eq _ _ _ _) ⟨?_⟩
  unfold KC3
  refine ⟨by decide, by decide, by decide, by decide, ?_⟩
  show SV.agg _ = clsA
  kernel_rfl
noncomputable def cCls : Ctr := fun ss => match ss with
  | [] => .ret clsA
  | _ => .fail
theorem cCls_ok : CtrOK Tryd.prog 33 cCls := by
  refine ctrOK_of C0_ok D0_ok (fn := fnOf Tryd.prog 33) (body := bodyOf Tryd.prog 33) (by kernel_rfl) (by kernel_rfl) fun ss r hr => ?_
  unfold cCls at hr
  split at hr
  · cases hr; exact ⟨200, .nil, cls_sat.ok⟩
  · exact hr.elim
end Go.Proofs.YtnoodoipghgkgaaDoor

namespace Go.Proofs.YtnoodoipghgkgaaDoor
open Go.Sx
set_option maxRecDepth 100000

/-! ### Has a byte one of some classes? -/
noncomputable def scB (s : ByteArray) (at_ : Int) (j : Nat) : DV := match j with
  | 0 => .x (.string s)
  | 1 => .x (.int .i64 at_)
  | _ => .x (.int .u8 (clsN (j - 2)))
noncomputable def clR (n : Nat) (c : Nat → Int) : SV := .d (.ro n 1 fun i _ => .x (.int .u8 (c i)))
noncomputable def tIs (s : ByteArray) (a k : Int) (n : Nat) (c : Nat → Int) : Tree SV := T0 .nil 40 [.rop 258 (scB s a), iv k, clR n c]
noncomputable def invIs (s : ByteArray) (a k : Int) (n : Nat) (c : Nat → Int) (i : Nat) (r : TV) : AS := ⟨[.ok (.rop 258 (scB s a)), .ok (iv k), .unk, .unk, .unk, .unk, r] ++ List.replicate 14 .unk ++ [.ok (clR n c), .ok (iv n), .ok (iv i)] ++ List.replicate 22 .unk, List.replicate 12 none, 12, .nil⟩
noncomputable def bodyIs : Code := loopN (bodyOf Tryd.prog 40) 0
noncomputable def LIs (s : ByteArray) (a k : Int) (n : Nat) (c : Nat → Int) : Tree SV :=
  .ite (decide (w64 (a + k) ≥ (↑(ByteArray.size s) : Int))) (.ret (bv false)) (.code (codeC (sub [(1 : Nat)] (tIs s a k n c))) (codeS (sub [(1 : Nat)] (tIs s a k n c))) (codeK (sub [(1 : Nat)] (tIs s a k n c))))

theorem LIs_eq (s : ByteArray) (a k : Int) (n : Nat) (c : Nat → Int) : tIs s a k n c = LIs s a k n c := by kernel_rfl

noncomputable def BIs (s : ByteArray) (a k : Int) (n : Nat) (c : Nat → Int) (i : Nat) : Tree (Ex × AS) :=
  .ite (decide ((↑i : Int) < (↑n : Int))) (.need ((0 : Int) ≤ (↑i : Int) ∧ (↑i : Int) < (↑n : Int)) (.need ((0 : Int) ≤ w64 (a + k) ∧ w64 (a + k) < (↑(ByteArray.size s) : Int)) (.need ((0 : Int) ≤ (↑(UInt8.toNat (Array.getD (ByteArray.data s) (Int.toNat (w64 (a + k))) (0 : UInt8))) : Int) ∧ (↑(UInt8.toNat (Array.getD (ByteArray.data s) (Int.toNat (w64 (a + k))) (0 : UInt8))) : Int) < (256 : Int)) (.ite (clsN (Int.toNat (↑(UInt8.toNat (Array.getD (ByteArray.data s) (Int.toNat (w64 (a + k))) (0 : UInt8))) : Int) * 1 + 0 + 2 - 2) == c (Int.toNat (↑i : Int))) (.ret (.ret, { tm := [.ok (SV.rop 258 fun j => match j with | (0 : Nat) => DV.x (.string s) | (1 : Nat) => DV.x (.int .i64 a) | x => DV.x (.int .u8 (clsN (j - 2)))), .ok (iv k), .unk, .unk, .unk, .unk, .ok (bv true), .unk, .unk, .unk, .unk, .unk, .unk, .unk, .unk, .unk, .unk, .unk, .unk, .unk, .unk, .ok (SV.d (DV.ro n 1 fun i x => DV.x (.int .u8 (c i)))), .ok (iv (↑n : Int)), .ok (iv (↑i : Int)), .unk, .unk, .unk, .unk, .unk, .unk, .unk, .unk, .unk, .unk, .unk, .unk, .unk, .unk, .unk, .unk, .unk, .unk, .unk, .unk, .unk, .unk], hp := [none, none, none, none, none, none, none, none, none, none, none, none], next := 12, hint := .nil })) (.ret (.normal, { tm := [.ok (SV.rop 258 fun j => match j with | (0 : Nat) => DV.x (.string s) | (1 : Nat) => DV.x (.int .i64 a) | x => DV.x (.int .u8 (clsN (j - 2)))), .ok (iv k), .unk, .unk, .unk, .unk, .ok (bv false), .unk, .unk, .unk, .unk, .unk, .unk, .unk, .unk, .unk, .unk, .unk, .unk, .unk, .unk, .ok (SV.d (DV.ro n 1 fun i x => DV.x (.int .u8 (c i)))), .ok (iv (↑n : Int)), .ok (iv (w64 ((↑i : Int) + (1 : Int)))), .unk, .unk, .unk, .unk, .unk, .unk, .unk, .unk, .unk, .unk, .unk, .unk, .unk, .unk, .unk, .unk, .unk, .unk, .unk, .unk, .unk, .unk], hp := [none, none, none, none, none, none, none, none, none, none, none, none], next := 12, hint := .nil })))))) (.ret (.exit 0, { tm := [.ok (SV.rop 258 fun j => match j with | (0 : Nat) => DV.x (.string s) | (1 : Nat) => DV.x (.int .i64 a) | x => DV.x (.int .u8 (clsN (j - 2)))), .ok (iv k), .unk, .unk, .unk, .unk, .ok (bv false), .unk, .unk, .unk, .unk, .unk, .unk, .unk, .unk, .unk, .unk, .unk, .unk, .unk, .unk, .ok (SV.d (DV.ro n 1 fun i x => DV.x (.int .u8 (c i)))), .ok (iv (↑n : Int)), .ok (iv (↑i : Int)), .unk, .unk, .unk, .unk, .unk, .unk, .unk, .unk, .unk, .unk, .unk, .unk, .unk, .unk, .unk, .unk, .unk, .unk, .unk, .unk, .unk, .unk], hp := [none, none, none, none, none, none, none, none, none, none, none, none], next := 12, hint := .nil }))

theorem BIs_eq (s : ByteArray) (a k : Int) (n : Nat) (c : Nat → Int) (i : Nat) : cutT 12 [] [0, 1, 6, 21, 22, 23] [] 12 .nil (exec Tryd.prog C0 D0 200 bodyIs (invIs s a k n c i (.ok (bv false)))) = BIs s a k n c i := by kernel_rfl

noncomputable def KIs (s : ByteArray) (a k : Int) (n : Nat) (c : Nat → Int) (i : Nat) : Tree SV :=
  .ret (bv false)

theorem KIs_eq (s : ByteArray) (a k : Int) (n : Nat) (c : Nat → Int) (i : Nat) : codeK (sub [1] (tIs s a k n c)) (.exit 0) (invIs s a k n c i (.ok (bv false))) = KIs s a k n c i := by kernel_rfl

noncomputable def KIr (s : ByteArray) (a k : Int) (n : Nat) (c : Nat → Int) (i : Nat) (r : Bool) : Tree SV :=
  .ret (bv r)

theorem KIr_eq (s : ByteArray) (a k : Int) (n : Nat) (c : Nat → Int) (i : Nat) (r : Bool) : codeK (sub [1] (tIs s a k n c)) .ret (invIs s a k n c i (.ok (bv r))) = KIr s a k n c i r := by kernel_rfl


end Go.Proofs.YtnoodoipghgkgaaDoor

/- Strings told by their bytes; the digits of numbers. -/
namespace Go.Sx
open Go.RowKit Go.Sort
theorem strB_append (a b : List UInt8) : strB a ++ strB b = strB (a ++ b) := by
  unfold strB
  apply ByteArray.ext
  simp
theorem strB_size (a : List UInt8) : (strB a).size = a.length := by unfold strB; simp [ByteArray.size]
theorem strB_list (l : List UInt8) : Array.toList (ByteArray.data (strB l)) = l := by unfold strB; rfl
theorem strB_of (s : ByteArray) : strB s.data.toList = s := by unfold strB; rfl
theorem size_list (s : ByteArray) : s.size = s.data.toList.length := (Array.length_toList).symm
theorem strEq_list (a b : List UInt8) : strEq (strB a) (strB b) = (a == b) := by unfold strEq; rw [strB_list, strB_list]
theorem strB_extract (l : List UInt8) (i j : Nat) : (strB l).extract i j = strB ((l.take j).drop i) := by
  apply ByteArray.ext
  apply Array.ext'
  rw [ByteArray.data_extract]
  unfold strB
  simp [List.extract, List.drop_take]
theorem arr_getD (a : Array UInt8) (i : Nat) : Array.getD a i 0 = a.toList.getD i 0 := by
  rw [Array.getD_eq_getD_getElem?, List.getD_eq_getElem?_getD, Array.getElem?_toList]
theorem strB_at (l : List UInt8) (i : Nat) : Array.getD (ByteArray.data (strB l)) i 0 = l.getD i 0 := by rw [arr_getD, strB_list]
theorem below_grow (w : World) (k : Nat) (os : Array Obj) : Below w.heap.size w (grow (w.drewN k) os) :=
  ⟨rfl, rfl, rfl, by simp [grow, World.drewN], fun i hi => by
    have h1 : i < (w.heap).size := hi
    simp [grow, World.drewN, Array.getElem?_append, h1]⟩
theorem rep_err {w : World} {F : Nat → Prop} {v : Value} {t : TypeId} {N : Nat} (h : v = .iface t (.pointer (some ⟨N, 0, none⟩))) : Rep w emp F v (.ifc t (.rop 0 fun _ => .x undef)) := by
  subst h
  exact .ifc _ _ _ (.rop N 0 0 _ (fun _ => undef) (fun h => (h rfl).elim) (fun j hj => by omega) (fun j hj => by omega) (fun j hj => by omega))

/-! ### Decimal digits, reckoned with a bound -/
def decF : Nat → Nat → List UInt8
  | 0, _ => [48]
  | f + 1, u => if u < 10 then [UInt8.ofNat (48 + u)] else decF f (u / 10) ++ [UInt8.ofNat (48 + u % 10)]
theorem decF_eq : ∀ (f u : Nat), u < 10 ^ f → decF f u = Lib.decDigits u
  | 0, u, h => by simp at h; subst h; rw [Lib.decDigits]; rfl
  | f + 1, u, h => by
    rw [Lib.decDigits]
    unfold decF
    by_cases h1 : u < 10
    · rw [if_pos h1, dif_pos h1]
    · rw [if_neg h1, dif_neg h1, decF_eq f (u / 10) (by rw [Nat.pow_succ] at h; omega)]
def itoaC (n : Int) : List UInt8 := if n < 0 then 45 :: decF 19 n.natAbs else decF 19 n.toNat
theorem itoaC_eq {n : Int} (h0 : -9223372036854775808 ≤ n) (h1 : n ≤ 9223372036854775807) : itoaC n = Lib.itoa n := by
  unfold itoaC Lib.itoa
  rw [decF_eq 19 n.natAbs (by have : (10 : Nat) ^ 19 = 10000000000000000000 := by decide
                              omega), decF_eq 19 n.toNat (by have : (10 : Nat) ^ 19 = 10000000000000000000 := by decide
                                                             omega)]
def atoiV (l : List UInt8) : Int := match Lib.atoiAll l with
  | .ok v => v
  | .range => Lib.atoiSat l
  | _ => 0
def atoiOK (l : List UInt8) : Bool := match Lib.atoiAll l with
  | .ok _ => true
  | _ => false
theorem chr_nat {k : Nat} (h : k < 10) : (UInt8.ofNat (48 + k)).toNat = 48 + k := by
  rw [UInt8.toNat_ofNat']; omega
theorem decF_dig : ∀ (m u : Nat) (x : UInt8), x ∈ decF m u → 48 ≤ x.toNat ∧ x.toNat ≤ 57
  | 0, u, x, h => by
    unfold decF at h
    rw [List.mem_singleton] at h; subst h; decide
  | m + 1, u, x, h => by
    unfold decF at h
    split at h
    · rw [List.mem_singleton] at h; subst h; rw [chr_nat (by omega)]; omega
    · rw [List.mem_append, List.mem_singleton] at h
      rcases h with h | h
      · exact decF_dig m _ x h
      · subst h; rw [chr_nat (by omega)]; omega
theorem decF_ne : ∀ (m u : Nat), decF m u ≠ []
  | 0, u => by unfold decF; simp
  | m + 1, u => by
    unfold decF; split
    · simp
    · simp
theorem decF_pos : ∀ (m u : Nat), u < 10 → 0 < m → decF m u = [UInt8.ofNat (48 + u)]
  | m + 1, u, h, _ => by unfold decF; rw [if_pos h]
theorem decF_step {m u : Nat} (h : ¬ u < 10) : decF (m + 1) u = decF m (u / 10) ++ [UInt8.ofNat (48 + u % 10)] := by
  conv => lhs; unfold decF
  rw [if_neg h]
theorem parse_dec : ∀ (m u : Nat) (r : List UInt8), u < 10 ^ m → u ≤ 4611686018427387904 → Lib.parseUint10 0 (decF m u ++ r) = Lib.parseUint10 u r
  | 0, u, r, h, h2 => by
    have : u = 0 := by simpa using h
    subst this; unfold decF; simp [Lib.parseUint10]
  | m + 1, u, r, h, h2 => by
    by_cases h1 : u < 10
    · rw [decF_pos (m + 1) u h1 (by omega)]
      simp only [List.cons_append, List.nil_append, Lib.parseUint10]
      rw [chr_nat h1, if_pos (by omega), if_neg (by omega), if_neg (by omega)]
      congr 1; omega
    · rw [decF_step h1, List.append_assoc, parse_dec m (u / 10) _ (by rw [Nat.pow_succ] at h; omega) (by omega)]
      simp only [List.cons_append, List.nil_append, Lib.parseUint10]
      rw [chr_nat (by omega), if_pos (by omega), if_neg (by omega), if_neg (by omega)]
      congr 1; omega
theorem ten19 : (10 : Nat) ^ 19 = 10000000000000000000 := by decide
theorem mag_dec {u : Nat} (h : u ≤ 4611686018427387904) : Lib.parseMag (decF 19 u) = .ok u := by
  unfold Lib.parseMag
  rw [if_neg (decF_ne 19 u)]
  have := parse_dec 19 u [] (by rw [ten19]; omega) h
  rw [List.append_nil] at this
  rw [this]; rfl
theorem atoi_dec {u : Nat} (h : u ≤ 4611686018427387904) : Lib.atoiAll (decF 19 u) = .ok u := by
  have hm := mag_dec h
  rcases hd : decF 19 u with _ | ⟨c, r⟩
  · exact absurd hd (decF_ne _ _)
  · have hc := decF_dig 19 u c (by rw [hd]; simp)
    unfold Lib.atoiAll
    simp only []
    rw [if_neg (by omega), ← hd, hm]
    have h45 : ¬ (c.toNat = 45) := by omega
    simp only [h45, not_false_eq_true, true_and, if_false, false_and]
    rw [if_neg (by omega)]
end Go.Sx

namespace Go.Proofs.YtnoodoipghgkgaaDoor
open Go.Sx
set_option maxRecDepth 100000

def anyN (n : Nat) (p : Nat → Bool) : Bool := (List.range n).any p
theorem anyN_false {n : Nat} {p : Nat → Bool} (h : ∀ j, j < n → p j = false) : anyN n p = false := by
  unfold anyN
  rw [List.any_eq_false]
  intro x hx
  rw [h x (List.mem_range.1 hx)]; simp
theorem anyN_true {n i : Nat} {p : Nat → Bool} (hi : i < n) (h : p i = true) : anyN n p = true := by
  unfold anyN
  rw [List.any_eq_true]
  exact ⟨i, List.mem_range.2 hi, h⟩
theorem hd_drop {p : UInt8 → Bool} {L : List UInt8} {i : Nat} (h : i < L.length) : hd1 p (L.drop i) = p (L.getD i 0) := by
  rw [List.drop_eq_getElem_cons h]
  simp [hd1, h]
theorem hd_out {p : UInt8 → Bool} {L : List UInt8} {i : Nat} (h : L.length ≤ i) : hd1 p (L.drop i) = false := by
  rw [List.drop_eq_nil_of_le h]; rfl


theorem is_sat {s : ByteArray} {a k : Int} {n : Nat} {c : Nat → Int} (h0 : 0 ≤ a + k) (h1 : a + k ≤ 4611686018427387904) (hn : n ≤ 1000) :
    Sat Tryd.prog (tIs s a k n c) (· = bv (hd1 (fun b => anyN n fun i => clsN b.toNat == c i) (s.data.toList.drop (a + k).toNat))) := by
  constructor
  rw [LIs_eq]; unfold LIs
  have hz : s.size = s.data.toList.length := (Array.length_toList).symm
  have e1 : w64 (a + k) = a + k := w64_of (by omega) (by omega)
  rw [e1]
  refine ⟨fun h => ?_, fun h => ?_⟩
  · simp only [decide_eq_true_eq] at h
    rw [hd_out (by omega)]; exact rfl
  simp only [decide_eq_false_iff_not] at h
  have hlt : (a + k).toNat < s.data.toList.length := by omega
  rw [hd_drop hlt]
  refine code_satS C0_ok D0_ok (n := 200) (n0 := 12) (nx := 12) (roots := []) (keep := [0, 1, 6, 21, 22, 23]) (drop := []) (h := .nil) (c := codeC (sub [1] (tIs s a k n c))) (st := codeS (sub [1] (tIs s a k n c))) (k := codeK (sub [1] (tIs s a k n c))) (body := bodyIs) (by kernel_rfl) (by kernel_rfl)
    (fun q t => ∃ i : Nat, q = n - i ∧ i ≤ n ∧ (∀ j, j < i → (clsN (s.data.toList.getD (a + k).toNat 0).toNat == c j) = false) ∧ t = invIs s a k n c i (.ok (bv false)))
    (fun e t => (e = .exit 0 ∧ (∀ j, j < n → (clsN (s.data.toList.getD (a + k).toNat 0).toNat == c j) = false) ∧ t = invIs s a k n c n (.ok (bv false))) ∨ (e = .ret ∧ ∃ i, i < n ∧ (clsN (s.data.toList.getD (a + k).toNat 0).toNat == c i) = true ∧ t = invIs s a k n c i (.ok (bv true))))
    ⟨_, _, ⟨0, rfl, by omega, fun j hj => by omega, rfl⟩, ?_⟩ ?_ ?_
  · exact entA_sound (roots := []) (keep := [0, 1, 6, 21, 22, 23]) (drop := []) (nx := 12) (h := .nil) (by kernel_rfl)
  · rintro q t ⟨i, rfl, hi, hj, rfl⟩
    refine Sat.of_eq (BIs_eq s a k n c i) ?_
    constructor
    unfold BIs
    simp only [e1, Int.toNat_natCast, Nat.mul_one, Nat.add_zero, Nat.add_sub_cancel, arr_getD]
    have hb : (s.data.toList.getD (a + k).toNat 0).toNat < 256 := UInt8.toNat_lt _
    refine ⟨fun h2 => ?_, fun h2 => ?_⟩
    · simp only [decide_eq_true_eq] at h2
      refine ⟨by omega, ⟨h0, by omega⟩, by omega, fun h3 => ?_, fun h3 => ?_⟩
      · exact ⟨_, .inr ⟨rfl, i, by omega, h3, rfl⟩, Gc.refl _ _⟩
      · rw [w64_of (n := (i : Int) + 1) (by omega) (by omega)]
        refine ⟨n - (i + 1), _, by omega, ⟨i + 1, rfl, by omega, fun j hj2 => ?_, rfl⟩, Gc.refl _ _⟩
        rcases Nat.lt_or_ge j i with h4 | h4
        · exact hj j h4
        · obtain rfl : j = i := by omega
          exact h3
    · simp only [decide_eq_false_iff_not] at h2
      obtain rfl : i = n := by omega
      exact ⟨_, .inl ⟨rfl, hj, rfl⟩, Gc.refl _ _⟩
  · rintro e t (⟨rfl, hj, rfl⟩ | ⟨rfl, i, hi, h3, rfl⟩)
    · refine Sat.of_eq (KIs_eq s a k n c n) ⟨?_⟩
      rw [anyN_false hj]; exact rfl
    · refine Sat.of_eq (KIr_eq s a k n c i true) ⟨?_⟩
      rw [anyN_true hi h3]; exact rfl

/-! ### Its contract -/
def inC (n : Nat) (c : Nat → Int) (b : UInt8) : Bool := anyN n fun i => clsN b.toNat == c i
/-- The table of a scanner. -/
def tabChk (cell : Nat → DV) : Bool := (List.range 256).all fun j => match cell (j + 2) with
  | .x (.int .u8 v) => v == clsN j
  | _ => false
theorem tabChk_ok {cell : Nat → DV} (h : tabChk cell = true) {j : Nat} (hj : j < 256) : cell (j + 2) = .x (.int .u8 (clsN j)) := by
  unfold tabChk at h
  rw [List.all_eq_true] at h
  have := h j (List.mem_range.2 hj)
  split at this
  · rename_i v hv
    rw [beq_iff_eq] at this
    rw [hv, this]
  · cases this
def hdC1 (x : Int) (l : List UInt8) : Bool := hd1 (inC 1 fun _ => x) l
def hdC2 (x y : Int) (l : List UInt8) : Bool := hd1 (inC 2 fun i => if i = 0 then x else y) l
noncomputable def cIs : Ctr := fun ss => match ss with
  | [.rop n cell, .d (.x (.int .i64 k)), .d (.ro m 1 c)] => match Nat.ble 258 n, tabChk cell, cell 0, cell 1 with
    | true, true, .x (.string s), .x (.int .i64 a) => (match m with
      | 1 => (match c 0 0 with
        | .x (.int .u8 x) => .need (0 ≤ a + k ∧ a + k ≤ 4611686018427387904) (.ret (bv (hdC1 x (s.data.toList.drop (a + k).toNat))))
        | _ => .fail)
      | 2 => (match c 0 0, c 1 0 with
        | .x (.int .u8 x), .x (.int .u8 y) => .need (0 ≤ a + k ∧ a + k ≤ 4611686018427387904) (.ret (bv (hdC2 x y (s.data.toList.drop (a + k).toNat))))
        | _, _ => .fail)
      | _ => .fail)
    | _, _, _, _ => .fail
  | _ => .fail
theorem is_leaf {N : Nat} (hN : 258 ≤ N) {cell : Nat → DV} {s : ByteArray} {a k : Int} {m : Nat} {c : Nat → Nat → DV} (ht : tabChk cell = true) (hs : cell 0 = .x (.string s)) (ha : cell 1 = .x (.int .i64 a)) (f : Nat → Int) (hc : ∀ i, i < m → c i 0 = .x (.int .u8 (f i)))
    (h1 : 0 ≤ a + k) (h2 : a + k ≤ 4611686018427387904) (h3 : m ≤ 1000) : ∃ ss' n hint, leSVs 0 [] [] [.rop N cell, iv k, .d (.ro m 1 c)] ss' ∧ Sat Tryd.prog (fnT Tryd.prog C0 D0 n (fnOf Tryd.prog 40) (bodyOf Tryd.prog 40) ss' hint) (· = bv (hd1 (inC m f) (s.data.toList.drop (a + k).toNat))) := by
  have kk := is_sat (s := s) (a := a) (k := k) (n := m) (c := f) h1 h2 h3
  refine ⟨[.rop 258 (scB s a), iv k, clR m f], 200, .nil, ?_, kk⟩
  have hd : ∀ x y : DV, x = y → leD x y := by
    rintro x _ rfl
    cases x with
    | x v => exact rfl
    | ro n e c => exact ⟨rfl, rfl, fun _ _ _ _ => rfl⟩
    | rf n e c => exact ⟨rfl, rfl, fun _ _ _ _ => rfl⟩
  refine ⟨⟨hN, fun j hj => hd _ _ ?_⟩, rfl, ⟨rfl, rfl, fun i j hi hj => ?_⟩, rfl⟩
  · match j, hj with
    | 0, _ => exact hs
    | 1, _ => exact ha
    | j + 2, hj => rw [tabChk_ok ht (by omega)]; rfl
  · obtain rfl : j = 0 := by omega
    exact hc i hi
theorem cIs_ok : CtrOK Tryd.prog 40 cIs := by
  refine ctrOK_leS C0_ok D0_ok (by kernel_rfl) (by kernel_rfl) fun ss r h => ?_
  unfold cIs at h
  split at h
  · rename_i n cell k m c
    split at h
    · rename_i s a hn ht hs ha
      have hn : 258 ≤ n := Nat.le_of_ble_eq_true hn
      split at h
      · split at h
        · rename_i x hx
          obtain ⟨⟨h1, h2⟩, rfl⟩ := h
          refine is_leaf (m := 1) hn ht hs ha (fun _ => x) (fun i hi => ?_) h1 h2 (by omega)
          obtain rfl : i = 0 := by omega
          exact hx
        · exact h.elim
      · split at h
        · rename_i x y hx hy
          obtain ⟨⟨h1, h2⟩, rfl⟩ := h
          refine is_leaf hn ht hs ha (fun i => if i = 0 then x else y) (fun i hi => ?_) h1 h2 (by omega)
          match i, hi with
          | 0, _ => exact hx
          | 1, _ => exact hy
        · exact h.elim
      · exact h.elim
    · exact h.elim
  · exact h.elim
theorem inC_sp : inC 1 (fun _ => 3) = isSp := by
  funext b
  exact u8_all (P := fun b => inC 1 (fun _ => 3) b = isSp b) (by decide +kernel) b
theorem inC_sg : inC 1 (fun _ => 4) = isSg := by
  funext b
  exact u8_all (P := fun b => inC 1 (fun _ => 4) b = isSg b) (by decide +kernel) b
theorem inC_wd (f : Nat → Int) (h0 : f 0 = 1) (h1 : f 1 = 2) : inC 2 f = isWd := by
  have e : ∀ b, inC 2 f b = inC 2 (fun i => if i = 0 then 1 else 2) b := by
    intro b; unfold inC anyN; simp [List.range, List.range.loop, h0, h1]
  funext b
  rw [e]
  exact u8_all (P := fun b => inC 2 (fun i => if i = 0 then 1 else 2) b = isWd b) (by decide +kernel) b
theorem hdC1_sp (l : List UInt8) : hdC1 3 l = hd1 isSp l := by unfold hdC1; rw [inC_sp]
theorem hdC1_sg (l : List UInt8) : hdC1 4 l = hd1 isSg l := by unfold hdC1; rw [inC_sg]
theorem hdC2_wd (l : List UInt8) : hdC2 1 2 l = hd1 isWd l := by unfold hdC2; rw [inC_wd _ rfl rfl]
end Go.Proofs.YtnoodoipghgkgaaDoor

namespace Go.Proofs
open Go.Shelf
def Tryd.lays156_ren : Go.Shelf.Ren := ⟨fun | 156 => 35 | 165 => 45 | 166 => 46 | 169 => 47 | 240 => 56 | 241 => 57 | 276 => 63 | 277 => 64 | n => n, fun | 31 => 25 | 9 => 9 | 3 => 3 | 4 => 4 | 0 => 0 | 20 => 20 | 72 => 69 | 76 => 73 | 70 => 67 | 37 => 22 | 75 => 72 | 127 => 77 | 164 => 79 | 5 => 5 | 80 => 75 | n => n, fun | n => n⟩
theorem Tryd.lays156 : Go.Proofs.Lays.n156 Tryd.prog Tryd.lays156_ren := {
  mixed := by kernel_rfl
  f156 := Tryd.func35.trans (congrArg some (by kernel_rfl))
  f165 := Tryd.func45.trans (congrArg some (by kernel_rfl))
  f166 := Tryd.func46.trans (congrArg some (by kernel_rfl))
  f169 := Tryd.func47.trans (congrArg some (by kernel_rfl))
  f240 := Tryd.func56.trans (congrArg some (by kernel_rfl))
  f241 := Tryd.func57.trans (congrArg some (by kernel_rfl))
  f276 := Tryd.func63.trans (congrArg some (by kernel_rfl))
  f277 := Tryd.func64.trans (congrArg some (by kernel_rfl))
  t0 := Tryd.underlying0
  a0 := Tryd.isAgg0
  z0 := Tryd.sizeOf0
  v0 := Tryd.zeroValue0
  t3 := Tryd.underlying3
  a3 := Tryd.isAgg3
  z3 := Tryd.sizeOf3
  v3 := Tryd.zeroValue3
  t4 := Tryd.underlying4
  a4 := Tryd.isAgg4
  z4 := Tryd.sizeOf4
  v4 := Tryd.zeroValue4
  t9 := Tryd.underlying9
  a9 := Tryd.isAgg9
  z9 := Tryd.sizeOf9
  v9 := Tryd.zeroValue9
  t20 := Tryd.underlying20
  a20 := Tryd.isAgg20
  z20 := Tryd.sizeOf20
  v20 := Tryd.zeroValue20
  t31 := Tryd.underlying25
  a31 := Tryd.isAgg25
  z31 := Tryd.sizeOf25
  v31 := Tryd.zeroValue25
  t37 := Tryd.underlying22
  a37 := Tryd.isAgg22
  z37 := Tryd.sizeOf22
  v37 := Tryd.zeroValue22
  t70 := Tryd.underlying67
  a70 := Tryd.isAgg67
  z70 := Tryd.sizeOf67
  v70 := Tryd.zeroValue67
  t72 := Tryd.underlying69
  a72 := Tryd.isAgg69
  z72 := Tryd.sizeOf69
  v72 := Tryd.zeroValue69
  t75 := Tryd.underlying72
  a75 := Tryd.isAgg72
  z75 := Tryd.sizeOf72
  v75 := Tryd.zeroValue72
  t76 := Tryd.underlying73
  a76 := Tryd.isAgg73
  z76 := Tryd.sizeOf73
  v76 := Tryd.zeroValue73
  t127 := Tryd.underlying77
  a127 := Tryd.isAgg77
  z127 := Tryd.sizeOf77
  v127 := Tryd.zeroValue77
  t164 := Tryd.underlying79
  a164 := Tryd.isAgg79
  z164 := Tryd.sizeOf79
  v164 := Tryd.zeroValue79 }
theorem Tryd.Builder_Extra_156 : Builder.Extra Tryd.prog Tryd.lays156_ren := {
  sizeBuilder := by kernel_rfl
  liesBuilder := by kernel_rfl
  t5 := Tryd.underlying5
  a5 := Tryd.isAgg5
  z5 := Tryd.sizeOf5
  v5 := Tryd.zeroValue5
  infoByte := by kernel_rfl
  cellsByte := by kernel_rfl
  sizeByte := by kernel_rfl
  neB5 := by decide }
open Go.RowKit in
/-- No element: the empty string; the world is as it was. (Whatever the slice's address and capacity: a nil slice too.) (LAID: no walk: one application.) -/
theorem Tryd.strings_Join_none (a : Option Addr) (c : Nat) (sep : ByteArray) (w : World) :
    Calls Tryd.prog 35 #[.slice a 0 c, .string sep] w fun e w' => e = .returned (.string ⟨#[]⟩) ∧ w' = w := Any.strings_Join_none Tryd.lays156 Tryd.Builder_Extra_156 a c sep w
open Go.RowKit in
/-- strings.Join: "Join concatenates the elements of its first argument to create a single string. The separator string sep is placed between elements in the resulting string.": HOWEVER MANY ELEMENTS. Below the heap's end the world is as it was. (LAID: no walk: one application.) -/
theorem Tryd.strings_Join (bk o c : Nat) (xs : List ByteArray) (sep : ByteArray) (w : World) (hcells : ∀ (j : Nat) x, xs[j]? = some x → w.cell? ⟨bk, o + j, none⟩ = some (.string x)) (hbk : bk < w.heap.size) (hN : xs.length ≤ 140737488355328) (hcap : xs.length ≤ c) (hlen : (Lib.join (xs.map (·.data.toList)) sep.data.toList).length ≤ 140737488355328) :
    Calls Tryd.prog 35 #[.slice (some ⟨bk, o, none⟩) xs.length c, .string sep] w fun e w' => e = .returned (.string ⟨(Lib.join (xs.map (·.data.toList)) sep.data.toList).toArray⟩) ∧ Below w.heap.size w w' := Any.strings_Join Tryd.lays156 Tryd.Builder_Extra_156 bk o c xs sep w hcells hbk hN hcap hlen
def Tryd.lays137_ren : Go.Shelf.Ren := ⟨fun | 137 => 48 | 217 => 58 | 266 => 65 | n => n, fun | 9 => 9 | 5 => 5 | 3 => 3 | n => n, fun | n => n⟩
theorem Tryd.lays137 : Go.Proofs.Lays.n137 Tryd.prog Tryd.lays137_ren := {
  mixed := by kernel_rfl
  f137 := Tryd.func48.trans (congrArg some (by kernel_rfl))
  f217 := Tryd.func58.trans (congrArg some (by kernel_rfl))
  f266 := Tryd.func65.trans (congrArg some (by kernel_rfl))
  t3 := Tryd.underlying3
  a3 := Tryd.isAgg3
  z3 := Tryd.sizeOf3
  v3 := Tryd.zeroValue3
  t5 := Tryd.underlying5
  a5 := Tryd.isAgg5
  z5 := Tryd.sizeOf5
  v5 := Tryd.zeroValue5
  t9 := Tryd.underlying9
  a9 := Tryd.isAgg9
  z9 := Tryd.sizeOf9
  v9 := Tryd.zeroValue9 }
open Go.RowKit in
/-- strings.IndexByte: "IndexByte returns the index of the first instance of c in s, or -1 if c is not present in s.": IT RETURNS 'Lib.indexByte s c'; the world is as it was. (LAID: no walk: one application.) -/
theorem Tryd.strings_IndexByte (s : ByteArray) (c : Int) (w : World) :
    Calls Tryd.prog 48 #[.string s, .int .u8 c] w fun e w' => e = .returned (.int .i64 (Lib.indexByte s.data.toList c.toNat.toUInt8)) ∧ w' = w := Any.strings_IndexByte Tryd.lays137 s c w
def Tryd.laysM171_ren : Go.Shelf.Ren := ⟨fun | 171 => 50 | 243 => 61 | 246 => 71 | 283 => 78 | 284 => 79 | 285 => 80 | 286 => 81 | 129 => 86 | 317 => 85 | 318 => 87 | 319 => 88 | 320 => 89 | 337 => 90 | 338 => 91 | n => n, fun | 3 => 3 | 9 => 9 | 2 => 2 | 4 => 4 | 171 => 98 | 0 => 0 | 53 => 91 | 37 => 22 | 5 => 5 | 173 => 101 | 212 => 111 | 51 => 103 | 20 => 20 | 213 => 112 | 46 => 90 | 232 => 116 | 233 => 117 | n => n, fun | 17 => 3 | 18 => 4 | 19 => 5 | n => n⟩
theorem Tryd.laysM171 : Go.Proofs.LaysM.n171 Tryd.prog Tryd.laysM171_ren := {
  mixed := by kernel_rfl
  f129 := Tryd.func86.trans (congrArg some (by kernel_rfl))
  f171 := Tryd.func50.trans (congrArg some (by kernel_rfl))
  f243 := Tryd.func61.trans (congrArg some (by kernel_rfl))
  f246 := Tryd.func71.trans (congrArg some (by kernel_rfl))
  f283 := Tryd.func78.trans (congrArg some (by kernel_rfl))
  f284 := Tryd.func79.trans (congrArg some (by kernel_rfl))
  f285 := Tryd.func80.trans (congrArg some (by kernel_rfl))
  f286 := Tryd.func81.trans (congrArg some (by kernel_rfl))
  f317 := Tryd.func85.trans (congrArg some (by kernel_rfl))
  f318 := Tryd.func87.trans (congrArg some (by kernel_rfl))
  f319 := Tryd.func88.trans (congrArg some (by kernel_rfl))
  f320 := Tryd.func89.trans (congrArg some (by kernel_rfl))
  f337 := Tryd.func90.trans (congrArg some (by kernel_rfl))
  f338 := Tryd.func91.trans (congrArg some (by kernel_rfl))
  t0 := Tryd.underlying0
  a0 := Tryd.isAgg0
  z0 := Tryd.sizeOf0
  v0 := Tryd.zeroValue0
  t2 := Tryd.underlying2
  a2 := Tryd.isAgg2
  z2 := Tryd.sizeOf2
  v2 := Tryd.zeroValue2
  t3 := Tryd.underlying3
  a3 := Tryd.isAgg3
  z3 := Tryd.sizeOf3
  v3 := Tryd.zeroValue3
  t4 := Tryd.underlying4
  a4 := Tryd.isAgg4
  z4 := Tryd.sizeOf4
  v4 := Tryd.zeroValue4
  t5 := Tryd.underlying5
  a5 := Tryd.isAgg5
  z5 := Tryd.sizeOf5
  v5 := Tryd.zeroValue5
  t9 := Tryd.underlying9
  a9 := Tryd.isAgg9
  z9 := Tryd.sizeOf9
  v9 := Tryd.zeroValue9
  t20 := Tryd.underlying20
  a20 := Tryd.isAgg20
  z20 := Tryd.sizeOf20
  v20 := Tryd.zeroValue20
  t37 := Tryd.underlying22
  a37 := Tryd.isAgg22
  z37 := Tryd.sizeOf22
  v37 := Tryd.zeroValue22
  t46 := Tryd.underlying90
  a46 := Tryd.isAgg90
  z46 := Tryd.sizeOf90
  v46 := Tryd.zeroValue90
  t51 := Tryd.underlying103
  a51 := Tryd.isAgg103
  z51 := Tryd.sizeOf103
  v51 := Tryd.zeroValue103
  t53 := Tryd.underlying91
  a53 := Tryd.isAgg91
  z53 := Tryd.sizeOf91
  v53 := Tryd.zeroValue91
  t171 := Tryd.underlying98
  a171 := Tryd.isAgg98
  z171 := Tryd.sizeOf98
  v171 := Tryd.zeroValue98
  t173 := Tryd.underlying101
  a173 := Tryd.isAgg101
  z173 := Tryd.sizeOf101
  v173 := Tryd.zeroValue101
  t212 := Tryd.underlying111
  a212 := Tryd.isAgg111
  z212 := Tryd.sizeOf111
  v212 := Tryd.zeroValue111
  t213 := Tryd.underlying112
  a213 := Tryd.isAgg112
  z213 := Tryd.sizeOf112
  t232 := Tryd.underlying116
  a232 := Tryd.isAgg116
  z232 := Tryd.sizeOf116
  v232 := Tryd.zeroValue116
  t233 := Tryd.underlying117
  a233 := Tryd.isAgg117
  z233 := Tryd.sizeOf117
  v233 := Tryd.zeroValue117
  g17 := by kernel_rfl
  g18 := by kernel_rfl
  g19 := by kernel_rfl
  i0 := by kernel_rfl
  i2 := by kernel_rfl
  i3 := by kernel_rfl
  i4 := by kernel_rfl
  i5 := by kernel_rfl
  i9 := by kernel_rfl
  i20 := by kernel_rfl
  i37 := by kernel_rfl
  i46 := by kernel_rfl
  i51 := by kernel_rfl
  i53 := by kernel_rfl
  i171 := by kernel_rfl
  i173 := by kernel_rfl
  i212 := by kernel_rfl
  i232 := by kernel_rfl
  i233 := by kernel_rfl
  m17 := by kernel_rfl
  m18 := by kernel_rfl
  m19 := by kernel_rfl }
open Go.RowKit Go.Sort Go.Lib in
/-- strconv.Itoa: "Itoa is equivalent to FormatInt(int64(i), 10).": i's DECIMAL NUMERAL ('Lib.itoa': a '-' where i is negative, then the digits), FOR EVERY int. The world behind the call: the world before it, new blocks behind the heap (the library's 'var a [24]byte'), draws. (LAID: no walk: one application.) -/
theorem Tryd.strconv_Itoa (n : Int) (h0 : -9223372036854775808 ≤ n) (h1 : n ≤ 9223372036854775807) (w : World) (htab : Lib.TabIs Tryd.prog w "internal/strconv.uint64pow10" .u64 Lib.pow10Tab) :
    Calls Tryd.prog 50 #[.int .i64 n] w fun e w' => e = .returned (.string ⟨(Lib.itoa n).toArray⟩) ∧ ∃ k os, w' = grow (w.drewN k) os := Any.strconv_Itoa Tryd.laysM171 n h0 h1 w htab
def Tryd.laysC172_ren : Go.Shelf.Ren := ⟨fun | 172 => 49 | 244 => 59 | 245 => 60 | 247 => 66 | 279 => 67 | 280 => 68 | 281 => 69 | 282 => 70 | 287 => 75 | 316 => 76 | 171 => 50 | 205 => 77 | 321 => 83 | 322 => 84 | 243 => 61 | 246 => 71 | 283 => 78 | 284 => 79 | 285 => 80 | 286 => 81 | 129 => 86 | 317 => 85 | 318 => 87 | 319 => 88 | 320 => 89 | 337 => 90 | 338 => 91 | n => n, fun | 9 => 9 | 3 => 3 | 75 => 72 | 76 => 73 | 4 => 4 | 5 => 5 | 167 => 82 | 37 => 22 | 0 => 0 | 85 => 83 | 2 => 2 | 168 => 85 | 53 => 91 | 175 => 92 | 46 => 90 | 210 => 96 | 127 => 77 | 145 => 109 | 143 => 107 | 21 => 21 | 171 => 98 | 173 => 101 | 212 => 111 | 51 => 103 | 20 => 20 | 213 => 112 | 232 => 116 | 233 => 117 | 80 => 75 | n => n, fun | 15 => 1 | 16 => 2 | 17 => 3 | 18 => 4 | 19 => 5 | n => n⟩
theorem Tryd.laysC172 : Go.Proofs.LaysC.n172 Tryd.prog Tryd.laysC172_ren := {
  mixed := by kernel_rfl
  f129 := Tryd.func86.trans (congrArg some (by kernel_rfl))
  f171 := Tryd.func50.trans (congrArg some (by kernel_rfl))
  f172 := Tryd.func49.trans (congrArg some (by kernel_rfl))
  f205 := Tryd.func77.trans (congrArg some (by kernel_rfl))
  f243 := Tryd.func61.trans (congrArg some (by kernel_rfl))
  f244 := Tryd.func59.trans (congrArg some (by kernel_rfl))
  f245 := Tryd.func60.trans (congrArg some (by kernel_rfl))
  f246 := Tryd.func71.trans (congrArg some (by kernel_rfl))
  f247 := Tryd.func66.trans (congrArg some (by kernel_rfl))
  f279 := Tryd.func67.trans (congrArg some (by kernel_rfl))
  f280 := Tryd.func68.trans (congrArg some (by kernel_rfl))
  f281 := Tryd.func69.trans (congrArg some (by kernel_rfl))
  f282 := Tryd.func70.trans (congrArg some (by kernel_rfl))
  f283 := Tryd.func78.trans (congrArg some (by kernel_rfl))
  f284 := Tryd.func79.trans (congrArg some (by kernel_rfl))
  f285 := Tryd.func80.trans (congrArg some (by kernel_rfl))
  f286 := Tryd.func81.trans (congrArg some (by kernel_rfl))
  f287 := Tryd.func75.trans (congrArg some (by kernel_rfl))
  f316 := Tryd.func76.trans (congrArg some (by kernel_rfl))
  f317 := Tryd.func85.trans (congrArg some (by kernel_rfl))
  f318 := Tryd.func87.trans (congrArg some (by kernel_rfl))
  f319 := Tryd.func88.trans (congrArg some (by kernel_rfl))
  f320 := Tryd.func89.trans (congrArg some (by kernel_rfl))
  f321 := Tryd.func83.trans (congrArg some (by kernel_rfl))
  f322 := Tryd.func84.trans (congrArg some (by kernel_rfl))
  f337 := Tryd.func90.trans (congrArg some (by kernel_rfl))
  f338 := Tryd.func91.trans (congrArg some (by kernel_rfl))
  t0 := Tryd.underlying0
  a0 := Tryd.isAgg0
  z0 := Tryd.sizeOf0
  v0 := Tryd.zeroValue0
  t2 := Tryd.underlying2
  a2 := Tryd.isAgg2
  z2 := Tryd.sizeOf2
  v2 := Tryd.zeroValue2
  t3 := Tryd.underlying3
  a3 := Tryd.isAgg3
  z3 := Tryd.sizeOf3
  v3 := Tryd.zeroValue3
  t4 := Tryd.underlying4
  a4 := Tryd.isAgg4
  z4 := Tryd.sizeOf4
  v4 := Tryd.zeroValue4
  t5 := Tryd.underlying5
  a5 := Tryd.isAgg5
  z5 := Tryd.sizeOf5
  v5 := Tryd.zeroValue5
  t9 := Tryd.underlying9
  a9 := Tryd.isAgg9
  z9 := Tryd.sizeOf9
  v9 := Tryd.zeroValue9
  t20 := Tryd.underlying20
  a20 := Tryd.isAgg20
  z20 := Tryd.sizeOf20
  v20 := Tryd.zeroValue20
  t21 := Tryd.underlying21
  a21 := Tryd.isAgg21
  z21 := Tryd.sizeOf21
  v21 := Tryd.zeroValue21
  t37 := Tryd.underlying22
  a37 := Tryd.isAgg22
  z37 := Tryd.sizeOf22
  v37 := Tryd.zeroValue22
  t46 := Tryd.underlying90
  a46 := Tryd.isAgg90
  z46 := Tryd.sizeOf90
  v46 := Tryd.zeroValue90
  t51 := Tryd.underlying103
  a51 := Tryd.isAgg103
  z51 := Tryd.sizeOf103
  v51 := Tryd.zeroValue103
  t53 := Tryd.underlying91
  a53 := Tryd.isAgg91
  z53 := Tryd.sizeOf91
  v53 := Tryd.zeroValue91
  t75 := Tryd.underlying72
  a75 := Tryd.isAgg72
  z75 := Tryd.sizeOf72
  v75 := Tryd.zeroValue72
  t76 := Tryd.underlying73
  a76 := Tryd.isAgg73
  z76 := Tryd.sizeOf73
  v76 := Tryd.zeroValue73
  t85 := Tryd.underlying83
  a85 := Tryd.isAgg83
  z85 := Tryd.sizeOf83
  v85 := Tryd.zeroValue83
  t127 := Tryd.underlying77
  a127 := Tryd.isAgg77
  z127 := Tryd.sizeOf77
  v127 := Tryd.zeroValue77
  t143 := Tryd.underlying107
  a143 := Tryd.isAgg107
  z143 := Tryd.sizeOf107
  v143 := Tryd.zeroValue107
  t145 := Tryd.underlying109
  a145 := Tryd.isAgg109
  z145 := Tryd.sizeOf109
  v145 := Tryd.zeroValue109
  t167 := Tryd.underlying82
  a167 := Tryd.isAgg82
  z167 := Tryd.sizeOf82
  v167 := Tryd.zeroValue82
  t168 := Tryd.underlying85
  a168 := Tryd.isAgg85
  z168 := Tryd.sizeOf85
  v168 := Tryd.zeroValue85
  t171 := Tryd.underlying98
  a171 := Tryd.isAgg98
  z171 := Tryd.sizeOf98
  v171 := Tryd.zeroValue98
  t173 := Tryd.underlying101
  a173 := Tryd.isAgg101
  z173 := Tryd.sizeOf101
  v173 := Tryd.zeroValue101
  t175 := Tryd.underlying92
  a175 := Tryd.isAgg92
  z175 := Tryd.sizeOf92
  v175 := Tryd.zeroValue92
  t210 := Tryd.underlying96
  a210 := Tryd.isAgg96
  z210 := Tryd.sizeOf96
  v210 := Tryd.zeroValue96
  t212 := Tryd.underlying111
  a212 := Tryd.isAgg111
  z212 := Tryd.sizeOf111
  v212 := Tryd.zeroValue111
  t213 := Tryd.underlying112
  a213 := Tryd.isAgg112
  z213 := Tryd.sizeOf112
  t232 := Tryd.underlying116
  a232 := Tryd.isAgg116
  z232 := Tryd.sizeOf116
  v232 := Tryd.zeroValue116
  t233 := Tryd.underlying117
  a233 := Tryd.isAgg117
  z233 := Tryd.sizeOf117
  v233 := Tryd.zeroValue117
  g15 := by kernel_rfl
  g16 := by kernel_rfl
  g17 := by kernel_rfl
  g18 := by kernel_rfl
  g19 := by kernel_rfl
  t80 := Tryd.underlying75
  a80 := Tryd.isAgg75
  z80 := Tryd.sizeOf75
  v80 := Tryd.zeroValue75
  i0 := by kernel_rfl
  i2 := by kernel_rfl
  i3 := by kernel_rfl
  i4 := by kernel_rfl
  i5 := by kernel_rfl
  i9 := by kernel_rfl
  i20 := by kernel_rfl
  i21 := by kernel_rfl
  i37 := by kernel_rfl
  i46 := by kernel_rfl
  i51 := by kernel_rfl
  i53 := by kernel_rfl
  i75 := by kernel_rfl
  i76 := by kernel_rfl
  i80 := by kernel_rfl
  i85 := by kernel_rfl
  i127 := by kernel_rfl
  i143 := by kernel_rfl
  i145 := by kernel_rfl
  i167 := by kernel_rfl
  i168 := by kernel_rfl
  i171 := by kernel_rfl
  i173 := by kernel_rfl
  i175 := by kernel_rfl
  i210 := by kernel_rfl
  i212 := by kernel_rfl
  i232 := by kernel_rfl
  i233 := by kernel_rfl
  m15 := by kernel_rfl
  m16 := by kernel_rfl
  m17 := by kernel_rfl
  m18 := by kernel_rfl
  m19 := by kernel_rfl
  c0 := by kernel_rfl
  c2 := by kernel_rfl
  c3 := by kernel_rfl
  c4 := by kernel_rfl
  c5 := by kernel_rfl
  c9 := by kernel_rfl
  c20 := by kernel_rfl
  c21 := by kernel_rfl
  c37 := by kernel_rfl
  c46 := by kernel_rfl
  c51 := by kernel_rfl
  c53 := by kernel_rfl
  c75 := by kernel_rfl
  c76 := by kernel_rfl
  c80 := by kernel_rfl
  c85 := by kernel_rfl
  c127 := by kernel_rfl
  c143 := by kernel_rfl
  c145 := by kernel_rfl
  c167 := by kernel_rfl
  c168 := by kernel_rfl
  c171 := by kernel_rfl
  c173 := by kernel_rfl
  c175 := by kernel_rfl
  c210 := by kernel_rfl
  c212 := by kernel_rfl
  c213 := by kernel_rfl
  c232 := by kernel_rfl
  c233 := by kernel_rfl }
open Go.RowKit in
/-- strconv.Atoi, AT EVERY STRING THAT SPELLS AN int ('Lib.atoiAll .. = .ok v'; of whatever length: leading zeros count): v, AND NO ERROR. The world: as it was, or with the one new row that '[]byte(..)' lays. (LAID: no walk: one application.) -/
theorem Tryd.strconv_Atoi_ok (s : ByteArray) (hmax : s.size ≤ 9223372036854775806) (v : Int) (h : Lib.atoiAll s.data.toList = .ok v) (w : World) :
    Calls Tryd.prog 49 #[.string s] w fun e w' => e = .returned (.tuple #[.int .i64 v, .nilIface]) ∧ (w' = w ∨ ∃ t, w' = Lib.bytesWorld w 5 t) := Any.strconv_Atoi_ok Tryd.laysC172 s hmax v h w
open Go.RowKit in
/-- strconv.Atoi, AT EVERY NUMERAL THAT NO int HOLDS ('.range'): THE GREATEST OR THE LEAST int, BY THE SIGN ('Lib.atoiSat'), AND AN ERROR THAT IS NOT nil: a *NumError in a new block N: {Func: "Atoi", Num: s's bytes, Err: what the variable ErrRange holds}. Of what was there nothing has turned. (LAID: no walk: one application.) -/
theorem Tryd.strconv_Atoi_range (s : ByteArray) (hlim : s.size ≤ 281474976710656) (h : Lib.atoiAll s.data.toList = .range) (ev : Value) (w : World) (hv : w.cell? ⟨2, 0, none⟩ = some ev) (hev : ev = .nilIface ∨ ∃ te pe, ev = .iface te pe) :
    Calls Tryd.prog 49 #[.string s] w fun e w' => ∃ N, e = .returned (.tuple #[.int .i64 (Lib.atoiSat s.data.toList), .iface 85 (.pointer (some ⟨N, 0, none⟩))]) ∧ w.heap.size ≤ N ∧ w'.heap[N]? = some (.cells #[.string ⟨#[65, 116, 111, 105]⟩, .string s, ev] 96 (0, 0)) ∧ Below w.heap.size w w' := Any.strconv_Atoi_range Tryd.laysC172 s hlim h ev w hv hev
def Tryd.lays138_ren : Go.Shelf.Ren := ⟨fun | 138 => 43 | 195 => 52 | 218 => 53 | 143 => 54 | 219 => 62 | 217 => 58 | 225 => 72 | 224 => 73 | 267 => 74 | 266 => 65 | 314 => 82 | n => n, fun | 9 => 9 | 3 => 3 | 4 => 4 | 5 => 5 | 0 => 0 | 46 => 90 | 146 => 104 | 51 => 103 | n => n, fun | 1 => 0 | n => n⟩
theorem Tryd.lays138 : Go.Proofs.Lays.n138 Tryd.prog Tryd.lays138_ren := {
  mixed := by kernel_rfl
  f138 := Tryd.func43.trans (congrArg some (by kernel_rfl))
  f143 := Tryd.func54.trans (congrArg some (by kernel_rfl))
  f195 := Tryd.func52.trans (congrArg some (by kernel_rfl))
  f217 := Tryd.func58.trans (congrArg some (by kernel_rfl))
  f218 := Tryd.func53.trans (congrArg some (by kernel_rfl))
  f219 := Tryd.func62.trans (congrArg some (by kernel_rfl))
  f224 := Tryd.func73.trans (congrArg some (by kernel_rfl))
  f225 := Tryd.func72.trans (congrArg some (by kernel_rfl))
  f266 := Tryd.func65.trans (congrArg some (by kernel_rfl))
  f267 := Tryd.func74.trans (congrArg some (by kernel_rfl))
  f314 := Tryd.func82.trans (congrArg some (by kernel_rfl))
  t0 := Tryd.underlying0
  a0 := Tryd.isAgg0
  z0 := Tryd.sizeOf0
  v0 := Tryd.zeroValue0
  t3 := Tryd.underlying3
  a3 := Tryd.isAgg3
  z3 := Tryd.sizeOf3
  v3 := Tryd.zeroValue3
  t4 := Tryd.underlying4
  a4 := Tryd.isAgg4
  z4 := Tryd.sizeOf4
  v4 := Tryd.zeroValue4
  t5 := Tryd.underlying5
  a5 := Tryd.isAgg5
  z5 := Tryd.sizeOf5
  v5 := Tryd.zeroValue5
  t9 := Tryd.underlying9
  a9 := Tryd.isAgg9
  z9 := Tryd.sizeOf9
  v9 := Tryd.zeroValue9
  t46 := Tryd.underlying90
  a46 := Tryd.isAgg90
  z46 := Tryd.sizeOf90
  v46 := Tryd.zeroValue90
  t51 := Tryd.underlying103
  a51 := Tryd.isAgg103
  z51 := Tryd.sizeOf103
  v51 := Tryd.zeroValue103
  t146 := Tryd.underlying104
  a146 := Tryd.isAgg104
  z146 := Tryd.sizeOf104
  v146 := Tryd.zeroValue104
  g1 := by kernel_rfl }
open Go.RowKit Go.Lib in
/-- strings.Count AT A substr OF ONE BYTE ('hp'): "Count counts the number of non-overlapping instances of substr in s.": IT RETURNS 'Lib.countByte s (that byte)'; the world is as it was. ✋ NO CONTRACT HERE YET at an empty substr (utf8.RuneCountInString) or at a longer one (a loop over strings.Index). (LAID: no walk: one application.) -/
theorem Tryd.strings_Count_one (s : ByteArray) (c : UInt8) (w : World) :
    Calls Tryd.prog 43 #[.string s, .string ⟨#[c]⟩] w fun e w' => e = .returned (.int .i64 (Lib.countByte s.data.toList c)) ∧ w' = w := Any.strings_Count_one Tryd.lays138 s c w
def Tryd.lays149_ren : Go.Shelf.Ren := ⟨fun | 149 => 44 | 222 => 55 | n => n, fun | 9 => 9 | 5 => 5 | 3 => 3 | 4 => 4 | n => n, fun | n => n⟩
theorem Tryd.lays149 : Go.Proofs.Lays.n149 Tryd.prog Tryd.lays149_ren := {
  mixed := by kernel_rfl
  f149 := Tryd.func44.trans (congrArg some (by kernel_rfl))
  f222 := Tryd.func55.trans (congrArg some (by kernel_rfl))
  t3 := Tryd.underlying3
  a3 := Tryd.isAgg3
  z3 := Tryd.sizeOf3
  v3 := Tryd.zeroValue3
  t4 := Tryd.underlying4
  a4 := Tryd.isAgg4
  z4 := Tryd.sizeOf4
  v4 := Tryd.zeroValue4
  t5 := Tryd.underlying5
  a5 := Tryd.isAgg5
  z5 := Tryd.sizeOf5
  v5 := Tryd.zeroValue5
  t9 := Tryd.underlying9
  a9 := Tryd.isAgg9
  z9 := Tryd.sizeOf9
  v9 := Tryd.zeroValue9 }
open Go.RowKit Go.Lib in
/-- strings.LastIndexByte: "LastIndexByte returns the index of the last instance of c in s, or -1 if c is not present in s." (LAID: no walk: one application.) -/
theorem Tryd.strings_LastIndexByte (s : ByteArray) (c : Int) (hs : s.size < 4611686018427387904) (w : World) :
    Calls Tryd.prog 44 #[.string s, .int .u8 c] w fun e w' => e = .returned (.int .i64 (Lib.lastIndexByte s c)) ∧ w' = w := Any.strings_LastIndexByte Tryd.lays149 s c hs w
def Tryd.lays99_ren : Go.Shelf.Ren := ⟨fun | 99 => 42 | 206 => 51 | n => n, fun | 9 => 9 | 4 => 4 | 3 => 3 | n => n, fun | n => n⟩
theorem Tryd.lays99 : Go.Proofs.Lays.n99 Tryd.prog Tryd.lays99_ren := {
  mixed := by kernel_rfl
  f99 := Tryd.func42.trans (congrArg some (by kernel_rfl))
  f206 := Tryd.func51.trans (congrArg some (by kernel_rfl))
  t3 := Tryd.underlying3
  a3 := Tryd.isAgg3
  z3 := Tryd.sizeOf3
  v3 := Tryd.zeroValue3
  t4 := Tryd.underlying4
  a4 := Tryd.isAgg4
  z4 := Tryd.sizeOf4
  v4 := Tryd.zeroValue4
  t9 := Tryd.underlying9
  a9 := Tryd.isAgg9
  z9 := Tryd.sizeOf9
  v9 := Tryd.zeroValue9 }
open Go.RowKit Go.Lib in
/-- strings.HasPrefix: "HasPrefix reports whether the string s begins with prefix.": IT RETURNS 'Lib.hasPrefix s prefix'; the world is as it was. (LAID: no walk: one application.) -/
theorem Tryd.strings_HasPrefix (s p : ByteArray) (w : World) :
    Calls Tryd.prog 42 #[.string s, .string p] w fun e w' => e = .returned (.bool (Lib.hasPrefix s.data.toList p.data.toList)) ∧ w' = w := Any.strings_HasPrefix Tryd.lays99 s p w
end Go.Proofs

namespace Go.Proofs.YtnoodoipghgkgaaDoor
open Go.Sx Go.RowKit Go.Sort
set_option maxRecDepth 100000

/-! ### The library's functions -/
theorem rep_pair {w : World} {F : Nat → Prop} {a b : Value} {x y : SV} (h1 : Rep w emp F a x) (h2 : Rep w emp F b y) : Rep w emp F (.tuple #[a, b]) (.tup [x, y]) := by
  refine .tup _ _ rfl fun i hi => ?_
  match i, hi with
  | 0, _ => exact h1
  | 1, _ => exact h2
theorem gTab : Tryd.prog.globalNamed "internal/strconv.uint64pow10" = some 3 := by kernel_rfl
noncomputable def cItoa : Ctr := fun ss => match ss with
  | [.d (.x (.int .i64 n))] => .need (-9223372036854775808 ≤ n ∧ n ≤ 9223372036854775807) (.ret (strV (itoaC n)))
  | _ => .fail
theorem cItoa_ok : CtrOK Tryd.prog 50 cItoa := by
  refine ctrOK_calls fun ss vs w F r hF hgl hr h => ?_
  unfold cItoa at h
  split at h
  · rename_i n
    obtain ⟨⟨h0, h1⟩, rfl⟩ := h
    rw [repsX [.int .i64 n] hr, itoaC_eq h0 h1]
    obtain ⟨_, e, fr, ho⟩ := hgl.one 3 (okTab Lib.pow10Tab) rfl
    have htab : Lib.TabIs Tryd.prog w "internal/strconv.uint64pow10" .u64 Lib.pow10Tab := by
      unfold Lib.TabIs World.var?
      rw [gTab]
      simp only [Option.bind_some, ho]
    refine (Tryd.strconv_Itoa n h0 h1 w htab).mono ?_
    rintro e' w' ⟨rfl, k, os, rfl⟩
    exact ⟨_, rfl, below_grow w k os, .d (.x _)⟩
  · exact h.elim
noncomputable def errV : SV := .ifc 85 (.rop 0 fun _ => .x undef)
noncomputable def cAtoi : Ctr := fun ss => match ss with
  | [.d (.x (.string s))] => .need (s.size ≤ 281474976710656) (.ite (atoiOK s.data.toList) (.ret (.tup [iv (atoiV s.data.toList), .d (.x .nilIface)])) (.ret (.tup [iv (atoiV s.data.toList), errV])))
  | _ => .fail
theorem cAtoi_ok : CtrOK Tryd.prog 49 cAtoi := by
  refine ctrOK_calls fun ss vs w F r hF hgl hr h => ?_
  unfold cAtoi at h
  split at h
  · rename_i s
    obtain ⟨h0, h⟩ := h
    rw [repsX [.string s] hr]
    unfold atoiOK atoiV at h
    rcases ha : Lib.atoiAll s.data.toList with v | _ | _
    · rw [ha] at h
      rcases h with ⟨_, rfl⟩ | ⟨h, _⟩
      · refine (Tryd.strconv_Atoi_ok s (by omega) v ha w).mono ?_
        rintro e w' ⟨rfl, hw⟩
        refine ⟨_, rfl, ?_, rep_pair (.d (.x _)) (.d (.x _))⟩
        rcases hw with rfl | ⟨t, rfl⟩
        · exact Below.refl _ _
        · exact Lib.bytesWorld_below _ _ _
      · cases h
    · rw [ha] at h
      rcases h with ⟨h, _⟩ | ⟨_, rfl⟩
      · cases h
      obtain ⟨t, p, hc⟩ := okErr_cell (hgl.one 1 okErr rfl).2
      refine (Any.strconv_Atoi_syntax Tryd.laysC172 s h0 ha _ w hc (.inr ⟨t, p, rfl⟩)).mono ?_
      rintro e w' ⟨N, rfl, _, _, hb⟩
      exact ⟨_, rfl, hb, rep_pair (.d (.x _)) (rep_err rfl)⟩
    · rw [ha] at h
      rcases h with ⟨h, _⟩ | ⟨_, rfl⟩
      · cases h
      obtain ⟨t, p, hc⟩ := okErr_cell (hgl.one 2 okErr rfl).2
      refine (Tryd.strconv_Atoi_range s h0 ha _ w hc (.inr ⟨t, p, rfl⟩)).mono ?_
      rintro e w' ⟨N, rfl, _, _, hb⟩
      exact ⟨_, rfl, hb, rep_pair (.d (.x _)) (rep_err rfl)⟩
  · exact h.elim
noncomputable def cHp : Ctr := fun ss => match ss with
  | [.d (.x (.string s)), .d (.x (.string p))] => .ret (bv (List.isPrefixOf p.data.toList s.data.toList))
  | _ => .fail
theorem cHp_ok : CtrOK Tryd.prog 42 cHp := by
  refine ctrOK_calls fun ss vs w F r hF hgl hr h => ?_
  unfold cHp at h
  split at h
  · rename_i s p
    cases h
    rw [repsX [.string s, .string p] hr]
    refine (Tryd.strings_HasPrefix s p w).mono ?_
    rintro e w' ⟨rfl, rfl⟩
    exact ⟨_, rfl, Below.refl _ _, .d (.x _)⟩
  · exact h.elim
noncomputable def cIb : Ctr := fun ss => match ss with
  | [.d (.x (.string s)), .d (.x (.int .u8 c))] => .ret (iv (Lib.indexByte s.data.toList c.toNat.toUInt8))
  | _ => .fail
theorem cIb_ok : CtrOK Tryd.prog 48 cIb := by
  refine ctrOK_calls fun ss vs w F r hF hgl hr h => ?_
  unfold cIb at h
  split at h
  · rename_i s c
    cases h
    rw [repsX [.string s, .int .u8 c] hr]
    refine (Tryd.strings_IndexByte s c w).mono ?_
    rintro e w' ⟨rfl, rfl⟩
    exact ⟨_, rfl, Below.refl _ _, .d (.x _)⟩
  · exact h.elim
noncomputable def cCo : Ctr := fun ss => match ss with
  | [.d (.x (.string s)), .d (.x (.string p))] => .need (p = strB [10]) (.ret (iv (s.data.toList.count 10)))
  | _ => .fail
theorem cCo_ok : CtrOK Tryd.prog 43 cCo := by
  refine ctrOK_calls fun ss vs w F r hF hgl hr h => ?_
  unfold cCo at h
  split at h
  · rename_i s p
    obtain ⟨rfl, rfl⟩ := h
    rw [repsX [.string s, .string (strB [10])] hr]
    refine (Tryd.strings_Count_one s 10 w).mono ?_
    rintro e w' ⟨rfl, rfl⟩
    exact ⟨_, rfl, Below.refl _ _, .d (.x _)⟩
  · exact h.elim
noncomputable def cLi : Ctr := fun ss => match ss with
  | [.d (.x (.string s)), .d (.x (.int .u8 c))] => .need (s.size < 4611686018427387904) (.ret (iv (Lib.lastIndexByte s c)))
  | _ => .fail
theorem cLi_ok : CtrOK Tryd.prog 44 cLi := by
  refine ctrOK_calls fun ss vs w F r hF hgl hr h => ?_
  unfold cLi at h
  split at h
  · rename_i s c
    obtain ⟨h0, rfl⟩ := h
    rw [repsX [.string s, .int .u8 c] hr]
    refine (Tryd.strings_LastIndexByte s c h0 w).mono ?_
    rintro e w' ⟨rfl, rfl⟩
    exact ⟨_, rfl, Below.refl _ _, .d (.x _)⟩
  · exact h.elim
theorem inter_joinL : ∀ xs : List (List UInt8), Lib.join xs [32] = joinL xs
  | [] => rfl
  | x :: r => by
    rw [Lib.join_cons]
    unfold joinL Lib.joinTail
    congr 1
    induction r with
    | nil => rfl
    | cons y r ih =>
      simp only [List.map_cons, List.flatten_cons, tailJ, List.cons_append, List.nil_append] at ih ⊢
      rw [ih]
noncomputable def cJn : Ctr := fun ss => match ss with
  | [.d (.ro n 1 c), .d (.x (.string p))] => .need (p = strB [32] ∧ n ≤ 100000 ∧ (∀ i, i < n → c i 0 = .x (.string (strB (strAt c i)))) ∧ (joinL (cellsT n c)).length ≤ 100000) (.ret (strV (joinL (cellsT n c))))
  | [.d (.x (.slice none 0 0)), .d (.x (.string p))] => .need (p = strB [32]) (.ret (strV []))
  | _ => .fail
theorem cJn_ok : CtrOK Tryd.prog 35 cJn := by
  refine ctrOK_calls fun ss vs w F r hF hgl hr h => ?_
  unfold cJn at h
  split at h
  · rename_i n c p
    obtain ⟨⟨rfl, hn, hc, hl⟩, rfl⟩ := h
    obtain ⟨h1, h2⟩ := hr
    have r0 := h2 0 (by simp)
    have r1 := h2 1 (by simp)
    have e1 : vs.getD 1 undef = .string (strB [32]) := rep_x r1
    have hvs : vs = #[vs.getD 0 undef, .string (strB [32])] := by
      rw [← e1]
      apply Array.ext
      · exact h1
      · intro i hi hi2
        simp at hi2
        match i, hi2 with
        | 0, _ => simp [Array.getD, hi]
        | 1, _ => simp [Array.getD, hi]
    rw [hvs]
    generalize vs.getD 0 undef = v at r0
    have r0' := rep_d r0
    have key0 : n = 0 → ∀ a cap, v = .slice a 0 cap → Calls Tryd.prog 35 #[v, .string (strB [32])] w fun e w' => ∃ v, e = .returned v ∧ Below w.heap.size w w' ∧ Rep w' emp F v (strV (joinL (cellsT n c))) := by
      rintro rfl a cap rfl
      refine (Tryd.strings_Join_none a cap (strB [32]) w).mono ?_
      rintro e w' ⟨rfl, rfl⟩
      exact ⟨_, rfl, Below.refl _ _, .d (.x _)⟩
    cases r0' with
    | nil => exact key0 rfl _ _ rfl
    | z => exact key0 rfl _ _ rfl
    | ro b o _ cap _ _ f hF2 hcap hcell hone hrep =>
      by_cases h0 : n = 0
      · subst h0; exact key0 rfl _ _ rfl
      have hf : ∀ i, i < n → f i 0 = .string (strB (strAt c i)) := by
        intro i hi
        have := hrep i 0 hi (by omega)
        rw [hc i hi] at this
        exact repd_x this
      have hx : ((List.range n).map fun i => strB (strAt c i)).length = n := by simp
      have hm : (((List.range n).map fun i => strB (strAt c i)).map fun s => s.data.toList) = cellsT n c := by
        unfold cellsT
        rw [List.map_map]
        exact List.map_congr_left fun i _ => strB_list _
      have := Tryd.strings_Join b o cap ((List.range n).map fun i => strB (strAt c i)) (strB [32]) w (fun j x hj => by
        have hj2 : j < n := by
          rcases Nat.lt_or_ge j n with h | h
          · exact h
          · rw [List.getElem?_eq_none (by rw [hx]; exact h)] at hj; cases hj
        have hj3 : x = strB (strAt c j) := by
          rw [List.getElem?_map, List.getElem?_range hj2] at hj
          simpa using hj.symm
        have := hcell j 0 hj2 (by omega)
        rw [hf j hj2, Nat.mul_one, Nat.add_zero] at this
        rw [hj3]; exact this) (hF b (hF2 h0)) (by rw [hx]; omega) (by rw [hx]; exact hcap) (by
          rw [hm, show (strB [32]).data.toList = [32] from rfl, inter_joinL]; omega)
      rw [hx, hm, show (strB [32]).data.toList = [32] from rfl, inter_joinL] at this
      refine this.mono ?_
      rintro e w' ⟨rfl, hb⟩
      exact ⟨_, rfl, hb, .d (.x _)⟩
  · rename_i p
    obtain ⟨rfl, rfl⟩ := h
    rw [repsX [.slice none 0 0, .string (strB [32])] hr]
    refine (Tryd.strings_Join_none none 0 (strB [32]) w).mono ?_
    rintro e w' ⟨rfl, rfl⟩
    exact ⟨_, rfl, Below.refl _ _, .d (.x _)⟩
  · exact h.elim
end Go.Proofs.YtnoodoipghgkgaaDoor

/- Plain laws of numerals and words. -/
namespace Go.Sx

theorem snoc_ind {α : Type} {P : List α → Prop} (h0 : P []) (h1 : ∀ l a, P l → P (l ++ [a])) (l : List α) : P l := by
  have : ∀ l : List α, P l.reverse := by
    intro l
    induction l with
    | nil => exact h0
    | cons a l ih => rw [List.reverse_cons]; exact h1 _ _ ih
  have h := this l.reverse
  rwa [List.reverse_reverse] at h
theorem isDg_nat {b : UInt8} : isDg b = true ↔ 48 ≤ b.toNat ∧ b.toNat ≤ 57 := by
  unfold isDg; simp
theorem isLet_nat {b : UInt8} : isLet b = true ↔ 97 ≤ b.toNat ∧ b.toNat ≤ 122 := by
  unfold isLet; simp
theorem isWd_nat {b : UInt8} : isWd b = true ↔ (97 ≤ b.toNat ∧ b.toNat ≤ 122) ∨ (48 ≤ b.toNat ∧ b.toNat ≤ 57) := by
  unfold isWd; rw [Bool.or_eq_true, isLet_nat, isDg_nat]
theorem dval_snoc (l : List UInt8) (d : UInt8) : dval (l ++ [d]) = 10 * dval l + (d.toNat - 48) := by
  unfold dval; rw [List.foldl_append]; rfl
theorem dval_nil : dval [] = 0 := rfl
theorem dval_mono (l r : List UInt8) : dval l ≤ dval (l ++ r) := by
  refine snoc_ind (P := fun r => dval l ≤ dval (l ++ r)) (by simp) (fun r d ih => ?_) r
  rw [← List.append_assoc, dval_snoc]; omega
theorem hd1_snoc {p : UInt8 → Bool} {l : List UInt8} (d : UInt8) (h : l ≠ []) : hd1 p (l ++ [d]) = hd1 p l := by
  cases l with
  | nil => exact absurd rfl h
  | cons a l => rfl
/-- A numeral without a zero at its head that is not alone. -/
def lead (l : List UInt8) : Bool := decide (l.length ≤ 1) || !(hd1 (· == 48) l)
theorem dval_ge : ∀ l : List UInt8, l ≠ [] → l.all isDg = true → hd1 (· == 48) l = false → 10 ^ (l.length - 1) ≤ dval l := by
  refine snoc_ind (by simp) fun l d ih _ ha hh => ?_
  by_cases h0 : l = []
  · subst h0
    simp only [List.nil_append, List.all_cons, List.all_nil, Bool.and_true] at ha
    simp only [List.nil_append, hd1, beq_eq_false_iff_ne] at hh
    have h1 := isDg_nat.1 ha
    have h2 : d.toNat ≠ 48 := fun e => hh (UInt8.toNat_inj.1 e)
    have : dval ([] ++ [d]) = d.toNat - 48 := by rw [dval_snoc, dval_nil]; omega
    rw [this]
    show 10 ^ 0 ≤ _
    omega
  · rw [hd1_snoc _ h0] at hh
    rw [List.all_append, Bool.and_eq_true] at ha
    have := ih h0 ha.1 hh
    have hl : 0 < l.length := List.length_pos_iff.2 h0
    rw [dval_snoc, List.length_append, List.length_singleton]
    obtain ⟨n, hn⟩ : ∃ n, l.length = n + 1 := ⟨l.length - 1, by omega⟩
    rw [hn] at this ⊢
    have e : 10 ^ (n + 1 + 1 - 1) = 10 * 10 ^ (n + 1 - 1) := by
      show 10 ^ (n + 1) = 10 * 10 ^ n
      rw [Nat.pow_succ]; omega
    rw [e]; omega
theorem chr_dig {d : UInt8} (h : isDg d = true) : UInt8.ofNat (48 + (d.toNat - 48)) = d := by
  have h1 := isDg_nat.1 h
  have : 48 + (d.toNat - 48) = d.toNat := by omega
  rw [this]; simp
theorem dec_of : ∀ l : List UInt8, l ≠ [] → l.all isDg = true → lead l = true → ∀ m, l.length ≤ m → decF m (dval l) = l := by
  refine snoc_ind (by simp) fun l d ih _ ha hh m hm => ?_
  rw [List.all_append, Bool.and_eq_true, List.all_cons, List.all_nil, Bool.and_true] at ha
  have hd := isDg_nat.1 ha.2
  rw [List.length_append, List.length_singleton] at hm
  obtain ⟨k, rfl⟩ : ∃ k, m = k + 1 := ⟨m - 1, by omega⟩
  rw [dval_snoc]
  by_cases h0 : l = []
  · subst h0
    rw [dval_nil, decF_pos (k + 1) _ (by omega) (by omega)]
    have : 48 + (10 * 0 + (d.toNat - 48)) = 48 + (d.toNat - 48) := by omega
    rw [this, chr_dig ha.2]; rfl
  · have hl : 0 < l.length := List.length_pos_iff.2 h0
    unfold lead at hh
    rw [hd1_snoc _ h0, List.length_append, List.length_singleton, Bool.or_eq_true, decide_eq_true_eq] at hh
    have hh : hd1 (· == 48) l = false := by
      rcases hh with h | h
      · omega
      · simpa using h
    have hge := dval_ge l h0 ha.1 hh
    have hp : 0 < 10 ^ (l.length - 1) := Nat.pow_pos (by omega)
    rw [decF_step (by omega)]
    have e1 : (10 * dval l + (d.toNat - 48)) / 10 = dval l := by omega
    have e2 : (10 * dval l + (d.toNat - 48)) % 10 = d.toNat - 48 := by omega
    rw [e1, e2, chr_dig ha.2, ih h0 ha.1 (by unfold lead; rw [hh]; simp) k (by omega)]
theorem numK_iff {l : List UInt8} : numK l = true ↔ l.all isDg = true ∧ dval l ≤ 1000000 ∧ lead l = true := by
  unfold numK lead
  rw [Bool.and_eq_true, Bool.and_eq_true, decide_eq_true_eq, and_assoc]
theorem numK_len {l : List UInt8} (h : numK l = true) : l.length ≤ 7 := by
  obtain ⟨h1, h2, h3⟩ := numK_iff.1 h
  by_cases h0 : l = []
  · subst h0; simp
  · unfold lead at h3
    rw [Bool.or_eq_true, decide_eq_true_eq] at h3
    rcases h3 with h3 | h3
    · omega
    · have := dval_ge l h0 h1 (by simpa using h3)
      rcases Nat.lt_or_ge 7 l.length with h4 | h4
      · have h5 : 10 ^ 7 ≤ 10 ^ (l.length - 1) := Nat.pow_le_pow_right (by omega) (by omega)
        have h6 : (10 : Nat) ^ 7 = 10000000 := by decide
        omega
      · exact h4
theorem numK_dec {l : List UInt8} (h0 : l ≠ []) (h : numK l = true) : l = decF 19 (dval l) ∧ dval l ≤ 1000000 := by
  obtain ⟨h1, h2, h3⟩ := numK_iff.1 h
  exact ⟨(dec_of l h0 h1 h3 19 (by have := numK_len h; omega)).symm, h2⟩
theorem dec_hd : ∀ (m u : Nat), 1 ≤ u → u < 10 ^ m → hd1 (· == 48) (decF m u) = false
  | 0, u, h1, h2 => by simp at h2; omega
  | m + 1, u, h1, h2 => by
    by_cases h : u < 10
    · rw [decF_pos (m + 1) u h (by omega)]
      simp only [hd1, beq_eq_false_iff_ne]
      intro e
      have := congrArg UInt8.toNat e
      rw [chr_nat h] at this
      simp at this; omega
    · rw [decF_step h, hd1_snoc _ (decF_ne m _)]
      exact dec_hd m (u / 10) (by omega) (by rw [Nat.pow_succ] at h2; omega)
theorem dec_val : ∀ (m u : Nat), u < 10 ^ m → dval (decF m u) = u
  | 0, u, h => by simp at h; subst h; rfl
  | m + 1, u, h => by
    by_cases h1 : u < 10
    · rw [decF_pos (m + 1) u h1 (by omega)]
      have : dval ([] ++ [UInt8.ofNat (48 + u)]) = u := by rw [dval_snoc, dval_nil, chr_nat h1]; omega
      exact this
    · rw [decF_step h1, dval_snoc, dec_val m (u / 10) (by rw [Nat.pow_succ] at h; omega), chr_nat (by omega)]; omega
theorem dec_numK {u : Nat} (h : u ≤ 1000000) : numK (decF 19 u) = true := by
  have h10 : u < 10 ^ 19 := by rw [ten19]; omega
  refine numK_iff.2 ⟨?_, ?_, ?_⟩
  · rw [List.all_eq_true]
    intro x hx
    exact isDg_nat.2 (decF_dig 19 u x hx)
  · rw [dec_val 19 u h10]; exact h
  · unfold lead
    by_cases h0 : u = 0
    · subst h0; rfl
    · rw [dec_hd 19 u (by omega) h10]; simp
/-- What the program makes of a word that begins with no letter. -/
theorem word_num {l : List UInt8} (h0 : l ≠ []) (hw : l.all isWd = true) : (atoiOK l = true ∧ atoiV l ≤ 1000000 ∧ itoaC (atoiV l) = l) ↔ numK l = true := by
  constructor
  · rintro ⟨h1, h2, h3⟩
    by_cases h4 : atoiV l < 0
    · unfold itoaC at h3
      rw [if_pos h4] at h3
      rw [← h3] at hw
      rw [List.all_cons, Bool.and_eq_true] at hw
      exact absurd hw.1 (by decide)
    · unfold itoaC at h3
      rw [if_neg h4] at h3
      rw [← h3]
      exact dec_numK (by omega)
  · intro h
    obtain ⟨e, hb⟩ := numK_dec h0 h
    have ha : Lib.atoiAll l = .ok (dval l) := by
      conv => lhs; rw [e]
      exact atoi_dec (by omega)
    have hv : atoiV l = dval l := by unfold atoiV; rw [ha]
    refine ⟨by unfold atoiOK; rw [ha], by rw [hv]; omega, ?_⟩
    rw [hv]
    unfold itoaC
    rw [if_neg (by omega), Int.toNat_natCast]
    exact e.symm

/-! ### Lines -/
theorem lastIdx_snoc (l : List UInt8) (b : UInt8) : Lib.lastIndexByte (strB (l ++ [b])) 10 = if b = 10 then (l.length : Int) else Lib.lastIndexByte (strB l) 10 := by
  have key : ∀ (k : Nat), k ≤ l.length → Lib.lastIdx (strB (l ++ [b])) 10 k = Lib.lastIdx (strB l) 10 k := by
    intro k
    induction k with
    | zero => intro _; rfl
    | succ k ih =>
      intro hk
      unfold Lib.lastIdx
      rw [ih (by omega)]
      have e : (strB (l ++ [b])).data[k]! = (strB l).data[k]! := by
        unfold strB
        simp [show k < l.length by omega, show k < l.length + 1 by omega, List.getElem_append]
      rw [e]
  unfold Lib.lastIndexByte
  rw [strB_size, strB_size, List.length_append, List.length_singleton]
  conv => lhs; unfold Lib.lastIdx
  rw [key _ (Nat.le_refl _)]
  have e : (strB (l ++ [b])).data[l.length]! = b := by unfold strB; simp
  rw [e]
  by_cases h : b = 10
  · subst h; rfl
  · rw [if_neg h, if_neg]
    intro h2
    exact h (UInt8.toNat_inj.1 (by have : ((b.toNat : Nat) : Int) = 10 := h2
                                   have : b.toNat = 10 := by omega
                                   exact this))
theorem line_eq : ∀ l : List UInt8, ((lnP l).1 : Int) = 1 + (l.count 10 : Nat) ∧ ((lnP l).2 : Int) = l.length - Lib.lastIndexByte (strB l) 10 := by
  refine snoc_ind ⟨rfl, rfl⟩ fun l b ih => ?_
  rw [lnP_snoc, lastIdx_snoc, List.count_append, List.length_append]
  unfold lnS
  by_cases h : b = 10
  · subst h
    rw [if_pos rfl, if_pos rfl]
    have : List.count (10 : UInt8) [10] = 1 := rfl
    rw [this]
    exact ⟨by have := ih.1; simp only; omega, by simp only [List.length_singleton]; omega⟩
  · rw [if_neg h, if_neg h]
    have : List.count (10 : UInt8) [b] = 0 := by
      rw [List.count_eq_zero]; simp; exact fun e => h e.symm
    rw [this]
    exact ⟨by have := ih.1; simp only; omega, by have := ih.2; simp only [List.length_singleton]; omega⟩
end Go.Sx

namespace Go.Proofs.YtnoodoipghgkgaaDoor
open Go.Sx
set_option maxRecDepth 100000

noncomputable def man1 : FuncId → Option Ctr := fun k => match k with
  | 33 => some cCls
  | 35 => some cJn
  | 40 => some cIs
  | 42 => some cHp
  | 43 => some cCo
  | 44 => some cLi
  | 48 => some cIb
  | 49 => some cAtoi
  | 50 => some cItoa
  | _ => none
theorem man1_ok (k : Nat) (c : Ctr) (h : man1 k = some c) : CtrOK Tryd.prog k c ∧ goodF Tryd.prog k = true := by
  unfold man1 at h
  split at h <;> first | (cases h; done) | (cases h)
  · exact ⟨cCls_ok, by kernel_rfl⟩
  · exact ⟨cJn_ok, by kernel_rfl⟩
  · exact ⟨cIs_ok, by kernel_rfl⟩
  · exact ⟨cHp_ok, by kernel_rfl⟩
  · exact ⟨cCo_ok, by kernel_rfl⟩
  · exact ⟨cLi_ok, by kernel_rfl⟩
  · exact ⟨cIb_ok, by kernel_rfl⟩
  · exact ⟨cAtoi_ok, by kernel_rfl⟩
  · exact ⟨cItoa_ok, by kernel_rfl⟩
noncomputable def C1 : Ctx := ctxN Tryd.prog man1 (fun _ => false) 200 .nil 6
theorem C1_ok : CtxOK Tryd.prog C1 := ctxN_ok mixed man1_ok 6
noncomputable def D1 : Dr := fun _ => drawn Tryd.prog C1
theorem D1_ok : DrOK Tryd.prog C1 D1 := drawn_ok C1_ok mixed
noncomputable def T1 (h : Hint) (k : Nat) (args : List SV) : Tree SV := fnT Tryd.prog C1 D1 200 (fnOf Tryd.prog k) (bodyOf Tryd.prog k) args h
noncomputable def tSg (s : List UInt8) (i : Int) : Tree SV := T1 .nil 30 [strV s, iv i]
noncomputable def tBl (s : List UInt8) (i : Int) : Tree SV := T1 .nil 27 [strV s, iv i]
noncomputable def tKd (s : List UInt8) : Tree SV := T1 .nil 29 [strV s]
noncomputable def LWk_q1 (s : List UInt8) : Bool :=
  decide ((↑(UInt8.toNat (Array.getD (ByteArray.data (strB s)) 0 (0 : UInt8))) : Int) ≥ (97 : Int))
noncomputable def LWk_q2 (s : List UInt8) : Bool :=
  decide (atoiV (Array.toList (ByteArray.data (strB s))) > (1000000 : Int))
noncomputable def LWk_q3 (s : List UInt8) : Bool :=
  false || LWk_q2 s
noncomputable def LWk_q4 (s : List UInt8) : Bool :=
  true || LWk_q2 s
noncomputable def LWk (s : List UInt8) : Tree SV :=
  .ite (strEq (strB s) (strB [])) (.ret (iv (0 : Int))) (.need ((0 : Int) ≤ (0 : Int) ∧ (0 : Int) < (↑(ByteArray.size (strB s)) : Int)) (.need (LWk_q1 s = true → (0 : Int) ≤ (0 : Int) ∧ (0 : Int) < (↑(ByteArray.size (strB s)) : Int)) (.ite (LWk_q1 s && decide ((↑(UInt8.toNat (Array.getD (ByteArray.data (strB s)) 0 (0 : UInt8))) : Int) ≤ (122 : Int))) (.ret (iv (1 : Int))) (.need (ByteArray.size (strB s) ≤ 281474976710656) (.ite (atoiOK (Array.toList (ByteArray.data (strB s)))) (.need (LWk_q3 s = false → (-9223372036854775808 : Int) ≤ atoiV (Array.toList (ByteArray.data (strB s))) ∧ atoiV (Array.toList (ByteArray.data (strB s))) ≤ (9223372036854775807 : Int)) (.ite (LWk_q3 s || !strEq (strB (itoaC (atoiV (Array.toList (ByteArray.data (strB s)))))) (strB s)) (.ret (iv (0 : Int))) (.ret (iv (2 : Int))))) (.need (LWk_q4 s = false → (-9223372036854775808 : Int) ≤ atoiV (Array.toList (ByteArray.data (strB s))) ∧ atoiV (Array.toList (ByteArray.data (strB s))) ≤ (9223372036854775807 : Int)) (.ite (LWk_q4 s || !strEq (strB (itoaC (atoiV (Array.toList (ByteArray.data (strB s)))))) (strB s)) (.ret (iv (0 : Int))) (.ret (iv (2 : Int))))))))))

theorem LWk_eq (s : List UInt8) : T1 .nil 41 [strV s] = LWk s := by kernel_rfl

noncomputable def LLn (s : List UInt8) (a : Int) : Tree SV :=
  .ite (decide (a < (0 : Int)) || decide (a > (↑(ByteArray.size (strB s)) : Int))) (.ret (SV.tup [iv (0 : Int), iv (0 : Int)]))
  (.need (((0 : Int) ≤ a ∧ Int.toNat a ≤ ByteArray.size (strB s)) ∧ True)
   (.need ({ data := #[(10 : UInt8)] } = strB [(10 : UInt8)])
   (.need (ByteArray.size (ByteArray.extract (strB s) 0 (Int.toNat a)) < 4611686018427387904)
   (.ret
   (SV.tup
   [iv (w64 ((1 : Int) + (↑(List.count (10 : UInt8) (Array.toList (ByteArray.data (ByteArray.extract (strB s) 0 (Int.toNat a))))) : Int))),
   iv (w64 (a - Lib.lastIndexByte (ByteArray.extract (strB s) 0 (Int.toNat a)) (10 : Int)))])))))

theorem LLn_eq (s : List UInt8) (a : Int) : T1 .nil 34 [strV s, iv a] = LLn s a := by kernel_rfl

noncomputable def LSg (s : List UInt8) (i : Int) : Tree SV :=
  .need (decide (w64 (i + (1 : Int)) < (↑(ByteArray.size (strB s)) : Int)) = true → (0 : Int) ≤ i ∧ i < (↑(ByteArray.size (strB s)) : Int)) (.need (decide (w64 (i + (1 : Int)) < (↑(ByteArray.size (strB s)) : Int)) = true ∧ ((↑(UInt8.toNat (Array.getD (ByteArray.data (strB s)) (Int.toNat i) (0 : UInt8))) : Int) == (45 : Int)) = true → (0 : Int) ≤ w64 (i + (1 : Int)) ∧ w64 (i + (1 : Int)) < (↑(ByteArray.size (strB s)) : Int)) (.need (decide (w64 (i + (1 : Int)) < (↑(ByteArray.size (strB s)) : Int)) = true ∧ ((↑(UInt8.toNat (Array.getD (ByteArray.data (strB s)) (Int.toNat i) (0 : UInt8))) : Int) == (45 : Int) && (↑(UInt8.toNat (Array.getD (ByteArray.data (strB s)) (Int.toNat (w64 (i + (1 : Int)))) (0 : UInt8))) : Int) == (62 : Int)) = false → (0 : Int) ≤ i ∧ i < (↑(ByteArray.size (strB s)) : Int)) (.need ((decide (w64 (i + (1 : Int)) < (↑(ByteArray.size (strB s)) : Int)) = true ∧ ((↑(UInt8.toNat (Array.getD (ByteArray.data (strB s)) (Int.toNat i) (0 : UInt8))) : Int) == (45 : Int) && (↑(UInt8.toNat (Array.getD (ByteArray.data (strB s)) (Int.toNat (w64 (i + (1 : Int)))) (0 : UInt8))) : Int) == (62 : Int)) = false) ∧ ((↑(UInt8.toNat (Array.getD (ByteArray.data (strB s)) (Int.toNat i) (0 : UInt8))) : Int) == (61 : Int)) = true → (0 : Int) ≤ w64 (i + (1 : Int)) ∧ w64 (i + (1 : Int)) < (↑(ByteArray.size (strB s)) : Int)) (.ite (decide (w64 (i + (1 : Int)) < (↑(ByteArray.size (strB s)) : Int)) && ((↑(UInt8.toNat (Array.getD (ByteArray.data (strB s)) (Int.toNat i) (0 : UInt8))) : Int) == (45 : Int) && (↑(UInt8.toNat (Array.getD (ByteArray.data (strB s)) (Int.toNat (w64 (i + (1 : Int)))) (0 : UInt8))) : Int) == (62 : Int) || (↑(UInt8.toNat (Array.getD (ByteArray.data (strB s)) (Int.toNat i) (0 : UInt8))) : Int) == (61 : Int) && (↑(UInt8.toNat (Array.getD (ByteArray.data (strB s)) (Int.toNat (w64 (i + (1 : Int)))) (0 : UInt8))) : Int) == (61 : Int))) (.ret (iv (2 : Int))) (.code (codeC (sub [(0 : Nat), (0 : Nat), (0 : Nat), (0 : Nat), (1 : Nat)] (tSg s i))) (codeS (sub [(0 : Nat), (0 : Nat), (0 : Nat), (0 : Nat), (1 : Nat)] (tSg s i))) (codeK (sub [(0 : Nat), (0 : Nat), (0 : Nat), (0 : Nat), (1 : Nat)] (tSg s i))))))))

theorem LSg_eq (s : List UInt8) (i : Int) : tSg s i = LSg s i := by kernel_rfl

noncomputable def LBl (s : List UInt8) (i : Int) : Tree SV :=
  .code (codeC (sub [] (tBl s i))) (codeS (sub [] (tBl s i))) (codeK (sub [] (tBl s i)))

theorem LBl_eq (s : List UInt8) (i : Int) : tBl s i = LBl s i := by kernel_rfl

noncomputable def LKd (s : List UInt8) : Tree SV :=
  .ite ((↑(ByteArray.size (strB s)) : Int) == (0 : Int)) (.ret (iv (0 : Int))) (.need ((0 : Int) ≤ (0 : Int) ∧ (0 : Int) < (↑(ByteArray.size (strB s)) : Int)) (.ite (!(decide ((↑(UInt8.toNat (Array.getD (ByteArray.data (strB s)) 0 (0 : UInt8))) : Int) ≥ (48 : Int)) && decide ((↑(UInt8.toNat (Array.getD (ByteArray.data (strB s)) 0 (0 : UInt8))) : Int) ≤ (57 : Int)))) (.code (codeC (sub [(1 : Nat), (0 : Nat), (0 : Nat)] (tKd s))) (codeS (sub [(1 : Nat), (0 : Nat), (0 : Nat)] (tKd s))) (codeK (sub [(1 : Nat), (0 : Nat), (0 : Nat)] (tKd s)))) (.code (codeC (sub [(1 : Nat), (0 : Nat), (1 : Nat)] (tKd s))) (codeS (sub [(1 : Nat), (0 : Nat), (1 : Nat)] (tKd s))) (codeK (sub [(1 : Nat), (0 : Nat), (1 : Nat)] (tKd s))))))

theorem LKd_eq (s : List UInt8) : tKd s = LKd s := by kernel_rfl

noncomputable def invSg (s : List UInt8) (i r : Int) (k : Nat) : AS := ⟨[.ok (strV s), .ok (iv i), .unk, .unk, .ok (iv r), .ok (iv k)] ++ List.replicate 41 .unk, [], 0, .nil⟩
noncomputable def bodySg : Code := loopN (bodyOf Tryd.prog 30) 0
noncomputable def BSg (s : List UInt8) (i r : Int) (k : Nat) : Tree (Ex × AS) :=
  .ite (decide ((↑k : Int) < (21 : Int))) (.need ((0 : Int) ≤ (↑k : Int) ∧ (↑k : Int) < (21 : Int)) (.need ((0 : Int) ≤ i ∧ i < (↑(ByteArray.size (strB s)) : Int)) (.ite ((↑(UInt8.toNat (Array.getD #[(40 : UInt8), (41 : UInt8), (123 : UInt8), (125 : UInt8), (91 : UInt8), (93 : UInt8), (44 : UInt8), (59 : UInt8), (58 : UInt8), (61 : UInt8), (43 : UInt8), (45 : UInt8), (38 : UInt8), (124 : UInt8), (94 : UInt8), (126 : UInt8), (60 : UInt8), (63 : UInt8), (64 : UInt8), (35 : UInt8), (46 : UInt8)] (Int.toNat (↑k : Int)) (0 : UInt8))) : Int) == (↑(UInt8.toNat (Array.getD (ByteArray.data (strB s)) (Int.toNat i) (0 : UInt8))) : Int)) (.ret (.ret, { tm := [.ok (SV.d (DV.x (.string (strB s)))), .ok (iv i), .unk, .unk, .ok (iv (1 : Int)), .ok (iv (↑k : Int)), .unk, .unk, .unk, .unk, .unk, .unk, .unk, .unk, .unk, .unk, .unk, .unk, .unk, .unk, .unk, .unk, .unk, .unk, .unk, .unk, .unk, .unk, .unk, .unk, .unk, .unk, .unk, .unk, .unk, .unk, .unk, .unk, .unk, .unk, .unk, .unk, .unk, .unk, .unk, .unk, .unk], hp := [], next := 0, hint := .nil })) (.ret (.normal, { tm := [.ok (SV.d (DV.x (.string (strB s)))), .ok (iv i), .unk, .unk, .ok (iv r), .ok (iv (w64 ((↑k : Int) + (1 : Int)))), .unk, .unk, .unk, .unk, .unk, .unk, .unk, .unk, .unk, .unk, .unk, .unk, .unk, .unk, .unk, .unk, .unk, .unk, .unk, .unk, .unk, .unk, .unk, .unk, .unk, .unk, .unk, .unk, .unk, .unk, .unk, .unk, .unk, .unk, .unk, .unk, .unk, .unk, .unk, .unk, .unk], hp := [], next := 0, hint := .nil }))))) (.ret (.exit 0, { tm := [.ok (SV.d (DV.x (.string (strB s)))), .ok (iv i), .unk, .unk, .ok (iv r), .ok (iv (↑k : Int)), .unk, .unk, .unk, .unk, .unk, .unk, .unk, .unk, .unk, .unk, .unk, .unk, .unk, .unk, .unk, .unk, .unk, .unk, .unk, .unk, .unk, .unk, .unk, .unk, .unk, .unk, .unk, .unk, .unk, .unk, .unk, .unk, .unk, .unk, .unk, .unk, .unk, .unk, .unk, .unk, .unk], hp := [], next := 0, hint := .nil }))

theorem BSg_eq (s : List UInt8) (i r : Int) (k : Nat) : cutT 0 [] [0, 1, 4, 5] [] 0 .nil (exec Tryd.prog C1 D1 200 bodySg (invSg s i r k)) = BSg s i r k := by kernel_rfl

noncomputable def KSg (s : List UInt8) (i r : Int) (k : Nat) : Tree SV :=
  .ret (iv (0 : Int))

theorem KSg_eq (s : List UInt8) (i r : Int) (k : Nat) : codeK (sub [0, 0, 0, 0, 1] (tSg s i)) (.exit 0) (invSg s i r k) = KSg s i r k := by kernel_rfl

noncomputable def KSr (s : List UInt8) (i r : Int) (k : Nat) : Tree SV :=
  .ret (iv r)

theorem KSr_eq (s : List UInt8) (i r : Int) (k : Nat) : codeK (sub [0, 0, 0, 0, 1] (tSg s i)) .ret (invSg s i r k) = KSr s i r k := by kernel_rfl

noncomputable def invBl (s : List UInt8) (i r : Int) : AS := ⟨[.ok (strV s), .ok (iv i), .unk, .unk, .ok (iv r)] ++ List.replicate 42 .unk, [], 0, .nil⟩
noncomputable def bodyBl : Code := loopN (bodyOf Tryd.prog 27) 0
noncomputable def bodyBm : Code := loopN (bodyOf Tryd.prog 27) 1
noncomputable def tBb (s : List UInt8) (i r : Int) : Tree (Ex × AS) := cutT 0 [] [0, 1, 4] [] 0 .nil (exec Tryd.prog C1 D1 200 bodyBl (invBl s i r))
noncomputable def BBl (s : List UInt8) (i r : Int) : Tree (Ex × AS) :=
  .ite (decide (i < (↑(ByteArray.size (strB s)) : Int))) (.need ((0 : Int) ≤ i ∧ i < (↑(ByteArray.size (strB s)) : Int)) (.ite ((↑(UInt8.toNat (Array.getD (ByteArray.data (strB s)) (Int.toNat i) (0 : UInt8))) : Int) == (32 : Int) || (↑(UInt8.toNat (Array.getD (ByteArray.data (strB s)) (Int.toNat i) (0 : UInt8))) : Int) == (10 : Int)) (.ret (.normal, { tm := [.ok (SV.d (DV.x (.string (strB s)))), .ok (iv (w64 (i + (1 : Int)))), .unk, .unk, .ok (iv r), .unk, .unk, .unk, .unk, .unk, .unk, .unk, .unk, .unk, .unk, .unk, .unk, .unk, .unk, .unk, .unk, .unk, .unk, .unk, .unk, .unk, .unk, .unk, .unk, .unk, .unk, .unk, .unk, .unk, .unk, .unk, .unk, .unk, .unk, .unk, .unk, .unk, .unk, .unk, .unk, .unk, .unk], hp := [], next := 0, hint := .nil })) (.need ((0 : Int) ≤ i ∧ i < (↑(ByteArray.size (strB s)) : Int)) (.need (((↑(UInt8.toNat (Array.getD (ByteArray.data (strB s)) (Int.toNat i) (0 : UInt8))) : Int) != (47 : Int) || w64 (i + (1 : Int)) == (↑(ByteArray.size (strB s)) : Int)) = false → (0 : Int) ≤ w64 (i + (1 : Int)) ∧ w64 (i + (1 : Int)) < (↑(ByteArray.size (strB s)) : Int)) (.ite ((↑(UInt8.toNat (Array.getD (ByteArray.data (strB s)) (Int.toNat i) (0 : UInt8))) : Int) != (47 : Int) || w64 (i + (1 : Int)) == (↑(ByteArray.size (strB s)) : Int) || (↑(UInt8.toNat (Array.getD (ByteArray.data (strB s)) (Int.toNat (w64 (i + (1 : Int)))) (0 : UInt8))) : Int) != (47 : Int)) (.ret (.ret, { tm := [.ok (SV.d (DV.x (.string (strB s)))), .ok (iv i), .unk, .unk, .ok (iv i), .unk, .unk, .unk, .unk, .unk, .unk, .unk, .unk, .unk, .unk, .unk, .unk, .unk, .unk, .unk, .unk, .unk, .unk, .unk, .unk, .unk, .unk, .unk, .unk, .unk, .unk, .unk, .unk, .unk, .unk, .unk, .unk, .unk, .unk, .unk, .unk, .unk, .unk, .unk, .unk, .unk, .unk], hp := [], next := 0, hint := .nil })) (.code (codeC (sub [(0 : Nat), (0 : Nat), (1 : Nat), (0 : Nat), (0 : Nat), (1 : Nat)] (tBb s i r))) (codeS (sub [(0 : Nat), (0 : Nat), (1 : Nat), (0 : Nat), (0 : Nat), (1 : Nat)] (tBb s i r))) (codeK (sub [(0 : Nat), (0 : Nat), (1 : Nat), (0 : Nat), (0 : Nat), (1 : Nat)] (tBb s i r))))))))) (.ret (.exit 0, { tm := [.ok (SV.d (DV.x (.string (strB s)))), .ok (iv i), .unk, .unk, .ok (iv r), .unk, .unk, .unk, .unk, .unk, .unk, .unk, .unk, .unk, .unk, .unk, .unk, .unk, .unk, .unk, .unk, .unk, .unk, .unk, .unk, .unk, .unk, .unk, .unk, .unk, .unk, .unk, .unk, .unk, .unk, .unk, .unk, .unk, .unk, .unk, .unk, .unk, .unk, .unk, .unk, .unk, .unk], hp := [], next := 0, hint := .nil }))

theorem BBl_eq (s : List UInt8) (i r : Int) : tBb s i r = BBl s i r := by kernel_rfl

noncomputable def BBm (s : List UInt8) (i r : Int) : Tree (Ex × AS) :=
  .need (decide (i < (↑(ByteArray.size (strB s)) : Int)) = true → (0 : Int) ≤ i ∧ i < (↑(ByteArray.size (strB s)) : Int)) (.ite (decide (i < (↑(ByteArray.size (strB s)) : Int)) && (↑(UInt8.toNat (Array.getD (ByteArray.data (strB s)) (Int.toNat i) (0 : UInt8))) : Int) != (10 : Int)) (.ret (.normal, { tm := [.ok (SV.d (DV.x (.string (strB s)))), .ok (iv (w64 (i + (1 : Int)))), .unk, .unk, .ok (iv r), .unk, .unk, .unk, .unk, .unk, .unk, .unk, .unk, .unk, .unk, .unk, .unk, .unk, .unk, .unk, .unk, .unk, .unk, .unk, .unk, .unk, .unk, .unk, .unk, .unk, .unk, .unk, .unk, .unk, .unk, .unk, .unk, .unk, .unk, .unk, .unk, .unk, .unk, .unk, .unk, .unk, .unk], hp := [], next := 0, hint := .nil })) (.ret (.exit 2, { tm := [.ok (SV.d (DV.x (.string (strB s)))), .ok (iv i), .unk, .unk, .ok (iv r), .unk, .unk, .unk, .unk, .unk, .unk, .unk, .unk, .unk, .unk, .unk, .unk, .unk, .unk, .unk, .unk, .unk, .unk, .unk, .unk, .unk, .unk, .unk, .unk, .unk, .unk, .unk, .unk, .unk, .unk, .unk, .unk, .unk, .unk, .unk, .unk, .unk, .unk, .unk, .unk, .unk, .unk], hp := [], next := 0, hint := .nil })))

theorem BBm_eq (s : List UInt8) (i r : Int) : cutT 0 [] [0, 1, 4] [] 0 .nil (exec Tryd.prog C1 D1 200 bodyBm (invBl s i r)) = BBm s i r := by kernel_rfl

noncomputable def KBm (s : List UInt8) (i j r q : Int) : Tree (Ex × AS) :=
  .ret
  (.normal,
   {
   tm :=
   [.ok (SV.d (DV.x (.string (strB s)))), .ok (iv j), .unk, .unk, .ok (iv q), .unk, .unk, .unk, .unk, .unk, .unk, .unk, .unk, .unk, .unk, .unk, .unk, .unk, .unk, .unk, .unk, .unk,
   .unk, .unk, .unk, .unk, .unk, .unk, .unk, .unk, .unk, .unk, .unk, .unk, .unk, .unk, .unk, .unk, .unk, .unk, .unk, .unk, .unk, .unk, .unk, .unk, .unk],
   hp := [], next := 0, hint := .nil })

theorem KBm_eq (s : List UInt8) (i j r q : Int) : codeK (sub [0, 0, 1, 0, 0, 1] (tBb s i r)) (.exit 2) (invBl s j q) = KBm s i j r q := by kernel_rfl

noncomputable def KBl (s : List UInt8) (i j r : Int) : Tree SV :=
  .ret (iv j)

theorem KBl_eq (s : List UInt8) (i j r : Int) : codeK (sub [] (tBl s i)) (.exit 0) (invBl s j r) = KBl s i j r := by kernel_rfl

noncomputable def KBr (s : List UInt8) (i j r : Int) : Tree SV :=
  .ret (iv r)

theorem KBr_eq (s : List UInt8) (i j r : Int) : codeK (sub [] (tBl s i)) .ret (invBl s j r) = KBr s i j r := by kernel_rfl

noncomputable def invKd (s : List UInt8) (r : Int) (i : Nat) : AS := ⟨[.ok (strV s), .unk, .ok (iv r), .ok (iv i)] ++ List.replicate 55 .unk, [], 0, .nil⟩
noncomputable def invKe (s : List UInt8) (r n : Int) (i : Nat) : AS := ⟨[.ok (strV s), .unk, .ok (iv r), .unk, .ok (iv n), .ok (iv i)] ++ List.replicate 53 .unk, [], 0, .nil⟩
noncomputable def bodyKd : Code := loopN (bodyOf Tryd.prog 29) 0
noncomputable def bodyKe : Code := loopN (bodyOf Tryd.prog 29) 1
noncomputable def BKd (s : List UInt8) (r : Int) (i : Nat) : Tree (Ex × AS) :=
  .ite (decide ((↑i : Int) < (↑(ByteArray.size (strB s)) : Int))) (.need ((0 : Int) ≤ (↑i : Int) ∧ (↑i : Int) < (↑(ByteArray.size (strB s)) : Int)) (.ite (!(decide ((↑(UInt8.toNat (Array.getD (ByteArray.data (strB s)) (Int.toNat (↑i : Int)) (0 : UInt8))) : Int) ≥ (97 : Int)) && decide ((↑(UInt8.toNat (Array.getD (ByteArray.data (strB s)) (Int.toNat (↑i : Int)) (0 : UInt8))) : Int) ≤ (122 : Int)) || decide ((↑(UInt8.toNat (Array.getD (ByteArray.data (strB s)) (Int.toNat (↑i : Int)) (0 : UInt8))) : Int) ≥ (48 : Int)) && decide ((↑(UInt8.toNat (Array.getD (ByteArray.data (strB s)) (Int.toNat (↑i : Int)) (0 : UInt8))) : Int) ≤ (57 : Int)))) (.ret (.ret, { tm := [.ok (SV.d (DV.x (.string (strB s)))), .unk, .ok (iv (0 : Int)), .ok (iv (↑i : Int)), .unk, .unk, .unk, .unk, .unk, .unk, .unk, .unk, .unk, .unk, .unk, .unk, .unk, .unk, .unk, .unk, .unk, .unk, .unk, .unk, .unk, .unk, .unk, .unk, .unk, .unk, .unk, .unk, .unk, .unk, .unk, .unk, .unk, .unk, .unk, .unk, .unk, .unk, .unk, .unk, .unk, .unk, .unk, .unk, .unk, .unk, .unk, .unk, .unk, .unk, .unk, .unk, .unk, .unk, .unk], hp := [], next := 0, hint := .nil })) (.ret (.normal, { tm := [.ok (SV.d (DV.x (.string (strB s)))), .unk, .ok (iv r), .ok (iv (w64 ((↑i : Int) + (1 : Int)))), .unk, .unk, .unk, .unk, .unk, .unk, .unk, .unk, .unk, .unk, .unk, .unk, .unk, .unk, .unk, .unk, .unk, .unk, .unk, .unk, .unk, .unk, .unk, .unk, .unk, .unk, .unk, .unk, .unk, .unk, .unk, .unk, .unk, .unk, .unk, .unk, .unk, .unk, .unk, .unk, .unk, .unk, .unk, .unk, .unk, .unk, .unk, .unk, .unk, .unk, .unk, .unk, .unk, .unk, .unk], hp := [], next := 0, hint := .nil })))) (.ret (.exit 0, { tm := [.ok (SV.d (DV.x (.string (strB s)))), .unk, .ok (iv r), .ok (iv (↑i : Int)), .unk, .unk, .unk, .unk, .unk, .unk, .unk, .unk, .unk, .unk, .unk, .unk, .unk, .unk, .unk, .unk, .unk, .unk, .unk, .unk, .unk, .unk, .unk, .unk, .unk, .unk, .unk, .unk, .unk, .unk, .unk, .unk, .unk, .unk, .unk, .unk, .unk, .unk, .unk, .unk, .unk, .unk, .unk, .unk, .unk, .unk, .unk, .unk, .unk, .unk, .unk, .unk, .unk, .unk, .unk], hp := [], next := 0, hint := .nil }))

theorem BKd_eq (s : List UInt8) (r : Int) (i : Nat) : cutT 0 [] [0, 2, 3] [] 0 .nil (exec Tryd.prog C1 D1 200 bodyKd (invKd s r i)) = BKd s r i := by kernel_rfl

noncomputable def BKe (s : List UInt8) (r n : Int) (i : Nat) : Tree (Ex × AS) :=
  .ite (decide ((↑i : Int) < (↑(ByteArray.size (strB s)) : Int))) (.need ((0 : Int) ≤ (↑i : Int) ∧ (↑i : Int) < (↑(ByteArray.size (strB s)) : Int)) (.ite (!(decide ((↑(UInt8.toNat (Array.getD (ByteArray.data (strB s)) (Int.toNat (↑i : Int)) (0 : UInt8))) : Int) ≥ (48 : Int)) && decide ((↑(UInt8.toNat (Array.getD (ByteArray.data (strB s)) (Int.toNat (↑i : Int)) (0 : UInt8))) : Int) ≤ (57 : Int))) || decide (n > (1000000 : Int))) (.ret (.ret, { tm := [.ok (SV.d (DV.x (.string (strB s)))), .unk, .ok (iv (0 : Int)), .unk, .ok (iv n), .ok (iv (↑i : Int)), .unk, .unk, .unk, .unk, .unk, .unk, .unk, .unk, .unk, .unk, .unk, .unk, .unk, .unk, .unk, .unk, .unk, .unk, .unk, .unk, .unk, .unk, .unk, .unk, .unk, .unk, .unk, .unk, .unk, .unk, .unk, .unk, .unk, .unk, .unk, .unk, .unk, .unk, .unk, .unk, .unk, .unk, .unk, .unk, .unk, .unk, .unk, .unk, .unk, .unk, .unk, .unk, .unk], hp := [], next := 0, hint := .nil })) (.need ((0 : Int) ≤ (↑i : Int) ∧ (↑i : Int) < (↑(ByteArray.size (strB s)) : Int)) (.ret (.normal, { tm := [.ok (SV.d (DV.x (.string (strB s)))), .unk, .ok (iv r), .unk, .ok (iv (w64 (w64 ((10 : Int) * n) + w64 (IntKind.wrap .u8 ((↑(UInt8.toNat (Array.getD (ByteArray.data (strB s)) (Int.toNat (↑i : Int)) (0 : UInt8))) : Int) - (48 : Int)))))), .ok (iv (w64 ((↑i : Int) + (1 : Int)))), .unk, .unk, .unk, .unk, .unk, .unk, .unk, .unk, .unk, .unk, .unk, .unk, .unk, .unk, .unk, .unk, .unk, .unk, .unk, .unk, .unk, .unk, .unk, .unk, .unk, .unk, .unk, .unk, .unk, .unk, .unk, .unk, .unk, .unk, .unk, .unk, .unk, .unk, .unk, .unk, .unk, .unk, .unk, .unk, .unk, .unk, .unk, .unk, .unk, .unk, .unk, .unk, .unk], hp := [], next := 0, hint := .nil }))))) (.ret (.exit 2, { tm := [.ok (SV.d (DV.x (.string (strB s)))), .unk, .ok (iv r), .unk, .ok (iv n), .ok (iv (↑i : Int)), .unk, .unk, .unk, .unk, .unk, .unk, .unk, .unk, .unk, .unk, .unk, .unk, .unk, .unk, .unk, .unk, .unk, .unk, .unk, .unk, .unk, .unk, .unk, .unk, .unk, .unk, .unk, .unk, .unk, .unk, .unk, .unk, .unk, .unk, .unk, .unk, .unk, .unk, .unk, .unk, .unk, .unk, .unk, .unk, .unk, .unk, .unk, .unk, .unk, .unk, .unk, .unk, .unk], hp := [], next := 0, hint := .nil }))

theorem BKe_eq (s : List UInt8) (r n : Int) (i : Nat) : cutT 0 [] [0, 2, 4, 5] [] 0 .nil (exec Tryd.prog C1 D1 200 bodyKe (invKe s r n i)) = BKe s r n i := by kernel_rfl

noncomputable def KKd (s : List UInt8) (r : Int) (i : Nat) : Tree SV :=
  .ret (iv (1 : Int))

theorem KKd_eq (s : List UInt8) (r : Int) (i : Nat) : codeK (sub [1, 0, 0] (tKd s)) (.exit 0) (invKd s r i) = KKd s r i := by kernel_rfl

noncomputable def KKr (s : List UInt8) (r : Int) (i : Nat) : Tree SV :=
  .ret (iv r)

theorem KKr_eq (s : List UInt8) (r : Int) (i : Nat) : codeK (sub [1, 0, 0] (tKd s)) .ret (invKd s r i) = KKr s r i := by kernel_rfl

noncomputable def KKe (s : List UInt8) (r n : Int) (i : Nat) : Tree SV :=
  .need (decide (n > (1000000 : Int)) = false → (0 : Int) ≤ (0 : Int) ∧ (0 : Int) < (↑(ByteArray.size (strB s)) : Int)) (.ite (decide (n > (1000000 : Int)) || (↑(UInt8.toNat (Array.getD (ByteArray.data (strB s)) 0 (0 : UInt8))) : Int) == (48 : Int) && decide ((↑(ByteArray.size (strB s)) : Int) > (1 : Int))) (.ret (iv (0 : Int))) (.ret (iv (2 : Int))))

theorem KKe_eq (s : List UInt8) (r n : Int) (i : Nat) : codeK (sub [1, 0, 1] (tKd s)) (.exit 2) (invKe s r n i) = KKe s r n i := by kernel_rfl

noncomputable def KKf (s : List UInt8) (r n : Int) (i : Nat) : Tree SV :=
  .ret (iv r)

theorem KKf_eq (s : List UInt8) (r n : Int) (i : Nat) : codeK (sub [1, 0, 1] (tKd s)) .ret (invKe s r n i) = KKf s r n i := by kernel_rfl


end Go.Proofs.YtnoodoipghgkgaaDoor

/- Plain laws: gaps, words at an index. -/
namespace Go.Sx

theorem hdd {p : UInt8 → Bool} {L : List UInt8} {i : Nat} (h : i < L.length) : hd1 p (L.drop i) = p (L.getD i 0) := by
  rw [List.drop_eq_getElem_cons h]
  simp [hd1, h]
theorem hdo {p : UInt8 → Bool} {L : List UInt8} {i : Nat} (h : L.length ≤ i) : hd1 p (L.drop i) = false := by
  rw [List.drop_eq_nil_of_le h]; rfl
theorem pre2d {x y : UInt8} {L : List UInt8} {i : Nat} : pre2 x y (L.drop i) = (decide (i + 1 < L.length) && (L.getD i 0 == x && L.getD (i + 1) 0 == y)) := by
  by_cases h : i + 1 < L.length
  · rw [decide_eq_true h, List.drop_eq_getElem_cons (by omega), List.drop_eq_getElem_cons h]
    simp [pre2, h, show i < L.length by omega]
  · rw [decide_eq_false h]
    by_cases h2 : i < L.length
    · rw [List.drop_eq_getElem_cons h2, List.drop_eq_nil_of_le (by omega)]; rfl
    · rw [List.drop_eq_nil_of_le (by omega)]; rfl
/-- How many bytes of white space stand here. -/
def gapF : Nat → List UInt8 → Nat
  | 0, _ => 0
  | f + 1, l => if 0 < skipN l then skipN l + gapF f (l.drop (skipN l)) else 0
def gapN (l : List UInt8) : Nat := gapF (l.length + 1) l
theorem gapF_enough : ∀ (f g : Nat) (l : List UInt8), l.length < f → l.length < g → gapF f l = gapF g l
  | 0, g, l, h, _ => by omega
  | f + 1, 0, l, _, h => by omega
  | f + 1, g + 1, l, h1, h2 => by
    unfold gapF
    by_cases hs : 0 < skipN l
    · rw [if_pos hs, if_pos hs]
      have := skipN_le l
      rw [gapF_enough f g _ (by rw [List.length_drop]; omega) (by rw [List.length_drop]; omega)]
    · rw [if_neg hs, if_neg hs]
theorem gap_skip {l : List UInt8} (hs : 0 < skipN l) : gapN l = skipN l + gapN (l.drop (skipN l)) := by
  have hle := skipN_le l
  conv => lhs; unfold gapN gapF
  rw [if_pos hs]
  unfold gapN
  rw [gapF_enough l.length ((l.drop (skipN l)).length + 1) _ (by rw [List.length_drop]; omega) (by omega)]
theorem gap_no {l : List UInt8} (hs : skipN l = 0) : gapN l = 0 := by
  unfold gapN gapF
  rw [if_neg (by omega)]
theorem gap_nil : gapN [] = 0 := rfl
theorem gap_le : ∀ (l : List UInt8), gapN l ≤ l.length := by
  refine fun l => lex_ind (P := fun l a => gapN l ≤ l.length) ?_ ?_ ?_ ?_ l 0
  · intro a; exact Nat.le_refl _
  · intro l a h0 hs ih
    have := skipN_le l
    rw [gap_skip hs]
    rw [List.length_drop] at ih; omega
  · intro l a h0 hs ht; rw [gap_no hs]; omega
  · intro l a h0 hs ht ih; rw [gap_no hs]; omega
theorem gap_stop : ∀ (l : List UInt8), skipN (l.drop (gapN l)) = 0 := by
  refine fun l => lex_ind (P := fun l a => skipN (l.drop (gapN l)) = 0) ?_ ?_ ?_ ?_ l 0
  · intro a; rfl
  · intro l a h0 hs ih
    rw [gap_skip hs, ← List.drop_drop]; exact ih
  · intro l a h0 hs ht; rw [gap_no hs]; exact hs
  · intro l a h0 hs ht ih; rw [gap_no hs]; exact hs
theorem lex_gap : ∀ (l : List UInt8) (a : Nat), lexL l a = lexL (l.drop (gapN l)) (a + gapN l) := by
  refine lex_ind ?_ ?_ ?_ ?_
  · intro a; rfl
  · intro l a h0 hs ih
    rw [lexL_skip _ h0 hs, ih, gap_skip hs, List.drop_drop]
    congr 1; omega
  · intro l a h0 hs ht; rw [gap_no hs]; rfl
  · intro l a h0 hs ht ih; rw [gap_no hs]; rfl
/-- The kind of any string, as of a word. -/
def kindR (l : List UInt8) : Nat := if l.all isWd = true then wKind l else 0
theorem numK_wd {l : List UInt8} (h : numK l = true) : l.all isWd = true := by
  have := (numK_iff.1 h).1
  rw [List.all_eq_true] at this ⊢
  intro x hx
  have := this x hx
  unfold isWd; rw [this, Bool.or_true]
theorem wd_split {b : UInt8} (h : isWd b = true) : isDg b = !isLet b := by
  have h1 := isWd_nat.1 h
  cases hl : isLet b
  · have : isDg b = true := isDg_nat.2 (by rcases h1 with h2 | h2; exact absurd (isLet_nat.2 h2) (by rw [hl]; simp); exact h2)
    rw [this]; rfl
  · have h2 := isLet_nat.1 hl
    cases hd : isDg b
    · rfl
    · have h3 := isDg_nat.1 hd; omega
theorem take_all {p : UInt8 → Bool} {l : List UInt8} {k : Nat} (h : k ≤ l.length) : (l.take k).all p = true ↔ ∀ i, i < k → p (l.getD i 0) = true := by
  rw [List.all_eq_true]
  constructor
  · intro h1 i hi
    have : l.getD i 0 ∈ l.take k := by
      rw [List.mem_iff_getElem]
      exact ⟨i, by rw [List.length_take]; omega, by rw [List.getElem_take]; simp [show i < l.length by omega]⟩
    exact h1 _ this
  · intro h1 x hx
    obtain ⟨i, hi, rfl⟩ := List.mem_iff_getElem.1 hx
    rw [List.length_take] at hi
    have := h1 i (by omega)
    rw [List.getElem_take]
    simpa [show i < l.length by omega] using this
theorem take_snoc {l : List UInt8} {k : Nat} (h : k < l.length) : l.take (k + 1) = l.take k ++ [l.getD k 0] := by
  rw [List.take_add_one, List.getElem?_eq_getElem h]
  simp [h]
theorem all_at {p : UInt8 → Bool} {l : List UInt8} (h : l.all p = true) {i : Nat} (hi : i < l.length) : p (l.getD i 0) = true := by
  have := (take_all (p := p) (l := l) (Nat.le_refl _)).1 (by rw [List.take_length]; exact h)
  exact this i hi
theorem not_all {p : UInt8 → Bool} {l : List UInt8} {i : Nat} (hi : i < l.length) (h : p (l.getD i 0) = false) : l.all p = false := by
  cases ha : l.all p with
  | false => rfl
  | true => have := all_at ha hi; rw [h] at this; cases this
/-- The length of the word at an index. -/
theorem tw_at {p : UInt8 → Bool} {l : List UInt8} {n : Nat} (hn : n ≤ l.length) (h1 : ∀ i, i < n → p (l.getD i 0) = true) (h2 : n < l.length → p (l.getD n 0) = false) : l.takeWhile p = l.take n := by
  have e : l = l.take n ++ l.drop n := (List.take_append_drop n l).symm
  have ha := (take_all hn).2 h1
  have key : ∀ (a b : List UInt8), a.all p = true → hd1 p b = false → (a ++ b).takeWhile p = a := by
    intro a b
    induction a with
    | nil => intro _ hb; exact tw_eq_nil hb
    | cons x a ih =>
      intro hx hb
      rw [List.all_cons, Bool.and_eq_true] at hx
      simp only [List.cons_append, List.takeWhile, hx.1]
      rw [ih hx.2 hb]
  conv => lhs; rw [e]
  refine key _ _ ha ?_
  rcases Nat.lt_or_ge n l.length with h | h
  · rw [hdd h]; exact h2 h
  · exact hdo h
end Go.Sx
namespace Go.Sx
/-! ### Rows of tokens -/
def tkK (L : List Tok) (i : Nat) : Int := ((L.getD i default).k : Nat)
def tkT (L : List Tok) (i : Nat) : ByteArray := strB (L.getD i default).t
def tkA (L : List Tok) (i : Nat) : Int := ((L.getD i default).a : Nat)
def tkC (L : List Tok) (i j : Nat) : DV := match j with
  | 0 => .x (.int .i64 (tkK L i))
  | 1 => .x (.string (tkT L i))
  | _ => .x (.int .i64 (tkA L i))
end Go.Sx
namespace Go.Sx
def txT (T : List (List UInt8)) (i : Nat) : ByteArray := strB (T.getD i [])
def txD (T : List (List UInt8)) (i j : Nat) : DV := .x (.string (txT T i))
end Go.Sx
namespace Go.Sx
/-- The texts of the first tokens but the ends. -/
def ktx (L : List Tok) (n : Nat) : List (List UInt8) := ((L.take n).filter fun x => x.k != 4).map (·.t)
theorem takeT_snoc {L : List Tok} {k : Nat} (h : k < L.length) : L.take (k + 1) = L.take k ++ [L.getD k default] := by
  rw [List.take_add_one, List.getElem?_eq_getElem h]
  simp [h]
theorem ktx_snoc {L : List Tok} {k : Nat} (h : k < L.length) : ktx L (k + 1) = if (L.getD k default).k = 4 then ktx L k else ktx L k ++ [(L.getD k default).t] := by
  unfold ktx
  rw [takeT_snoc h, List.filter_append, List.map_append]
  by_cases h4 : (L.getD k default).k = 4
  · rw [if_pos h4]
    have : [L.getD k default].filter (fun x => x.k != 4) = [] := by
      simp only [List.filter]
      rw [show ((L.getD k default).k != 4) = false by rw [h4]; rfl]
    rw [this]; simp
  · rw [if_neg h4]
    have : [L.getD k default].filter (fun x => x.k != 4) = [L.getD k default] := by
      simp only [List.filter]
      rw [show ((L.getD k default).k != 4) = true by rw [bne_iff_ne]; exact h4]
    rw [this]; rfl
theorem tailJ_app : ∀ (T U : List (List UInt8)), tailJ (T ++ U) = tailJ T ++ tailJ U
  | [], U => rfl
  | t :: T, U => by simp only [List.cons_append, tailJ, tailJ_app T U, List.append_assoc]
theorem joinL_snoc (T : List (List UInt8)) (t : List UInt8) : joinL (T ++ [t]) = if T = [] then t else joinL T ++ 32 :: t := by
  cases T with
  | nil => simp [joinL, tailJ]
  | cons u T =>
    rw [if_neg (by simp)]
    simp only [List.cons_append, joinL, tailJ_app, tailJ, List.append_nil, List.append_assoc]
theorem joinL_mono (T U : List (List UInt8)) : (joinL T).length ≤ (joinL (T ++ U)).length := by
  cases T with
  | nil => simp [joinL]
  | cons u T => simp only [List.cons_append, joinL, tailJ_app, List.length_append]; omega
theorem ktx_pre (L : List Tok) {i n : Nat} (h : i ≤ n) : ∃ U, ktx L n = ktx L i ++ U := by
  unfold ktx
  refine ⟨(((L.take n).drop i).filter fun x => x.k != 4).map (·.t), ?_⟩
  rw [← List.map_append, ← List.filter_append]
  have : L.take i = (L.take n).take i := by rw [List.take_take, Nat.min_eq_left h]
  rw [this, List.take_append_drop]
theorem ktx_join {L : List Tok} {i n : Nat} (h : i ≤ n) : (joinL (ktx L i)).length ≤ (joinL (ktx L n)).length := by
  obtain ⟨U, e⟩ := ktx_pre L h
  rw [e]; exact joinL_mono _ _
theorem ktx_len (L : List Tok) (n : Nat) : (ktx L n).length ≤ n := by
  unfold ktx
  rw [List.length_map]
  have h1 := List.length_filter_le (fun x : Tok => x.k != 4) (L.take n)
  rw [List.length_take] at h1; omega
def smF (L M : List Tok) (b : Int) (i : Nat) : Bool := tkK L i == tkK M i && strEq (tkT L i) (tkT M i) && (tkA L i + b == tkA M i)
def smB (n : Nat) (L : List Tok) (m : Nat) (M : List Tok) (b : Int) : Bool := decide (n = m) && (List.range n).all (smF L M b)
theorem smB_iff {n m : Nat} {L M : List Tok} {b : Int} : smB n L m M b = true ↔ n = m ∧ ∀ i, i < n → smF L M b i = true := by
  unfold smB
  rw [Bool.and_eq_true, decide_eq_true_eq, List.all_eq_true]
  simp only [List.mem_range]
end Go.Sx
namespace Go.Sx
def tokAt (c : Nat → Nat → DV) (i : Nat) : Tok := ⟨(match c i 0 with | .x (.int _ v) => v.toNat | _ => 0), (match c i 1 with | .x (.string s) => s.data.toList | _ => []), (match c i 2 with | .x (.int _ v) => v.toNat | _ => 0)⟩
def tokR (n : Nat) (c : Nat → Nat → DV) : List Tok := (List.range n).map (tokAt c)
def TokOK (n : Nat) (c : Nat → Nat → DV) : Prop := ∀ i j, i < n → j < 3 → c i j = tkC (tokR n c) i j
theorem tokR_len (n : Nat) (c : Nat → Nat → DV) : (tokR n c).length = n := by unfold tokR; simp
theorem tokR_of {n : Nat} {c : Nat → Nat → DV} {L : List Tok} (hl : L.length = n) (h : ∀ i j, i < n → j < 3 → c i j = tkC L i j) : tokR n c = L := by
  subst hl
  unfold tokR
  refine List.ext_getElem (by simp) fun i h1 h2 => ?_
  simp only [List.getElem_map, List.getElem_range, tokAt]
  rw [h i 0 h2 (by omega), h i 1 h2 (by omega), h i 2 h2 (by omega)]
  simp only [tkC, tkK, tkT, tkA]
  rw [strB_list]
  simp [h2]
theorem tokOK_of {n : Nat} {c : Nat → Nat → DV} {L : List Tok} (hl : L.length = n) (h : ∀ i j, i < n → j < 3 → c i j = tkC L i j) : TokOK n c := by
  intro i j hi hj
  rw [tokR_of hl h]; exact h i j hi hj
theorem tokR_C (L : List Tok) : tokR L.length (tkC L) = L := tokR_of rfl fun i j _ _ => rfl
theorem tokOK_C (L : List Tok) : TokOK L.length (tkC L) := tokOK_of rfl fun i j _ _ => rfl
end Go.Sx

namespace Go.Proofs.YtnoodoipghgkgaaDoor
open Go.Sx
set_option maxRecDepth 100000

theorem u8_eq {b : UInt8} {c : Nat} (hc : c < 256) : (((b.toNat : Nat) : Int) == (c : Int)) = (b == UInt8.ofNat c) := by
  rw [Bool.eq_iff_iff, beq_iff_eq, beq_iff_eq]
  constructor
  · intro h
    apply UInt8.toNat_inj.1
    rw [UInt8.toNat_ofNat']; omega
  · intro h
    have := congrArg UInt8.toNat h
    rw [UInt8.toNat_ofNat'] at this; omega
theorem e10 (b : UInt8) : (((b.toNat : Nat) : Int) == 10) = (b == 10) := u8_eq (c := 10) (by omega)
theorem e32 (b : UInt8) : (((b.toNat : Nat) : Int) == 32) = (b == 32) := u8_eq (c := 32) (by omega)
theorem e45 (b : UInt8) : (((b.toNat : Nat) : Int) == 45) = (b == 45) := u8_eq (c := 45) (by omega)
theorem e47 (b : UInt8) : (((b.toNat : Nat) : Int) == 47) = (b == 47) := u8_eq (c := 47) (by omega)
theorem e48 (b : UInt8) : (((b.toNat : Nat) : Int) == 48) = (b == 48) := u8_eq (c := 48) (by omega)
theorem e61 (b : UInt8) : (((b.toNat : Nat) : Int) == 61) = (b == 61) := u8_eq (c := 61) (by omega)
theorem e62 (b : UInt8) : (((b.toNat : Nat) : Int) == 62) = (b == 62) := u8_eq (c := 62) (by omega)
theorem n10 (b : UInt8) : (((b.toNat : Nat) : Int) != 10) = (b != 10) := by unfold bne; rw [e10]
theorem n47 (b : UInt8) : (((b.toNat : Nat) : Int) != 47) = (b != 47) := by unfold bne; rw [e47]
theorem dLet (b : UInt8) : (decide (((b.toNat : Nat) : Int) ≥ 97) && decide (((b.toNat : Nat) : Int) ≤ 122)) = isLet b := by
  rw [Bool.eq_iff_iff, Bool.and_eq_true, decide_eq_true_eq, decide_eq_true_eq, isLet_nat]; omega
theorem dDg (b : UInt8) : (decide (((b.toNat : Nat) : Int) ≥ 48) && decide (((b.toNat : Nat) : Int) ≤ 57)) = isDg b := by
  rw [Bool.eq_iff_iff, Bool.and_eq_true, decide_eq_true_eq, decide_eq_true_eq, isDg_nat]; omega

/-! ### wordKind -/
theorem wk_sat {s : List UInt8} (hw : s.all isWd = true) (hs : s.length ≤ 100000) : Sat Tryd.prog (T1 .nil 41 [strV s]) (· = iv (wKind s)) := by
  constructor
  rw [LWk_eq]; unfold LWk
  simp only [LWk_q1, LWk_q2, LWk_q3, LWk_q4, strB_size, strB_list, strEq_list, strB_at]
  rcases hs0 : s with _ | ⟨b, t⟩
  · exact ⟨fun _ => rfl, fun h => (by cases h)⟩
  rw [← hs0]
  have h0 : s ≠ [] := by rw [hs0]; simp
  have hl : 0 < s.length := List.length_pos_iff.2 h0
  have hb : s.getD 0 0 = b := by rw [hs0]; rfl
  have hbw : isWd b = true := by rw [← hb]; exact all_at hw hl
  have hk : wKind s = if isLet b = true then 1 else if numK s = true then 2 else 0 := by
    unfold wKind
    rw [if_neg (by simpa using h0)]
    rw [hs0]; rfl
  have hbn := isWd_nat.1 hbw
  rw [hb, dLet]
  refine ⟨fun h => absurd (beq_iff_eq.1 h) h0, fun _ => ⟨by omega, fun _ => by omega, fun h => ?_, fun h => ⟨by omega, fun ha => ⟨fun h3 => ?_, fun h3 => ?_, fun h3 => ?_⟩, fun ha => ⟨fun h3 => (by cases h3), fun _ => ?_, fun h3 => (by cases h3)⟩⟩⟩⟩
  · rw [hk, if_pos h]; exact rfl
  · have h3 : ¬ atoiV s > 1000000 := by simpa using h3
    have : -9223372036854775808 ≤ atoiV s := by
      unfold atoiOK at ha
      unfold atoiV at h3 ⊢
      cases hx : Lib.atoiAll s with
      | ok v =>
        unfold Lib.atoiAll at hx
        rw [hs0] at hx
        simp only [] at hx
        split at hx
        · cases hx
        · cases hx
        · split at hx
          · cases hx
          · split at hx
            · cases hx
            · rename_i h5
              simp only [Lib.NumEnd.ok.injEq] at hx
              subst hx
              simp only
              have : ¬ b.toNat = 45 := by omega
              rw [if_neg this]; omega
      | _ => rw [hx] at ha; cases ha
    omega
  · have hn : ¬ numK s = true := by
      intro hn
      obtain ⟨_, h5, h6⟩ := (word_num h0 hw).2 hn
      rw [h6] at h3
      simp at h3; omega
    rw [hk, if_neg (by rw [h]; simp), if_neg hn]; exact rfl
  · have hn : numK s = true := by
      simp only [Bool.false_or, Bool.or_eq_false_iff, decide_eq_false_iff_not, Bool.not_eq_eq_eq_not, Bool.not_false, beq_iff_eq] at h3
      exact (word_num h0 hw).1 ⟨ha, by omega, h3.2⟩
    rw [hk, if_neg (by rw [h]; simp), if_pos hn]; exact rfl
  · have hn : ¬ numK s = true := by
      intro hn
      obtain ⟨h5, _⟩ := (word_num h0 hw).2 hn
      rw [h5] at ha; cases ha
    rw [hk, if_neg (by rw [h]; simp), if_neg hn]; exact rfl

/-! ### Line -/
def lnO (s : List UInt8) (a : Int) : Nat × Nat := if 0 ≤ a ∧ a ≤ s.length then lnP (s.take a.toNat) else (0, 0)
theorem lastIdx_lo : ∀ l : List UInt8, -1 ≤ Lib.lastIndexByte (strB l) 10 ∧ Lib.lastIndexByte (strB l) 10 ≤ l.length := by
  refine snoc_ind ⟨by decide, by decide⟩ fun l b ih => ?_
  rw [lastIdx_snoc, List.length_append]
  split <;> simp only [List.length_singleton] <;> omega
theorem ln_sat {s : List UInt8} {a : Int} (hs : s.length ≤ 100000) : Sat Tryd.prog (T1 .nil 34 [strV s, iv a]) (· = .tup [iv (lnO s a).1, iv (lnO s a).2]) := by
  constructor
  rw [LLn_eq]; unfold LLn
  simp only [strB_size, strB_extract, strB_list, List.drop_zero]
  refine ⟨fun h => ?_, fun h => ?_⟩
  · simp only [Bool.or_eq_true, decide_eq_true_eq] at h
    unfold lnO
    rw [if_neg (by omega)]; exact rfl
  · simp only [Bool.or_eq_false_iff, decide_eq_false_iff_not] at h
    obtain ⟨k, rfl⟩ : ∃ k : Nat, a = k := ⟨a.toNat, by omega⟩
    have hl := line_eq (s.take k)
    have hb := lastIdx_lo (s.take k)
    have hc := List.count_le_length (a := (10 : UInt8)) (l := s.take k)
    rw [List.length_take] at hb hc
    have hlen : (s.take k).length = k := by rw [List.length_take]; omega
    unfold lnO
    rw [if_pos (by omega), Int.toNat_natCast]
    refine ⟨⟨⟨by omega, by omega⟩, trivial⟩, rfl, by rw [List.length_take]; omega, ?_⟩
    rw [w64_of (n := 1 + _) (by omega) (by omega), w64_of (by omega) (by omega)]
    rw [hl.1, hl.2, hlen]; exact rfl

/-! ### The reference's sign -/
theorem sg_arr (k : Nat) (h : k < 21) : Array.getD #[(40 : UInt8), (41 : UInt8), (123 : UInt8), (125 : UInt8), (91 : UInt8), (93 : UInt8), (44 : UInt8), (59 : UInt8), (58 : UInt8), (61 : UInt8), (43 : UInt8), (45 : UInt8), (38 : UInt8), (124 : UInt8), (94 : UInt8), (126 : UInt8), (60 : UInt8), (63 : UInt8), (64 : UInt8), (35 : UInt8), (46 : UInt8)] k 0 = sgL.getD k 0 := by
  rw [arr_getD]; rfl
theorem sg_sat {s : List UInt8} {i : Nat} (hs : s.length ≤ 100000) (hi : i < s.length) : Sat Tryd.prog (tSg s i) (· = iv (sgLen (s.drop i))) := by
  constructor
  rw [LSg_eq]; unfold LSg
  have w1 : w64 ((i : Int) + 1) = ((i + 1 : Nat) : Int) := by rw [w64_of (by omega) (by omega)]; omega
  rw [w1]
  simp only [strB_size, strB_at, Int.toNat_natCast, e45, e61, e62]
  have hp : (decide (((i + 1 : Nat) : Int) < (s.length : Int)) && (s.getD i 0 == 45 && s.getD (i + 1) 0 == 62 || s.getD i 0 == 61 && s.getD (i + 1) 0 == 61)) = (pre2 45 62 (s.drop i) || pre2 61 61 (s.drop i)) := by
    rw [pre2d, pre2d]
    have : decide (((i + 1 : Nat) : Int) < (s.length : Int)) = decide (i + 1 < s.length) := by rw [decide_eq_decide]; omega
    rw [this]
    cases decide (i + 1 < s.length) <;> simp
  rw [hp]
  refine ⟨fun _ => by omega, fun h => by have := of_decide_eq_true h.1; omega, fun _ => by omega, fun h => by have := of_decide_eq_true h.1.1; omega, fun h => ?_, fun h => ?_⟩
  · unfold sgLen; rw [if_pos h]; exact rfl
  have hh : hd1 isSg (s.drop i) = isSg (s.getD i 0) := hdd hi
  have hv : sgLen (s.drop i) = if isSg (s.getD i 0) = true then 1 else 0 := by
    unfold sgLen
    rw [if_neg (by rw [h]; simp), hh]
  refine code_satS C1_ok D1_ok (n := 200) (n0 := 0) (nx := 0) (roots := []) (keep := [0, 1, 4, 5]) (drop := []) (h := .nil) (c := codeC (sub [0, 0, 0, 0, 1] (tSg s i))) (st := codeS (sub [0, 0, 0, 0, 1] (tSg s i))) (k := codeK (sub [0, 0, 0, 0, 1] (tSg s i))) (body := bodySg) (by kernel_rfl) (by kernel_rfl)
    (fun q t => ∃ k : Nat, q = 21 - k ∧ k ≤ 21 ∧ (∀ j, j < k → sgL.getD j 0 ≠ s.getD i 0) ∧ t = invSg s i 0 k)
    (fun e t => (e = .exit 0 ∧ isSg (s.getD i 0) = false ∧ t = invSg s i 0 21) ∨ (e = .ret ∧ isSg (s.getD i 0) = true ∧ ∃ k, t = invSg s i 1 k))
    ⟨_, _, ⟨0, rfl, by omega, fun j hj => by omega, rfl⟩, ?_⟩ ?_ ?_
  · exact entA_sound (roots := []) (keep := [0, 1, 4, 5]) (drop := []) (nx := 0) (h := .nil) (by kernel_rfl)
  · rintro q t ⟨k, rfl, hk, hj, rfl⟩
    refine Sat.of_eq (BSg_eq s i 0 k) ?_
    constructor
    unfold BSg
    simp only [strB_size, strB_at, Int.toNat_natCast]
    refine ⟨fun h2 => ?_, fun h2 => ?_⟩
    · simp only [decide_eq_true_eq] at h2
      rw [sg_arr k (by omega)]
      refine ⟨by omega, by omega, fun h3 => ?_, fun h3 => ?_⟩
      · have h4 : sgL.getD k 0 = s.getD i 0 := UInt8.toNat_inj.1 (by have := beq_iff_eq.1 h3; omega)
        refine ⟨_, .inr ⟨rfl, ?_, k, rfl⟩, Gc.refl _ _⟩
        unfold isSg
        rw [← h4, List.contains_iff_mem, List.mem_iff_getElem]
        have hlt : k < sgL.length := by show k < 21; omega
        exact ⟨k, hlt, by simp [hlt]⟩
      · have h4 : sgL.getD k 0 ≠ s.getD i 0 := fun e => by rw [e] at h3; simp at h3
        rw [w64_of (n := (k : Int) + 1) (by omega) (by omega)]
        refine ⟨21 - (k + 1), _, by omega, ⟨k + 1, rfl, by omega, fun j hj2 => ?_, rfl⟩, Gc.refl _ _⟩
        rcases Nat.lt_or_ge j k with h5 | h5
        · exact hj j h5
        · obtain rfl : j = k := by omega
          exact h4
    · simp only [decide_eq_false_iff_not] at h2
      obtain rfl : k = 21 := by omega
      refine ⟨_, .inl ⟨rfl, ?_, rfl⟩, Gc.refl _ _⟩
      cases hg : isSg (s.getD i 0) with
      | false => rfl
      | true =>
        unfold isSg at hg
        rw [List.contains_iff_mem, List.mem_iff_getElem] at hg
        obtain ⟨j, hj2, e⟩ := hg
        exact absurd (by simpa [hj2] using e) (hj j hj2)
  · rintro e t (⟨rfl, hg, rfl⟩ | ⟨rfl, hg, k, rfl⟩)
    · refine Sat.of_eq (KSg_eq s i 0 21) ⟨?_⟩
      rw [hv, if_neg (by rw [hg]; simp)]; exact rfl
    · refine Sat.of_eq (KSr_eq s i 1 k) ⟨?_⟩
      rw [hv, if_pos hg]; exact rfl

/-! ### The reference's blank -/
theorem skip_at {s : List UInt8} {i : Nat} (hi : i < s.length) : skipN (s.drop i) = if isSp (s.getD i 0) = true then 1 else if (s.getD i 0 == 47 && (decide (i + 1 < s.length) && s.getD (i + 1) 0 == 47)) = true then ((s.drop i).takeWhile notNl).length else 0 := by
  unfold skipN cmt
  rw [hdd hi, pre2d]
  have : (decide (i + 1 < s.length) && (s.getD i 0 == 47 && s.getD (i + 1) 0 == 47)) = (s.getD i 0 == 47 && (decide (i + 1 < s.length) && s.getD (i + 1) 0 == 47)) := by
    cases decide (i + 1 < s.length) <;> cases (s.getD i 0 == 47) <;> simp
  rw [this]
theorem getD_drop (s : List UInt8) (i j : Nat) : (s.drop i).getD j 0 = s.getD (i + j) 0 := by
  simp [List.getD_eq_getElem?_getD, List.getElem?_drop]
theorem bl_sat {s : List UInt8} {i : Nat} (hs : s.length ≤ 100000) (hi : i ≤ s.length) : Sat Tryd.prog (tBl s i) (· = iv ((i + gapN (s.drop i) : Nat) : Int)) := by
  constructor
  rw [LBl_eq]; unfold LBl
  refine code_satS C1_ok D1_ok (n := 200) (n0 := 0) (nx := 0) (roots := []) (keep := [0, 1, 4]) (drop := []) (h := .nil) (c := codeC (sub [] (tBl s i))) (st := codeS (sub [] (tBl s i))) (k := codeK (sub [] (tBl s i))) (body := bodyBl) (by kernel_rfl) (by kernel_rfl)
    (fun q t => ∃ j : Nat, q = s.length - j ∧ j ≤ s.length ∧ j + gapN (s.drop j) = i + gapN (s.drop i) ∧ t = invBl s j 0)
    (fun e t => (e = .exit 0 ∧ t = invBl s (s.length : Nat) 0 ∧ i + gapN (s.drop i) = s.length) ∨ (e = .ret ∧ ∃ j : Int, t = invBl s j ((i + gapN (s.drop i) : Nat) : Int)))
    ⟨_, _, ⟨i, rfl, hi, rfl, rfl⟩, ?_⟩ ?_ ?_
  · exact entA_sound (roots := []) (keep := [0, 1, 4]) (drop := []) (nx := 0) (h := .nil) (by kernel_rfl)
  · rintro q t ⟨j, rfl, hj, he, rfl⟩
    refine Sat.of_eq (BBl_eq s j 0) ?_
    constructor
    unfold BBl
    by_cases h : j < s.length
    · have w1 : w64 ((j : Int) + 1) = ((j + 1 : Nat) : Int) := by rw [w64_of (by omega) (by omega)]; omega
      rw [w1]
      simp only [strB_size, strB_at, Int.toNat_natCast, e10, e32, n47, e47]
      have hsk := skip_at h
      refine ⟨fun _ => ⟨by omega, fun h2 => ?_, fun h2 => ⟨by omega, fun h3 => ?_, fun h3 => ?_, fun h3 => ?_⟩⟩, fun h2 => by simp at h2; omega⟩
      · have hsp : isSp (s.getD j 0) = true := h2
        rw [if_pos hsp] at hsk
        refine ⟨s.length - (j + 1), _, by omega, ⟨j + 1, rfl, by omega, ?_, rfl⟩, Gc.refl _ _⟩
        rw [gap_skip (by omega), hsk, List.drop_drop] at he
        omega
      · simp only [Bool.or_eq_false_iff, beq_eq_false_iff_ne, ne_eq] at h3
        omega
      · have hsp : isSp (s.getD j 0) = false := h2
        rw [if_neg (by rw [hsp]; simp)] at hsk
        have : ¬ (s.getD j 0 == 47 && (decide (j + 1 < s.length) && s.getD (j + 1) 0 == 47)) = true := by
          intro h4
          simp only [Bool.and_eq_true, beq_iff_eq, decide_eq_true_eq] at h4
          obtain ⟨h5, h6, h7⟩ := h4
          rw [h5, h7] at h3
          simp at h3; omega
        rw [if_neg this] at hsk
        rw [gap_no hsk] at he
        refine ⟨_, .inr ⟨rfl, j, ?_⟩, Gc.refl _ _⟩
        rw [← he]; rfl
      · have hsp : isSp (s.getD j 0) = false := h2
        rw [if_neg (by rw [hsp]; simp)] at hsk
        have hc : (s.getD j 0 == 47 && (decide (j + 1 < s.length) && s.getD (j + 1) 0 == 47)) = true := by
          simp only [Bool.or_eq_false_iff, bne_eq_false_iff_eq, beq_eq_false_iff_ne, ne_eq] at h3
          obtain ⟨⟨h5, h6⟩, h7⟩ := h3
          rw [h5, h7]
          simp; omega
        rw [if_pos hc] at hsk
        have hn1 : 0 < ((s.drop j).takeWhile notNl).length := by
          simp only [Bool.and_eq_true, beq_iff_eq] at hc
          refine List.length_pos_iff.2 (tw_hd ?_)
          rw [hdd h, hc.1]; decide
        have hle := tw_le notNl (s.drop j)
        rw [List.length_drop] at hle
        refine code_satS C1_ok D1_ok (n := 200) (n0 := 0) (nx := 0) (roots := []) (keep := [0, 1, 4]) (drop := []) (h := .nil) (body := bodyBm) (by kernel_rfl) (by kernel_rfl)
          (fun q t => ∃ k : Nat, q = s.length - k ∧ k ≤ s.length ∧ j ≤ k ∧ (∀ m, j ≤ m → m < k → notNl (s.getD m 0) = true) ∧ t = invBl s k 0)
          (fun e t => e = .exit 2 ∧ t = invBl s ((j + ((s.drop j).takeWhile notNl).length : Nat) : Int) 0)
          ⟨_, _, ⟨j, rfl, hj, Nat.le_refl _, fun m h1 h2 => by omega, rfl⟩, ?_⟩ ?_ ?_
        · exact entA_sound (roots := []) (keep := [0, 1, 4]) (drop := []) (nx := 0) (h := .nil) (by kernel_rfl)
        · rintro q t ⟨k, rfl, hk, hjk, hm, rfl⟩
          refine Sat.of_eq (BBm_eq s k 0) ?_
          constructor
          unfold BBm
          simp only [strB_size, strB_at, Int.toNat_natCast, n10]
          refine ⟨fun h4 => by have := of_decide_eq_true h4; omega, fun h4 => ?_, fun h4 => ?_⟩
          · simp only [Bool.and_eq_true, decide_eq_true_eq] at h4
            rw [w64_of (n := (k : Int) + 1) (by omega) (by omega)]
            refine ⟨s.length - (k + 1), _, by omega, ⟨k + 1, rfl, by omega, by omega, fun m h5 h6 => ?_, rfl⟩, Gc.refl _ _⟩
            rcases Nat.lt_or_ge m k with h7 | h7
            · exact hm m h5 h7
            · obtain rfl : m = k := by omega
              exact h4.2
          · have e : (s.drop j).takeWhile notNl = (s.drop j).take (k - j) := by
              refine tw_at (by rw [List.length_drop]; omega) (fun m h5 => ?_) (fun h5 => ?_)
              · rw [getD_drop]; exact hm _ (by omega) (by omega)
              · rw [List.length_drop] at h5
                rw [getD_drop, show j + (k - j) = k by omega]
                simp only [Bool.and_eq_false_iff, decide_eq_false_iff_not] at h4
                rcases h4 with h4 | h4
                · omega
                · exact h4
            have el : ((s.drop j).takeWhile notNl).length = k - j := by rw [e, List.length_take, List.length_drop]; omega
            refine ⟨_, ⟨rfl, ?_⟩, Gc.refl _ _⟩
            rw [el, show j + (k - j) = k by omega]; rfl
        · rintro e t ⟨rfl, rfl⟩
          refine Sat.of_eq (KBm_eq s j _ 0 0) ⟨?_⟩
          unfold KBm
          refine ⟨s.length - (j + ((s.drop j).takeWhile notNl).length), _, by omega, ⟨j + ((s.drop j).takeWhile notNl).length, rfl, by omega, ?_, rfl⟩, Gc.refl _ _⟩
          rw [gap_skip (by omega), hsk, List.drop_drop] at he
          omega
    · obtain rfl : j = s.length := by omega
      refine ⟨fun h2 => by simp [strB_size] at h2, fun _ => ?_⟩
      refine ⟨_, .inl ⟨rfl, rfl, ?_⟩, Gc.refl _ _⟩
      rw [List.drop_eq_nil_of_le (Nat.le_refl _), gap_nil] at he
      omega
  · rintro e t (⟨rfl, rfl, he⟩ | ⟨rfl, j, rfl⟩)
    · refine Sat.of_eq (KBl_eq s i _ 0) ⟨?_⟩
      rw [he]; exact rfl
    · exact Sat.of_eq (KBr_eq s i j _) ⟨rfl⟩
end Go.Proofs.YtnoodoipghgkgaaDoor

namespace Go.Proofs.YtnoodoipghgkgaaDoor
open Go.Sx
set_option maxRecDepth 100000

/-! ### The reference's kind -/
theorem dWd (b : UInt8) : (decide (((b.toNat : Nat) : Int) ≥ 97) && decide (((b.toNat : Nat) : Int) ≤ 122) || decide (((b.toNat : Nat) : Int) ≥ 48) && decide (((b.toNat : Nat) : Int) ≤ 57)) = isWd b := by
  rw [dLet, dDg]; rfl
theorem kd_sat {s : List UInt8} (hs : s.length ≤ 100000) : Sat Tryd.prog (tKd s) (· = iv (kindR s)) := by
  constructor
  rw [LKd_eq]; unfold LKd
  simp only [strB_size, strB_at, dDg]
  by_cases h0 : s = []
  · subst h0
    exact ⟨fun _ => rfl, fun h => (by cases h)⟩
  have hl : 0 < s.length := List.length_pos_iff.2 h0
  have hhd : ∀ p, hd1 p s = p (s.getD 0 0) := fun p => by have := hdd (p := p) (L := s) (i := 0) hl; simpa using this
  refine ⟨fun h => by simp at h; exact absurd h h0, fun _ => ⟨by omega, fun hd => ?_, fun hd => ?_⟩⟩
  · have hd : isDg (s.getD 0 0) = false := by simpa using hd
    refine code_satS C1_ok D1_ok (n := 200) (n0 := 0) (nx := 0) (roots := []) (keep := [0, 2, 3]) (drop := []) (h := .nil) (c := codeC (sub [1, 0, 0] (tKd s))) (st := codeS (sub [1, 0, 0] (tKd s))) (k := codeK (sub [1, 0, 0] (tKd s))) (body := bodyKd) (by kernel_rfl) (by kernel_rfl)
      (fun q t => ∃ i : Nat, q = s.length - i ∧ i ≤ s.length ∧ (∀ j, j < i → isWd (s.getD j 0) = true) ∧ t = invKd s 0 i)
      (fun e t => (e = .exit 0 ∧ s.all isWd = true ∧ t = invKd s 0 s.length) ∨ (e = .ret ∧ s.all isWd = false ∧ ∃ i, t = invKd s 0 i))
      ⟨_, _, ⟨0, rfl, by omega, fun j hj => by omega, rfl⟩, ?_⟩ ?_ ?_
    · exact entA_sound (roots := []) (keep := [0, 2, 3]) (drop := []) (nx := 0) (h := .nil) (by kernel_rfl)
    · rintro q t ⟨i, rfl, hi, hj, rfl⟩
      refine Sat.of_eq (BKd_eq s 0 i) ?_
      constructor
      unfold BKd
      simp only [strB_size, strB_at, Int.toNat_natCast, dWd]
      refine ⟨fun h2 => ?_, fun h2 => ?_⟩
      · simp only [decide_eq_true_eq] at h2
        have hlt : i < s.length := by omega
        refine ⟨by omega, fun h3 => ?_, fun h3 => ?_⟩
        · exact ⟨_, .inr ⟨rfl, not_all hlt (by simpa using h3), i, rfl⟩, Gc.refl _ _⟩
        · rw [w64_of (n := (i : Int) + 1) (by omega) (by omega)]
          refine ⟨s.length - (i + 1), _, by omega, ⟨i + 1, rfl, by omega, fun j hj2 => ?_, rfl⟩, Gc.refl _ _⟩
          rcases Nat.lt_or_ge j i with h5 | h5
          · exact hj j h5
          · obtain rfl : j = i := by omega
            simpa using h3
      · simp only [decide_eq_false_iff_not] at h2
        obtain rfl : i = s.length := by omega
        refine ⟨_, .inl ⟨rfl, ?_, rfl⟩, Gc.refl _ _⟩
        have := (take_all (p := isWd) (Nat.le_refl s.length)).2 hj
        rwa [List.take_length] at this
    · rintro e t (⟨rfl, ha, rfl⟩ | ⟨rfl, ha, i, rfl⟩)
      · refine Sat.of_eq (KKd_eq s 0 s.length) ⟨?_⟩
        have hlet : isLet (s.getD 0 0) = true := by
          have := wd_split (all_at ha hl)
          rw [hd] at this
          simpa using this.symm
        have : kindR s = 1 := by
          unfold kindR wKind
          rw [if_pos ha, if_neg (by simpa using h0), if_pos (by rw [hhd]; exact hlet)]
        rw [this]; exact rfl
      · refine Sat.of_eq (KKr_eq s 0 i) ⟨?_⟩
        have : kindR s = 0 := by unfold kindR; rw [if_neg (by rw [ha]; simp)]
        rw [this]; exact rfl
  · have hd : isDg (s.getD 0 0) = true := by simpa using hd
    have hkr : kindR s = if numK s = true then 2 else 0 := by
      unfold kindR wKind
      by_cases ha : s.all isWd = true
      · have hlet : isLet (s.getD 0 0) = false := by
          have := wd_split (all_at ha hl)
          rw [hd] at this
          simpa using this.symm
        rw [if_pos ha, if_neg (by simpa using h0), if_neg (by rw [hhd, hlet]; simp)]
      · rw [if_neg ha, if_neg (fun hn => ha (numK_wd hn))]
    refine code_satS C1_ok D1_ok (n := 200) (n0 := 0) (nx := 0) (roots := []) (keep := [0, 2, 4, 5]) (drop := []) (h := .nil) (c := codeC (sub [1, 0, 1] (tKd s))) (st := codeS (sub [1, 0, 1] (tKd s))) (k := codeK (sub [1, 0, 1] (tKd s))) (body := bodyKe) (by kernel_rfl) (by kernel_rfl)
      (fun q t => ∃ i : Nat, q = s.length - i ∧ i ≤ s.length ∧ (∀ j, j < i → isDg (s.getD j 0) = true) ∧ dval (s.take i) ≤ 10000009 ∧ t = invKe s 0 (dval (s.take i) : Nat) i)
      (fun e t => (e = .exit 2 ∧ s.all isDg = true ∧ dval s ≤ 10000009 ∧ t = invKe s 0 (dval s : Nat) s.length) ∨ (e = .ret ∧ numK s = false ∧ ∃ n i, t = invKe s 0 n i))
      ⟨_, _, ⟨0, rfl, by omega, fun j hj => by omega, by simp [dval_nil], rfl⟩, ?_⟩ ?_ ?_
    · exact entA_sound (roots := []) (keep := [0, 2, 4, 5]) (drop := []) (nx := 0) (h := .nil) (by kernel_rfl)
    · rintro q t ⟨i, rfl, hi, hj, hv, rfl⟩
      refine Sat.of_eq (BKe_eq s 0 _ i) ?_
      constructor
      unfold BKe
      simp only [strB_size, strB_at, Int.toNat_natCast, dDg]
      refine ⟨fun h2 => ?_, fun h2 => ?_⟩
      · simp only [decide_eq_true_eq] at h2
        have hlt : i < s.length := by omega
        refine ⟨by omega, fun h3 => ?_, fun h3 => ?_⟩
        · refine ⟨_, .inr ⟨rfl, ?_, _, i, rfl⟩, Gc.refl _ _⟩
          rw [Bool.or_eq_true, decide_eq_true_eq] at h3
          cases hn : numK s with
          | false => rfl
          | true =>
            obtain ⟨k1, k2, k3⟩ := numK_iff.1 hn
            rcases h3 with h3 | h3
            · have := all_at k1 hlt
              rw [this] at h3; cases h3
            · have := dval_mono (s.take i) (s.drop i)
              rw [List.take_append_drop] at this
              omega
        · rw [Bool.or_eq_false_iff, decide_eq_false_iff_not] at h3
          have hdi : isDg (s.getD i 0) = true := by simpa using h3.1
          have hdn := isDg_nat.1 hdi
          have hw : IntKind.wrap .u8 (((s.getD i 0).toNat : Int) - 48) = (((s.getD i 0).toNat - 48 : Nat) : Int) := by
            have : IntKind.wrap .u8 (((s.getD i 0).toNat : Int) - 48) = (((s.getD i 0).toNat : Int) - 48) % 256 := by unfold IntKind.wrap; rfl
            rw [this]; omega
          rw [hw, w64_of (n := 10 * _) (by omega) (by omega), w64_of (n := (((s.getD i 0).toNat - 48 : Nat) : Int)) (by omega) (by omega), w64_of (n := 10 * _ + _) (by omega) (by omega), w64_of (n := (i : Int) + 1) (by omega) (by omega)]
          have hs2 : dval (s.take (i + 1)) = 10 * dval (s.take i) + ((s.getD i 0).toNat - 48) := by rw [take_snoc hlt, dval_snoc]
          refine ⟨by omega, s.length - (i + 1), _, by omega, ⟨i + 1, rfl, by omega, fun j hj2 => ?_, by omega, rfl⟩, ?_⟩
          · rcases Nat.lt_or_ge j i with h5 | h5
            · exact hj j h5
            · obtain rfl : j = i := by omega
              exact hdi
          · have : (10 * ((dval (s.take i) : Nat) : Int) + (((s.getD i 0).toNat - 48 : Nat) : Int)) = ((dval (s.take (i + 1)) : Nat) : Int) := by rw [hs2]; omega
            rw [this]
            exact Gc.refl _ _
      · simp only [decide_eq_false_iff_not] at h2
        obtain rfl : i = s.length := by omega
        rw [List.take_length] at hv
        refine ⟨_, .inl ⟨rfl, ?_, hv, ?_⟩, Gc.refl _ _⟩
        · have := (take_all (p := isDg) (Nat.le_refl s.length)).2 hj
          rwa [List.take_length] at this
        · rw [List.take_length]; rfl
    · rintro e t (⟨rfl, ha, hv, rfl⟩ | ⟨rfl, ha, n, i, rfl⟩)
      · refine Sat.of_eq (KKe_eq s 0 _ s.length) ⟨?_⟩
        unfold KKe
        simp only [strB_size, strB_at, e48]
        rw [hkr]
        have hc : (decide (((dval s : Nat) : Int) > 1000000) || s.getD 0 0 == 48 && decide ((s.length : Int) > 1)) = !numK s := by
          have hln : lead s = !(s.getD 0 0 == 48 && decide ((s.length : Int) > 1)) := by
            unfold lead
            rw [hhd]
            have : decide (s.length ≤ 1) = !decide ((s.length : Int) > 1) := by
              by_cases h : s.length ≤ 1
              · rw [decide_eq_true h, decide_eq_false (by omega)]; rfl
              · rw [decide_eq_false h, decide_eq_true (by omega)]; rfl
            rw [this, Bool.not_and, Bool.or_comm]
          have hnk : numK s = (decide (dval s ≤ 1000000) && lead s) := by
            rw [Bool.eq_iff_iff, numK_iff, Bool.and_eq_true, decide_eq_true_eq]
            exact ⟨fun h => h.2, fun h => ⟨ha, h⟩⟩
          rw [hnk, hln]
          have : decide (dval s ≤ 1000000) = !decide (((dval s : Nat) : Int) > 1000000) := by
            by_cases h : dval s ≤ 1000000
            · rw [decide_eq_true h, decide_eq_false (by omega)]; rfl
            · rw [decide_eq_false h, decide_eq_true (by omega)]; rfl
          rw [this]
          cases decide (((dval s : Nat) : Int) > 1000000) <;> cases (s.getD 0 0 == 48 && decide ((s.length : Int) > 1)) <;> rfl
        rw [hc]
        refine ⟨fun _ => by omega, fun h => ?_, fun h => ?_⟩
        · rw [if_neg (by simpa using h)]; exact rfl
        · rw [if_pos (by simpa using h)]; exact rfl
      · refine Sat.of_eq (KKf_eq s 0 n i) ⟨?_⟩
        rw [hkr, ha]; exact rfl

/-! ### Contracts -/
theorem str_le (s : ByteArray) : leSV 0 [] [] (.d (.x (.string s))) (strV s.data.toList) := by
  unfold strV
  rw [strB_of]
  exact rfl
noncomputable def cWk : Ctr := fun ss => match ss with
  | [.d (.x (.string s))] => .need (s.data.toList.all isWd = true ∧ s.size ≤ 100000) (.ret (iv (wKind s.data.toList)))
  | _ => .fail
theorem cWk_ok : CtrOK Tryd.prog 41 cWk := by
  refine ctrOK_leS C1_ok D1_ok (by kernel_rfl) (by kernel_rfl) fun ss r h => ?_
  unfold cWk at h
  split at h
  · rename_i s
    obtain ⟨⟨h1, h2⟩, rfl⟩ := h
    rw [size_list] at h2
    have kk := wk_sat h1 h2
    exact ⟨[strV s.data.toList], 200, .nil, ⟨str_le s, rfl⟩, kk⟩
  · exact h.elim
noncomputable def cLn : Ctr := fun ss => match ss with
  | [.d (.x (.string s)), .d (.x (.int .i64 a))] => .need (s.size ≤ 100000) (.ret (.tup [iv (lnO s.data.toList a).1, iv (lnO s.data.toList a).2]))
  | _ => .fail
theorem cLn_ok : CtrOK Tryd.prog 34 cLn := by
  refine ctrOK_leS C1_ok D1_ok (by kernel_rfl) (by kernel_rfl) fun ss r h => ?_
  unfold cLn at h
  split at h
  · rename_i s a
    obtain ⟨h2, rfl⟩ := h
    rw [size_list] at h2
    have kk := ln_sat (a := a) h2
    exact ⟨[strV s.data.toList, iv a], 200, .nil, ⟨str_le s, rfl, rfl⟩, kk⟩
  · exact h.elim
noncomputable def cSg : Ctr := fun ss => match ss with
  | [.d (.x (.string s)), .d (.x (.int .i64 i))] => .need (s.size ≤ 100000 ∧ 0 ≤ i ∧ i < s.size) (.ret (iv (sgLen (s.data.toList.drop i.toNat))))
  | _ => .fail
theorem cSg_ok : CtrOK Tryd.prog 30 cSg := by
  refine ctrOK_leS C1_ok D1_ok (by kernel_rfl) (by kernel_rfl) fun ss r h => ?_
  unfold cSg at h
  split at h
  · rename_i s i
    obtain ⟨⟨h1, h2, h3⟩, rfl⟩ := h
    rw [size_list] at h1 h3
    obtain ⟨k, rfl⟩ : ∃ k : Nat, i = k := ⟨i.toNat, by omega⟩
    have kk := sg_sat (s := s.data.toList) (i := k) h1 (by omega)
    exact ⟨[strV s.data.toList, iv k], 200, .nil, ⟨str_le s, rfl, rfl⟩, kk⟩
  · exact h.elim
noncomputable def cBl : Ctr := fun ss => match ss with
  | [.d (.x (.string s)), .d (.x (.int .i64 i))] => .need (s.size ≤ 100000 ∧ 0 ≤ i ∧ i ≤ s.size) (.ret (iv ((i.toNat + gapN (s.data.toList.drop i.toNat) : Nat) : Int)))
  | _ => .fail
theorem cBl_ok : CtrOK Tryd.prog 27 cBl := by
  refine ctrOK_leS C1_ok D1_ok (by kernel_rfl) (by kernel_rfl) fun ss r h => ?_
  unfold cBl at h
  split at h
  · rename_i s i
    obtain ⟨⟨h1, h2, h3⟩, rfl⟩ := h
    rw [size_list] at h1 h3
    obtain ⟨k, rfl⟩ : ∃ k : Nat, i = k := ⟨i.toNat, by omega⟩
    have kk := bl_sat (s := s.data.toList) (i := k) h1 (by omega)
    exact ⟨[strV s.data.toList, iv k], 200, .nil, ⟨str_le s, rfl, rfl⟩, kk⟩
  · exact h.elim
noncomputable def cKd : Ctr := fun ss => match ss with
  | [.d (.x (.string s))] => .need (s.size ≤ 100000) (.ret (iv (kindR s.data.toList)))
  | _ => .fail
theorem cKd_ok : CtrOK Tryd.prog 29 cKd := by
  refine ctrOK_leS C1_ok D1_ok (by kernel_rfl) (by kernel_rfl) fun ss r h => ?_
  unfold cKd at h
  split at h
  · rename_i s
    obtain ⟨h2, rfl⟩ := h
    rw [size_list] at h2
    have kk := kd_sat h2
    exact ⟨[strV s.data.toList], 200, .nil, ⟨str_le s, rfl⟩, kk⟩
  · exact h.elim
end Go.Proofs.YtnoodoipghgkgaaDoor

namespace Go.Proofs.YtnoodoipghgkgaaDoor
open Go.Sx
set_option maxRecDepth 100000

noncomputable def man2 : FuncId → Option Ctr := fun k => match k with
  | 27 => some cBl
  | 29 => some cKd
  | 30 => some cSg
  | 34 => some cLn
  | 41 => some cWk
  | k => man1 k
theorem man2_ok (k : Nat) (c : Ctr) (h : man2 k = some c) : CtrOK Tryd.prog k c ∧ goodF Tryd.prog k = true := by
  unfold man2 at h
  split at h
  · cases h; exact ⟨cBl_ok, by kernel_rfl⟩
  · cases h; exact ⟨cKd_ok, by kernel_rfl⟩
  · cases h; exact ⟨cSg_ok, by kernel_rfl⟩
  · cases h; exact ⟨cLn_ok, by kernel_rfl⟩
  · cases h; exact ⟨cWk_ok, by kernel_rfl⟩
  · exact man1_ok _ _ h
noncomputable def C2 : Ctx := ctxN Tryd.prog man2 (fun _ => false) 200 .nil 6
theorem C2_ok : CtxOK Tryd.prog C2 := ctxN_ok mixed man2_ok 6
noncomputable def D2 : Dr := fun _ => drawn Tryd.prog C2
theorem D2_ok : DrOK Tryd.prog C2 D2 := drawn_ok C2_ok mixed
noncomputable def T2 (h : Hint) (k : Nat) (args : List SV) : Tree SV := fnT Tryd.prog C2 D2 200 (fnOf Tryd.prog k) (bodyOf Tryd.prog k) args h
noncomputable def roT (n : Nat) (L : List Tok) : SV := .d (.ro n 3 (tkC L))
noncomputable def tSm (n : Nat) (L : List Tok) (m : Nat) (M : List Tok) (b : Int) : Tree SV := T2 .nil 23 [roT n L, roT m M, iv b]
noncomputable def tLi (s : List UInt8) (a : Int) : Tree SV := T2 .nil 19 [strV s, iv a]
noncomputable def tJr (n : Nat) (L : List Tok) : Tree SV := T2 .nil 21 [roT n L]
noncomputable def tJp (n : Nat) (L : List Tok) : Tree SV := T2 .nil 20 [roT n L]
noncomputable def LKr_q1 (s : List UInt8) : Bool :=
  decide ((↑(ByteArray.size (strB s)) : Int) > (0 : Int))
noncomputable def LKr (s : List UInt8) : Tree SV :=
  .need (LKr_q1 s = true → ByteArray.size (strB s) ≤ 100000 ∧ (0 : Int) ≤ (0 : Int) ∧ (0 : Int) < (↑(ByteArray.size (strB s)) : Int))
  (.ite (LKr_q1 s && (↑(sgLen (List.drop 0 (Array.toList (ByteArray.data (strB s))))) : Int) == (↑(ByteArray.size (strB s)) : Int)) (.ret (iv (3 : Int)))
   (.need (ByteArray.size (strB s) ≤ 100000) (.ret (iv (↑(kindR (Array.toList (ByteArray.data (strB s)))) : Int)))))

theorem LKr_eq (s : List UInt8) : T2 .nil 17 [strV s] = LKr s := by kernel_rfl

noncomputable def LSm (n : Nat) (L : List Tok) (m : Nat) (M : List Tok) (b : Int) : Tree SV :=
  .ite ((↑n : Int) != (↑m : Int)) (.ret (bv false)) (.code (codeC (sub [(1 : Nat)] (tSm n L m M b))) (codeS (sub [(1 : Nat)] (tSm n L m M b))) (codeK (sub [(1 : Nat)] (tSm n L m M b))))

theorem LSm_eq (n : Nat) (L : List Tok) (m : Nat) (M : List Tok) (b : Int) : tSm n L m M b = LSm n L m M b := by kernel_rfl

noncomputable def LLi (s : List UInt8) (a : Int) : Tree SV :=
  .ite (decide (a < (0 : Int)) || decide (a > (↑(ByteArray.size (strB s)) : Int))) (.ret (SV.agg [iv (0 : Int), iv (0 : Int)]))
  (.code (codeC (sub [(1 : Nat)] (tLi s a))) (codeS (sub [(1 : Nat)] (tLi s a))) (codeK (sub [(1 : Nat)] (tLi s a))))

theorem LLi_eq (s : List UInt8) (a : Int) : tLi s a = LLi s a := by kernel_rfl

noncomputable def LJr (n : Nat) (L : List Tok) : Tree SV :=
  .code (codeC (sub [] (tJr n L))) (codeS (sub [] (tJr n L))) (codeK (sub [] (tJr n L)))

theorem LJr_eq (n : Nat) (L : List Tok) : tJr n L = LJr n L := by kernel_rfl

noncomputable def LJp (n : Nat) (L : List Tok) : Tree SV :=
  .code (codeC (sub [] (tJp n L))) (codeS (sub [] (tJp n L))) (codeK (sub [] (tJp n L)))

theorem LJp_eq (n : Nat) (L : List Tok) : tJp n L = LJp n L := by kernel_rfl

noncomputable def invSm (n : Nat) (L : List Tok) (m : Nat) (M : List Tok) (b : Int) (r : Bool) (i : Nat) : AS := ⟨[.ok (roT n L), .ok (roT m M), .ok (iv b), .unk, .unk, .unk, .ok (bv r), .ok (iv i)] ++ List.replicate 50 .unk, [], 0, .nil⟩
noncomputable def bodySm : Code := loopN (bodyOf Tryd.prog 23) 0
noncomputable def BSm (n : Nat) (L : List Tok) (m : Nat) (M : List Tok) (b : Int) (r : Bool) (i : Nat) : Tree (Ex × AS) :=
  .ite (decide ((↑i : Int) < (↑n : Int)))
  (.need ((0 : Int) ≤ (↑i : Int) ∧ (↑i : Int) < (↑n : Int))
   (.need ((0 : Int) ≤ (↑i : Int) ∧ (↑i : Int) < (↑m : Int))
   (.need ((tkK L (Int.toNat (↑i : Int)) != tkK M (Int.toNat (↑i : Int))) = false → (0 : Int) ≤ (↑i : Int) ∧ (↑i : Int) < (↑n : Int))
   (.need ((tkK L (Int.toNat (↑i : Int)) != tkK M (Int.toNat (↑i : Int))) = false → (0 : Int) ≤ (↑i : Int) ∧ (↑i : Int) < (↑m : Int))
   (.need ((tkK L (Int.toNat (↑i : Int)) != tkK M (Int.toNat (↑i : Int)) || !strEq (tkT L (Int.toNat (↑i : Int))) (tkT M (Int.toNat (↑i : Int)))) = false → (0 : Int) ≤ (↑i : Int) ∧ (↑i : Int) < (↑n : Int))
   (.need ((tkK L (Int.toNat (↑i : Int)) != tkK M (Int.toNat (↑i : Int)) || !strEq (tkT L (Int.toNat (↑i : Int))) (tkT M (Int.toNat (↑i : Int)))) = false → (0 : Int) ≤ (↑i : Int) ∧ (↑i : Int) < (↑m : Int))
   (.ite (tkK L (Int.toNat (↑i : Int)) != tkK M (Int.toNat (↑i : Int)) || !strEq (tkT L (Int.toNat (↑i : Int))) (tkT M (Int.toNat (↑i : Int))) || w64 (tkA L (Int.toNat (↑i : Int)) + b) != tkA M (Int.toNat (↑i : Int)))
   (.ret
   (.ret,
   {
   tm :=
   [.ok
   (SV.d
   (DV.ro n 3 fun i j =>
   match j with
   | (0 : Nat) => DV.x (.int .i64 (tkK L i))
   | (1 : Nat) => DV.x (.string (tkT L i))
   | x => DV.x (.int .i64 (tkA L i)))),
   .ok
   (SV.d
   (DV.ro m 3 fun i j =>
   match j with
   | (0 : Nat) => DV.x (.int .i64 (tkK M i))
   | (1 : Nat) => DV.x (.string (tkT M i))
   | x => DV.x (.int .i64 (tkA M i)))),
   .ok (iv b), .unk, .unk, .unk, .ok (bv false), .ok (iv (↑i : Int)), .unk, .unk, .unk, .unk, .unk, .unk, .unk, .unk, .unk, .unk, .unk, .unk, .unk, .unk, .unk, .unk, .unk,
   .unk, .unk, .unk, .unk, .unk, .unk, .unk, .unk, .unk, .unk, .unk, .unk, .unk, .unk, .unk, .unk, .unk, .unk, .unk, .unk, .unk, .unk, .unk, .unk, .unk, .unk,
   .unk, .unk, .unk, .unk, .unk, .unk, .unk],
   hp := [], next := 0, hint := .nil }))
   (.ret
   (.normal,
   {
   tm :=
   [.ok
   (SV.d
   (DV.ro n 3 fun i j =>
   match j with
   | (0 : Nat) => DV.x (.int .i64 (tkK L i))
   | (1 : Nat) => DV.x (.string (tkT L i))
   | x => DV.x (.int .i64 (tkA L i)))),
   .ok
   (SV.d
   (DV.ro m 3 fun i j =>
   match j with
   | (0 : Nat) => DV.x (.int .i64 (tkK M i))
   | (1 : Nat) => DV.x (.string (tkT M i))
   | x => DV.x (.int .i64 (tkA M i)))),
   .ok (iv b), .unk, .unk, .unk, .ok (bv r), .ok (iv (w64 ((↑i : Int) + (1 : Int)))), .unk, .unk, .unk, .unk, .unk, .unk, .unk, .unk, .unk, .unk, .unk, .unk, .unk, .unk, .unk,
   .unk, .unk, .unk, .unk, .unk, .unk, .unk, .unk, .unk, .unk, .unk, .unk, .unk, .unk, .unk, .unk, .unk, .unk, .unk, .unk, .unk, .unk, .unk, .unk, .unk, .unk,
   .unk, .unk, .unk, .unk, .unk, .unk, .unk, .unk, .unk],
   hp := [], next := 0, hint := .nil })))))))))
  (.ret
   (.exit 0,
   {
   tm :=
   [.ok
   (SV.d
   (DV.ro n 3 fun i j =>
   match j with
   | (0 : Nat) => DV.x (.int .i64 (tkK L i))
   | (1 : Nat) => DV.x (.string (tkT L i))
   | x => DV.x (.int .i64 (tkA L i)))),
   .ok
   (SV.d
   (DV.ro m 3 fun i j =>
   match j with
   | (0 : Nat) => DV.x (.int .i64 (tkK M i))
   | (1 : Nat) => DV.x (.string (tkT M i))
   | x => DV.x (.int .i64 (tkA M i)))),
   .ok (iv b), .unk, .unk, .unk, .ok (bv r), .ok (iv (↑i : Int)), .unk, .unk, .unk, .unk, .unk, .unk, .unk, .unk, .unk, .unk, .unk, .unk, .unk, .unk, .unk, .unk, .unk, .unk, .unk,
   .unk, .unk, .unk, .unk, .unk, .unk, .unk, .unk, .unk, .unk, .unk, .unk, .unk, .unk, .unk, .unk, .unk, .unk, .unk, .unk, .unk, .unk, .unk, .unk, .unk, .unk, .unk, .unk,
   .unk, .unk, .unk],
   hp := [], next := 0, hint := .nil }))

theorem BSm_eq (n : Nat) (L : List Tok) (m : Nat) (M : List Tok) (b : Int) (r : Bool) (i : Nat) : cutT 0 [] [0, 1, 2, 6, 7] [] 0 .nil (exec Tryd.prog C2 D2 200 bodySm (invSm n L m M b r i)) = BSm n L m M b r i := by kernel_rfl

noncomputable def KSm (n : Nat) (L : List Tok) (m : Nat) (M : List Tok) (b : Int) (r : Bool) (i : Nat) : Tree SV :=
  .ret (bv true)

theorem KSm_eq (n : Nat) (L : List Tok) (m : Nat) (M : List Tok) (b : Int) (r : Bool) (i : Nat) : codeK (sub [1] (tSm n L m M b)) (.exit 0) (invSm n L m M b r i) = KSm n L m M b r i := by kernel_rfl

noncomputable def KSn (n : Nat) (L : List Tok) (m : Nat) (M : List Tok) (b : Int) (r : Bool) (i : Nat) : Tree SV :=
  .ret (bv r)

theorem KSn_eq (n : Nat) (L : List Tok) (m : Nat) (M : List Tok) (b : Int) (r : Bool) (i : Nat) : codeK (sub [1] (tSm n L m M b)) .ret (invSm n L m M b r i) = KSn n L m M b r i := by kernel_rfl

noncomputable def invLi (s : List UInt8) (a l c : Int) (i : Nat) : AS := ⟨[.ok (strV s), .ok (iv a), .unk, .unk, .ok (.ptr 0 0), .ok (.ptr 1 0), .ok (iv i)] ++ List.replicate 28 .unk, [some (.cells [iv 0, iv 0]), some (.cells [iv l, iv c]), none], 3, .nil⟩
noncomputable def bodyLi : Code := loopN (bodyOf Tryd.prog 19) 0
noncomputable def BLi (s : List UInt8) (a l c : Int) (i : Nat) : Tree (Ex × AS) :=
  .ite (decide ((↑i : Int) < a)) (.need ((0 : Int) ≤ (↑i : Int) ∧ (↑i : Int) < (↑(ByteArray.size (strB s)) : Int)) (.ite ((↑(UInt8.toNat (Array.getD (ByteArray.data (strB s)) (Int.toNat (↑i : Int)) (0 : UInt8))) : Int) == (10 : Int)) (.ret (.normal, { tm := [.ok (SV.d (DV.x (.string (strB s)))), .ok (iv a), .unk, .unk, .ok (SV.ptr 0 0), .ok (SV.ptr 1 0), .ok (iv (w64 ((↑i : Int) + (1 : Int)))), .unk, .unk, .unk, .unk, .unk, .unk, .unk, .unk, .unk, .unk, .unk, .unk, .unk, .unk, .unk, .unk, .unk, .unk, .unk, .unk, .unk, .unk, .unk, .unk, .unk, .unk, .unk, .unk], hp := [some (.cells [iv (0 : Int), iv (0 : Int)]), some (.cells [iv (w64 (l + (1 : Int))), iv (1 : Int)]), none], next := 3, hint := .nil })) (.ret (.normal, { tm := [.ok (SV.d (DV.x (.string (strB s)))), .ok (iv a), .unk, .unk, .ok (SV.ptr 0 0), .ok (SV.ptr 1 0), .ok (iv (w64 ((↑i : Int) + (1 : Int)))), .unk, .unk, .unk, .unk, .unk, .unk, .unk, .unk, .unk, .unk, .unk, .unk, .unk, .unk, .unk, .unk, .unk, .unk, .unk, .unk, .unk, .unk, .unk, .unk, .unk, .unk, .unk, .unk], hp := [some (.cells [iv (0 : Int), iv (0 : Int)]), some (.cells [iv l, iv (w64 (c + (1 : Int)))]), none], next := 3, hint := .nil })))) (.ret (.exit 0, { tm := [.ok (SV.d (DV.x (.string (strB s)))), .ok (iv a), .unk, .unk, .ok (SV.ptr 0 0), .ok (SV.ptr 1 0), .ok (iv (↑i : Int)), .unk, .unk, .unk, .unk, .unk, .unk, .unk, .unk, .unk, .unk, .unk, .unk, .unk, .unk, .unk, .unk, .unk, .unk, .unk, .unk, .unk, .unk, .unk, .unk, .unk, .unk, .unk, .unk], hp := [some (.cells [iv (0 : Int), iv (0 : Int)]), some (.cells [iv l, iv c]), none], next := 3, hint := .nil }))

theorem BLi_eq (s : List UInt8) (a l c : Int) (i : Nat) : cutT 3 [] [0, 1, 4, 5, 6] [2] 3 .nil (exec Tryd.prog C2 D2 200 bodyLi (invLi s a l c i)) = BLi s a l c i := by kernel_rfl

noncomputable def KLi (s : List UInt8) (a l c : Int) (i : Nat) : Tree SV :=
  .ret (SV.agg [iv l, iv c])

theorem KLi_eq (s : List UInt8) (a l c : Int) (i : Nat) : codeK (sub [1] (tLi s a)) (.exit 0) (invLi s a l c i) = KLi s a l c i := by kernel_rfl

noncomputable def invJr (n : Nat) (L : List Tok) (o : List UInt8) (f : Bool) (i : Nat) : AS := ⟨[.ok (roT n L), .unk, .ok (strV []), .ok (strV o), .ok (bv f), .ok (iv i)] ++ List.replicate 24 .unk, [], 0, .nil⟩
noncomputable def bodyJr : Code := loopN (bodyOf Tryd.prog 21) 0
noncomputable def BJr (n : Nat) (L : List Tok) (o : List UInt8) (f : Bool) (i : Nat) : Tree (Ex × AS) :=
  .ite (decide ((↑i : Int) < (↑n : Int)))
  (.need ((0 : Int) ≤ (↑i : Int) ∧ (↑i : Int) < (↑n : Int))
   (.ite (tkK L (Int.toNat (↑i : Int)) == (4 : Int))
   (.ret
   (.normal,
   {
   tm :=
   [.ok
   (SV.d
   (DV.ro n 3 fun i j =>
   match j with
   | (0 : Nat) => DV.x (.int .i64 (tkK L i))
   | (1 : Nat) => DV.x (.string (tkT L i))
   | x => DV.x (.int .i64 (tkA L i)))),
   .unk, .ok (SV.d (DV.x (.string (strB [])))), .ok (SV.d (DV.x (.string (strB o)))), .ok (bv f), .ok (iv (w64 ((↑i : Int) + (1 : Int)))), .unk, .unk, .unk, .unk, .unk, .unk, .unk, .unk,
   .unk, .unk, .unk, .unk, .unk, .unk, .unk, .unk, .unk, .unk, .unk, .unk, .unk, .unk, .unk, .unk],
   hp := [], next := 0, hint := .nil }))
   (.ite (!f)
   (.need (ByteArray.size (strB o) + 1 ≤ 9223372036854775807)
   (.need ((0 : Int) ≤ (↑i : Int) ∧ (↑i : Int) < (↑n : Int))
   (.need (ByteArray.size (strB o ++ strB [(32 : UInt8)]) + ByteArray.size (tkT L (Int.toNat (↑i : Int))) ≤ 9223372036854775807)
   (.ret
   (.normal,
   {
   tm :=
   [.ok
   (SV.d
   (DV.ro n 3 fun i j =>
   match j with
   | (0 : Nat) => DV.x (.int .i64 (tkK L i))
   | (1 : Nat) => DV.x (.string (tkT L i))
   | x => DV.x (.int .i64 (tkA L i)))),
   .unk, .ok (SV.d (DV.x (.string (strB [])))), .ok (SV.d (DV.x (.string (strB o ++ strB [(32 : UInt8)] ++ tkT L (Int.toNat (↑i : Int)))))), .ok (bv false), .ok (iv (w64 ((↑i : Int) + (1 : Int)))),
   .unk, .unk, .unk, .unk, .unk, .unk, .unk, .unk, .unk, .unk, .unk, .unk, .unk, .unk, .unk, .unk, .unk, .unk, .unk, .unk, .unk, .unk, .unk, .unk],
   hp := [], next := 0, hint := .nil })))))
   (.need ((0 : Int) ≤ (↑i : Int) ∧ (↑i : Int) < (↑n : Int))
   (.need (ByteArray.size (strB o) + ByteArray.size (tkT L (Int.toNat (↑i : Int))) ≤ 9223372036854775807)
   (.ret
   (.normal,
   {
   tm :=
   [.ok
   (SV.d
   (DV.ro n 3 fun i j =>
   match j with
   | (0 : Nat) => DV.x (.int .i64 (tkK L i))
   | (1 : Nat) => DV.x (.string (tkT L i))
   | x => DV.x (.int .i64 (tkA L i)))),
   .unk, .ok (SV.d (DV.x (.string (strB [])))), .ok (SV.d (DV.x (.string (strB o ++ tkT L (Int.toNat (↑i : Int)))))), .ok (bv false), .ok (iv (w64 ((↑i : Int) + (1 : Int)))), .unk, .unk, .unk,
   .unk, .unk, .unk, .unk, .unk, .unk, .unk, .unk, .unk, .unk, .unk, .unk, .unk, .unk, .unk, .unk, .unk, .unk, .unk, .unk, .unk],
   hp := [], next := 0, hint := .nil })))))))
  (.ret
   (.exit 0,
   {
   tm :=
   [.ok
   (SV.d
   (DV.ro n 3 fun i j =>
   match j with
   | (0 : Nat) => DV.x (.int .i64 (tkK L i))
   | (1 : Nat) => DV.x (.string (tkT L i))
   | x => DV.x (.int .i64 (tkA L i)))),
   .unk, .ok (SV.d (DV.x (.string (strB [])))), .ok (SV.d (DV.x (.string (strB o)))), .ok (bv f), .ok (iv (↑i : Int)), .unk, .unk, .unk, .unk, .unk, .unk, .unk, .unk, .unk, .unk, .unk,
   .unk, .unk, .unk, .unk, .unk, .unk, .unk, .unk, .unk, .unk, .unk, .unk, .unk],
   hp := [], next := 0, hint := .nil }))

theorem BJr_eq (n : Nat) (L : List Tok) (o : List UInt8) (f : Bool) (i : Nat) : cutT 0 [] [0, 2, 3, 4, 5] [] 0 .nil (exec Tryd.prog C2 D2 200 bodyJr (invJr n L o f i)) = BJr n L o f i := by kernel_rfl

noncomputable def KJr (n : Nat) (L : List Tok) (o : List UInt8) (f : Bool) (i : Nat) : Tree SV :=
  .ret (SV.d (DV.x (.string (strB o))))

theorem KJr_eq (n : Nat) (L : List Tok) (o : List UInt8) (f : Bool) (i : Nat) : codeK (sub [] (tJr n L)) (.exit 0) (invJr n L o f i) = KJr n L o f i := by kernel_rfl

noncomputable def invJp (n : Nat) (L : List Tok) (k : Nat) (T : List (List UInt8)) (i : Nat) : AS := ⟨[.unk, .unk, .ok (strV []), .ok (.row 0 0 0 k 1), .unk, .unk, .ok (roT n L), .ok (iv n), .ok (iv i)] ++ List.replicate 14 .unk, [some (.row k 1 (txD T))], 1, .nil⟩
noncomputable def bodyJp : Code := loopN (bodyOf Tryd.prog 20) 0
noncomputable def BJp (n : Nat) (L : List Tok) (k : Nat) (T : List (List UInt8)) (i : Nat) : Tree (Ex × AS) :=
  .ite (decide ((↑i : Int) < (↑n : Int)))
  (.need ((0 : Int) ≤ (↑i : Int) ∧ (↑i : Int) < (↑n : Int))
   (.ite (tkK L (Int.toNat (↑i : Int)) != (4 : Int))
   (.need (0 + k ≤ k ∧ 1 ≤ List.length [SV.d (DV.x (.string (tkT L (Int.toNat (↑i : Int)))))] ∧ (k + 1) * 16 ≤ 140737488355328)
   (.ret
   (.normal,
   {
   tm :=
   [.unk, .unk, .ok (SV.d (DV.x (.string (strB [])))), .ok (SV.row 0 0 0 (k + 1) 1), .unk, .unk,
   .ok
   (SV.d
   (DV.ro n 3 fun i j =>
   match j with
   | (0 : Nat) => DV.x (.int .i64 (tkK L i))
   | (1 : Nat) => DV.x (.string (tkT L i))
   | x => DV.x (.int .i64 (tkA L i)))),
   .ok (iv (↑n : Int)), .ok (iv (w64 ((↑i : Int) + (1 : Int)))), .unk, .unk, .unk, .unk, .unk, .unk, .unk, .unk, .unk, .unk, .unk, .unk, .unk, .unk],
   hp :=
   [some
   (.row (k + 1) 1 fun a b =>
   selD (decide (a < k)) (DV.x (.string (txT T (0 + a)))) (dsAt [DV.x (.string (tkT L (Int.toNat (↑i : Int))))] (0 + (0 + (a - k)) * 1 + b)))],
   next := 1, hint := .nil })))
   (.ret
   (.normal,
   {
   tm :=
   [.unk, .unk, .ok (SV.d (DV.x (.string (strB [])))), .ok (SV.row 0 0 0 k 1), .unk, .unk,
   .ok
   (SV.d
   (DV.ro n 3 fun i j =>
   match j with
   | (0 : Nat) => DV.x (.int .i64 (tkK L i))
   | (1 : Nat) => DV.x (.string (tkT L i))
   | x => DV.x (.int .i64 (tkA L i)))),
   .ok (iv (↑n : Int)), .ok (iv (w64 ((↑i : Int) + (1 : Int)))), .unk, .unk, .unk, .unk, .unk, .unk, .unk, .unk, .unk, .unk, .unk, .unk, .unk, .unk],
   hp := [some (.row k 1 fun i j => DV.x (.string (txT T i)))], next := 1, hint := .nil }))))
  (.ret
   (.exit 0,
   {
   tm :=
   [.unk, .unk, .ok (SV.d (DV.x (.string (strB [])))), .ok (SV.row 0 0 0 k 1), .unk, .unk,
   .ok
   (SV.d
   (DV.ro n 3 fun i j =>
   match j with
   | (0 : Nat) => DV.x (.int .i64 (tkK L i))
   | (1 : Nat) => DV.x (.string (tkT L i))
   | x => DV.x (.int .i64 (tkA L i)))),
   .ok (iv (↑n : Int)), .ok (iv (↑i : Int)), .unk, .unk, .unk, .unk, .unk, .unk, .unk, .unk, .unk, .unk, .unk, .unk, .unk, .unk],
   hp := [some (.row k 1 fun i j => DV.x (.string (txT T i)))], next := 1, hint := .nil }))

theorem BJp_eq (n : Nat) (L : List Tok) (k : Nat) (T : List (List UInt8)) (i : Nat) : cutT 0 [(.slot 3, 0)] [2, 3, 6, 7, 8] [] 1 .nil (exec Tryd.prog C2 D2 200 bodyJp (invJp n L k T i)) = BJp n L k T i := by kernel_rfl

noncomputable def KJp_q1 (T : List (List UInt8)) (i : Nat) (j : Nat) : DV :=
  txD T ((0 : Nat) + i) j
noncomputable def KJp_q2 (T : List (List UInt8)) (i : Nat) (j : Nat) : DV :=
  DV.x (.string (txT T (0 + i)))
noncomputable def KJp (n : Nat) (L : List Tok) (k : Nat) (T : List (List UInt8)) (i : Nat) : Tree SV :=
  .need (0 + k ≤ k)
  (.need
   ({ data := #[(32 : UInt8)] } = strB [(32 : UInt8)] ∧
   k ≤ 100000 ∧ (∀ (i : Nat), i < k → KJp_q1 T i (0 : Nat) = DV.x (.string (strB (strAt (KJp_q1 T) i)))) ∧ List.length (joinL (cellsT k (KJp_q2 T))) ≤ 100000)
   (.ret (SV.d (DV.x (.string (strB (joinL (cellsT k (KJp_q2 T)))))))))

theorem KJp_eq (n : Nat) (L : List Tok) (k : Nat) (T : List (List UInt8)) (i : Nat) : codeK (sub [] (tJp n L)) (.exit 0) (invJp n L k T i) = KJp n L k T i := by kernel_rfl


end Go.Proofs.YtnoodoipghgkgaaDoor

