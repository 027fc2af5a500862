/- Part of a proof of the given statements of this seat (SxChQb, SxChQc, SxChRd, SxChRe, SxChRa, SxChRb, SxChRc, SxChQd, SxChQa, SxChQe, SxChQf, SxChQg, SxChRf, SxChRg, SxChRh, SxChRi, SxChRj, SxChRl, SxChRm, SxChRn, SxChRo, SxChRp, SxChRq, SxChRr, SxChQh, SxChQk, SxChQl, SxChQi, SxChLn, SxChQj, SxChQm, SxChRs, SxChRt, SxChRu, SxChRv): no conditions beyond those typed here. -/
import Derived.Test.YtgahnelicbddcaaGreatDoorSz15
import Derived.Test.YtgahnelicbddcaaGreatDoorSz14
set_option linter.unusedVariables false
set_option linter.unusedSimpArgs false
set_option linter.unusedSectionVars false

namespace Go.Proofs.YtgahnelicbddcaaGreatDoor
open Go.Sx
set_option maxRecDepth 100000
end Go.Proofs.YtgahnelicbddcaaGreatDoor

namespace Go.Sx
def _root_.Go.Proofs.RowOK (m : Nat) (f : Nat → Nat → DV) : Prop := m ≤ 9223372036854775807 ∧ Proofs.IntRow m f
end Go.Sx
namespace Go.Proofs.YtgahnelicbddcaaGreatDoor
open Go.Sx
set_option maxRecDepth 100000
theorem rg_snoc {α : Type} (j : Nat) (c : Nat → α) : (List.range (j + 1)).map c = (List.range j).map c ++ [c j] := by rw [List.range_succ, List.map_append]; rfl
theorem rowOK_cell {L : List Int} (h : L.length ≤ 9223372036854775807) : RowOK L.length (fun i _ => .x (.int .i64 (L.getD i 0))) := ⟨h, fun i hi => rfl⟩
end Go.Proofs.YtgahnelicbddcaaGreatDoor

namespace Go.Proofs.YtgahnelicbddcaaGreatDoor
open Go.Sx
set_option maxRecDepth 100000
noncomputable def manP : FuncId → Option Ctr := fun k => match k with
  | 90 => some cAtoi
  | 95 => some cTrim
  | 73 => some cSplit
  | 96 => some cIdx
  | _ => none
theorem manP_ok (k : Nat) (c : Ctr) (h : manP k = some c) : CtrOK Tryz.prog k c ∧ goodF Tryz.prog k = true := by
  unfold manP at h
  split at h
  · cases h; exact ⟨cAtoi_ok, by kernel_rfl⟩
  · cases h; exact ⟨cTrim_ok, by kernel_rfl⟩
  · cases h; exact ⟨cSplit_ok, by kernel_rfl⟩
  · cases h; exact ⟨cIdx_ok, by kernel_rfl⟩
  · cases h
noncomputable def CP : Ctx := ctxN Tryz.prog manP (fun _ => false) 200 .nil 8
theorem CP_ok : CtxOK Tryz.prog CP := ctxN_ok mixed manP_ok 8
noncomputable def DP : Dr := fun _ => drawn Tryz.prog CP
theorem DP_ok : DrOK Tryz.prog CP DP := drawn_ok CP_ok mixed
noncomputable def TP (h : Hint) (k : Nat) (args : List SV) : Tree SV := fnT Tryz.prog CP DP 200 (fnOf Tryz.prog k) (bodyOf Tryz.prog k) args h
noncomputable def strC (n : Nat) (c : Nat → List UInt8) : SV := .d (.ro n 1 fun i _ => .x (.string (strB (c i))))
noncomputable def tNb (n : Nat) (c : Nat → List UInt8) : Tree SV := TP .nil 74 [strC n c]
noncomputable def LNb (n : Nat) (c : Nat → List UInt8) : Tree SV :=
  .code (codeC (sub [] (tNb n c))) (codeS (sub [] (tNb n c))) (codeK (sub [] (tNb n c)))

theorem LNb_eq (n : Nat) (c : Nat → List UInt8) : tNb n c = LNb n c := by kernel_rfl

noncomputable def invNb (n : Nat) (c : Nat → List UInt8) (L : List Int) (z : Int) : AS := ⟨[.unk, .unk, .unk, .ok (.row 0 0 0 L.length 1), .unk, .unk, .unk, .unk, .ok (strC n c), .ok (iv n), .ok (iv z)] ++ List.replicate 16 .unk, [some (lB L)], 1, .nil⟩
noncomputable def bodyNb : Code := loopN (bodyOf Tryz.prog 74) 0
noncomputable def BNb_q1 (c : Nat → List UInt8) (i : Nat) (x : Nat) : DV :=
  DV.x (.string (strB (c i)))
noncomputable def BNb_q2 (L : List Int) (a : Nat) (b : Nat) : DV :=
  selD (decide (a < List.length L)) (DV.x (.int .i64 (List.getD L (0 + a) (0 : Int)))) (dsAt [DV.x (.int .i64 (-1 : Int))] (0 + (0 + (a - List.length L)) * 1 + b))
noncomputable def BNb_q3 (c : Nat → List UInt8) (L : List Int) (z : Int) (a : Nat) (b : Nat) : DV :=
  selD (decide (a < List.length L)) (DV.x (.int .i64 (List.getD L (0 + a) (0 : Int))))
  (dsAt [DV.x (.int .i64 (atoiV (Array.toList (ByteArray.data (strB (c (Int.toNat z)))))))] (0 + (0 + (a - List.length L)) * 1 + b))
noncomputable def BNb_q4 (L : List Int) (i : Nat) (x : Nat) : DV :=
  DV.x (.int .i64 (List.getD L i (0 : Int)))
noncomputable def BNb (n : Nat) (c : Nat → List UInt8) (L : List Int) (z : Int) : Tree (Ex × AS) :=
 .ite (decide (z < (↑n : Int)))
 (.need ((0 : Int) ≤ z ∧ z < (↑n : Int))
 (.need (ByteArray.size (strB (c (Int.toNat z))) ≤ 281474976710656)
 (.ite (atoiOK (Array.toList (ByteArray.data (strB (c (Int.toNat z))))))
 (.ite false
 (.need (0 + List.length L ≤ List.length L ∧ 1 ≤ 1 ∧ (List.length L + 1) * 8 ≤ 140737488355328)
 (.ret
 (.normal,
 {
 tm :=
 [.unk, .unk, .unk, .ok (SV.row 0 0 0 (List.length L + 1) 1), .unk, .unk, .unk, .unk, .ok (SV.d (DV.ro n 1 (BNb_q1 c))),
 .ok (iv (↑n : Int)), .ok (iv (w64 (z + (1 : Int)))), .unk, .unk, .unk, .unk, .unk, .unk, .unk, .unk, .unk, .unk, .unk, .unk, .unk, .unk, .unk, .unk],
 hp := [some (.row (List.length L + 1) 1 (BNb_q2 L))], next := 1, hint := .nil })))
 (.need (0 + List.length L ≤ List.length L ∧ 1 ≤ 1 ∧ (List.length L + 1) * 8 ≤ 140737488355328)
 (.ret
 (.normal,
 {
 tm :=
 [.unk, .unk, .unk, .ok (SV.row 0 0 0 (List.length L + 1) 1), .unk, .unk, .unk, .unk, .ok (SV.d (DV.ro n 1 (BNb_q1 c))),
 .ok (iv (↑n : Int)), .ok (iv (w64 (z + (1 : Int)))), .unk, .unk, .unk, .unk, .unk, .unk, .unk, .unk, .unk, .unk, .unk, .unk, .unk, .unk, .unk, .unk],
 hp := [some (.row (List.length L + 1) 1 (BNb_q3 c L z))], next := 1, hint := .nil }))))
 (.ite true
 (.need (0 + List.length L ≤ List.length L ∧ 1 ≤ 1 ∧ (List.length L + 1) * 8 ≤ 140737488355328)
 (.ret
 (.normal,
 {
 tm :=
 [.unk, .unk, .unk, .ok (SV.row 0 0 0 (List.length L + 1) 1), .unk, .unk, .unk, .unk, .ok (SV.d (DV.ro n 1 (BNb_q1 c))),
 .ok (iv (↑n : Int)), .ok (iv (w64 (z + (1 : Int)))), .unk, .unk, .unk, .unk, .unk, .unk, .unk, .unk, .unk, .unk, .unk, .unk, .unk, .unk, .unk, .unk],
 hp := [some (.row (List.length L + 1) 1 (BNb_q2 L))], next := 1, hint := .nil })))
 (.need (0 + List.length L ≤ List.length L ∧ 1 ≤ 1 ∧ (List.length L + 1) * 8 ≤ 140737488355328)
 (.ret
 (.normal,
 {
 tm :=
 [.unk, .unk, .unk, .ok (SV.row 0 0 0 (List.length L + 1) 1), .unk, .unk, .unk, .unk, .ok (SV.d (DV.ro n 1 (BNb_q1 c))),
 .ok (iv (↑n : Int)), .ok (iv (w64 (z + (1 : Int)))), .unk, .unk, .unk, .unk, .unk, .unk, .unk, .unk, .unk, .unk, .unk, .unk, .unk, .unk, .unk, .unk],
 hp := [some (.row (List.length L + 1) 1 (BNb_q3 c L z))], next := 1, hint := .nil })))))))
 (.ret
 (.exit 0,
 {
 tm :=
 [.unk, .unk, .unk, .ok (SV.row 0 0 0 (List.length L) 1), .unk, .unk, .unk, .unk, .ok (SV.d (DV.ro n 1 (BNb_q1 c))), .ok (iv (↑n : Int)),
 .ok (iv z), .unk, .unk, .unk, .unk, .unk, .unk, .unk, .unk, .unk, .unk, .unk, .unk, .unk, .unk, .unk, .unk],
 hp := [some (.row (List.length L) 1 (BNb_q4 L))], next := 1, hint := .nil }))

theorem BNb_eq (n : Nat) (c : Nat → List UInt8) (L : List Int) (z : Int) : cutT 0 [(.slot 3, 0)] [3, 8, 9, 10] [] 1 .nil (exec Tryz.prog CP DP 200 bodyNb (invNb n c L z)) = BNb n c L z := by kernel_rfl

noncomputable def KNb_q1 (L : List Int) (i : Nat) (j : Nat) : DV :=
  DV.x (.int .i64 (List.getD L (0 + i) (0 : Int)))
noncomputable def KNb (n : Nat) (c : Nat → List UInt8) (L : List Int) (z : Int) : Tree SV :=
  .need (0 + List.length L ≤ List.length L) (.ret (SV.d (DV.ro (List.length L) 1 (KNb_q1 L))))

theorem KNb_eq (n : Nat) (c : Nat → List UInt8) (L : List Int) (z : Int) : codeK (sub [] (tNb n c)) (.exit 0) (invNb n c L z) = KNb n c L z := by kernel_rfl


end Go.Proofs.YtgahnelicbddcaaGreatDoor

namespace Go.Sx
def numW (l : List UInt8) : Int := if atoiOK l = true then atoiV l else -1
def numsL (n : Nat) (c : Nat → Nat → DV) : List Int := (cellsT n c).map numW
def _root_.Go.Proofs.StrsOK (n : Nat) (c : Nat → Nat → DV) : Prop := n ≤ 1000000 ∧ Proofs.StrRow n c ∧ ∀ i, i < n → (strAt c i).length ≤ 1000000
def cutB (s p : List UInt8) : List (List UInt8) := cutL (p.headD 0) s
def trimB (s p : List UInt8) : List UInt8 := Lib.trimPrefix s p
def idxW (n : Nat) (c : Nat → Nat → DV) (p : List UInt8) : Int := Lib.idxOfS ((cellsT n c).map strB) (strB p)
end Go.Sx
namespace Go.Proofs.YtgahnelicbddcaaGreatDoor
open Go.Sx
set_option maxRecDepth 100000
theorem nb_sat {n : Nat} {c : Nat → List UInt8} (hn : n ≤ 1000000) (hc : ∀ i, i < n → (c i).length ≤ 1000000) : Sat Tryz.prog (tNb n c) (· = ivL ((List.range n).map fun i => numW (c i))) := by
  constructor
  rw [LNb_eq]; unfold LNb
  refine code_satS CP_ok DP_ok (n := 200) (n0 := 0) (nx := 1) (roots := [(.slot 3, 0)]) (keep := [3, 8, 9, 10]) (drop := []) (h := .nil) (c := codeC (sub [] (tNb n c))) (st := codeS (sub [] (tNb n c))) (k := codeK (sub [] (tNb n c))) (body := bodyNb) (by kernel_rfl) (by kernel_rfl)
    (fun q t => ∃ i : Nat, q = n - i ∧ i ≤ n ∧ t = invNb n c ((List.range i).map fun i => numW (c i)) i)
    (fun e t => e = .exit 0 ∧ t = invNb n c ((List.range n).map fun i => numW (c i)) n)
    ⟨_, _, ⟨0, rfl, by omega, rfl⟩, ?_⟩ ?_ ?_
  · refine (entA_sound (s' := ⟨[.unk, .unk, .unk, .ok (.d (.x (.slice none 0 0))), .unk, .unk, .unk, .unk, .ok (strC n c), .ok (iv n), .ok (iv 0)] ++ List.replicate 16 .unk, [], 0, .nil⟩) (roots := []) (keep := [3, 8, 9, 10]) (drop := []) (nx := 0) (h := .nil) (by kernel_rfl)).trans ?_
    refine gc_sound [] [0] rfl ?_ ?_
    · simp [invNb, leTm, leTV, leSV, leSVs, rn, iv, leD, List.replicate, strC]
    · simp [invNb, leHp, leBlk, leSVs, leSV, rn, iv, leD, srcOf, hget, lB]
  · rintro q t ⟨i, rfl, hi, rfl⟩
    refine Sat.of_eq (BNb_eq n c _ i) ?_
    constructor
    unfold BNb
    refine ⟨fun h2 => ?_, fun h2 => ?_⟩
    · simp only [decide_eq_true_eq] at h2
      have wi : w64 ((i : Int) + 1) = ((i + 1 : Nat) : Int) := by rw [w64_of (by omega) (by omega)]; omega
      have hl : ((List.range i).map fun i => numW (c i)).length = i := by simp
      have hci := hc i (by omega)
      simp only [Int.toNat_natCast, strB_list, strB_size, wi]
      refine ⟨by omega, by omega, fun h3 => ⟨(fun h => by cases h), fun _ => ⟨⟨by omega, by omega, by omega⟩, n - (i + 1), _, by omega, ⟨i + 1, rfl, by omega, rfl⟩, ?_⟩⟩, fun h3 => ⟨fun _ => ⟨⟨by omega, by omega, by omega⟩, n - (i + 1), _, by omega, ⟨i + 1, rfl, by omega, rfl⟩, ?_⟩, (fun h => by cases h)⟩⟩
      · rw [rg_snoc]
        have e : numW (c i) = atoiV (c i) := by unfold numW; rw [if_pos h3]
        generalize (List.range i).map (fun i => numW (c i)) = L at hl
        refine gc_hp (by rw [List.length_append]; rfl) rfl ⟨.inr ⟨_, _, rfl, rfl, lB_app fun a ha => ?_⟩, trivial⟩
        unfold BNb_q3
        rw [Int.toNat_natCast, strB_list, e]
        exact app_sel L _ a ha
      · rw [rg_snoc]
        have e : numW (c i) = -1 := by unfold numW; rw [if_neg (by rw [h3]; simp)]
        generalize (List.range i).map (fun i => numW (c i)) = L at hl
        refine gc_hp (by rw [List.length_append]; rfl) rfl ⟨.inr ⟨_, _, rfl, rfl, lB_app fun a ha => ?_⟩, trivial⟩
        rw [e]
        exact app_sel L _ a ha
    · simp only [decide_eq_false_iff_not] at h2
      obtain rfl : i = n := by omega
      exact ⟨_, ⟨rfl, rfl⟩, Gc.refl _ _⟩
  · rintro e t ⟨rfl, rfl⟩
    refine Sat.of_eq (KNb_eq n c _ n) ⟨?_⟩
    unfold KNb
    refine ⟨by omega, ?_⟩
    show SV.d _ = ivL _
    have : ∀ L, KNb_q1 L = fun i _ => .x (.int .i64 (L.getD i 0)) := fun L => by
      funext i j; unfold KNb_q1; rw [Nat.zero_add]
    rw [this]; rfl
noncomputable def cNb : Ctr := fun ss => match ss with
  | [.d (.ro n 1 c)] => .need (StrsOK n c) (.ret (ivL (numsL n c)))
  | _ => .fail
theorem cNb_ok : CtrOK Tryz.prog 74 cNb := by
  refine ctrOK_leS CP_ok DP_ok (by kernel_rfl) (by kernel_rfl) fun ss r hr => ?_
  unfold cNb at hr
  split at hr
  · rename_i n c
    obtain ⟨⟨h1, h2, h3⟩, rfl⟩ := hr
    have k0 := nb_sat (c := strAt c) h1 h3
    have e : (List.range n).map (fun i => numW (strAt c i)) = numsL n c := by unfold numsL cellsT; rw [List.map_map]; rfl
    rw [e] at k0
    refine ⟨_, 200, .nil, ?_, k0⟩
    refine ⟨⟨rfl, rfl, fun i j hi hj => ?_⟩, by simp only [leSVs]⟩
    obtain rfl : j = 0 := by omega
    exact h2 i hi
  · exact hr.elim
noncomputable def cSp : Ctr := fun ss => match ss with
  | [.d (.x (.string s)), .d (.x (.string p))] => .need (OneB p ∧ s.size ≤ 1000000) (.ret (strsV (cutB s.data.toList p.data.toList)))
  | _ => .fail
theorem cSp_ok : CtrOK Tryz.prog 73 cSp := cSplit_ok.mono fun ss r h => by
  unfold cSp at h
  split at h
  · exact h
  · exact h.elim
noncomputable def cTm : Ctr := fun ss => match ss with
  | [.d (.x (.string s)), .d (.x (.string p))] => .ret (strV (trimB s.data.toList p.data.toList))
  | _ => .fail
theorem cTm_ok : CtrOK Tryz.prog 95 cTm := cTrim_ok.mono fun ss r h => by
  unfold cTm at h
  split at h
  · exact h
  · exact h.elim
noncomputable def cIw : Ctr := fun ss => match ss with
  | [.d (.ro n 1 c), .d (.x (.string p))] => .need (n ≤ 1000000 ∧ StrRow n c) (.ret (iv (idxW n c p.data.toList)))
  | _ => .fail
theorem cIw_ok : CtrOK Tryz.prog 96 cIw := cIdx_ok.mono fun ss r h => by
  unfold cIw at h
  split at h
  · exact h
  · exact h.elim
end Go.Proofs.YtgahnelicbddcaaGreatDoor

namespace Go.Proofs.YtgahnelicbddcaaGreatDoor
open Go.Sx Go.RowKit Go.Sort
set_option maxRecDepth 100000
noncomputable def cIB : Ctr := fun ss => match ss with
  | [.d (.x (.string s)), .d (.x (.int .u8 c))] => .ret (iv (Lib.indexByte s.data.toList c.toNat.toUInt8))
  | _ => .fail
theorem cIB_ok : CtrOK Tryz.prog 91 cIB := by
  refine ctrOK_calls fun ss vs w F r hF hgl hr h => ?_
  unfold cIB at h
  split at h
  · rename_i s c
    cases h
    rw [repsX [.string s, .int .u8 c] hr]
    refine (Any.strings_IndexByte (ρ := Tryz.lays152_ren) { Tryz.lays152 with } s c w).mono ?_
    rintro e w' ⟨rfl, rfl⟩
    exact ⟨_, rfl, Below.refl _ _, .d (.x _)⟩
  · exact h.elim
noncomputable def manR : FuncId → Option Ctr := fun k => match k with
  | 91 => some cIB
  | _ => none
theorem manR_ok (k : Nat) (c : Ctr) (h : manR k = some c) : CtrOK Tryz.prog k c ∧ goodF Tryz.prog k = true := by
  unfold manR at h
  split at h
  · cases h; exact ⟨cIB_ok, by kernel_rfl⟩
  · cases h
noncomputable def CR : Ctx := ctxN Tryz.prog manR (fun k => k == 92) 200 .nil 6
theorem CR_ok : CtxOK Tryz.prog CR := ctxN_ok mixed manR_ok 6
noncomputable def DR : Dr := fun _ => drawn Tryz.prog CR
theorem DR_ok : DrOK Tryz.prog CR DR := drawn_ok CR_ok mixed
noncomputable def tRu (r : Int) : Tree SV := fnT Tryz.prog CR DR 200 (fnOf Tryz.prog 75) (bodyOf Tryz.prog 75) [strV [46, 76, 77], .d (.x (.int .i32 r))] (.br .nil (.br .run .nil))
noncomputable def LRu_q1 (r : Int) : Bool :=
  decide ((0 : Int) ≤ r)
noncomputable def LRu (r : Int) : Tree SV :=
  .ite (LRu_q1 r && decide (r < (128 : Int))) (.ret (iv (Lib.indexByte [(46 : UInt8), (76 : UInt8), (77 : UInt8)] (Nat.toUInt8 (Int.toNat (IntKind.wrap .u8 r))))))
  (.ite (r == (65533 : Int)) (.ret (iv (-1 : Int)))
   (.ite (LRu_q1 r && decide (r < (55296 : Int)))
   (.ite false (.ret (iv (-1 : Int)))
   (.code (codeC (sub [(1 : Nat), (1 : Nat), (0 : Nat), (1 : Nat)] (tRu r))) (codeS (sub [(1 : Nat), (1 : Nat), (0 : Nat), (1 : Nat)] (tRu r))) (codeK (sub [(1 : Nat), (1 : Nat), (0 : Nat), (1 : Nat)] (tRu r)))))
   (.ite (decide ((57343 : Int) < r) && decide (r ≤ (1114111 : Int)))
   (.ite false (.ret (iv (-1 : Int)))
   (.code (codeC (sub [(1 : Nat), (1 : Nat), (1 : Nat), (0 : Nat), (1 : Nat)] (tRu r))) (codeS (sub [(1 : Nat), (1 : Nat), (1 : Nat), (0 : Nat), (1 : Nat)] (tRu r)))
   (codeK (sub [(1 : Nat), (1 : Nat), (1 : Nat), (0 : Nat), (1 : Nat)] (tRu r)))))
   (.ite true (.ret (iv (-1 : Int)))
   (.code (codeC (sub [(1 : Nat), (1 : Nat), (1 : Nat), (1 : Nat), (1 : Nat)] (tRu r))) (codeS (sub [(1 : Nat), (1 : Nat), (1 : Nat), (1 : Nat), (1 : Nat)] (tRu r)))
   (codeK (sub [(1 : Nat), (1 : Nat), (1 : Nat), (1 : Nat), (1 : Nat)] (tRu r))))))))

theorem LRu_eq (r : Int) : tRu r = LRu r := by kernel_rfl

noncomputable def invRu (s : ByteArray) (r z : Int) : AS := ⟨[.ok (strV [46, 76, 77]), .ok (.d (.x (.int .i32 r))), .unk, .unk, .ok (iv z), .unk, .unk, .ok (.d (.x (.string s))), .ok (iv (w64 ((s.size : Int) - 1))), .ok (iv (w64 ((s.size : Int) - 1))), .ok (iv 0)] ++ List.replicate 176 .unk, [], 0, .nil⟩
noncomputable def bodyRu : Code := loopN (bodyOf Tryz.prog 75) 1
noncomputable def BRu (s : ByteArray) (r z : Int) : Tree (Ex × AS) :=
 .ite (decide (w64 ((↑(ByteArray.size s) : Int) - (1 : Int)) < (3 : Int))) (.need ((0 : Int) ≤ w64 ((↑(ByteArray.size s) : Int) - (1 : Int)) ∧ w64 ((↑(ByteArray.size s) : Int) - (1 : Int)) < (3 : Int)) (.need ((0 : Int) ≤ w64 ((↑(ByteArray.size s) : Int) - (1 : Int)) ∧ w64 ((↑(ByteArray.size s) : Int) - (1 : Int)) < (↑(ByteArray.size s) : Int)) (.ite ((↑(UInt8.toNat (Array.getD #[(46 : UInt8), (76 : UInt8), (77 : UInt8)] (Int.toNat (w64 ((↑(ByteArray.size s) : Int) - (1 : Int)))) (0 : UInt8))) : Int) != (↑(UInt8.toNat (Array.getD (ByteArray.data s) (Int.toNat (w64 ((↑(ByteArray.size s) : Int) - (1 : Int)))) (0 : UInt8))) : Int)) (.need (True ∧ (0 : Int) ≤ w64 (w64 ((↑(ByteArray.size s) : Int) - (1 : Int)) + (1 : Int)) ∧ Int.toNat (w64 (w64 ((↑(ByteArray.size s) : Int) - (1 : Int)) + (1 : Int))) ≤ 3) (.need ((0 : Int) ≤ w64 ((↑(ByteArray.size s) : Int) - (1 : Int)) ∧ w64 ((↑(ByteArray.size s) : Int) - (1 : Int)) < (↑(ByteArray.size s) : Int)) (.ite (decide (Lib.indexByte (Array.toList (ByteArray.data (ByteArray.extract (strB [(46 : UInt8), (76 : UInt8), (77 : UInt8)]) (Int.toNat (w64 (w64 ((↑(ByteArray.size s) : Int) - (1 : Int)) + (1 : Int)))) 3))) (Nat.toUInt8 (Int.toNat (↑(UInt8.toNat (Array.getD (ByteArray.data s) (Int.toNat (w64 ((↑(ByteArray.size s) : Int) - (1 : Int)))) (0 : UInt8))) : Int))) < (0 : Int))) (.ret (.ret, { tm := [.ok (SV.d (DV.x (.string (strB [(46 : UInt8), (76 : UInt8), (77 : UInt8)])))), .ok (SV.d (DV.x (.int .i32 r))), .unk, .unk, .ok (iv (-1 : Int)), .unk, .unk, .ok (SV.d (DV.x (.string s))), .ok (iv (w64 ((↑(ByteArray.size s) : Int) - (1 : Int)))), .ok (iv (w64 ((↑(ByteArray.size s) : Int) - (1 : Int)))), .ok (iv (0 : Int)), .unk, .unk, .unk, .unk, .unk, .unk, .unk, .unk, .unk, .unk, .unk, .unk, .unk, .unk, .unk, .unk, .unk, .unk, .unk, .unk, .unk, .unk, .unk, .unk, .unk, .unk, .unk, .unk, .unk, .unk, .unk, .unk, .unk, .unk, .unk, .unk, .unk, .unk, .unk, .unk, .unk, .unk, .unk, .unk, .unk, .unk, .unk, .unk, .unk, .unk, .unk, .unk, .unk, .unk, .unk, .unk, .unk, .unk, .unk, .unk, .unk, .unk, .unk, .unk, .unk, .unk, .unk, .unk, .unk, .unk, .unk, .unk, .unk, .unk, .unk, .unk, .unk, .unk, .unk, .unk, .unk, .unk, .unk, .unk, .unk, .unk, .unk, .unk, .unk, .unk, .unk, .unk, .unk, .unk, .unk, .unk, .unk, .unk, .unk, .unk, .unk, .unk, .unk, .unk, .unk, .unk, .unk, .unk, .unk, .unk, .unk, .unk, .unk, .unk, .unk, .unk, .unk, .unk, .unk, .unk, .unk, .unk, .unk, .unk, .unk, .unk, .unk, .unk, .unk, .unk, .unk, .unk, .unk, .unk, .unk, .unk, .unk, .unk, .unk, .unk, .unk, .unk, .unk, .unk, .unk, .unk, .unk, .unk, .unk, .unk, .unk, .unk, .unk, .unk, .unk, .unk, .unk, .unk, .unk, .unk, .unk, .unk, .unk, .unk, .unk, .unk, .unk, .unk, .unk, .unk, .unk, .unk, .unk, .unk, .unk, .unk], hp := [], next := 0, hint := .nil })) (.code (codeC (sub [(0 : Nat), (0 : Nat), (0 : Nat), (0 : Nat), (0 : Nat), (0 : Nat), (1 : Nat)] (cutT (0 : Nat) [] [(0 : Nat), (1 : Nat), (4 : Nat), (7 : Nat), (8 : Nat), (9 : Nat), (10 : Nat)] [] (0 : Nat) .nil (exec Tryz.prog CR DR (200 : Nat) bodyRu (invRu s r z))))) (codeS (sub [(0 : Nat), (0 : Nat), (0 : Nat), (0 : Nat), (0 : Nat), (0 : Nat), (1 : Nat)] (cutT (0 : Nat) [] [(0 : Nat), (1 : Nat), (4 : Nat), (7 : Nat), (8 : Nat), (9 : Nat), (10 : Nat)] [] (0 : Nat) .nil (exec Tryz.prog CR DR (200 : Nat) bodyRu (invRu s r z))))) (codeK (sub [(0 : Nat), (0 : Nat), (0 : Nat), (0 : Nat), (0 : Nat), (0 : Nat), (1 : Nat)] (cutT (0 : Nat) [] [(0 : Nat), (1 : Nat), (4 : Nat), (7 : Nat), (8 : Nat), (9 : Nat), (10 : Nat)] [] (0 : Nat) .nil (exec Tryz.prog CR DR (200 : Nat) bodyRu (invRu s r z))))))))) (.code (codeC (sub [(0 : Nat), (0 : Nat), (0 : Nat), (1 : Nat)] (cutT (0 : Nat) [] [(0 : Nat), (1 : Nat), (4 : Nat), (7 : Nat), (8 : Nat), (9 : Nat), (10 : Nat)] [] (0 : Nat) .nil (exec Tryz.prog CR DR (200 : Nat) bodyRu (invRu s r z))))) (codeS (sub [(0 : Nat), (0 : Nat), (0 : Nat), (1 : Nat)] (cutT (0 : Nat) [] [(0 : Nat), (1 : Nat), (4 : Nat), (7 : Nat), (8 : Nat), (9 : Nat), (10 : Nat)] [] (0 : Nat) .nil (exec Tryz.prog CR DR (200 : Nat) bodyRu (invRu s r z))))) (codeK (sub [(0 : Nat), (0 : Nat), (0 : Nat), (1 : Nat)] (cutT (0 : Nat) [] [(0 : Nat), (1 : Nat), (4 : Nat), (7 : Nat), (8 : Nat), (9 : Nat), (10 : Nat)] [] (0 : Nat) .nil (exec Tryz.prog CR DR (200 : Nat) bodyRu (invRu s r z))))))))) (.ret (.exit 1, { tm := [.ok (SV.d (DV.x (.string (strB [(46 : UInt8), (76 : UInt8), (77 : UInt8)])))), .ok (SV.d (DV.x (.int .i32 r))), .unk, .unk, .ok (iv z), .unk, .unk, .ok (SV.d (DV.x (.string s))), .ok (iv (w64 ((↑(ByteArray.size s) : Int) - (1 : Int)))), .ok (iv (w64 ((↑(ByteArray.size s) : Int) - (1 : Int)))), .ok (iv (0 : Int)), .unk, .unk, .unk, .unk, .unk, .unk, .unk, .unk, .unk, .unk, .unk, .unk, .unk, .unk, .unk, .unk, .unk, .unk, .unk, .unk, .unk, .unk, .unk, .unk, .unk, .unk, .unk, .unk, .unk, .unk, .unk, .unk, .unk, .unk, .unk, .unk, .unk, .unk, .unk, .unk, .unk, .unk, .unk, .unk, .unk, .unk, .unk, .unk, .unk, .unk, .unk, .unk, .unk, .unk, .unk, .unk, .unk, .unk, .unk, .unk, .unk, .unk, .unk, .unk, .unk, .unk, .unk, .unk, .unk, .unk, .unk, .unk, .unk, .unk, .unk, .unk, .unk, .unk, .unk, .unk, .unk, .unk, .unk, .unk, .unk, .unk, .unk, .unk, .unk, .unk, .unk, .unk, .unk, .unk, .unk, .unk, .unk, .unk, .unk, .unk, .unk, .unk, .unk, .unk, .unk, .unk, .unk, .unk, .unk, .unk, .unk, .unk, .unk, .unk, .unk, .unk, .unk, .unk, .unk, .unk, .unk, .unk, .unk, .unk, .unk, .unk, .unk, .unk, .unk, .unk, .unk, .unk, .unk, .unk, .unk, .unk, .unk, .unk, .unk, .unk, .unk, .unk, .unk, .unk, .unk, .unk, .unk, .unk, .unk, .unk, .unk, .unk, .unk, .unk, .unk, .unk, .unk, .unk, .unk, .unk, .unk, .unk, .unk, .unk, .unk, .unk, .unk, .unk, .unk, .unk, .unk, .unk, .unk, .unk, .unk, .unk], hp := [], next := 0, hint := .nil }))

theorem BRu_eq (s : ByteArray) (r z : Int) : cutT 0 [] [0, 1, 4, 7, 8, 9, 10] [] 0 .nil (exec Tryz.prog CR DR 200 bodyRu (invRu s r z)) = BRu s r z := by kernel_rfl

noncomputable def KRu (r : Int) (s : ByteArray) (z : Int) : Tree SV :=
  .ret (iv (-1 : Int))

theorem KRu_eq (r : Int) (s : ByteArray) (z : Int) : codeK (sub [1, 1, 0, 1] (tRu r)) (.exit 1) (invRu s r z) = KRu r s z := by kernel_rfl

noncomputable def QRu (r : Int) (s : ByteArray) (z : Int) : Tree SV :=
  .ret (iv z)

theorem QRu_eq (r : Int) (s : ByteArray) (z : Int) : codeK (sub [1, 1, 0, 1] (tRu r)) .ret (invRu s r z) = QRu r s z := by kernel_rfl

noncomputable def K2Ru (r : Int) (s : ByteArray) (z : Int) : Tree SV :=
  .ret (iv (-1 : Int))

theorem K2Ru_eq (r : Int) (s : ByteArray) (z : Int) : codeK (sub [1, 1, 1, 0, 1] (tRu r)) (.exit 1) (invRu s r z) = K2Ru r s z := by kernel_rfl

noncomputable def Q2Ru (r : Int) (s : ByteArray) (z : Int) : Tree SV :=
  .ret (iv z)

theorem Q2Ru_eq (r : Int) (s : ByteArray) (z : Int) : codeK (sub [1, 1, 1, 0, 1] (tRu r)) .ret (invRu s r z) = Q2Ru r s z := by kernel_rfl


end Go.Proofs.YtgahnelicbddcaaGreatDoor

namespace Go.Sx
theorem enc_last {r : Int} (h : 128 ≤ r) : 2 ≤ (Utf8.encode r).size ∧ (Utf8.encode r).size ≤ 4 ∧ 128 ≤ ((Utf8.encode r).data.getD ((Utf8.encode r).size - 1) 0).toNat := by
  unfold Utf8.encode
  have hc : 128 ≤ (if Utf8.valid r = true then r.toNat else Utf8.runeError) := by
    split
    · omega
    · decide
  generalize (if Utf8.valid r = true then r.toNat else Utf8.runeError) = c at hc
  have hl : ∀ n : Nat, 128 ≤ (UInt8.ofNat (128 + n % 64)).toNat := fun n => by
    rw [UInt8.toNat_ofNat']; omega
  simp only
  rw [if_neg (by omega)]
  split
  · exact ⟨Nat.le_refl _, Nat.le_of_ble_eq_true rfl, hl _⟩
  split
  · exact ⟨Nat.le_of_ble_eq_true rfl, Nat.le_of_ble_eq_true rfl, hl _⟩
  · exact ⟨Nat.le_of_ble_eq_true rfl, Nat.le_of_ble_eq_true rfl, hl _⟩
def kindR (r : Int) : Int := if r = 46 then 0 else if r = 76 then 1 else if r = 77 then 2 else -1
end Go.Sx
namespace Go.Proofs.YtgahnelicbddcaaGreatDoor
open Go.Sx
set_option maxRecDepth 100000
theorem lett_at (k : Nat) : (#[(46 : UInt8), 76, 77].getD k 0).toNat < 128 := by
  match k with
  | 0 => decide
  | 1 => decide
  | 2 => decide
  | k + 3 => unfold Array.getD; rw [dif_neg (by simp)]; decide
theorem ib_none : ∀ (l : List UInt8) {c : UInt8}, (∀ x ∈ l, x ≠ c) → Lib.indexByte l c = -1 := by
  intro l
  induction l with
  | nil => intro c _; rfl
  | cons a l ih =>
    intro c h
    have h1 := ih (c := c) fun x hx => h x (by simp [hx])
    have h2 := h a (by simp)
    unfold Lib.indexByte at h1 ⊢
    simp_all
theorem ru_body {s : ByteArray} {r z : Int} (h1 : 2 ≤ s.size) (h2 : s.size ≤ 4) (h3 : 128 ≤ (s.data.getD (s.size - 1) 0).toNat) :
    Tree.sat Tryz.prog (BRu s r z) fun x => (x.1 = .ret ∧ Gc 0 x.2 (invRu s r (-1))) ∨ (x.1 = .exit 1 ∧ Gc 0 x.2 (invRu s r z)) := by
  unfold BRu
  have e1 : w64 ((s.size : Int) - 1) = ((s.size - 1 : Nat) : Int) := by rw [w64_of (by omega) (by omega)]; omega
  have e2 : w64 (((s.size - 1 : Nat) : Int) + 1) = (s.size : Int) := by rw [w64_of (by omega) (by omega)]; omega
  simp only [e1, e2, Int.toNat_natCast]
  have h4 := lett_at (s.size - 1)
  refine ⟨fun h5 => ?_, fun h5 => .inr ⟨rfl, ?_⟩⟩
  · simp only [decide_eq_true_eq] at h5
    refine ⟨by omega, by omega, fun h6 => ⟨⟨trivial, by omega, by omega⟩, by omega, fun h7 => .inl ⟨rfl, ?_⟩, fun h7 => ?_⟩, fun h6 => ?_⟩
    · show Gc 0 ⟨_, _, _, _⟩ (invRu s r (-1))
      unfold invRu
      rw [e1]
      exact Gc.refl _ _
    · exfalso
      rw [decide_eq_false_iff_not] at h7
      apply h7
      rw [ib_none]
      · decide
      · intro x hx he
        have hx2 : x ∈ [(46 : UInt8), 76, 77] := by
          have : x ∈ (strB [(46 : UInt8), 76, 77]).data.toList := by
            rw [ByteArray.data_extract, Array.toList_extract, List.extract_eq_take_drop] at hx
            exact List.mem_of_mem_drop (List.mem_of_mem_take hx)
          exact this
        have hx3 : x.toNat < 128 := by
          simp only [List.mem_cons, List.not_mem_nil, or_false] at hx2
          rcases hx2 with rfl | rfl | rfl <;> decide
        rw [he, Nat.toUInt8, UInt8.toNat_ofNat'] at hx3
        have := (s.data.getD (s.size - 1) 0).toNat_lt
        omega
    · exfalso
      rw [bne_eq_false_iff_eq] at h6
      omega
  · show Gc 0 ⟨_, _, _, _⟩ (invRu s r z)
    unfold invRu
    rw [e1]
    exact Gc.refl _ _
theorem ru_loop {α : Type} {t : Tree α} {Q : α → Prop} {s : ByteArray} {r : Int} (hC : codeC t = .loop bodyRu) (hn : (codeS t).next.ble 0 = true) (h1 : 2 ≤ s.size) (h2 : s.size ≤ 4) (h3 : 128 ≤ (s.data.getD (s.size - 1) 0).toNat)
    (ent : Gc 0 (ups (codeS t) 0) (invRu s r 0)) (hK : Sat Tryz.prog (codeK t (.exit 1) (invRu s r 0)) Q) (hR : Sat Tryz.prog (codeK t .ret (invRu s r (-1))) Q) : Tree.sat Tryz.prog (.code (codeC t) (codeS t) (codeK t)) Q := by
  refine code_satS CR_ok DR_ok (n := 200) (n0 := 0) (nx := 0) (roots := []) (keep := [0, 1, 4, 7, 8, 9, 10]) (drop := []) (h := .nil) (c := codeC t) (st := codeS t) (k := codeK t) (body := bodyRu) hC hn
    (fun q st => st = invRu s r 0) (fun e st => (e = .exit 1 ∧ st = invRu s r 0) ∨ (e = .ret ∧ st = invRu s r (-1))) ⟨0, _, rfl, ent⟩ ?_ ?_
  · rintro q st rfl
    refine Sat.of_eq (BRu_eq s r 0) ⟨?_⟩
    refine Tree.sat_mono (fun x hx => ?_) (ru_body (r := r) (z := 0) h1 h2 h3)
    obtain ⟨ex, st⟩ := x
    rcases hx with ⟨e, hg⟩ | ⟨e, hg⟩
    · simp only at e; subst e; exact ⟨_, .inr ⟨rfl, rfl⟩, hg⟩
    · simp only at e; subst e; exact ⟨_, .inl ⟨rfl, rfl⟩, hg⟩
  · rintro e st (⟨rfl, rfl⟩ | ⟨rfl, rfl⟩)
    · exact hK
    · exact hR
theorem ru_sat {r : Int} (hr : 128 ≤ r) (hv : r < 55296 ∨ (57343 < r ∧ r ≤ 1114111)) : Sat Tryz.prog (tRu r) (· = iv (-1)) := by
  refine Sat.of_eq (LRu_eq r) ⟨?_⟩
  unfold LRu
  obtain ⟨h1, h2, h3⟩ := enc_last hr
  have q1 : LRu_q1 r = true := by unfold LRu_q1; rw [decide_eq_true_eq]; omega
  rw [q1]
  refine ⟨fun h => ?_, fun _ => ⟨fun _ => rfl, fun _ => ⟨fun h => ⟨fun h => (by cases h), fun _ => ?_⟩, fun h => ⟨fun h => ⟨fun h => (by cases h), fun _ => ?_⟩, fun h => ?_⟩⟩⟩⟩
  · simp at h; omega
  · exact ru_loop (t := sub [1, 1, 0, 1] (tRu r)) (s := Utf8.encode r) (r := r) (by kernel_rfl) (by kernel_rfl) h1 h2 h3 (entA_sound (roots := []) (keep := [0, 1, 4, 7, 8, 9, 10]) (drop := []) (nx := 0) (h := .nil) (by kernel_rfl))
      (Sat.of_eq (KRu_eq r _ 0) ⟨rfl⟩) (Sat.of_eq (QRu_eq r _ (-1)) ⟨rfl⟩)
  · exact ru_loop (t := sub [1, 1, 1, 0, 1] (tRu r)) (s := Utf8.encode r) (r := r) (by kernel_rfl) (by kernel_rfl) h1 h2 h3 (entA_sound (roots := []) (keep := [0, 1, 4, 7, 8, 9, 10]) (drop := []) (nx := 0) (h := .nil) (by kernel_rfl))
      (Sat.of_eq (K2Ru_eq r _ 0) ⟨rfl⟩) (Sat.of_eq (Q2Ru_eq r _ (-1)) ⟨rfl⟩)
  · exfalso
    simp only [Bool.true_and, decide_eq_false_iff_not, Bool.and_eq_false_iff] at *
    omega
end Go.Proofs.YtgahnelicbddcaaGreatDoor

namespace Go.Sx
def _root_.Go.Proofs.RuneOK (r : Int) : Prop := 0 ≤ r ∧ (r < 55296 ∨ (57343 < r ∧ r ≤ 1114111))
def _root_.Go.Proofs.LetS (s : ByteArray) : Prop := s = strB [46, 76, 77]
end Go.Sx
namespace Go.Proofs.YtgahnelicbddcaaGreatDoor
open Go.Sx
set_option maxRecDepth 100000
noncomputable def cRu2 : Ctr := fun ss => match ss with
  | [.d (.x (.string s)), .d (.x (.int .i32 r))] => .need (LetS s ∧ 128 ≤ r ∧ RuneOK r) (.ret (iv (-1)))
  | _ => .fail
theorem cRu2_ok : CtrOK Tryz.prog 75 cRu2 := by
  refine ctrOK_leS CR_ok DR_ok (by kernel_rfl) (by kernel_rfl) fun ss r hr => ?_
  unfold cRu2 at hr
  split at hr
  · rename_i s r
    obtain ⟨⟨rfl, h1, h2⟩, rfl⟩ := hr
    have k0 := ru_sat h1 h2.2
    refine ⟨_, 200, _, ?_, k0⟩
    exact ⟨rfl, rfl, by simp only [leSVs]⟩
  · exact hr.elim
noncomputable def cRu : Ctr := fun ss => match ss with
  | [.d (.x (.string s)), .d (.x (.int .i32 r))] => .need (LetS s ∧ RuneOK r) (.ret (iv (kindR r)))
  | _ => .fail
theorem kind_low : ∀ n : Nat, n < 128 → Lib.indexByte [46, 76, 77] n.toUInt8 = kindR n := by
  intro n hn
  have h : (List.range 128).all (fun n => decide (Lib.indexByte [46, 76, 77] n.toUInt8 = kindR n)) = true := by decide +kernel
  exact of_decide_eq_true (List.all_eq_true.1 h n (List.mem_range.2 hn))
theorem cRu_ok : CtrOK Tryz.prog 75 cRu := by
  intro ss vs w F r hF hgl hr h
  unfold cRu at h
  split at h
  · rename_i s q
    obtain ⟨⟨h0, h1, h2⟩, rfl⟩ := h
    by_cases hq : q < 128
    · refine cRune_ok _ vs w F _ hF hgl hr ⟨⟨h1, hq⟩, ?_⟩
      have h0 : s = strB [46, 76, 77] := h0
      subst h0
      obtain ⟨n, rfl⟩ := Int.eq_ofNat_of_zero_le h1
      show iv (kindR n) = iv (Lib.indexByte [46, 76, 77] (n : Int).toNat.toUInt8)
      rw [Int.toNat_natCast, kind_low n (by omega)]
    · refine cRu2_ok _ vs w F _ hF hgl hr ⟨⟨h0, by omega, h1, h2⟩, ?_⟩
      show iv (kindR q) = iv (-1)
      unfold kindR
      rw [if_neg (by omega), if_neg (by omega), if_neg (by omega)]
  · exact h.elim
end Go.Proofs.YtgahnelicbddcaaGreatDoor

namespace Go.Proofs.YtgahnelicbddcaaGreatDoor
open Go.Sx
set_option maxRecDepth 100000
end Go.Proofs.YtgahnelicbddcaaGreatDoor

namespace Go.Proofs.YtgahnelicbddcaaGreatDoor
open Go.Sx
set_option maxRecDepth 100000

theorem ne_of_inc {A : List Int} (h : Inc A) : A.Pairwise (· ≠ ·) := h.imp fun h => by omega
structure TrOK (t : Int) (L : List Int) : Prop where
  perm : L.Perm (upTo t.toNat)
theorem TrOK.len {t : Int} {L : List Int} (h : TrOK t L) : L.length = t.toNat := by
  rw [h.perm.length_eq]; unfold upTo; simp
theorem TrOK.inj {t : Int} {L : List Int} (h : TrOK t L) {i j : Int} (hi : 0 ≤ i ∧ i < t) (hj : 0 ≤ j ∧ j < t) (he : L.getD i.toNat 0 = L.getD j.toNat 0) : i = j := by
  have hl := h.len
  have hn : L.Nodup := h.perm.nodup_iff.2 (ne_of_inc (inc_upTo _))
  have h1 : i.toNat < L.length := by omega
  have h2 : j.toNat < L.length := by omega
  rw [List.getD_eq_getElem?_getD, List.getD_eq_getElem?_getD, List.getElem?_eq_getElem h1, List.getElem?_eq_getElem h2] at he
  have he : L[i.toNat] = L[j.toNat] := he
  have hp := List.pairwise_iff_getElem.1 hn
  rcases Nat.lt_trichotomy i.toNat j.toNat with h3 | h3 | h3
  · exact absurd he (hp _ _ h1 h2 h3)
  · omega
  · exact absurd he.symm (hp _ _ h2 h1 h3)
end Go.Proofs.YtgahnelicbddcaaGreatDoor

namespace Go.Sx
def _root_.Go.Proofs.ByteRow (m : Nat) (f : Nat → Nat → DV) : Prop := ∀ a, a < m → f a 0 = .x (.int .u8 (intCell (f a 0))) ∧ 0 ≤ intCell (f a 0) ∧ intCell (f a 0) < 256
theorem ins_get {L : List Int} {k a : Nat} {j : Int} (hk : k ≤ L.length) : (L.take k ++ j :: L.drop k).getD a 0 = if a < k then L.getD a 0 else if a = k then j else L.getD (a - 1) 0 := by
  rw [List.getD_eq_getElem?_getD, List.getElem?_append, List.length_take, Nat.min_eq_left hk]
  split
  · rename_i h
    rw [List.getElem?_take, if_pos h, List.getD_eq_getElem?_getD]
  · rename_i h
    split
    · rename_i h2; subst h2; simp
    · rename_i h2
      rw [show a - k = (a - k - 1) + 1 by omega, List.getElem?_cons_succ, List.getElem?_drop, List.getD_eq_getElem?_getD, show k + (a - k - 1) = a - 1 by omega]
end Go.Sx
namespace Go.Proofs.YtgahnelicbddcaaGreatDoor
open Go.Sx
set_option maxRecDepth 100000
theorem ins_sel (L : List Int) (j : Int) (k a : Nat) (hk : k ≤ L.length) : selD (decide (a < 0 + (k - 0) + 1)) (selD (decide (0 + a < 0 + (k - 0))) (.x (.int .i64 (L.getD (0 + (0 + (0 + a) - 0)) 0))) (dsAt [.x (.int .i64 j)] (0 + (0 + (0 + a - (0 + (k - 0)))) * 1 + 0)))
    (.x (.int .i64 (L.getD (0 + k + (a - (0 + (k - 0) + 1))) 0))) = .x (.int .i64 ((L.take k ++ j :: L.drop k).getD a 0)) := by
  rw [ins_get hk]
  have e1 : 0 + (0 + (0 + a) - 0) = a := by omega
  have e2 : 0 + (k - 0) = k := by omega
  have e3 : 0 + a = a := by omega
  rw [e1, e2, e3]
  by_cases h1 : a < k
  · rw [if_pos h1, decide_eq_true (show a < k + 1 by omega), decide_eq_true h1]; rfl
  · rw [if_neg h1]
    by_cases h2 : a = k
    · subst h2
      rw [if_pos rfl, decide_eq_true (show a < a + 1 by omega), decide_eq_false h1, show 0 + (0 + (a - a)) * 1 + 0 = 0 by omega]; rfl
    · rw [if_neg h2, decide_eq_false (show ¬ a < k + 1 by omega), show 0 + k + (a - (k + 1)) = a - 1 by omega]; rfl
end Go.Proofs.YtgahnelicbddcaaGreatDoor

namespace Go.Proofs.YtgahnelicbddcaaGreatDoor
open Go.Sx
set_option maxRecDepth 100000
end Go.Proofs.YtgahnelicbddcaaGreatDoor

namespace Go.Proofs.YtgahnelicbddcaaGreatDoor
open Go.Sx
set_option maxRecDepth 100000
end Go.Proofs.YtgahnelicbddcaaGreatDoor

namespace Go.Proofs.YtgahnelicbddcaaGreatDoor
open Go.Sx
set_option maxRecDepth 100000
noncomputable def manP2 : FuncId → Option Ctr := fun k => match k with
  | 74 => some cNb
  | 73 => some cSp
  | 95 => some cTm
  | 96 => some cIw
  | 90 => some cAtoi
  | 75 => some cRu
  | 11 => some cCt
  | 25 => some cCt
  | _ => none
theorem manP2_ok (k : Nat) (c : Ctr) (h : manP2 k = some c) : CtrOK Tryz.prog k c ∧ goodF Tryz.prog k = true := by
  unfold manP2 at h
  split at h
  · cases h; exact ⟨cNb_ok, by kernel_rfl⟩
  · cases h; exact ⟨cSp_ok, by kernel_rfl⟩
  · cases h; exact ⟨cTm_ok, by kernel_rfl⟩
  · cases h; exact ⟨cIw_ok, by kernel_rfl⟩
  · cases h; exact ⟨cAtoi_ok, by kernel_rfl⟩
  · cases h; exact ⟨cRu_ok, by kernel_rfl⟩
  · cases h; exact ⟨cCt_ok.1, by kernel_rfl⟩
  · cases h; exact ⟨cCt_ok.2, by kernel_rfl⟩
  · cases h
noncomputable def CP2 : Ctx := ctxN Tryz.prog manP2 (fun k => k == 56 || k == 78 || k == 55 || k == 57) 200 .nil 8
theorem CP2_ok : CtxOK Tryz.prog CP2 := ctxN_ok mixed manP2_ok 8
noncomputable def DP2 : Dr := fun _ => drawn Tryz.prog CP2
theorem DP2_ok : DrOK Tryz.prog CP2 DP2 := drawn_ok CP2_ok mixed
noncomputable def TP2 (h : Hint) (k : Nat) (args : List SV) : Tree SV := fnT Tryz.prog CP2 DP2 200 (fnOf Tryz.prog k) (bodyOf Tryz.prog k) args h

end Go.Proofs.YtgahnelicbddcaaGreatDoor

namespace Go.Sx
def sTiles : List UInt8 := [115, 108, 111, 116, 32, 116, 105, 108, 101, 115]
def sNodes : List UInt8 := [110, 111, 100, 101, 115]
def rowS (W : List (List UInt8)) : Nat → Nat → DV := fun a _ => .x (.string (strB (W.getD a [])))
def wdS (s : List UInt8) : List (List UInt8) := cutB (trimB s sTiles) [32]
def atS (s : List UInt8) : Int := if 1 > idxW (wdS s).length (rowS (wdS s)) sNodes then 1 else idxW (wdS s).length (rowS (wdS s)) sNodes
def m1S (s : List UInt8) : Int := if ((wdS s).length : Int) < atS s then ((wdS s).length : Int) else atS s
def m2S (s : List UInt8) : Int := if ((wdS s).length : Int) < w64 (atS s + 1) then ((wdS s).length : Int) else w64 (atS s + 1)
def slA (s : List UInt8) : List Int := (((wdS s).take (atS s).toNat).drop 1).map numW
def slB (s : List UInt8) : List Int := ((wdS s).drop ((atS s).toNat + 1)).map numW
def slotS (s : List UInt8) : List Int × List Int := (slA s, slB s)
theorem cutL_len (c : UInt8) : ∀ l : List UInt8, 1 ≤ (cutL c l).length ∧ (cutL c l).length ≤ l.length + 1
  | [] => by simp [cutL]
  | b :: t => by
    have := cutL_len c t
    unfold cutL
    split
    · simp only [List.length_cons]; omega
    · split
      · rename_i h; rw [h] at this; simp at this
      · rename_i x r h; rw [h] at this; simp only [List.length_cons] at this ⊢; omega
theorem cutL_mem (c : UInt8) : ∀ (l : List UInt8) (w : List UInt8), w ∈ cutL c l → w.length ≤ l.length
  | [], w, h => by simp [cutL] at h; subst h; simp
  | b :: t, w, h => by
    have ih := cutL_mem c t
    unfold cutL at h
    split at h
    · rcases List.mem_cons.1 h with rfl | h
      · simp
      · have := ih w h; simp only [List.length_cons]; omega
    · split at h
      · rename_i hc
        have := cutL_len c t
        rw [hc] at this; simp at this
      · rename_i x r hc
        rcases List.mem_cons.1 h with rfl | h
        · have := ih x (by rw [hc]; simp)
          simp only [List.length_cons]; omega
        · have := ih w (by rw [hc]; simp [h])
          simp only [List.length_cons]; omega
theorem idxF_rng (x : ByteArray) : ∀ (zs : List ByteArray) (k : Nat), Lib.idxFromS zs x k = -1 ∨ ((k : Int) ≤ Lib.idxFromS zs x k ∧ Lib.idxFromS zs x k < k + zs.length)
  | [], k => .inl rfl
  | z :: zs, k => by
    unfold Lib.idxFromS
    split
    · right; simp only [List.length_cons]; omega
    · rcases idxF_rng x zs (k + 1) with h | h
      · exact .inl h
      · right; simp only [List.length_cons]; omega
theorem cellsT_rowS (W : List (List UInt8)) : cellsT W.length (rowS W) = W := by
  unfold cellsT rowS
  refine List.ext_getElem (by simp) fun i h1 h2 => ?_
  simp only [List.getElem_map, List.getElem_range, strAt, strB_list]
  rw [List.getD_eq_getElem?_getD, List.getElem?_eq_getElem h2]; rfl
def idxL (W : List (List UInt8)) (p : List UInt8) : Int := Lib.idxOfS (W.map strB) (strB p)
theorem idxW_L (W : List (List UInt8)) (p : List UInt8) : idxW W.length (rowS W) p = idxL W p := by unfold idxW idxL; rw [cellsT_rowS]
theorem idxL_rng (W : List (List UInt8)) (p : List UInt8) : -1 ≤ idxL W p ∧ idxL W p < W.length + 1 := by
  have := idxF_rng (strB p) (W.map strB) 0
  unfold idxL Lib.idxOfS
  rw [List.length_map] at this
  omega
theorem atS_rng (s : List UInt8) : 1 ≤ atS s ∧ atS s < (wdS s).length + 1 := by
  have h1 := idxL_rng (wdS s) sNodes
  have h2 := (cutL_len 32 (trimB s sTiles)).1
  have h3 : (wdS s).length = (cutL 32 (trimB s sTiles)).length := rfl
  unfold atS
  rw [idxW_L]
  split <;> omega
theorem trimB_len (s p : List UInt8) : (trimB s p).length ≤ s.length := by
  unfold trimB Lib.trimPrefix
  split
  · rw [List.length_drop]; omega
  · exact Nat.le_refl _
theorem strRow_rowS (W : List (List UInt8)) (k n : Nat) : Proofs.StrRow n (fun i j => rowS W (k + i) j) := fun i hi => by
  unfold strAt rowS
  simp only [strB_list]
theorem strsOK_rowS {W : List (List UInt8)} {k n m : Nat} (hn : n ≤ 1000000) (hm : m ≤ 1000000) (hW : ∀ w ∈ W, w.length ≤ m) : Proofs.StrsOK n (fun i j => rowS W (k + i) j) := by
  refine ⟨hn, strRow_rowS W k n, fun i hi => ?_⟩
  unfold strAt rowS
  simp only [strB_list]
  rcases Nat.lt_or_ge (k + i) W.length with h | h
  · have := hW (W.getD (k + i) []) (by rw [List.getD_eq_getElem?_getD, List.getElem?_eq_getElem h]; exact List.getElem_mem h)
    omega
  · rw [List.getD_eq_getElem?_getD, List.getElem?_eq_none (by omega)]; simp
theorem numsL_rowS (W : List (List UInt8)) (k n : Nat) (h : k + n ≤ W.length) : numsL n (fun i j => rowS W (k + i) j) = ((W.take (k + n)).drop k).map numW := by
  unfold numsL
  congr 1
  unfold cellsT
  refine List.ext_getElem (by simp; omega) fun i h1 h2 => ?_
  simp only [List.length_map, List.length_range] at h1
  simp only [List.getElem_map, List.getElem_range, strAt, rowS, strB_list, List.getElem_drop, List.getElem_take]
  rw [List.getD_eq_getElem?_getD, List.getElem?_eq_getElem (by omega)]; rfl
end Go.Sx
namespace Go.Proofs.YtgahnelicbddcaaGreatDoor
open Go.Sx
set_option maxRecDepth 100000
noncomputable def badV (b : List Int × List Int) : SV := .agg [ivL b.1, ivL b.2]
noncomputable def LSl (s : List UInt8) : Tree SV :=
  .need (OneB (strB [32]) ∧ (strB (trimB s sTiles)).size ≤ 1000000)
  (.need ((wdS s).length ≤ 1000000 ∧ StrRow (wdS s).length (rowS (wdS s)))
  (.need (((0 ≤ m1S s) ∧ (m1S s).toNat ≤ (wdS s).length) ∧ (0 : Int) ≤ 1 ∧ 1 ≤ (m1S s).toNat)
  (.need (StrsOK ((m1S s).toNat - 1) (fun i j => rowS (wdS s) (1 + i) j))
  (.need (True ∧ (0 ≤ m2S s) ∧ (m2S s).toNat ≤ (wdS s).length)
  (.need (StrsOK ((wdS s).length - (m2S s).toNat) (fun i j => rowS (wdS s) ((m2S s).toNat + i) j))
  (.ret (.agg [ivL (numsL ((m1S s).toNat - 1) (fun i j => rowS (wdS s) (1 + i) j)), ivL (numsL ((wdS s).length - (m2S s).toNat) (fun i j => rowS (wdS s) ((m2S s).toNat + i) j))])))))))
theorem LSl_eq (s : List UInt8) : TP2 .nil 76 [strV s] = LSl s := by kernel_rfl
theorem sl_sat {s : List UInt8} (hs : s.length ≤ 900000) : Sat Tryz.prog (TP2 .nil 76 [strV s]) (· = badV (slotS s)) := by
  refine Sat.of_eq (LSl_eq s) ⟨?_⟩
  unfold LSl
  have h1 := trimB_len s sTiles
  have h2 := cutL_len 32 (trimB s sTiles)
  have h3 := atS_rng s
  have hW : ∀ w ∈ wdS s, w.length ≤ 900000 := fun w hw => by
    have := cutL_mem 32 (trimB s sTiles) w hw; omega
  have e0 : (wdS s).length = (cutL 32 (trimB s sTiles)).length := rfl
  have e1 : (m1S s).toNat = min (atS s).toNat (wdS s).length := by unfold m1S; split <;> omega
  have e1' : 1 ≤ m1S s := by unfold m1S; split <;> omega
  have hw : w64 (atS s + 1) = atS s + 1 := w64_of (by omega) (by omega)
  have e2 : (m2S s).toNat = min ((atS s).toNat + 1) (wdS s).length := by unfold m2S; rw [hw]; split <;> omega
  have e2' : 0 ≤ m2S s := by unfold m2S; rw [hw]; split <;> omega
  refine ⟨⟨rfl, by rw [strB_size]; omega⟩, ⟨by omega, ?_⟩, ⟨⟨by omega, by omega⟩, by omega, by omega⟩, strsOK_rowS (by omega) (by omega) hW, ⟨trivial, e2', by omega⟩, strsOK_rowS (by omega) (by omega) hW, ?_⟩
  · have := strRow_rowS (wdS s) 0 (wdS s).length
    simp only [Nat.zero_add] at this; exact this
  · show SV.agg _ = SV.agg _
    rw [numsL_rowS _ _ _ (by omega), numsL_rowS _ _ _ (by omega)]
    have f1 : ((wdS s).take (1 + ((m1S s).toNat - 1))).drop 1 = ((wdS s).take (atS s).toNat).drop 1 := by
      rw [show 1 + ((m1S s).toNat - 1) = min (atS s).toNat (wdS s).length by omega]
      rcases Nat.le_total (atS s).toNat (wdS s).length with h | h
      · rw [Nat.min_eq_left h]
      · rw [Nat.min_eq_right h, List.take_length, List.take_of_length_le h]
    have f2 : ((wdS s).take ((m2S s).toNat + ((wdS s).length - (m2S s).toNat))).drop (m2S s).toNat = (wdS s).drop ((atS s).toNat + 1) := by
      rw [show (m2S s).toNat + ((wdS s).length - (m2S s).toNat) = (wdS s).length by omega, List.take_length, e2]
      rcases Nat.le_total ((atS s).toNat + 1) (wdS s).length with h | h
      · rw [Nat.min_eq_left h]
      · rw [Nat.min_eq_right h, List.drop_length, List.drop_of_length_le h]
    rw [f1, f2]; rfl
noncomputable def cSl : Ctr := fun ss => match ss with
  | [.d (.x (.string s))] => .need (s.size ≤ 900000) (.ret (.agg [ivL (slA s.data.toList), ivL (slB s.data.toList)]))
  | _ => .fail
theorem cSl_ok : CtrOK Tryz.prog 76 cSl := by
  refine ctrOK_leS CP2_ok DP2_ok (by kernel_rfl) (by kernel_rfl) fun ss r hr => ?_
  unfold cSl at hr
  split at hr
  · rename_i s
    obtain ⟨h1, rfl⟩ := hr
    have k0 := sl_sat (s := s.data.toList) (by simpa using h1)
    refine ⟨_, 200, .nil, ?_, k0⟩
    exact ⟨rfl, by simp only [leSVs]⟩
  · exact hr.elim
end Go.Proofs.YtgahnelicbddcaaGreatDoor

namespace Go.Proofs.YtgahnelicbddcaaGreatDoor
open Go.Sx
set_option maxRecDepth 100000
noncomputable def cWi : Ctr := fun ss => match ss with
  | [.d (.x (.int .i64 n)), .d (.x (.int .i64 a)), .d (.x (.int .i64 b))] => .ret (bv (decide (a ≤ n) && decide (n ≤ b)))
  | _ => .fail
noncomputable def tWi (n a b : Int) : Tree SV := T0 .nil 55 [iv n, iv a, iv b]
noncomputable def LWi (n a b : Int) : Tree SV :=
  .ret (bv (decide (a ≤ n) && decide (n ≤ b)))

theorem LWi_eq (n a b : Int) : tWi n a b = LWi n a b := by kernel_rfl

theorem wi_sat (n a b : Int) : Sat Tryz.prog (tWi n a b) (· = bv (decide (a ≤ n) && decide (n ≤ b))) := Sat.of_eq (LWi_eq n a b) ⟨rfl⟩
theorem cWi_ok : CtrOK Tryz.prog 55 cWi := by
  refine ctrOK_leS C0_ok D0_ok (by kernel_rfl) (by kernel_rfl) fun ss r hr => ?_
  unfold cWi at hr
  split at hr
  · rename_i n a b
    cases hr
    have k0 := wi_sat n a b
    refine ⟨_, 200, .nil, ?_, k0⟩
    exact ⟨rfl, rfl, rfl, by simp only [leSVs]⟩
  · exact hr.elim
noncomputable def manQ : FuncId → Option Ctr := fun k => match k with
  | 55 => some cWi
  | _ => none
theorem manQ_ok (k : Nat) (c : Ctr) (h : manQ k = some c) : CtrOK Tryz.prog k c ∧ goodF Tryz.prog k = true := by
  unfold manQ at h
  split at h
  · cases h; exact ⟨cWi_ok, by kernel_rfl⟩
  · cases h
noncomputable def CQ : Ctx := ctxN Tryz.prog manQ (fun k => k == 56 || k == 78 || k == 57) 200 .nil 8
theorem CQ_ok : CtxOK Tryz.prog CQ := ctxN_ok mixed manQ_ok 8
noncomputable def DQ : Dr := fun _ => drawn Tryz.prog CQ
theorem DQ_ok : DrOK Tryz.prog CQ DQ := drawn_ok CQ_ok mixed
noncomputable def tVc (w h t p : Int) (m : Nat) (c : Nat → Int) : Tree SV := fnT Tryz.prog CQ DQ 200 (fnOf Tryz.prog 23) (bodyOf Tryz.prog 23) [gridV w h t p (ro64 m c)] .nil
noncomputable def LVc (w h t p : Int) (m : Nat) (c : Nat → Int) : Tree SV :=
  .ite
  (!(decide ((1 : Int) ≤ w) && decide (w ≤ (8 : Int))) || !(decide ((1 : Int) ≤ h) && decide (h ≤ (8 : Int))) || !(decide ((1 : Int) ≤ t) && decide (t ≤ (8 : Int))) || !(decide ((0 : Int) ≤ p) && decide (p ≤ (64 : Int))) ||
   (↑m : Int) != w64 (w * h))
  (.ret (iv (280 : Int))) (.code (codeC (sub [(1 : Nat)] (tVc w h t p m c))) (codeS (sub [(1 : Nat)] (tVc w h t p m c))) (codeK (sub [(1 : Nat)] (tVc w h t p m c))))

theorem LVc_eq (w h t p : Int) (m : Nat) (c : Nat → Int) : tVc w h t p m c = LVc w h t p m c := by kernel_rfl

noncomputable def tVe (w h t p : Int) (m : Nat) (c : Nat → Int) : Tree SV := T0 .nil 24 [gridV w h t p (ro64 m c)]
noncomputable def LVe (w h t p : Int) (m : Nat) (c : Nat → Int) : Tree SV :=
  .ite
  (decide (w < (1 : Int)) || decide (w > (8 : Int)) || decide (h < (1 : Int)) || decide (h > (8 : Int)) || decide (t < (1 : Int)) || decide (t > (8 : Int)) || decide (p < (0 : Int)) || decide (p > (64 : Int)) || (↑m : Int) != w64 (w * h))
  (.ret (iv (280 : Int))) (.code (codeC (sub [(1 : Nat)] (tVe w h t p m c))) (codeS (sub [(1 : Nat)] (tVe w h t p m c))) (codeK (sub [(1 : Nat)] (tVe w h t p m c))))

theorem LVe_eq (w h t p : Int) (m : Nat) (c : Nat → Int) : tVe w h t p m c = LVe w h t p m c := by kernel_rfl


end Go.Proofs.YtgahnelicbddcaaGreatDoor

namespace Go.Proofs.YtgahnelicbddcaaGreatDoor
open Go.Sx
set_option maxRecDepth 100000
noncomputable def invVc (m : Nat) (c : Nat → Int) (r z : Int) : AS := ⟨[.ok (ro64 m c), .ok (.fn (.func 57) [] [.ptr 1 0]), .unk, .unk, .ok (iv r), .unk, .ok (ro64 m c), .ok (iv m), .ok (iv z)] ++ List.replicate 10 .unk, [none, some (.cells [.fn (.func 55) [] []]), none], 3, .nil⟩
noncomputable def bodyVc : Code := loopN (bodyOf Tryz.prog 78) 0
noncomputable def BVc_q1 (c : Nat → Int) (i : Nat) (x : Nat) : DV :=
  DV.x (.int .i64 (c i))
noncomputable def BVc (m : Nat) (c : Nat → Int) (r z : Int) : Tree (Ex × AS) :=
  .ite (decide (z < (↑m : Int)))
  (.need ((0 : Int) ≤ z ∧ z < (↑m : Int))
   (.ite (!(decide ((0 : Int) ≤ c (Int.toNat z)) && decide (c (Int.toNat z) ≤ (2 : Int))))
   (.ret
   (.ret,
   {
   tm :=
   [.ok (SV.d (DV.ro m 1 (BVc_q1 c))), .ok (SV.fn (Fn.func 57) [] [SV.ptr 1 0]), .unk, .unk, .ok (iv z), .unk,
   .ok (SV.d (DV.ro m 1 (BVc_q1 c))), .ok (iv (↑m : Int)), .ok (iv z), .unk, .unk, .unk, .unk, .unk, .unk, .unk, .unk, .unk, .unk],
   hp := [none, some (.cells [SV.fn (Fn.func 55) [] []]), none], next := 3, hint := .nil }))
   (.ret
   (.normal,
   {
   tm :=
   [.ok (SV.d (DV.ro m 1 (BVc_q1 c))), .ok (SV.fn (Fn.func 57) [] [SV.ptr 1 0]), .unk, .unk, .ok (iv r), .unk,
   .ok (SV.d (DV.ro m 1 (BVc_q1 c))), .ok (iv (↑m : Int)), .ok (iv (w64 (z + (1 : Int)))), .unk, .unk, .unk, .unk, .unk, .unk, .unk, .unk, .unk, .unk],
   hp := [none, some (.cells [SV.fn (Fn.func 55) [] []]), none], next := 3, hint := .nil }))))
  (.ret
   (.exit 0,
   {
   tm :=
   [.ok (SV.d (DV.ro m 1 (BVc_q1 c))), .ok (SV.fn (Fn.func 57) [] [SV.ptr 1 0]), .unk, .unk, .ok (iv r), .unk, .ok (SV.d (DV.ro m 1 (BVc_q1 c))),
   .ok (iv (↑m : Int)), .ok (iv z), .unk, .unk, .unk, .unk, .unk, .unk, .unk, .unk, .unk, .unk],
   hp := [none, some (.cells [SV.fn (Fn.func 55) [] []]), none], next := 3, hint := .nil }))

theorem BVc_eq (m : Nat) (c : Nat → Int) (r z : Int) : cutT 3 [] [0, 1, 4, 6, 7, 8] [0, 2] 3 .nil (exec Tryz.prog CQ DQ 200 bodyVc (invVc m c r z)) = BVc m c r z := by kernel_rfl

noncomputable def KVc (w h t p : Int) (m : Nat) (c : Nat → Int) (r z : Int) : Tree SV :=
  .ite false (.ret (iv (280 : Int))) (.ret (iv (0 : Int)))

theorem KVc_eq (w h t p : Int) (m : Nat) (c : Nat → Int) (r z : Int) : codeK (sub [1] (tVc w h t p m c)) (.exit 0) (invVc m c r z) = KVc w h t p m c r z := by kernel_rfl

noncomputable def QVc (w h t p : Int) (m : Nat) (c : Nat → Int) (r z : Int) : Tree SV :=
  .ite (decide (r ≥ (0 : Int))) (.ret (iv (280 : Int))) (.ret (iv (0 : Int)))

theorem QVc_eq (w h t p : Int) (m : Nat) (c : Nat → Int) (r z : Int) : codeK (sub [1] (tVc w h t p m c)) .ret (invVc m c r z) = QVc w h t p m c r z := by kernel_rfl

noncomputable def invVe (w h t p : Int) (m : Nat) (c : Nat → Int) (r z : Int) : AS := ⟨[.unk, .ok (.ptr 0 0), .ok (iv r), .ok (iv z)] ++ List.replicate 78 .unk, [some (.cells [iv w, iv h, iv t, iv p, ro64 m c])], 1, .nil⟩
noncomputable def bodyVe : Code := loopN (bodyOf Tryz.prog 24) 0
noncomputable def BVe_q1 (c : Nat → Int) (z : Int) : Bool :=
  c (Int.toNat z) != (0 : Int)
noncomputable def BVe_q2 (c : Nat → Int) (z : Int) : Bool :=
  BVe_q1 c z && c (Int.toNat z) != (1 : Int)
noncomputable def BVe_q3 (c : Nat → Int) (i : Nat) (x : Nat) : DV :=
  DV.x (.int .i64 (c i))
noncomputable def BVe (w h t p : Int) (m : Nat) (c : Nat → Int) (r z : Int) : Tree (Ex × AS) :=
 .ite (decide (z < (↑m : Int)))
 (.need ((0 : Int) ≤ z ∧ z < (↑m : Int))
 (.need (BVe_q1 c z = true → (0 : Int) ≤ z ∧ z < (↑m : Int))
 (.need (BVe_q2 c z = true → (0 : Int) ≤ z ∧ z < (↑m : Int))
 (.ite (BVe_q2 c z && c (Int.toNat z) != (2 : Int))
 (.ret
 (.ret,
 {
 tm :=
 [.unk, .ok (SV.ptr 0 0), .ok (iv (280 : Int)), .ok (iv z), .unk, .unk, .unk, .unk, .unk, .unk, .unk, .unk, .unk, .unk, .unk, .unk, .unk, .unk, .unk, .unk, .unk,
 .unk, .unk, .unk, .unk, .unk, .unk, .unk, .unk, .unk, .unk, .unk, .unk, .unk, .unk, .unk, .unk, .unk, .unk, .unk, .unk, .unk, .unk, .unk, .unk, .unk, .unk, .unk,
 .unk, .unk, .unk, .unk, .unk, .unk, .unk, .unk, .unk, .unk, .unk, .unk, .unk, .unk, .unk, .unk, .unk, .unk, .unk, .unk, .unk, .unk, .unk, .unk, .unk, .unk, .unk,
 .unk, .unk, .unk, .unk, .unk, .unk, .unk],
 hp := [some (.cells [iv w, iv h, iv t, iv p, SV.d (DV.ro m 1 (BVe_q3 c))])], next := 1, hint := .nil }))
 (.ret
 (.normal,
 {
 tm :=
 [.unk, .ok (SV.ptr 0 0), .ok (iv r), .ok (iv (w64 (z + (1 : Int)))), .unk, .unk, .unk, .unk, .unk, .unk, .unk, .unk, .unk, .unk, .unk, .unk, .unk, .unk, .unk,
 .unk, .unk, .unk, .unk, .unk, .unk, .unk, .unk, .unk, .unk, .unk, .unk, .unk, .unk, .unk, .unk, .unk, .unk, .unk, .unk, .unk, .unk, .unk, .unk, .unk, .unk, .unk,
 .unk, .unk, .unk, .unk, .unk, .unk, .unk, .unk, .unk, .unk, .unk, .unk, .unk, .unk, .unk, .unk, .unk, .unk, .unk, .unk, .unk, .unk, .unk, .unk, .unk, .unk, .unk,
 .unk, .unk, .unk, .unk, .unk, .unk, .unk, .unk, .unk],
 hp := [some (.cells [iv w, iv h, iv t, iv p, SV.d (DV.ro m 1 (BVe_q3 c))])], next := 1, hint := .nil }))))))
 (.ret
 (.exit 0,
 {
 tm :=
 [.unk, .ok (SV.ptr 0 0), .ok (iv r), .ok (iv z), .unk, .unk, .unk, .unk, .unk, .unk, .unk, .unk, .unk, .unk, .unk, .unk, .unk, .unk, .unk, .unk, .unk, .unk, .unk,
 .unk, .unk, .unk, .unk, .unk, .unk, .unk, .unk, .unk, .unk, .unk, .unk, .unk, .unk, .unk, .unk, .unk, .unk, .unk, .unk, .unk, .unk, .unk, .unk, .unk, .unk, .unk, .unk,
 .unk, .unk, .unk, .unk, .unk, .unk, .unk, .unk, .unk, .unk, .unk, .unk, .unk, .unk, .unk, .unk, .unk, .unk, .unk, .unk, .unk, .unk, .unk, .unk, .unk, .unk, .unk, .unk,
 .unk, .unk, .unk],
 hp := [some (.cells [iv w, iv h, iv t, iv p, SV.d (DV.ro m 1 (BVe_q3 c))])], next := 1, hint := .nil }))

theorem BVe_eq (w h t p : Int) (m : Nat) (c : Nat → Int) (r z : Int) : cutT 1 [] [1, 2, 3] [] 1 .nil (exec Tryz.prog C0 D0 200 bodyVe (invVe w h t p m c r z)) = BVe w h t p m c r z := by kernel_rfl

noncomputable def KVe (w h t p : Int) (m : Nat) (c : Nat → Int) (r z : Int) : Tree SV :=
  .ret (iv (0 : Int))

theorem KVe_eq (w h t p : Int) (m : Nat) (c : Nat → Int) (r z : Int) : codeK (sub [1] (tVe w h t p m c)) (.exit 0) (invVe w h t p m c r z) = KVe w h t p m c r z := by kernel_rfl

noncomputable def QVe (w h t p : Int) (m : Nat) (c : Nat → Int) (r z : Int) : Tree SV :=
  .ret (iv r)

theorem QVe_eq (w h t p : Int) (m : Nat) (c : Nat → Int) (r z : Int) : codeK (sub [1] (tVe w h t p m c)) .ret (invVe w h t p m c r z) = QVe w h t p m c r z := by kernel_rfl

noncomputable def tRi (m : Nat) (c : Nat → Int) (n : Int) : Tree SV := T0 .nil 50 [ro64 m c, iv n]
noncomputable def tR2 (m : Nat) (c : Nat → Int) (n : Int) : Tree SV := T0 .nil 77 [ro64 m c, iv n]
noncomputable def LRi (m : Nat) (c : Nat → Int) (n : Int) : Tree SV :=
  .code (codeC (sub [] (tRi m c n))) (codeS (sub [] (tRi m c n))) (codeK (sub [] (tRi m c n)))

theorem LRi_eq (m : Nat) (c : Nat → Int) (n : Int) : tRi m c n = LRi m c n := by kernel_rfl

noncomputable def LR2 (m : Nat) (c : Nat → Int) (n : Int) : Tree SV :=
  .code (codeC (sub [] (tR2 m c n))) (codeS (sub [] (tR2 m c n))) (codeK (sub [] (tR2 m c n)))

theorem LR2_eq (m : Nat) (c : Nat → Int) (n : Int) : tR2 m c n = LR2 m c n := by kernel_rfl

noncomputable def invRi (m : Nat) (c : Nat → Int) (n : Int) (r : Bool) (l z : Int) : AS := ⟨[.unk, .ok (iv n), .unk, .unk, .ok (bv r), .ok (iv l), .unk, .unk, .ok (ro64 m c), .ok (iv m), .ok (iv z)] ++ List.replicate 13 .unk, [], 0, .nil⟩
noncomputable def bodyRi : Code := loopN (bodyOf Tryz.prog 50) 0
noncomputable def BRi_q1 (c : Nat → Int) (i : Nat) (x : Nat) : DV :=
  DV.x (.int .i64 (c i))
noncomputable def BRi (m : Nat) (c : Nat → Int) (n : Int) (r : Bool) (l z : Int) : Tree (Ex × AS) :=
  .ite (decide (z < (↑m : Int)))
  (.need ((0 : Int) ≤ z ∧ z < (↑m : Int))
   (.ite (decide (c (Int.toNat z) ≤ l) || decide (c (Int.toNat z) ≥ n))
   (.ret
   (.ret,
   {
   tm :=
   [.unk, .ok (iv n), .unk, .unk, .ok (bv false), .ok (iv l), .unk, .unk, .ok (SV.d (DV.ro m 1 (BRi_q1 c))), .ok (iv (↑m : Int)), .ok (iv z), .unk, .unk, .unk, .unk, .unk,
   .unk, .unk, .unk, .unk, .unk, .unk, .unk, .unk],
   hp := [], next := 0, hint := .nil }))
   (.ret
   (.normal,
   {
   tm :=
   [.unk, .ok (iv n), .unk, .unk, .ok (bv r), .ok (iv (c (Int.toNat z))), .unk, .unk, .ok (SV.d (DV.ro m 1 (BRi_q1 c))), .ok (iv (↑m : Int)), .ok (iv (w64 (z + (1 : Int)))), .unk,
   .unk, .unk, .unk, .unk, .unk, .unk, .unk, .unk, .unk, .unk, .unk, .unk],
   hp := [], next := 0, hint := .nil }))))
  (.ret
   (.exit 0,
   {
   tm :=
   [.unk, .ok (iv n), .unk, .unk, .ok (bv r), .ok (iv l), .unk, .unk, .ok (SV.d (DV.ro m 1 (BRi_q1 c))), .ok (iv (↑m : Int)), .ok (iv z), .unk, .unk, .unk, .unk, .unk, .unk,
   .unk, .unk, .unk, .unk, .unk, .unk, .unk],
   hp := [], next := 0, hint := .nil }))

theorem BRi_eq (m : Nat) (c : Nat → Int) (n : Int) (r : Bool) (l z : Int) : cutT 0 [] [1, 4, 5, 8, 9, 10] [] 0 .nil (exec Tryz.prog C0 D0 200 bodyRi (invRi m c n r l z)) = BRi m c n r l z := by kernel_rfl

noncomputable def KRi (m : Nat) (c : Nat → Int) (n : Int) (r : Bool) (l z : Int) : Tree SV :=
  .ret (bv true)

theorem KRi_eq (m : Nat) (c : Nat → Int) (n : Int) (r : Bool) (l z : Int) : codeK (sub [] (tRi m c n)) (.exit 0) (invRi m c n r l z) = KRi m c n r l z := by kernel_rfl

noncomputable def QRi (m : Nat) (c : Nat → Int) (n : Int) (r : Bool) (l z : Int) : Tree SV :=
  .ret (bv r)

theorem QRi_eq (m : Nat) (c : Nat → Int) (n : Int) (r : Bool) (l z : Int) : codeK (sub [] (tRi m c n)) .ret (invRi m c n r l z) = QRi m c n r l z := by kernel_rfl

noncomputable def invR2 (m : Nat) (c : Nat → Int) (n : Int) (r : Bool) (z : Int) : AS := ⟨[.ok (ro64 m c), .ok (iv n), .unk, .unk, .ok (bv r), .ok (iv z)] ++ List.replicate 35 .unk, [], 0, .nil⟩
noncomputable def bodyR2 : Code := loopN (bodyOf Tryz.prog 77) 0
noncomputable def BR2_q1 (c : Nat → Int) (z : Int) : Bool :=
  decide (c (Int.toNat z) < (0 : Int))
noncomputable def BR2_q2 (c : Nat → Int) (n : Int) (z : Int) : Bool :=
  BR2_q1 c z || decide (c (Int.toNat z) ≥ n)
noncomputable def BR2_q3 (z : Int) : Bool :=
  decide (z > (0 : Int))
noncomputable def BR2_q4 (c : Nat → Int) (i : Nat) (x : Nat) : DV :=
  DV.x (.int .i64 (c i))
noncomputable def BR2 (m : Nat) (c : Nat → Int) (n : Int) (r : Bool) (z : Int) : Tree (Ex × AS) :=
 .ite (decide (z < (↑m : Int)))
 (.need ((0 : Int) ≤ z ∧ z < (↑m : Int))
 (.need (BR2_q1 c z = false → (0 : Int) ≤ z ∧ z < (↑m : Int))
 (.need (BR2_q2 c n z = false ∧ BR2_q3 z = true → (0 : Int) ≤ w64 (z - (1 : Int)) ∧ w64 (z - (1 : Int)) < (↑m : Int))
 (.need (BR2_q2 c n z = false ∧ BR2_q3 z = true → (0 : Int) ≤ z ∧ z < (↑m : Int))
 (.ite (BR2_q2 c n z || BR2_q3 z && decide (c (Int.toNat (w64 (z - (1 : Int)))) ≥ c (Int.toNat z)))
 (.ret
 (.ret,
 {
 tm :=
 [.ok (SV.d (DV.ro m 1 (BR2_q4 c))), .ok (iv n), .unk, .unk, .ok (bv false), .ok (iv z), .unk, .unk, .unk, .unk, .unk, .unk, .unk, .unk, .unk, .unk, .unk, .unk,
 .unk, .unk, .unk, .unk, .unk, .unk, .unk, .unk, .unk, .unk, .unk, .unk, .unk, .unk, .unk, .unk, .unk, .unk, .unk, .unk, .unk, .unk, .unk],
 hp := [], next := 0, hint := .nil }))
 (.ret
 (.normal,
 {
 tm :=
 [.ok (SV.d (DV.ro m 1 (BR2_q4 c))), .ok (iv n), .unk, .unk, .ok (bv r), .ok (iv (w64 (z + (1 : Int)))), .unk, .unk, .unk, .unk, .unk, .unk, .unk, .unk, .unk, .unk,
 .unk, .unk, .unk, .unk, .unk, .unk, .unk, .unk, .unk, .unk, .unk, .unk, .unk, .unk, .unk, .unk, .unk, .unk, .unk, .unk, .unk, .unk, .unk, .unk, .unk],
 hp := [], next := 0, hint := .nil })))))))
 (.ret
 (.exit 0,
 {
 tm :=
 [.ok (SV.d (DV.ro m 1 (BR2_q4 c))), .ok (iv n), .unk, .unk, .ok (bv r), .ok (iv z), .unk, .unk, .unk, .unk, .unk, .unk, .unk, .unk, .unk, .unk, .unk, .unk, .unk, .unk,
 .unk, .unk, .unk, .unk, .unk, .unk, .unk, .unk, .unk, .unk, .unk, .unk, .unk, .unk, .unk, .unk, .unk, .unk, .unk, .unk, .unk],
 hp := [], next := 0, hint := .nil }))

theorem BR2_eq (m : Nat) (c : Nat → Int) (n : Int) (r : Bool) (z : Int) : cutT 0 [] [0, 1, 4, 5] [] 0 .nil (exec Tryz.prog C0 D0 200 bodyR2 (invR2 m c n r z)) = BR2 m c n r z := by kernel_rfl

noncomputable def KR2 (m : Nat) (c : Nat → Int) (n : Int) (r : Bool) (z : Int) : Tree SV :=
  .ret (bv true)

theorem KR2_eq (m : Nat) (c : Nat → Int) (n : Int) (r : Bool) (z : Int) : codeK (sub [] (tR2 m c n)) (.exit 0) (invR2 m c n r z) = KR2 m c n r z := by kernel_rfl

noncomputable def QR2 (m : Nat) (c : Nat → Int) (n : Int) (r : Bool) (z : Int) : Tree SV :=
  .ret (bv r)

theorem QR2_eq (m : Nat) (c : Nat → Int) (n : Int) (r : Bool) (z : Int) : codeK (sub [] (tR2 m c n)) .ret (invR2 m c n r z) = QR2 m c n r z := by kernel_rfl


end Go.Proofs.YtgahnelicbddcaaGreatDoor

namespace Go.Sx
def kdP (L : List Int) : Prop := ∀ i, i < L.length → 0 ≤ L.getD i 0 ∧ L.getD i 0 ≤ 2
instance (L : List Int) : Decidable (kdP L) := by unfold kdP; exact inferInstance
def vldP (w h t p : Int) (L : List Int) : Prop := ((1 ≤ w ∧ w ≤ 8) ∧ (1 ≤ h ∧ h ≤ 8) ∧ (1 ≤ t ∧ t ≤ 8) ∧ (0 ≤ p ∧ p ≤ 64)) ∧ (L.length : Int) = w * h ∧ kdP L
instance (w h t p : Int) (L : List Int) : Decidable (vldP w h t p L) := by unfold vldP; exact inferInstance
def vldE (w h t p : Int) (L : List Int) : Int := if vldP w h t p L then 0 else 280
def risP (L : List Int) (n : Int) : Prop := ∀ i, i < L.length → (0 ≤ L.getD i 0 ∧ L.getD i 0 < n) ∧ (0 < i → L.getD (i - 1) 0 < L.getD i 0)
instance (L : List Int) (n : Int) : Decidable (risP L n) := by unfold risP; exact inferInstance
def risB (L : List Int) (n : Int) : Bool := decide (risP L n)
end Go.Sx
namespace Go.Proofs.YtgahnelicbddcaaGreatDoor
open Go.Sx
set_option maxRecDepth 100000
abbrev lst (m : Nat) (c : Nat → Int) : List Int := (List.range m).map c
theorem lst_get {m : Nat} {c : Nat → Int} {i : Nat} (h : i < m) : (lst m c).getD i 0 = c i := by
  simp [lst, List.getD_eq_getElem?_getD, h]
theorem lst_len (m : Nat) (c : Nat → Int) : (lst m c).length = m := by simp [lst]
theorem kdP_iff {m : Nat} {c : Nat → Int} : kdP (lst m c) ↔ ∀ i, i < m → 0 ≤ c i ∧ c i ≤ 2 := by
  unfold kdP
  rw [lst_len]
  exact forall_congr' fun i => forall_congr' fun hi => by rw [lst_get hi]
theorem risP_iff {m : Nat} {c : Nat → Int} {n : Int} : risP (lst m c) n ↔ ∀ i, i < m → (0 ≤ c i ∧ c i < n) ∧ (0 < i → c (i - 1) < c i) := by
  unfold risP
  rw [lst_len]
  exact forall_congr' fun i => forall_congr' fun hi => by rw [lst_get hi, lst_get (i := i - 1) (by omega)]
theorem vc_loop {w h t p : Int} {m : Nat} {c : Nat → Int} (hm : m ≤ 9223372036854775807) (hE : entA 3 [] [0, 1, 4, 6, 7, 8] [0, 2] 3 .nil (sub [1] (tVc w h t p m c)) = some (invVc m c 0 0)) :
    Tree.sat Tryz.prog (.code (codeC (sub [1] (tVc w h t p m c))) (codeS (sub [1] (tVc w h t p m c))) (codeK (sub [1] (tVc w h t p m c)))) (· = iv (if kdP (lst m c) then 0 else 280)) := by
  refine code_satS CQ_ok DQ_ok (n := 200) (n0 := 3) (nx := 3) (roots := []) (keep := [0, 1, 4, 6, 7, 8]) (drop := [0, 2]) (h := .nil) (body := bodyVc) (by kernel_rfl) (by kernel_rfl)
    (fun q s => ∃ j : Nat, q = m - j ∧ j ≤ m ∧ (∀ i, i < j → 0 ≤ c i ∧ c i ≤ 2) ∧ s = invVc m c 0 j)
    (fun e s => (e = .exit 0 ∧ (∀ i, i < m → 0 ≤ c i ∧ c i ≤ 2) ∧ ∃ j, s = invVc m c 0 j) ∨ (e = .ret ∧ ¬ (∀ i, i < m → 0 ≤ c i ∧ c i ≤ 2) ∧ ∃ j : Nat, s = invVc m c j j))
    ⟨_, _, ⟨0, rfl, by omega, fun i hi => by omega, rfl⟩, entA_sound hE⟩ ?_ ?_
  · rintro q s ⟨j, rfl, hj, hn, rfl⟩
    refine Sat.of_eq (BVc_eq m c 0 j) ?_
    constructor; unfold BVc
    simp only [Int.toNat_natCast]
    refine ⟨fun h1 => ⟨?_, fun h2 => ?_, fun h2 => ?_⟩, fun h1 => ?_⟩
    · simp only [decide_eq_true_eq] at h1; omega
    · simp only [decide_eq_true_eq, Bool.not_eq_true', Bool.and_eq_false_iff, decide_eq_false_iff_not] at h1 h2
      exact ⟨_, .inr ⟨rfl, fun h => by have := h j (by omega); omega, j, rfl⟩, Gc.refl _ _⟩
    · simp only [decide_eq_true_eq, Bool.not_eq_false', Bool.and_eq_true] at h1 h2
      rw [w64_of (n := (j : Int) + 1) (by omega) (by omega)]
      refine ⟨m - (j + 1), _, by omega, ⟨j + 1, rfl, by omega, fun i hi => ?_, rfl⟩, Gc.refl _ _⟩
      by_cases hij : i = j
      · subst hij; exact h2
      · exact hn i (by omega)
    · simp only [decide_eq_false_iff_not] at h1
      obtain rfl : j = m := by omega
      exact ⟨_, .inl ⟨rfl, hn, _, rfl⟩, Gc.refl _ _⟩
  · rintro e s (⟨rfl, hn, j, rfl⟩ | ⟨rfl, hn, j, rfl⟩)
    · refine Sat.of_eq (KVc_eq w h t p m c 0 j) ⟨?_⟩
      unfold KVc
      refine ⟨fun h => (by cases h), fun _ => ?_⟩
      rw [if_pos (kdP_iff.2 hn)]; rfl
    · refine Sat.of_eq (QVc_eq w h t p m c j j) ⟨?_⟩
      unfold QVc
      refine ⟨fun _ => ?_, fun h => ?_⟩
      · rw [if_neg fun h => hn (kdP_iff.1 h)]; rfl
      · simp only [decide_eq_false_iff_not] at h; omega
theorem ve_loop {w h t p : Int} {m : Nat} {c : Nat → Int} (hm : m ≤ 9223372036854775807) (hE : entA 1 [] [1, 2, 3] [] 1 .nil (sub [1] (tVe w h t p m c)) = some (invVe w h t p m c 0 0)) :
    Tree.sat Tryz.prog (.code (codeC (sub [1] (tVe w h t p m c))) (codeS (sub [1] (tVe w h t p m c))) (codeK (sub [1] (tVe w h t p m c)))) (· = iv (if kdP (lst m c) then 0 else 280)) := by
  refine code_satS C0_ok D0_ok (n := 200) (n0 := 1) (nx := 1) (roots := []) (keep := [1, 2, 3]) (drop := []) (h := .nil) (body := bodyVe) (by kernel_rfl) (by kernel_rfl)
    (fun q s => ∃ j : Nat, q = m - j ∧ j ≤ m ∧ (∀ i, i < j → 0 ≤ c i ∧ c i ≤ 2) ∧ s = invVe w h t p m c 0 j)
    (fun e s => (e = .exit 0 ∧ (∀ i, i < m → 0 ≤ c i ∧ c i ≤ 2) ∧ ∃ j, s = invVe w h t p m c 0 j) ∨ (e = .ret ∧ ¬ (∀ i, i < m → 0 ≤ c i ∧ c i ≤ 2) ∧ ∃ j, s = invVe w h t p m c 280 j))
    ⟨_, _, ⟨0, rfl, by omega, fun i hi => by omega, rfl⟩, entA_sound hE⟩ ?_ ?_
  · rintro q s ⟨j, rfl, hj, hn, rfl⟩
    refine Sat.of_eq (BVe_eq w h t p m c 0 j) ?_
    constructor; unfold BVe
    have e2 : (BVe_q2 c (j : Int) && c (j : Int).toNat != 2) = decide (¬ (0 ≤ c j ∧ c j ≤ 2)) := by
      unfold BVe_q2 BVe_q1
      rw [Int.toNat_natCast, Bool.eq_iff_iff]
      simp only [Bool.and_eq_true, bne_iff_ne, ne_eq, decide_eq_true_eq]
      omega
    rw [e2]
    refine ⟨fun h1 => ?_, fun h1 => ?_⟩
    · simp only [decide_eq_true_eq] at h1
      refine ⟨by omega, fun _ => by omega, fun _ => by omega, fun h2 => ?_, fun h2 => ?_⟩
      · simp only [decide_eq_true_eq] at h2
        exact ⟨_, .inr ⟨rfl, fun h => h2 (h j (by omega)), _, rfl⟩, Gc.refl _ _⟩
      · simp only [decide_eq_false_iff_not, Decidable.not_not] at h2
        rw [w64_of (n := (j : Int) + 1) (by omega) (by omega)]
        refine ⟨m - (j + 1), _, by omega, ⟨j + 1, rfl, by omega, fun i hi => ?_, rfl⟩, Gc.refl _ _⟩
        by_cases hij : i = j
        · subst hij; exact h2
        · exact hn i (by omega)
    · simp only [decide_eq_false_iff_not] at h1
      obtain rfl : j = m := by omega
      exact ⟨_, .inl ⟨rfl, hn, _, rfl⟩, Gc.refl _ _⟩
  · rintro e s (⟨rfl, hn, j, rfl⟩ | ⟨rfl, hn, j, rfl⟩)
    · refine Sat.of_eq (KVe_eq w h t p m c 0 j) ⟨?_⟩
      rw [if_pos (kdP_iff.2 hn)]; rfl
    · refine Sat.of_eq (QVe_eq w h t p m c 280 j) ⟨?_⟩
      rw [if_neg fun h => hn (kdP_iff.1 h)]; rfl
theorem vld_cond {w h t p : Int} {m : Nat} {c : Nat → Int} (h1 : ¬ (((1 ≤ w ∧ w ≤ 8) ∧ (1 ≤ h ∧ h ≤ 8) ∧ (1 ≤ t ∧ t ≤ 8) ∧ (0 ≤ p ∧ p ≤ 64)) ∧ (m : Int) = w64 (w * h))) : vldE w h t p (lst m c) = 280 := by
  unfold vldE
  rw [if_neg]
  rintro ⟨h2, h3, -⟩
  rw [lst_len] at h3
  apply h1
  refine ⟨h2, ?_⟩
  rw [← h3, w64_of (by omega) (by
    have : w * h ≤ 8 * 8 := Int.mul_le_mul (by omega) (by omega) (by omega) (by omega)
    omega)]
theorem vld_cond2 {w h t p : Int} {m : Nat} {c : Nat → Int} (h1 : (((1 ≤ w ∧ w ≤ 8) ∧ (1 ≤ h ∧ h ≤ 8) ∧ (1 ≤ t ∧ t ≤ 8) ∧ (0 ≤ p ∧ p ≤ 64)) ∧ (m : Int) = w64 (w * h))) : vldE w h t p (lst m c) = if kdP (lst m c) then 0 else 280 := by
  obtain ⟨h2, h3⟩ := h1
  have hb : w * h ≤ 8 * 8 := Int.mul_le_mul (by omega) (by omega) (by omega) (by omega)
  have hc : 0 ≤ w * h := Int.mul_nonneg (by omega) (by omega)
  rw [w64_of (by omega) (by omega)] at h3
  unfold vldE
  by_cases hk : kdP (lst m c)
  · rw [if_pos hk, if_pos (show vldP w h t p (lst m c) from ⟨h2, by rw [lst_len]; exact h3, hk⟩)]
  · rw [if_neg hk, if_neg (fun h : vldP w h t p (lst m c) => hk h.2.2)]
theorem vc_sat {w h t p : Int} {m : Nat} {c : Nat → Int} (hm : m ≤ 9223372036854775807) : Sat Tryz.prog (tVc w h t p m c) (· = iv (vldE w h t p (lst m c))) := by
  refine Sat.of_eq (LVc_eq w h t p m c) ⟨?_⟩
  have hE : entA 3 [] [0, 1, 4, 6, 7, 8] [0, 2] 3 .nil (sub [1] (tVc w h t p m c)) = some (invVc m c 0 0) := by kernel_rfl
  unfold LVc
  refine ⟨fun h1 => ?_, fun h1 => ?_⟩
  · simp only [Bool.or_eq_true, Bool.not_eq_true', Bool.and_eq_false_iff, decide_eq_false_iff_not, bne_iff_ne, ne_eq] at h1
    rw [vld_cond (by omega)]; rfl
  · simp only [Bool.or_eq_false_iff, Bool.not_eq_false', Bool.and_eq_true, decide_eq_true_eq, bne_eq_false_iff_eq] at h1
    rw [vld_cond2 (by omega)]
    exact vc_loop hm hE
theorem ve_sat {w h t p : Int} {m : Nat} {c : Nat → Int} (hm : m ≤ 9223372036854775807) : Sat Tryz.prog (tVe w h t p m c) (· = iv (vldE w h t p (lst m c))) := by
  refine Sat.of_eq (LVe_eq w h t p m c) ⟨?_⟩
  have hE : entA 1 [] [1, 2, 3] [] 1 .nil (sub [1] (tVe w h t p m c)) = some (invVe w h t p m c 0 0) := by kernel_rfl
  unfold LVe
  refine ⟨fun h1 => ?_, fun h1 => ?_⟩
  · simp only [Bool.or_eq_true, decide_eq_true_eq, bne_iff_ne, ne_eq] at h1
    rw [vld_cond (by omega)]; rfl
  · simp only [Bool.or_eq_false_iff, decide_eq_false_iff_not, bne_eq_false_iff_eq] at h1
    rw [vld_cond2 (by omega)]
    exact ve_loop hm hE
theorem ri_sat {m : Nat} {c : Nat → Int} {n : Int} (hm : m ≤ 9223372036854775807) : Sat Tryz.prog (tRi m c n) (· = bv (risB (lst m c) n)) := by
  constructor
  rw [LRi_eq]; unfold LRi
  have hl0 : ∀ j : Nat, ∃ l : Int, l = if j = 0 then -1 else c (j - 1) := fun j => ⟨_, rfl⟩
  refine code_satS C0_ok D0_ok (n := 200) (n0 := 0) (nx := 0) (roots := []) (keep := [1, 4, 5, 8, 9, 10]) (drop := []) (h := .nil) (c := codeC (sub [] (tRi m c n))) (st := codeS (sub [] (tRi m c n))) (k := codeK (sub [] (tRi m c n))) (body := bodyRi) (by kernel_rfl) (by kernel_rfl)
    (fun q s => ∃ (j : Nat) (l : Int), q = m - j ∧ j ≤ m ∧ (l = if j = 0 then -1 else c (j - 1)) ∧ (∀ i, i < j → (0 ≤ c i ∧ c i < n) ∧ (0 < i → c (i - 1) < c i)) ∧ s = invRi m c n false l j)
    (fun e s => (e = .exit 0 ∧ risP (lst m c) n ∧ ∃ l j, s = invRi m c n false l j) ∨ (e = .ret ∧ ¬ risP (lst m c) n ∧ ∃ l j, s = invRi m c n false l j))
    ⟨_, _, ⟨0, -1, rfl, by omega, rfl, fun i hi => by omega, rfl⟩, ?_⟩ ?_ ?_
  · exact entA_sound (roots := []) (keep := [1, 4, 5, 8, 9, 10]) (drop := []) (nx := 0) (h := .nil) (by kernel_rfl)
  · rintro q s ⟨j, l, rfl, hj, hl, hn, rfl⟩
    refine Sat.of_eq (BRi_eq m c n false l j) ?_
    constructor; unfold BRi
    simp only [Int.toNat_natCast]
    have hlo : -1 ≤ l := by
      rw [hl]; split
      · omega
      · have := hn (j - 1) (by omega); omega
    refine ⟨fun h1 => ⟨?_, fun h2 => ?_, fun h2 => ?_⟩, fun h1 => ?_⟩
    · simp only [decide_eq_true_eq] at h1; omega
    · simp only [Bool.or_eq_true, decide_eq_true_eq] at h1 h2
      refine ⟨_, .inr ⟨rfl, fun h => ?_, _, _, rfl⟩, Gc.refl _ _⟩
      have := risP_iff.1 h j (by omega)
      rw [hl] at h2
      split at h2 <;> omega
    · simp only [Bool.or_eq_false_iff, decide_eq_true_eq, decide_eq_false_iff_not] at h1 h2
      rw [w64_of (n := (j : Int) + 1) (by omega) (by omega)]
      refine ⟨m - (j + 1), _, by omega, ⟨j + 1, c j, rfl, by omega, by rw [if_neg (by omega), Nat.add_sub_cancel], fun i hi => ?_, rfl⟩, Gc.refl _ _⟩
      by_cases hij : i = j
      · subst hij
        refine ⟨⟨by omega, by omega⟩, fun h0 => ?_⟩
        rw [if_neg (by omega)] at hl
        omega
      · exact hn i (by omega)
    · simp only [decide_eq_false_iff_not] at h1
      obtain rfl : j = m := by omega
      exact ⟨_, .inl ⟨rfl, risP_iff.2 hn, _, _, rfl⟩, Gc.refl _ _⟩
  · rintro e s (⟨rfl, hn, l, j, rfl⟩ | ⟨rfl, hn, l, j, rfl⟩)
    · refine Sat.of_eq (KRi_eq m c n _ l j) ⟨?_⟩
      show bv true = _
      unfold risB
      rw [decide_eq_true hn]
    · refine Sat.of_eq (QRi_eq m c n _ l j) ⟨?_⟩
      show bv false = _
      unfold risB
      rw [decide_eq_false hn]
theorem r2_sat {m : Nat} {c : Nat → Int} {n : Int} (hm : m ≤ 9223372036854775807) : Sat Tryz.prog (tR2 m c n) (· = bv (risB (lst m c) n)) := by
  constructor
  rw [LR2_eq]; unfold LR2
  refine code_satS C0_ok D0_ok (n := 200) (n0 := 0) (nx := 0) (roots := []) (keep := [0, 1, 4, 5]) (drop := []) (h := .nil) (c := codeC (sub [] (tR2 m c n))) (st := codeS (sub [] (tR2 m c n))) (k := codeK (sub [] (tR2 m c n))) (body := bodyR2) (by kernel_rfl) (by kernel_rfl)
    (fun q s => ∃ (j : Nat), q = m - j ∧ j ≤ m ∧ (∀ i, i < j → (0 ≤ c i ∧ c i < n) ∧ (0 < i → c (i - 1) < c i)) ∧ s = invR2 m c n false j)
    (fun e s => (e = .exit 0 ∧ risP (lst m c) n ∧ ∃ j, s = invR2 m c n false j) ∨ (e = .ret ∧ ¬ risP (lst m c) n ∧ ∃ j, s = invR2 m c n false j))
    ⟨_, _, ⟨0, rfl, by omega, fun i hi => by omega, rfl⟩, ?_⟩ ?_ ?_
  · exact entA_sound (roots := []) (keep := [0, 1, 4, 5]) (drop := []) (nx := 0) (h := .nil) (by kernel_rfl)
  · rintro q s ⟨j, rfl, hj, hn, rfl⟩
    refine Sat.of_eq (BR2_eq m c n false j) ?_
    constructor; unfold BR2
    refine ⟨fun h1 => ?_, fun h1 => ?_⟩
    · simp only [decide_eq_true_eq] at h1
      have e3 : BR2_q3 (j : Int) = decide (0 < j) := by unfold BR2_q3; rw [decide_eq_decide]; omega
      have ej : 0 < j → (w64 ((j : Int) - 1)).toNat = j - 1 := fun h => by rw [w64_of (by omega) (by omega)]; omega
      have e4 : (BR2_q2 c n (j : Int) || BR2_q3 (j : Int) && decide (c (w64 ((j : Int) - 1)).toNat ≥ c (j : Int).toNat)) = decide (¬ ((0 ≤ c j ∧ c j < n) ∧ (0 < j → c (j - 1) < c j))) := by
        rw [e3]
        unfold BR2_q2 BR2_q1
        rw [Int.toNat_natCast, Bool.eq_iff_iff]
        simp only [Bool.or_eq_true, Bool.and_eq_true, decide_eq_true_eq]
        by_cases h0 : 0 < j
        · rw [ej h0]; omega
        · omega
      rw [e4, e3]
      refine ⟨by omega, fun _ => by omega, fun h2 => ?_, fun h2 => by omega, fun h2 => ?_, fun h2 => ?_⟩
      · have h0 := of_decide_eq_true h2.2
        rw [w64_of (by omega) (by omega)]; omega
      · simp only [decide_eq_true_eq] at h2
        exact ⟨_, .inr ⟨rfl, fun h => h2 (risP_iff.1 h j (by omega)), _, rfl⟩, Gc.refl _ _⟩
      · simp only [decide_eq_false_iff_not, Decidable.not_not] at h2
        rw [w64_of (n := (j : Int) + 1) (by omega) (by omega)]
        refine ⟨m - (j + 1), _, by omega, ⟨j + 1, rfl, by omega, fun i hi => ?_, rfl⟩, Gc.refl _ _⟩
        by_cases hij : i = j
        · subst hij; exact h2
        · exact hn i (by omega)
    · simp only [decide_eq_false_iff_not] at h1
      obtain rfl : j = m := by omega
      exact ⟨_, .inl ⟨rfl, risP_iff.2 hn, _, rfl⟩, Gc.refl _ _⟩
  · rintro e s (⟨rfl, hn, j, rfl⟩ | ⟨rfl, hn, j, rfl⟩)
    · refine Sat.of_eq (KR2_eq m c n _ j) ⟨?_⟩
      show bv true = _
      unfold risB
      rw [decide_eq_true hn]
    · refine Sat.of_eq (QR2_eq m c n _ j) ⟨?_⟩
      show bv false = _
      unfold risB
      rw [decide_eq_false hn]
theorem grid_leI {w h t p : Int} {m : Nat} {c : Nat → Nat → DV} (hc : IntRow m c) : leSVs 0 [] [] [.agg [iv w, iv h, iv t, iv p, .d (.ro m 1 c)]] [gridV w h t p (ro64 m fun i => intCell (c i 0))] := by
  unfold gridV ro64 iv
  simp only [leSVs, leSV, leD, and_true, true_and]
  intro i j hi hj
  obtain rfl : j = 0 := by omega
  exact hc i hi
noncomputable def cVa : Ctr := fun ss => match ss with
  | [.agg [.d (.x (.int .i64 w)), .d (.x (.int .i64 h)), .d (.x (.int .i64 t)), .d (.x (.int .i64 p)), .d (.ro m 1 c)]] => .need (RowOK m c) (.ret (iv (vldE w h t p (lsOf m c))))
  | _ => .fail
theorem cVa_ok : CtrOK Tryz.prog 23 cVa := by
  refine ctrOK_leS CQ_ok DQ_ok (by kernel_rfl) (by kernel_rfl) fun ss r hr => ?_
  unfold cVa at hr
  split at hr
  · rename_i w h t p m c
    obtain ⟨⟨h1, h2⟩, rfl⟩ := hr
    have k0 := vc_sat (w := w) (h := h) (t := t) (p := p) (c := fun i => intCell (c i 0)) h1
    exact ⟨_, 200, .nil, grid_leI h2, k0⟩
  · exact hr.elim
theorem cVe_ok : CtrOK Tryz.prog 24 cVa := by
  refine ctrOK_leS C0_ok D0_ok (by kernel_rfl) (by kernel_rfl) fun ss r hr => ?_
  unfold cVa at hr
  split at hr
  · rename_i w h t p m c
    obtain ⟨⟨h1, h2⟩, rfl⟩ := hr
    have k0 := ve_sat (w := w) (h := h) (t := t) (p := p) (c := fun i => intCell (c i 0)) h1
    exact ⟨_, 200, .nil, grid_leI h2, k0⟩
  · exact hr.elim
noncomputable def cRs : Ctr := fun ss => match ss with
  | [.d (.ro m 1 f), .d (.x (.int .i64 n))] => .need (RowOK m f) (.ret (bv (risB (lsOf m f) n)))
  | _ => .fail
theorem row_leI {m : Nat} {f : Nat → Nat → DV} {n : Int} (hf : IntRow m f) : leSVs 0 [] [] [.d (.ro m 1 f), iv n] [ro64 m fun i => intCell (f i 0), iv n] := by
  refine ⟨⟨rfl, rfl, fun i j hi hj => ?_⟩, rfl, by simp only [leSVs]⟩
  obtain rfl : j = 0 := by omega
  exact hf i hi
theorem cRi_ok : CtrOK Tryz.prog 50 cRs := by
  refine ctrOK_leS C0_ok D0_ok (by kernel_rfl) (by kernel_rfl) fun ss r hr => ?_
  unfold cRs at hr
  split at hr
  · rename_i m f n
    obtain ⟨⟨h1, h2⟩, rfl⟩ := hr
    have k0 := ri_sat (c := fun i => intCell (f i 0)) (n := n) h1
    exact ⟨_, 200, .nil, row_leI h2, k0⟩
  · exact hr.elim
theorem cR2_ok : CtrOK Tryz.prog 77 cRs := by
  refine ctrOK_leS C0_ok D0_ok (by kernel_rfl) (by kernel_rfl) fun ss r hr => ?_
  unfold cRs at hr
  split at hr
  · rename_i m f n
    obtain ⟨⟨h1, h2⟩, rfl⟩ := hr
    have k0 := r2_sat (c := fun i => intCell (f i 0)) (n := n) h1
    exact ⟨_, 200, .nil, row_leI h2, k0⟩
  · exact hr.elim
end Go.Proofs.YtgahnelicbddcaaGreatDoor

namespace Go.Sx
def ivD (L : List Int) : DV := .ro L.length 1 fun i _ => .x (.int .i64 (L.getD i 0))
def bdL (S : List (List Int × List Int)) (i j : Nat) : List Int := if j = 0 then (S.getD i ([], [])).1 else (S.getD i ([], [])).2
def badC (S : List (List Int × List Int)) : Nat → Nat → DV := fun i j => ivD (bdL S i j)
end Go.Sx
namespace Go.Proofs.YtgahnelicbddcaaGreatDoor
open Go.Sx
noncomputable def chS (w h t p : Int) (K : List Int) (S : List (List Int × List Int)) : SV := .agg [iv w, iv h, iv t, iv p, ivL K, .d (.ro S.length 2 (badC S))]
end Go.Proofs.YtgahnelicbddcaaGreatDoor

namespace Go.Proofs.YtgahnelicbddcaaGreatDoor
open Go.Sx
set_option maxRecDepth 100000
noncomputable def manV : FuncId → Option Ctr := fun k => match k with
  | 23 => some cVa
  | 24 => some cVa
  | 50 => some cRs
  | 77 => some cRs
  | 11 => some cCt
  | 25 => some cCt
  | _ => none
theorem manV_ok (k : Nat) (c : Ctr) (h : manV k = some c) : CtrOK Tryz.prog k c ∧ goodF Tryz.prog k = true := by
  unfold manV at h
  split at h
  · cases h; exact ⟨cVa_ok, by kernel_rfl⟩
  · cases h; exact ⟨cVe_ok, by kernel_rfl⟩
  · cases h; exact ⟨cRi_ok, by kernel_rfl⟩
  · cases h; exact ⟨cR2_ok, by kernel_rfl⟩
  · cases h; exact ⟨cCt_ok.1, by kernel_rfl⟩
  · cases h; exact ⟨cCt_ok.2, by kernel_rfl⟩
  · cases h
noncomputable def CV : Ctx := ctxN Tryz.prog manV (fun _ => false) 200 .nil 8
theorem CV_ok : CtxOK Tryz.prog CV := ctxN_ok mixed manV_ok 8
noncomputable def DV' : Dr := fun _ => drawn Tryz.prog CV
theorem DV_ok : DrOK Tryz.prog CV DV' := drawn_ok CV_ok mixed
noncomputable def TV' (h : Hint) (k : Nat) (args : List SV) : Tree SV := fnT Tryz.prog CV DV' 200 (fnOf Tryz.prog k) (bodyOf Tryz.prog k) args h
noncomputable def tVb (w h t p : Int) (m : Nat) (c : Nat → Nat → DV) (n0 : Nat) (c0 : Nat → Int) (n1 : Nat) (c1 : Nat → Int) : Tree SV := TV' .nil 49 [gridV w h t p (.d (.ro m 1 c)), .agg [ro64 n0 c0, ro64 n1 c1]]
noncomputable def LVb_q1 (c0 : Nat → Int) (i : Nat) (x : Nat) : DV :=
  DV.x (.int .i64 (c0 i))
noncomputable def LVb_q2 (w : Int) (h : Int) (n0 : Nat) (c0 : Nat → Int) : Bool :=
  risB (lsOf n0 (LVb_q1 c0)) (w64 (w * h))
noncomputable def LVb_q3 (c1 : Nat → Int) (i : Nat) (x : Nat) : DV :=
  DV.x (.int .i64 (c1 i))
noncomputable def LVb (w h t p : Int) (m : Nat) (c : Nat → Nat → DV) (n0 : Nat) (c0 : Nat → Int) (n1 : Nat) (c1 : Nat → Int) : Tree SV :=
  .need (RowOK n0 (LVb_q1 c0))
  (.need (LVb_q2 w h n0 c0 = true → okG w h t p)
   (.need (LVb_q2 w h n0 c0 = true → RowOK n1 (LVb_q3 c1)) (.ret (bv (LVb_q2 w h n0 c0 && risB (lsOf n1 (LVb_q3 c1)) (gN w h t p))))))

theorem LVb_eq (w h t p : Int) (m : Nat) (c : Nat → Nat → DV) (n0 : Nat) (c0 : Nat → Int) (n1 : Nat) (c1 : Nat → Int) : tVb w h t p m c n0 c0 n1 c1 = LVb w h t p m c n0 c0 n1 c1 := by kernel_rfl


end Go.Proofs.YtgahnelicbddcaaGreatDoor

namespace Go.Proofs.YtgahnelicbddcaaGreatDoor
open Go.Sx
set_option maxRecDepth 100000
def _root_.Go.Sx.bdB (w h t p : Int) (T N : List Int) : Bool := risB T (w * h) && risB N (gN w h t p)
theorem vb_sat {w h t p : Int} {m : Nat} {c : Nat → Nat → DV} {n0 : Nat} {c0 : Nat → Int} {n1 : Nat} {c1 : Nat → Int} (hg : okG w h t p) (h0 : n0 ≤ 9223372036854775807) (h1 : n1 ≤ 9223372036854775807) : Sat Tryz.prog (tVb w h t p m c n0 c0 n1 c1) (· = bv (bdB w h t p (lst n0 c0) (lst n1 c1))) := by
  refine Sat.of_eq (LVb_eq w h t p m c n0 c0 n1 c1) ⟨?_⟩
  unfold LVb
  have e : w64 (w * h) = w * h := (wr hg).wh
  refine ⟨⟨h0, fun i hi => rfl⟩, fun _ => hg, fun _ => ⟨h1, fun i hi => rfl⟩, ?_⟩
  show bv _ = bv _
  unfold LVb_q2
  rw [e]; rfl
noncomputable def cVb : Ctr := fun ss => match ss with
  | [.agg [.d (.x (.int .i64 w)), .d (.x (.int .i64 h)), .d (.x (.int .i64 t)), .d (.x (.int .i64 p)), .d (.ro m 1 c)], .agg [.d (.ro n0 1 f0), .d (.ro n1 1 f1)]] => .need (okG w h t p ∧ RowOK n0 f0 ∧ RowOK n1 f1) (.ret (bv (bdB w h t p (lsOf n0 f0) (lsOf n1 f1))))
  | _ => .fail
theorem cVb_ok : CtrOK Tryz.prog 49 cVb := by
  refine ctrOK_leS CV_ok DV_ok (by kernel_rfl) (by kernel_rfl) fun ss r hr => ?_
  unfold cVb at hr
  split at hr
  · rename_i w h t p m c n0 f0 n1 f1
    obtain ⟨⟨h1, ⟨h2, h3⟩, h4, h5⟩, rfl⟩ := hr
    have k0 := vb_sat (m := m) (c := c) (c0 := fun i => intCell (f0 i 0)) (c1 := fun i => intCell (f1 i 0)) h1 h2 h4
    refine ⟨_, 200, .nil, ?_, k0⟩
    unfold gridV ro64 iv
    simp only [leSVs, leSV, leD, and_true, true_and]
    refine ⟨fun i j hi hj => trivial, fun i j hi hj => ?_, fun i j hi hj => ?_⟩
    · obtain rfl : j = 0 := by omega
      exact h3 i hi
    · obtain rfl : j = 0 := by omega
      exact h5 i hi
  · exact hr.elim
noncomputable def tIn (m : Nat) (c : Nat → Int) (n : Nat) (d : Nat → Int) : Tree SV := T0 .nil 28 [ro64 m c, ro64 n d]
noncomputable def LIn (m : Nat) (c : Nat → Int) (n : Nat) (d : Nat → Int) : Tree SV :=
  .ite ((↑m : Int) != (↑n : Int)) (.ret (bv false)) (.code (codeC (sub [(1 : Nat)] (tIn m c n d))) (codeS (sub [(1 : Nat)] (tIn m c n d))) (codeK (sub [(1 : Nat)] (tIn m c n d))))

theorem LIn_eq (m : Nat) (c : Nat → Int) (n : Nat) (d : Nat → Int) : tIn m c n d = LIn m c n d := by kernel_rfl


end Go.Proofs.YtgahnelicbddcaaGreatDoor

namespace Go.Proofs.YtgahnelicbddcaaGreatDoor
open Go.Sx
set_option maxRecDepth 100000
noncomputable def invIn (m : Nat) (c : Nat → Int) (n : Nat) (d : Nat → Int) (r : Bool) (z : Int) : AS := ⟨[.ok (ro64 m c), .ok (ro64 n d), .unk, .unk, .ok (bv r), .ok (iv z)] ++ List.replicate 20 .unk, [], 0, .nil⟩
noncomputable def bodyIn : Code := loopN (bodyOf Tryz.prog 28) 0
noncomputable def BIn_q1 (c : Nat → Int) (i : Nat) (x : Nat) : DV :=
  DV.x (.int .i64 (c i))
noncomputable def BIn_q2 (d : Nat → Int) (i : Nat) (x : Nat) : DV :=
  DV.x (.int .i64 (d i))
noncomputable def BIn (m : Nat) (c : Nat → Int) (n : Nat) (d : Nat → Int) (r : Bool) (z : Int) : Tree (Ex × AS) :=
  .ite (decide (z < (↑m : Int)))
  (.need ((0 : Int) ≤ z ∧ z < (↑m : Int))
   (.need ((0 : Int) ≤ z ∧ z < (↑n : Int))
   (.ite (c (Int.toNat z) != d (Int.toNat z))
   (.ret
   (.ret,
   {
   tm :=
   [.ok (SV.d (DV.ro m 1 (BIn_q1 c))), .ok (SV.d (DV.ro n 1 (BIn_q2 d))), .unk, .unk, .ok (bv false), .ok (iv z), .unk, .unk, .unk, .unk, .unk, .unk, .unk,
   .unk, .unk, .unk, .unk, .unk, .unk, .unk, .unk, .unk, .unk, .unk, .unk, .unk],
   hp := [], next := 0, hint := .nil }))
   (.ret
   (.normal,
   {
   tm :=
   [.ok (SV.d (DV.ro m 1 (BIn_q1 c))), .ok (SV.d (DV.ro n 1 (BIn_q2 d))), .unk, .unk, .ok (bv r), .ok (iv (w64 (z + (1 : Int)))), .unk, .unk, .unk, .unk, .unk,
   .unk, .unk, .unk, .unk, .unk, .unk, .unk, .unk, .unk, .unk, .unk, .unk, .unk, .unk, .unk],
   hp := [], next := 0, hint := .nil })))))
  (.ret
   (.exit 0,
   {
   tm :=
   [.ok (SV.d (DV.ro m 1 (BIn_q1 c))), .ok (SV.d (DV.ro n 1 (BIn_q2 d))), .unk, .unk, .ok (bv r), .ok (iv z), .unk, .unk, .unk, .unk, .unk, .unk, .unk, .unk,
   .unk, .unk, .unk, .unk, .unk, .unk, .unk, .unk, .unk, .unk, .unk, .unk],
   hp := [], next := 0, hint := .nil }))

theorem BIn_eq (m : Nat) (c : Nat → Int) (n : Nat) (d : Nat → Int) (r : Bool) (z : Int) : cutT 0 [] [0, 1, 4, 5] [] 0 .nil (exec Tryz.prog C0 D0 200 bodyIn (invIn m c n d r z)) = BIn m c n d r z := by kernel_rfl

noncomputable def KIn (m : Nat) (c : Nat → Int) (n : Nat) (d : Nat → Int) (r : Bool) (z : Int) : Tree SV :=
  .ret (bv true)

theorem KIn_eq (m : Nat) (c : Nat → Int) (n : Nat) (d : Nat → Int) (r : Bool) (z : Int) : codeK (sub [1] (tIn m c n d)) (.exit 0) (invIn m c n d r z) = KIn m c n d r z := by kernel_rfl

noncomputable def QIn (m : Nat) (c : Nat → Int) (n : Nat) (d : Nat → Int) (r : Bool) (z : Int) : Tree SV :=
  .ret (bv r)

theorem QIn_eq (m : Nat) (c : Nat → Int) (n : Nat) (d : Nat → Int) (r : Bool) (z : Int) : codeK (sub [1] (tIn m c n d)) .ret (invIn m c n d r z) = QIn m c n d r z := by kernel_rfl


end Go.Proofs.YtgahnelicbddcaaGreatDoor

namespace Go.Sx
def eqI (m : Nat) (f : Nat → Nat → DV) (n : Nat) (g : Nat → Nat → DV) : Bool := decide (lsOf m f = lsOf n g)
end Go.Sx
namespace Go.Proofs.YtgahnelicbddcaaGreatDoor
open Go.Sx
set_option maxRecDepth 100000
theorem lst_eq {m n : Nat} {c d : Nat → Int} : lst m c = lst n d ↔ m = n ∧ ∀ i, i < m → c i = d i := by
  constructor
  · intro h
    have hl : m = n := by have := congrArg List.length h; rw [lst_len, lst_len] at this; exact this
    refine ⟨hl, fun i hi => ?_⟩
    have : (lst m c).getD i 0 = (lst n d).getD i 0 := by rw [h]
    rw [lst_get hi, lst_get (by omega)] at this; exact this
  · rintro ⟨rfl, h⟩
    exact List.map_congr_left fun i hi => h i (List.mem_range.1 hi)
theorem in_sat {m n : Nat} {c d : Nat → Int} (hm : m ≤ 9223372036854775807) : Sat Tryz.prog (tIn m c n d) (· = bv (decide (lst m c = lst n d))) := by
  refine Sat.of_eq (LIn_eq m c n d) ⟨?_⟩
  have hE : entA 0 [] [0, 1, 4, 5] [] 0 .nil (sub [1] (tIn m c n d)) = some (invIn m c n d false 0) := by kernel_rfl
  unfold LIn
  refine ⟨fun h1 => ?_, fun h1 => ?_⟩
  · simp only [bne_iff_ne, ne_eq] at h1
    rw [decide_eq_false (fun h => h1 (by rw [(lst_eq.1 h).1]))]; rfl
  simp only [bne_eq_false_iff_eq] at h1
  have hmn : m = n := by omega
  subst hmn
  refine code_satS C0_ok D0_ok (n := 200) (n0 := 0) (nx := 0) (roots := []) (keep := [0, 1, 4, 5]) (drop := []) (h := .nil) (body := bodyIn) (by kernel_rfl) (by kernel_rfl)
    (fun q s => ∃ j : Nat, q = m - j ∧ j ≤ m ∧ (∀ i, i < j → c i = d i) ∧ s = invIn m c m d false j)
    (fun e s => (e = .exit 0 ∧ lst m c = lst m d ∧ ∃ j, s = invIn m c m d false j) ∨ (e = .ret ∧ ¬ lst m c = lst m d ∧ ∃ j, s = invIn m c m d false j))
    ⟨_, _, ⟨0, rfl, by omega, fun i hi => by omega, rfl⟩, entA_sound hE⟩ ?_ ?_
  · rintro q s ⟨j, rfl, hj, hn, rfl⟩
    refine Sat.of_eq (BIn_eq m c m d false j) ?_
    constructor; unfold BIn
    simp only [Int.toNat_natCast]
    refine ⟨fun h1 => ?_, fun h1 => ?_⟩
    · simp only [decide_eq_true_eq] at h1
      refine ⟨by omega, by omega, fun h2 => ?_, fun h2 => ?_⟩
      · simp only [bne_iff_ne, ne_eq] at h2
        exact ⟨_, .inr ⟨rfl, fun h => h2 ((lst_eq.1 h).2 j (by omega)), _, rfl⟩, Gc.refl _ _⟩
      · simp only [bne_eq_false_iff_eq] at h2
        rw [w64_of (n := (j : Int) + 1) (by omega) (by omega)]
        refine ⟨m - (j + 1), _, by omega, ⟨j + 1, rfl, by omega, fun i hi => ?_, rfl⟩, Gc.refl _ _⟩
        by_cases hij : i = j
        · subst hij; exact h2
        · exact hn i (by omega)
    · simp only [decide_eq_false_iff_not] at h1
      obtain rfl : j = m := by omega
      exact ⟨_, .inl ⟨rfl, lst_eq.2 ⟨rfl, hn⟩, _, rfl⟩, Gc.refl _ _⟩
  · rintro e s (⟨rfl, hn, j, rfl⟩ | ⟨rfl, hn, j, rfl⟩)
    · refine Sat.of_eq (KIn_eq m c m d _ j) ⟨?_⟩
      rw [decide_eq_true hn]; rfl
    · refine Sat.of_eq (QIn_eq m c m d _ j) ⟨?_⟩
      rw [decide_eq_false hn]; rfl
noncomputable def cIn2 : Ctr := fun ss => match ss with
  | [.d (.ro m 1 f), .d (.ro n 1 g)] => .need (RowOK m f ∧ RowOK n g) (.ret (bv (eqI m f n g)))
  | _ => .fail
theorem cIn2_ok : CtrOK Tryz.prog 28 cIn2 := by
  refine ctrOK_leS C0_ok D0_ok (by kernel_rfl) (by kernel_rfl) fun ss r hr => ?_
  unfold cIn2 at hr
  split at hr
  · rename_i m f n g
    obtain ⟨⟨⟨h1, h2⟩, h3, h4⟩, rfl⟩ := hr
    have k0 := in_sat (n := n) (c := fun i => intCell (f i 0)) (d := fun i => intCell (g i 0)) h1
    refine ⟨_, 200, .nil, ?_, k0⟩
    refine ⟨⟨rfl, rfl, fun i j hi hj => ?_⟩, ⟨rfl, rfl, fun i j hi hj => ?_⟩, by simp only [leSVs]⟩
    · obtain rfl : j = 0 := by omega
      exact h2 i hi
    · obtain rfl : j = 0 := by omega
      exact h4 i hi
  · exact hr.elim
end Go.Proofs.YtgahnelicbddcaaGreatDoor

namespace Go.Proofs.YtgahnelicbddcaaGreatDoor
open Go.Sx
set_option maxRecDepth 100000
noncomputable def manS : FuncId → Option Ctr := fun k => match k with
  | 28 => some cIn2
  | _ => none
theorem manS_ok (k : Nat) (c : Ctr) (h : manS k = some c) : CtrOK Tryz.prog k c ∧ goodF Tryz.prog k = true := by
  unfold manS at h
  split at h
  · cases h; exact ⟨cIn2_ok, by kernel_rfl⟩
  · cases h
noncomputable def CS : Ctx := ctxN Tryz.prog manS (fun _ => false) 200 .nil 8
theorem CS_ok : CtxOK Tryz.prog CS := ctxN_ok mixed manS_ok 8
noncomputable def DS : Dr := fun _ => drawn Tryz.prog CS
theorem DS_ok : DrOK Tryz.prog CS DS := drawn_ok CS_ok mixed
noncomputable def TS (h : Hint) (k : Nat) (args : List SV) : Tree SV := fnT Tryz.prog CS DS 200 (fnOf Tryz.prog k) (bodyOf Tryz.prog k) args h
noncomputable def LSg_q1 (w : Int) (h : Int) (t : Int) (p : Int) (w2 : Int) (h2 : Int) (t2 : Int) (p2 : Int) : Bool :=
  w == w2 && h == h2 && t == t2 && p == p2
noncomputable def LSg (w h t p : Int) (m : Nat) (f : Nat → Nat → DV) (w2 h2 t2 p2 : Int) (n : Nat) (g : Nat → Nat → DV) : Tree SV :=
  .need (LSg_q1 w h t p w2 h2 t2 p2 = true → RowOK m f ∧ RowOK n g) (.ret (bv (LSg_q1 w h t p w2 h2 t2 p2 && eqI m f n g)))

theorem LSg_eq (w h t p : Int) (m : Nat) (f : Nat → Nat → DV) (w2 h2 t2 p2 : Int) (n : Nat) (g : Nat → Nat → DV) : TS .nil 47 [gridV w h t p (.d (.ro m 1 f)), gridV w2 h2 t2 p2 (.d (.ro n 1 g))] = LSg w h t p m f w2 h2 t2 p2 n g := by kernel_rfl

noncomputable def LSb (m0 : Nat) (f0 : Nat → Nat → DV) (m1 : Nat) (f1 : Nat → Nat → DV) (n0 : Nat) (g0 : Nat → Nat → DV) (n1 : Nat) (g1 : Nat → Nat → DV) : Tree SV :=
  .need (RowOK m0 f0 ∧ RowOK n0 g0) (.need (eqI m0 f0 n0 g0 = true → RowOK m1 f1 ∧ RowOK n1 g1) (.ret (bv (eqI m0 f0 n0 g0 && eqI m1 f1 n1 g1))))

theorem LSb_eq (m0 : Nat) (f0 : Nat → Nat → DV) (m1 : Nat) (f1 : Nat → Nat → DV) (n0 : Nat) (g0 : Nat → Nat → DV) (n1 : Nat) (g1 : Nat → Nat → DV) : TS .nil 48 [.agg [.d (.ro m0 1 f0), .d (.ro m1 1 f1)], .agg [.d (.ro n0 1 g0), .d (.ro n1 1 g1)]] = LSb m0 f0 m1 f1 n0 g0 n1 g1 := by kernel_rfl


end Go.Proofs.YtgahnelicbddcaaGreatDoor

namespace Go.Proofs.YtgahnelicbddcaaGreatDoor
open Go.Sx
set_option maxRecDepth 100000
def _root_.Go.Sx.sgB (w h t p : Int) (m : Nat) (f : Nat → Nat → DV) (w2 h2 t2 p2 : Int) (n : Nat) (g : Nat → Nat → DV) : Bool := (w == w2 && h == h2 && t == t2 && p == p2) && eqI m f n g
def _root_.Go.Sx.sbB (m0 : Nat) (f0 : Nat → Nat → DV) (m1 : Nat) (f1 : Nat → Nat → DV) (n0 : Nat) (g0 : Nat → Nat → DV) (n1 : Nat) (g1 : Nat → Nat → DV) : Bool := eqI m0 f0 n0 g0 && eqI m1 f1 n1 g1
noncomputable def cSg : Ctr := fun ss => match ss with
  | [.agg [.d (.x (.int .i64 w)), .d (.x (.int .i64 h)), .d (.x (.int .i64 t)), .d (.x (.int .i64 p)), .d (.ro m 1 f)], .agg [.d (.x (.int .i64 w2)), .d (.x (.int .i64 h2)), .d (.x (.int .i64 t2)), .d (.x (.int .i64 p2)), .d (.ro n 1 g)]] => .need (RowOK m f ∧ RowOK n g) (.ret (bv (sgB w h t p m f w2 h2 t2 p2 n g)))
  | _ => .fail
noncomputable def cSb : Ctr := fun ss => match ss with
  | [.agg [.d (.ro m0 1 f0), .d (.ro m1 1 f1)], .agg [.d (.ro n0 1 g0), .d (.ro n1 1 g1)]] => .need (RowOK m0 f0 ∧ RowOK m1 f1 ∧ RowOK n0 g0 ∧ RowOK n1 g1) (.ret (bv (sbB m0 f0 m1 f1 n0 g0 n1 g1)))
  | _ => .fail
theorem sg_sat {w h t p : Int} {m : Nat} {f : Nat → Nat → DV} {w2 h2 t2 p2 : Int} {n : Nat} {g : Nat → Nat → DV} (h1 : RowOK m f) (h2' : RowOK n g) : Sat Tryz.prog (TS .nil 47 [gridV w h t p (.d (.ro m 1 f)), gridV w2 h2 t2 p2 (.d (.ro n 1 g))]) (· = bv (sgB w h t p m f w2 h2 t2 p2 n g)) :=
  Sat.of_eq (LSg_eq w h t p m f w2 h2 t2 p2 n g) ⟨⟨fun _ => ⟨h1, h2'⟩, rfl⟩⟩
theorem sb_sat {m0 : Nat} {f0 : Nat → Nat → DV} {m1 : Nat} {f1 : Nat → Nat → DV} {n0 : Nat} {g0 : Nat → Nat → DV} {n1 : Nat} {g1 : Nat → Nat → DV} (h1 : RowOK m0 f0) (h2 : RowOK m1 f1) (h3 : RowOK n0 g0) (h4 : RowOK n1 g1) : Sat Tryz.prog (TS .nil 48 [.agg [.d (.ro m0 1 f0), .d (.ro m1 1 f1)], .agg [.d (.ro n0 1 g0), .d (.ro n1 1 g1)]]) (· = bv (sbB m0 f0 m1 f1 n0 g0 n1 g1)) :=
  Sat.of_eq (LSb_eq m0 f0 m1 f1 n0 g0 n1 g1) ⟨⟨⟨h1, h3⟩, fun _ => ⟨h2, h4⟩, rfl⟩⟩
theorem cSg_ok : CtrOK Tryz.prog 47 cSg := by
  refine ctrOK_leS CS_ok DS_ok (by kernel_rfl) (by kernel_rfl) fun ss r hr => ?_
  unfold cSg at hr
  split at hr
  · rename_i w h t p m f w2 h2 t2 p2 n g
    obtain ⟨⟨h1, h3⟩, rfl⟩ := hr
    have k0 := sg_sat (w := w) (h := h) (t := t) (p := p) (w2 := w2) (h2 := h2) (t2 := t2) (p2 := p2) h1 h3
    refine ⟨_, 200, .nil, ?_, k0⟩
    unfold gridV iv
    simp only [leSVs, leSV, leD, and_true, true_and]
    exact ⟨fun i j hi hj => trivial, fun i j hi hj => trivial⟩
  · exact hr.elim
theorem cSb_ok : CtrOK Tryz.prog 48 cSb := by
  refine ctrOK_leS CS_ok DS_ok (by kernel_rfl) (by kernel_rfl) fun ss r hr => ?_
  unfold cSb at hr
  split at hr
  · obtain ⟨⟨h1, h2, h3, h4⟩, rfl⟩ := hr
    have k0 := sb_sat h1 h2 h3 h4
    refine ⟨_, 200, .nil, ?_, k0⟩
    simp only [leSVs, leSV, leD, and_true, true_and]
    exact ⟨⟨fun i j hi hj => trivial, fun i j hi hj => trivial⟩, fun i j hi hj => trivial, fun i j hi hj => trivial⟩
  · exact hr.elim
noncomputable def manW : FuncId → Option Ctr := fun k => match k with
  | 49 => some cVb
  | 28 => some cIn2
  | 47 => some cSg
  | 48 => some cSb
  | k => manV k
theorem manW_ok (k : Nat) (c : Ctr) (h : manW k = some c) : CtrOK Tryz.prog k c ∧ goodF Tryz.prog k = true := by
  unfold manW at h
  split at h
  · cases h; exact ⟨cVb_ok, by kernel_rfl⟩
  · cases h; exact ⟨cIn2_ok, by kernel_rfl⟩
  · cases h; exact ⟨cSg_ok, by kernel_rfl⟩
  · cases h; exact ⟨cSb_ok, by kernel_rfl⟩
  · exact manV_ok _ _ h
noncomputable def CW : Ctx := ctxN Tryz.prog manW (fun _ => false) 200 .nil 8
theorem CW_ok : CtxOK Tryz.prog CW := ctxN_ok mixed manW_ok 8
noncomputable def DW : Dr := fun _ => drawn Tryz.prog CW
theorem DW_ok : DrOK Tryz.prog CW DW := drawn_ok CW_ok mixed
noncomputable def TW (h : Hint) (k : Nat) (args : List SV) : Tree SV := fnT Tryz.prog CW DW 200 (fnOf Tryz.prog k) (bodyOf Tryz.prog k) args h
noncomputable def tVh (w h t p : Int) (K : List Int) (S : List (List Int × List Int)) : Tree SV := TW .nil 20 [chS w h t p K S]
noncomputable def tVi (w h t p : Int) (K : List Int) (S : List (List Int × List Int)) : Tree SV := TW .nil 19 [chS w h t p K S]
noncomputable def LVh_q1 (K : List Int) (i : Nat) (x : Nat) : DV :=
  DV.x (.int .i64 (List.getD K i (0 : Int)))
noncomputable def LVh (w h t p : Int) (K : List Int) (S : List (List Int × List Int)) : Tree SV :=
  .need (RowOK (List.length K) (LVh_q1 K))
  (.ite (vldE w h t p (lsOf (List.length K) (LVh_q1 K)) != (0 : Int) || decide ((↑(List.length S) : Int) < (1 : Int)) || decide ((↑(List.length S) : Int) > (16 : Int))) (.ret (iv (280 : Int)))
   (.code (codeC (sub [(0 : Nat), (1 : Nat)] (tVh w h t p K S))) (codeS (sub [(0 : Nat), (1 : Nat)] (tVh w h t p K S))) (codeK (sub [(0 : Nat), (1 : Nat)] (tVh w h t p K S)))))

theorem LVh_eq (w h t p : Int) (K : List Int) (S : List (List Int × List Int)) : tVh w h t p K S = LVh w h t p K S := by kernel_rfl

noncomputable def LVi_q1 (K : List Int) (i : Nat) (x : Nat) : DV :=
  DV.x (.int .i64 (List.getD K i (0 : Int)))
noncomputable def LVi (w h t p : Int) (K : List Int) (S : List (List Int × List Int)) : Tree SV :=
  .need (RowOK (List.length K) (LVi_q1 K))
  (.ite (vldE w h t p (lsOf (List.length K) (LVi_q1 K)) != (0 : Int) || decide ((↑(List.length S) : Int) < (1 : Int)) || decide ((↑(List.length S) : Int) > (16 : Int))) (.ret (iv (280 : Int)))
   (.code (codeC (sub [(0 : Nat), (1 : Nat)] (tVi w h t p K S))) (codeS (sub [(0 : Nat), (1 : Nat)] (tVi w h t p K S))) (codeK (sub [(0 : Nat), (1 : Nat)] (tVi w h t p K S)))))

theorem LVi_eq (w h t p : Int) (K : List Int) (S : List (List Int × List Int)) : tVi w h t p K S = LVi w h t p K S := by kernel_rfl

noncomputable def invVh (w h t p : Int) (K : List Int) (S : List (List Int × List Int)) (r z : Int) : AS := ⟨[.unk, .ok (.ptr 0 0), .ok (iv r)] ++ List.replicate 19 .unk ++ [.ok (.d (.ro S.length 2 (badC S))), .ok (iv S.length), .ok (iv z)] ++ List.replicate 24 .unk, [some (.cells [iv w, iv h, iv t, iv p, ivL K, .d (.ro S.length 2 (badC S))])], 1, .nil⟩
noncomputable def bodyVh : Code := loopN (bodyOf Tryz.prog 20) 0
noncomputable def BVh_q1 (S : List (List Int × List Int)) (z : Int) (i : Nat) (x : Nat) : DV :=
  DV.x (.int .i64 (List.getD (bdL S (Int.toNat z) 0) i (0 : Int)))
noncomputable def BVh_q2 (w : Int) (h : Int) (S : List (List Int × List Int)) (z : Int) : Bool :=
  !risB (lsOf (List.length (bdL S (Int.toNat z) 0)) (BVh_q1 S z)) (w64 (w * h))
noncomputable def BVh_q3 (S : List (List Int × List Int)) (z : Int) (i : Nat) (x : Nat) : DV :=
  DV.x (.int .i64 (List.getD (bdL S (Int.toNat z) 1) i (0 : Int)))
noncomputable def BVh_q4 (S : List (List Int × List Int)) (i : Nat) (j : Nat) : DV :=
  DV.ro (List.length (bdL S i j)) 1 fun i_1 x => DV.x (.int .i64 (List.getD (bdL S i j) i_1 (0 : Int)))
noncomputable def BVh_q5 (K : List Int) (i : Nat) (x : Nat) : DV :=
  DV.x (.int .i64 (List.getD K i (0 : Int)))
noncomputable def BVh (w h t p : Int) (K : List Int) (S : List (List Int × List Int)) (r z : Int) : Tree (Ex × AS) :=
 .ite (decide (z < (↑(List.length S) : Int)))
 (.need ((0 : Int) ≤ z ∧ z < (↑(List.length S) : Int))
 (.need (RowOK (List.length (bdL S (Int.toNat z) 0)) (BVh_q1 S z))
 (.need (BVh_q2 w h S z = false → okG w h t p)
 (.need (BVh_q2 w h S z = false → RowOK (List.length (bdL S (Int.toNat z) 1)) (BVh_q3 S z))
 (.ite (BVh_q2 w h S z || !risB (lsOf (List.length (bdL S (Int.toNat z) 1)) (BVh_q3 S z)) (gN w h t p))
 (.ret
 (.ret,
 {
 tm :=
 [.unk, .ok (SV.ptr 0 0), .ok (iv (280 : Int)), .unk, .unk, .unk, .unk, .unk, .unk, .unk, .unk, .unk, .unk, .unk, .unk, .unk, .unk, .unk, .unk, .unk, .unk,
 .unk, .ok (SV.d (DV.ro (List.length S) 2 (BVh_q4 S))), .ok (iv (↑(List.length S) : Int)), .ok (iv z), .unk, .unk, .unk, .unk, .unk, .unk, .unk, .unk, .unk, .unk, .unk,
 .unk, .unk, .unk, .unk, .unk, .unk, .unk, .unk, .unk, .unk, .unk, .unk, .unk],
 hp := [some (.cells [iv w, iv h, iv t, iv p, SV.d (DV.ro (List.length K) 1 (BVh_q5 K)), SV.d (DV.ro (List.length S) 2 (BVh_q4 S))])], next := 1, hint := .nil }))
 (.ret
 (.normal,
 {
 tm :=
 [.unk, .ok (SV.ptr 0 0), .ok (iv r), .unk, .unk, .unk, .unk, .unk, .unk, .unk, .unk, .unk, .unk, .unk, .unk, .unk, .unk, .unk, .unk, .unk, .unk, .unk,
 .ok (SV.d (DV.ro (List.length S) 2 (BVh_q4 S))), .ok (iv (↑(List.length S) : Int)), .ok (iv (w64 (z + (1 : Int)))), .unk, .unk, .unk, .unk, .unk, .unk, .unk, .unk, .unk,
 .unk, .unk, .unk, .unk, .unk, .unk, .unk, .unk, .unk, .unk, .unk, .unk, .unk, .unk, .unk],
 hp := [some (.cells [iv w, iv h, iv t, iv p, SV.d (DV.ro (List.length K) 1 (BVh_q5 K)), SV.d (DV.ro (List.length S) 2 (BVh_q4 S))])], next := 1,
 hint := .nil })))))))
 (.ret
 (.exit 0,
 {
 tm :=
 [.unk, .ok (SV.ptr 0 0), .ok (iv r), .unk, .unk, .unk, .unk, .unk, .unk, .unk, .unk, .unk, .unk, .unk, .unk, .unk, .unk, .unk, .unk, .unk, .unk, .unk,
 .ok (SV.d (DV.ro (List.length S) 2 (BVh_q4 S))), .ok (iv (↑(List.length S) : Int)), .ok (iv z), .unk, .unk, .unk, .unk, .unk, .unk, .unk, .unk, .unk, .unk, .unk, .unk, .unk,
 .unk, .unk, .unk, .unk, .unk, .unk, .unk, .unk, .unk, .unk, .unk],
 hp := [some (.cells [iv w, iv h, iv t, iv p, SV.d (DV.ro (List.length K) 1 (BVh_q5 K)), SV.d (DV.ro (List.length S) 2 (BVh_q4 S))])], next := 1, hint := .nil }))

theorem BVh_eq (w h t p : Int) (K : List Int) (S : List (List Int × List Int)) (r z : Int) : cutT 1 [] [1, 2, 22, 23, 24] [] 1 .nil (exec Tryz.prog CW DW 200 bodyVh (invVh w h t p K S r z)) = BVh w h t p K S r z := by kernel_rfl

noncomputable def KVh (w h t p : Int) (K : List Int) (S : List (List Int × List Int)) (r z : Int) : Tree SV :=
  .ret (iv (0 : Int))

theorem KVh_eq (w h t p : Int) (K : List Int) (S : List (List Int × List Int)) (r z : Int) : codeK (sub [0, 1] (tVh w h t p K S)) (.exit 0) (invVh w h t p K S r z) = KVh w h t p K S r z := by kernel_rfl

noncomputable def QVh (w h t p : Int) (K : List Int) (S : List (List Int × List Int)) (r z : Int) : Tree SV :=
  .ret (iv r)

theorem QVh_eq (w h t p : Int) (K : List Int) (S : List (List Int × List Int)) (r z : Int) : codeK (sub [0, 1] (tVh w h t p K S)) .ret (invVh w h t p K S r z) = QVh w h t p K S r z := by kernel_rfl

noncomputable def invVi (w h t p : Int) (K : List Int) (S : List (List Int × List Int)) (r z : Int) : AS := ⟨[.unk, .ok (.ptr 0 0), .ok (iv r), .ok (iv z)] ++ List.replicate 32 .unk, [some (.cells [iv w, iv h, iv t, iv p, ivL K, .d (.ro S.length 2 (badC S))])], 1, .nil⟩
noncomputable def bodyVi : Code := loopN (bodyOf Tryz.prog 19) 0
noncomputable def BVi_q1 (S : List (List Int × List Int)) (z : Int) (i : Nat) (x : Nat) : DV :=
  DV.x (.int .i64 (List.getD (bdL S (Int.toNat z) 0) i (0 : Int)))
noncomputable def BVi_q2 (S : List (List Int × List Int)) (z : Int) (i : Nat) (x : Nat) : DV :=
  DV.x (.int .i64 (List.getD (bdL S (Int.toNat z) 1) i (0 : Int)))
noncomputable def BVi_q3 (K : List Int) (i : Nat) (x : Nat) : DV :=
  DV.x (.int .i64 (List.getD K i (0 : Int)))
noncomputable def BVi_q4 (S : List (List Int × List Int)) (i : Nat) (j : Nat) : DV :=
  DV.ro (List.length (bdL S i j)) 1 fun i_1 x => DV.x (.int .i64 (List.getD (bdL S i j) i_1 (0 : Int)))
noncomputable def BVi (w h t p : Int) (K : List Int) (S : List (List Int × List Int)) (r z : Int) : Tree (Ex × AS) :=
 .ite (decide (z < (↑(List.length S) : Int)))
 (.need ((0 : Int) ≤ z ∧ z < (↑(List.length S) : Int))
 (.need (okG w h t p ∧ RowOK (List.length (bdL S (Int.toNat z) 0)) (BVi_q1 S z) ∧ RowOK (List.length (bdL S (Int.toNat z) 1)) (BVi_q2 S z))
 (.ite (!bdB w h t p (lsOf (List.length (bdL S (Int.toNat z) 0)) (BVi_q1 S z)) (lsOf (List.length (bdL S (Int.toNat z) 1)) (BVi_q2 S z)))
 (.ret
 (.ret,
 {
 tm :=
 [.unk, .ok (SV.ptr 0 0), .ok (iv (280 : Int)), .ok (iv z), .unk, .unk, .unk, .unk, .unk, .unk, .unk, .unk, .unk, .unk, .unk, .unk, .unk, .unk, .unk, .unk, .unk,
 .unk, .unk, .unk, .unk, .unk, .unk, .unk, .unk, .unk, .unk, .unk, .unk, .unk, .unk, .unk],
 hp := [some (.cells [iv w, iv h, iv t, iv p, SV.d (DV.ro (List.length K) 1 (BVi_q3 K)), SV.d (DV.ro (List.length S) 2 (BVi_q4 S))])], next := 1, hint := .nil }))
 (.ret
 (.normal,
 {
 tm :=
 [.unk, .ok (SV.ptr 0 0), .ok (iv r), .ok (iv (w64 (z + (1 : Int)))), .unk, .unk, .unk, .unk, .unk, .unk, .unk, .unk, .unk, .unk, .unk, .unk, .unk, .unk, .unk, .unk,
 .unk, .unk, .unk, .unk, .unk, .unk, .unk, .unk, .unk, .unk, .unk, .unk, .unk, .unk, .unk, .unk],
 hp := [some (.cells [iv w, iv h, iv t, iv p, SV.d (DV.ro (List.length K) 1 (BVi_q3 K)), SV.d (DV.ro (List.length S) 2 (BVi_q4 S))])], next := 1, hint := .nil })))))
 (.ret
 (.exit 0,
 {
 tm :=
 [.unk, .ok (SV.ptr 0 0), .ok (iv r), .ok (iv z), .unk, .unk, .unk, .unk, .unk, .unk, .unk, .unk, .unk, .unk, .unk, .unk, .unk, .unk, .unk, .unk, .unk, .unk, .unk,
 .unk, .unk, .unk, .unk, .unk, .unk, .unk, .unk, .unk, .unk, .unk, .unk, .unk],
 hp := [some (.cells [iv w, iv h, iv t, iv p, SV.d (DV.ro (List.length K) 1 (BVi_q3 K)), SV.d (DV.ro (List.length S) 2 (BVi_q4 S))])], next := 1, hint := .nil }))

theorem BVi_eq (w h t p : Int) (K : List Int) (S : List (List Int × List Int)) (r z : Int) : cutT 1 [] [1, 2, 3] [] 1 .nil (exec Tryz.prog CW DW 200 bodyVi (invVi w h t p K S r z)) = BVi w h t p K S r z := by kernel_rfl

noncomputable def KVi (w h t p : Int) (K : List Int) (S : List (List Int × List Int)) (r z : Int) : Tree SV :=
  .ret (iv (0 : Int))

theorem KVi_eq (w h t p : Int) (K : List Int) (S : List (List Int × List Int)) (r z : Int) : codeK (sub [0, 1] (tVi w h t p K S)) (.exit 0) (invVi w h t p K S r z) = KVi w h t p K S r z := by kernel_rfl

noncomputable def QVi (w h t p : Int) (K : List Int) (S : List (List Int × List Int)) (r z : Int) : Tree SV :=
  .ret (iv r)

theorem QVi_eq (w h t p : Int) (K : List Int) (S : List (List Int × List Int)) (r z : Int) : codeK (sub [0, 1] (tVi w h t p K S)) .ret (invVi w h t p K S r z) = QVi w h t p K S r z := by kernel_rfl

noncomputable def tSm (w h t p : Int) (K : List Int) (S : List (List Int × List Int)) (w2 h2 t2 p2 : Int) (K2 : List Int) (S2 : List (List Int × List Int)) : Tree SV := TW .nil 18 [chS w h t p K S, chS w2 h2 t2 p2 K2 S2]
noncomputable def LSm_q1 (K : List Int) (i : Nat) (x : Nat) : DV :=
  DV.x (.int .i64 (List.getD K i (0 : Int)))
noncomputable def LSm_q2 (K2 : List Int) (i : Nat) (x : Nat) : DV :=
  DV.x (.int .i64 (List.getD K2 i (0 : Int)))
noncomputable def LSm (w h t p : Int) (K : List Int) (S : List (List Int × List Int)) (w2 h2 t2 p2 : Int) (K2 : List Int) (S2 : List (List Int × List Int)) : Tree SV :=
  .need (RowOK (List.length K) (LSm_q1 K) ∧ RowOK (List.length K2) (LSm_q2 K2))
  (.ite (!(w == w2 && h == h2 && t == t2 && p == p2 && eqI (List.length K) (LSm_q1 K) (List.length K2) (LSm_q2 K2)) || (↑(List.length S) : Int) != (↑(List.length S2) : Int)) (.ret (bv false))
   (.code (codeC (sub [(0 : Nat), (1 : Nat)] (tSm w h t p K S w2 h2 t2 p2 K2 S2))) (codeS (sub [(0 : Nat), (1 : Nat)] (tSm w h t p K S w2 h2 t2 p2 K2 S2))) (codeK (sub [(0 : Nat), (1 : Nat)] (tSm w h t p K S w2 h2 t2 p2 K2 S2)))))

theorem LSm_eq (w h t p : Int) (K : List Int) (S : List (List Int × List Int)) (w2 h2 t2 p2 : Int) (K2 : List Int) (S2 : List (List Int × List Int)) : tSm w h t p K S w2 h2 t2 p2 K2 S2 = LSm w h t p K S w2 h2 t2 p2 K2 S2 := by kernel_rfl

noncomputable def invSm (w h t p : Int) (K : List Int) (S : List (List Int × List Int)) (w2 h2 t2 p2 : Int) (K2 : List Int) (S2 : List (List Int × List Int)) (r : Bool) (z : Int) : AS := ⟨[.unk, .unk, .ok (.ptr 0 0), .ok (.ptr 1 0), .ok (bv r), .ok (iv z)] ++ List.replicate 34 .unk, [some (.cells [iv w, iv h, iv t, iv p, ivL K, .d (.ro S.length 2 (badC S))]), some (.cells [iv w2, iv h2, iv t2, iv p2, ivL K2, .d (.ro S2.length 2 (badC S2))])], 2, .nil⟩
noncomputable def bodySm : Code := loopN (bodyOf Tryz.prog 18) 0
noncomputable def BSm_q1 (S : List (List Int × List Int)) (z : Int) (i : Nat) (x : Nat) : DV :=
  DV.x (.int .i64 (List.getD (bdL S (Int.toNat z) 0) i (0 : Int)))
noncomputable def BSm_q2 (S : List (List Int × List Int)) (z : Int) (i : Nat) (x : Nat) : DV :=
  DV.x (.int .i64 (List.getD (bdL S (Int.toNat z) 1) i (0 : Int)))
noncomputable def BSm_q3 (S2 : List (List Int × List Int)) (z : Int) (i : Nat) (x : Nat) : DV :=
  DV.x (.int .i64 (List.getD (bdL S2 (Int.toNat z) 0) i (0 : Int)))
noncomputable def BSm_q4 (S2 : List (List Int × List Int)) (z : Int) (i : Nat) (x : Nat) : DV :=
  DV.x (.int .i64 (List.getD (bdL S2 (Int.toNat z) 1) i (0 : Int)))
noncomputable def BSm_q5 (K : List Int) (i : Nat) (x : Nat) : DV :=
  DV.x (.int .i64 (List.getD K i (0 : Int)))
noncomputable def BSm_q6 (S : List (List Int × List Int)) (i : Nat) (j : Nat) : DV :=
  DV.ro (List.length (bdL S i j)) 1 fun i_1 x => DV.x (.int .i64 (List.getD (bdL S i j) i_1 (0 : Int)))
noncomputable def BSm_q7 (K2 : List Int) (i : Nat) (x : Nat) : DV :=
  DV.x (.int .i64 (List.getD K2 i (0 : Int)))
noncomputable def BSm_q8 (S2 : List (List Int × List Int)) (i : Nat) (j : Nat) : DV :=
  DV.ro (List.length (bdL S2 i j)) 1 fun i_1 x => DV.x (.int .i64 (List.getD (bdL S2 i j) i_1 (0 : Int)))
noncomputable def BSm (w h t p : Int) (K : List Int) (S : List (List Int × List Int)) (w2 h2 t2 p2 : Int) (K2 : List Int) (S2 : List (List Int × List Int)) (r : Bool) (z : Int) : Tree (Ex × AS) :=
 .ite (decide (z < (↑(List.length S) : Int)))
 (.need ((0 : Int) ≤ z ∧ z < (↑(List.length S) : Int))
 (.need ((0 : Int) ≤ z ∧ z < (↑(List.length S2) : Int))
 (.need
 (RowOK (List.length (bdL S (Int.toNat z) 0)) (BSm_q1 S z) ∧
 RowOK (List.length (bdL S (Int.toNat z) 1)) (BSm_q2 S z) ∧
 RowOK (List.length (bdL S2 (Int.toNat z) 0)) (BSm_q3 S2 z) ∧ RowOK (List.length (bdL S2 (Int.toNat z) 1)) (BSm_q4 S2 z))
 (.ite
 (!(eqI (List.length (bdL S (Int.toNat z) 0)) (BSm_q1 S z) (List.length (bdL S2 (Int.toNat z) 0)) (BSm_q3 S2 z) &&
 eqI (List.length (bdL S (Int.toNat z) 1)) (BSm_q2 S z) (List.length (bdL S2 (Int.toNat z) 1)) (BSm_q4 S2 z)))
 (.ret
 (.ret,
 {
 tm :=
 [.unk, .unk, .ok (SV.ptr 0 0), .ok (SV.ptr 1 0), .ok (bv false), .ok (iv z), .unk, .unk, .unk, .unk, .unk, .unk, .unk, .unk, .unk, .unk, .unk,
 .unk, .unk, .unk, .unk, .unk, .unk, .unk, .unk, .unk, .unk, .unk, .unk, .unk, .unk, .unk, .unk, .unk, .unk, .unk, .unk, .unk, .unk, .unk],
 hp :=
 [some (.cells [iv w, iv h, iv t, iv p, SV.d (DV.ro (List.length K) 1 (BSm_q5 K)), SV.d (DV.ro (List.length S) 2 (BSm_q6 S))]),
 some (.cells [iv w2, iv h2, iv t2, iv p2, SV.d (DV.ro (List.length K2) 1 (BSm_q7 K2)), SV.d (DV.ro (List.length S2) 2 (BSm_q8 S2))])],
 next := 2, hint := .nil }))
 (.ret
 (.normal,
 {
 tm :=
 [.unk, .unk, .ok (SV.ptr 0 0), .ok (SV.ptr 1 0), .ok (bv r), .ok (iv (w64 (z + (1 : Int)))), .unk, .unk, .unk, .unk, .unk, .unk, .unk, .unk, .unk,
 .unk, .unk, .unk, .unk, .unk, .unk, .unk, .unk, .unk, .unk, .unk, .unk, .unk, .unk, .unk, .unk, .unk, .unk, .unk, .unk, .unk, .unk, .unk, .unk, .unk],
 hp :=
 [some (.cells [iv w, iv h, iv t, iv p, SV.d (DV.ro (List.length K) 1 (BSm_q5 K)), SV.d (DV.ro (List.length S) 2 (BSm_q6 S))]),
 some (.cells [iv w2, iv h2, iv t2, iv p2, SV.d (DV.ro (List.length K2) 1 (BSm_q7 K2)), SV.d (DV.ro (List.length S2) 2 (BSm_q8 S2))])],
 next := 2, hint := .nil }))))))
 (.ret
 (.exit 0,
 {
 tm :=
 [.unk, .unk, .ok (SV.ptr 0 0), .ok (SV.ptr 1 0), .ok (bv r), .ok (iv z), .unk, .unk, .unk, .unk, .unk, .unk, .unk, .unk, .unk, .unk, .unk, .unk, .unk,
 .unk, .unk, .unk, .unk, .unk, .unk, .unk, .unk, .unk, .unk, .unk, .unk, .unk, .unk, .unk, .unk, .unk, .unk, .unk, .unk, .unk],
 hp :=
 [some (.cells [iv w, iv h, iv t, iv p, SV.d (DV.ro (List.length K) 1 (BSm_q5 K)), SV.d (DV.ro (List.length S) 2 (BSm_q6 S))]),
 some (.cells [iv w2, iv h2, iv t2, iv p2, SV.d (DV.ro (List.length K2) 1 (BSm_q7 K2)), SV.d (DV.ro (List.length S2) 2 (BSm_q8 S2))])],
 next := 2, hint := .nil }))

theorem BSm_eq (w h t p : Int) (K : List Int) (S : List (List Int × List Int)) (w2 h2 t2 p2 : Int) (K2 : List Int) (S2 : List (List Int × List Int)) (r : Bool) (z : Int) : cutT 2 [] [2, 3, 4, 5] [] 2 .nil (exec Tryz.prog CW DW 200 bodySm (invSm w h t p K S w2 h2 t2 p2 K2 S2 r z)) = BSm w h t p K S w2 h2 t2 p2 K2 S2 r z := by kernel_rfl

noncomputable def KSm (w h t p : Int) (K : List Int) (S : List (List Int × List Int)) (w2 h2 t2 p2 : Int) (K2 : List Int) (S2 : List (List Int × List Int)) (r : Bool) (z : Int) : Tree SV :=
  .ret (bv true)

theorem KSm_eq (w h t p : Int) (K : List Int) (S : List (List Int × List Int)) (w2 h2 t2 p2 : Int) (K2 : List Int) (S2 : List (List Int × List Int)) (r : Bool) (z : Int) : codeK (sub [0, 1] (tSm w h t p K S w2 h2 t2 p2 K2 S2)) (.exit 0) (invSm w h t p K S w2 h2 t2 p2 K2 S2 r z) = KSm w h t p K S w2 h2 t2 p2 K2 S2 r z := by kernel_rfl

noncomputable def QSm (w h t p : Int) (K : List Int) (S : List (List Int × List Int)) (w2 h2 t2 p2 : Int) (K2 : List Int) (S2 : List (List Int × List Int)) (r : Bool) (z : Int) : Tree SV :=
  .ret (bv r)

theorem QSm_eq (w h t p : Int) (K : List Int) (S : List (List Int × List Int)) (w2 h2 t2 p2 : Int) (K2 : List Int) (S2 : List (List Int × List Int)) (r : Bool) (z : Int) : codeK (sub [0, 1] (tSm w h t p K S w2 h2 t2 p2 K2 S2)) .ret (invSm w h t p K S w2 h2 t2 p2 K2 S2 r z) = QSm w h t p K S w2 h2 t2 p2 K2 S2 r z := by kernel_rfl


end Go.Proofs.YtgahnelicbddcaaGreatDoor

namespace Go.Proofs.YtgahnelicbddcaaGreatDoor
open Go.Sx
set_option maxRecDepth 100000
end Go.Proofs.YtgahnelicbddcaaGreatDoor

namespace Go.Proofs.YtgahnelicbddcaaGreatDoor
open Go.Sx
set_option maxRecDepth 100000
end Go.Proofs.YtgahnelicbddcaaGreatDoor

namespace Go.Proofs.YtgahnelicbddcaaGreatDoor
open Go.Sx
set_option maxRecDepth 100000
end Go.Proofs.YtgahnelicbddcaaGreatDoor

namespace Go.Proofs.YtgahnelicbddcaaGreatDoor
open Go.Sx
set_option maxRecDepth 100000
end Go.Proofs.YtgahnelicbddcaaGreatDoor

namespace Go.Proofs.YtgahnelicbddcaaGreatDoor
open Go.Sx
set_option maxRecDepth 100000
theorem dsc_pos {W H T P : Int} (hg : okG W H T P) : 1 ≤ (gr W H T P).cnt := by
  obtain ⟨⟨a1, a2⟩, ⟨b1, b2⟩, ⟨c1, c2⟩, d1, d2⟩ := hg
  show 1 ≤ W.toNat * H.toNat * (6 + 2 * T.toNat) + 2 * P.toNat
  have h1 : 1 * 1 ≤ W.toNat * H.toNat := Nat.mul_le_mul (by omega) (by omega)
  have h2 : 1 * 6 ≤ W.toNat * H.toNat * (6 + 2 * T.toNat) := Nat.mul_le_mul (by omega) (by omega)
  omega
theorem cnt_pos {W H T P : Int} (hg : okG W H T P) : 1 ≤ gN W H T P ∧ gN W H T P ≤ 1536 := by
  have hcl := (cnt_le hg.gr).2
  have hp := dsc_pos hg
  have hN : gN W H T P = ((gr W H T P).cnt : Int) := rfl
  omega
end Go.Proofs.YtgahnelicbddcaaGreatDoor

namespace Go.Proofs.YtgahnelicbddcaaGreatDoor
open Go.Sx
set_option maxRecDepth 100000
theorem getD_mem {L : List Int} {j : Nat} (h : j < L.length) : L.getD j 0 ∈ L := by
  rw [List.getD_eq_getElem?_getD, List.getElem?_eq_getElem h]; exact List.getElem_mem h
end Go.Proofs.YtgahnelicbddcaaGreatDoor

namespace Go.Proofs.YtgahnelicbddcaaGreatDoor
open Go.Sx
set_option maxRecDepth 100000
end Go.Proofs.YtgahnelicbddcaaGreatDoor

namespace Go.Sx
def vchP (w h t p : Int) (K : List Int) (S : List (List Int × List Int)) : Prop := vldP w h t p K ∧ (1 ≤ S.length ∧ S.length ≤ 16) ∧ ∀ s ∈ S, risP s.1 (w * h) ∧ risP s.2 (gN w h t p)
instance (w h t p : Int) (K : List Int) (S : List (List Int × List Int)) : Decidable (vchP w h t p K S) := by unfold vchP; exact inferInstance
def vchE (w h t p : Int) (K : List Int) (S : List (List Int × List Int)) : Int := if vchP w h t p K S then 0 else 280
def smeB (w h t p : Int) (K : List Int) (S : List (List Int × List Int)) (w2 h2 t2 p2 : Int) (K2 : List Int) (S2 : List (List Int × List Int)) : Bool := decide ((w = w2 ∧ h = h2 ∧ t = t2 ∧ p = p2) ∧ K = K2 ∧ S = S2)
def _root_.Go.Proofs.ChLen (K : List Int) (S : List (List Int × List Int)) : Prop := K.length ≤ 9223372036854775807 ∧ S.length ≤ 9223372036854775807 ∧ ∀ s ∈ S, s.1.length ≤ 9223372036854775807 ∧ s.2.length ≤ 9223372036854775807
end Go.Sx
namespace Go.Proofs.YtgahnelicbddcaaGreatDoor
open Go.Sx
set_option maxRecDepth 100000
theorem vldP_ok {w h t p : Int} {K : List Int} (hv : vldP w h t p K) : okG w h t p := hv.1
theorem vldE_0 {w h t p : Int} {K : List Int} : (vldE w h t p K != 0) = !decide (vldP w h t p K) := by
  unfold vldE
  split
  · rename_i h; rw [decide_eq_true h]; rfl
  · rename_i h; rw [decide_eq_false h]; rfl
theorem bdL_mem {S : List (List Int × List Int)} {j : Nat} (h : j < S.length) : (bdL S j 0, bdL S j 1) ∈ S ∧ S.getD j ([], []) ∈ S ∧ bdL S j 0 = (S.getD j ([], [])).1 ∧ bdL S j 1 = (S.getD j ([], [])).2 := by
  have hm : S.getD j ([], []) ∈ S := by rw [List.getD_eq_getElem?_getD, List.getElem?_eq_getElem h]; exact List.getElem_mem h
  have e : (bdL S j 0, bdL S j 1) = S.getD j ([], []) := rfl
  exact ⟨by rw [e]; exact hm, hm, rfl, rfl⟩
theorem bd_all {S : List (List Int × List Int)} {P : List Int × List Int → Prop} : (∀ s ∈ S, P s) ↔ ∀ j, j < S.length → P (bdL S j 0, bdL S j 1) := by
  constructor
  · intro h j hj
    exact h _ (bdL_mem hj).1
  · intro h s hs
    obtain ⟨j, hj, e⟩ := List.getElem_of_mem hs
    have := h j hj
    have e2 : (bdL S j 0, bdL S j 1) = s := by
      show S.getD j ([], []) = s
      rw [List.getD_eq_getElem?_getD, List.getElem?_eq_getElem hj]; exact e
    rw [e2] at this; exact this
theorem vh_sat {w h t p : Int} {K : List Int} {S : List (List Int × List Int)} (hl : ChLen K S) : Sat Tryz.prog (tVh w h t p K S) (· = iv (vchE w h t p K S)) := by
  refine Sat.of_eq (LVh_eq w h t p K S) ⟨?_⟩
  have hE : entA 1 [] [1, 2, 22, 23, 24] [] 1 .nil (sub [0, 1] (tVh w h t p K S)) = some (invVh w h t p K S 0 0) := by kernel_rfl
  obtain ⟨l1, l2, l3⟩ := hl
  unfold LVh
  have eK : lsOf K.length (LVh_q1 K) = K := lsOf_cellL K
  rw [eK, vldE_0]
  refine ⟨⟨l1, fun i hi => rfl⟩, fun h1 => ?_, fun h1 => ?_⟩
  · simp only [Bool.or_eq_true, Bool.not_eq_true', decide_eq_false_iff_not, decide_eq_true_eq] at h1
    show iv 280 = iv _
    unfold vchE
    rw [if_neg (fun h : vchP w h t p K S => by
      obtain ⟨h2, h3, -⟩ := h
      rcases h1 with (h1 | h1) | h1
      · exact h1 h2
      · omega
      · omega)]
  simp only [Bool.or_eq_false_iff, Bool.not_eq_false', decide_eq_false_iff_not, decide_eq_true_eq] at h1
  obtain ⟨⟨hv, h2⟩, h3⟩ := h1
  have hg := vldP_ok hv
  have ewh : w64 (w * h) = w * h := (wr hg).wh
  have hfin : vchE w h t p K S = if (∀ j, j < S.length → risP (bdL S j 0) (w * h) ∧ risP (bdL S j 1) (gN w h t p)) then 0 else 280 := by
    unfold vchE
    by_cases hb : ∀ j, j < S.length → risP (bdL S j 0) (w * h) ∧ risP (bdL S j 1) (gN w h t p)
    · rw [if_pos hb, if_pos (show vchP w h t p K S from ⟨hv, ⟨by omega, by omega⟩, bd_all.2 hb⟩)]
    · rw [if_neg hb, if_neg (fun h : vchP w h t p K S => hb (bd_all.1 h.2.2))]
  rw [hfin]
  refine code_satS CW_ok DW_ok (n := 200) (n0 := 1) (nx := 1) (roots := []) (keep := [1, 2, 22, 23, 24]) (drop := []) (h := .nil) (body := bodyVh) (by kernel_rfl) (by kernel_rfl)
    (fun q s => ∃ j : Nat, q = S.length - j ∧ j ≤ S.length ∧ (∀ i, i < j → risP (bdL S i 0) (w * h) ∧ risP (bdL S i 1) (gN w h t p)) ∧ s = invVh w h t p K S 0 j)
    (fun e s => (e = .exit 0 ∧ (∀ j, j < S.length → risP (bdL S j 0) (w * h) ∧ risP (bdL S j 1) (gN w h t p)) ∧ ∃ j, s = invVh w h t p K S 0 j) ∨ (e = .ret ∧ ¬ (∀ j, j < S.length → risP (bdL S j 0) (w * h) ∧ risP (bdL S j 1) (gN w h t p)) ∧ ∃ j, s = invVh w h t p K S 280 j))
    ⟨_, _, ⟨0, rfl, by omega, fun i hi => by omega, rfl⟩, entA_sound hE⟩ ?_ ?_
  · rintro q s ⟨j, rfl, hj, hn, rfl⟩
    refine Sat.of_eq (BVh_eq w h t p K S 0 j) ?_
    constructor; unfold BVh
    refine ⟨fun h1 => ?_, fun h1 => ?_⟩
    · simp only [decide_eq_true_eq] at h1
      have hjl : j < S.length := by omega
      have lb := l3 _ (bdL_mem hjl).1
      have e0 : lsOf (bdL S j 0).length (BVh_q1 S (j : Int)) = bdL S j 0 := lsOf_cellL _
      have e1 : lsOf (bdL S j 1).length (BVh_q3 S (j : Int)) = bdL S j 1 := lsOf_cellL _
      have e2 : BVh_q2 w h S (j : Int) = !decide (risP (bdL S j 0) (w * h)) := by
        unfold BVh_q2; rw [Int.toNat_natCast, e0, ewh]; rfl
      rw [Int.toNat_natCast, e1, e2]
      have e3 : (!decide (risP (bdL S j 0) (w * h)) || !risB (bdL S j 1) (gN w h t p)) = !decide (risP (bdL S j 0) (w * h) ∧ risP (bdL S j 1) (gN w h t p)) := by
        unfold risB; rw [Bool.eq_iff_iff]; simp
      rw [e3]
      refine ⟨by omega, ⟨lb.1, fun i hi => rfl⟩, fun _ => hg, fun _ => ⟨lb.2, fun i hi => rfl⟩, fun h2 => ?_, fun h2 => ?_⟩
      · simp only [Bool.not_eq_true', decide_eq_false_iff_not] at h2
        exact ⟨_, .inr ⟨rfl, fun h => h2 (h j hjl), _, rfl⟩, Gc.refl _ _⟩
      · simp only [Bool.not_eq_false', decide_eq_true_eq] at h2
        rw [w64_of (n := (j : Int) + 1) (by omega) (by omega)]
        refine ⟨S.length - (j + 1), _, by omega, ⟨j + 1, rfl, by omega, fun i hi => ?_, rfl⟩, Gc.refl _ _⟩
        by_cases hij : i = j
        · subst hij; exact h2
        · exact hn i (by omega)
    · simp only [decide_eq_false_iff_not] at h1
      obtain rfl : j = S.length := by omega
      exact ⟨_, .inl ⟨rfl, hn, _, rfl⟩, Gc.refl _ _⟩
  · rintro e s (⟨rfl, hn, j, rfl⟩ | ⟨rfl, hn, j, rfl⟩)
    · refine Sat.of_eq (KVh_eq w h t p K S 0 j) ⟨?_⟩
      rw [if_pos hn]; rfl
    · refine Sat.of_eq (QVh_eq w h t p K S 280 j) ⟨?_⟩
      rw [if_neg hn]; rfl
theorem vi_sat {w h t p : Int} {K : List Int} {S : List (List Int × List Int)} (hl : ChLen K S) : Sat Tryz.prog (tVi w h t p K S) (· = iv (vchE w h t p K S)) := by
  refine Sat.of_eq (LVi_eq w h t p K S) ⟨?_⟩
  have hE : entA 1 [] [1, 2, 3] [] 1 .nil (sub [0, 1] (tVi w h t p K S)) = some (invVi w h t p K S 0 0) := by kernel_rfl
  obtain ⟨l1, l2, l3⟩ := hl
  unfold LVi
  have eK : lsOf K.length (LVi_q1 K) = K := lsOf_cellL K
  rw [eK, vldE_0]
  refine ⟨⟨l1, fun i hi => rfl⟩, fun h1 => ?_, fun h1 => ?_⟩
  · simp only [Bool.or_eq_true, Bool.not_eq_true', decide_eq_false_iff_not, decide_eq_true_eq] at h1
    show iv 280 = iv _
    unfold vchE
    rw [if_neg (fun h : vchP w h t p K S => by
      obtain ⟨h2, h3, -⟩ := h
      rcases h1 with (h1 | h1) | h1
      · exact h1 h2
      · omega
      · omega)]
  simp only [Bool.or_eq_false_iff, Bool.not_eq_false', decide_eq_false_iff_not, decide_eq_true_eq] at h1
  obtain ⟨⟨hv, h2⟩, h3⟩ := h1
  have hg := vldP_ok hv
  have hfin : vchE w h t p K S = if (∀ j, j < S.length → risP (bdL S j 0) (w * h) ∧ risP (bdL S j 1) (gN w h t p)) then 0 else 280 := by
    unfold vchE
    by_cases hb : ∀ j, j < S.length → risP (bdL S j 0) (w * h) ∧ risP (bdL S j 1) (gN w h t p)
    · rw [if_pos hb, if_pos (show vchP w h t p K S from ⟨hv, ⟨by omega, by omega⟩, bd_all.2 hb⟩)]
    · rw [if_neg hb, if_neg (fun h : vchP w h t p K S => hb (bd_all.1 h.2.2))]
  rw [hfin]
  refine code_satS CW_ok DW_ok (n := 200) (n0 := 1) (nx := 1) (roots := []) (keep := [1, 2, 3]) (drop := []) (h := .nil) (body := bodyVi) (by kernel_rfl) (by kernel_rfl)
    (fun q s => ∃ j : Nat, q = S.length - j ∧ j ≤ S.length ∧ (∀ i, i < j → risP (bdL S i 0) (w * h) ∧ risP (bdL S i 1) (gN w h t p)) ∧ s = invVi w h t p K S 0 j)
    (fun e s => (e = .exit 0 ∧ (∀ j, j < S.length → risP (bdL S j 0) (w * h) ∧ risP (bdL S j 1) (gN w h t p)) ∧ ∃ j, s = invVi w h t p K S 0 j) ∨ (e = .ret ∧ ¬ (∀ j, j < S.length → risP (bdL S j 0) (w * h) ∧ risP (bdL S j 1) (gN w h t p)) ∧ ∃ j, s = invVi w h t p K S 280 j))
    ⟨_, _, ⟨0, rfl, by omega, fun i hi => by omega, rfl⟩, entA_sound hE⟩ ?_ ?_
  · rintro q s ⟨j, rfl, hj, hn, rfl⟩
    refine Sat.of_eq (BVi_eq w h t p K S 0 j) ?_
    constructor; unfold BVi
    refine ⟨fun h1 => ?_, fun h1 => ?_⟩
    · simp only [decide_eq_true_eq] at h1
      have hjl : j < S.length := by omega
      have lb := l3 _ (bdL_mem hjl).1
      have e0 : lsOf (bdL S j 0).length (BVi_q1 S (j : Int)) = bdL S j 0 := lsOf_cellL _
      have e1 : lsOf (bdL S j 1).length (BVi_q2 S (j : Int)) = bdL S j 1 := lsOf_cellL _
      rw [Int.toNat_natCast, e0, e1]
      have e3 : (!bdB w h t p (bdL S j 0) (bdL S j 1)) = !decide (risP (bdL S j 0) (w * h) ∧ risP (bdL S j 1) (gN w h t p)) := by
        unfold bdB risB; rw [Bool.eq_iff_iff]; simp
      rw [e3]
      refine ⟨by omega, ⟨hg, ⟨lb.1, fun i hi => rfl⟩, lb.2, fun i hi => rfl⟩, fun h2 => ?_, fun h2 => ?_⟩
      · simp only [Bool.not_eq_true', decide_eq_false_iff_not] at h2
        exact ⟨_, .inr ⟨rfl, fun h => h2 (h j hjl), _, rfl⟩, Gc.refl _ _⟩
      · simp only [Bool.not_eq_false', decide_eq_true_eq] at h2
        rw [w64_of (n := (j : Int) + 1) (by omega) (by omega)]
        refine ⟨S.length - (j + 1), _, by omega, ⟨j + 1, rfl, by omega, fun i hi => ?_, rfl⟩, Gc.refl _ _⟩
        by_cases hij : i = j
        · subst hij; exact h2
        · exact hn i (by omega)
    · simp only [decide_eq_false_iff_not] at h1
      obtain rfl : j = S.length := by omega
      exact ⟨_, .inl ⟨rfl, hn, _, rfl⟩, Gc.refl _ _⟩
  · rintro e s (⟨rfl, hn, j, rfl⟩ | ⟨rfl, hn, j, rfl⟩)
    · refine Sat.of_eq (KVi_eq w h t p K S 0 j) ⟨?_⟩
      rw [if_pos hn]; rfl
    · refine Sat.of_eq (QVi_eq w h t p K S 280 j) ⟨?_⟩
      rw [if_neg hn]; rfl
theorem bd_ext {S S2 : List (List Int × List Int)} : S = S2 ↔ S.length = S2.length ∧ ∀ j, j < S.length → bdL S j 0 = bdL S2 j 0 ∧ bdL S j 1 = bdL S2 j 1 := by
  constructor
  · rintro rfl; exact ⟨rfl, fun j hj => ⟨rfl, rfl⟩⟩
  · rintro ⟨h1, h2⟩
    refine List.ext_getElem h1 fun j a b => ?_
    obtain ⟨e1, e2⟩ := h2 j a
    have f1 : ∀ (T : List (List Int × List Int)) (h : j < T.length), T[j] = (bdL T j 0, bdL T j 1) := fun T h => by
      show _ = T.getD j ([], [])
      rw [List.getD_eq_getElem?_getD, List.getElem?_eq_getElem h]; rfl
    rw [f1 S a, f1 S2 b, e1, e2]
theorem sm_sat {w h t p : Int} {K : List Int} {S : List (List Int × List Int)} {w2 h2 t2 p2 : Int} {K2 : List Int} {S2 : List (List Int × List Int)} (hl : ChLen K S) (hl2 : ChLen K2 S2) : Sat Tryz.prog (tSm w h t p K S w2 h2 t2 p2 K2 S2) (· = bv (smeB w h t p K S w2 h2 t2 p2 K2 S2)) := by
  refine Sat.of_eq (LSm_eq w h t p K S w2 h2 t2 p2 K2 S2) ⟨?_⟩
  have hE : entA 2 [] [2, 3, 4, 5] [] 2 .nil (sub [0, 1] (tSm w h t p K S w2 h2 t2 p2 K2 S2)) = some (invSm w h t p K S w2 h2 t2 p2 K2 S2 false 0) := by kernel_rfl
  obtain ⟨l1, l2, l3⟩ := hl
  obtain ⟨k1, k2, k3⟩ := hl2
  unfold LSm
  have eK : eqI K.length (LSm_q1 K) K2.length (LSm_q2 K2) = decide (K = K2) := by
    unfold eqI
    have a : lsOf K.length (LSm_q1 K) = K := lsOf_cellL K
    have b : lsOf K2.length (LSm_q2 K2) = K2 := lsOf_cellL K2
    rw [a, b]
  rw [eK]
  refine ⟨⟨⟨l1, fun i hi => rfl⟩, k1, fun i hi => rfl⟩, fun h1 => ?_, fun h1 => ?_⟩
  · simp only [Bool.or_eq_true, Bool.not_eq_true', Bool.and_eq_false_iff, beq_eq_false_iff_ne, ne_eq, decide_eq_false_iff_not, bne_iff_ne] at h1
    show bv false = bv _
    unfold smeB
    rw [decide_eq_false]
    rintro ⟨⟨rfl, rfl, rfl, rfl⟩, rfl, rfl⟩
    simp at h1
  simp only [Bool.or_eq_false_iff, Bool.not_eq_false', Bool.and_eq_true, beq_iff_eq, decide_eq_true_eq, bne_eq_false_iff_eq] at h1
  obtain ⟨⟨⟨⟨⟨rfl, rfl⟩, rfl⟩, rfl⟩, rfl⟩, hS⟩ := h1
  have hS : S.length = S2.length := by omega
  have hfin : smeB w h t p K S w h t p K S2 = decide (∀ j, j < S.length → bdL S j 0 = bdL S2 j 0 ∧ bdL S j 1 = bdL S2 j 1) := by
    unfold smeB
    rw [decide_eq_decide]
    constructor
    · rintro ⟨-, -, h⟩; exact (bd_ext.1 h).2
    · intro h; exact ⟨⟨rfl, rfl, rfl, rfl⟩, rfl, bd_ext.2 ⟨hS, h⟩⟩
  rw [hfin]
  refine code_satS CW_ok DW_ok (n := 200) (n0 := 2) (nx := 2) (roots := []) (keep := [2, 3, 4, 5]) (drop := []) (h := .nil) (body := bodySm) (by kernel_rfl) (by kernel_rfl)
    (fun q s => ∃ j : Nat, q = S.length - j ∧ j ≤ S.length ∧ (∀ i, i < j → bdL S i 0 = bdL S2 i 0 ∧ bdL S i 1 = bdL S2 i 1) ∧ s = invSm w h t p K S w h t p K S2 false j)
    (fun e s => (e = .exit 0 ∧ (∀ j, j < S.length → bdL S j 0 = bdL S2 j 0 ∧ bdL S j 1 = bdL S2 j 1) ∧ ∃ j, s = invSm w h t p K S w h t p K S2 false j) ∨ (e = .ret ∧ ¬ (∀ j, j < S.length → bdL S j 0 = bdL S2 j 0 ∧ bdL S j 1 = bdL S2 j 1) ∧ ∃ j, s = invSm w h t p K S w h t p K S2 false j))
    ⟨_, _, ⟨0, rfl, by omega, fun i hi => by omega, rfl⟩, entA_sound hE⟩ ?_ ?_
  · rintro q s ⟨j, rfl, hj, hn, rfl⟩
    refine Sat.of_eq (BSm_eq w h t p K S w h t p K S2 false j) ?_
    constructor; unfold BSm
    refine ⟨fun h1 => ?_, fun h1 => ?_⟩
    · simp only [decide_eq_true_eq] at h1
      have hjl : j < S.length := by omega
      have lb := l3 _ (bdL_mem hjl).1
      have kb := k3 _ (bdL_mem (S := S2) (j := j) (by omega)).1
      have e3 : (!(eqI (bdL S (j : Int).toNat 0).length (BSm_q1 S (j : Int)) (bdL S2 (j : Int).toNat 0).length (BSm_q3 S2 (j : Int)) && eqI (bdL S (j : Int).toNat 1).length (BSm_q2 S (j : Int)) (bdL S2 (j : Int).toNat 1).length (BSm_q4 S2 (j : Int))))
          = !decide (bdL S j 0 = bdL S2 j 0 ∧ bdL S j 1 = bdL S2 j 1) := by
        unfold eqI
        have a1 : lsOf (bdL S (j : Int).toNat 0).length (BSm_q1 S (j : Int)) = bdL S j 0 := lsOf_cellL _
        have a2 : lsOf (bdL S2 (j : Int).toNat 0).length (BSm_q3 S2 (j : Int)) = bdL S2 j 0 := lsOf_cellL _
        have a3 : lsOf (bdL S (j : Int).toNat 1).length (BSm_q2 S (j : Int)) = bdL S j 1 := lsOf_cellL _
        have a4 : lsOf (bdL S2 (j : Int).toNat 1).length (BSm_q4 S2 (j : Int)) = bdL S2 j 1 := lsOf_cellL _
        rw [a1, a2, a3, a4, Bool.eq_iff_iff]; simp
      rw [e3, Int.toNat_natCast]
      refine ⟨by omega, by omega, ⟨⟨lb.1, fun i hi => rfl⟩, ⟨lb.2, fun i hi => rfl⟩, ⟨kb.1, fun i hi => rfl⟩, kb.2, fun i hi => rfl⟩, fun h2 => ?_, fun h2 => ?_⟩
      · simp only [Bool.not_eq_true', decide_eq_false_iff_not] at h2
        exact ⟨_, .inr ⟨rfl, fun h => h2 (h j hjl), _, rfl⟩, Gc.refl _ _⟩
      · simp only [Bool.not_eq_false', decide_eq_true_eq] at h2
        rw [w64_of (n := (j : Int) + 1) (by omega) (by omega)]
        refine ⟨S.length - (j + 1), _, by omega, ⟨j + 1, rfl, by omega, fun i hi => ?_, rfl⟩, Gc.refl _ _⟩
        by_cases hij : i = j
        · subst hij; exact h2
        · exact hn i (by omega)
    · simp only [decide_eq_false_iff_not] at h1
      obtain rfl : j = S.length := by omega
      exact ⟨_, .inl ⟨rfl, hn, _, rfl⟩, Gc.refl _ _⟩
  · rintro e s (⟨rfl, hn, j, rfl⟩ | ⟨rfl, hn, j, rfl⟩)
    · refine Sat.of_eq (KSm_eq w h t p K S w h t p K S2 false j) ⟨?_⟩
      rw [decide_eq_true hn]; rfl
    · refine Sat.of_eq (QSm_eq w h t p K S w h t p K S2 false j) ⟨?_⟩
      rw [decide_eq_false hn]; rfl
end Go.Proofs.YtgahnelicbddcaaGreatDoor

namespace Go.Sx
theorem ints_canon {w : World} {F : Nat → Prop} {v : Value} {d : DV} (hi : IntsD d) (h : RepD w F v d) : RepD w F v (ivD (intsD d)) := by
  cases d with
  | ro n e c =>
    obtain ⟨rfl, hi⟩ := hi
    show RepD w F v (ivD (lsOf n c))
    have e1 : ivD (lsOf n c) = .ro n 1 fun i _ => .x (.int .i64 ((lsOf n c).getD i 0)) := by unfold ivD; rw [lsOf_len]
    rw [e1]
    exact leD_sound h ⟨rfl, rfl, fun i j hi' hj => by obtain rfl : j = 0 := by omega
                                                      exact cell_lsOf hi hi'⟩
  | rf n e c =>
    obtain ⟨rfl, hi⟩ := hi
    show RepD w F v (ivD (lsOf n c))
    have e1 : ivD (lsOf n c) = .ro n 1 fun i _ => .x (.int .i64 ((lsOf n c).getD i 0)) := by unfold ivD; rw [lsOf_len]
    rw [e1]
    exact leD_sound h ⟨rfl, rfl, fun i j hi' hj => by obtain rfl : j = 0 := by omega
                                                      exact cell_lsOf hi hi'⟩
  | x u =>
    have hu : u = .slice none 0 0 := hi
    exact leD_sound h ⟨hu, rfl⟩
theorem bads_row {w : World} {F : Nat → Prop} {v : Value} {n : Nat} {c : Nat → Nat → DV} (hi : ∀ i, i < n → IntsD (c i 0) ∧ IntsD (c i 1)) (h : RepD w F v (.ro n 2 c)) {L : List (List Int × List Int)} (hL : L = (List.range n).map fun i => (intsD (c i 0), intsD (c i 1))) : RepD w F v (.ro L.length 2 (badC L)) := by
  have hl : L.length = n := by rw [hL]; simp
  rw [hl]
  have hb : ∀ i, i < n → L.getD i ([], []) = (intsD (c i 0), intsD (c i 1)) := fun i hi => by
    rw [hL]; simp [List.getD_eq_getElem?_getD, hi]
  cases h with
  | nil => exact .nil _ _
  | z a cap => exact .z _ _ _ _
  | ro b o _ cap _ _ f hF hc hcell hone hrep =>
    refine .ro b o n cap 2 _ f hF hc hcell hone fun i j hi' hj => ?_
    have h1 := hrep i j hi' hj
    unfold badC bdL
    rw [hb i hi']
    match j, hj with
    | 0, _ => exact ints_canon (hi i hi').1 h1
    | 1, _ => exact ints_canon (hi i hi').2 h1
theorem bads_canon {w : World} {F : Nat → Prop} {v : Value} {d : DV} (hi : BadsD d) (h : RepD w F v d) : RepD w F v (.ro (badsD d).length 2 (badC (badsD d))) := by
  cases d with
  | ro n e c =>
    obtain ⟨rfl, hi⟩ := hi
    exact bads_row hi h rfl
  | rf n e c =>
    obtain ⟨rfl, hi⟩ := hi
    cases h with
    | rf _ _ _ _ h hc => exact bads_row hi h rfl
  | x u =>
    have hu : u = .slice none 0 0 := hi
    exact leD_sound h ⟨hu, rfl⟩
end Go.Sx
namespace Go.Proofs.YtgahnelicbddcaaGreatDoor
open Go.Sx
set_option maxRecDepth 100000
theorem CtrOK.rep {P : Program} {k : FuncId} {c d : Ctr} (h : CtrOK P k c) (hd : ∀ ss r, (d ss).ev r → ∃ ss', (∀ (w : World) (F : Nat → Prop) vs, Reps w emp F vs ss → Reps w emp F vs ss') ∧ (c ss').ev r) : CtrOK P k d :=
  fun ss vs w F r hF hgl hr he => by
    obtain ⟨ss', h1, h2⟩ := hd ss r he
    exact h ss' vs w F r hF hgl (h1 w F vs hr) h2
theorem chip_rep {w : World} {F : Nat → Prop} {v : Value} {a b c d : Int} {kd sd : DV} (hk : IntsD kd) (hs : BadsD sd) (h : Rep w emp F v (.agg [iv a, iv b, iv c, iv d, .d kd, .d sd])) : Rep w emp F v (chS a b c d (intsD kd) (badsD sd)) := by
  cases h with
  | agg cs _ hl h =>
    refine .agg cs _ hl fun i hi => ?_
    have h0 := h i hi
    match i, hi with
    | 0, _ => exact h0
    | 1, _ => exact h0
    | 2, _ => exact h0
    | 3, _ => exact h0
    | 4, _ => exact .d (ints_canon hk (rep_d' h0))
    | 5, _ => exact .d (bads_canon hs (rep_d' h0))
theorem repsA {w : World} {F : Nat → Prop} {vs : Array Value} {a b : SV} (h : ∀ v, Rep w emp F v a → Rep w emp F v b) (hr : Reps w emp F vs [a]) : Reps w emp F vs [b] := by
  obtain ⟨h1, h2⟩ := hr
  refine ⟨h1, fun i hi => ?_⟩
  have h0 := h2 i hi
  match i, hi with
  | 0, _ => exact h _ h0
theorem repsB {w : World} {F : Nat → Prop} {vs : Array Value} {a b a' b' : SV} (h : ∀ v, Rep w emp F v a → Rep w emp F v b) (h' : ∀ v, Rep w emp F v a' → Rep w emp F v b') (hr : Reps w emp F vs [a, a']) : Reps w emp F vs [b, b'] := by
  obtain ⟨h1, h2⟩ := hr
  refine ⟨h1, fun i hi => ?_⟩
  have h0 := h2 i hi
  match i, hi with
  | 0, _ => exact h _ h0
  | 1, _ => exact h' _ h0
def _root_.Go.Proofs.ChOK (kd sd : DV) : Prop := IntsD kd ∧ BadsD sd ∧ ChLen (intsD kd) (badsD sd)
def _root_.Go.Sx.vchD (w h t p : Int) (kd sd : DV) : Int := vchE w h t p (intsD kd) (badsD sd)
def _root_.Go.Sx.smeD (w h t p : Int) (kd sd : DV) (w2 h2 t2 p2 : Int) (kd2 sd2 : DV) : Bool := smeB w h t p (intsD kd) (badsD sd) w2 h2 t2 p2 (intsD kd2) (badsD sd2)
theorem ctrOK_repS {P : Program} {C : Ctx} {dr : Dr} (hC : CtxOK P C) (hD : DrOK P C dr) {k : FuncId} {c : Ctr} (hf : (P.funcs[k]?).isSome = true) (hb : (fnOf P k).body.isSome = true)
    (h : ∀ ss r, (c ss).ev r → ∃ ss' n hint, (∀ (w : World) (F : Nat → Prop) vs, Reps w emp F vs ss → Reps w emp F vs ss') ∧ Sat P (fnT P C dr n (fnOf P k) (bodyOf P k) ss' hint) (· = r)) : CtrOK P k c := by
  intro ss vs w F r hF hgl hr hev
  obtain ⟨ss', n, hint, h1, h2⟩ := h ss r hev
  have h3 : CtrOK P k (fun s => .need (s = ss') (.ret r)) := ctrOK_S hC hD hf hb fun s r' hr' => by
    obtain ⟨rfl, rfl⟩ := hr'
    exact ⟨n, hint, h2⟩
  exact h3 ss' vs w F r hF hgl (h1 w F vs hr) ⟨rfl, rfl⟩
noncomputable def cVch : Ctr := fun ss => match ss with
  | [.agg [.d (.x (.int .i64 w)), .d (.x (.int .i64 h)), .d (.x (.int .i64 t)), .d (.x (.int .i64 p)), .d kd, .d sd]] => .need (ChOK kd sd) (.ret (iv (vchD w h t p kd sd)))
  | _ => .fail
theorem cVh_ok : CtrOK Tryz.prog 20 cVch := by
  refine ctrOK_repS CW_ok DW_ok (by kernel_rfl) (by kernel_rfl) fun ss r hr => ?_
  unfold cVch at hr
  split at hr
  · rename_i w h t p kd sd
    obtain ⟨⟨h1, h2, h3⟩, rfl⟩ := hr
    have k0 := vh_sat (w := w) (h := h) (t := t) (p := p) h3
    refine ⟨_, 200, .nil, fun w' F vs hr => ?_, k0⟩
    exact repsA (fun v => chip_rep h1 h2) hr
  · exact hr.elim
theorem cVi_ok : CtrOK Tryz.prog 19 cVch := by
  refine ctrOK_repS CW_ok DW_ok (by kernel_rfl) (by kernel_rfl) fun ss r hr => ?_
  unfold cVch at hr
  split at hr
  · rename_i w h t p kd sd
    obtain ⟨⟨h1, h2, h3⟩, rfl⟩ := hr
    have k0 := vi_sat (w := w) (h := h) (t := t) (p := p) h3
    refine ⟨_, 200, .nil, fun w' F vs hr => ?_, k0⟩
    exact repsA (fun v => chip_rep h1 h2) hr
  · exact hr.elim
noncomputable def cSme : Ctr := fun ss => match ss with
  | [.agg [.d (.x (.int .i64 w)), .d (.x (.int .i64 h)), .d (.x (.int .i64 t)), .d (.x (.int .i64 p)), .d kd, .d sd], .agg [.d (.x (.int .i64 w2)), .d (.x (.int .i64 h2)), .d (.x (.int .i64 t2)), .d (.x (.int .i64 p2)), .d kd2, .d sd2]] => .need (ChOK kd sd ∧ ChOK kd2 sd2) (.ret (bv (smeD w h t p kd sd w2 h2 t2 p2 kd2 sd2)))
  | _ => .fail
theorem cSme_ok : CtrOK Tryz.prog 18 cSme := by
  refine ctrOK_repS CW_ok DW_ok (by kernel_rfl) (by kernel_rfl) fun ss r hr => ?_
  unfold cSme at hr
  split at hr
  · rename_i w h t p kd sd w2 h2 t2 p2 kd2 sd2
    obtain ⟨⟨⟨h1, h3, h4⟩, h5, h6, h7⟩, rfl⟩ := hr
    have k0 := sm_sat (w := w) (h := h) (t := t) (p := p) (w2 := w2) (h2 := h2) (t2 := t2) (p2 := p2) h4 h7
    refine ⟨_, 200, .nil, fun w' F vs hr => ?_, k0⟩
    exact repsB (fun v => chip_rep h1 h3) (fun v => chip_rep h5 h6) hr
  · exact hr.elim
end Go.Proofs.YtgahnelicbddcaaGreatDoor

namespace Go.Proofs.YtgahnelicbddcaaGreatDoor
open Go.Sx
set_option maxRecDepth 100000
noncomputable def manK2 : FuncId → Option Ctr := fun k => match k with
  | 73 => some cSp
  | 74 => some cNb
  | 75 => some cRu
  | 76 => some cSl
  | 20 => some cVch
  | 16 => some cTxt
  | _ => none
theorem manK2_ok (k : Nat) (c : Ctr) (h : manK2 k = some c) : CtrOK Tryz.prog k c ∧ goodF Tryz.prog k = true := by
  unfold manK2 at h
  split at h
  · cases h; exact ⟨cSp_ok, by kernel_rfl⟩
  · cases h; exact ⟨cNb_ok, by kernel_rfl⟩
  · cases h; exact ⟨cRu_ok, by kernel_rfl⟩
  · cases h; exact ⟨cSl_ok, by kernel_rfl⟩
  · cases h; exact ⟨cVh_ok, by kernel_rfl⟩
  · cases h; exact ⟨cTxt_ok, by kernel_rfl⟩
  · cases h
noncomputable def CK2 : Ctx := ctxN Tryz.prog manK2 (fun _ => false) 200 .nil 8
theorem CK2_ok : CtxOK Tryz.prog CK2 := ctxN_ok mixed manK2_ok 8
noncomputable def DK2 : Dr := fun _ => drawn Tryz.prog CK2
theorem DK2_ok : DrOK Tryz.prog CK2 DK2 := drawn_ok CK2_ok mixed
noncomputable def TK2 (h : Hint) (k : Nat) (args : List SV) : Tree SV := fnT Tryz.prog CK2 DK2 200 (fnOf Tryz.prog k) (bodyOf Tryz.prog k) args h
noncomputable def tPa (s : List UInt8) : Tree SV := TK2 .nil 46 [strV s]
end Go.Proofs.YtgahnelicbddcaaGreatDoor

namespace Go.Proofs.YtgahnelicbddcaaGreatDoor
open Go.Sx
set_option maxRecDepth 100000
noncomputable def nilD : SV := .d (.x (.slice none 0 0))
noncomputable def invPa (s : List UInt8) (n : Nat) (C : Nat → List UInt8) (E : List Int) (W H T P : Int) (K : List Int) (y : Int) : AS := ⟨[.ok (strV s), .unk, .ok (.ptr 0 0), .ok (iv 0), .ok (strC n C), .ok (ivL E), .ok (.ptr 15 0)] ++ List.replicate 74 .unk ++ [.ok (iv H), .ok (iv y)] ++ List.replicate 54 .unk, [some (.cells [iv 0, iv 0, iv 0, iv 0, nilD, nilD])] ++ List.replicate 14 none ++ [some (.cells [iv W, iv H, iv T, iv P, .row 17 0 0 K.length 1, nilD]), none, some (lB K)], 18, .nil⟩
noncomputable def bodyPa : Code := loopN (bodyOf Tryz.prog 46) 0
noncomputable def tPb (s : List UInt8) (n : Nat) (C : Nat → List UInt8) (E : List Int) (W H T P : Int) (K : List Int) (y : Int) : Tree (Ex × AS) := cutT 17 [(.cell (.base 15) 4, 17)] [0, 2, 3, 4, 5, 6, 81, 82] [1, 2, 3, 4, 5, 6, 7, 8, 9, 10, 11, 12, 13, 14, 16] 18 .nil (exec Tryz.prog CK2 DK2 200 bodyPa (invPa s n C E W H T P K y))
noncomputable def BPa_q1 (C : Nat → List UInt8) (i : Nat) (x : Nat) : DV :=
  DV.x (.string (strB (C i)))
noncomputable def BPa_q2 (E : List Int) (i : Nat) (x : Nat) : DV :=
  DV.x (.int .i64 (List.getD E i (0 : Int)))
noncomputable def BPa_q3 (K : List Int) (i : Nat) (x : Nat) : DV :=
  DV.x (.int .i64 (List.getD K i (0 : Int)))
noncomputable def BPa (s : List UInt8) (n : Nat) (C : Nat → List UInt8) (E : List Int) (W H T P : Int) (K : List Int) (y : Int) : Tree (Ex × AS) :=
 .ite (decide (y < H))
 (.need ((0 : Int) ≤ (2 : Int) ∧ (2 : Int) < (↑(List.length E) : Int))
 (.need ((0 : Int) ≤ w64 (List.getD E 2 (0 : Int) - y) ∧ w64 (List.getD E 2 (0 : Int) - y) < (↑n : Int))
 (.code (codeC (sub [(0 : Nat), (0 : Nat), (0 : Nat)] (tPb s n C E W H T P K y))) (codeS (sub [(0 : Nat), (0 : Nat), (0 : Nat)] (tPb s n C E W H T P K y)))
 (codeK (sub [(0 : Nat), (0 : Nat), (0 : Nat)] (tPb s n C E W H T P K y))))))
 (.ret
 (.exit 0,
 {
 tm :=
 [.ok (SV.d (DV.x (.string (strB s)))), .unk, .ok (SV.ptr 0 0), .ok (iv (0 : Int)), .ok (SV.d (DV.ro n 1 (BPa_q1 C))),
 .ok (SV.d (DV.ro (List.length E) 1 (BPa_q2 E))), .ok (SV.ptr 15 0), .unk, .unk, .unk, .unk, .unk, .unk, .unk, .unk, .unk, .unk, .unk, .unk, .unk, .unk,
 .unk, .unk, .unk, .unk, .unk, .unk, .unk, .unk, .unk, .unk, .unk, .unk, .unk, .unk, .unk, .unk, .unk, .unk, .unk, .unk, .unk, .unk, .unk, .unk, .unk, .unk, .unk, .unk,
 .unk, .unk, .unk, .unk, .unk, .unk, .unk, .unk, .unk, .unk, .unk, .unk, .unk, .unk, .unk, .unk, .unk, .unk, .unk, .unk, .unk, .unk, .unk, .unk, .unk, .unk, .unk, .unk,
 .unk, .unk, .unk, .unk, .ok (iv H), .ok (iv y), .unk, .unk, .unk, .unk, .unk, .unk, .unk, .unk, .unk, .unk, .unk, .unk, .unk, .unk, .unk, .unk, .unk, .unk, .unk, .unk, .unk,
 .unk, .unk, .unk, .unk, .unk, .unk, .unk, .unk, .unk, .unk, .unk, .unk, .unk, .unk, .unk, .unk, .unk, .unk, .unk, .unk, .unk, .unk, .unk, .unk, .unk, .unk, .unk, .unk,
 .unk, .unk, .unk, .unk, .unk],
 hp :=
 [some (.cells [iv (0 : Int), iv (0 : Int), iv (0 : Int), iv (0 : Int), SV.d (DV.x (.slice none 0 0)), SV.d (DV.x (.slice none 0 0))]), none, none, none, none, none, none, none,
 none, none, none, none, none, none, none, some (.cells [iv W, iv H, iv T, iv P, SV.row 17 0 0 (List.length K) 1, SV.d (DV.x (.slice none 0 0))]), none,
 some (.row (List.length K) 1 (BPa_q3 K))],
 next := 18, hint := .nil }))

theorem BPa_eq (s : List UInt8) (n : Nat) (C : Nat → List UInt8) (E : List Int) (W H T P : Int) (K : List Int) (y : Int) : tPb s n C E W H T P K y = BPa s n C E W H T P K y := by kernel_rfl


end Go.Proofs.YtgahnelicbddcaaGreatDoor

