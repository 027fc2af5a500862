/- Part of a proof of the given statements of this seat (SxRnC, SxRnD, SxRnE, SxRnF, SxRnG, SxRnH, SxRnI, SxRnJ, SxRnK, SxRnL, SxRnM, SxRnN, SxRnO, SxRnP, SxRnQ, SxRnR, SxRnS, SxRnT, SxRnU, SxRnV, SxRnW, SxRnX, SxRnY, SxRnZ, SxRoA): no conditions beyond those typed here. -/
import Derived.Test.YtpaejfeojdoikaaSw07
set_option linter.unusedVariables false
set_option linter.unusedSimpArgs false
set_option linter.unusedSectionVars false
set_option linter.constructorNameAsVariable false

namespace Go.Sx
structure _root_.Go.Proofs.TyD (d n : Nat) (B : Nat → Nat → DV) (p w dp : Int) : Prop where
  hb : Proofs.BtD n B
  hp : 0 ≤ p ∧ p + tyK d ≤ 1000000000
  hd : dp = d ∧ 1 ≤ d ∧ d ≤ 8
  hw : 1 ≤ w ∧ w + d ≤ 20
def _root_.Go.Proofs.SpD (d n : Nat) (B : Nat → Nat → Sx.DV) (p w dp b : Int) : Prop := (Proofs.BtD n B ∧ (0 ≤ p ∧ p + tyK d ≤ 1000000000) ∧ (dp = d + 1 ∧ 1 ≤ d ∧ d ≤ 7) ∧ 1 ≤ w ∧ w + d ≤ 19) ∧ 0 ≤ b ∧ b ≤ 255
end Go.Sx
namespace Go.Proofs.Ytpaejfeojdoikaa.Rm
open Go.Sx
set_option maxRecDepth 100000
noncomputable def tyS (d n : Nat) (B : Nat → Nat → Sx.DV) (x : Xp × Int) : SV := .agg [iv x.1.op, .d (.x (.string x.1.nm)), iv x.1.kn, .d (.x (.string x.1.kp)), iv x.1.wn, .d (.x (.string x.1.wp)), .d (.ro (nOf d x.1) 7 (subC d x.1)), .d (.ro n 1 B), iv x.2]
abbrev TyF := Nat → (Nat → Nat → Sx.DV) → Nat → (Nat → Nat → Sx.DV) → Nat → (Nat → Nat → Sx.DV) → Bool → Int → Int → Xp × Int
noncomputable def cTy (F : TyF) (d : Nat) : Ctr := fun ss => match ss with
  | [.agg [.d (.ro n 1 B), .d (.x (.int .i64 p))], .agg [.d (.ro nr 1 R), .d (.ro nt 1 T), .d (.x (.slice none 0 0)), .d (.x (.bool da))], .agg [.d (.x (.int .i64 w)), .d (.x (.int .i64 dp))]] => .need ((WiD nr R ∧ WiD nt T) ∧ TyD d n B p w dp) (.ret (tyS d n B (F n B nr R nt T da p w)))
  | [.agg [.d (.ro n 1 B), .d (.x (.int .i64 p))], .agg [.d (.ro nr 1 R), .d (.x (.slice none 0 0)), .d (.x (.slice none 0 0)), .d (.x (.bool da))], .agg [.d (.x (.int .i64 w)), .d (.x (.int .i64 dp))]] => .need (WiD nr R ∧ TyD d n B p w dp) (.ret (tyS d n B (F n B nr R 0 noC da p w)))
  | _ => .fail
noncomputable def cSp (F : TyF) (d : Nat) : Ctr := fun ss => match ss with
  | [.agg [.d (.ro n 1 B), .d (.x (.int .i64 p))], .agg [.d (.ro nr 1 R), .d (.ro nt 1 T), .d (.x (.slice none 0 0)), .d (.x (.bool da))], .agg [.d (.x (.int .i64 w)), .d (.x (.int .i64 dp)), .d (.x (.int .i64 b))]] => .need ((WiD nr R ∧ WiD nt T) ∧ SpD d n B p w dp b) (.ret (tyS (d + 1) n B (spX (F n B nr R nt T da) p w b)))
  | [.agg [.d (.ro n 1 B), .d (.x (.int .i64 p))], .agg [.d (.ro nr 1 R), .d (.x (.slice none 0 0)), .d (.x (.slice none 0 0)), .d (.x (.bool da))], .agg [.d (.x (.int .i64 w)), .d (.x (.int .i64 dp)), .d (.x (.int .i64 b))]] => .need (WiD nr R ∧ SpD d n B p w dp b) (.ret (tyS (d + 1) n B (spX (F n B nr R 0 noC da) p w b)))
  | _ => .fail
noncomputable def manW (F : TyF) (d : Nat) : FuncId → Option Ctr := fun k => match k with
  | 165 => some cBy
  | 166 => some cOn
  | 169 => some (cTy F d)
  | 179 => some cLf
  | 180 => some (cSp F d)
  | _ => none
noncomputable def manW0 (F : TyF) (d : Nat) : FuncId → Option Ctr := fun k => match k with
  | 165 => some cBy
  | 169 => some (cTy F d)
  | _ => none
noncomputable def CW0 (F : TyF) (d : Nat) : Ctx := ctxN Try.prog (manW0 F d) (fun _ => false) 200 .nil 6
noncomputable def DW0 (F : TyF) (d : Nat) : Dr := drawnL Try.prog (CW0 F d)
noncomputable def CWl (F : TyF) (d : Nat) : Ctx := ctxN Try.prog (manW F d) (fun _ => false) 200 .nil 6
noncomputable def DWl (F : TyF) (d : Nat) : Dr := drawnL Try.prog (CWl F d)
section
variable (F : TyF) (d n : Nat) (B : Nat → Nat → Sx.DV) (nr : Nat) (R : Nat → Nat → Sx.DV) (nt : Nat) (T : Nat → Nat → Sx.DV) (da : Bool)
noncomputable def scA : SV := .agg [.d (.ro nr 1 R), .d (.ro nt 1 T), .d (.x (.slice none 0 0)), bv da]
noncomputable def tTy (p w dp : Int) (h : Hint) : Tree SV := fnT Try.prog (CWl F d) (DWl F d) 200 (fnOf Try.prog 169) (bodyOf Try.prog 169) [.agg [.d (.ro n 1 B), iv p], scA nr R nt T da, .agg [iv w, iv dp]] h
noncomputable def tSp (p w dp b : Int) (h : Hint) : Tree SV := fnT Try.prog (CW0 F d) (DW0 F d) 200 (fnOf Try.prog 180) (bodyOf Try.prog 180) [.agg [.d (.ro n 1 B), iv p], scA nr R nt T da, .agg [iv w, iv dp, iv b]] h
abbrev p7 : List Nat := [0, 0, 0, 0, 0, 0, 0]
noncomputable def cT5 (p w dp : Int) : Tree SV := sub p7 (tTy F d n B nr R nt T da p w dp (.c 4 .nil))
noncomputable def ndT : List Prop → Tree SV → Tree SV
  | [], t => t
  | p :: ps, t => .need p (ndT ps t)
noncomputable def xpV (d : Nat) (x : Xp) : List Sx.DV := [.x (.int .i64 x.op), .x (.string x.nm), .x (.int .i64 x.kn), .x (.string x.kp), .x (.int .i64 x.wn), .x (.string x.wp), .ro (nOf d x) 7 (subC d x)]
noncomputable def apX (m : Nat) (c : Nat → Nat → Sx.DV) (d : Nat) (x : Xp) : Nat → Nat → Sx.DV := fun a b => selD (decide (a < m)) (c (0 + a) b) (dsAt (xpV d x) (0 + (0 + (a - m)) * 7 + b))
def _root_.Go.Proofs.GrowX (m : Nat) : Prop := (match m with | 0 => True | q + 1 => 0 + (q + 1) ≤ q + 1) ∧ 7 ≤ 7 ∧ (m + 1) * 96 ≤ 140737488355328
noncomputable def argT (W : Prop) (d n : Nat) (B : Nat → Nat → Sx.DV) (g : Int → Int → Xp × Int) (dp : Int) (k : Nat → (Nat → Nat → Sx.DV) → Int → Tree SV) : List Int → Nat → (Nat → Nat → Sx.DV) → Int → Tree SV
  | [], m, c, p => k m c p
  | w :: ws, m, c, p => .need (W ∧ TyD d n B p w dp) (.need (GrowX m) (argT W d n B g dp k ws (m + 1) (apX m c d (g p w).1) (g p w).2))
noncomputable def endT (op : Int) (n : Nat) (B : Nat → Nat → Sx.DV) (m : Nat) (c : Nat → Nat → Sx.DV) (p : Int) : Tree SV :=
  .need (0 + m ≤ m) (.ret (.agg [iv op, .d (.x (.string (strB []))), iv 0, .d (.x (.string (strB []))), iv 0, .d (.x (.string (strB []))), .d (.ro m 7 fun i j => c (0 + i) j), .d (.ro n 1 B), iv p]))
noncomputable def slT (l : List (Nat × SV)) : List TV := (List.range 123).map fun k => match l.find? (fun e => Nat.beq e.1 k) with | some e => .ok e.2 | none => .unk
noncomputable def rsT : Option Blk := some (.cells [iv 0, .d (.x (.string (strB []))), iv 0, .d (.x (.string (strB []))), iv 0, .d (.x (.string (strB []))), .d (.x (.slice none 0 0)), .d (.x (.slice none 0 0)), iv 0])
noncomputable def stT (p w dp b k : Int) (h : Hint) : AS := ⟨slT [(3, .ptr 0 0), (4, .ptr 1 0), (6, .ptr 3 0), (7, iv w), (8, iv dp), (9, iv b), (10, iv k)], [some (.cells [.d (.ro n 1 B), iv (p + 1)]), some (.cells [.d (.ro nr 1 R), .d (.ro nt 1 T), .d (.x (.slice none 0 0)), bv da]), none, rsT, none, none, none, none, none, none, none], 11, h⟩
noncomputable def xTy (p w dp b k : Int) (h : Hint) : Tree SV := (exec Try.prog (CWl F d) (DWl F d) 200 (codeC (cT5 F d n B nr R nt T da p w dp)) (stT n B nr R nt T da p w dp b k h)).bind fun r => codeK (cT5 F d n B nr R nt T da p w dp) r.1 r.2
noncomputable def lfA (n : Nat) (B : Nat → Nat → Sx.DV) (x : Int × Int × Int) (p : Int) : SV := .agg [iv x.1, .d (.x (.string (strB []))), iv x.2.1, .d (.x (.string (strB []))), iv x.2.2, .d (.x (.string (strB []))), .d (.ro 0 7 noC), .d (.ro n 1 B), iv p]
theorem LX1_eq (p w dp b k : Int) : xTy F d n B nr R nt T da p w dp b k (.t .nil) = ndT [(decide (dp ≤ 1) || decide (k < 2)) = true, (14 : Int) ≠ 0, (WiD nr R ∧ WiD nt T) ∧ 0 ≤ w64 (Int.tdiv b 14) ∧ w64 (Int.tdiv b 14) ≤ 1000000] (.ret (lfA n B (lfX (lvS nr R nt T da w) w (w64 (Int.tdiv b 14))) (p + 1))) := by kernel_rfl
theorem LX2_eq (p w dp b : Int) : xTy F d n B nr R nt T da p w dp b 2 (.f (.t .nil)) = ndT [(decide (dp ≤ 1) || false) = false, true = true, (14 : Int) ≠ 0, (WiD nr R ∧ WiD nt T) ∧ SpD d n B (p + 1) w dp (w64 (Int.tdiv b 14))] (.ret (tyS (d + 1) n B (spX (F n B nr R nt T da) (p + 1) w (w64 (Int.tdiv b 14))))) := by kernel_rfl
theorem LX3_eq (p w dp b : Int) : xTy F d n B nr R nt T da p w dp b 3 (.f (.t .nil)) = ndT [(decide (dp ≤ 1) || false) = false, true = true, (14 : Int) ≠ 0, (WiD nr R ∧ WiD nt T) ∧ SpD d n B (p + 1) w dp (w64 (Int.tdiv b 14))] (.ret (tyS (d + 1) n B (spX (F n B nr R nt T da) (p + 1) w (w64 (Int.tdiv b 14))))) := by kernel_rfl
theorem LP_eq (p w dp : Int) : tTy F d n B nr R nt T da p w dp (.c 4 .nil) = .need ((0 : Int) ≤ 0 ∧ (0 : Int) < 2) (.need (0 < 2) (.need ((0 : Int) ≤ 1 ∧ (1 : Int) < 2) (.need (1 < 2) (.need (BtD n B ∧ 0 ≤ p) (.need ((0 ≤ p ∧ p ≤ 1000000000) ∧ (0 : Int) ≤ 1 ∧ (1 : Int) ≤ 1000) (.need ((14 : Int) ≠ 0)
  (.code (codeC (cT5 F d n B nr R nt T da p w dp)) (codeS (cT5 F d n B nr R nt T da p w dp)) (codeK (cT5 F d n B nr R nt T da p w dp)))))))))  := by kernel_rfl
theorem LX4_eq (p w dp b : Int) : xTy F d n B nr R nt T da p w dp b 4 (.f (.f .run)) = ndT [(decide (dp ≤ 1) || false) = false, false = false] (argT (WiD nr R ∧ WiD nt T) d n B (F n B nr R nt T da) (w64 (dp - 1)) (endT 2 n B) [w] 0 noC (p + 1)) := by kernel_rfl
theorem LX5_eq (p w dp b : Int) : xTy F d n B nr R nt T da p w dp b 5 (.f (.f .run)) = ndT [(decide (dp ≤ 1) || false) = false, false = false] (argT (WiD nr R ∧ WiD nt T) d n B (F n B nr R nt T da) (w64 (dp - 1)) (endT 3 n B) [w, w] 0 noC (p + 1)) := by kernel_rfl
theorem LX6_eq (p w dp b : Int) : xTy F d n B nr R nt T da p w dp b 6 (.f (.f .run)) = ndT [(decide (dp ≤ 1) || false) = false, false = false] (argT (WiD nr R ∧ WiD nt T) d n B (F n B nr R nt T da) (w64 (dp - 1)) (endT 4 n B) [w, w] 0 noC (p + 1)) := by kernel_rfl
theorem LX7_eq (p w dp b : Int) : xTy F d n B nr R nt T da p w dp b 7 (.f (.f .run)) = ndT [(decide (dp ≤ 1) || false) = false, false = false] (argT (WiD nr R ∧ WiD nt T) d n B (F n B nr R nt T da) (w64 (dp - 1)) (endT 5 n B) [w, w] 0 noC (p + 1)) := by kernel_rfl
theorem LX8_eq (p w dp b : Int) : xTy F d n B nr R nt T da p w dp b 8 (.f (.f .run)) = ndT [(decide (dp ≤ 1) || false) = false, false = false] (argT (WiD nr R ∧ WiD nt T) d n B (F n B nr R nt T da) (w64 (dp - 1)) (endT 6 n B) [w, w] 0 noC (p + 1)) := by kernel_rfl
theorem LX9_eq (p w dp b : Int) : xTy F d n B nr R nt T da p w dp b 9 (.f (.f .run)) = ndT [(decide (dp ≤ 1) || false) = false, false = false] (argT (WiD nr R ∧ WiD nt T) d n B (F n B nr R nt T da) (w64 (dp - 1)) (endT 7 n B) [w, w] 0 noC (p + 1)) := by kernel_rfl
theorem LX10_eq (p w dp b : Int) : xTy F d n B nr R nt T da p w dp b 10 (.f (.f .run)) = ndT [(decide (dp ≤ 1) || false) = false, false = false] (argT (WiD nr R ∧ WiD nt T) d n B (F n B nr R nt T da) (w64 (dp - 1)) (endT 10 n B) [1, w, w] 0 noC (p + 1)) := by kernel_rfl
theorem LX11t_eq (p w dp b : Int) : xTy F d n B nr R nt T da p w dp b 11 (.f (.f (.f (.f (.t (.t (.t .run))))))) = ndT [(decide (dp ≤ 1) || false) = false, false = false, (0 : Int) ≤ 7 ∧ (7 : Int) < 10, 7 < 10, false = false, false = false, true = true, true = true, decide (w > 1) = true] (argT (WiD nr R ∧ WiD nt T) d n B (F n B nr R nt T da) (w64 (dp - 1)) (endT 5 n B) [w, w] 0 noC (p + 1)) := by kernel_rfl
theorem LX11f_eq (p w dp b : Int) : xTy F d n B nr R nt T da p w dp b 11 (.f (.f (.f (.f (.t (.t (.f .run))))))) = ndT [(decide (dp ≤ 1) || false) = false, false = false, (0 : Int) ≤ 7 ∧ (7 : Int) < 10, 7 < 10, false = false, false = false, true = true, true = true, decide (w > 1) = false] (argT (WiD nr R ∧ WiD nt T) d n B (F n B nr R nt T da) (w64 (dp - 1)) (endT 8 n B) [w64 (1 + Int.tmod (w64 (Int.tdiv b 14)) 3), w64 (1 + Int.tmod (w64 (Int.tdiv b 14)) 3)] 0 noC (p + 1)) := by kernel_rfl
theorem LX12t_eq (p w dp b : Int) : xTy F d n B nr R nt T da p w dp b 12 (.f (.f (.f (.f (.f (.t (.t .run))))))) = ndT [(decide (dp ≤ 1) || false) = false, false = false, (0 : Int) ≤ 8 ∧ (8 : Int) < 10, 8 < 10, false = false, false = false, false = false, true = true, decide (w > 1) = true] (argT (WiD nr R ∧ WiD nt T) d n B (F n B nr R nt T da) (w64 (dp - 1)) (endT 5 n B) [w, w] 0 noC (p + 1)) := by kernel_rfl
theorem LX12f_eq (p w dp b : Int) : xTy F d n B nr R nt T da p w dp b 12 (.f (.f (.f (.f (.f (.t (.f .run))))))) = ndT [(decide (dp ≤ 1) || false) = false, false = false, (0 : Int) ≤ 8 ∧ (8 : Int) < 10, 8 < 10, false = false, false = false, false = false, true = true, decide (w > 1) = false] (argT (WiD nr R ∧ WiD nt T) d n B (F n B nr R nt T da) (w64 (dp - 1)) (endT 9 n B) [w64 (1 + Int.tmod (w64 (Int.tdiv b 14)) 3), w64 (1 + Int.tmod (w64 (Int.tdiv b 14)) 3)] 0 noC (p + 1)) := by kernel_rfl
theorem LX13t_eq (p w dp b : Int) : xTy F d n B nr R nt T da p w dp b 13 (.f (.f (.f (.f (.f (.f (.t (.t .run)))))))) = ndT [(decide (dp ≤ 1) || false) = false, false = false, (0 : Int) ≤ 9 ∧ (9 : Int) < 10, 9 < 10, false = false, false = false, false = false, false = false, true = true, (w == 1) = true] (argT (WiD nr R ∧ WiD nt T) d n B (F n B nr R nt T da) (w64 (dp - 1)) (endT 3 n B) [w, w] 0 noC (p + 1)) := by kernel_rfl
theorem LX13f_eq (p w dp b : Int) : xTy F d n B nr R nt T da p w dp b 13 (.f (.f (.f (.f (.f (.f (.t (.f .run)))))))) = ndT [(decide (dp ≤ 1) || false) = false, false = false, (0 : Int) ≤ 9 ∧ (9 : Int) < 10, 9 < 10, false = false, false = false, false = false, false = false, true = true, (w == 1) = false] (argT (WiD nr R ∧ WiD nt T) d n B (F n B nr R nt T da) (w64 (dp - 1)) (endT 11 n B) [w64 (w - 1), 1] 0 noC (p + 1)) := by kernel_rfl
noncomputable def spE (op kn w : Int) (d n : Nat) (B : Nat → Nat → Sx.DV) (x : Xp × Int) : Tree SV := .need (7 ≤ 7) (.ret (.agg [iv op, .d (.x (.string (strB []))), iv kn, .d (.x (.string (strB []))), iv w, .d (.x (.string (strB []))), .d (.ro 1 7 fun i j => dsAt (xpV d x.1) (0 + (0 + i) * 7 + j)), .d (.ro n 1 B), iv x.2]))
theorem LS_eq (p w dp b : Int) : tSp F d n B nr R nt T da p w dp b (.u (.f .nil)) = ndT [(0 : Int) ≤ 0 ∧ (0 : Int) < 3, 0 < 3, (0 : Int) ≤ 1 ∧ (1 : Int) < 3, 1 < 3, (0 : Int) ≤ 2 ∧ (2 : Int) < 3, 2 < 3, false = false, (3 : Int) ≠ 0]
  (.ite (Int.tmod b 3 == 1 && decide (w > 1))
    (.need ((WiD nr R ∧ WiD nt T) ∧ TyD d n B p (w64 (w - 1)) (w64 (dp - 1))) (spE 13 0 w d n B (F n B nr R nt T da p (w64 (w - 1)))))
    (ndT [(3 : Int) ≠ 0, (2 : Int) ≠ 0, (WiD nr R ∧ WiD nt T) ∧ TyD d n B p (w64 (w + Int.tmod (w64 (Int.tdiv b 3)) 2)) (w64 (dp - 1)), (3 : Int) ≠ 0, (2 : Int) ≠ 0]
      (spE 12 (Int.tmod (w64 (Int.tdiv b 3)) 2) w d n B (F n B nr R nt T da p (w64 (w + Int.tmod (w64 (Int.tdiv b 3)) 2)))))) := by kernel_rfl
end
end Go.Proofs.Ytpaejfeojdoikaa.Rm
namespace Go.Sx
def xrC (d : Nat) (l : List Xp) (a b : Nat) : DV := exJ (l.getD a .no) (nOf d (l.getD a .no)) (subC d (l.getD a .no)) b
end Go.Sx
namespace Go.Proofs.Ytpaejfeojdoikaa.Rm
open Go.Sx
set_option maxRecDepth 100000
theorem ndT_sat {t : Tree SV} {Q : SV → Prop} : ∀ (l : List Prop), (∀ p ∈ l, p) → Tree.sat Try.prog t Q → Tree.sat Try.prog (ndT l t) Q
  | [], _, h => h
  | p :: ps, hl, h => ⟨hl p (List.mem_cons_self ..), ndT_sat ps (fun q hq => hl q (List.mem_cons_of_mem _ hq)) h⟩
theorem apX_eq {d : Nat} {l : List Xp} {c : Nat → Nat → Sx.DV} (hc : ∀ a b, a < l.length → b < 7 → c a b = xrC d l a b) (x : Xp) (a b : Nat) (ha : a < (l ++ [x]).length) (hb : b < 7) : apX l.length c d x a b = xrC d (l ++ [x]) a b := by
  rw [List.length_append, List.length_singleton] at ha
  unfold apX
  rw [selD_eq, Nat.zero_add]
  by_cases h : a < l.length
  · rw [decide_eq_true h]
    have e : (l ++ [x]).getD a .no = l.getD a .no := by rw [List.getD_eq_getElem?_getD, List.getElem?_append_left h, ← List.getD_eq_getElem?_getD]
    show c a b = _
    rw [hc a b h hb]
    unfold xrC
    rw [e]
  · obtain rfl : a = l.length := by omega
    rw [decide_eq_false (by omega), Nat.sub_self]
    unfold xrC
    rw [show (l ++ [x]).getD l.length .no = x by rw [List.getD_eq_getElem?_getD, List.getElem?_append_right (Nat.le_refl _), Nat.sub_self]; rfl]
    have : b = 0 ∨ b = 1 ∨ b = 2 ∨ b = 3 ∨ b = 4 ∨ b = 5 ∨ b = 6 := by omega
    rcases this with rfl | rfl | rfl | rfl | rfl | rfl | rfl <;> rfl
def okA (d n : Nat) (B : Nat → Nat → Sx.DV) (g : Int → Int → Xp × Int) (dp : Int) : List Int → Int → Prop
  | [], p => True
  | w :: ws, p => TyD d n B p w dp ∧ okA d n B g dp ws (g p w).2
theorem arg_sat {W : Prop} {d n : Nat} {B : Nat → Nat → Sx.DV} {g : Int → Int → Xp × Int} {dp : Int} {k : Nat → (Nat → Nat → Sx.DV) → Int → Tree SV} {Q : SV → Prop} (hW : W) : ∀ (ws : List Int) (l : List Xp) (c : Nat → Nat → Sx.DV) (p : Int),
    (∀ a b, a < l.length → b < 7 → c a b = xrC d l a b) → l.length + ws.length ≤ 10 → okA d n B g dp ws p →
    (∀ (l' : List Xp) (c' : Nat → Nat → Sx.DV), l' = l ++ (chX g ws p).1 → (∀ a b, a < l'.length → b < 7 → c' a b = xrC d l' a b) → Tree.sat Try.prog (k l'.length c' (chX g ws p).2) Q) →
    Tree.sat Try.prog (argT W d n B g dp k ws l.length c p) Q
  | [], l, c, p, hc, _, _, hk => hk l c (List.append_nil l).symm hc
  | w :: ws, l, c, p, hc, hl, ho, hk => by
    rw [List.length_cons] at hl
    refine ⟨⟨hW, ho.1⟩, ⟨?_, Nat.le_refl 7, by omega⟩, ?_⟩
    · cases l with
      | nil => trivial
      | cons x l => show 0 + (l.length + 1) ≤ l.length + 1; omega
    · have h := arg_sat (W := W) (d := d) (n := n) (B := B) (g := g) (dp := dp) (k := k) (Q := Q) hW ws (l ++ [(g p w).1]) (apX l.length c d (g p w).1) (g p w).2 (fun a b ha hb => apX_eq hc _ a b ha hb) (by rw [List.length_append, List.length_singleton]; omega) ho.2 (fun l' c' hl' hc' => hk l' c' (by rw [hl', List.append_assoc]; rfl) hc')
      rw [List.length_append, List.length_singleton] at h
      exact h
theorem end_sat {op : Int} {n d : Nat} {B : Nat → Nat → Sx.DV} {l : List Xp} {c : Nat → Nat → Sx.DV} {p : Int} (hc : ∀ a b, a < l.length → b < 7 → c a b = xrC d l a b) :
    Tree.sat Try.prog (endT op n B l.length c p) fun r => leSV 0 [] [] r (tyS (d + 1) n B (xpA op 0 0 l, p)) := by
  refine ⟨by omega, ?_⟩
  refine ⟨rfl, rfl, rfl, rfl, rfl, rfl, ⟨rfl, rfl, fun a b ha hb => ?_⟩, ⟨rfl, rfl, fun _ _ _ _ => rfl⟩, rfl, rfl⟩
  show c (0 + a) b = _
  rw [Nat.zero_add, hc a b ha hb]
  rfl
end Go.Proofs.Ytpaejfeojdoikaa.Rm
namespace Go.Sx
def tyF (d : Nat) (n : Nat) (B : Nat → Nat → DV) (nr : Nat) (R : Nat → Nat → DV) (nt : Nat) (T : Nat → Nat → DV) (da : Bool) (p w : Int) : Xp × Int := tyX (byV n B) (lvS nr R nt T da) d p w
end Go.Sx
namespace Go.Proofs.Ytpaejfeojdoikaa.Rm
open Go.Sx
set_option maxRecDepth 100000
theorem manW0_ok {F : TyF} {d : Nat} (h : CtrOK Try.prog 169 (cTy F d)) (k : Nat) (c : Ctr) (hk : manW0 F d k = some c) : CtrOK Try.prog k c ∧ goodF Try.prog k = true := by
  unfold manW0 at hk
  split at hk
  · cases hk; exact ⟨cBy_ok, by kernel_rfl⟩
  · cases hk; exact ⟨h, by kernel_rfl⟩
  · cases hk
theorem CW0_ok {F : TyF} {d : Nat} (h : CtrOK Try.prog 169 (cTy F d)) : CtxOK Try.prog (CW0 F d) := ctxN_ok mixed (manW0_ok h) 6
theorem DW0_ok {F : TyF} {d : Nat} (h : CtrOK Try.prog 169 (cTy F d)) : DrOK Try.prog (CW0 F d) (DW0 F d) := drawnL_ok (CW0_ok h) mixed
theorem spE_sat {op kn w : Int} {d n : Nat} {B : Nat → Nat → Sx.DV} {x : Xp × Int} : Tree.sat Try.prog (spE op kn w d n B x) fun r => leSV 0 [] [] r (tyS (d + 1) n B (xpA op kn w [x.1], x.2)) := by
  refine ⟨Nat.le_refl 7, ?_⟩
  refine ⟨rfl, rfl, rfl, rfl, rfl, rfl, ⟨rfl, rfl, fun a b ha hb => ?_⟩, ⟨rfl, rfl, fun _ _ _ _ => rfl⟩, rfl, rfl⟩
  obtain rfl : a = 0 := by omega
  have : b = 0 ∨ b = 1 ∨ b = 2 ∨ b = 3 ∨ b = 4 ∨ b = 5 ∨ b = 6 := by omega
  rcases this with rfl | rfl | rfl | rfl | rfl | rfl | rfl <;> rfl
theorem sp_sat {F : TyF} {d n : Nat} {B : Nat → Nat → Sx.DV} {nr : Nat} {R : Nat → Nat → Sx.DV} {nt : Nat} {T : Nat → Nat → Sx.DV} {da : Bool} {p w dp b : Int} (hW : WiD nr R ∧ WiD nt T) (hs : SpD d n B p w dp b) :
    Sat Try.prog (tSp F d n B nr R nt T da p w dp b (.u (.f .nil))) fun r => leSV 0 [] [] r (tyS (d + 1) n B (spX (F n B nr R nt T da) p w b)) := by
  obtain ⟨⟨hb, ⟨hp0, hp1⟩, ⟨hd0, hd1, hd2⟩, hw0, hw1⟩, hb0, hb1⟩ := hs
  have e1 : w64 (Int.tdiv b 3) = b / 3 := by rw [Int.tdiv_eq_ediv_of_nonneg hb0, w64_of (by omega) (by omega)]
  have e2 : Int.tmod b 3 = b % 3 := Int.tmod_eq_emod_of_nonneg hb0
  have e3 : Int.tmod (b / 3) 2 = b / 3 % 2 := Int.tmod_eq_emod_of_nonneg (by omega)
  have e4 : w64 (dp - 1) = dp - 1 := w64_of (by omega) (by omega)
  have e5 : w64 (w - 1) = w - 1 := w64_of (by omega) (by omega)
  have e6 : w64 (w + b / 3 % 2) = w + b / 3 % 2 := w64_of (by omega) (by omega)
  refine Sat.of_eq (LS_eq F d n B nr R nt T da p w dp b) ⟨?_⟩
  rw [e1, e2, e3, e4, e5, e6]
  refine ndT_sat _ (fun q hq => ?_) ⟨fun h => ?_, fun h => ?_⟩
  · simp only [List.mem_cons, List.not_mem_nil, or_false] at hq
    rcases hq with rfl | rfl | rfl | rfl | rfl | rfl | rfl | rfl <;> decide
  · rw [Bool.and_eq_true, beq_iff_eq, decide_eq_true_eq] at h
    have e : spX (F n B nr R nt T da) p w b = (xpA 13 0 w [(F n B nr R nt T da p (w - 1)).1], (F n B nr R nt T da p (w - 1)).2) := by
      unfold spX; rw [if_pos h]
    rw [e]
    exact ⟨⟨hW, ⟨hb, ⟨hp0, hp1⟩, ⟨by omega, hd1, by omega⟩, by omega, by omega⟩⟩, spE_sat⟩
  · have h' : ¬(b % 3 = 1 ∧ w > 1) := by
      intro h2
      rw [h2.1, decide_eq_true h2.2] at h
      exact absurd h (by decide)
    have e : spX (F n B nr R nt T da) p w b = (xpA 12 (b / 3 % 2) w [(F n B nr R nt T da p (w + b / 3 % 2)).1], (F n B nr R nt T da p (w + b / 3 % 2)).2) := by
      unfold spX; rw [if_neg h']
    rw [e]
    refine ndT_sat _ (fun q hq => ?_) spE_sat
    simp only [List.mem_cons, List.not_mem_nil, or_false] at hq
    rcases hq with rfl | rfl | rfl | rfl | rfl
    · decide
    · decide
    · exact ⟨hW, ⟨hb, ⟨hp0, hp1⟩, ⟨by omega, hd1, by omega⟩, by omega, by omega⟩⟩
    · decide
    · decide
theorem WiD_no : WiD 0 noC := ⟨by decide, fun i hi => absurd hi (Nat.not_lt_zero _)⟩
theorem leRow (n e : Nat) (c : Nat → Nat → Sx.DV) : leSV 0 [] [] (.d (.ro n e c)) (.d (.ro n e c)) := ⟨rfl, rfl, fun _ _ _ _ => rfl⟩
theorem leNil (e : Nat) (c : Nat → Nat → Sx.DV) : leSV 0 [] [] (.d (.x (.slice none 0 0))) (.d (.ro 0 e c)) := ⟨rfl, rfl⟩
theorem cSp_ok {F : TyF} {d : Nat} (h : CtrOK Try.prog 169 (cTy F d)) : CtrOK Try.prog 180 (cSp F d) := ctrOK_leR (CW0_ok h) (DW0_ok h) (by kernel_rfl) (by kernel_rfl) fun ss r hr => by
  unfold cSp at hr
  split at hr
  · rename_i n B p nr R nt T da w dp b
    obtain ⟨⟨h1, h2⟩, rfl⟩ := hr
    exact ⟨[.agg [.d (.ro n 1 B), iv p], scA nr R nt T da, .agg [iv w, iv dp, iv b]], 200, .u (.f .nil), ⟨⟨leRow _ _ _, rfl, rfl⟩, ⟨leRow _ _ _, leRow _ _ _, rfl, rfl, rfl⟩, ⟨rfl, rfl, rfl, rfl⟩, rfl⟩, sp_sat h1 h2⟩
  · rename_i n B p nr R da w dp b
    obtain ⟨⟨h1, h2⟩, rfl⟩ := hr
    exact ⟨[.agg [.d (.ro n 1 B), iv p], scA nr R 0 noC da, .agg [iv w, iv dp, iv b]], 200, .u (.f .nil), ⟨⟨leRow _ _ _, rfl, rfl⟩, ⟨leRow _ _ _, leNil _ _, rfl, rfl, rfl⟩, ⟨rfl, rfl, rfl, rfl⟩, rfl⟩, sp_sat ⟨h1, WiD_no⟩ h2⟩
  · exact hr.elim
end Go.Proofs.Ytpaejfeojdoikaa.Rm
namespace Go.Proofs.Ytpaejfeojdoikaa.Rm
open Go.Sx
set_option maxRecDepth 100000
theorem manW_ok {F : TyF} {d : Nat} (h : CtrOK Try.prog 169 (cTy F d)) (k : Nat) (c : Ctr) (hk : manW F d k = some c) : CtrOK Try.prog k c ∧ goodF Try.prog k = true := by
  unfold manW at hk
  split at hk
  · cases hk; exact ⟨cBy_ok, by kernel_rfl⟩
  · cases hk; exact ⟨cOn_ok, by kernel_rfl⟩
  · cases hk; exact ⟨h, by kernel_rfl⟩
  · cases hk; exact ⟨cLf_ok, by kernel_rfl⟩
  · cases hk; exact ⟨cSp_ok h, by kernel_rfl⟩
  · cases hk
theorem CWl_ok {F : TyF} {d : Nat} (h : CtrOK Try.prog 169 (cTy F d)) : CtxOK Try.prog (CWl F d) := ctxN_ok mixed (manW_ok h) 6
theorem DWl_ok {F : TyF} {d : Nat} (h : CtrOK Try.prog 169 (cTy F d)) : DrOK Try.prog (CWl F d) (DWl F d) := drawnL_ok (CWl_ok h) mixed
section
variable {F : TyF} {d n : Nat} {B : Nat → Nat → Sx.DV} {nr : Nat} {R : Nat → Nat → Sx.DV} {nt : Nat} {T : Nat → Nat → Sx.DV} {da : Bool} {p w dp : Int}
theorem ty_gc (h : Hint) : Gc 11 (ups (codeS (cT5 F d n B nr R nt T da p w dp)) 11) (stT n B nr R nt T da p w dp (byV n B p) (Int.tmod (byV n B p) 14) h) :=
  entA_sound (t := cT5 F d n B nr R nt T da p w dp) (s' := stT n B nr R nt T da p w dp (byV n B p) (Int.tmod (byV n B p) 14) h) (roots := []) (keep := [3, 4, 6, 7, 8, 9, 10]) (drop := [2, 4, 5, 6, 7, 8, 9, 10]) (nx := 11) (h := h) (by kernel_rfl)
theorem ty_cut (hF : CtrOK Try.prog 169 (cTy F d)) {Q : SV → Prop} {k : Int} (hb : BtD n B) (hp : 0 ≤ p ∧ p ≤ 1000000000) (hk : Int.tmod (byV n B p) 14 = k) (h : Hint)
    (hx : Tree.sat Try.prog (xTy F d n B nr R nt T da p w dp (byV n B p) k h) Q) : Sat Try.prog (tTy F d n B nr R nt T da p w dp (.c 4 .nil)) Q := by
  refine Sat.of_eq (LP_eq F d n B nr R nt T da p w dp) ⟨⟨by decide, by decide, by decide, by decide, ⟨hb, hp.1⟩, ⟨hp, by decide⟩, by decide, ?_⟩⟩
  have hg := ty_gc (F := F) (d := d) (n := n) (B := B) (nr := nr) (R := R) (nt := nt) (T := T) (da := da) (p := p) (w := w) (dp := dp) h
  rw [hk] at hg
  have h7 : Nat.ble (codeS (cT5 F d n B nr R nt T da p w dp)).next 11 = true := by kernel_rfl
  generalize codeS (cT5 F d n B nr R nt T da p w dp) = s7 at hg h7 ⊢
  unfold xTy at hx
  generalize codeC (cT5 F d n B nr R nt T da p w dp) = c7 at hx ⊢
  generalize codeK (cT5 F d n B nr R nt T da p w dp) = k7 at hx ⊢
  exact code_cut (CWl_ok hF) (DWl_ok hF) (n := 200) (n0 := 11) h7 hg ⟨hx⟩
theorem okA_of {g : Int → Int → Xp × Int} (hb : BtD n B) (hd : dp = d ∧ 1 ≤ d ∧ d ≤ 8) (hg : ∀ p w, p ≤ (g p w).2 ∧ (g p w).2 ≤ p + tyK d) : ∀ (ws : List Int) (p : Int), (∀ w ∈ ws, 1 ≤ w ∧ w + d ≤ 20) → 0 ≤ p → p + tyK d * ws.length ≤ 1000000000 → okA d n B g dp ws p
  | [], _, _, _, _ => trivial
  | w :: ws, p, hw, hp, hl => by
    have h3 : tyK d * ((w :: ws).length : Int) = tyK d * ws.length + tyK d := by rw [List.length_cons, Int.natCast_add, Int.mul_add]; simp
    have h4 : 0 ≤ tyK d * (ws.length : Int) := Int.mul_nonneg (tyK_nn d) (Int.natCast_nonneg _)
    rw [h3] at hl
    have h5 := hg p w
    refine ⟨⟨hb, ⟨hp, by omega⟩, hd, hw w (List.mem_cons_self ..)⟩, okA_of hb hd hg ws (g p w).2 (fun x hx => hw x (List.mem_cons_of_mem _ hx)) (by omega) (by omega)⟩
theorem ty_args (hF : CtrOK Try.prog 169 (cTy F d)) (hW : WiD nr R ∧ WiD nt T) (hT : TyD (d + 1) n B p w dp) (hd : 1 ≤ d) (hg : ∀ p w, p ≤ (F n B nr R nt T da p w).2 ∧ (F n B nr R nt T da p w).2 ≤ p + tyK d)
    {k op : Int} {ws : List Int} {needs : List Prop} {h : Hint} (hk : Int.tmod (byV n B p) 14 = k)
    (he : xTy F d n B nr R nt T da p w dp (byV n B p) k h = ndT needs (argT (WiD nr R ∧ WiD nt T) d n B (F n B nr R nt T da) (w64 (dp - 1)) (endT op n B) ws 0 noC (p + 1)))
    (hn : ∀ q ∈ needs, q) (hws : ∀ w ∈ ws, 1 ≤ w ∧ w + d ≤ 20) (hl : ws.length ≤ 3) :
    Sat Try.prog (tTy F d n B nr R nt T da p w dp (.c 4 .nil)) fun r => leSV 0 [] [] r (tyS (d + 1) n B (xpA op 0 0 (chX (F n B nr R nt T da) ws (p + 1)).1, (chX (F n B nr R nt T da) ws (p + 1)).2)) := by
  obtain ⟨hb, ⟨hp0, hp1⟩, ⟨hd0, hd1, hd2⟩, hw0, hw1⟩ := hT
  have eK : tyK (d + 1) = 1 + 3 * tyK d := rfl
  have hK := tyK_nn d
  rw [eK] at hp1
  refine ty_cut hF hb ⟨hp0, by omega⟩ hk h ?_
  rw [he]
  refine ndT_sat _ hn ?_
  have e4 : w64 (dp - 1) = dp - 1 := w64_of (by omega) (by omega)
  rw [e4]
  have h2 : tyK d * (ws.length : Int) ≤ tyK d * 3 := Int.mul_le_mul_of_nonneg_left (by omega) hK
  refine arg_sat hW ws [] noC (p + 1) (fun a b ha => absurd ha (Nat.not_lt_zero _)) (by show 0 + ws.length ≤ 10; omega) (okA_of hb ⟨by omega, hd, by omega⟩ hg ws (p + 1) hws (by omega) (by omega)) fun l' c' hl' hc' => ?_
  rw [List.nil_append] at hl'
  rw [← hl']
  exact end_sat hc'
end
end Go.Proofs.Ytpaejfeojdoikaa.Rm
namespace Go.Proofs.Ytpaejfeojdoikaa.Rm
open Go.Sx
set_option maxRecDepth 100000
section
variable {d n : Nat} {B : Nat → Nat → Sx.DV} {nr : Nat} {R : Nat → Nat → Sx.DV} {nt : Nat} {T : Nat → Nat → Sx.DV} {da : Bool} {p w dp : Int}
theorem tyF_leaf (h : d = 0 ∨ byV n B p % 14 < 2) : tyF (d + 1) n B nr R nt T da p w = (xpL (lfX (lvS nr R nt T da w) w (byV n B p / 14)), p + 1) := by
  unfold tyF tyX
  exact if_pos h
theorem tyF_spec (h : ¬(d = 0 ∨ byV n B p % 14 < 2)) (h2 : byV n B p % 14 = 2 ∨ byV n B p % 14 = 3) : tyF (d + 1) n B nr R nt T da p w = spX (tyF d n B nr R nt T da) (p + 1) w (byV n B p / 14) := by
  unfold tyF
  rw [tyX, if_neg h, if_pos h2]
theorem tyF_args (h : ¬(d = 0 ∨ byV n B p % 14 < 2)) (h2 : ¬(byV n B p % 14 = 2 ∨ byV n B p % 14 = 3)) : tyF (d + 1) n B nr R nt T da p w =
    (xpA (tyOp (byV n B p % 14) w) 0 0 (chX (tyF d n B nr R nt T da) (tyWs (byV n B p % 14) w (byV n B p / 14)) (p + 1)).1, (chX (tyF d n B nr R nt T da) (tyWs (byV n B p % 14) w (byV n B p / 14)) (p + 1)).2) := by
  unfold tyF
  rw [tyX, if_neg h, if_neg h2]
theorem ty_sat (hF : CtrOK Try.prog 169 (cTy (tyF d) d)) (hW : WiD nr R ∧ WiD nt T) (hT : TyD (d + 1) n B p w dp) :
    Sat Try.prog (tTy (tyF d) d n B nr R nt T da p w dp (.c 4 .nil)) fun r => leSV 0 [] [] r (tyS (d + 1) n B (tyF (d + 1) n B nr R nt T da p w)) := by
  have hT' := hT
  obtain ⟨hb, ⟨hp0, hp1⟩, ⟨hd0, hd1, hd2⟩, hw0, hw1⟩ := hT'
  have eK : tyK (d + 1) = 1 + 3 * tyK d := rfl
  have hK := tyK_nn d
  rw [eK] at hp1
  have hv := byV_ok hb hp0
  have et : Int.tmod (byV n B p) 14 = byV n B p % 14 := Int.tmod_eq_emod_of_nonneg hv.1
  have ed : w64 (Int.tdiv (byV n B p) 14) = byV n B p / 14 := by rw [Int.tdiv_eq_ediv_of_nonneg hv.1, w64_of (by omega) (by omega)]
  have hg : ∀ p w, p ≤ (tyF d n B nr R nt T da p w).2 ∧ (tyF d n B nr R nt T da p w).2 ≤ p + tyK d := fun p w => tyX_pos _ _ d p w
  by_cases h1 : d = 0 ∨ byV n B p % 14 < 2
  · rw [tyF_leaf h1]
    refine ty_cut hF hb ⟨hp0, by omega⟩ rfl (.t .nil) ?_
    rw [LX1_eq, ed]
    refine ndT_sat _ (fun q hq => ?_) ?_
    · simp only [List.mem_cons, List.not_mem_nil, or_false] at hq
      rcases hq with rfl | rfl | rfl
      · rw [Bool.or_eq_true, decide_eq_true_eq, decide_eq_true_eq, et]; omega
      · decide
      · exact ⟨hW, by omega, by omega⟩
    · exact ⟨rfl, rfl, rfl, rfl, rfl, rfl, ⟨rfl, rfl, fun a b ha => absurd ha (Nat.not_lt_zero _)⟩, leRow _ _ _, rfl, rfl⟩
  have hd : 1 ≤ d := by omega
  have hdp : (decide (dp ≤ 1) || false) = false := by rw [Bool.or_false, decide_eq_false_iff_not]; omega
  by_cases h2 : byV n B p % 14 = 2 ∨ byV n B p % 14 = 3
  · rw [tyF_spec h1 h2]
    have hs : SpD d n B (p + 1) w dp (byV n B p / 14) := ⟨⟨hb, ⟨by omega, by omega⟩, ⟨by omega, hd, by omega⟩, hw0, by omega⟩, by omega, by omega⟩
    have hr : Tree.sat Try.prog (ndT [(decide (dp ≤ 1) || false) = false, true = true, (14 : Int) ≠ 0, (WiD nr R ∧ WiD nt T) ∧ SpD d n B (p + 1) w dp (byV n B p / 14)] (.ret (tyS (d + 1) n B (spX (tyF d n B nr R nt T da) (p + 1) w (byV n B p / 14))))) fun r => leSV 0 [] [] r (tyS (d + 1) n B (spX (tyF d n B nr R nt T da) (p + 1) w (byV n B p / 14))) := by
      refine ndT_sat _ (fun q hq => ?_) ⟨rfl, rfl, rfl, rfl, rfl, rfl, leRow _ _ _, leRow _ _ _, rfl, rfl⟩
      simp only [List.mem_cons, List.not_mem_nil, or_false] at hq
      rcases hq with rfl | rfl | rfl | rfl
      · exact hdp
      · trivial
      · decide
      · exact ⟨hW, hs⟩
    rcases h2 with h2 | h2
    · refine ty_cut hF hb ⟨hp0, by omega⟩ (et.trans h2) (.f (.t .nil)) ?_
      rw [LX2_eq, ed]; exact hr
    · refine ty_cut hF hb ⟨hp0, by omega⟩ (et.trans h2) (.f (.t .nil)) ?_
      rw [LX3_eq, ed]; exact hr
  rw [tyF_args h1 h2]
  have ew : w64 (w - 1) = w - 1 := w64_of (by omega) (by omega)
  have e3 : w64 (1 + Int.tmod (w64 (Int.tdiv (byV n B p) 14)) 3) = 1 + byV n B p / 14 % 3 := by
    rw [ed, Int.tmod_eq_emod_of_nonneg (by omega), w64_of (by omega) (by omega)]
  have hk : byV n B p % 14 = 4 ∨ byV n B p % 14 = 5 ∨ byV n B p % 14 = 6 ∨ byV n B p % 14 = 7 ∨ byV n B p % 14 = 8 ∨ byV n B p % 14 = 9 ∨ byV n B p % 14 = 10 ∨ byV n B p % 14 = 11 ∨ byV n B p % 14 = 12 ∨ byV n B p % 14 = 13 := by omega
  have hwd : 1 ≤ w ∧ w + d ≤ 20 := ⟨hw0, by omega⟩
  have w1 : ∀ x ∈ [w], 1 ≤ x ∧ x + d ≤ 20 := by simpa using hwd
  have w2 : ∀ x ∈ [w, w], 1 ≤ x ∧ x + d ≤ 20 := by simpa using hwd
  have w3 : ∀ x ∈ [1, w, w], 1 ≤ x ∧ x + d ≤ 20 := by
    intro x hx
    simp only [List.mem_cons, List.not_mem_nil, or_false] at hx
    rcases hx with rfl | rfl | rfl
    · omega
    · exact hwd
    · exact hwd
  have w4 : ∀ x ∈ [1 + byV n B p / 14 % 3, 1 + byV n B p / 14 % 3], 1 ≤ x ∧ x + d ≤ 20 := by
    intro x hx
    simp only [List.mem_cons, List.not_mem_nil, or_false] at hx
    rcases hx with rfl | rfl <;> omega
  have key : ∀ {k op : Int} {ws : List Int} {needs : List Prop} {h : Hint}, byV n B p % 14 = k → tyOp k w = op → tyWs k w (byV n B p / 14) = ws →
      xTy (tyF d) d n B nr R nt T da p w dp (byV n B p) k h = ndT needs (argT (WiD nr R ∧ WiD nt T) d n B (tyF d n B nr R nt T da) (w64 (dp - 1)) (endT op n B) ws 0 noC (p + 1)) →
      (∀ q ∈ needs, q) → (∀ w ∈ ws, 1 ≤ w ∧ w + d ≤ 20) → ws.length ≤ 3 →
      Sat Try.prog (tTy (tyF d) d n B nr R nt T da p w dp (.c 4 .nil)) fun r => leSV 0 [] [] r (tyS (d + 1) n B (xpA (tyOp (byV n B p % 14) w) 0 0 (chX (tyF d n B nr R nt T da) (tyWs (byV n B p % 14) w (byV n B p / 14)) (p + 1)).1, (chX (tyF d n B nr R nt T da) (tyWs (byV n B p % 14) w (byV n B p / 14)) (p + 1)).2)) := by
    intro k op ws needs h hk ho hw he hn hws hl
    rw [hk, ho, hw]
    exact ty_args hF hW hT hd hg (et.trans hk) he hn hws hl
  rcases hk with hk | hk | hk | hk | hk | hk | hk | hk | hk | hk
  · exact key hk (by simp [tyOp]) (by simp [tyWs]) (LX4_eq (tyF d) d n B nr R nt T da p w dp _) (by simp [hdp]) w1 (by simp)
  · exact key hk (by simp [tyOp]) (by simp [tyWs]) (LX5_eq (tyF d) d n B nr R nt T da p w dp _) (by simp [hdp]) w2 (by simp)
  · exact key hk (by simp [tyOp]) (by simp [tyWs]) (LX6_eq (tyF d) d n B nr R nt T da p w dp _) (by simp [hdp]) w2 (by simp)
  · exact key hk (by simp [tyOp]) (by simp [tyWs]) (LX7_eq (tyF d) d n B nr R nt T da p w dp _) (by simp [hdp]) w2 (by simp)
  · exact key hk (by simp [tyOp]) (by simp [tyWs]) (LX8_eq (tyF d) d n B nr R nt T da p w dp _) (by simp [hdp]) w2 (by simp)
  · exact key hk (by simp [tyOp]) (by simp [tyWs]) (LX9_eq (tyF d) d n B nr R nt T da p w dp _) (by simp [hdp]) w2 (by simp)
  · exact key hk (by simp [tyOp]) (by simp [tyWs]) (LX10_eq (tyF d) d n B nr R nt T da p w dp _) (by simp [hdp]) w3 (by simp)
  · by_cases hw : w > 1
    · exact key hk (by simp [tyOp, hw]) (by simp [tyWs, hw]) (LX11t_eq (tyF d) d n B nr R nt T da p w dp _) (by simp [hdp, hw]) w2 (by simp)
    · have he := LX11f_eq (tyF d) d n B nr R nt T da p w dp (byV n B p)
      rw [e3] at he
      exact key hk (by simp [tyOp, hw]) (by simp [tyWs, hw]) he (by simp [hdp, hw]) w4 (by simp)
  · by_cases hw : w > 1
    · exact key hk (by simp [tyOp, hw]) (by simp [tyWs, hw]) (LX12t_eq (tyF d) d n B nr R nt T da p w dp _) (by simp [hdp, hw]) w2 (by simp)
    · have he := LX12f_eq (tyF d) d n B nr R nt T da p w dp (byV n B p)
      rw [e3] at he
      exact key hk (by simp [tyOp, hw]) (by simp [tyWs, hw]) he (by simp [hdp, hw]) w4 (by simp)
  · by_cases hw : w = 1
    · exact key hk (by simp [tyOp, hw]) (by simp [tyWs, hw]) (LX13t_eq (tyF d) d n B nr R nt T da p w dp _) (by simp [hdp, hw]) w2 (by simp)
    · have he := LX13f_eq (tyF d) d n B nr R nt T da p w dp (byV n B p)
      rw [ew] at he
      refine key hk (by simp [tyOp, hw]) (by simp [tyWs, hw]) he (by simp [hdp, hw]) ?_ (by simp)
      intro x hx
      simp only [List.mem_cons, List.not_mem_nil, or_false] at hx
      rcases hx with rfl | rfl <;> omega
end
theorem cTy_ok : ∀ d, CtrOK Try.prog 169 (cTy (tyF d) d)
  | 0 => by
    intro ss vs w F r hF hgl hr hev
    unfold cTy at hev
    split at hev
    · obtain ⟨⟨_, _, _, ⟨_, h, _⟩, _⟩, _⟩ := hev
      exact absurd h (by decide)
    · obtain ⟨⟨_, _, _, ⟨_, h, _⟩, _⟩, _⟩ := hev
      exact absurd h (by decide)
    · exact hev.elim
  | d + 1 => ctrOK_leR (CWl_ok (cTy_ok d)) (DWl_ok (cTy_ok d)) (by kernel_rfl) (by kernel_rfl) fun ss r hr => by
    have hF := cTy_ok d
    unfold cTy at hr
    split at hr
    · rename_i n B p nr R nt T da w dp
      obtain ⟨⟨h1, h2⟩, rfl⟩ := hr
      exact ⟨[.agg [.d (.ro n 1 B), iv p], scA nr R nt T da, .agg [iv w, iv dp]], 200, .c 4 .nil, ⟨⟨leRow _ _ _, rfl, rfl⟩, ⟨leRow _ _ _, leRow _ _ _, rfl, rfl, rfl⟩, ⟨rfl, rfl, rfl⟩, rfl⟩, ty_sat hF h1 h2⟩
    · rename_i n B p nr R da w dp
      obtain ⟨⟨h1, h2⟩, rfl⟩ := hr
      exact ⟨[.agg [.d (.ro n 1 B), iv p], scA nr R 0 noC da, .agg [iv w, iv dp]], 200, .c 4 .nil, ⟨⟨leRow _ _ _, rfl, rfl⟩, ⟨leRow _ _ _, leNil _ _, rfl, rfl, rfl⟩, ⟨rfl, rfl, rfl⟩, rfl⟩, ty_sat hF ⟨h1, WiD_no⟩ h2⟩
    · exact hr.elim
end Go.Proofs.Ytpaejfeojdoikaa.Rm
namespace Go.Sx
def whF (n : Nat) (B : Nat → Nat → DV) (nr : Nat) (R : Nat → Nat → DV) (nt : Nat) (T : Nat → Nat → DV) (da : Bool) (p : Int) : Xp × Int :=
  if byV n B p % 4 = 1 then tyF 2 n B nr R nt T da (p + 1) 1 else (xpL (1, 1, 1), p + 1)
end Go.Sx
namespace Go.Proofs.Ytpaejfeojdoikaa.Rm
open Go.Sx
set_option maxRecDepth 100000
noncomputable def manX (F : TyF) : FuncId → Option Ctr := fun k => match k with
  | 165 => some cBy
  | 166 => some cOn
  | 169 => some (cTy F 2)
  | 178 => some cOe
  | _ => none
noncomputable def CXl (F : TyF) : Ctx := ctxN Try.prog (manX F) (fun _ => false) 200 .nil 6
noncomputable def DXl (F : TyF) : Dr := drawnL Try.prog (CXl F)
theorem manX_ok (k : Nat) (c : Ctr) (hk : manX (tyF 2) k = some c) : CtrOK Try.prog k c ∧ goodF Try.prog k = true := by
  unfold manX at hk
  split at hk
  · cases hk; exact ⟨cBy_ok, by kernel_rfl⟩
  · cases hk; exact ⟨cOn_ok, by kernel_rfl⟩
  · cases hk; exact ⟨cTy_ok 2, by kernel_rfl⟩
  · cases hk; exact ⟨cOe_ok, by kernel_rfl⟩
  · cases hk
theorem CXl_ok : CtxOK Try.prog (CXl (tyF 2)) := ctxN_ok mixed manX_ok 6
theorem DXl_ok : DrOK Try.prog (CXl (tyF 2)) (DXl (tyF 2)) := drawnL_ok CXl_ok mixed
noncomputable def LWh (F : TyF) (n : Nat) (B : Nat → Nat → Sx.DV) (nr : Nat) (R : Nat → Nat → Sx.DV) (nt : Nat) (T : Nat → Nat → Sx.DV) (da : Bool) (p : Int) : Tree SV :=
  .need (BtD n B ∧ (0 : Int) ≤ p) (.need ((4 : Int) ≠ (0 : Int))
   (.ite (Int.tmod (byV n B p) (4 : Int) != (1 : Int))
   (.need (((0 : Int) ≤ p ∧ p ≤ (1000000000 : Int)) ∧ (0 : Int) ≤ (1 : Int) ∧ (1 : Int) ≤ (1000 : Int)) (.ret (lfA n B (1, 1, 1) (p + 1))))
   (.need (((0 : Int) ≤ p ∧ p ≤ (1000000000 : Int)) ∧ (0 : Int) ≤ (1 : Int) ∧ (1 : Int) ≤ (1000 : Int))
   (.need ((WiD nr R ∧ WiD nt T) ∧ TyD 2 n B (p + (1 : Int)) (1 : Int) (2 : Int)) (.ret (tyS 2 n B (F n B nr R nt T da (p + 1) 1)))))))
theorem LWh_eq (F : TyF) (n : Nat) (B : Nat → Nat → Sx.DV) (nr : Nat) (R : Nat → Nat → Sx.DV) (nt : Nat) (T : Nat → Nat → Sx.DV) (da : Bool) (p : Int) : fnT Try.prog (CXl F) (DXl F) 200 (fnOf Try.prog 168) (bodyOf Try.prog 168) [.agg [.d (.ro n 1 B), iv p], scA nr R nt T da] .nil = LWh F n B nr R nt T da p := by kernel_rfl
theorem wh_sat {n : Nat} {B : Nat → Nat → Sx.DV} {nr : Nat} {R : Nat → Nat → Sx.DV} {nt : Nat} {T : Nat → Nat → Sx.DV} {da : Bool} {p : Int} (hW : WiD nr R ∧ WiD nt T) (hb : BtD n B) (hp : 0 ≤ p ∧ p ≤ 100000000) :
    Sat Try.prog (fnT Try.prog (CXl (tyF 2)) (DXl (tyF 2)) 200 (fnOf Try.prog 168) (bodyOf Try.prog 168) [.agg [.d (.ro n 1 B), iv p], scA nr R nt T da] .nil) fun r => leSV 0 [] [] r (tyS 2 n B (whF n B nr R nt T da p)) := by
  have hv := byV_ok hb hp.1
  have et : Int.tmod (byV n B p) 4 = byV n B p % 4 := Int.tmod_eq_emod_of_nonneg hv.1
  refine Sat.of_eq (LWh_eq (tyF 2) n B nr R nt T da p) ⟨?_⟩
  unfold LWh
  rw [et]
  refine ⟨⟨hb, hp.1⟩, by decide, fun h => ?_, fun h => ?_⟩
  · rw [bne_iff_ne] at h
    have e : whF n B nr R nt T da p = (xpL (1, 1, 1), p + 1) := by unfold whF; rw [if_neg h]
    rw [e]
    exact ⟨⟨by omega, by decide⟩, ⟨rfl, rfl, rfl, rfl, rfl, rfl, ⟨rfl, rfl, fun a b ha => absurd ha (Nat.not_lt_zero _)⟩, leRow _ _ _, rfl, rfl⟩⟩
  · rw [bne_eq_false_iff_eq] at h
    have e : whF n B nr R nt T da p = tyF 2 n B nr R nt T da (p + 1) 1 := by unfold whF; rw [if_pos h]
    rw [e]
    have eK : tyK 2 = 4 := by decide
    exact ⟨⟨by omega, by decide⟩, ⟨hW, ⟨hb, ⟨by omega, by rw [eK]; omega⟩, ⟨rfl, by decide, by decide⟩, by decide, by decide⟩⟩, ⟨rfl, rfl, rfl, rfl, rfl, rfl, leRow _ _ _, leRow _ _ _, rfl, rfl⟩⟩
abbrev WhF := Nat → (Nat → Nat → Sx.DV) → Nat → (Nat → Nat → Sx.DV) → Nat → (Nat → Nat → Sx.DV) → Bool → Int → Xp × Int
noncomputable def cWh (G : WhF) : Ctr := fun ss => match ss with
  | [.agg [.d (.ro n 1 B), .d (.x (.int .i64 p))], .agg [.d (.ro nr 1 R), .d (.ro nt 1 T), .d (.x (.slice none 0 0)), .d (.x (.bool da))]] => .need ((WiD nr R ∧ WiD nt T) ∧ BtD n B ∧ 0 ≤ p ∧ p ≤ 100000000) (.ret (tyS 2 n B (G n B nr R nt T da p)))
  | [.agg [.d (.ro n 1 B), .d (.x (.int .i64 p))], .agg [.d (.ro nr 1 R), .d (.x (.slice none 0 0)), .d (.x (.slice none 0 0)), .d (.x (.bool da))]] => .need (WiD nr R ∧ BtD n B ∧ 0 ≤ p ∧ p ≤ 100000000) (.ret (tyS 2 n B (G n B nr R 0 noC da p)))
  | _ => .fail
theorem cWh_ok : CtrOK Try.prog 168 (cWh whF) := ctrOK_leR CXl_ok DXl_ok (by kernel_rfl) (by kernel_rfl) fun ss r hr => by
  unfold cWh at hr
  split at hr
  · rename_i n B p nr R nt T da
    obtain ⟨⟨h1, h2, h3⟩, rfl⟩ := hr
    exact ⟨[.agg [.d (.ro n 1 B), iv p], scA nr R nt T da], 200, .nil, ⟨⟨leRow _ _ _, rfl, rfl⟩, ⟨leRow _ _ _, leRow _ _ _, rfl, rfl, rfl⟩, rfl⟩, wh_sat h1 h2 h3⟩
  · rename_i n B p nr R da
    obtain ⟨⟨h1, h2, h3⟩, rfl⟩ := hr
    exact ⟨[.agg [.d (.ro n 1 B), iv p], scA nr R 0 noC da], 200, .nil, ⟨⟨leRow _ _ _, rfl, rfl⟩, ⟨leRow _ _ _, leNil _ _, rfl, rfl, rfl⟩, rfl⟩, wh_sat ⟨h1, WiD_no⟩ h2 h3⟩
  · exact hr.elim
theorem whF_pos (n : Nat) (B : Nat → Nat → Sx.DV) (nr : Nat) (R : Nat → Nat → Sx.DV) (nt : Nat) (T : Nat → Nat → Sx.DV) (da : Bool) (p : Int) : p ≤ (whF n B nr R nt T da p).2 ∧ (whF n B nr R nt T da p).2 ≤ p + 5 := by
  unfold whF
  split
  · have h := tyX_pos (byV n B) (lvS nr R nt T da) 2 (p + 1) 1
    have eK : tyK 2 = 4 := by decide
    rw [eK] at h
    unfold tyF; omega
  · dsimp only; omega
theorem ExAny_of (d : Nat) (hd : d ≤ 8) (x : Xp) : ExAny (nOf d x) (subC d x) := ⟨d, hd, x, rfl, fun _ _ _ _ => rfl⟩
end Go.Proofs.Ytpaejfeojdoikaa.Rm
namespace Go.Sx
theorem Gc.frz (P : Program) {n0 : Nat} {st s1 : AS} (ls : List Nat) (he : frzSt ls st = s1) (hps : ∀ q ∈ frzP ls st, q) : Gc n0 st s1 :=
  fun _ _ _ _ _ hs => he ▸ frz_sim P hs hps
def listC {α : Type} (f : α → Nat → DV) (z : α) (l : List α) : Nat → Nat → DV := fun i j => f (l.getD i z) j
def apG (m : Nat) (c : Nat → Nat → DV) (e : Nat) (vs : List DV) : Nat → Nat → DV := fun a b => selD (decide (a < m)) (c (0 + a) b) (dsAt vs (0 + (0 + (a - m)) * e + b))
theorem apG_eq {α : Type} {f : α → Nat → DV} {z : α} {l : List α} {e : Nat} {vs : List DV} {x : α} (hv : ∀ b, b < e → dsAt vs b = f x b) (a b : Nat) (ha : a < l.length + 1) (hb : b < e) : apG l.length (listC f z l) e vs a b = listC f z (l ++ [x]) a b := by
  unfold apG
  rw [selD_eq, Nat.zero_add]
  unfold listC
  by_cases h : a < l.length
  · rw [decide_eq_true h]
    rw [show (l ++ [x]).getD a z = l.getD a z by rw [List.getD_eq_getElem?_getD, List.getElem?_append_left h, ← List.getD_eq_getElem?_getD]]
    rfl
  · obtain rfl : a = l.length := by omega
    rw [decide_eq_false (by omega), Nat.sub_self]
    rw [show (l ++ [x]).getD l.length z = x by rw [List.getD_eq_getElem?_getD, List.getElem?_append_right (Nat.le_refl _), Nat.sub_self]; rfl]
    rw [show 0 + (0 + 0) * e + b = b by simp]
    exact hv b hb
end Go.Sx
namespace Go.Proofs.Ytpaejfeojdoikaa.Rm
open Go.Sx
set_option maxRecDepth 100000
noncomputable def cTyA (F : Nat → TyF) : Ctr := fun ss => match ss with
  | [.agg [.d (.ro n 1 B), .d (.x (.int .i64 p))], .agg [.d (.ro nr 1 R), .d (.ro nt 1 T), .d (.x (.slice none 0 0)), .d (.x (.bool da))], .agg [.d (.x (.int .i64 w)), .d (.x (.int .i64 dp))]] => .need ((WiD nr R ∧ WiD nt T) ∧ TyD dp.toNat n B p w dp) (.ret (tyS dp.toNat n B (F dp.toNat n B nr R nt T da p w)))
  | _ => .fail
theorem cTyA_ok : CtrOK Try.prog 169 (cTyA tyF) := by
  intro ss vs w F r hF hgl hr hev
  unfold cTyA at hev
  split at hev
  · rename_i n B p nr R nt T da w' dp
    exact cTy_ok dp.toNat _ vs w F r hF hgl hr hev
  · exact hev.elim
end Go.Proofs.Ytpaejfeojdoikaa.Rm
namespace Go.Proofs.Ytpaejfeojdoikaa.Rm
open Go.Sx
set_option maxRecDepth 100000
noncomputable def manY (F : Nat → TyF) (G : WhF) : FuncId → Option Ctr := fun k => match k with
  | 165 => some cBy
  | 166 => some cOn
  | 167 => some cMk
  | 168 => some (cWh G)
  | 169 => some (cTyA F)
  | _ => none
noncomputable def CYl (F : Nat → TyF) (G : WhF) : Ctx := ctxN Try.prog (manY F G) (fun _ => false) 200 .nil 6
noncomputable def DYl (F : Nat → TyF) (G : WhF) : Dr := drawnL Try.prog (CYl F G)
noncomputable def tZo (F : Nat → TyF) (G : WhF) (n : Nat) (B : Nat → Nat → Sx.DV) (nm : ByteArray) (nt : Nat) (tk : Nat → Int) (np : Nat) (pt : Nat → Int) (p : Int) : Tree SV := fnT Try.prog (CYl F G) (DYl F G) 200 (fnOf Try.prog 120) (bodyOf Try.prog 120) [.agg [.d (.ro n 1 B), iv p], .d (.x (.string nm)), .agg [.d (.ro nt 1 fun i _ => .x (.int .i64 (tk i))), .d (.ro np 1 fun i _ => .x (.int .i64 (pt i)))]] .nil
noncomputable def slZ (l : List (Nat × SV)) : List TV := (List.range 167).map fun k => match l.find? (fun e => Nat.beq e.1 k) with | some e => .ok e.2 | none => .unk
noncomputable def rsZ : Option Blk := some (.cells [.d (.x (.string (strB []))), .d (.x (.string (strB []))), .d (.x (.slice none 0 0)), .d (.x (.slice none 0 0)), .d (.x (.slice none 0 0)), .d (.x (.slice none 0 0)), .d (.x (.slice none 0 0)), iv 0])
noncomputable def curZ (n : Nat) (B : Nat → Nat → Sx.DV) (p : Int) : Option Blk := some (.cells [.d (.ro n 1 B), iv p])
noncomputable def endZ (nt : Nat) (tk : Nat → Int) (np : Nat) (pt : Nat → Int) : Option Blk := some (.cells [.d (.ro nt 1 fun i _ => .x (.int .i64 (tk i))), .d (.ro np 1 fun i _ => .x (.int .i64 (pt i)))])
noncomputable def nlZ : SV := .d (.x (.slice none 0 0))
noncomputable def stZ1 (n : Nat) (B : Nat → Nat → Sx.DV) (nm ck : ByteArray) (nt : Nat) (tk : Nat → Int) (np : Nat) (pt : Nat → Int) (p b : Int) (m : Nat) (c : Nat → Nat → Sx.DV) (m' : Nat) (c' : Nat → Nat → Sx.DV) (i : Int) : AS := ⟨slZ [(3, .ptr 0 0), (5, .ptr 1 0), (6, .ptr 2 0), (7, iv b), (8, .ptr 5 0), (9, .ptr 7 0), (10, iv i)],
 [curZ n B p, endZ nt tk np pt, rsZ, none, none, some (.cells [.d (.x (.string nm)), .d (.x (.string ck)), .row 9 0 0 m 13, nlZ, nlZ, nlZ]), none, some (.cells [.row 10 0 0 m' 1, nlZ, nlZ, bv true]), none, some (.row m 13 c), some (.row m' 1 c')], 11, .nil⟩
noncomputable def stZ2 (n : Nat) (B : Nat → Nat → Sx.DV) (nm ck : ByteArray) (nt : Nat) (tk : Nat → Int) (np : Nat) (pt : Nat → Int) (p : Int) (nr : Nat) (c c' : Nat → Nat → Sx.DV) (m : Nat) (t : Nat → Nat → Sx.DV) (m' : Nat) (t' : Nat → Nat → Sx.DV) (i : Int) : AS := ⟨slZ [(3, .ptr 0 0), (5, .ptr 1 0), (6, .ptr 2 0), (8, .ptr 5 0), (9, .ptr 7 0), (12, iv i)],
 [curZ n B p, endZ nt tk np pt, rsZ, none, none, some (.cells [.d (.x (.string nm)), .d (.x (.string ck)), .row 9 0 0 nr 13, nlZ, .row 11 0 0 m 9, nlZ]), none, some (.cells [.d (.ro nr 1 c'), .row 12 0 0 m' 1, nlZ, bv true]), none, some (.row nr 13 c), none, some (.row m 9 t), some (.row m' 1 t')], 13, .nil⟩
noncomputable def stZ3 (n : Nat) (B : Nat → Nat → Sx.DV) (nm ck : ByteArray) (nt : Nat) (tk : Nat → Int) (np : Nat) (pt : Nat → Int) (p : Int) (nr : Nat) (c c' : Nat → Nat → Sx.DV) (t t' : Nat → Nat → Sx.DV) (i : Int) : AS := ⟨slZ [(3, .ptr 0 0), (5, .ptr 1 0), (6, .ptr 2 0), (8, .ptr 5 0), (9, .ptr 7 0), (14, iv i)],
 [curZ n B p, endZ nt tk np pt, rsZ, none, none, some (.cells [.d (.x (.string nm)), .d (.x (.string ck)), .row 9 0 0 nr 13, nlZ, .row 11 0 0 nt 9, nlZ]), none, some (.cells [.d (.ro nr 1 c'), .d (.ro nt 1 t'), nlZ, bv true]), none, some (.row nr 13 c), none, some (.row nt 9 t), none], 13, .nil⟩
noncomputable def stZ4 (n : Nat) (B : Nat → Nat → Sx.DV) (nm ck : ByteArray) (nt : Nat) (tk : Nat → Int) (np : Nat) (pt : Nat → Int) (p : Int) (nr : Nat) (c c' : Nat → Nat → Sx.DV) (t t' : Nat → Nat → Sx.DV) (m : Nat) (u : Nat → Nat → Sx.DV) (i : Int) : AS := ⟨slZ [(3, .ptr 0 0), (5, .ptr 1 0), (6, .ptr 2 0), (8, .ptr 5 0), (9, .ptr 7 0), (16, iv i)],
 [curZ n B p, endZ nt tk np pt, rsZ, none, none, some (.cells [.d (.x (.string nm)), .d (.x (.string ck)), .row 9 0 0 nr 13, nlZ, .row 11 0 0 nt 9, .row 13 0 0 m 16]), none, some (.cells [.d (.ro nr 1 c'), .d (.ro nt 1 t'), nlZ, bv true]), none, some (.row nr 13 c), none, some (.row nt 9 t), none, some (.row m 16 u)], 14, .nil⟩
noncomputable def rowQ (f : Nat → Int) (q : Nat → Nat → Sx.DV) : Nat → Nat → Sx.DV := fun i j => match j with
  | 1 => .x (.int .i64 (f i))
  | _ => q i j
noncomputable def ndA {α : Type} : List Prop → Tree α → Tree α
  | [], t => t
  | p :: ps, t => .need p (ndA ps t)
def _root_.Go.Proofs.GroZ (m e z : Nat) : Prop := 0 + m ≤ m ∧ e ≤ e ∧ (m + 1) * z ≤ 140737488355328
def wdV (b i : Int) : Int := w64 (1 + Int.tmod (w64 (w64 (Int.tdiv b 4) + i)) 2)
def inV (b i : Int) : Int := w64 (↑(BitVec.toNat (BitVec.ofInt 64 (w64 (Int.tdiv b 8)) &&& BitVec.ofInt 64 (mskV (wdV b i)))) : Int)
def rkV (b : Int) : Int := List.getD [(1 : Int), 1, 0] (0 + Int.toNat (Int.tmod (w64 (Int.tdiv b 16)) 3)) 0
noncomputable def rnV (i : Int) : ByteArray := List.getD [strB [114], strB [115]] (0 + Int.toNat i) (strB [])
noncomputable def ckV (b : Int) : ByteArray := List.getD [strB [97], strB [98]] (0 + Int.toNat (Int.tmod b 2)) (strB [])
noncomputable def rgV (b i : Int) : List Sx.DV := [.x (.string (rnV i)), .x (.int .i64 (wdV b i)), .x (.int .i64 (inV b i)), .x (.int .i64 0), .x (.string (strB [])), .x (.int .i64 0), .x (.string (strB [])), .x (.int .i64 0), .x (.string (strB [])), .x (.slice none 0 0), .x (.int .i64 (rkV b)), .x (.string (strB [])), .x (.int .i64 0)]
noncomputable def stC (k : Nat) (ds : List Sx.DV) (cell : Nat → Nat → Sx.DV) : Nat → Nat → Sx.DV := fun a b => if 3 ≤ b ∧ b < 10 then selD (decide (a = k)) (ds.getD (b - 3) (.x undef)) (cell a b) else cell a b
section
variable (F : Nat → TyF) (G : WhF) (n : Nat) (B : Nat → Nat → Sx.DV) (nm ck : ByteArray) (nt : Nat) (tk : Nat → Int) (np : Nat) (pt : Nat → Int)
abbrev p5 : List Nat := [0, 0, 0, 0, 0]
noncomputable def tZ1 (p : Int) : Tree SV := sub p5 (tZo F G n B nm nt tk np pt p)
theorem LZ0_eq (p : Int) : tZo F G n B nm nt tk np pt p = ndA [BtD n B ∧ 0 ≤ p, (0 ≤ p ∧ p ≤ 1000000000) ∧ (0 : Int) ≤ 1 ∧ (1 : Int) ≤ 1000, (2 : Int) ≠ 0, 0 ≤ Int.tmod (byV n B p) 2 ∧ Int.tmod (byV n B p) 2 < 2, 0 + Int.toNat (Int.tmod (byV n B p) 2) < 2] (atCode (tZ1 F G n B nm nt tk np pt p)) := by kernel_rfl
noncomputable def bodyZ1 : Code := loopN (bodyOf Try.prog 120) 0
noncomputable def bodyZ2 : Code := loopN (bodyOf Try.prog 120) 1
noncomputable def bodyZ3 : Code := loopN (bodyOf Try.prog 120) 2
noncomputable def bodyZ4 : Code := loopN (bodyOf Try.prog 120) 3
noncomputable def BZ1 (p b : Int) (m : Nat) (c : Nat → Nat → Sx.DV) (m' : Nat) (c' : Nat → Nat → Sx.DV) (i : Int) : Tree (Ex × AS) :=
  ndA [(2 : Int) ≠ 0, (2 : Int) ≠ 0] (.ite (decide (i < w64 (1 + Int.tmod (w64 (Int.tdiv b 2)) 2)))
    (ndA [(4 : Int) ≠ 0, (2 : Int) ≠ 0, (0 : Int) ≤ i ∧ i < 2, 0 + Int.toNat i < 2, (8 : Int) ≠ 0, (16 : Int) ≠ 0, (3 : Int) ≠ 0, 0 ≤ Int.tmod (w64 (Int.tdiv b 16)) 3 ∧ Int.tmod (w64 (Int.tdiv b 16)) 3 < 3, 0 + Int.toNat (Int.tmod (w64 (Int.tdiv b 16)) 3) < 3, GroZ m 13 160, GroZ m' 1 8]
      (.ret (.normal, stZ1 n B nm ck nt tk np pt p b (m + 1) (apG m c 13 (rgV b i)) (m' + 1) (apG m' c' 1 [.x (.int .i64 (wdV b i))]) (w64 (i + 1)))))
    (.ret (.exit 0, stZ1 n B nm ck nt tk np pt p b m c m' c' i)))
theorem BZ1_eq (p b : Int) (m : Nat) (c : Nat → Nat → Sx.DV) (m' : Nat) (c' : Nat → Nat → Sx.DV) (i : Int) : cutT 9 [(.cell (.base 5) 2, 9), (.cell (.base 7) 0, 10)] [3, 5, 6, 7, 8, 9, 10] [3, 4, 6, 8, 9, 10] 11 .nil (exec Try.prog (CYl F G) (DYl F G) 200 bodyZ1 (stZ1 n B nm ck nt tk np pt p b m c m' c' i)) = BZ1 n B nm ck nt tk np pt p b m c m' c' i := by kernel_rfl
noncomputable def BZ2 (p : Int) (nr : Nat) (c c' : Nat → Nat → Sx.DV) (m : Nat) (t : Nat → Nat → Sx.DV) (m' : Nat) (t' : Nat → Nat → Sx.DV) (i : Int) : Tree (Ex × AS) :=
  .ite (decide (i < (nt : Int)))
    (ndA [WiD nr c' ∧ BtD n B ∧ 0 ≤ p ∧ p ≤ 100000000, 0 ≤ i ∧ i < (nt : Int), GroZ m 9 112, GroZ m' 1 8]
      (.ret (.normal, stZ2 n B nm ck nt tk np pt (G n B nr c' 0 noC false p).2 nr c c' (m + 1) (apG m t 9 (.x (.int .i64 (tk i.toNat)) :: .x (.int .i64 2) :: xpV 2 (G n B nr c' 0 noC false p).1)) (m' + 1) (apG m' t' 1 [.x (.int .i64 2)]) (w64 (i + 1)))))
    (.ret (.exit 2, stZ2 n B nm ck nt tk np pt p nr c c' m t m' t' i))
theorem BZ2_eq (p : Int) (nr : Nat) (c c' : Nat → Nat → Sx.DV) (m : Nat) (t : Nat → Nat → Sx.DV) (m' : Nat) (t' : Nat → Nat → Sx.DV) (i : Int) : cutT 11 [(.cell (.base 5) 4, 11), (.cell (.base 7) 1, 12)] [3, 5, 6, 8, 9, 12] [3, 4, 6, 8, 10, 11, 12] 13 .nil (exec Try.prog (CYl F G) (DYl F G) 200 bodyZ2 (stZ2 n B nm ck nt tk np pt p nr c c' m t m' t' i)) = BZ2 G n B nm ck nt tk np pt p nr c c' m t m' t' i := by kernel_rfl
noncomputable def BZ3 (p : Int) (nr : Nat) (f : Nat → Int) (c c' t t' : Nat → Nat → Sx.DV) (i : Int) : Tree (Ex × AS) :=
  .ite (decide (i < (nr : Int)))
    (ndA [0 ≤ i ∧ i < (nr : Int), 0 + i.toNat < nr, (WiD nr c' ∧ WiD nt t') ∧ TyD 3 n B p (f (0 + i.toNat)) 3, 0 ≤ i ∧ i < (nr : Int), 0 + i.toNat < nr]
      (.ret (.normal, stZ3 n B nm ck nt tk np pt (F 3 n B nr c' nt t' true p (f (0 + i.toNat))).2 nr (stC (0 + i.toNat) (xpV 3 (F 3 n B nr c' nt t' true p (f (0 + i.toNat))).1) (rowQ f c)) c' t t' (w64 (i + 1)))))
    (.ret (.exit 4, stZ3 n B nm ck nt tk np pt p nr (rowQ f c) c' t t' i))
theorem BZ3_eq (p : Int) (nr : Nat) (f : Nat → Int) (c c' t t' : Nat → Nat → Sx.DV) (i : Int) : cutT 13 [] [3, 5, 6, 8, 9, 14] [3, 4, 6, 8, 10, 12] 13 .nil (exec Try.prog (CYl F G) (DYl F G) 200 bodyZ3 (stZ3 n B nm ck nt tk np pt p nr (rowQ f c) c' t t' i)) = BZ3 F n B nm ck nt tk np pt p nr f c c' t t' i := by kernel_rfl
noncomputable def BZ4 (p : Int) (nr : Nat) (c c' t t' : Nat → Nat → Sx.DV) (m : Nat) (u : Nat → Nat → Sx.DV) (i : Int) : Tree (Ex × AS) :=
  .ite (decide (i < (np : Int)))
    (ndA [(WiD nr c' ∧ WiD nt t') ∧ BtD n B ∧ 0 ≤ p ∧ p ≤ 100000000, (WiD nr c' ∧ WiD nt t') ∧ TyD 2 n B (G n B nr c' nt t' true p).2 2 2, 0 ≤ i ∧ i < (np : Int), GroZ m 16 208]
      (.ret (.normal, stZ4 n B nm ck nt tk np pt (F 2 n B nr c' nt t' true (G n B nr c' nt t' true p).2 2).2 nr c c' t t' (m + 1) (apG m u 16 (.x (.int .i64 (pt i.toNat)) :: .x (.int .i64 2) :: (xpV 2 (G n B nr c' nt t' true p).1 ++ xpV 2 (F 2 n B nr c' nt t' true (G n B nr c' nt t' true p).2 2).1))) (w64 (i + 1)))))
    (.ret (.exit 6, stZ4 n B nm ck nt tk np pt p nr c c' t t' m u i))
theorem BZ4_eq (p : Int) (nr : Nat) (c c' t t' : Nat → Nat → Sx.DV) (m : Nat) (u : Nat → Nat → Sx.DV) (i : Int) : cutT 13 [(.cell (.base 5) 5, 13)] [3, 5, 6, 8, 9, 16] [3, 4, 6, 8, 10, 12, 13] 14 .nil (exec Try.prog (CYl F G) (DYl F G) 200 bodyZ4 (stZ4 n B nm ck nt tk np pt p nr c c' t t' m u i)) = BZ4 F G n B nm ck nt tk np pt p nr c c' t t' m u i := by kernel_rfl
end
end Go.Proofs.Ytpaejfeojdoikaa.Rm
namespace Go.Proofs.Ytpaejfeojdoikaa.Rm
open Go.Sx
set_option maxRecDepth 100000
structure Za where
  p : Int
  b : Int
  m : Nat
  c : Nat → Nat → Sx.DV
  m' : Nat
  c' : Nat → Nat → Sx.DV
  i : Int
structure Zb where
  p : Int
  nr : Nat
  c : Nat → Nat → Sx.DV
  c' : Nat → Nat → Sx.DV
  m : Nat
  t : Nat → Nat → Sx.DV
  m' : Nat
  t' : Nat → Nat → Sx.DV
  i : Int
structure Zc where
  p : Int
  nr : Nat
  c : Nat → Nat → Sx.DV
  c' : Nat → Nat → Sx.DV
  t : Nat → Nat → Sx.DV
  t' : Nat → Nat → Sx.DV
  i : Int
section
variable (F : Nat → TyF) (G : WhF) (n : Nat) (B : Nat → Nat → Sx.DV) (nm ck : ByteArray) (nt : Nat) (tk : Nat → Int) (np : Nat) (pt : Nat → Int)
noncomputable def tY2 (p0 : Int) (x : Za) : Tree SV := codeK (tZ1 F G n B nm nt tk np pt p0) (.exit 0) (stZ1 n B nm ck nt tk np pt x.p x.b x.m x.c x.m' x.c' x.i)
theorem KY1_eq (p0 : Int) (x : Za) : tY2 F G n B nm ck nt tk np pt p0 x = atCode (tY2 F G n B nm ck nt tk np pt p0 x) := by kernel_rfl
noncomputable def tY3 (p0 : Int) (x : Za) (y : Zb) : Tree SV := codeK (tY2 F G n B nm ck nt tk np pt p0 x) (.exit 2) (stZ2 n B nm ck nt tk np pt y.p y.nr y.c y.c' y.m y.t y.m' y.t' y.i)
theorem KY2_eq (p0 : Int) (x : Za) (y : Zb) : tY3 F G n B nm ck nt tk np pt p0 x y = atCode (tY3 F G n B nm ck nt tk np pt p0 x y) := by kernel_rfl
noncomputable def tY4 (p0 : Int) (x : Za) (y : Zb) (z : Zc) : Tree SV := codeK (tY3 F G n B nm ck nt tk np pt p0 x y) (.exit 4) (stZ3 n B nm ck nt tk np pt z.p z.nr z.c z.c' z.t z.t' z.i)
theorem KY3_eq (p0 : Int) (x : Za) (y : Zb) (z : Zc) : tY4 F G n B nm ck nt tk np pt p0 x y z = atCode (tY4 F G n B nm ck nt tk np pt p0 x y z) := by kernel_rfl
theorem KY4_eq (p0 : Int) (x : Za) (y : Zb) (z : Zc) (p : Int) (nr : Nat) (c c' t t' : Nat → Nat → Sx.DV) (m : Nat) (u : Nat → Nat → Sx.DV) (i : Int) : codeK (tY4 F G n B nm ck nt tk np pt p0 x y z) (.exit 6) (stZ4 n B nm ck nt tk np pt p nr c c' t t' m u i) =
  ndA [0 + nr ≤ nr, 0 + nt ≤ nt, 0 + m ≤ m] (.ret (.agg [.d (.x (.string nm)), .d (.x (.string ck)), .d (.ro nr 13 fun i j => c (0 + i) j), .d (.x (.slice none 0 0)), .d (.ro nt 9 fun i j => t (0 + i) j), .d (.ro m 16 fun i j => u (0 + i) j), .d (.ro n 1 B), iv p])) := by kernel_rfl
end
end Go.Proofs.Ytpaejfeojdoikaa.Rm
namespace Go.Sx
open Go.Proofs.Ytpaejfeojdoikaa.Rm
def ixL (k : Nat) : List Int := (List.range k).map Int.ofNat
theorem ixL_len (k : Nat) : (ixL k).length = k := by unfold ixL; simp
theorem ixL_succ (k : Nat) : ixL (k + 1) = ixL k ++ [(k : Int)] := by unfold ixL; rw [List.range_succ, List.map_append]; rfl
theorem ixL_get {k i : Nat} (h : i < k) : (ixL k).getD i 0 = (i : Int) := by
  unfold ixL
  rw [List.getD_eq_getElem?_getD, List.getElem?_map, List.getElem?_range h]; rfl
def xtX (d : Nat) (x : Xp) : XT := ⟨x.op, x.nm, x.kn, x.kp, x.wn, x.wp, nOf d x, subC d x⟩
def nrG (b : Int) : Nat := (1 + b / 2 % 2).toNat
noncomputable def rgF (b : Int) : Int → Nat → DV := fun x j => dsAt (rgV b x) j
noncomputable def wdF (b : Int) : Int → Nat → DV := fun x j => dsAt [.x (.int .i64 (wdV b x))] j
def twF : Int → Nat → DV := fun x j => dsAt [.x (.int .i64 2)] j
noncomputable def RgR (b : Int) : Nat → Nat → DV := fun i j => listC (wdF b) 0 (ixL (nrG b)) (0 + i) j
def TkR (nt : Nat) : Nat → Nat → DV := fun i j => listC twF 0 (ixL nt) (0 + i) j
def tkG (g : Int → Xp × Int) (tk : Nat → Int) (p : Int) : Nat → List TkT × Int
  | 0 => ([], p)
  | k + 1 => ((tkG g tk p k).1 ++ [⟨tk k, 2, xtX 2 (g (tkG g tk p k).2).1⟩], (g (tkG g tk p k).2).2)
def nxG (f : Int → Int → Xp × Int) (wd : Nat → Int) (p : Int) : Nat → List Xp × Int
  | 0 => ([], p)
  | k + 1 => ((nxG f wd p k).1 ++ [(f (nxG f wd p k).2 (wd k)).1], (f (nxG f wd p k).2 (wd k)).2)
def ptG (g : Int → Xp × Int) (f : Int → Int → Xp × Int) (pt : Nat → Int) (p : Int) : Nat → List PtT × Int
  | 0 => ([], p)
  | k + 1 => ((ptG g f pt p k).1 ++ [⟨pt k, 2, xtX 2 (g (ptG g f pt p k).2).1, xtX 2 (f (g (ptG g f pt p k).2).2 2).1⟩], (f (g (ptG g f pt p k).2).2 2).2)
def zXT : XT := ⟨0, strB [], 0, strB [], 0, strB [], 0, noC⟩
def zTk : TkT := ⟨0, 0, zXT⟩
def zPt : PtT := ⟨0, 0, zXT, zXT⟩
theorem tkG_len (g : Int → Xp × Int) (tk : Nat → Int) (p : Int) : ∀ k, (tkG g tk p k).1.length = k
  | 0 => rfl
  | k + 1 => by unfold tkG; rw [List.length_append, tkG_len g tk p k]; rfl
theorem nxG_len (f : Int → Int → Xp × Int) (wd : Nat → Int) (p : Int) : ∀ k, (nxG f wd p k).1.length = k
  | 0 => rfl
  | k + 1 => by unfold nxG; rw [List.length_append, nxG_len f wd p k]; rfl
theorem ptG_len (g : Int → Xp × Int) (f : Int → Int → Xp × Int) (pt : Nat → Int) (p : Int) : ∀ k, (ptG g f pt p k).1.length = k
  | 0 => rfl
  | k + 1 => by unfold ptG; rw [List.length_append, ptG_len g f pt p k]; rfl
theorem tkG_pos {g : Int → Xp × Int} {tk : Nat → Int} {p : Int} (hg : ∀ p, p ≤ (g p).2 ∧ (g p).2 ≤ p + 5) : ∀ k, p ≤ (tkG g tk p k).2 ∧ (tkG g tk p k).2 ≤ p + 5 * k
  | 0 => by show p ≤ p ∧ p ≤ p + 5 * ((0 : Nat) : Int); omega
  | k + 1 => by
    have h1 := tkG_pos (tk := tk) (p := p) hg k
    have h2 := hg (tkG g tk p k).2
    show p ≤ (g (tkG g tk p k).2).2 ∧ (g (tkG g tk p k).2).2 ≤ _
    omega
theorem nxG_pos {f : Int → Int → Xp × Int} {wd : Nat → Int} {p : Int} (hf : ∀ p w, p ≤ (f p w).2 ∧ (f p w).2 ≤ p + 13) : ∀ k, p ≤ (nxG f wd p k).2 ∧ (nxG f wd p k).2 ≤ p + 13 * k
  | 0 => by show p ≤ p ∧ p ≤ p + 13 * ((0 : Nat) : Int); omega
  | k + 1 => by
    have h1 := nxG_pos (wd := wd) (p := p) hf k
    have h2 := hf (nxG f wd p k).2 (wd k)
    show p ≤ (f (nxG f wd p k).2 (wd k)).2 ∧ (f (nxG f wd p k).2 (wd k)).2 ≤ _
    omega
theorem ptG_pos {g : Int → Xp × Int} {f : Int → Int → Xp × Int} {pt : Nat → Int} {p : Int} (hg : ∀ p, p ≤ (g p).2 ∧ (g p).2 ≤ p + 5) (hf : ∀ p w, p ≤ (f p w).2 ∧ (f p w).2 ≤ p + 13) : ∀ k, p ≤ (ptG g f pt p k).2 ∧ (ptG g f pt p k).2 ≤ p + 18 * k
  | 0 => by show p ≤ p ∧ p ≤ p + 18 * ((0 : Nat) : Int); omega
  | k + 1 => by
    have h1 := ptG_pos (pt := pt) (p := p) hg hf k
    have h2 := hg (ptG g f pt p k).2
    have h3 := hf (g (ptG g f pt p k).2).2 2
    show p ≤ (f (g (ptG g f pt p k).2).2 2).2 ∧ (f (g (ptG g f pt p k).2).2 2).2 ≤ _
    omega
noncomputable def rgM (b : Int) (l : List Xp) : Nat → Nat → DV := fun i j => if (3 ≤ j ∧ j < 10) ∧ i < l.length then (xpV 3 (l.getD i .no)).getD (j - 3) (.x undef) else dsAt (rgV b i) j
noncomputable def prG (nm : ByteArray) (b : Int) (nx : List Xp) (nt : Nat) (tl : List TkT) (np : Nat) (pl : List PtT) : PrT :=
  ⟨nm, ckV b, nrG b, fun i => ⟨rnV i, wdV b i, inV b i, xtX 3 (nx.getD i .no), rkV b, strB [], 0⟩, nt, fun i => tl.getD i zTk, np, fun i => pl.getD i zPt⟩
end Go.Sx
namespace Go.Sx
theorem leTm_map (n0 : Nat) (ρ : List (Nat × Nat)) (nils : List Nat) (f : Nat → TV) : ∀ ks : List Nat, (∀ k ∈ ks, leTV n0 ρ nils (f k) (f k)) → leTm n0 ρ nils (ks.map f) (ks.map f)
  | [], _ => trivial
  | k :: ks, h => ⟨h k (List.mem_cons_self ..), leTm_map n0 ρ nils f ks fun x hx => h x (List.mem_cons_of_mem _ hx)⟩
end Go.Sx
namespace Go.Proofs.Ytpaejfeojdoikaa.Rm
open Go.Sx
set_option maxRecDepth 100000
theorem leTm_slZ (n0 : Nat) (ρ : List (Nat × Nat)) (nils : List Nat) (l : List (Nat × SV)) (h : ∀ e ∈ l, leSV n0 ρ nils e.2 e.2) : leTm n0 ρ nils (slZ l) (slZ l) := by
  unfold slZ
  refine leTm_map n0 ρ nils _ _ fun k _ => ?_
  cases hf : l.find? (fun e => Nat.beq e.1 k) with
  | none => trivial
  | some e => exact h e (List.mem_of_find?_eq_some hf)
theorem ndA_sat {α : Type} {t : Tree α} {Q : α → Prop} : ∀ (l : List Prop), (∀ p ∈ l, p) → Tree.sat Try.prog t Q → Tree.sat Try.prog (ndA l t) Q
  | [], _, h => h
  | p :: ps, hl, h => ⟨hl p (List.mem_cons_self ..), ndA_sat ps (fun q hq => hl q (List.mem_cons_of_mem _ hq)) h⟩
theorem manY_ok (k : Nat) (c : Ctr) (hk : manY tyF whF k = some c) : CtrOK Try.prog k c ∧ goodF Try.prog k = true := by
  unfold manY at hk
  split at hk
  · cases hk; exact ⟨cBy_ok, by kernel_rfl⟩
  · cases hk; exact ⟨cOn_ok, by kernel_rfl⟩
  · cases hk; exact ⟨cMk_ok, by kernel_rfl⟩
  · cases hk; exact ⟨cWh_ok, by kernel_rfl⟩
  · cases hk; exact ⟨cTyA_ok, by kernel_rfl⟩
  · cases hk
theorem CYl_ok : CtxOK Try.prog (CYl tyF whF) := ctxN_ok mixed manY_ok 6
theorem DYl_ok : DrOK Try.prog (CYl tyF whF) (DYl tyF whF) := drawnL_ok CYl_ok mixed
noncomputable def prS (n : Nat) (B : Nat → Nat → Sx.DV) (x : PrT) (p : Int) : SV := .agg [.d (.x (.string x.nm)), .d (.x (.string x.ck)), .d (.ro x.nr 13 fun i j => rgC (x.r i) j), .d (.ro 0 27 noC), .d (.ro x.nt 9 fun i j => tkC (x.t i) j), .d (.ro x.np 16 fun i j => ptC (x.p i) j), .d (.ro n 1 B), iv p]
theorem tyF_pos3 (n : Nat) (B : Nat → Nat → Sx.DV) (nr : Nat) (R : Nat → Nat → Sx.DV) (nt : Nat) (T : Nat → Nat → Sx.DV) (p w : Int) : p ≤ (tyF 3 n B nr R nt T true p w).2 ∧ (tyF 3 n B nr R nt T true p w).2 ≤ p + 13 := by
  have h := tyX_pos (byV n B) (lvS nr R nt T true) 3 p w
  have eK : tyK 3 = 13 := by decide
  rw [eK] at h; exact h
theorem tyF_pos2 (n : Nat) (B : Nat → Nat → Sx.DV) (nr : Nat) (R : Nat → Nat → Sx.DV) (nt : Nat) (T : Nat → Nat → Sx.DV) (p w : Int) : p ≤ (tyF 2 n B nr R nt T true p w).2 ∧ (tyF 2 n B nr R nt T true p w).2 ≤ p + 13 := by
  have h := tyX_pos (byV n B) (lvS nr R nt T true) 2 p w
  have eK : tyK 2 = 4 := by decide
  rw [eK] at h
  unfold tyF; omega
theorem ptV_eq (pt : Int) (x y : Xp) (b : Nat) (hb : b < 16) : dsAt (.x (.int .i64 pt) :: .x (.int .i64 2) :: (xpV 2 x ++ xpV 2 y)) b = ptC ⟨pt, 2, xtX 2 x, xtX 2 y⟩ b := by
  have : b = 0 ∨ b = 1 ∨ b = 2 ∨ b = 3 ∨ b = 4 ∨ b = 5 ∨ b = 6 ∨ b = 7 ∨ b = 8 ∨ b = 9 ∨ b = 10 ∨ b = 11 ∨ b = 12 ∨ b = 13 ∨ b = 14 ∨ b = 15 := by omega
  rcases this with rfl | rfl | rfl | rfl | rfl | rfl | rfl | rfl | rfl | rfl | rfl | rfl | rfl | rfl | rfl | rfl <;> rfl
theorem tkV_eq (tk : Int) (x : Xp) (b : Nat) (hb : b < 9) : dsAt (.x (.int .i64 tk) :: .x (.int .i64 2) :: xpV 2 x) b = tkC ⟨tk, 2, xtX 2 x⟩ b := by
  have : b = 0 ∨ b = 1 ∨ b = 2 ∨ b = 3 ∨ b = 4 ∨ b = 5 ∨ b = 6 ∨ b = 7 ∨ b = 8 := by omega
  rcases this with rfl | rfl | rfl | rfl | rfl | rfl | rfl | rfl | rfl <;> rfl
theorem rgM_lo {b : Int} {nx : List Xp} {i j : Nat} (h : ¬(3 ≤ j ∧ j < 10)) : rgM b nx i j = dsAt (rgV b i) j := if_neg fun h2 => h h2.1
theorem rgM_hi {b : Int} {nx : List Xp} {i j : Nat} (h : 3 ≤ j ∧ j < 10) (hi : i < nx.length) : rgM b nx i j = (xpV 3 (nx.getD i .no)).getD (j - 3) (.x undef) := if_pos ⟨h, hi⟩
theorem rgM_no {b : Int} {nx : List Xp} {i j : Nat} (hi : nx.length ≤ i) : rgM b nx i j = dsAt (rgV b i) j := if_neg fun h2 => absurd h2.2 (by omega)
theorem rg_eq {b : Int} {nx : List Xp} {i j : Nat} (hn : nx.length = nrG b) (hi : i < nrG b) (hj : j < 13) : rowQ (fun i => wdV b i) (rgM b nx) i j = rgC ⟨rnV i, wdV b i, inV b i, xtX 3 (nx.getD i .no), rkV b, strB [], 0⟩ j := by
  have hl : i < nx.length := by omega
  have : j = 0 ∨ j = 1 ∨ j = 2 ∨ j = 3 ∨ j = 4 ∨ j = 5 ∨ j = 6 ∨ j = 7 ∨ j = 8 ∨ j = 9 ∨ j = 10 ∨ j = 11 ∨ j = 12 := by omega
  rcases this with rfl | rfl | rfl | rfl | rfl | rfl | rfl | rfl | rfl | rfl | rfl | rfl | rfl
  · exact (rgM_lo (b := b) (nx := nx) (i := i) (j := 0) (by decide)).trans rfl
  · rfl
  · exact (rgM_lo (b := b) (nx := nx) (i := i) (j := 2) (by decide)).trans rfl
  · exact (rgM_hi (b := b) (nx := nx) (i := i) (j := 3) (by decide) hl).trans rfl
  · exact (rgM_hi (b := b) (nx := nx) (i := i) (j := 4) (by decide) hl).trans rfl
  · exact (rgM_hi (b := b) (nx := nx) (i := i) (j := 5) (by decide) hl).trans rfl
  · exact (rgM_hi (b := b) (nx := nx) (i := i) (j := 6) (by decide) hl).trans rfl
  · exact (rgM_hi (b := b) (nx := nx) (i := i) (j := 7) (by decide) hl).trans rfl
  · exact (rgM_hi (b := b) (nx := nx) (i := i) (j := 8) (by decide) hl).trans rfl
  · exact (rgM_hi (b := b) (nx := nx) (i := i) (j := 9) (by decide) hl).trans rfl
  · exact (rgM_lo (b := b) (nx := nx) (i := i) (j := 10) (by decide)).trans rfl
  · exact (rgM_lo (b := b) (nx := nx) (i := i) (j := 11) (by decide)).trans rfl
  · exact (rgM_lo (b := b) (nx := nx) (i := i) (j := 12) (by decide)).trans rfl
theorem WiD_rg (b : Int) : WiD (nrG b) (RgR b) := by
  refine ⟨by unfold nrG; omega, fun i hi => ?_⟩
  rfl
theorem WiD_tk {nt : Nat} (h : nt ≤ 1000) : WiD nt (TkR nt) := ⟨h, fun i hi => rfl⟩
end Go.Proofs.Ytpaejfeojdoikaa.Rm
namespace Go.Proofs.Ytpaejfeojdoikaa.Rm
open Go.Sx
set_option maxRecDepth 100000
section
variable {n : Nat} {B : Nat → Nat → Sx.DV} {nm : ByteArray} {nt : Nat} {tk : Nat → Int} {np : Nat} {pt : Nat → Int} {b p0 p3 i3 : Int} {x : Za} {y : Zb} {nx : List Xp} {tl : List TkT}
noncomputable def gW (n : Nat) (B : Nat → Nat → Sx.DV) (b : Int) (nt : Nat) : Int → Xp × Int := fun p => whF n B (nrG b) (RgR b) nt (TkR nt) true p
noncomputable def fW (d n : Nat) (B : Nat → Nat → Sx.DV) (b : Int) (nt : Nat) : Int → Int → Xp × Int := fun p w => tyF d n B (nrG b) (RgR b) nt (TkR nt) true p w
noncomputable def zcV (p : Int) (b : Int) (nx : List Xp) (tl : List TkT) (nt : Nat) (i : Int) : Zc := ⟨p, nrG b, rowQ (fun i => wdV b i) (rgM b nx), RgR b, listC tkC zTk tl, TkR nt, i⟩
noncomputable def s4 (n : Nat) (B : Nat → Nat → Sx.DV) (nm : ByteArray) (nt : Nat) (tk : Nat → Int) (np : Nat) (pt : Nat → Int) (b : Int) (nx : List Xp) (tl : List TkT) (p : Int) (l : List PtT) (i : Int) : AS :=
  stZ4 n B nm (ckV b) nt tk np pt p (nrG b) (rowQ (fun i => wdV b i) (rgM b nx)) (RgR b) (listC tkC zTk tl) (TkR nt) l.length (listC ptC zPt l) i
theorem z4_ent : Gc 13 (ups (codeS (tY4 tyF whF n B nm (ckV b) nt tk np pt p0 x y (zcV p3 b nx tl nt i3))) 13) (s4 n B nm nt tk np pt b nx tl p3 [] 0) := by
  refine (entA_sound (s' := ⟨slZ [(3, .ptr 0 0), (5, .ptr 1 0), (6, .ptr 2 0), (8, .ptr 5 0), (9, .ptr 7 0), (16, iv 0)],
    [curZ n B p3, endZ nt tk np pt, rsZ, none, none, some (.cells [.d (.x (.string nm)), .d (.x (.string (ckV b))), .row 9 0 0 (nrG b) 13, nlZ, .row 11 0 0 nt 9, nlZ]), none, some (.cells [.d (.ro (nrG b) 1 (RgR b)), .d (.ro nt 1 (TkR nt)), nlZ, bv true]), none, some (.row (nrG b) 13 (rowQ (fun i => wdV b i) (rgM b nx))), none, some (.row nt 9 (listC tkC zTk tl)), none], 13, .nil⟩) (roots := []) (keep := [3, 5, 6, 8, 9, 16]) (drop := [3, 4, 6, 8, 10, 12]) (nx := 13) (h := .nil) (by kernel_rfl)).trans ?_
  refine gc_sound [] [13] rfl ?_ ?_
  · exact leTm_slZ 13 [] [13] [(3, .ptr 0 0), (5, .ptr 1 0), (6, .ptr 2 0), (8, .ptr 5 0), (9, .ptr 7 0), (16, iv 0)] (by simp [leSV, rn, iv, leD])
  · simp [s4, stZ4, curZ, endZ, rsZ, nlZ, leHp, leBlk, leSVs, leSV, rn, iv, bv, leD, srcOf, hget]
theorem z4_sat (hb : BtD n B) (h3 : 0 ≤ p3 ∧ p3 ≤ 10000000) (hnt : nt ≤ 10) (hnp : np ≤ 10) (hx : nx.length = nrG b) (ht : tl.length = nt) :
    Sat Try.prog (tY4 tyF whF n B nm (ckV b) nt tk np pt p0 x y (zcV p3 b nx tl nt i3)) fun r => leSV 0 [] [] r (prS n B (prG nm b nx nt tl np (ptG (gW n B b nt) (fW 2 n B b nt) pt p3 np).1) (ptG (gW n B b nt) (fW 2 n B b nt) pt p3 np).2) := by
  have hg : ∀ p, p ≤ (gW n B b nt p).2 ∧ (gW n B b nt p).2 ≤ p + 5 := fun p => whF_pos n B _ _ _ _ _ p
  have hf : ∀ p w, p ≤ (fW 2 n B b nt p w).2 ∧ (fW 2 n B b nt p w).2 ≤ p + 13 := fun p w => tyF_pos2 n B _ _ _ _ p w
  have hW : WiD (nrG b) (RgR b) ∧ WiD nt (TkR nt) := ⟨WiD_rg b, WiD_tk (by omega)⟩
  refine Sat.of_eq (KY3_eq tyF whF n B nm (ckV b) nt tk np pt p0 x y (zcV p3 b nx tl nt i3)) ⟨?_⟩
  refine code_satS CYl_ok DYl_ok (n := 200) (n0 := 13) (nx := 14) (roots := [(.cell (.base 5) 5, 13)]) (keep := [3, 5, 6, 8, 9, 16]) (drop := [3, 4, 6, 8, 10, 12, 13]) (h := .nil) (c := codeC (tY4 tyF whF n B nm (ckV b) nt tk np pt p0 x y (zcV p3 b nx tl nt i3))) (st := codeS (tY4 tyF whF n B nm (ckV b) nt tk np pt p0 x y (zcV p3 b nx tl nt i3))) (k := codeK (tY4 tyF whF n B nm (ckV b) nt tk np pt p0 x y (zcV p3 b nx tl nt i3))) (body := bodyZ4) (by kernel_rfl) (by kernel_rfl)
    (fun q t => ∃ k : Nat, q = np - k ∧ k ≤ np ∧ t = s4 n B nm nt tk np pt b nx tl (ptG (gW n B b nt) (fW 2 n B b nt) pt p3 k).2 (ptG (gW n B b nt) (fW 2 n B b nt) pt p3 k).1 k)
    (fun e t => e = .exit 6 ∧ ∃ i : Int, t = s4 n B nm nt tk np pt b nx tl (ptG (gW n B b nt) (fW 2 n B b nt) pt p3 np).2 (ptG (gW n B b nt) (fW 2 n B b nt) pt p3 np).1 i)
    ⟨_, _, ⟨0, rfl, by omega, rfl⟩, z4_ent⟩ ?_ ?_
  · rintro q t ⟨k, rfl, hk, rfl⟩
    have h5 := ptG_pos (pt := pt) (p := p3) hg hf k
    have h6 := ptG_len (gW n B b nt) (fW 2 n B b nt) pt p3 k
    have hs : ptG (gW n B b nt) (fW 2 n B b nt) pt p3 (k + 1) = ((ptG (gW n B b nt) (fW 2 n B b nt) pt p3 k).1 ++ [⟨pt k, 2, xtX 2 (gW n B b nt (ptG (gW n B b nt) (fW 2 n B b nt) pt p3 k).2).1, xtX 2 (fW 2 n B b nt (gW n B b nt (ptG (gW n B b nt) (fW 2 n B b nt) pt p3 k).2).2 2).1⟩], (fW 2 n B b nt (gW n B b nt (ptG (gW n B b nt) (fW 2 n B b nt) pt p3 k).2).2 2).2) := rfl
    generalize hM : ptG (gW n B b nt) (fW 2 n B b nt) pt p3 k = M at h5 h6 hs ⊢
    obtain ⟨L, p⟩ := M
    dsimp only at h5 h6 hs ⊢
    have h7 := hg p
    have h8 := hf (gW n B b nt p).2 2
    refine Sat.of_eq (BZ4_eq tyF whF n B nm (ckV b) nt tk np pt p (nrG b) (rowQ (fun i => wdV b i) (rgM b nx)) (RgR b) (listC tkC zTk tl) (TkR nt) L.length (listC ptC zPt L) k) ⟨?_⟩
    unfold BZ4
    rw [Int.toNat_natCast]
    refine ⟨fun h1 => ?_, fun h1 => ?_⟩
    · simp only [decide_eq_true_eq] at h1
      rw [w64_of (n := (k : Int) + 1) (by omega) (by omega)]
      refine ndA_sat _ (fun q hq => ?_) ?_
      · simp only [List.mem_cons, List.not_mem_nil, or_false] at hq
        rcases hq with rfl | rfl | rfl | rfl
        · exact ⟨hW, hb, by omega, by omega⟩
        · have eK : tyK 2 = 4 := by decide
          refine ⟨hW, ⟨hb, ⟨?_, ?_⟩, ⟨rfl, by decide, by decide⟩, by decide, by decide⟩⟩
          · have : 0 ≤ (gW n B b nt p).2 := by omega
            exact this
          · have : (gW n B b nt p).2 + tyK 2 ≤ 1000000000 := by rw [eK]; omega
            exact this
        · omega
        · exact ⟨by omega, Nat.le_refl _, by omega⟩
      · refine ⟨np - (k + 1), _, by omega, ⟨k + 1, rfl, by omega, rfl⟩, ?_⟩
        rw [hs]
        unfold s4 stZ4
        refine gc_hp rfl rfl ⟨.inr ⟨_, _, rfl, rfl, .refl _⟩, .inr ⟨_, _, rfl, rfl, .refl _⟩, .inr ⟨_, _, rfl, rfl, .refl _⟩, .inl rfl, .inl rfl, .inr ⟨_, _, rfl, by rw [List.length_append]; rfl, .refl _⟩, .inl rfl, .inr ⟨_, _, rfl, rfl, .refl _⟩, .inl rfl, .inr ⟨_, _, rfl, rfl, .refl _⟩, .inl rfl, .inr ⟨_, _, rfl, rfl, .refl _⟩, .inl rfl, .inr ⟨_, _, rfl, by rw [List.length_append]; rfl, .row fun a j ha hj => ?_⟩, trivial⟩
        exact apG_eq (fun j hj => ptV_eq (pt k) _ _ j hj) a j ha hj
    · simp only [decide_eq_false_iff_not] at h1
      obtain rfl : k = np := by omega
      refine ⟨_, ⟨rfl, (k : Int), rfl⟩, ?_⟩
      rw [hM]
      exact Gc.refl _ _
  · rintro e t ⟨rfl, i4, rfl⟩
    have h6 := ptG_len (gW n B b nt) (fW 2 n B b nt) pt p3 np
    generalize ptG (gW n B b nt) (fW 2 n B b nt) pt p3 np = M at h6 ⊢
    obtain ⟨L, p⟩ := M
    dsimp only at h6 ⊢
    refine Sat.of_eq (KY4_eq tyF whF n B nm (ckV b) nt tk np pt p0 x y (zcV p3 b nx tl nt i3) p (nrG b) (rowQ (fun i => wdV b i) (rgM b nx)) (RgR b) (listC tkC zTk tl) (TkR nt) L.length (listC ptC zPt L) i4) ⟨?_⟩
    refine ndA_sat _ (fun q hq => ?_) ?_
    · simp only [List.mem_cons, List.not_mem_nil, or_false] at hq
      rcases hq with rfl | rfl | rfl <;> omega
    · refine ⟨rfl, rfl, ⟨rfl, rfl, fun a j ha hj => ?_⟩, ⟨rfl, rfl⟩, ⟨rfl, rfl, fun a j ha hj => ?_⟩, ⟨h6, rfl, fun a j ha hj => ?_⟩, leRow _ _ _, rfl, rfl⟩
      · show rowQ (fun i => wdV b i) (rgM b nx) (0 + a) j = _
        rw [Nat.zero_add]
        exact rg_eq hx ha hj
      · show listC tkC zTk tl (0 + a) j = _
        rw [Nat.zero_add]; rfl
      · show listC ptC zPt L (0 + a) j = _
        rw [Nat.zero_add]; rfl
end
end Go.Proofs.Ytpaejfeojdoikaa.Rm
namespace Go.Proofs.Ytpaejfeojdoikaa.Rm
open Go.Sx
set_option maxRecDepth 100000
theorem wd_ok {b i : Int} (hb : 0 ≤ b ∧ b ≤ 255) (hi : 0 ≤ i ∧ i ≤ 1000) : 1 ≤ wdV b i ∧ wdV b i ≤ 2 := by
  unfold wdV
  rw [Int.tdiv_eq_ediv_of_nonneg hb.1, w64_of (n := b / 4) (by omega) (by omega), w64_of (n := b / 4 + i) (by omega) (by omega), Int.tmod_eq_emod_of_nonneg (by omega), w64_of (by omega) (by omega)]
  omega
section
variable {n : Nat} {B : Nat → Nat → Sx.DV} {nm : ByteArray} {nt : Nat} {tk : Nat → Int} {np : Nat} {pt : Nat → Int} {b p0 p2 i2 : Int} {x : Za} {tl : List TkT}
noncomputable def zbV (p : Int) (b : Int) (tl : List TkT) (nt : Nat) (i : Int) : Zb := ⟨p, nrG b, listC (rgF b) 0 (ixL (nrG b)), RgR b, tl.length, listC tkC zTk tl, (ixL nt).length, listC twF 0 (ixL nt), i⟩
noncomputable def s3 (n : Nat) (B : Nat → Nat → Sx.DV) (nm : ByteArray) (nt : Nat) (tk : Nat → Int) (np : Nat) (pt : Nat → Int) (b : Int) (tl : List TkT) (p : Int) (l : List Xp) (i : Int) : AS :=
  stZ3 n B nm (ckV b) nt tk np pt p (nrG b) (rowQ (fun i => wdV b i) (rgM b l)) (RgR b) (listC tkC zTk tl) (TkR nt) i
noncomputable def s3a (n : Nat) (B : Nat → Nat → Sx.DV) (nm : ByteArray) (nt : Nat) (tk : Nat → Int) (np : Nat) (pt : Nat → Int) (b : Int) (tl : List TkT) (p : Int) : AS :=
  ⟨slZ [(3, .ptr 0 0), (5, .ptr 1 0), (6, .ptr 2 0), (8, .ptr 5 0), (9, .ptr 7 0), (14, iv 0)],
    [curZ n B p, endZ nt tk np pt, rsZ, none, none, some (.cells [.d (.x (.string nm)), .d (.x (.string (ckV b))), .row 9 0 0 (nrG b) 13, nlZ, .row 11 0 0 tl.length 9, nlZ]), none, some (.cells [.d (.ro (nrG b) 1 (RgR b)), .row 12 0 0 (ixL nt).length 1, nlZ, bv true]), none, some (.row (nrG b) 13 (listC (rgF b) 0 (ixL (nrG b)))), none, some (.row tl.length 9 (listC tkC zTk tl)), some (.row (ixL nt).length 1 (listC twF 0 (ixL nt)))], 13, .nil⟩
noncomputable def s3b (n : Nat) (B : Nat → Nat → Sx.DV) (nm : ByteArray) (nt : Nat) (tk : Nat → Int) (np : Nat) (pt : Nat → Int) (b : Int) (tl : List TkT) (p : Int) : AS :=
  ⟨slZ [(3, .ptr 0 0), (5, .ptr 1 0), (6, .ptr 2 0), (8, .ptr 5 0), (9, .ptr 7 0), (14, iv 0)],
    [curZ n B p, endZ nt tk np pt, rsZ, none, none, some (.cells [.d (.x (.string nm)), .d (.x (.string (ckV b))), .row 9 0 0 (nrG b) 13, nlZ, .row 11 0 0 tl.length 9, nlZ]), none, some (.cells [.d (.ro (nrG b) 1 (RgR b)), .d (.ro (ixL nt).length 1 (TkR nt)), nlZ, bv true]), none, some (.row (nrG b) 13 (listC (rgF b) 0 (ixL (nrG b)))), none, some (.row tl.length 9 (listC tkC zTk tl)), none], 13, .nil⟩
theorem s3_frz {p : Int} : frzSt [12] (s3a n B nm nt tk np pt b tl p) = s3b n B nm nt tk np pt b tl p := by kernel_rfl
theorem s3_frzP {p : Int} : frzP [12] (s3a n B nm nt tk np pt b tl p) = [0 + (ixL nt).length ≤ (ixL nt).length] := by kernel_rfl
theorem z3_ent0 : Gc 13 (ups (codeS (tY3 tyF whF n B nm (ckV b) nt tk np pt p0 x (zbV p2 b tl nt i2))) 13) (s3a n B nm nt tk np pt b tl p2) :=
  entA_sound (s' := s3a n B nm nt tk np pt b tl p2) (roots := []) (keep := [3, 5, 6, 8, 9, 14]) (drop := [3, 4, 6, 8, 10]) (nx := 13) (h := .nil) (by kernel_rfl)
theorem rg0_eq {i j : Nat} (hi : i < nrG b) : listC (rgF b) 0 (ixL (nrG b)) i j = rowQ (fun i => wdV b i) (rgM b []) i j := by
  have e : listC (rgF b) 0 (ixL (nrG b)) i j = dsAt (rgV b i) j := by
    unfold listC rgF; rw [ixL_get hi]
  rw [e]
  have e2 : ∀ j, rgM b [] i j = dsAt (rgV b i) j := fun j => rgM_no (Nat.zero_le _)
  by_cases h : j = 1
  · subst h; rfl
  · have : rowQ (fun i => wdV b i) (rgM b []) i j = rgM b [] i j := by
      unfold rowQ
      split
      · exact absurd rfl h
      · rfl
    rw [this, e2]
theorem z3_ent (ht : tl.length = nt) : Gc 13 (ups (codeS (tY3 tyF whF n B nm (ckV b) nt tk np pt p0 x (zbV p2 b tl nt i2))) 13) (s3 n B nm nt tk np pt b tl p2 [] 0) := by
  refine z3_ent0.trans ((Gc.frz Try.prog [12] s3_frz ?_).trans ?_)
  · rw [s3_frzP]
    intro q hq
    obtain rfl := List.mem_singleton.1 hq
    omega
  · unfold s3b s3 stZ3
    rw [ixL_len, ht]
    exact gc_hp rfl rfl ⟨.inr ⟨_, _, rfl, rfl, .refl _⟩, .inr ⟨_, _, rfl, rfl, .refl _⟩, .inr ⟨_, _, rfl, rfl, .refl _⟩, .inl rfl, .inl rfl, .inr ⟨_, _, rfl, rfl, .refl _⟩, .inl rfl, .inr ⟨_, _, rfl, rfl, .refl _⟩, .inl rfl, .inr ⟨_, _, rfl, rfl, .row fun a j ha hj => rg0_eq ha⟩, .inl rfl, .inr ⟨_, _, rfl, rfl, .refl _⟩, .inl rfl, trivial⟩
theorem rg_st {l : List Xp} {X : Xp} {a j : Nat} (ha : a < nrG b) (hl : l.length < nrG b) (hj : j < 13) : stC (0 + l.length) (xpV 3 X) (rowQ (fun i => wdV b i) (rgM b l)) a j = rowQ (fun i => wdV b i) (rgM b (l ++ [X])) a j := by
  have hq : ∀ (g : Nat → Nat → Sx.DV), j ≠ 1 → rowQ (fun i => wdV b i) g a j = g a j := by
    intro g h
    unfold rowQ
    split
    · exact absurd rfl h
    · rfl
  unfold stC
  rw [Nat.zero_add]
  by_cases h : 3 ≤ j ∧ j < 10
  · rw [if_pos h, selD_eq, hq _ (by omega), hq _ (by omega)]
    by_cases h2 : a = l.length
    · subst h2
      rw [decide_eq_true rfl, rgM_hi (nx := l ++ [X]) h (by rw [List.length_append, List.length_singleton]; omega)]
      rw [show (l ++ [X]).getD l.length .no = X by rw [List.getD_eq_getElem?_getD, List.getElem?_append_right (Nat.le_refl _), Nat.sub_self]; rfl]
      rfl
    · rw [decide_eq_false h2]
      show rgM b l a j = _
      by_cases h3 : a < l.length
      · rw [rgM_hi h h3, rgM_hi (nx := l ++ [X]) h (by rw [List.length_append, List.length_singleton]; omega)]
        rw [show (l ++ [X]).getD a .no = l.getD a .no by rw [List.getD_eq_getElem?_getD, List.getElem?_append_left h3, ← List.getD_eq_getElem?_getD]]
      · rw [rgM_no (nx := l) (by omega), rgM_no (nx := l ++ [X]) (by rw [List.length_append, List.length_singleton]; omega)]
  · rw [if_neg h]
    by_cases h1 : j = 1
    · subst h1; rfl
    · rw [hq _ h1, hq _ h1, rgM_lo h, rgM_lo h]
theorem z3_sat (hb : BtD n B) (hb0 : 0 ≤ b ∧ b ≤ 255) (h2 : 0 ≤ p2 ∧ p2 ≤ 5000000) (hnt : nt ≤ 10) (hnp : np ≤ 10) (ht : tl.length = nt) :
    Sat Try.prog (tY3 tyF whF n B nm (ckV b) nt tk np pt p0 x (zbV p2 b tl nt i2)) fun r => leSV 0 [] [] r (prS n B (prG nm b (nxG (fW 3 n B b nt) (fun i => wdV b i) p2 (nrG b)).1 nt tl np (ptG (gW n B b nt) (fW 2 n B b nt) pt (nxG (fW 3 n B b nt) (fun i => wdV b i) p2 (nrG b)).2 np).1) (ptG (gW n B b nt) (fW 2 n B b nt) pt (nxG (fW 3 n B b nt) (fun i => wdV b i) p2 (nrG b)).2 np).2) := by
  have hf : ∀ p w, p ≤ (fW 3 n B b nt p w).2 ∧ (fW 3 n B b nt p w).2 ≤ p + 13 := fun p w => tyF_pos3 n B _ _ _ _ p w
  have hW : WiD (nrG b) (RgR b) ∧ WiD nt (TkR nt) := ⟨WiD_rg b, WiD_tk (by omega)⟩
  have hnr : nrG b ≤ 2 := by unfold nrG; omega
  refine Sat.of_eq (KY2_eq tyF whF n B nm (ckV b) nt tk np pt p0 x (zbV p2 b tl nt i2)) ⟨?_⟩
  refine code_satS CYl_ok DYl_ok (n := 200) (n0 := 13) (nx := 13) (roots := []) (keep := [3, 5, 6, 8, 9, 14]) (drop := [3, 4, 6, 8, 10, 12]) (h := .nil) (c := codeC (tY3 tyF whF n B nm (ckV b) nt tk np pt p0 x (zbV p2 b tl nt i2))) (st := codeS (tY3 tyF whF n B nm (ckV b) nt tk np pt p0 x (zbV p2 b tl nt i2))) (k := codeK (tY3 tyF whF n B nm (ckV b) nt tk np pt p0 x (zbV p2 b tl nt i2))) (body := bodyZ3) (by kernel_rfl) (by kernel_rfl)
    (fun q t => ∃ k : Nat, q = nrG b - k ∧ k ≤ nrG b ∧ t = s3 n B nm nt tk np pt b tl (nxG (fW 3 n B b nt) (fun i => wdV b i) p2 k).2 (nxG (fW 3 n B b nt) (fun i => wdV b i) p2 k).1 k)
    (fun e t => e = .exit 4 ∧ ∃ i : Int, t = s3 n B nm nt tk np pt b tl (nxG (fW 3 n B b nt) (fun i => wdV b i) p2 (nrG b)).2 (nxG (fW 3 n B b nt) (fun i => wdV b i) p2 (nrG b)).1 i)
    ⟨_, _, ⟨0, rfl, by omega, rfl⟩, z3_ent ht⟩ ?_ ?_
  · rintro q t ⟨k, rfl, hk, rfl⟩
    have h5 := nxG_pos (wd := fun i => wdV b i) (p := p2) hf k
    have h6 := nxG_len (fW 3 n B b nt) (fun i => wdV b i) p2 k
    have hs : nxG (fW 3 n B b nt) (fun i => wdV b i) p2 (k + 1) = ((nxG (fW 3 n B b nt) (fun i => wdV b i) p2 k).1 ++ [(fW 3 n B b nt (nxG (fW 3 n B b nt) (fun i => wdV b i) p2 k).2 (wdV b k)).1], (fW 3 n B b nt (nxG (fW 3 n B b nt) (fun i => wdV b i) p2 k).2 (wdV b k)).2) := rfl
    generalize hM : nxG (fW 3 n B b nt) (fun i => wdV b i) p2 k = M at h5 h6 hs ⊢
    obtain ⟨L, p⟩ := M
    dsimp only at h5 h6 hs ⊢
    refine Sat.of_eq (BZ3_eq tyF whF n B nm (ckV b) nt tk np pt p (nrG b) (fun i => wdV b i) (rgM b L) (RgR b) (listC tkC zTk tl) (TkR nt) k) ⟨?_⟩
    unfold BZ3
    rw [Int.toNat_natCast]
    refine ⟨fun h1 => ?_, fun h1 => ?_⟩
    · simp only [decide_eq_true_eq] at h1
      rw [w64_of (n := (k : Int) + 1) (by omega) (by omega)]
      have hwd : 1 ≤ wdV b ((0 + k : Nat) : Int) ∧ wdV b ((0 + k : Nat) : Int) ≤ 2 := wd_ok hb0 (by omega)
      refine ndA_sat _ (fun q hq => ?_) ?_
      · simp only [List.mem_cons, List.not_mem_nil, or_false] at hq
        have eK : tyK 3 = 13 := by decide
        rcases hq with rfl | rfl | rfl | rfl | rfl
        · omega
        · omega
        · exact ⟨hW, ⟨hb, ⟨by omega, by rw [eK]; omega⟩, ⟨rfl, by decide, by decide⟩, hwd.1, by omega⟩⟩
        · omega
        · omega
      · refine ⟨nrG b - (k + 1), _, by omega, ⟨k + 1, rfl, by omega, rfl⟩, ?_⟩
        rw [hs, Nat.zero_add]
        unfold s3 stZ3
        refine gc_hp rfl rfl ⟨.inr ⟨_, _, rfl, rfl, .refl _⟩, .inr ⟨_, _, rfl, rfl, .refl _⟩, .inr ⟨_, _, rfl, rfl, .refl _⟩, .inl rfl, .inl rfl, .inr ⟨_, _, rfl, rfl, .refl _⟩, .inl rfl, .inr ⟨_, _, rfl, rfl, .refl _⟩, .inl rfl, .inr ⟨_, _, rfl, rfl, .row fun a j ha hj => ?_⟩, .inl rfl, .inr ⟨_, _, rfl, rfl, .refl _⟩, .inl rfl, trivial⟩
        have := rg_st (b := b) (l := L) (X := (fW 3 n B b nt p (wdV b k)).1) ha (by omega) hj
        rw [Nat.zero_add, h6] at this
        exact this
    · simp only [decide_eq_false_iff_not] at h1
      obtain rfl : k = nrG b := by omega
      refine ⟨_, ⟨rfl, ((nrG b : Nat) : Int), rfl⟩, ?_⟩
      rw [hM]
      exact Gc.refl _ _
  · rintro e t ⟨rfl, i4, rfl⟩
    have h5 := nxG_pos (wd := fun i => wdV b i) (p := p2) hf (nrG b)
    have h6 := nxG_len (fW 3 n B b nt) (fun i => wdV b i) p2 (nrG b)
    generalize nxG (fW 3 n B b nt) (fun i => wdV b i) p2 (nrG b) = M at h5 h6 ⊢
    obtain ⟨L, p⟩ := M
    dsimp only at h5 h6 ⊢
    have h9 := z4_sat (nm := nm) (tk := tk) (pt := pt) (p0 := p0) (p3 := p) (i3 := i4) (x := x) (y := zbV p2 b tl nt i2) (nx := L) (tl := tl) hb ⟨by omega, by omega⟩ hnt hnp h6 ht
    show Sat Try.prog (tY4 tyF whF n B nm (ckV b) nt tk np pt p0 x (zbV p2 b tl nt i2) (zcV p b L tl nt i4)) _
    generalize tY4 tyF whF n B nm (ckV b) nt tk np pt p0 x (zbV p2 b tl nt i2) (zcV p b L tl nt i4) = T at h9 ⊢
    exact h9
end
end Go.Proofs.Ytpaejfeojdoikaa.Rm
namespace Go.Proofs.Ytpaejfeojdoikaa.Rm
open Go.Sx
set_option maxRecDepth 100000
section
variable {n : Nat} {B : Nat → Nat → Sx.DV} {nm : ByteArray} {nt : Nat} {tk : Nat → Int} {np : Nat} {pt : Nat → Int} {b p0 p1 i1 : Int}
noncomputable def g2W (n : Nat) (B : Nat → Nat → Sx.DV) (b : Int) : Int → Xp × Int := fun p => whF n B (nrG b) (RgR b) 0 noC false p
noncomputable def zaV (p : Int) (b : Int) (i : Int) : Za := ⟨p, b, (ixL (nrG b)).length, listC (rgF b) 0 (ixL (nrG b)), (ixL (nrG b)).length, listC (wdF b) 0 (ixL (nrG b)), i⟩
noncomputable def s2 (n : Nat) (B : Nat → Nat → Sx.DV) (nm : ByteArray) (nt : Nat) (tk : Nat → Int) (np : Nat) (pt : Nat → Int) (b : Int) (p : Int) (l : List TkT) (k : Nat) (i : Int) : AS :=
  stZ2 n B nm (ckV b) nt tk np pt p (nrG b) (listC (rgF b) 0 (ixL (nrG b))) (RgR b) l.length (listC tkC zTk l) (ixL k).length (listC twF 0 (ixL k)) i
noncomputable def s2a (n : Nat) (B : Nat → Nat → Sx.DV) (nm : ByteArray) (nt : Nat) (tk : Nat → Int) (np : Nat) (pt : Nat → Int) (b : Int) (p : Int) : AS :=
  ⟨slZ [(3, .ptr 0 0), (5, .ptr 1 0), (6, .ptr 2 0), (8, .ptr 5 0), (9, .ptr 7 0), (12, iv 0)],
    [curZ n B p, endZ nt tk np pt, rsZ, none, none, some (.cells [.d (.x (.string nm)), .d (.x (.string (ckV b))), .row 9 0 0 (ixL (nrG b)).length 13, nlZ, nlZ, nlZ]), none, some (.cells [.row 10 0 0 (ixL (nrG b)).length 1, nlZ, nlZ, bv true]), none, some (.row (ixL (nrG b)).length 13 (listC (rgF b) 0 (ixL (nrG b)))), some (.row (ixL (nrG b)).length 1 (listC (wdF b) 0 (ixL (nrG b))))], 11, .nil⟩
noncomputable def s2b (n : Nat) (B : Nat → Nat → Sx.DV) (nm : ByteArray) (nt : Nat) (tk : Nat → Int) (np : Nat) (pt : Nat → Int) (b : Int) (p : Int) (m : Nat) : AS :=
  ⟨slZ [(3, .ptr 0 0), (5, .ptr 1 0), (6, .ptr 2 0), (8, .ptr 5 0), (9, .ptr 7 0), (12, iv 0)],
    [curZ n B p, endZ nt tk np pt, rsZ, none, none, some (.cells [.d (.x (.string nm)), .d (.x (.string (ckV b))), .row 9 0 0 m 13, nlZ, nlZ, nlZ]), none, some (.cells [.d (.ro m 1 (RgR b)), nlZ, nlZ, bv true]), none, some (.row m 13 (listC (rgF b) 0 (ixL (nrG b)))), none], 11, .nil⟩
theorem s2_frz {p : Int} : frzSt [10] (s2a n B nm nt tk np pt b p) = s2b n B nm nt tk np pt b p (ixL (nrG b)).length := by kernel_rfl
theorem s2_frzP {p : Int} : frzP [10] (s2a n B nm nt tk np pt b p) = [0 + (ixL (nrG b)).length ≤ (ixL (nrG b)).length] := by kernel_rfl
theorem z2_ent0 : Gc 11 (ups (codeS (tY2 tyF whF n B nm (ckV b) nt tk np pt p0 (zaV p1 b i1))) 11) (s2a n B nm nt tk np pt b p1) :=
  entA_sound (s' := s2a n B nm nt tk np pt b p1) (roots := []) (keep := [3, 5, 6, 8, 9, 12]) (drop := [3, 4, 6, 8]) (nx := 11) (h := .nil) (by kernel_rfl)
theorem z2_ent : Gc 11 (ups (codeS (tY2 tyF whF n B nm (ckV b) nt tk np pt p0 (zaV p1 b i1))) 11) (s2 n B nm nt tk np pt b p1 [] 0 0) := by
  refine z2_ent0.trans ((Gc.frz Try.prog [10] s2_frz ?_).trans ?_)
  · rw [s2_frzP]
    intro q hq
    obtain rfl := List.mem_singleton.1 hq
    omega
  · rw [ixL_len]
    refine gc_sound [] [11, 12] rfl ?_ ?_
    · exact leTm_slZ 11 [] [11, 12] [(3, .ptr 0 0), (5, .ptr 1 0), (6, .ptr 2 0), (8, .ptr 5 0), (9, .ptr 7 0), (12, iv 0)] (by simp [leSV, rn, iv, leD])
    · simp [s2, s2b, stZ2, curZ, endZ, rsZ, nlZ, leHp, leBlk, leSVs, leSV, rn, iv, bv, leD, srcOf, hget, ixL]
theorem z2_sat (hb : BtD n B) (hb0 : 0 ≤ b ∧ b ≤ 255) (h1 : 0 ≤ p1 ∧ p1 ≤ 4000000) (hnt : nt ≤ 10) (hnp : np ≤ 10) {Q : SV → Prop}
    (hQ : ∀ (i2 : Int), Sat Try.prog (tY3 tyF whF n B nm (ckV b) nt tk np pt p0 (zaV p1 b i1) (zbV (tkG (g2W n B b) tk p1 nt).2 b (tkG (g2W n B b) tk p1 nt).1 nt i2)) Q) :
    Sat Try.prog (tY2 tyF whF n B nm (ckV b) nt tk np pt p0 (zaV p1 b i1)) Q := by
  have hg : ∀ p, p ≤ (g2W n B b p).2 ∧ (g2W n B b p).2 ≤ p + 5 := fun p => whF_pos n B _ _ _ _ _ p
  refine Sat.of_eq (KY1_eq tyF whF n B nm (ckV b) nt tk np pt p0 (zaV p1 b i1)) ⟨?_⟩
  refine code_satS CYl_ok DYl_ok (n := 200) (n0 := 11) (nx := 13) (roots := [(.cell (.base 5) 4, 11), (.cell (.base 7) 1, 12)]) (keep := [3, 5, 6, 8, 9, 12]) (drop := [3, 4, 6, 8, 10, 11, 12]) (h := .nil) (c := codeC (tY2 tyF whF n B nm (ckV b) nt tk np pt p0 (zaV p1 b i1))) (st := codeS (tY2 tyF whF n B nm (ckV b) nt tk np pt p0 (zaV p1 b i1))) (k := codeK (tY2 tyF whF n B nm (ckV b) nt tk np pt p0 (zaV p1 b i1))) (body := bodyZ2) (by kernel_rfl) (by kernel_rfl)
    (fun q t => ∃ k : Nat, q = nt - k ∧ k ≤ nt ∧ t = s2 n B nm nt tk np pt b (tkG (g2W n B b) tk p1 k).2 (tkG (g2W n B b) tk p1 k).1 k k)
    (fun e t => e = .exit 2 ∧ ∃ i : Int, t = s2 n B nm nt tk np pt b (tkG (g2W n B b) tk p1 nt).2 (tkG (g2W n B b) tk p1 nt).1 nt i)
    ⟨_, _, ⟨0, rfl, by omega, rfl⟩, z2_ent⟩ ?_ ?_
  · rintro q t ⟨k, rfl, hk, rfl⟩
    have h5 := tkG_pos (tk := tk) (p := p1) hg k
    have h6 := tkG_len (g2W n B b) tk p1 k
    have hs : tkG (g2W n B b) tk p1 (k + 1) = ((tkG (g2W n B b) tk p1 k).1 ++ [⟨tk k, 2, xtX 2 (g2W n B b (tkG (g2W n B b) tk p1 k).2).1⟩], (g2W n B b (tkG (g2W n B b) tk p1 k).2).2) := rfl
    generalize hM : tkG (g2W n B b) tk p1 k = M at h5 h6 hs ⊢
    obtain ⟨L, p⟩ := M
    dsimp only at h5 h6 hs ⊢
    have hx := ixL_len k
    refine Sat.of_eq (BZ2_eq tyF whF n B nm (ckV b) nt tk np pt p (nrG b) (listC (rgF b) 0 (ixL (nrG b))) (RgR b) L.length (listC tkC zTk L) (ixL k).length (listC twF 0 (ixL k)) k) ⟨?_⟩
    unfold BZ2
    rw [Int.toNat_natCast]
    refine ⟨fun h1 => ?_, fun h1 => ?_⟩
    · simp only [decide_eq_true_eq] at h1
      rw [w64_of (n := (k : Int) + 1) (by omega) (by omega)]
      refine ndA_sat _ (fun q hq => ?_) ?_
      · simp only [List.mem_cons, List.not_mem_nil, or_false] at hq
        rcases hq with rfl | rfl | rfl | rfl
        · exact ⟨WiD_rg b, hb, by omega, by omega⟩
        · omega
        · exact ⟨by omega, Nat.le_refl _, by omega⟩
        · exact ⟨by omega, Nat.le_refl _, by omega⟩
      · refine ⟨nt - (k + 1), _, by omega, ⟨k + 1, rfl, by omega, rfl⟩, ?_⟩
        rw [hs]
        unfold s2
        rw [ixL_succ k]
        generalize ixL k = I
        unfold stZ2
        refine gc_hp rfl rfl ⟨.inr ⟨_, _, rfl, rfl, .refl _⟩, .inr ⟨_, _, rfl, rfl, .refl _⟩, .inr ⟨_, _, rfl, rfl, .refl _⟩, .inl rfl, .inl rfl, .inr ⟨_, _, rfl, by rw [List.length_append]; rfl, .refl _⟩, .inl rfl, .inr ⟨_, _, rfl, by rw [List.length_append]; rfl, .refl _⟩, .inl rfl, .inr ⟨_, _, rfl, rfl, .refl _⟩, .inl rfl, .inr ⟨_, _, rfl, by rw [List.length_append]; rfl, .row fun a j ha hj => ?_⟩, .inr ⟨_, _, rfl, by rw [List.length_append]; rfl, .row fun a j ha hj => ?_⟩, trivial⟩
        · exact apG_eq (fun j hj => tkV_eq (tk k) _ j hj) a j ha hj
        · exact apG_eq (f := twF) (z := 0) (l := I) (e := 1) (vs := [.x (.int .i64 2)]) (x := (k : Int)) (fun j hj => rfl) a j ha hj
    · simp only [decide_eq_false_iff_not] at h1
      obtain rfl : k = nt := by omega
      refine ⟨_, ⟨rfl, ((k : Nat) : Int), rfl⟩, ?_⟩
      rw [hM]
      exact Gc.refl _ _
  · rintro e t ⟨rfl, i4, rfl⟩
    have h9 := hQ i4
    generalize tkG (g2W n B b) tk p1 nt = M at h9 ⊢
    obtain ⟨L, p⟩ := M
    dsimp only at h9 ⊢
    show Sat Try.prog (tY3 tyF whF n B nm (ckV b) nt tk np pt p0 (zaV p1 b i1) (zbV p b L nt i4)) _
    generalize tY3 tyF whF n B nm (ckV b) nt tk np pt p0 (zaV p1 b i1) (zbV p b L nt i4) = T at h9 ⊢
    exact h9
end
end Go.Proofs.Ytpaejfeojdoikaa.Rm
namespace Go.Proofs.Ytpaejfeojdoikaa.Rm
open Go.Sx
set_option maxRecDepth 100000
noncomputable def _root_.Go.Sx.poV (n : Nat) (B : Nat → Nat → Sx.DV) (nm : ByteArray) (nt : Nat) (tk : Nat → Int) (np : Nat) (pt : Nat → Int) (p : Int) : PrT × Int :=
  (prG nm (byV n B p) (nxG (fW 3 n B (byV n B p) nt) (fun i => wdV (byV n B p) i) (tkG (g2W n B (byV n B p)) tk (p + 1) nt).2 (nrG (byV n B p))).1 nt (tkG (g2W n B (byV n B p)) tk (p + 1) nt).1 np
    (ptG (gW n B (byV n B p) nt) (fW 2 n B (byV n B p) nt) pt (nxG (fW 3 n B (byV n B p) nt) (fun i => wdV (byV n B p) i) (tkG (g2W n B (byV n B p)) tk (p + 1) nt).2 (nrG (byV n B p))).2 np).1,
   (ptG (gW n B (byV n B p) nt) (fW 2 n B (byV n B p) nt) pt (nxG (fW 3 n B (byV n B p) nt) (fun i => wdV (byV n B p) i) (tkG (g2W n B (byV n B p)) tk (p + 1) nt).2 (nrG (byV n B p))).2 np).2)
section
variable {n : Nat} {B : Nat → Nat → Sx.DV} {nm : ByteArray} {nt : Nat} {tk : Nat → Int} {np : Nat} {pt : Nat → Int} {p0 : Int}
noncomputable def s1 (n : Nat) (B : Nat → Nat → Sx.DV) (nm : ByteArray) (nt : Nat) (tk : Nat → Int) (np : Nat) (pt : Nat → Int) (b : Int) (p : Int) (k : Nat) (i : Int) : AS :=
  stZ1 n B nm (ckV b) nt tk np pt p b (ixL k).length (listC (rgF b) 0 (ixL k)) (ixL k).length (listC (wdF b) 0 (ixL k)) i
theorem z1_ent : Gc 9 (ups (codeS (tZ1 tyF whF n B nm nt tk np pt p0)) 9) (s1 n B nm nt tk np pt (byV n B p0) (p0 + 1) 0 0) := by
  refine (entA_sound (s' := ⟨slZ [(3, .ptr 0 0), (5, .ptr 1 0), (6, .ptr 2 0), (7, iv (byV n B p0)), (8, .ptr 5 0), (9, .ptr 7 0), (10, iv 0)],
    [curZ n B (p0 + 1), endZ nt tk np pt, rsZ, none, none, some (.cells [.d (.x (.string nm)), .d (.x (.string (ckV (byV n B p0)))), nlZ, nlZ, nlZ, nlZ]), none, some (.cells [nlZ, nlZ, nlZ, bv true]), none], 9, .nil⟩) (roots := []) (keep := [3, 5, 6, 7, 8, 9, 10]) (drop := [3, 4, 6, 8]) (nx := 9) (h := .nil) (by kernel_rfl)).trans ?_
  refine gc_sound [] [9, 10] rfl ?_ ?_
  · exact leTm_slZ 9 [] [9, 10] [(3, .ptr 0 0), (5, .ptr 1 0), (6, .ptr 2 0), (7, iv (byV n B p0)), (8, .ptr 5 0), (9, .ptr 7 0), (10, iv 0)] (by simp [leSV, rn, iv, leD])
  · simp [s1, stZ1, curZ, endZ, rsZ, nlZ, leHp, leBlk, leSVs, leSV, rn, iv, bv, leD, srcOf, hget, ixL]
theorem nr_eq {b : Int} (hb : 0 ≤ b ∧ b ≤ 255) : w64 (1 + Int.tmod (w64 (Int.tdiv b 2)) 2) = (nrG b : Int) := by
  rw [Int.tdiv_eq_ediv_of_nonneg hb.1, w64_of (n := b / 2) (by omega) (by omega), Int.tmod_eq_emod_of_nonneg (by omega), w64_of (by omega) (by omega)]
  unfold nrG; omega
theorem z1_sat (hb : BtD n B) (h0 : 0 ≤ p0 ∧ p0 ≤ 1000000) (hnt : nt ≤ 10) (hnp : np ≤ 10) :
    Sat Try.prog (tZo tyF whF n B nm nt tk np pt p0) fun r => leSV 0 [] [] r (prS n B (poV n B nm nt tk np pt p0).1 (poV n B nm nt tk np pt p0).2) := by
  have hv := byV_ok hb h0.1
  refine Sat.of_eq (LZ0_eq tyF whF n B nm nt tk np pt p0) ⟨?_⟩
  have e2 : Int.tmod (byV n B p0) 2 = byV n B p0 % 2 := Int.tmod_eq_emod_of_nonneg hv.1
  rw [e2]
  refine ndA_sat _ (fun q hq => ?_) ?_
  · simp only [List.mem_cons, List.not_mem_nil, or_false] at hq
    rcases hq with rfl | rfl | rfl | rfl | rfl
    · exact ⟨hb, h0.1⟩
    · exact ⟨by omega, by decide⟩
    · decide
    · omega
    · omega
  refine code_satS CYl_ok DYl_ok (n := 200) (n0 := 9) (nx := 11) (roots := [(.cell (.base 5) 2, 9), (.cell (.base 7) 0, 10)]) (keep := [3, 5, 6, 7, 8, 9, 10]) (drop := [3, 4, 6, 8, 9, 10]) (h := .nil) (c := codeC (tZ1 tyF whF n B nm nt tk np pt p0)) (st := codeS (tZ1 tyF whF n B nm nt tk np pt p0)) (k := codeK (tZ1 tyF whF n B nm nt tk np pt p0)) (body := bodyZ1) (by kernel_rfl) (by kernel_rfl)
    (fun q t => ∃ k : Nat, q = nrG (byV n B p0) - k ∧ k ≤ nrG (byV n B p0) ∧ t = s1 n B nm nt tk np pt (byV n B p0) (p0 + 1) k k)
    (fun e t => e = .exit 0 ∧ ∃ i : Int, t = s1 n B nm nt tk np pt (byV n B p0) (p0 + 1) (nrG (byV n B p0)) i)
    ⟨_, _, ⟨0, rfl, by omega, rfl⟩, z1_ent⟩ ?_ ?_
  · rintro q t ⟨k, rfl, hk, rfl⟩
    generalize byV n B p0 = b at hv hk ⊢
    have hx := ixL_len k
    have hnr : nrG b ≤ 2 := by unfold nrG; omega
    have e16 : Int.tmod (w64 (Int.tdiv b 16)) 3 = b / 16 % 3 := by
      rw [Int.tdiv_eq_ediv_of_nonneg hv.1, w64_of (n := b / 16) (by omega) (by omega), Int.tmod_eq_emod_of_nonneg (by omega)]
    refine Sat.of_eq (BZ1_eq tyF whF n B nm (ckV b) nt tk np pt (p0 + 1) b (ixL k).length (listC (rgF b) 0 (ixL k)) (ixL k).length (listC (wdF b) 0 (ixL k)) k) ⟨?_⟩
    unfold BZ1
    rw [nr_eq hv, e16]
    refine ndA_sat _ (fun q hq => ?_) ⟨fun h1 => ?_, fun h1 => ?_⟩
    · simp only [List.mem_cons, List.not_mem_nil, or_false] at hq
      rcases hq with rfl | rfl <;> decide
    · simp only [decide_eq_true_eq] at h1
      rw [w64_of (n := (k : Int) + 1) (by omega) (by omega)]
      refine ndA_sat _ (fun q hq => ?_) ?_
      · simp only [List.mem_cons, List.not_mem_nil, or_false] at hq
        rcases hq with rfl | rfl | rfl | rfl | rfl | rfl | rfl | rfl | rfl | rfl | rfl
        · decide
        · decide
        · omega
        · omega
        · decide
        · decide
        · decide
        · omega
        · omega
        · exact ⟨by omega, Nat.le_refl _, by omega⟩
        · exact ⟨by omega, Nat.le_refl _, by omega⟩
      · refine ⟨nrG b - (k + 1), _, by omega, ⟨k + 1, rfl, by omega, rfl⟩, ?_⟩
        unfold s1
        rw [ixL_succ k]
        generalize ixL k = I
        unfold stZ1
        refine gc_hp rfl rfl ⟨.inr ⟨_, _, rfl, rfl, .refl _⟩, .inr ⟨_, _, rfl, rfl, .refl _⟩, .inr ⟨_, _, rfl, rfl, .refl _⟩, .inl rfl, .inl rfl, .inr ⟨_, _, rfl, by rw [List.length_append]; rfl, .refl _⟩, .inl rfl, .inr ⟨_, _, rfl, by rw [List.length_append]; rfl, .refl _⟩, .inl rfl, .inr ⟨_, _, rfl, by rw [List.length_append]; rfl, .row fun a j ha hj => ?_⟩, .inr ⟨_, _, rfl, by rw [List.length_append]; rfl, .row fun a j ha hj => ?_⟩, trivial⟩
        · exact apG_eq (f := rgF b) (z := 0) (l := I) (e := 13) (vs := rgV b k) (x := (k : Int)) (fun j hj => rfl) a j ha hj
        · exact apG_eq (f := wdF b) (z := 0) (l := I) (e := 1) (vs := [.x (.int .i64 (wdV b k))]) (x := (k : Int)) (fun j hj => rfl) a j ha hj
    · simp only [decide_eq_false_iff_not] at h1
      obtain rfl : k = nrG b := by omega
      exact ⟨_, ⟨rfl, ((nrG b : Nat) : Int), rfl⟩, Gc.refl _ _⟩
  · rintro e t ⟨rfl, i4, rfl⟩
    have hnr : nrG (byV n B p0) ≤ 2 := by unfold nrG; omega
    have h9 := z2_sat (nm := nm) (nt := nt) (tk := tk) (np := np) (pt := pt) (b := byV n B p0) (p0 := p0) (p1 := p0 + 1) (i1 := i4) hb hv ⟨by omega, by omega⟩ hnt hnp
      (Q := fun r => leSV 0 [] [] r (prS n B (poV n B nm nt tk np pt p0).1 (poV n B nm nt tk np pt p0).2)) fun i2 => by
        have hg : ∀ p, p ≤ (g2W n B (byV n B p0) p).2 ∧ (g2W n B (byV n B p0) p).2 ≤ p + 5 := fun p => whF_pos n B _ _ _ _ _ p
        have h5 := tkG_pos (tk := tk) (p := p0 + 1) hg nt
        exact z3_sat hb hv ⟨by omega, by omega⟩ hnt hnp (tkG_len _ _ _ _)
    show Sat Try.prog (tY2 tyF whF n B nm (ckV (byV n B p0)) nt tk np pt p0 (zaV (p0 + 1) (byV n B p0) i4)) _
    generalize tY2 tyF whF n B nm (ckV (byV n B p0)) nt tk np pt p0 (zaV (p0 + 1) (byV n B p0) i4) = T at h9 ⊢
    exact h9
end
end Go.Proofs.Ytpaejfeojdoikaa.Rm
namespace Go.Proofs.Ytpaejfeojdoikaa.Rm
open Go.Sx
set_option maxRecDepth 100000
abbrev PoF := Nat → (Nat → Nat → Sx.DV) → ByteArray → Nat → (Nat → Int) → Nat → (Nat → Int) → Int → PrT × Int
noncomputable def cPo (H : PoF) : Ctr := fun ss => match ss with
  | [.agg [.d (.ro n 1 B), .d (.x (.int .i64 p))], .d (.x (.string nm)), .agg [.d (.ro nt 1 T), .d (.ro np 1 P)]] =>
    .need ((WiD nt T ∧ WiD np P) ∧ (nt ≤ 10 ∧ np ≤ 10) ∧ BtD n B ∧ 0 ≤ p ∧ p ≤ 1000000) (.ret (prS n B (H n B nm nt (fun i => numV (T i 0)) np (fun i => numV (P i 0)) p).1 (H n B nm nt (fun i => numV (T i 0)) np (fun i => numV (P i 0)) p).2))
  | _ => .fail
theorem cPo_ok : CtrOK Try.prog 120 (cPo poV) := ctrOK_leR CYl_ok DYl_ok (by kernel_rfl) (by kernel_rfl) fun ss r hr => by
  unfold cPo at hr
  split at hr
  · rename_i n B p nm nt T np P
    obtain ⟨⟨⟨h1, h2⟩, ⟨h3, h4⟩, hb, hp⟩, rfl⟩ := hr
    refine ⟨[.agg [.d (.ro n 1 B), iv p], .d (.x (.string nm)), .agg [.d (.ro nt 1 fun i _ => .x (.int .i64 (numV (T i 0)))), .d (.ro np 1 fun i _ => .x (.int .i64 (numV (P i 0))))]], 200, .nil, ⟨⟨leRow _ _ _, rfl, rfl⟩, rfl, ⟨⟨rfl, rfl, fun i j hi hj => ?_⟩, ⟨rfl, rfl, fun i j hi hj => ?_⟩, rfl⟩, rfl⟩, z1_sat hb hp h3 h4⟩
    · obtain rfl : j = 0 := by omega
      exact h1.2 i hi
    · obtain rfl : j = 0 := by omega
      exact h2.2 i hi
  · exact hr.elim
theorem poV_pos (n : Nat) (B : Nat → Nat → Sx.DV) (nm : ByteArray) (nt : Nat) (tk : Nat → Int) (np : Nat) (pt : Nat → Int) (p : Int) (h : nt ≤ 10 ∧ np ≤ 10) : p ≤ (poV n B nm nt tk np pt p).2 ∧ (poV n B nm nt tk np pt p).2 ≤ p + 1000 := by
  have hg : ∀ q, q ≤ (g2W n B (byV n B p) q).2 ∧ (g2W n B (byV n B p) q).2 ≤ q + 5 := fun q => whF_pos n B _ _ _ _ _ q
  have h5 := tkG_pos (tk := tk) (p := p + 1) hg nt
  have hf : ∀ q w, q ≤ (fW 3 n B (byV n B p) nt q w).2 ∧ (fW 3 n B (byV n B p) nt q w).2 ≤ q + 13 := fun q w => tyF_pos3 n B _ _ _ _ q w
  have h6 := nxG_pos (wd := fun i => wdV (byV n B p) i) (p := (tkG (g2W n B (byV n B p)) tk (p + 1) nt).2) hf (nrG (byV n B p))
  have hg' : ∀ q, q ≤ (gW n B (byV n B p) nt q).2 ∧ (gW n B (byV n B p) nt q).2 ≤ q + 5 := fun q => whF_pos n B _ _ _ _ _ q
  have hf' : ∀ q w, q ≤ (fW 2 n B (byV n B p) nt q w).2 ∧ (fW 2 n B (byV n B p) nt q w).2 ≤ q + 13 := fun q w => tyF_pos2 n B _ _ _ _ q w
  have h7 := ptG_pos (pt := pt) (p := (nxG (fW 3 n B (byV n B p) nt) (fun i => wdV (byV n B p) i) (tkG (g2W n B (byV n B p)) tk (p + 1) nt).2 (nrG (byV n B p))).2) hg' hf' np
  have hnr : nrG (byV n B p) ≤ 2 := by unfold nrG; omega
  show p ≤ (ptG _ _ _ _ _).2 ∧ (ptG _ _ _ _ _).2 ≤ p + 1000
  omega
def _root_.Go.Proofs.XtD (x : XT) : Prop := ∃ d e, d ≤ 8 ∧ x = xtX d e
theorem XtD.ok {x : XT} (h : XtD x) : XtOK x := by
  obtain ⟨d, e, hd, rfl⟩ := h
  exact ExAny_of d hd e
theorem tkG_ok (g : Int → Xp × Int) (tk : Nat → Int) (p : Int) : ∀ k, ∀ t ∈ (tkG g tk p k).1, XtD t.wh
  | 0, t, h => by cases h
  | k + 1, t, h => by
    unfold tkG at h
    rcases List.mem_append.1 h with h | h
    · exact tkG_ok g tk p k t h
    · obtain rfl := List.mem_singleton.1 h
      exact ⟨2, _, by decide, rfl⟩
theorem ptG_ok (g : Int → Xp × Int) (f : Int → Int → Xp × Int) (pt : Nat → Int) (p : Int) : ∀ k, ∀ t ∈ (ptG g f pt p k).1, XtD t.wh ∧ XtD t.da
  | 0, t, h => by cases h
  | k + 1, t, h => by
    unfold ptG at h
    rcases List.mem_append.1 h with h | h
    · exact ptG_ok g f pt p k t h
    · obtain rfl := List.mem_singleton.1 h
      exact ⟨⟨2, _, by decide, rfl⟩, ⟨2, _, by decide, rfl⟩⟩
theorem getD_mem {α : Type} {l : List α} {z : α} {i : Nat} (h : i < l.length) : l.getD i z ∈ l := by rw [List.getD_eq_getElem?_getD, List.getElem?_eq_getElem h]; exact List.getElem_mem h
noncomputable def poU (n : Nat) (B : Nat → Nat → Sx.DV) (nt : Nat) (tk : Nat → Int) (np : Nat) (pt : Nat → Int) (p : Int) : List PtT :=
  (ptG (gW n B (byV n B p) nt) (fW 2 n B (byV n B p) nt) pt (nxG (fW 3 n B (byV n B p) nt) (fun i => wdV (byV n B p) i) (tkG (g2W n B (byV n B p)) tk (p + 1) nt).2 (nrG (byV n B p))).2 np).1
theorem poV_ok (n : Nat) (B : Nat → Nat → Sx.DV) (nm : ByteArray) (nt : Nat) (tk : Nat → Int) (np : Nat) (pt : Nat → Int) (p : Int) : PrOK (poV n B nm nt tk np pt p).1 := by
  refine ⟨fun i hi => ?_, fun i hi => ?_, fun i hi => ?_⟩
  · exact XtD.ok ⟨3, _, by decide, rfl⟩
  · have hi' : i < nt := hi
    exact XtD.ok (tkG_ok (g2W n B (byV n B p)) tk (p + 1) nt _ (getD_mem (z := zTk) (i := i) (by rw [tkG_len]; exact hi')))
  · have hi' : i < np := hi
    have := ptG_ok _ _ _ _ _ _ (getD_mem (z := zPt) (i := i) (l := (poU n B nt tk np pt p)) (by unfold poU; rw [ptG_len]; exact hi'))
    exact ⟨XtD.ok this.1, XtD.ok this.2⟩
end Go.Proofs.Ytpaejfeojdoikaa.Rm
namespace Go.Sx
def planL : Nat → List (List Int × List Int)
  | 0 => [([0], [1])]
  | 1 => [([0], [1]), ([1], [2])]
  | 2 => [([0], [1, 2]), ([1], [3]), ([2], [4])]
  | 3 => [([0, 2], [1]), ([1], [2, 3])]
  | 4 => [([0], [2]), ([1], [3]), ([2, 3], [4])]
  | _ => [([0], [1]), ([1], [2]), ([2], [3]), ([3], [4])]
def plR (l : List Int) : DV := .ro l.length 1 fun i j => dsAt (l.map fun x => .x (.int .i64 x)) (0 + (0 + i) * 1 + j)
def plS (s : Nat) : SV := .d (.ro (planL s).length 2 fun i j => dsAt ((planL s).flatMap fun e => [plR e.1, plR e.2]) (i * 2 + j))
def plN (s : Nat) : List Prop := (planL s).flatMap fun e => [e.1.length ≤ e.1.length, e.2.length ≤ e.2.length]
end Go.Sx
namespace Go.Proofs.Ytpaejfeojdoikaa.Rm
open Go.Sx
set_option maxRecDepth 100000
noncomputable def tPl (sh : Int) (h : Hint) : Tree SV := fnT Try.prog C00 D00 200 (fnOf Try.prog 119) (bodyOf Try.prog 119) [.d (.x (.int .u8 sh))] h
theorem LPl0_eq (sh : Int) : tPl sh (.t .run) = ndT ([(6 : Int) ≠ 0, (Int.tmod sh 6 == 0) = true] ++ plN 0) (.ret (plS 0)) := by kernel_rfl
theorem LPl1_eq (sh : Int) : tPl sh (.f (.t .run)) = ndT ([(6 : Int) ≠ 0, (Int.tmod sh 6 == 0) = false, (Int.tmod sh 6 == 1) = true] ++ plN 1) (.ret (plS 1)) := by kernel_rfl
theorem LPl2_eq (sh : Int) : tPl sh (.f (.f (.t .run))) = ndT ([(6 : Int) ≠ 0, (Int.tmod sh 6 == 0) = false, (Int.tmod sh 6 == 1) = false, (Int.tmod sh 6 == 2) = true] ++ plN 2) (.ret (plS 2)) := by kernel_rfl
theorem LPl3_eq (sh : Int) : tPl sh (.f (.f (.f (.t .run)))) = ndT ([(6 : Int) ≠ 0, (Int.tmod sh 6 == 0) = false, (Int.tmod sh 6 == 1) = false, (Int.tmod sh 6 == 2) = false, (Int.tmod sh 6 == 3) = true] ++ plN 3) (.ret (plS 3)) := by kernel_rfl
theorem LPl4_eq (sh : Int) : tPl sh (.f (.f (.f (.f (.t .run))))) = ndT ([(6 : Int) ≠ 0, (Int.tmod sh 6 == 0) = false, (Int.tmod sh 6 == 1) = false, (Int.tmod sh 6 == 2) = false, (Int.tmod sh 6 == 3) = false, (Int.tmod sh 6 == 4) = true] ++ plN 4) (.ret (plS 4)) := by kernel_rfl
theorem LPl5_eq (sh : Int) : tPl sh (.f (.f (.f (.f (.f .run))))) = ndT ([(6 : Int) ≠ 0, (Int.tmod sh 6 == 0) = false, (Int.tmod sh 6 == 1) = false, (Int.tmod sh 6 == 2) = false, (Int.tmod sh 6 == 3) = false, (Int.tmod sh 6 == 4) = false] ++ plN 5) (.ret (plS 5)) := by kernel_rfl
theorem plN_ok (s : Nat) : ∀ q ∈ plN s, q := by
  intro q hq
  unfold plN at hq
  obtain ⟨e, _, h⟩ := List.mem_flatMap.1 hq
  simp only [List.mem_cons, List.not_mem_nil, or_false] at h
  rcases h with rfl | rfl <;> exact Nat.le_refl _
noncomputable def cPl (s : Nat) : Ctr := fun ss => match ss with
  | [.d (.x (.int .u8 sh))] => .need (0 ≤ sh ∧ sh % 6 = (s : Int)) (.ret (plS s))
  | _ => .fail
theorem cPl_ok (s : Nat) (hs : s < 6) : CtrOK Try.prog 119 (cPl s) := ctrOK_S C00_ok D00_ok (by kernel_rfl) (by kernel_rfl) fun ss r h => by
  unfold cPl at h
  split at h
  · rename_i sh
    obtain ⟨⟨h0, h1⟩, rfl⟩ := h
    have e : Int.tmod sh 6 = (s : Int) := by rw [Int.tmod_eq_emod_of_nonneg h0]; exact h1
    have key : ∀ (l : List Prop), (∀ p ∈ l, p) → Tree.sat Try.prog (ndT (l ++ plN s) (.ret (plS s))) (· = plS s) := fun l hl => ndT_sat _ (fun q hq => by
      rcases List.mem_append.1 hq with hq | hq
      · exact hl q hq
      · exact plN_ok s q hq) rfl
    have : s = 0 ∨ s = 1 ∨ s = 2 ∨ s = 3 ∨ s = 4 ∨ s = 5 := by omega
    rcases this with rfl | rfl | rfl | rfl | rfl | rfl
    · exact ⟨200, .t .run, Sat.of_eq (LPl0_eq sh) ⟨key _ (by rw [e]; simp)⟩⟩
    · exact ⟨200, .f (.t .run), Sat.of_eq (LPl1_eq sh) ⟨key _ (by rw [e]; simp)⟩⟩
    · exact ⟨200, .f (.f (.t .run)), Sat.of_eq (LPl2_eq sh) ⟨key _ (by rw [e]; simp)⟩⟩
    · exact ⟨200, .f (.f (.f (.t .run))), Sat.of_eq (LPl3_eq sh) ⟨key _ (by rw [e]; simp)⟩⟩
    · exact ⟨200, .f (.f (.f (.f (.t .run)))), Sat.of_eq (LPl4_eq sh) ⟨key _ (by rw [e]; simp)⟩⟩
    · exact ⟨200, .f (.f (.f (.f (.f .run)))), Sat.of_eq (LPl5_eq sh) ⟨key _ (by rw [e]; simp)⟩⟩
  · exact h.elim
end Go.Proofs.Ytpaejfeojdoikaa.Rm
namespace Go.Sx
def rwE (l : List Int) : Nat → Nat → DV := fun i j => dsAt (l.map fun x => .x (.int .i64 x)) (0 + (0 + i) * 1 + j)
def tkE (l : List Int) : Nat → Int := fun i => numV (rwE l i 0)
def nmP (m : Nat) : ByteArray := [strB [112], strB [113], strB [117], strB [118]].getD m (strB [])
def whoL : List (List Int) → Int → Int → Int → Int
  | [], n, i, a => a
  | l :: ls, n, i, a => whoL ls n (i + 1) (if l.contains n then i else a)
def frL (s n : Nat) : Int := whoL ((planL s).map (·.2)) n 0 (-1)
def toL (s n : Nat) : Int := whoL ((planL s).map (·.1)) n 0 (-1)
def cpL (s : Nat) (sh : Int) (n : Nat) : Int := if 0 ≤ frL s n ∧ 0 ≤ toL s n then w64 (1 + Int.tmod (w64 (IntKind.wrap .u8 (IntKind.wrap .u8 (Int.tdiv sh 6) + n))) 3) else 0
def ncL (s : Nat) : Nat := [2, 3, 5, 4, 5, 5].getD s 0
def chV (s : Nat) (sh : Int) (n : Nat) : List DV := [.x (.string (strB [99, UInt8.ofNat (48 + n)])), .x (.int .i64 2), .x (.int .i64 (cpL s sh n)), .x (.int .i64 (frL s n)), .x (.int .i64 (toL s n))]
def prVs (x : PrT) : List DV := [.x (.string x.nm), .x (.string x.ck), .ro x.nr 13 fun i j => rgC (x.r i) j, .ro 0 27 fun _ _ => .x undef, .ro x.nt 9 fun i j => tkC (x.t i) j, .ro x.np 16 fun i j => ptC (x.p i) j]
def _root_.Go.Proofs.PoD (n : Nat) (B : Nat → Nat → DV) (e : List Int × List Int) (p : Int) : Prop := (Proofs.WiD e.1.length (rwE e.1) ∧ Proofs.WiD e.2.length (rwE e.2)) ∧ (e.1.length ≤ 10 ∧ e.2.length ≤ 10) ∧ Proofs.BtD n B ∧ 0 ≤ p ∧ p ≤ 1000000
def _root_.Go.Proofs.GroM (m e z : Nat) : Prop := (match m with | 0 => True | q + 1 => 0 + (q + 1) ≤ q + 1) ∧ e ≤ e ∧ (m + 1) * z ≤ 140737488355328
end Go.Sx
namespace Go.Proofs.Ytpaejfeojdoikaa.Rm
open Go.Sx
set_option maxRecDepth 100000
noncomputable def manZ (H : PoF) (s : Nat) : FuncId → Option Ctr := fun k => match k with
  | 119 => some (cPl s)
  | 120 => some (cPo H)
  | _ => none
noncomputable def CZm (H : PoF) (s : Nat) : Ctx := ctxN Try.prog (manZ H s) (fun k => k == 121) 200 .nil 6
noncomputable def DZm (H : PoF) (s : Nat) : Dr := drawnL Try.prog (CZm H s)
noncomputable def tMd (H : PoF) (s : Nat) (sh : Int) (n : Nat) (B : Nat → Nat → Sx.DV) (h : Hint) : Tree SV := fnT Try.prog (CZm H s) (DZm H s) 200 (fnOf Try.prog 48) (bodyOf Try.prog 48) [.agg [.d (.x (.int .u8 sh)), .d (.ro n 1 B)]] h
noncomputable def mdP (H : PoF) (n : Nat) (B : Nat → Nat → Sx.DV) (k : Nat → (Nat → Nat → Sx.DV) → Tree SV) : List (List Int × List Int) → Nat → (Nat → Nat → Sx.DV) → Int → Tree SV
  | [], m, c, p => k m c
  | e :: es, m, c, p => .need (PoD n B e p) (.need (GroM m 6 128) (mdP H n B k es (m + 1) (apG m c 6 (prVs (H n B (nmP m) e.1.length (tkE e.1) e.2.length (tkE e.2) p).1)) (H n B (nmP m) e.1.length (tkE e.1) e.2.length (tkE e.2) p).2))
noncomputable def mdC (s : Nat) (sh : Int) (k : Nat → (Nat → Nat → Sx.DV) → Tree SV) : Nat → Nat → (Nat → Nat → Sx.DV) → Tree SV
  | 0, m, c => k m c
  | r + 1, m, c => .need (GroM m 5 48) (mdC s sh k r (m + 1) (apG m c 5 (chV s sh m)))
noncomputable def mdE (mp : Nat) (cp : Nat → Nat → Sx.DV) (mc : Nat) (cc : Nat → Nat → Sx.DV) : Tree SV := .need (0 + mp ≤ mp) (.need (0 + mc ≤ mc) (.ret (.agg [.d (.ro mp 6 fun i j => cp (0 + i) j), .d (.ro mc 5 fun i j => cc (0 + i) j)])))
noncomputable def mdT (H : PoF) (s : Nat) (sh : Int) (n : Nat) (B : Nat → Nat → Sx.DV) : Tree SV :=
  .need (0 ≤ sh ∧ sh % 6 = (s : Int)) (mdP H n B (fun mp cp => mdC s sh (mdE mp cp) (ncL s) 0 noC) (planL s) 0 noC 0)
theorem LM0_eq (H : PoF) (sh : Int) (n : Nat) (B : Nat → Nat → Sx.DV) : tMd H 0 sh n B .run = mdT H 0 sh n B := by kernel_rfl
theorem LM1_eq (H : PoF) (sh : Int) (n : Nat) (B : Nat → Nat → Sx.DV) : tMd H 1 sh n B .run = mdT H 1 sh n B := by kernel_rfl
theorem LM2_eq (H : PoF) (sh : Int) (n : Nat) (B : Nat → Nat → Sx.DV) : tMd H 2 sh n B .run = mdT H 2 sh n B := by kernel_rfl
theorem LM3_eq (H : PoF) (sh : Int) (n : Nat) (B : Nat → Nat → Sx.DV) : tMd H 3 sh n B .run = mdT H 3 sh n B := by kernel_rfl
theorem LM4_eq (H : PoF) (sh : Int) (n : Nat) (B : Nat → Nat → Sx.DV) : tMd H 4 sh n B .run = mdT H 4 sh n B := by kernel_rfl
theorem LM5_eq (H : PoF) (sh : Int) (n : Nat) (B : Nat → Nat → Sx.DV) : tMd H 5 sh n B .run = mdT H 5 sh n B := by kernel_rfl
end Go.Proofs.Ytpaejfeojdoikaa.Rm
namespace Go.Sx
open Go.Proofs.Ytpaejfeojdoikaa.Rm
def zPr : PrT := ⟨strB [], strB [], 0, fun _ => ⟨strB [], 0, 0, zXT, 0, strB [], 0⟩, 0, fun _ => zTk, 0, fun _ => zPt⟩
noncomputable def psG (n : Nat) (B : Nat → Nat → DV) : List (List Int × List Int) → Nat → Int → List PrT
  | [], m, p => []
  | e :: es, m, p => (poV n B (nmP m) e.1.length (tkE e.1) e.2.length (tkE e.2) p).1 :: psG n B es (m + 1) (poV n B (nmP m) e.1.length (tkE e.1) e.2.length (tkE e.2) p).2
theorem psG_len (n : Nat) (B : Nat → Nat → DV) : ∀ es m p, (psG n B es m p).length = es.length
  | [], _, _ => rfl
  | e :: es, m, p => by unfold psG; rw [List.length_cons, List.length_cons, psG_len n B es]
theorem psG_ok (n : Nat) (B : Nat → Nat → DV) : ∀ es m p, ∀ x ∈ psG n B es m p, Proofs.PrOK x
  | [], _, _, x, h => by cases h
  | e :: es, m, p, x, h => by
    unfold psG at h
    rcases List.mem_cons.1 h with rfl | h
    · exact poV_ok n B _ _ _ _ _ _
    · exact psG_ok n B es _ _ x h
def chG (s : Nat) (sh : Int) (n : Nat) : ChT := ⟨strB [99, UInt8.ofNat (48 + n)], 2, cpL s sh n, frL s n, toL s n⟩
def zCh : ChT := ⟨strB [], 0, 0, 0, 0⟩
def ckG (s : Nat) (sh : Int) : Nat → Nat → List ChT
  | 0, m => []
  | r + 1, m => chG s sh m :: ckG s sh r (m + 1)
theorem ckG_len (s : Nat) (sh : Int) : ∀ r m, (ckG s sh r m).length = r
  | 0, _ => rfl
  | r + 1, m => by unfold ckG; rw [List.length_cons, ckG_len s sh r]
theorem ckG_get (s : Nat) (sh : Int) : ∀ r m i, i < r → (ckG s sh r m).getD i zCh = chG s sh (m + i)
  | 0, _, _, h => absurd h (Nat.not_lt_zero _)
  | r + 1, m, 0, _ => rfl
  | r + 1, m, i + 1, h => by
    show (ckG s sh r (m + 1)).getD i zCh = _
    rw [ckG_get s sh r (m + 1) i (by omega), show m + 1 + i = m + (i + 1) by omega]
noncomputable def mdV (s : Nat) (sh : Int) (n : Nat) (B : Nat → Nat → DV) : CiT := ⟨(planL s).length, fun i => (psG n B (planL s) 0 0).getD i zPr, ncL s, fun i => chG s sh i⟩
end Go.Sx
namespace Go.Proofs.Ytpaejfeojdoikaa.Rm
open Go.Sx
set_option maxRecDepth 100000
theorem GroM_of {m e z : Nat} (h : (m + 1) * z ≤ 140737488355328) : GroM m e z := by
  refine ⟨?_, Nat.le_refl _, h⟩
  cases m with
  | zero => trivial
  | succ q => show 0 + (q + 1) ≤ q + 1; omega
theorem prV_eq (x : PrT) (b : Nat) (hb : b < 6) : dsAt (prVs x) b = prC x b := by
  have : b = 0 ∨ b = 1 ∨ b = 2 ∨ b = 3 ∨ b = 4 ∨ b = 5 := by omega
  rcases this with rfl | rfl | rfl | rfl | rfl | rfl <;> rfl
theorem chV_eq (s : Nat) (sh : Int) (n : Nat) (b : Nat) (hb : b < 5) : dsAt (chV s sh n) b = chC (chG s sh n) b := by
  have : b = 0 ∨ b = 1 ∨ b = 2 ∨ b = 3 ∨ b = 4 := by omega
  rcases this with rfl | rfl | rfl | rfl | rfl <;> rfl
theorem apG_row {α : Type} {f : α → Nat → Sx.DV} {z : α} {l : List α} {c : Nat → Nat → Sx.DV} {e : Nat} {vs : List Sx.DV} {x : α} (hc : ∀ a b, a < l.length → b < e → c a b = f (l.getD a z) b) (hv : ∀ b, b < e → dsAt vs b = f x b) (a b : Nat) (ha : a < (l ++ [x]).length) (hb : b < e) :
    apG l.length c e vs a b = f ((l ++ [x]).getD a z) b := by
  have h := apG_eq (f := f) (z := z) (l := l) (e := e) (vs := vs) (x := x) hv a b (by simpa using ha) hb
  refine Eq.trans ?_ h
  unfold apG
  rw [selD_eq, selD_eq, Nat.zero_add]
  by_cases h2 : a < l.length
  · rw [decide_eq_true h2]; exact hc a b h2 hb
  · rw [decide_eq_false h2]; rfl
theorem mdP_sat {n : Nat} {B : Nat → Nat → Sx.DV} {k : Nat → (Nat → Nat → Sx.DV) → Tree SV} {Q : SV → Prop} (hb : BtD n B) : ∀ (es : List (List Int × List Int)) (l : List PrT) (c : Nat → Nat → Sx.DV) (p : Int),
    (∀ a b, a < l.length → b < 6 → c a b = prC (l.getD a zPr) b) → l.length + es.length ≤ 10 → 0 ≤ p → p + 1000 * es.length ≤ 1000000 →
    (∀ e ∈ es, (WiD e.1.length (rwE e.1) ∧ WiD e.2.length (rwE e.2)) ∧ e.1.length ≤ 10 ∧ e.2.length ≤ 10) →
    (∀ (l' : List PrT) (c' : Nat → Nat → Sx.DV), l' = l ++ psG n B es l.length p → (∀ a b, a < l'.length → b < 6 → c' a b = prC (l'.getD a zPr) b) → Tree.sat Try.prog (k l'.length c') Q) →
    Tree.sat Try.prog (mdP poV n B k es l.length c p) Q
  | [], l, c, p, hc, _, _, _, _, hk => hk l c (List.append_nil l).symm hc
  | e :: es, l, c, p, hc, hl, h0, hp, he, hk => by
    rw [List.length_cons] at hl hp
    have h1 := he e (List.mem_cons_self ..)
    have h2 := poV_pos n B (nmP l.length) e.1.length (tkE e.1) e.2.length (tkE e.2) p h1.2
    refine ⟨⟨h1.1, h1.2, hb, h0, by omega⟩, GroM_of (by omega), ?_⟩
    have h := mdP_sat (k := k) (Q := Q) hb es (l ++ [(poV n B (nmP l.length) e.1.length (tkE e.1) e.2.length (tkE e.2) p).1]) (apG l.length c 6 (prVs (poV n B (nmP l.length) e.1.length (tkE e.1) e.2.length (tkE e.2) p).1)) (poV n B (nmP l.length) e.1.length (tkE e.1) e.2.length (tkE e.2) p).2
      (fun a b ha hb => apG_row hc (fun b hb => prV_eq _ b hb) a b ha hb) (by rw [List.length_append, List.length_singleton]; omega) (by omega) (by omega) (fun e' h' => he e' (List.mem_cons_of_mem _ h'))
      (fun l' c' hl' hc' => hk l' c' (by rw [hl', List.length_append, List.length_singleton, List.append_assoc]; rfl) hc')
    rw [List.length_append, List.length_singleton] at h
    exact h
theorem mdC_sat {s : Nat} {sh : Int} {k : Nat → (Nat → Nat → Sx.DV) → Tree SV} {Q : SV → Prop} : ∀ (r : Nat) (l : List ChT) (c : Nat → Nat → Sx.DV),
    (∀ a b, a < l.length → b < 5 → c a b = chC (l.getD a zCh) b) → l.length + r ≤ 10 →
    (∀ (l' : List ChT) (c' : Nat → Nat → Sx.DV), l' = l ++ ckG s sh r l.length → (∀ a b, a < l'.length → b < 5 → c' a b = chC (l'.getD a zCh) b) → Tree.sat Try.prog (k l'.length c') Q) →
    Tree.sat Try.prog (mdC s sh k r l.length c) Q
  | 0, l, c, hc, _, hk => hk l c (List.append_nil l).symm hc
  | r + 1, l, c, hc, hl, hk => by
    refine ⟨GroM_of (by omega), ?_⟩
    have h := mdC_sat (s := s) (sh := sh) (k := k) (Q := Q) r (l ++ [chG s sh l.length]) (apG l.length c 5 (chV s sh l.length)) (fun a b ha hb => apG_row hc (fun b hb => chV_eq s sh _ b hb) a b ha hb) (by rw [List.length_append, List.length_singleton]; omega)
      (fun l' c' hl' hc' => hk l' c' (by rw [hl', List.length_append, List.length_singleton, List.append_assoc]; rfl) hc')
    rw [List.length_append, List.length_singleton] at h
    exact h
theorem planL_ok (s : Nat) : (∀ e ∈ planL s, (WiD e.1.length (rwE e.1) ∧ WiD e.2.length (rwE e.2)) ∧ e.1.length ≤ 10 ∧ e.2.length ≤ 10) ∧ (planL s).length ≤ 4 := by
  have w1 : ∀ x : Int, WiD [x].length (rwE [x]) := fun x => ⟨by simp, fun i hi => rfl⟩
  have w2 : ∀ x y : Int, WiD [x, y].length (rwE [x, y]) := fun x y => ⟨by simp, fun i hi => by
    have : i = 0 ∨ i = 1 := by simp at hi; omega
    rcases this with rfl | rfl <;> rfl⟩
  unfold planL
  split <;> refine ⟨fun e he => ?_, by simp⟩ <;> simp only [List.mem_cons, List.not_mem_nil, or_false] at he
  · subst he; exact ⟨⟨w1 _, w1 _⟩, by simp⟩
  · rcases he with rfl | rfl <;> exact ⟨⟨w1 _, w1 _⟩, by simp⟩
  · rcases he with rfl | rfl | rfl
    · exact ⟨⟨w1 _, w2 _ _⟩, by simp⟩
    · exact ⟨⟨w1 _, w1 _⟩, by simp⟩
    · exact ⟨⟨w1 _, w1 _⟩, by simp⟩
  · rcases he with rfl | rfl
    · exact ⟨⟨w2 _ _, w1 _⟩, by simp⟩
    · exact ⟨⟨w1 _, w2 _ _⟩, by simp⟩
  · rcases he with rfl | rfl | rfl
    · exact ⟨⟨w1 _, w1 _⟩, by simp⟩
    · exact ⟨⟨w1 _, w1 _⟩, by simp⟩
    · exact ⟨⟨w2 _ _, w1 _⟩, by simp⟩
  · rcases he with rfl | rfl | rfl | rfl <;> exact ⟨⟨w1 _, w1 _⟩, by simp⟩
noncomputable def ciS (x : CiT) : SV := .agg [.d (.ro x.np 6 fun i j => prC (x.p i) j), .d (.ro x.nc 5 fun i j => chC (x.c i) j)]
theorem md_sat {s : Nat} {sh : Int} {n : Nat} {B : Nat → Nat → Sx.DV} (hs : s < 6) (hb : BtD n B) (h : 0 ≤ sh ∧ sh % 6 = (s : Int)) :
    Tree.sat Try.prog (mdT poV s sh n B) fun r => leSV 0 [] [] r (ciS (mdV s sh n B)) := by
  have hp := planL_ok s
  have hn : ncL s ≤ 5 := by
    have : s = 0 ∨ s = 1 ∨ s = 2 ∨ s = 3 ∨ s = 4 ∨ s = 5 := by omega
    rcases this with rfl | rfl | rfl | rfl | rfl | rfl <;> decide
  refine ⟨h, mdP_sat hb (planL s) [] noC 0 (fun a b ha => absurd ha (Nat.not_lt_zero _)) (by show 0 + (planL s).length ≤ 10; omega) (by omega) (by omega) hp.1 fun l c hl hc => ?_⟩
  refine mdC_sat (ncL s) [] noC (fun a b ha => absurd ha (Nat.not_lt_zero _)) (by show 0 + ncL s ≤ 10; omega) fun l2 c2 hl2 hc2 => ?_
  rw [List.nil_append] at hl hl2
  have e1 : l.length = (planL s).length := by rw [hl]; exact psG_len _ _ _ _ _
  have e2 : l2.length = ncL s := by rw [hl2]; exact ckG_len _ _ _ _
  refine ⟨by omega, by omega, ⟨e1, rfl, fun a b ha hb => ?_⟩, ⟨e2, rfl, fun a b ha hb => ?_⟩, rfl⟩
  · show c (0 + a) b = _
    rw [Nat.zero_add, hc a b ha hb, hl]; rfl
  · show c2 (0 + a) b = _
    rw [Nat.zero_add, hc2 a b ha hb, hl2]
    have := ckG_get s sh (ncL s) 0 a (by omega)
    rw [Nat.zero_add] at this
    show chC ((ckG s sh (ncL s) 0).getD a zCh) b = _
    rw [this]; rfl
end Go.Proofs.Ytpaejfeojdoikaa.Rm
namespace Go.Proofs.Ytpaejfeojdoikaa.Rm
open Go.Sx
set_option maxRecDepth 100000
theorem manZ_ok {s : Nat} (hs : s < 6) (k : Nat) (c : Ctr) (hk : manZ poV s k = some c) : CtrOK Try.prog k c ∧ goodF Try.prog k = true := by
  unfold manZ at hk
  split at hk
  · cases hk; exact ⟨cPl_ok s hs, by kernel_rfl⟩
  · cases hk; exact ⟨cPo_ok, by kernel_rfl⟩
  · cases hk
theorem CZm_ok {s : Nat} (hs : s < 6) : CtxOK Try.prog (CZm poV s) := ctxN_ok mixed (manZ_ok hs) 6
theorem DZm_ok {s : Nat} (hs : s < 6) : DrOK Try.prog (CZm poV s) (DZm poV s) := drawnL_ok (CZm_ok hs) mixed
abbrev MdF := Int → Nat → (Nat → Nat → Sx.DV) → CiT
noncomputable def cMd (M : MdF) : Ctr := fun ss => match ss with
  | [.agg [.d (.x (.int .u8 sh)), .d (.ro n 1 B)]] => .need (0 ≤ sh ∧ BtD n B) (.ret (ciS (M sh n B)))
  | _ => .fail
noncomputable def _root_.Go.Sx.mdW (sh : Int) (n : Nat) (B : Nat → Nat → Sx.DV) : CiT := mdV (sh % 6).toNat sh n B
theorem md_tree {s : Nat} (hs : s < 6) (sh : Int) (n : Nat) (B : Nat → Nat → Sx.DV) : tMd poV s sh n B .run = mdT poV s sh n B := by
  have : s = 0 ∨ s = 1 ∨ s = 2 ∨ s = 3 ∨ s = 4 ∨ s = 5 := by omega
  rcases this with rfl | rfl | rfl | rfl | rfl | rfl
  · exact LM0_eq poV sh n B
  · exact LM1_eq poV sh n B
  · exact LM2_eq poV sh n B
  · exact LM3_eq poV sh n B
  · exact LM4_eq poV sh n B
  · exact LM5_eq poV sh n B
theorem cMd_ok : CtrOK Try.prog 48 (cMd mdW) := by
  intro ss vs w F r hF hgl hr hev
  have key : ∀ s, s < 6 → CtrOK Try.prog 48 (fun ss => match ss with
      | [.agg [.d (.x (.int .u8 sh)), .d (.ro n 1 B)]] => .need ((0 ≤ sh ∧ BtD n B) ∧ (sh % 6).toNat = s) (.ret (ciS (mdW sh n B)))
      | _ => .fail) := fun s hs => ctrOK_leR (CZm_ok hs) (DZm_ok hs) (by kernel_rfl) (by kernel_rfl) fun ss r h => by
    split at h
    · rename_i sh n B
      obtain ⟨⟨⟨h0, hb⟩, he⟩, rfl⟩ := h
      refine ⟨[.agg [.d (.x (.int .u8 sh)), .d (.ro n 1 B)]], 200, .run, ⟨⟨rfl, leRow _ _ _, rfl⟩, rfl⟩, ?_⟩
      unfold mdW
      rw [he]
      exact Sat.of_eq (md_tree hs sh n B) ⟨md_sat hs hb ⟨h0, by omega⟩⟩
    · exact h.elim
  unfold cMd at hev
  split at hev
  · rename_i sh n B
    exact key (sh % 6).toNat (by omega) _ vs w F r hF hgl hr ⟨⟨hev.1, rfl⟩, hev.2⟩
  · exact hev.elim
end Go.Proofs.Ytpaejfeojdoikaa.Rm
namespace Go.Sx
open Go.Proofs.Ytpaejfeojdoikaa.Rm
def SmX : Nat → Xp → Prop
  | 0, e => ((textL e.nm.data.toList).length = 1 ∧ (textL e.kp.data.toList).length = 1 ∧ (textL e.wp.data.toList).length = 1) ∧ e.n ≤ 3
  | d + 1, e => (((textL e.nm.data.toList).length = 1 ∧ (textL e.kp.data.toList).length = 1 ∧ (textL e.wp.data.toList).length = 1) ∧ e.n ≤ 3) ∧ ∀ i, i < e.n → SmX d (e.args i)
theorem SmX.h {d : Nat} {e : Xp} (h : SmX d e) : ((textL e.nm.data.toList).length = 1 ∧ (textL e.kp.data.toList).length = 1 ∧ (textL e.wp.data.toList).length = 1) ∧ e.n ≤ 3 := by
  cases d with
  | zero => exact h
  | succ d => exact h.1
def bX : Nat → Nat
  | 0 => 7
  | d + 1 => 7 + 3 * bX d
theorem flat_len {f : Nat → List Int} {K : Nat} : ∀ n, (∀ i, i < n → (f i).length ≤ K) → ((List.range n).flatMap f).length ≤ n * K
  | 0, _ => by simp
  | n + 1, h => by
    rw [List.range_succ, List.flatMap_append, List.length_append]
    have h1 := flat_len n fun i hi => h i (by omega)
    have h2 := h n (by omega)
    have h3 : (n + 1) * K = n * K + K := Nat.succ_mul n K
    simp only [List.flatMap_cons, List.flatMap_nil, List.append_nil]
    omega
theorem exN_len : ∀ {d : Nat} {e : Xp}, SmX d e → (exN d e).length ≤ bX d
  | 0, e, h => by
    obtain ⟨⟨h1, h2, h3⟩, _⟩ := h.h
    unfold exN exH
    simp only [List.length_cons, List.length_append, h1, h2, h3]
    show 1 + (1 + (1 + ((argsN 0 e).length + 1) + 1) + 1) + 1 ≤ 7
    have : argsN 0 e = [] := rfl
    rw [this]; decide
  | d + 1, e, h => by
    obtain ⟨⟨h1, h2, h3⟩, h4⟩ := h.h
    have h5 : (argsN (d + 1) e).length ≤ e.n * bX d := by
      rw [argsN_succ]
      exact flat_len _ fun i hi => exN_len (h.2 i hi)
    have h6 : e.n * bX d ≤ 3 * bX d := Nat.mul_le_mul_right _ h4
    unfold exN exH
    simp only [List.length_cons, List.length_append, h1, h2, h3]
    show 1 + (1 + (1 + ((argsN (d + 1) e).length + 1) + 1) + 1) + 1 ≤ 7 + 3 * bX d
    omega
theorem xtN_len {d : Nat} {e : Xp} (hd : d ≤ 8) (h : SmX d e) : (xtN (xtX d e)).length ≤ bX d := by
  have e1 : xtN (xtX d e) = exN d e := by
    unfold xtN exN argsN xtX
    dsimp only
    rw [argsD_le hd ⟨e, rfl, fun _ _ _ _ => rfl⟩]
  rw [e1]
  exact exN_len h
theorem sm_no : ∀ d, SmX d .no
  | 0 => ⟨⟨rfl, rfl, rfl⟩, by decide⟩
  | d + 1 => ⟨⟨⟨rfl, rfl, rfl⟩, by decide⟩, fun i hi => absurd hi (Nat.not_lt_zero _)⟩
theorem sm_L (x : Int × Int × Int) : ∀ d, SmX d (xpL x)
  | 0 => ⟨⟨rfl, rfl, rfl⟩, by show 0 ≤ 3; decide⟩
  | d + 1 => ⟨⟨⟨rfl, rfl, rfl⟩, by show 0 ≤ 3; decide⟩, fun i hi => absurd hi (Nat.not_lt_zero _)⟩
theorem sm_A {d : Nat} {op kn wn : Int} {l : List Xp} (hl : l.length ≤ 3) (h : ∀ x ∈ l, SmX d x) : SmX (d + 1) (xpA op kn wn l) := by
  refine ⟨⟨⟨rfl, rfl, rfl⟩, hl⟩, fun i hi => ?_⟩
  have hi' : i < l.length := hi
  exact h _ (getD_mem hi')
theorem chX_len (f : Int → Int → Xp × Int) : ∀ ws p, (chX f ws p).1.length = ws.length
  | [], _ => rfl
  | w :: ws, p => by unfold chX; rw [List.length_cons, List.length_cons, chX_len f ws]
theorem chX_sm {f : Int → Int → Xp × Int} {d : Nat} (h : ∀ p w, SmX d (f p w).1) : ∀ ws p, ∀ x ∈ (chX f ws p).1, SmX d x
  | [], _, x, hx => by cases hx
  | w :: ws, p, x, hx => by
    unfold chX at hx
    rcases List.mem_cons.1 hx with rfl | hx
    · exact h p w
    · exact chX_sm h ws _ x hx
theorem tyX_sm (by' : Int → Int) (lv : Int → List (Int × Int)) : ∀ d p w, SmX d (tyX by' lv d p w).1
  | 0, p, w => sm_no 0
  | d + 1, p, w => by
    have ih := tyX_sm by' lv d
    rw [tyX]
    split
    · exact sm_L _ _
    split
    · unfold spX
      split
      · exact sm_A (by simp) fun x hx => by obtain rfl := List.mem_singleton.1 hx; exact ih _ _
      · exact sm_A (by simp) fun x hx => by obtain rfl := List.mem_singleton.1 hx; exact ih _ _
    · exact sm_A (by rw [chX_len]; exact tyWs_len _ _ _) (chX_sm ih _ _)
theorem whF_sm (n : Nat) (B : Nat → Nat → DV) (nr : Nat) (R : Nat → Nat → DV) (nt : Nat) (T : Nat → Nat → DV) (da : Bool) (p : Int) : SmX 2 (whF n B nr R nt T da p).1 := by
  unfold whF
  split
  · exact tyX_sm _ _ 2 _ _
  · exact sm_L _ _
end Go.Sx
namespace Go.Sx
open Go.Proofs.Ytpaejfeojdoikaa.Rm
theorem allN_bd {α : Type} {f : α → List Int} {g : Nat → α} {n K : Nat} (h : ∀ i, i < n → (f (g i)).length ≤ K) : (allN f g n).length ≤ n * K := by
  unfold allN
  exact flat_len n h
theorem text_nil : (textL (strB []).data.toList).length = 1 := rfl
theorem nmP_len (m : Nat) : (textL (nmP m).data.toList).length ≤ 2 := by
  unfold nmP
  match m with
  | 0 => exact Nat.le_refl 2
  | 1 => exact Nat.le_refl 2
  | 2 => exact Nat.le_refl 2
  | 3 => exact Nat.le_refl 2
  | m + 4 => exact Nat.le_succ 1
theorem getD2_len (a b : UInt8) (k : Nat) : (textL (List.getD [strB [a], strB [b]] k (strB [])).data.toList).length ≤ 2 := by
  match k with
  | 0 => exact Nat.le_refl 2
  | 1 => exact Nat.le_refl 2
  | m + 2 => exact Nat.le_succ 1
theorem rgN_len {nm : ByteArray} {w ini rk : Int} {e : Xp} (h1 : (textL nm.data.toList).length ≤ 2) (he : SmX 3 e) : (rgN ⟨nm, w, ini, xtX 3 e, rk, strB [], 0⟩).length ≤ 290 := by
  have h2 := xtN_len (d := 3) (by decide) he
  have h3 : bX 3 = 280 := by decide
  unfold rgN ruN
  simp only [List.length_append, List.length_cons, List.length_nil, text_nil]
  omega
theorem tkN_len {t : TkT} {e : Xp} (h : t.wh = xtX 2 e) (he : SmX 2 e) : (tkN t).length ≤ 93 := by
  have h2 := xtN_len (d := 2) (by decide) he
  have h3 : bX 2 = 91 := by decide
  unfold tkN
  rw [h]
  simp only [List.length_append, List.length_cons, List.length_nil]
  omega
theorem ptN_len {t : PtT} {e e2 : Xp} (h : t.wh = xtX 2 e) (he : SmX 2 e) (h' : t.da = xtX 2 e2) (he2 : SmX 2 e2) : (ptN t).length ≤ 184 := by
  have h2 := xtN_len (d := 2) (by decide) he
  have h4 := xtN_len (d := 2) (by decide) he2
  have h3 : bX 2 = 91 := by decide
  unfold ptN
  rw [h, h']
  simp only [List.length_append, List.length_cons, List.length_nil]
  omega
theorem tkG_sm {g : Int → Xp × Int} (hg : ∀ p, SmX 2 (g p).1) (tk : Nat → Int) (p : Int) : ∀ k, ∀ t ∈ (tkG g tk p k).1, ∃ e, t.wh = xtX 2 e ∧ SmX 2 e
  | 0, t, h => by cases h
  | k + 1, t, h => by
    unfold tkG at h
    rcases List.mem_append.1 h with h | h
    · exact tkG_sm hg tk p k t h
    · obtain rfl := List.mem_singleton.1 h
      exact ⟨_, rfl, hg _⟩
theorem nxG_sm {f : Int → Int → Xp × Int} (hf : ∀ p w, SmX 3 (f p w).1) (wd : Nat → Int) (p : Int) : ∀ k, ∀ e ∈ (nxG f wd p k).1, SmX 3 e
  | 0, t, h => by cases h
  | k + 1, t, h => by
    unfold nxG at h
    rcases List.mem_append.1 h with h | h
    · exact nxG_sm hf wd p k t h
    · obtain rfl := List.mem_singleton.1 h
      exact hf _ _
theorem ptG_sm {g : Int → Xp × Int} {f : Int → Int → Xp × Int} (hg : ∀ p, SmX 2 (g p).1) (hf : ∀ p w, SmX 2 (f p w).1) (pt : Nat → Int) (p : Int) : ∀ k, ∀ t ∈ (ptG g f pt p k).1, ∃ e e2, t.wh = xtX 2 e ∧ SmX 2 e ∧ t.da = xtX 2 e2 ∧ SmX 2 e2
  | 0, t, h => by cases h
  | k + 1, t, h => by
    unfold ptG at h
    rcases List.mem_append.1 h with h | h
    · exact ptG_sm hg hf pt p k t h
    · obtain rfl := List.mem_singleton.1 h
      exact ⟨_, _, rfl, hg _, rfl, hf _ _⟩
theorem poV_len (n : Nat) (B : Nat → Nat → DV) (nm : ByteArray) (nt : Nat) (tk : Nat → Int) (np : Nat) (pt : Nat → Int) (p : Int) (hnm : (textL nm.data.toList).length ≤ 2) (ht : nt ≤ 10) (hp : np ≤ 10) : (prN (poV n B nm nt tk np pt p).1).length ≤ 5000 := by
  have hnr : nrG (byV n B p) ≤ 2 := by unfold nrG; omega
  have hck : (textL (ckV (byV n B p)).data.toList).length ≤ 2 := getD2_len _ _ _
  have a1 : (allN rgN (poV n B nm nt tk np pt p).1.r (nrG (byV n B p))).length ≤ nrG (byV n B p) * 290 := allN_bd fun i hi => rgN_len (getD2_len _ _ _) (by
    have hm := nxG_sm (f := fW 3 n B (byV n B p) nt) (fun p w => tyX_sm _ _ 3 p w) (fun i => wdV (byV n B p) i) (tkG (g2W n B (byV n B p)) tk (p + 1) nt).2 (nrG (byV n B p)) _ (getD_mem (d := .no) (by rw [nxG_len]; exact hi))
    exact hm)
  have a2 : (allN tkN (poV n B nm nt tk np pt p).1.t nt).length ≤ nt * 93 := allN_bd fun i hi => by
    obtain ⟨e, h1, h2⟩ := tkG_sm (g := g2W n B (byV n B p)) (fun p => whF_sm n B _ _ _ _ _ p) tk (p + 1) nt _ (getD_mem (d := zTk) (by rw [tkG_len]; exact hi))
    exact tkN_len h1 h2
  have a3 : (allN ptN (poV n B nm nt tk np pt p).1.p np).length ≤ np * 184 := allN_bd fun i hi => by
    obtain ⟨e, e2, h1, h2, h3, h4⟩ := ptG_sm (g := gW n B (byV n B p) nt) (f := fW 2 n B (byV n B p) nt) (fun p => whF_sm n B _ _ _ _ _ p) (fun p w => tyX_sm _ _ 2 p w) pt (nxG (fW 3 n B (byV n B p) nt) (fun i => wdV (byV n B p) i) (tkG (g2W n B (byV n B p)) tk (p + 1) nt).2 (nrG (byV n B p))).2 np _ (getD_mem (d := zPt) (by rw [ptG_len]; exact hi))
    exact ptN_len h1 h2 h3 h4
  unfold prN
  simp only [List.length_append, List.length_cons, List.length_nil]
  show (textL nm.data.toList).length + ((textL (ckV (byV n B p)).data.toList).length + (0 + 1 + ((allN rgN (poV n B nm nt tk np pt p).1.r (nrG (byV n B p))).length + (0 + 1 + (0 + 1 + ((allN tkN (poV n B nm nt tk np pt p).1.t nt).length + (0 + 1 + (allN ptN (poV n B nm nt tk np pt p).1.p np).length))))))) ≤ 5000
  omega
end Go.Sx
namespace Go.Sx
open Go.Proofs.Ytpaejfeojdoikaa.Rm
theorem psG_sm (n : Nat) (B : Nat → Nat → DV) : ∀ (es : List (List Int × List Int)) m p, (∀ e ∈ es, e.1.length ≤ 10 ∧ e.2.length ≤ 10) → ∀ x ∈ psG n B es m p, (prN x).length ≤ 5000 ∧ 1 ≤ x.nr
  | [], _, _, _, x, h => by cases h
  | e :: es, m, p, he, x, h => by
    have h1 := he e (List.mem_cons_self ..)
    unfold psG at h
    rcases List.mem_cons.1 h with rfl | h
    · refine ⟨poV_len n B _ _ _ _ _ _ (nmP_len m) h1.1 h1.2, ?_⟩
      show 1 ≤ nrG _
      unfold nrG; omega
    · exact psG_sm n B es _ _ (fun e' h' => he e' (List.mem_cons_of_mem _ h')) x h
theorem planL_len (s : Nat) : 1 ≤ (planL s).length := by
  unfold planL
  split <;> simp
theorem mdW_ok {sh : Int} (n : Nat) (B : Nat → Nat → DV) : Proofs.CiOK (mdW sh n B) ∧ (1 ≤ (mdW sh n B).np ∧ (mdW sh n B).np ≤ 4) ∧ (1 ≤ (mdW sh n B).nc ∧ (mdW sh n B).nc ≤ 5) ∧ ∀ i, i < (mdW sh n B).np → 1 ≤ ((mdW sh n B).p i).nr := by
  have hs : (sh % 6).toNat < 6 := by omega
  unfold mdW
  generalize (sh % 6).toNat = s at hs
  have hp := planL_ok s
  have hq := planL_len s
  have hn : 1 ≤ ncL s ∧ ncL s ≤ 5 := by
    have : s = 0 ∨ s = 1 ∨ s = 2 ∨ s = 3 ∨ s = 4 ∨ s = 5 := by omega
    rcases this with rfl | rfl | rfl | rfl | rfl | rfl <;> decide
  have hm : ∀ i, i < (planL s).length → (psG n B (planL s) 0 0).getD i zPr ∈ psG n B (planL s) 0 0 := fun i hi => Go.Sx.getD_mem (by rw [psG_len]; exact hi)
  have hS := psG_sm n B (planL s) 0 0 fun e he => (hp.1 e he).2
  refine ⟨⟨fun i hi => psG_ok n B _ _ _ _ (hm i hi), ?_⟩, ⟨hq, hp.2⟩, hn, fun i hi => (hS _ (hm i hi)).2⟩
  have a1 : (allN prN (mdV s sh n B).p (planL s).length).length ≤ (planL s).length * 5000 := allN_bd fun i hi => (hS _ (hm i hi)).1
  have a2 : (allN chN (mdV s sh n B).c (ncL s)).length ≤ ncL s * 7 := allN_bd fun i hi => by
    show (chN (chG s sh i)).length ≤ 7
    unfold chN chG
    simp only [List.length_append, List.length_cons, List.length_nil]
    show (textL (strB [99, UInt8.ofNat (48 + i)]).data.toList).length + 4 ≤ 7
    exact Nat.le_refl 7
  unfold ciN
  simp only [List.length_append, List.length_cons, List.length_nil]
  show 0 + 1 + ((allN prN (mdV s sh n B).p (planL s).length).length + (0 + 1 + (allN chN (mdV s sh n B).c (ncL s)).length)) ≤ 1000000000
  omega
end Go.Sx
namespace Go.Sx
def smQ (n : Nat) (a : Nat → Int) (m : Nat) (b : Nat → Int) : Prop := n = m ∧ ∀ i, i < n → a i = b i
end Go.Sx
namespace Go.Proofs.Ytpaejfeojdoikaa.Rm
open Go.Sx
set_option maxRecDepth 100000
section
variable (n : Nat) (a : Nat → Int) (m : Nat) (b : Nat → Int)
noncomputable def tSq : Tree SV := fnT Try.prog C00 D00 200 (fnOf Try.prog 130) (bodyOf Try.prog 130) [ruV n a, ruV m b] .nil
noncomputable def LSq : Tree SV := .ite ((n : Int) != (m : Int)) (.ret (bv false)) (atCode (sub [1] (tSq n a m b)))
theorem LSq_eq : tSq n a m b = LSq n a m b := by kernel_rfl
noncomputable def slQ (l : List (Nat × SV)) : List TV := (List.range 26).map fun k => match l.find? (fun e => Nat.beq e.1 k) with | some e => .ok e.2 | none => .unk
noncomputable def stQ (r : Bool) (i : Int) : AS := ⟨slQ [(0, ruV n a), (1, ruV m b), (4, bv r), (5, iv i)], [], 0, .nil⟩
noncomputable def bodyQ : Code := loopN (bodyOf Try.prog 130) 0
noncomputable def BSq (r : Bool) (i : Int) : Tree (Ex × AS) :=
  .ite (decide (i < (n : Int))) (.need (0 ≤ i ∧ i < (n : Int)) (.need (0 ≤ i ∧ i < (m : Int)) (.ite (a i.toNat != b i.toNat) (.ret (.ret, stQ n a m b false i)) (.ret (.normal, stQ n a m b r (w64 (i + 1))))))) (.ret (.exit 0, stQ n a m b r i))
theorem BSq_eq (r : Bool) (i : Int) : cutT 0 [] [0, 1, 4, 5] [] 0 .nil (exec Try.prog C00 D00 200 bodyQ (stQ n a m b r i)) = BSq n a m b r i := by kernel_rfl
theorem KSq0_eq (r : Bool) (i : Int) : codeK (sub [1] (tSq n a m b)) (.exit 0) (stQ n a m b r i) = .ret (bv true) := by kernel_rfl
theorem KSq1_eq (r : Bool) (i : Int) : codeK (sub [1] (tSq n a m b)) .ret (stQ n a m b r i) = .ret (bv r) := by kernel_rfl
end
open Classical in
theorem sq_sat {n : Nat} {a : Nat → Int} {m : Nat} {b : Nat → Int} (hn : n ≤ 1000000000) : Sat Try.prog (tSq n a m b) (· = bv (decide (smQ n a m b))) := by
  refine Sat.of_eq (LSq_eq n a m b) ⟨?_⟩
  unfold LSq
  refine ⟨fun h => ?_, fun h => ?_⟩
  · rw [bne_iff_ne] at h
    rw [decide_eq_false (fun h2 => h (by rw [h2.1]))]
    rfl
  rw [bne_eq_false_iff_eq] at h
  obtain rfl : n = m := by omega
  refine code_satS C00_ok D00_ok (n := 200) (n0 := 0) (nx := 0) (roots := []) (keep := [0, 1, 4, 5]) (drop := []) (h := .nil) (c := codeC (sub [1] (tSq n a n b))) (st := codeS (sub [1] (tSq n a n b))) (k := codeK (sub [1] (tSq n a n b))) (body := bodyQ) (by kernel_rfl) (by kernel_rfl)
    (fun q t => ∃ i : Nat, q = n - i ∧ i ≤ n ∧ (∀ k, k < i → a k = b k) ∧ t = stQ n a n b false i)
    (fun e t => (e = .exit 0 ∧ decide (smQ n a n b) = true ∧ ∃ i, t = stQ n a n b false i) ∨ (e = .ret ∧ decide (smQ n a n b) = false ∧ ∃ i, t = stQ n a n b false i))
    ⟨_, _, ⟨0, rfl, by omega, fun k hk => by omega, rfl⟩, ?_⟩ ?_ ?_
  · exact entA_sound (s' := stQ n a n b false 0) (roots := []) (keep := [0, 1, 4, 5]) (drop := []) (nx := 0) (h := .nil) (by kernel_rfl)
  · rintro q t ⟨i, rfl, hi, hk, rfl⟩
    refine Sat.of_eq (BSq_eq n a n b false i) ⟨?_⟩
    unfold BSq
    rw [Int.toNat_natCast]
    refine ⟨fun h1 => ?_, fun h1 => ?_⟩
    · simp only [decide_eq_true_eq] at h1
      rw [w64_of (n := (i : Int) + 1) (by omega) (by omega)]
      refine ⟨by omega, by omega, fun h2 => ?_, fun h2 => ?_⟩
      · rw [bne_iff_ne] at h2
        exact ⟨_, .inr ⟨rfl, decide_eq_false (fun h3 => h2 (h3.2 i (by omega))), _, rfl⟩, Gc.refl _ _⟩
      · rw [bne_eq_false_iff_eq] at h2
        refine ⟨n - (i + 1), _, by omega, ⟨i + 1, rfl, by omega, fun k hk' => ?_, rfl⟩, Gc.refl _ _⟩
        by_cases hki : k = i
        · subst hki; exact h2
        · exact hk k (by omega)
    · simp only [decide_eq_false_iff_not] at h1
      obtain rfl : i = n := by omega
      exact ⟨_, .inl ⟨rfl, decide_eq_true ⟨rfl, hk⟩, _, rfl⟩, Gc.refl _ _⟩
  · rintro e t (⟨rfl, he, i, rfl⟩ | ⟨rfl, he, i, rfl⟩)
    · exact Sat.of_eq (KSq0_eq n a n b false i) ⟨by rw [he]; rfl⟩
    · exact Sat.of_eq (KSq1_eq n a n b false i) ⟨by rw [he]; rfl⟩
open Classical in
noncomputable def cSq : Ctr := fun ss => match ss with
  | [.d (.ro n 1 A), .d (.ro m 1 B)] => .need (UrD n A ∧ UrD m B) (.ret (bv (decide (smQ n (fun i => numV (A i 0)) m (fun i => numV (B i 0))))))
  | _ => .fail
theorem cSq_ok : CtrOK Try.prog 130 cSq := ctrOK_leS C00_ok D00_ok (by kernel_rfl) (by kernel_rfl) fun ss r h => by
  unfold cSq at h
  split at h
  · rename_i n A m B
    obtain ⟨⟨h1, h2⟩, rfl⟩ := h
    refine ⟨[ruV n fun i => numV (A i 0), ruV m fun i => numV (B i 0)], 200, .nil, ?_, sq_sat h1.1⟩
    unfold ruV
    simp only [leSVs, leSV, leD, and_true, true_and]
    refine ⟨fun i j hi hj => ?_, fun i j hi hj => ?_⟩
    · obtain rfl : j = 0 := by omega
      exact h1.2 i hi
    · obtain rfl : j = 0 := by omega
      exact h2.2 i hi
  · exact h.elim
end Go.Proofs.Ytpaejfeojdoikaa.Rm
namespace Go.Proofs.Ytpaejfeojdoikaa.Rm
open Go.Sx
set_option maxRecDepth 100000
section
variable (n : Nat) (x : Nat → FsT) (m : Nat) (y : Nat → FsT)
noncomputable def tSh : Tree SV := fnT Try.prog C00 D00 200 (fnOf Try.prog 129) (bodyOf Try.prog 129) [ssS n x, ssS m y] .nil
noncomputable def LSh : Tree SV := .ite ((n : Int) != (m : Int)) (.ret (bv false)) (atCode (sub [1] (tSh n x m y)))
theorem LSh_eq : tSh n x m y = LSh n x m y := by kernel_rfl
noncomputable def slH (l : List (Nat × SV)) : List TV := (List.range 57).map fun k => match l.find? (fun e => Nat.beq e.1 k) with | some e => .ok e.2 | none => .unk
noncomputable def stH1 (r : Bool) (i : Int) : AS := ⟨slH [(0, ssS n x), (1, ssS m y), (4, bv r), (5, iv i)], [], 0, .nil⟩
noncomputable def stH2 (r : Bool) (i k : Int) : AS := ⟨slH [(0, ssS n x), (1, ssS m y), (4, bv r), (5, iv i), (6, iv k)], [none, none, none, none, none, none, none, none, none, none, none], 11, .nil⟩
noncomputable def bodyH1 : Code := loopN (bodyOf Try.prog 129) 0
noncomputable def bodyH2 : Code := loopN (bodyOf Try.prog 129) 1
noncomputable def bH1 (r : Bool) (i : Int) : Tree (Ex × AS) := cutT 0 [] [0, 1, 4, 5] [] 0 .nil (exec Try.prog C00 D00 200 bodyH1 (stH1 n x m y r i))
noncomputable def BH1 (r : Bool) (i : Int) : Tree (Ex × AS) :=
  .ite (decide (i < (n : Int))) (.need (0 ≤ i ∧ i < (n : Int)) (.need (0 ≤ i ∧ i < (m : Int)) (.ite (((x i.toNat).n : Int) != ((y i.toNat).n : Int)) (.ret (.ret, stH1 n x m y false i)) (atCode (sub [0, 0, 0, 1] (bH1 n x m y r i)))))) (.ret (.exit 0, stH1 n x m y r i))
theorem BH1_eq (r : Bool) (i : Int) : bH1 n x m y r i = BH1 n x m y r i := by kernel_rfl
noncomputable def BH2 (r : Bool) (i k : Int) : Tree (Ex × AS) :=
  .need (0 ≤ i ∧ i < (n : Int)) (.ite (decide (k < ((x i.toNat).n : Int)))
    (.need (0 ≤ i ∧ i < (n : Int)) (.need (0 ≤ k ∧ k < ((x i.toNat).n : Int)) (.need (0 ≤ i ∧ i < (m : Int)) (.need (0 ≤ k ∧ k < ((y i.toNat).n : Int))
      (.ite ((((x i.toNat).f k.toNat).n : Int) != (((y i.toNat).f k.toNat).n : Int)) (.ret (.ret, stH2 n x m y false i k)) (.ret (.normal, stH2 n x m y r i (w64 (k + 1)))))))))
    (.ret (.exit 2, stH2 n x m y r i k)))
theorem BH2_eq (r : Bool) (i k : Int) : cutT 11 [] [0, 1, 4, 5, 6] [0, 1, 2, 3, 4, 5, 6, 7, 8, 9, 10] 11 .nil (exec Try.prog C00 D00 200 bodyH2 (stH2 n x m y r i k)) = BH2 n x m y r i k := by kernel_rfl
theorem KH2a_eq (r0 r : Bool) (i0 i k : Int) : codeK (sub [0, 0, 0, 1] (bH1 n x m y r0 i0)) (.exit 2) (stH2 n x m y r i k) = .ret (.normal, stH1 n x m y r (w64 (i + 1))) := by kernel_rfl
theorem KH2b_eq (r0 r : Bool) (i0 i k : Int) : codeK (sub [0, 0, 0, 1] (bH1 n x m y r0 i0)) .ret (stH2 n x m y r i k) = .ret (.ret, stH1 n x m y r i) := by kernel_rfl
theorem KH1a_eq (r : Bool) (i : Int) : codeK (sub [1] (tSh n x m y)) (.exit 0) (stH1 n x m y r i) = .ret (bv true) := by kernel_rfl
theorem KH1b_eq (r : Bool) (i : Int) : codeK (sub [1] (tSh n x m y)) .ret (stH1 n x m y r i) = .ret (bv r) := by kernel_rfl
end
end Go.Proofs.Ytpaejfeojdoikaa.Rm
