/- Part of a proof of the given statements of this seat (SxFlRl, SxFlRm, SxFlRn, SxFlRo, SxFlRp, SxFlRr, SxFlRq, SxFlRs, SxFlRt, SxFlRu, SxFlRv, SxFlRw, SxFlRx, SxFlRy, SxFlRz, SxFlSa, SxFlSb, SxFlSc, SxFlSd, SxFlSe): no conditions beyond those typed here. -/
import Derived.Test.YtpaejfeojdoikaaSy10
set_option linter.unusedVariables false
set_option linter.unusedSimpArgs false

namespace Go.Proofs.Ytpaejfeojdoikaa
open Go.Sx
set_option maxRecDepth 100000
set_option pp.structureInstances false

noncomputable def manP : FuncId → Option Ctr := fun k => match k with
  | 153 => some cIdx
  | 35 => some cSe
  | 102 => some cNx
  | 101 => some cNi
  | k => manO k
theorem manP_ok (k : Nat) (c : Ctr) (h : manP k = some c) : CtrOK Try.prog k c ∧ goodF Try.prog k = true := by
  unfold manP at h
  split at h
  · cases h; exact ⟨cIdx_ok, by kernel_rfl⟩
  · cases h; exact ⟨cSe_ok, by kernel_rfl⟩
  · cases h; exact ⟨cNx_ok, by kernel_rfl⟩
  · cases h; exact ⟨cNi_ok, by kernel_rfl⟩
  · exact manO_ok _ _ h
noncomputable def CP : Ctx := ctxO Try.prog manP ownL (fun k => k == 106) 200 .nil 6
theorem CP_ok : CtxOK Try.prog CP := ctxO_ok mixed manP_ok ownL_ok 6
noncomputable def DP : Dr := fun _ => drawn Try.prog CP
theorem DP_ok : DrOK Try.prog CP DP := drawn_ok CP_ok mixed
noncomputable def TP (h : Hint) (k : Nat) (args : List SV) : Tree SV := fnT Try.prog CP DP 200 (fnOf Try.prog k) (bodyOf Try.prog k) args h
noncomputable def LFd_q1 (f : Nat → Rel) (i : Nat) (j : Nat) : DV :=
  relD (f i) j
noncomputable def LFd_q2 (n : Nat) (f : Nat → Rel) (no : Int) (i : Nat) (x : Nat) : DV :=
  DV.x (.int .u64 (Rel.fc (f (Int.toNat (idxV n (relC (LFd_q1 f)) no))) i))
noncomputable def LFd (n : Nat) (f : Nat → Rel) (no : Int) : Tree SV :=
  .need (ChC n (LFd_q1 f))
  (.ite (decide (idxV n (fun i => f i) no < (0 : Int)))
   (.ret
   (SV.agg
   [iv (0 : Int), SV.d (DV.x (.int .u64 (0 : Int))), SV.d (DV.x (.int .u64 (0 : Int))), SV.d (DV.x (.int .u64 (0 : Int))), SV.d (DV.x (.slice none 0 0)), iv (0 : Int),
   iv (0 : Int), iv (0 : Int), iv (0 : Int), iv (0 : Int), iv (0 : Int), iv (0 : Int), iv (0 : Int), iv (0 : Int), iv (0 : Int), iv (0 : Int), iv (0 : Int), iv (0 : Int), iv (0 : Int), SV.d (DV.x (.int .u64 (0 : Int))),
   iv (4 : Int)]))
   (.need ((0 : Int) ≤ idxV n (fun i => f i) no ∧ idxV n (fun i => f i) no < (↑n : Int))
   (.ret
   (SV.agg
   [iv (Rel.no (f (Int.toNat (idxV n (relC (LFd_q1 f)) no)))), SV.d (DV.x (.int .u64 (Rel.prev (f (Int.toNat (idxV n (relC (LFd_q1 f)) no)))))),
   SV.d (DV.x (.int .u64 (Rel.src (f (Int.toNat (idxV n (relC (LFd_q1 f)) no)))))), SV.d (DV.x (.int .u64 (Rel.cir (f (Int.toNat (idxV n (relC (LFd_q1 f)) no)))))),
   SV.d (DV.ro (Rel.fn (f (Int.toNat (idxV n (relC (LFd_q1 f)) no)))) 1 (LFd_q2 n f no)), iv (Rel.b0 (f (Int.toNat (idxV n (relC (LFd_q1 f)) no)))),
   iv (Rel.b1 (f (Int.toNat (idxV n (relC (LFd_q1 f)) no)))), iv (Rel.b2 (f (Int.toNat (idxV n (relC (LFd_q1 f)) no)))), iv (Rel.b3 (f (Int.toNat (idxV n (relC (LFd_q1 f)) no)))),
   iv (Rel.b4 (f (Int.toNat (idxV n (relC (LFd_q1 f)) no)))), iv (Rel.b5 (f (Int.toNat (idxV n (relC (LFd_q1 f)) no)))), iv (Rel.b6 (f (Int.toNat (idxV n (relC (LFd_q1 f)) no)))),
   iv (Rel.b7 (f (Int.toNat (idxV n (relC (LFd_q1 f)) no)))), iv (Rel.b8 (f (Int.toNat (idxV n (relC (LFd_q1 f)) no)))), iv (Rel.b9 (f (Int.toNat (idxV n (relC (LFd_q1 f)) no)))),
   iv (Rel.b10 (f (Int.toNat (idxV n (relC (LFd_q1 f)) no)))), iv (Rel.b11 (f (Int.toNat (idxV n (relC (LFd_q1 f)) no)))), iv (Rel.pn (f (Int.toNat (idxV n (relC (LFd_q1 f)) no)))),
   iv (Rel.pd (f (Int.toNat (idxV n (relC (LFd_q1 f)) no)))), SV.d (DV.x (.int .u64 (Rel.tag (f (Int.toNat (idxV n (relC (LFd_q1 f)) no)))))), iv (0 : Int)]))))

theorem LFd_eq (n : Nat) (f : Nat → Rel) (no : Int) : TP .nil 37 [.d (chD n f), iv no] = LFd n f no := by kernel_rfl

noncomputable def tCt (n : Nat) (c : Nat → Int) : Tree SV := TP .nil 33 [.d (.ro n 1 fun i _ => .x (.int .u8 (c i)))]
noncomputable def LCt4 (n : Nat) (c : Nat → Int) : Tree SV :=
  .need ((Byt n fun i x => DV.x (.int .u8 (c i))) ∧ (0 : Int) ≤ (0 : Int))
  (.need ((Byt n fun i x => DV.x (.int .u8 (c i))) ∧ (0 : Int) ≤ (1 : Int))
   (.need (Byt n fun i x => DV.x (.int .u8 (c i)))
   (.need ((Byt n fun i x => DV.x (.int .u8 (c i))) ∧ (0 : Int) ≤ (2 : Int))
   (.need ((Byt n fun i x => DV.x (.int .u8 (c i))) ∧ (0 : Int) ≤ (3 : Int))
   (.need ((6 : Int) ≠ (0 : Int))
   (.need (I64 (w64 ((1 : Int) + at8 n (fun i => c i) (2 : Int))) ∧ I64 (w64 ((1 : Int) + Int.tmod (at8 n (fun i => c i) (3 : Int)) (6 : Int))))
   (.code (codeC (sub [(0 : Nat), (0 : Nat), (0 : Nat), (0 : Nat), (0 : Nat), (0 : Nat), (0 : Nat)] (tCt n c))) (codeS (sub [(0 : Nat), (0 : Nat), (0 : Nat), (0 : Nat), (0 : Nat), (0 : Nat), (0 : Nat)] (tCt n c)))
   (codeK (sub [(0 : Nat), (0 : Nat), (0 : Nat), (0 : Nat), (0 : Nat), (0 : Nat), (0 : Nat)] (tCt n c))))))))))

theorem LCt4_eq (n : Nat) (c : Nat → Int) : tCt n c = LCt4 n c := by kernel_rfl

/-! Content -/
noncomputable def ctR (n : Nat) (c : Nat → Int) : Rel := ⟨0, 0, IntKind.wrap .u64 (at8 n c 0), IntKind.wrap .u64 (at8 n c 1), (Int.tmod (at8 n c 4) 4).toNat, fun i => IntKind.wrap .u64 (at8 n c (5 + i)),
  (loQ n c 0).num, (loQ n c 0).den, (hiQ n c 0).num, (hiQ n c 0).den, (loQ n c 1).num, (loQ n c 1).den, (hiQ n c 1).num, (hiQ n c 1).den, (loQ n c 2).num, (loQ n c 2).den, (hiQ n c 2).num, (hiQ n c 2).den,
  (mdQ (w64 (1 + at8 n c 2)) (w64 (1 + Int.tmod (at8 n c 3) 6))).num, (mdQ (w64 (1 + at8 n c 2)) (w64 (1 + Int.tmod (at8 n c 3) 6))).den, 0⟩
def zeroL : List SV := [iv 0, u64v 0, u64v 0, u64v 0, .d (.x (.slice none 0 0)), iv 0, iv 0, iv 0, iv 0, iv 0, iv 0, iv 0, iv 0, iv 0, iv 0, iv 0, iv 0, iv 0, iv 0, u64v 0]
def relLf (r : Rel) (s : SV) : List SV := [iv r.no, u64v r.prev, u64v r.src, u64v r.cir, s, iv r.b0, iv r.b1, iv r.b2, iv r.b3, iv r.b4, iv r.b5, iv r.b6, iv r.b7, iv r.b8, iv r.b9, iv r.b10, iv r.b11, iv r.pn, iv r.pd, u64v r.tag]
def ro8' (n : Nat) (c : Nat → Int) : SV := .d (.ro n 1 fun i _ => .x (.int .u8 (c i)))
noncomputable def entCt (n : Nat) (c : Nat → Int) : AS := ⟨[.ok (ro8' n c), .unk, .ok (.ptr 0 0), .ok (.ptr 1 0), .ok (iv 0)] ++ List.replicate 35 .unk, [some (.cells zeroL), some (.cells (relLf (ctR n c) (.d (.x (.slice none 0 0))))), none], 3, .nil⟩
theorem ECt_eq (n : Nat) (c : Nat → Int) : entA 3 [] [0, 2, 3, 4] [2] 3 .nil (sub [0, 0, 0, 0, 0, 0, 0] (tCt n c)) = some (entCt n c) := by kernel_rfl
noncomputable def invCt (n : Nat) (c : Nat → Int) (r : Rel) (k : Nat) (v : Nat → Int) : AS := ⟨[.ok (ro8' n c), .unk, .ok (.ptr 0 0), .ok (.ptr 1 0), .ok (iv k)] ++ List.replicate 35 .unk, [some (.cells zeroL), some (.cells (relLf r (.row 3 0 0 k 1))), none, some (.row k 1 fun i _ => .x (.int .u64 (v i)))], 4, .nil⟩
noncomputable def bodyCt : Code := loopN (bodyOf Try.prog 33) 0
noncomputable def rtCt : List (Root × Nat) := [(.cell (.base 1) 4, 3)]
noncomputable def BCt (n : Nat) (c : Nat → Int) (r : Rel) (k : Nat) (v : Nat → Int) : Tree (Ex × AS) :=
  .need ((Byt n fun i x => DV.x (.int .u8 (c i))) ∧ (0 : Int) ≤ (4 : Int))
  (.need ((4 : Int) ≠ (0 : Int))
   (.ite (decide ((↑k : Int) < Int.tmod (at8 n (fun i => c i) (4 : Int)) (4 : Int)))
   (.need ((Byt n fun i x => DV.x (.int .u8 (c i))) ∧ (0 : Int) ≤ w64 ((5 : Int) + (↑k : Int)))
   (.need (0 + k ≤ k ∧ 1 ≤ List.length [SV.d (DV.x (.int .u64 (IntKind.wrap .u64 (at8 n (fun i => c i) (w64 ((5 : Int) + (↑k : Int)))))))] ∧ (k + 1) * 8 ≤ 140737488355328)
   (.ret
   (.normal,
   AS.mk
   [.ok (SV.d (DV.ro n 1 fun i x => DV.x (.int .u8 (c i)))), .unk, .ok (SV.ptr 0 0), .ok (SV.ptr 1 0), .ok (iv (w64 ((↑k : Int) + (1 : Int)))), .unk,
   .unk, .unk, .unk, .unk, .unk, .unk, .unk, .unk, .unk, .unk, .unk, .unk, .unk, .unk, .unk, .unk, .unk, .unk, .unk, .unk, .unk, .unk, .unk, .unk, .unk, .unk, .unk,
   .unk, .unk, .unk, .unk, .unk, .unk, .unk]
   [some
   (.cells
   [iv (0 : Int), SV.d (DV.x (.int .u64 (0 : Int))), SV.d (DV.x (.int .u64 (0 : Int))), SV.d (DV.x (.int .u64 (0 : Int))), SV.d (DV.x (.slice none 0 0)),
   iv (0 : Int), iv (0 : Int), iv (0 : Int), iv (0 : Int), iv (0 : Int), iv (0 : Int), iv (0 : Int), iv (0 : Int), iv (0 : Int), iv (0 : Int), iv (0 : Int), iv (0 : Int), iv (0 : Int), iv (0 : Int),
   SV.d (DV.x (.int .u64 (0 : Int)))]),
   some
   (.cells
   [iv (Rel.no r), SV.d (DV.x (.int .u64 (Rel.prev r))), SV.d (DV.x (.int .u64 (Rel.src r))), SV.d (DV.x (.int .u64 (Rel.cir r))),
   SV.row 3 0 0 (k + 1) 1, iv (Rel.b0 r), iv (Rel.b1 r), iv (Rel.b2 r), iv (Rel.b3 r), iv (Rel.b4 r), iv (Rel.b5 r), iv (Rel.b6 r), iv (Rel.b7 r), iv (Rel.b8 r),
   iv (Rel.b9 r), iv (Rel.b10 r), iv (Rel.b11 r), iv (Rel.pn r), iv (Rel.pd r), SV.d (DV.x (.int .u64 (Rel.tag r)))]),
   none,
   some
   (.row (k + 1) 1 fun a b =>
   selD (decide (a < k)) (DV.x (.int .u64 (v ((0 : Nat) + a))))
   (dsAt [DV.x (.int .u64 (IntKind.wrap .u64 (at8 n (fun i => c i) (w64 ((5 : Int) + (↑k : Int))))))] (0 + (0 + (a - k)) * 1 + b)))]
   4 .nil))))
   (.ret
   (.exit 0,
   AS.mk
   [.ok (SV.d (DV.ro n 1 fun i x => DV.x (.int .u8 (c i)))), .unk, .ok (SV.ptr 0 0), .ok (SV.ptr 1 0), .ok (iv (↑k : Int)), .unk, .unk, .unk, .unk,
   .unk, .unk, .unk, .unk, .unk, .unk, .unk, .unk, .unk, .unk, .unk, .unk, .unk, .unk, .unk, .unk, .unk, .unk, .unk, .unk, .unk, .unk, .unk, .unk, .unk, .unk, .unk, .unk,
   .unk, .unk, .unk]
   [some
   (.cells
   [iv (0 : Int), SV.d (DV.x (.int .u64 (0 : Int))), SV.d (DV.x (.int .u64 (0 : Int))), SV.d (DV.x (.int .u64 (0 : Int))), SV.d (DV.x (.slice none 0 0)),
   iv (0 : Int), iv (0 : Int), iv (0 : Int), iv (0 : Int), iv (0 : Int), iv (0 : Int), iv (0 : Int), iv (0 : Int), iv (0 : Int), iv (0 : Int), iv (0 : Int), iv (0 : Int), iv (0 : Int), iv (0 : Int),
   SV.d (DV.x (.int .u64 (0 : Int)))]),
   some
   (.cells
   [iv (Rel.no r), SV.d (DV.x (.int .u64 (Rel.prev r))), SV.d (DV.x (.int .u64 (Rel.src r))), SV.d (DV.x (.int .u64 (Rel.cir r))), SV.row 3 0 0 k 1,
   iv (Rel.b0 r), iv (Rel.b1 r), iv (Rel.b2 r), iv (Rel.b3 r), iv (Rel.b4 r), iv (Rel.b5 r), iv (Rel.b6 r), iv (Rel.b7 r), iv (Rel.b8 r), iv (Rel.b9 r), iv (Rel.b10 r), iv (Rel.b11 r), iv (Rel.pn r), iv (Rel.pd r),
   SV.d (DV.x (.int .u64 (Rel.tag r)))]),
   none, some (.row k 1 fun i x => DV.x (.int .u64 (v i)))]
   4 .nil))))

theorem BCt_eq (n : Nat) (c : Nat → Int) (r : Rel) (k : Nat) (v : Nat → Int) : cutT 3 rtCt [0, 2, 3, 4] [2] 4 .nil (exec Try.prog CP DP 200 bodyCt (invCt n c r k v)) = BCt n c r k v := by kernel_rfl

noncomputable def KCt (n : Nat) (c : Nat → Int) (r : Rel) (k : Nat) (v : Nat → Int) : Tree SV :=
  .need (0 + k ≤ k)
  (.ret
   (SV.agg
   [iv (Rel.no r), SV.d (DV.x (.int .u64 (Rel.prev r))), SV.d (DV.x (.int .u64 (Rel.src r))), SV.d (DV.x (.int .u64 (Rel.cir r))),
   SV.d (DV.ro k 1 fun i j => DV.x (.int .u64 (v ((0 : Nat) + i)))), iv (Rel.b0 r), iv (Rel.b1 r), iv (Rel.b2 r), iv (Rel.b3 r), iv (Rel.b4 r), iv (Rel.b5 r), iv (Rel.b6 r), iv (Rel.b7 r), iv (Rel.b8 r),
   iv (Rel.b9 r), iv (Rel.b10 r), iv (Rel.b11 r), iv (Rel.pn r), iv (Rel.pd r), SV.d (DV.x (.int .u64 (Rel.tag r)))]))

theorem KCt_eq (n : Nat) (c : Nat → Int) (r : Rel) (k : Nat) (v : Nat → Int) : codeK (sub [0, 0, 0, 0, 0, 0, 0] (tCt n c)) (.exit 0) (invCt n c r k v) = KCt n c r k v := by kernel_rfl


end Go.Proofs.Ytpaejfeojdoikaa

namespace Go.Proofs.Ytpaejfeojdoikaa
open Go.Sx
set_option maxRecDepth 100000

theorem tmod4 {n : Nat} {c : Nat → Int} (hb : Byt n fun i _ => .x (.int .u8 (c i))) (i : Int) {m : Int} (hm : 0 < m) : 0 ≤ Int.tmod (at8 n c i) m ∧ Int.tmod (at8 n c i) m < m := by
  have h := at8_ro hb i
  have h : 0 ≤ at8 n c i ∧ at8 n c i < 256 := h
  rw [Int.tmod_eq_emod_of_nonneg h.1]
  exact ⟨Int.emod_nonneg _ (by omega), Int.emod_lt_of_pos _ hm⟩
theorem ct_fn {n : Nat} {c : Nat → Int} (hb : Byt n fun i _ => .x (.int .u8 (c i))) : (ctR n c).fn < 4 := by
  have := tmod4 hb 4 (m := 4) (by decide)
  show (Int.tmod (at8 n c 4) 4).toNat < 4
  omega
theorem ct_body {n : Nat} {c : Nat → Int} {k : Nat} (hk : k < 4) (i : Nat) (hi : i < k + 1) :
    selD (decide (i < k)) (DV.x (.int .u64 ((ctR n c).fc i))) (dsAt [DV.x (.int .u64 (IntKind.wrap .u64 (at8 n c (w64 (5 + (k : Int))))))] (i - k)) = DV.x (.int .u64 ((ctR n c).fc i)) := by
  rw [selD_if]
  by_cases h : i < k
  · rw [if_pos h]
  · rw [if_neg h]
    obtain rfl : i = k := by omega
    rw [Nat.sub_self, w64_of (n := 5 + (i : Int)) (by omega) (by omega)]
    rfl

set_option maxHeartbeats 1000000 in
theorem ct_sat {n : Nat} {c : Nat → Int} (hb : Byt n fun i _ => .x (.int .u8 (c i))) : Sat Try.prog (tCt n c) fun x => leSV 0 [] [] x (.agg (relL (ctR n c))) := by
  constructor
  rw [LCt4_eq]; unfold LCt4
  have a2 : 0 ≤ at8 n c 2 ∧ at8 n c 2 < 256 := at8_ro hb 2
  have a3 := tmod4 hb 3 (m := 6) (by decide)
  have i1 : I64 (w64 (1 + at8 n c 2)) := by rw [w64_of (by omega) (by omega)]; exact ⟨by omega, by omega⟩
  have i2 : I64 (w64 (1 + Int.tmod (at8 n c 3) 6)) := by rw [w64_of (by omega) (by omega)]; exact ⟨by omega, by omega⟩
  refine ⟨⟨hb, by decide⟩, ⟨hb, by decide⟩, hb, ⟨hb, by decide⟩, ⟨hb, by decide⟩, by decide, ⟨i1, i2⟩, ?_⟩
  have hfn := ct_fn hb
  have a4 := tmod4 hb 4 (m := 4) (by decide)
  have e4 : ((ctR n c).fn : Int) = Int.tmod (at8 n c 4) 4 := Int.toNat_of_nonneg a4.1
  refine code_satS CP_ok DP_ok (n := 200) (n0 := 3) (nx := 4) (roots := rtCt) (keep := [0, 2, 3, 4]) (drop := [2]) (h := .nil) (c := codeC (sub [0, 0, 0, 0, 0, 0, 0] (tCt n c))) (st := codeS (sub [0, 0, 0, 0, 0, 0, 0] (tCt n c))) (k := codeK (sub [0, 0, 0, 0, 0, 0, 0] (tCt n c))) (body := bodyCt) (by kernel_rfl) (by kernel_rfl)
    (fun q s => ∃ k : Nat, q = (ctR n c).fn - k ∧ k ≤ (ctR n c).fn ∧ s = invCt n c (ctR n c) k (ctR n c).fc)
    (fun e s => e = .exit 0 ∧ s = invCt n c (ctR n c) (ctR n c).fn (ctR n c).fc)
    ⟨_, _, ⟨0, rfl, by omega, rfl⟩, (entA_sound (ECt_eq n c)).trans ?_⟩ ?_ ?_
  · refine gc_sound [] [3] rfl ?_ ?_
    · simp [entCt, invCt, leTm, leTV, leSV, leSVs, rn, iv, leD, List.replicate, ro8']
    · simp [entCt, invCt, leHp, leBlk, leSVs, leSV, rn, iv, leD, srcOf, hget, relLf, zeroL, u64v]
  · rintro q s ⟨k, rfl, hk, rfl⟩
    refine Sat.of_eq (BCt_eq n c (ctR n c) k _) ?_
    constructor
    unfold BCt
    refine ⟨⟨hb, by decide⟩, by decide, fun hc => ?_, fun hc => ?_⟩
    · have hc : k < (ctR n c).fn := by simp only [decide_eq_true_eq] at hc; have : (k : Int) < Int.tmod (at8 n c 4) 4 := hc; omega
      have ew : w64 (5 + (k : Int)) = 5 + k := w64_of (by omega) (by omega)
      refine ⟨⟨hb, by rw [ew]; omega⟩, ⟨by omega, by simp, by omega⟩, (ctR n c).fn - (k + 1), _, by omega, ⟨k + 1, rfl, by omega, rfl⟩, ?_⟩
      rw [w64_of (n := (k : Int) + 1) (by omega) (by omega)]
      refine gc_sound [(3, 3)] [] rfl ?_ ?_
      · simp [invCt, leTm, leTV, leSV, leSVs, rn, iv, leD, List.replicate, ro8']
      · simp [invCt, leHp, leBlk, leSVs, leSV, rn, iv, leD, srcOf, hget, relLf, zeroL, u64v]
        intro i hi
        simpa using ct_body (n := n) (c := c) (k := k) (by omega) i (by omega)
    · have hc : k = (ctR n c).fn := by
        simp only [decide_eq_false_iff_not] at hc
        have : ¬ ((k : Int) < Int.tmod (at8 n c 4) 4) := hc
        omega
      rw [hc]
      exact ⟨_, ⟨rfl, rfl⟩, Gc.refl _ _⟩
  · rintro e s ⟨rfl, rfl⟩
    refine Sat.of_eq (KCt_eq n c (ctR n c) (ctR n c).fn _) ⟨?_⟩
    unfold KCt
    refine ⟨by omega, ?_⟩
    simp only [Tree.sat, relL, leSV, leSVs, u64v, iv, rou64, and_true]
    simp [leD]

noncomputable def cCt : Ctr := fun ss => match ss with
  | [.d d] => match rowD 1 d with
    | some (n, cell) => .need (Byt n cell) (.ret (.agg (relL (ctR n (intCell cell)))))
    | none => .fail
  | _ => .fail
theorem cCt_ok : CtrOK Try.prog 33 cCt := by
  refine ctrOK_leR CP_ok DP_ok (by kernel_rfl) (by kernel_rfl) fun ss r h => ?_
  unfold cCt at h
  split at h
  · rename_i d
    split at h
    · rename_i n cell hr
      obtain ⟨h1, rfl⟩ := h
      have k := ct_sat (byt_ro h1)
      refine ⟨[.d (.ro n 1 fun i _ => .x (.int .u8 (intCell cell i)))], 200, .nil, ?_, ?_⟩
      · simp only [leSVs, leSV, and_true]
        exact rowD_le hr (le_ro8 h1)
      · exact k
    · exact h.elim
  · exact h.elim

/-! ### found -/
def zR : Rel := ⟨0, 0, 0, 0, 0, fun _ => 0, 0, 0, 0, 0, 0, 0, 0, 0, 0, 0, 0, 0, 0, 0, 0⟩
def fiR (n : Nat) (f : Nat → Rel) (no : Int) : Rel := bif decide (idxV n f no < 0) then zR else f (idxV n f no).toNat
def fiE (n : Nat) (f : Nat → Rel) (no : Int) : Int := bif decide (idxV n f no < 0) then 4 else 0
theorem idx_lt {n : Nat} {f : Nat → Rel} {no : Int} (h : ¬ idxV n f no < 0) : 0 ≤ idxV n f no ∧ idxV n f no < n := by
  unfold idxV at h ⊢
  split at h
  · omega
  · rename_i hp
    rw [if_neg hp]
    rcases posF_spec (f := f) (no := no) (n := n) n 0 (by omega) with ⟨h1, _⟩ | ⟨_, h2, _⟩
    · exact absurd h1 hp
    · omega
noncomputable def cFd : Ctr := fun ss => match ss with
  | [.d d, .d (.x (.int .i64 no))] => match rowD 20 d with
    | some (n, cell) => .need (ChC n cell) (.ret (.agg [iv (fiR n (relC cell) no).no, u64v (fiR n (relC cell) no).prev, u64v (fiR n (relC cell) no).src, u64v (fiR n (relC cell) no).cir, rou64 (fiR n (relC cell) no).fn (fiR n (relC cell) no).fc, iv (fiR n (relC cell) no).b0, iv (fiR n (relC cell) no).b1, iv (fiR n (relC cell) no).b2, iv (fiR n (relC cell) no).b3, iv (fiR n (relC cell) no).b4, iv (fiR n (relC cell) no).b5, iv (fiR n (relC cell) no).b6, iv (fiR n (relC cell) no).b7, iv (fiR n (relC cell) no).b8, iv (fiR n (relC cell) no).b9, iv (fiR n (relC cell) no).b10, iv (fiR n (relC cell) no).b11, iv (fiR n (relC cell) no).pn, iv (fiR n (relC cell) no).pd, u64v (fiR n (relC cell) no).tag, iv (fiE n (relC cell) no)]))
    | none => .fail
  | _ => .fail
theorem fd_sat {n : Nat} {f : Nat → Rel} {no : Int} (hn : n ≤ 1000000) (hf : ∀ i, i < n → (f i).fn ≤ 1000000) : Sat Try.prog (LFd n f no) fun x => leSV 0 [] [] x (.agg [iv (fiR n f no).no, u64v (fiR n f no).prev, u64v (fiR n f no).src, u64v (fiR n f no).cir, rou64 (fiR n f no).fn (fiR n f no).fc, iv (fiR n f no).b0, iv (fiR n f no).b1, iv (fiR n f no).b2, iv (fiR n f no).b3, iv (fiR n f no).b4, iv (fiR n f no).b5, iv (fiR n f no).b6, iv (fiR n f no).b7, iv (fiR n f no).b8, iv (fiR n f no).b9, iv (fiR n f no).b10, iv (fiR n f no).b11, iv (fiR n f no).pn, iv (fiR n f no).pd, u64v (fiR n f no).tag, iv (fiE n f no)]) := by
  constructor
  unfold LFd
  refine ⟨ChC.self hn hf, fun h => ?_, fun h => ?_⟩
  · have h : decide (idxV n f no < 0) = true := h
    have e1 : fiR n f no = zR := by unfold fiR; rw [h]; rfl
    have e2 : fiE n f no = 4 := by unfold fiE; rw [h]; rfl
    rw [e1, e2]
    simp only [Tree.sat, leSV, leSVs, u64v, iv, rou64, zR, and_true]
    simp [leD]
  · have h : decide (idxV n f no < 0) = false := h
    have e1 : fiR n f no = f (idxV n f no).toNat := by unfold fiR; rw [h]; rfl
    have e2 : fiE n f no = 0 := by unfold fiE; rw [h]; rfl
    rw [e1, e2]
    have g := idx_lt (of_decide_eq_false h)
    refine ⟨g, ?_⟩
    simp only [Tree.sat, leSV, leSVs, u64v, iv, rou64, and_true]
    refine ⟨?_, ?_, ?_, ?_, ?_, ?_, ?_, ?_, ?_, ?_, ?_, ?_, ?_, ?_, ?_, ?_, ?_, ?_, ?_, ?_, ?_⟩
    all_goals first | exact rfl | exact ⟨rfl, rfl, fun i j _ _ => rfl⟩
theorem cFd_ok : CtrOK Try.prog 37 cFd := by
  refine ctrOK_leR CP_ok DP_ok (by kernel_rfl) (by kernel_rfl) fun ss r h => ?_
  unfold cFd at h
  split at h
  · rename_i d no
    split at h
    · rename_i n cell hr
      obtain ⟨h1, rfl⟩ := h
      have k := fd_sat (no := no) h1.1 h1.fn
      refine ⟨[.d (chD n (relC cell)), iv no], 200, .nil, ?_, ?_⟩
      · simp only [leSVs, leSV, iv, and_true]
        exact ⟨h1.le hr, by simp [leD]⟩
      · exact Sat.of_eq (LFd_eq n (relC cell) no) k
    · exact h.elim
  · exact h.elim
end Go.Proofs.Ytpaejfeojdoikaa

namespace Go.Proofs.Ytpaejfeojdoikaa
open Go.Sx
set_option maxRecDepth 100000
set_option pp.structureInstances false

noncomputable def cCtG (ct : Nat → (Nat → Int) → Rel) : Ctr := fun ss => match ss with
  | [.d d] => match rowD 1 d with
    | some (n, cell) => .need (Byt n cell) (.ret (.agg (relL (ct n (intCell cell)))))
    | none => .fail
  | _ => .fail
theorem cCtG_ok : CtrOK Try.prog 33 (cCtG ctR) := cCt_ok
noncomputable def manQ (ct : Nat → (Nat → Int) → Rel) : FuncId → Option Ctr := fun k => match k with
  | 33 => some (cCtG ct)
  | 37 => some cFd
  | k => manP k
theorem manQ_ok (k : Nat) (c : Ctr) (h : manQ ctR k = some c) : CtrOK Try.prog k c ∧ goodF Try.prog k = true := by
  unfold manQ at h
  split at h
  · cases h; exact ⟨cCtG_ok, by kernel_rfl⟩
  · cases h; exact ⟨cFd_ok, by kernel_rfl⟩
  · exact manP_ok _ _ h
noncomputable def CQ (ct : Nat → (Nat → Int) → Rel) : Ctx := ctxO Try.prog (manQ ct) ownL (fun k => k == 109) 200 .nil 6
theorem CQ_ok : CtxOK Try.prog (CQ ctR) := ctxO_ok mixed manQ_ok ownL_ok 6
noncomputable def DQ (ct : Nat → (Nat → Int) → Rel) : Dr := fun _ => drawn Try.prog (CQ ct)
theorem DQ_ok : DrOK Try.prog (CQ ctR) (DQ ctR) := drawn_ok CQ_ok mixed
noncomputable def TQ (ct : Nat → (Nat → Int) → Rel) (h : Hint) (k : Nat) (args : List SV) : Tree SV := fnT Try.prog (CQ ct) (DQ ct) 200 (fnOf Try.prog k) (bodyOf Try.prog k) args h
/-- A list of lists of bytes. -/
def bbD (m : Nat) (ln : Nat → Nat) (c : Nat → Nat → Nat → DV) : DV := .ro m 1 fun i _ => .ro (ln i) 1 (c i)
noncomputable def tChn (ct : Nat → (Nat → Int) → Rel) (key : Int) (m : Nat) (ln : Nat → Nat) (c : Nat → Nat → Nat → DV) : Tree SV := TQ ct .nil 32 [u64v key, .d (bbD m ln c)]
noncomputable def LChn (ct : Nat → (Nat → Int) → Rel) (key : Int) (m : Nat) (ln : Nat → Nat) (c : Nat → Nat → Nat → DV) : Tree SV :=
  .code (codeC (sub [] (tChn ct key m ln c))) (codeS (sub [] (tChn ct key m ln c))) (codeK (sub [] (tChn ct key m ln c)))

theorem LChn_eq (ct : Nat → (Nat → Int) → Rel) (key : Int) (m : Nat) (ln : Nat → Nat) (c : Nat → Nat → Nat → DV) : tChn ct key m ln c = LChn ct key m ln c := by kernel_rfl

noncomputable def inv0Chn (key : Int) (m : Nat) (ln : Nat → Nat) (c : Nat → Nat → Nat → DV) : AS := ⟨[.ok (u64v key), .ok (.d (bbD m ln c)), .unk, .unk, .unk, .ok (.row 0 0 0 0 20), .ok (iv 0)] ++ List.replicate 26 .unk, [some (.cells [])], 1, .nil⟩
noncomputable def invChn (key : Int) (m : Nat) (ln : Nat → Nat) (c : Nat → Nat → Nat → DV) (k : Nat) (f : Nat → Rel) : AS := ⟨[.ok (u64v key), .ok (.d (bbD m ln c)), .unk, .unk, .unk, .ok (.d (chD k f)), .ok (iv k)] ++ List.replicate 26 .unk, [none], 1, .nil⟩
noncomputable def bodyChn : Code := loopN (bodyOf Try.prog 32) 0
noncomputable def BChn0_q1 (ct : Nat → (Nat → Int) → Rel) (ln : Nat → Nat) (c : Nat → Nat → Nat → DV) (i : Nat) (x : Nat) : DV :=
  DV.x (.int .u64 (Rel.fc (ct (ln (Int.toNat (0 : Int))) (intCell (c (Int.toNat (0 : Int))))) i))
noncomputable def BChn0_q2 (ln : Nat → Nat) (c : Nat → Nat → Nat → DV) (i : Nat) (x : Nat) : DV :=
  DV.ro (ln i) 1 (c i)
noncomputable def BChn0_q3 (ct : Nat → (Nat → Int) → Rel) (ln : Nat → Nat) (c : Nat → Nat → Nat → DV) (i : Nat) : Int :=
  Rel.fc (ct (ln (Int.toNat (0 : Int))) (intCell (c (Int.toNat (0 : Int))))) i
noncomputable def BChn0_q4 (ct : Nat → (Nat → Int) → Rel) (key : Int) (ln : Nat → Nat) (c : Nat → Nat → Nat → DV) (i : Nat) (j : Nat) : DV :=
  relD
  (Rel.mk
   (Rel.no
   (Rel.mk (1 : Int) (0 : Int) (Rel.src (ct (ln (Int.toNat (0 : Int))) (intCell (c (Int.toNat (0 : Int)))))) (Rel.cir (ct (ln (Int.toNat (0 : Int))) (intCell (c (Int.toNat (0 : Int))))))
   (Rel.fn (ct (ln (Int.toNat (0 : Int))) (intCell (c (Int.toNat (0 : Int)))))) (BChn0_q3 ct ln c) (Rel.b0 (ct (ln (Int.toNat (0 : Int))) (intCell (c (Int.toNat (0 : Int))))))
   (Rel.b1 (ct (ln (Int.toNat (0 : Int))) (intCell (c (Int.toNat (0 : Int)))))) (Rel.b2 (ct (ln (Int.toNat (0 : Int))) (intCell (c (Int.toNat (0 : Int)))))) (Rel.b3 (ct (ln (Int.toNat (0 : Int))) (intCell (c (Int.toNat (0 : Int))))))
   (Rel.b4 (ct (ln (Int.toNat (0 : Int))) (intCell (c (Int.toNat (0 : Int)))))) (Rel.b5 (ct (ln (Int.toNat (0 : Int))) (intCell (c (Int.toNat (0 : Int)))))) (Rel.b6 (ct (ln (Int.toNat (0 : Int))) (intCell (c (Int.toNat (0 : Int))))))
   (Rel.b7 (ct (ln (Int.toNat (0 : Int))) (intCell (c (Int.toNat (0 : Int)))))) (Rel.b8 (ct (ln (Int.toNat (0 : Int))) (intCell (c (Int.toNat (0 : Int)))))) (Rel.b9 (ct (ln (Int.toNat (0 : Int))) (intCell (c (Int.toNat (0 : Int))))))
   (Rel.b10 (ct (ln (Int.toNat (0 : Int))) (intCell (c (Int.toNat (0 : Int)))))) (Rel.b11 (ct (ln (Int.toNat (0 : Int))) (intCell (c (Int.toNat (0 : Int)))))) (Rel.pn (ct (ln (Int.toNat (0 : Int))) (intCell (c (Int.toNat (0 : Int))))))
   (Rel.pd (ct (ln (Int.toNat (0 : Int))) (intCell (c (Int.toNat (0 : Int)))))) (Rel.tag (ct (ln (Int.toNat (0 : Int))) (intCell (c (Int.toNat (0 : Int))))))))
   (Rel.prev
   (Rel.mk (1 : Int) (0 : Int) (Rel.src (ct (ln (Int.toNat (0 : Int))) (intCell (c (Int.toNat (0 : Int)))))) (Rel.cir (ct (ln (Int.toNat (0 : Int))) (intCell (c (Int.toNat (0 : Int))))))
   (Rel.fn (ct (ln (Int.toNat (0 : Int))) (intCell (c (Int.toNat (0 : Int)))))) (BChn0_q3 ct ln c) (Rel.b0 (ct (ln (Int.toNat (0 : Int))) (intCell (c (Int.toNat (0 : Int))))))
   (Rel.b1 (ct (ln (Int.toNat (0 : Int))) (intCell (c (Int.toNat (0 : Int)))))) (Rel.b2 (ct (ln (Int.toNat (0 : Int))) (intCell (c (Int.toNat (0 : Int)))))) (Rel.b3 (ct (ln (Int.toNat (0 : Int))) (intCell (c (Int.toNat (0 : Int))))))
   (Rel.b4 (ct (ln (Int.toNat (0 : Int))) (intCell (c (Int.toNat (0 : Int)))))) (Rel.b5 (ct (ln (Int.toNat (0 : Int))) (intCell (c (Int.toNat (0 : Int)))))) (Rel.b6 (ct (ln (Int.toNat (0 : Int))) (intCell (c (Int.toNat (0 : Int))))))
   (Rel.b7 (ct (ln (Int.toNat (0 : Int))) (intCell (c (Int.toNat (0 : Int)))))) (Rel.b8 (ct (ln (Int.toNat (0 : Int))) (intCell (c (Int.toNat (0 : Int)))))) (Rel.b9 (ct (ln (Int.toNat (0 : Int))) (intCell (c (Int.toNat (0 : Int))))))
   (Rel.b10 (ct (ln (Int.toNat (0 : Int))) (intCell (c (Int.toNat (0 : Int)))))) (Rel.b11 (ct (ln (Int.toNat (0 : Int))) (intCell (c (Int.toNat (0 : Int)))))) (Rel.pn (ct (ln (Int.toNat (0 : Int))) (intCell (c (Int.toNat (0 : Int))))))
   (Rel.pd (ct (ln (Int.toNat (0 : Int))) (intCell (c (Int.toNat (0 : Int)))))) (Rel.tag (ct (ln (Int.toNat (0 : Int))) (intCell (c (Int.toNat (0 : Int))))))))
   (Rel.src
   (Rel.mk (1 : Int) (0 : Int) (Rel.src (ct (ln (Int.toNat (0 : Int))) (intCell (c (Int.toNat (0 : Int)))))) (Rel.cir (ct (ln (Int.toNat (0 : Int))) (intCell (c (Int.toNat (0 : Int))))))
   (Rel.fn (ct (ln (Int.toNat (0 : Int))) (intCell (c (Int.toNat (0 : Int)))))) (BChn0_q3 ct ln c) (Rel.b0 (ct (ln (Int.toNat (0 : Int))) (intCell (c (Int.toNat (0 : Int))))))
   (Rel.b1 (ct (ln (Int.toNat (0 : Int))) (intCell (c (Int.toNat (0 : Int)))))) (Rel.b2 (ct (ln (Int.toNat (0 : Int))) (intCell (c (Int.toNat (0 : Int)))))) (Rel.b3 (ct (ln (Int.toNat (0 : Int))) (intCell (c (Int.toNat (0 : Int))))))
   (Rel.b4 (ct (ln (Int.toNat (0 : Int))) (intCell (c (Int.toNat (0 : Int)))))) (Rel.b5 (ct (ln (Int.toNat (0 : Int))) (intCell (c (Int.toNat (0 : Int)))))) (Rel.b6 (ct (ln (Int.toNat (0 : Int))) (intCell (c (Int.toNat (0 : Int))))))
   (Rel.b7 (ct (ln (Int.toNat (0 : Int))) (intCell (c (Int.toNat (0 : Int)))))) (Rel.b8 (ct (ln (Int.toNat (0 : Int))) (intCell (c (Int.toNat (0 : Int)))))) (Rel.b9 (ct (ln (Int.toNat (0 : Int))) (intCell (c (Int.toNat (0 : Int))))))
   (Rel.b10 (ct (ln (Int.toNat (0 : Int))) (intCell (c (Int.toNat (0 : Int)))))) (Rel.b11 (ct (ln (Int.toNat (0 : Int))) (intCell (c (Int.toNat (0 : Int)))))) (Rel.pn (ct (ln (Int.toNat (0 : Int))) (intCell (c (Int.toNat (0 : Int))))))
   (Rel.pd (ct (ln (Int.toNat (0 : Int))) (intCell (c (Int.toNat (0 : Int)))))) (Rel.tag (ct (ln (Int.toNat (0 : Int))) (intCell (c (Int.toNat (0 : Int))))))))
   (Rel.cir
   (Rel.mk (1 : Int) (0 : Int) (Rel.src (ct (ln (Int.toNat (0 : Int))) (intCell (c (Int.toNat (0 : Int)))))) (Rel.cir (ct (ln (Int.toNat (0 : Int))) (intCell (c (Int.toNat (0 : Int))))))
   (Rel.fn (ct (ln (Int.toNat (0 : Int))) (intCell (c (Int.toNat (0 : Int)))))) (BChn0_q3 ct ln c) (Rel.b0 (ct (ln (Int.toNat (0 : Int))) (intCell (c (Int.toNat (0 : Int))))))
   (Rel.b1 (ct (ln (Int.toNat (0 : Int))) (intCell (c (Int.toNat (0 : Int)))))) (Rel.b2 (ct (ln (Int.toNat (0 : Int))) (intCell (c (Int.toNat (0 : Int)))))) (Rel.b3 (ct (ln (Int.toNat (0 : Int))) (intCell (c (Int.toNat (0 : Int))))))
   (Rel.b4 (ct (ln (Int.toNat (0 : Int))) (intCell (c (Int.toNat (0 : Int)))))) (Rel.b5 (ct (ln (Int.toNat (0 : Int))) (intCell (c (Int.toNat (0 : Int)))))) (Rel.b6 (ct (ln (Int.toNat (0 : Int))) (intCell (c (Int.toNat (0 : Int))))))
   (Rel.b7 (ct (ln (Int.toNat (0 : Int))) (intCell (c (Int.toNat (0 : Int)))))) (Rel.b8 (ct (ln (Int.toNat (0 : Int))) (intCell (c (Int.toNat (0 : Int)))))) (Rel.b9 (ct (ln (Int.toNat (0 : Int))) (intCell (c (Int.toNat (0 : Int))))))
   (Rel.b10 (ct (ln (Int.toNat (0 : Int))) (intCell (c (Int.toNat (0 : Int)))))) (Rel.b11 (ct (ln (Int.toNat (0 : Int))) (intCell (c (Int.toNat (0 : Int)))))) (Rel.pn (ct (ln (Int.toNat (0 : Int))) (intCell (c (Int.toNat (0 : Int))))))
   (Rel.pd (ct (ln (Int.toNat (0 : Int))) (intCell (c (Int.toNat (0 : Int)))))) (Rel.tag (ct (ln (Int.toNat (0 : Int))) (intCell (c (Int.toNat (0 : Int))))))))
   (Rel.fn
   (Rel.mk (1 : Int) (0 : Int) (Rel.src (ct (ln (Int.toNat (0 : Int))) (intCell (c (Int.toNat (0 : Int)))))) (Rel.cir (ct (ln (Int.toNat (0 : Int))) (intCell (c (Int.toNat (0 : Int))))))
   (Rel.fn (ct (ln (Int.toNat (0 : Int))) (intCell (c (Int.toNat (0 : Int)))))) (BChn0_q3 ct ln c) (Rel.b0 (ct (ln (Int.toNat (0 : Int))) (intCell (c (Int.toNat (0 : Int))))))
   (Rel.b1 (ct (ln (Int.toNat (0 : Int))) (intCell (c (Int.toNat (0 : Int)))))) (Rel.b2 (ct (ln (Int.toNat (0 : Int))) (intCell (c (Int.toNat (0 : Int)))))) (Rel.b3 (ct (ln (Int.toNat (0 : Int))) (intCell (c (Int.toNat (0 : Int))))))
   (Rel.b4 (ct (ln (Int.toNat (0 : Int))) (intCell (c (Int.toNat (0 : Int)))))) (Rel.b5 (ct (ln (Int.toNat (0 : Int))) (intCell (c (Int.toNat (0 : Int)))))) (Rel.b6 (ct (ln (Int.toNat (0 : Int))) (intCell (c (Int.toNat (0 : Int))))))
   (Rel.b7 (ct (ln (Int.toNat (0 : Int))) (intCell (c (Int.toNat (0 : Int)))))) (Rel.b8 (ct (ln (Int.toNat (0 : Int))) (intCell (c (Int.toNat (0 : Int)))))) (Rel.b9 (ct (ln (Int.toNat (0 : Int))) (intCell (c (Int.toNat (0 : Int))))))
   (Rel.b10 (ct (ln (Int.toNat (0 : Int))) (intCell (c (Int.toNat (0 : Int)))))) (Rel.b11 (ct (ln (Int.toNat (0 : Int))) (intCell (c (Int.toNat (0 : Int)))))) (Rel.pn (ct (ln (Int.toNat (0 : Int))) (intCell (c (Int.toNat (0 : Int))))))
   (Rel.pd (ct (ln (Int.toNat (0 : Int))) (intCell (c (Int.toNat (0 : Int)))))) (Rel.tag (ct (ln (Int.toNat (0 : Int))) (intCell (c (Int.toNat (0 : Int))))))))
   (BChn0_q3 ct ln c)
   (Rel.b0
   (Rel.mk (1 : Int) (0 : Int) (Rel.src (ct (ln (Int.toNat (0 : Int))) (intCell (c (Int.toNat (0 : Int)))))) (Rel.cir (ct (ln (Int.toNat (0 : Int))) (intCell (c (Int.toNat (0 : Int))))))
   (Rel.fn (ct (ln (Int.toNat (0 : Int))) (intCell (c (Int.toNat (0 : Int)))))) (BChn0_q3 ct ln c) (Rel.b0 (ct (ln (Int.toNat (0 : Int))) (intCell (c (Int.toNat (0 : Int))))))
   (Rel.b1 (ct (ln (Int.toNat (0 : Int))) (intCell (c (Int.toNat (0 : Int)))))) (Rel.b2 (ct (ln (Int.toNat (0 : Int))) (intCell (c (Int.toNat (0 : Int)))))) (Rel.b3 (ct (ln (Int.toNat (0 : Int))) (intCell (c (Int.toNat (0 : Int))))))
   (Rel.b4 (ct (ln (Int.toNat (0 : Int))) (intCell (c (Int.toNat (0 : Int)))))) (Rel.b5 (ct (ln (Int.toNat (0 : Int))) (intCell (c (Int.toNat (0 : Int)))))) (Rel.b6 (ct (ln (Int.toNat (0 : Int))) (intCell (c (Int.toNat (0 : Int))))))
   (Rel.b7 (ct (ln (Int.toNat (0 : Int))) (intCell (c (Int.toNat (0 : Int)))))) (Rel.b8 (ct (ln (Int.toNat (0 : Int))) (intCell (c (Int.toNat (0 : Int)))))) (Rel.b9 (ct (ln (Int.toNat (0 : Int))) (intCell (c (Int.toNat (0 : Int))))))
   (Rel.b10 (ct (ln (Int.toNat (0 : Int))) (intCell (c (Int.toNat (0 : Int)))))) (Rel.b11 (ct (ln (Int.toNat (0 : Int))) (intCell (c (Int.toNat (0 : Int)))))) (Rel.pn (ct (ln (Int.toNat (0 : Int))) (intCell (c (Int.toNat (0 : Int))))))
   (Rel.pd (ct (ln (Int.toNat (0 : Int))) (intCell (c (Int.toNat (0 : Int)))))) (Rel.tag (ct (ln (Int.toNat (0 : Int))) (intCell (c (Int.toNat (0 : Int))))))))
   (Rel.b1
   (Rel.mk (1 : Int) (0 : Int) (Rel.src (ct (ln (Int.toNat (0 : Int))) (intCell (c (Int.toNat (0 : Int)))))) (Rel.cir (ct (ln (Int.toNat (0 : Int))) (intCell (c (Int.toNat (0 : Int))))))
   (Rel.fn (ct (ln (Int.toNat (0 : Int))) (intCell (c (Int.toNat (0 : Int)))))) (BChn0_q3 ct ln c) (Rel.b0 (ct (ln (Int.toNat (0 : Int))) (intCell (c (Int.toNat (0 : Int))))))
   (Rel.b1 (ct (ln (Int.toNat (0 : Int))) (intCell (c (Int.toNat (0 : Int)))))) (Rel.b2 (ct (ln (Int.toNat (0 : Int))) (intCell (c (Int.toNat (0 : Int)))))) (Rel.b3 (ct (ln (Int.toNat (0 : Int))) (intCell (c (Int.toNat (0 : Int))))))
   (Rel.b4 (ct (ln (Int.toNat (0 : Int))) (intCell (c (Int.toNat (0 : Int)))))) (Rel.b5 (ct (ln (Int.toNat (0 : Int))) (intCell (c (Int.toNat (0 : Int)))))) (Rel.b6 (ct (ln (Int.toNat (0 : Int))) (intCell (c (Int.toNat (0 : Int))))))
   (Rel.b7 (ct (ln (Int.toNat (0 : Int))) (intCell (c (Int.toNat (0 : Int)))))) (Rel.b8 (ct (ln (Int.toNat (0 : Int))) (intCell (c (Int.toNat (0 : Int)))))) (Rel.b9 (ct (ln (Int.toNat (0 : Int))) (intCell (c (Int.toNat (0 : Int))))))
   (Rel.b10 (ct (ln (Int.toNat (0 : Int))) (intCell (c (Int.toNat (0 : Int)))))) (Rel.b11 (ct (ln (Int.toNat (0 : Int))) (intCell (c (Int.toNat (0 : Int)))))) (Rel.pn (ct (ln (Int.toNat (0 : Int))) (intCell (c (Int.toNat (0 : Int))))))
   (Rel.pd (ct (ln (Int.toNat (0 : Int))) (intCell (c (Int.toNat (0 : Int)))))) (Rel.tag (ct (ln (Int.toNat (0 : Int))) (intCell (c (Int.toNat (0 : Int))))))))
   (Rel.b2
   (Rel.mk (1 : Int) (0 : Int) (Rel.src (ct (ln (Int.toNat (0 : Int))) (intCell (c (Int.toNat (0 : Int)))))) (Rel.cir (ct (ln (Int.toNat (0 : Int))) (intCell (c (Int.toNat (0 : Int))))))
   (Rel.fn (ct (ln (Int.toNat (0 : Int))) (intCell (c (Int.toNat (0 : Int)))))) (BChn0_q3 ct ln c) (Rel.b0 (ct (ln (Int.toNat (0 : Int))) (intCell (c (Int.toNat (0 : Int))))))
   (Rel.b1 (ct (ln (Int.toNat (0 : Int))) (intCell (c (Int.toNat (0 : Int)))))) (Rel.b2 (ct (ln (Int.toNat (0 : Int))) (intCell (c (Int.toNat (0 : Int)))))) (Rel.b3 (ct (ln (Int.toNat (0 : Int))) (intCell (c (Int.toNat (0 : Int))))))
   (Rel.b4 (ct (ln (Int.toNat (0 : Int))) (intCell (c (Int.toNat (0 : Int)))))) (Rel.b5 (ct (ln (Int.toNat (0 : Int))) (intCell (c (Int.toNat (0 : Int)))))) (Rel.b6 (ct (ln (Int.toNat (0 : Int))) (intCell (c (Int.toNat (0 : Int))))))
   (Rel.b7 (ct (ln (Int.toNat (0 : Int))) (intCell (c (Int.toNat (0 : Int)))))) (Rel.b8 (ct (ln (Int.toNat (0 : Int))) (intCell (c (Int.toNat (0 : Int)))))) (Rel.b9 (ct (ln (Int.toNat (0 : Int))) (intCell (c (Int.toNat (0 : Int))))))
   (Rel.b10 (ct (ln (Int.toNat (0 : Int))) (intCell (c (Int.toNat (0 : Int)))))) (Rel.b11 (ct (ln (Int.toNat (0 : Int))) (intCell (c (Int.toNat (0 : Int)))))) (Rel.pn (ct (ln (Int.toNat (0 : Int))) (intCell (c (Int.toNat (0 : Int))))))
   (Rel.pd (ct (ln (Int.toNat (0 : Int))) (intCell (c (Int.toNat (0 : Int)))))) (Rel.tag (ct (ln (Int.toNat (0 : Int))) (intCell (c (Int.toNat (0 : Int))))))))
   (Rel.b3
   (Rel.mk (1 : Int) (0 : Int) (Rel.src (ct (ln (Int.toNat (0 : Int))) (intCell (c (Int.toNat (0 : Int)))))) (Rel.cir (ct (ln (Int.toNat (0 : Int))) (intCell (c (Int.toNat (0 : Int))))))
   (Rel.fn (ct (ln (Int.toNat (0 : Int))) (intCell (c (Int.toNat (0 : Int)))))) (BChn0_q3 ct ln c) (Rel.b0 (ct (ln (Int.toNat (0 : Int))) (intCell (c (Int.toNat (0 : Int))))))
   (Rel.b1 (ct (ln (Int.toNat (0 : Int))) (intCell (c (Int.toNat (0 : Int)))))) (Rel.b2 (ct (ln (Int.toNat (0 : Int))) (intCell (c (Int.toNat (0 : Int)))))) (Rel.b3 (ct (ln (Int.toNat (0 : Int))) (intCell (c (Int.toNat (0 : Int))))))
   (Rel.b4 (ct (ln (Int.toNat (0 : Int))) (intCell (c (Int.toNat (0 : Int)))))) (Rel.b5 (ct (ln (Int.toNat (0 : Int))) (intCell (c (Int.toNat (0 : Int)))))) (Rel.b6 (ct (ln (Int.toNat (0 : Int))) (intCell (c (Int.toNat (0 : Int))))))
   (Rel.b7 (ct (ln (Int.toNat (0 : Int))) (intCell (c (Int.toNat (0 : Int)))))) (Rel.b8 (ct (ln (Int.toNat (0 : Int))) (intCell (c (Int.toNat (0 : Int)))))) (Rel.b9 (ct (ln (Int.toNat (0 : Int))) (intCell (c (Int.toNat (0 : Int))))))
   (Rel.b10 (ct (ln (Int.toNat (0 : Int))) (intCell (c (Int.toNat (0 : Int)))))) (Rel.b11 (ct (ln (Int.toNat (0 : Int))) (intCell (c (Int.toNat (0 : Int)))))) (Rel.pn (ct (ln (Int.toNat (0 : Int))) (intCell (c (Int.toNat (0 : Int))))))
   (Rel.pd (ct (ln (Int.toNat (0 : Int))) (intCell (c (Int.toNat (0 : Int)))))) (Rel.tag (ct (ln (Int.toNat (0 : Int))) (intCell (c (Int.toNat (0 : Int))))))))
   (Rel.b4
   (Rel.mk (1 : Int) (0 : Int) (Rel.src (ct (ln (Int.toNat (0 : Int))) (intCell (c (Int.toNat (0 : Int)))))) (Rel.cir (ct (ln (Int.toNat (0 : Int))) (intCell (c (Int.toNat (0 : Int))))))
   (Rel.fn (ct (ln (Int.toNat (0 : Int))) (intCell (c (Int.toNat (0 : Int)))))) (BChn0_q3 ct ln c) (Rel.b0 (ct (ln (Int.toNat (0 : Int))) (intCell (c (Int.toNat (0 : Int))))))
   (Rel.b1 (ct (ln (Int.toNat (0 : Int))) (intCell (c (Int.toNat (0 : Int)))))) (Rel.b2 (ct (ln (Int.toNat (0 : Int))) (intCell (c (Int.toNat (0 : Int)))))) (Rel.b3 (ct (ln (Int.toNat (0 : Int))) (intCell (c (Int.toNat (0 : Int))))))
   (Rel.b4 (ct (ln (Int.toNat (0 : Int))) (intCell (c (Int.toNat (0 : Int)))))) (Rel.b5 (ct (ln (Int.toNat (0 : Int))) (intCell (c (Int.toNat (0 : Int)))))) (Rel.b6 (ct (ln (Int.toNat (0 : Int))) (intCell (c (Int.toNat (0 : Int))))))
   (Rel.b7 (ct (ln (Int.toNat (0 : Int))) (intCell (c (Int.toNat (0 : Int)))))) (Rel.b8 (ct (ln (Int.toNat (0 : Int))) (intCell (c (Int.toNat (0 : Int)))))) (Rel.b9 (ct (ln (Int.toNat (0 : Int))) (intCell (c (Int.toNat (0 : Int))))))
   (Rel.b10 (ct (ln (Int.toNat (0 : Int))) (intCell (c (Int.toNat (0 : Int)))))) (Rel.b11 (ct (ln (Int.toNat (0 : Int))) (intCell (c (Int.toNat (0 : Int)))))) (Rel.pn (ct (ln (Int.toNat (0 : Int))) (intCell (c (Int.toNat (0 : Int))))))
   (Rel.pd (ct (ln (Int.toNat (0 : Int))) (intCell (c (Int.toNat (0 : Int)))))) (Rel.tag (ct (ln (Int.toNat (0 : Int))) (intCell (c (Int.toNat (0 : Int))))))))
   (Rel.b5
   (Rel.mk (1 : Int) (0 : Int) (Rel.src (ct (ln (Int.toNat (0 : Int))) (intCell (c (Int.toNat (0 : Int)))))) (Rel.cir (ct (ln (Int.toNat (0 : Int))) (intCell (c (Int.toNat (0 : Int))))))
   (Rel.fn (ct (ln (Int.toNat (0 : Int))) (intCell (c (Int.toNat (0 : Int)))))) (BChn0_q3 ct ln c) (Rel.b0 (ct (ln (Int.toNat (0 : Int))) (intCell (c (Int.toNat (0 : Int))))))
   (Rel.b1 (ct (ln (Int.toNat (0 : Int))) (intCell (c (Int.toNat (0 : Int)))))) (Rel.b2 (ct (ln (Int.toNat (0 : Int))) (intCell (c (Int.toNat (0 : Int)))))) (Rel.b3 (ct (ln (Int.toNat (0 : Int))) (intCell (c (Int.toNat (0 : Int))))))
   (Rel.b4 (ct (ln (Int.toNat (0 : Int))) (intCell (c (Int.toNat (0 : Int)))))) (Rel.b5 (ct (ln (Int.toNat (0 : Int))) (intCell (c (Int.toNat (0 : Int)))))) (Rel.b6 (ct (ln (Int.toNat (0 : Int))) (intCell (c (Int.toNat (0 : Int))))))
   (Rel.b7 (ct (ln (Int.toNat (0 : Int))) (intCell (c (Int.toNat (0 : Int)))))) (Rel.b8 (ct (ln (Int.toNat (0 : Int))) (intCell (c (Int.toNat (0 : Int)))))) (Rel.b9 (ct (ln (Int.toNat (0 : Int))) (intCell (c (Int.toNat (0 : Int))))))
   (Rel.b10 (ct (ln (Int.toNat (0 : Int))) (intCell (c (Int.toNat (0 : Int)))))) (Rel.b11 (ct (ln (Int.toNat (0 : Int))) (intCell (c (Int.toNat (0 : Int)))))) (Rel.pn (ct (ln (Int.toNat (0 : Int))) (intCell (c (Int.toNat (0 : Int))))))
   (Rel.pd (ct (ln (Int.toNat (0 : Int))) (intCell (c (Int.toNat (0 : Int)))))) (Rel.tag (ct (ln (Int.toNat (0 : Int))) (intCell (c (Int.toNat (0 : Int))))))))
   (Rel.b6
   (Rel.mk (1 : Int) (0 : Int) (Rel.src (ct (ln (Int.toNat (0 : Int))) (intCell (c (Int.toNat (0 : Int)))))) (Rel.cir (ct (ln (Int.toNat (0 : Int))) (intCell (c (Int.toNat (0 : Int))))))
   (Rel.fn (ct (ln (Int.toNat (0 : Int))) (intCell (c (Int.toNat (0 : Int)))))) (BChn0_q3 ct ln c) (Rel.b0 (ct (ln (Int.toNat (0 : Int))) (intCell (c (Int.toNat (0 : Int))))))
   (Rel.b1 (ct (ln (Int.toNat (0 : Int))) (intCell (c (Int.toNat (0 : Int)))))) (Rel.b2 (ct (ln (Int.toNat (0 : Int))) (intCell (c (Int.toNat (0 : Int)))))) (Rel.b3 (ct (ln (Int.toNat (0 : Int))) (intCell (c (Int.toNat (0 : Int))))))
   (Rel.b4 (ct (ln (Int.toNat (0 : Int))) (intCell (c (Int.toNat (0 : Int)))))) (Rel.b5 (ct (ln (Int.toNat (0 : Int))) (intCell (c (Int.toNat (0 : Int)))))) (Rel.b6 (ct (ln (Int.toNat (0 : Int))) (intCell (c (Int.toNat (0 : Int))))))
   (Rel.b7 (ct (ln (Int.toNat (0 : Int))) (intCell (c (Int.toNat (0 : Int)))))) (Rel.b8 (ct (ln (Int.toNat (0 : Int))) (intCell (c (Int.toNat (0 : Int)))))) (Rel.b9 (ct (ln (Int.toNat (0 : Int))) (intCell (c (Int.toNat (0 : Int))))))
   (Rel.b10 (ct (ln (Int.toNat (0 : Int))) (intCell (c (Int.toNat (0 : Int)))))) (Rel.b11 (ct (ln (Int.toNat (0 : Int))) (intCell (c (Int.toNat (0 : Int)))))) (Rel.pn (ct (ln (Int.toNat (0 : Int))) (intCell (c (Int.toNat (0 : Int))))))
   (Rel.pd (ct (ln (Int.toNat (0 : Int))) (intCell (c (Int.toNat (0 : Int)))))) (Rel.tag (ct (ln (Int.toNat (0 : Int))) (intCell (c (Int.toNat (0 : Int))))))))
   (Rel.b7
   (Rel.mk (1 : Int) (0 : Int) (Rel.src (ct (ln (Int.toNat (0 : Int))) (intCell (c (Int.toNat (0 : Int)))))) (Rel.cir (ct (ln (Int.toNat (0 : Int))) (intCell (c (Int.toNat (0 : Int))))))
   (Rel.fn (ct (ln (Int.toNat (0 : Int))) (intCell (c (Int.toNat (0 : Int)))))) (BChn0_q3 ct ln c) (Rel.b0 (ct (ln (Int.toNat (0 : Int))) (intCell (c (Int.toNat (0 : Int))))))
   (Rel.b1 (ct (ln (Int.toNat (0 : Int))) (intCell (c (Int.toNat (0 : Int)))))) (Rel.b2 (ct (ln (Int.toNat (0 : Int))) (intCell (c (Int.toNat (0 : Int)))))) (Rel.b3 (ct (ln (Int.toNat (0 : Int))) (intCell (c (Int.toNat (0 : Int))))))
   (Rel.b4 (ct (ln (Int.toNat (0 : Int))) (intCell (c (Int.toNat (0 : Int)))))) (Rel.b5 (ct (ln (Int.toNat (0 : Int))) (intCell (c (Int.toNat (0 : Int)))))) (Rel.b6 (ct (ln (Int.toNat (0 : Int))) (intCell (c (Int.toNat (0 : Int))))))
   (Rel.b7 (ct (ln (Int.toNat (0 : Int))) (intCell (c (Int.toNat (0 : Int)))))) (Rel.b8 (ct (ln (Int.toNat (0 : Int))) (intCell (c (Int.toNat (0 : Int)))))) (Rel.b9 (ct (ln (Int.toNat (0 : Int))) (intCell (c (Int.toNat (0 : Int))))))
   (Rel.b10 (ct (ln (Int.toNat (0 : Int))) (intCell (c (Int.toNat (0 : Int)))))) (Rel.b11 (ct (ln (Int.toNat (0 : Int))) (intCell (c (Int.toNat (0 : Int)))))) (Rel.pn (ct (ln (Int.toNat (0 : Int))) (intCell (c (Int.toNat (0 : Int))))))
   (Rel.pd (ct (ln (Int.toNat (0 : Int))) (intCell (c (Int.toNat (0 : Int)))))) (Rel.tag (ct (ln (Int.toNat (0 : Int))) (intCell (c (Int.toNat (0 : Int))))))))
   (Rel.b8
   (Rel.mk (1 : Int) (0 : Int) (Rel.src (ct (ln (Int.toNat (0 : Int))) (intCell (c (Int.toNat (0 : Int)))))) (Rel.cir (ct (ln (Int.toNat (0 : Int))) (intCell (c (Int.toNat (0 : Int))))))
   (Rel.fn (ct (ln (Int.toNat (0 : Int))) (intCell (c (Int.toNat (0 : Int)))))) (BChn0_q3 ct ln c) (Rel.b0 (ct (ln (Int.toNat (0 : Int))) (intCell (c (Int.toNat (0 : Int))))))
   (Rel.b1 (ct (ln (Int.toNat (0 : Int))) (intCell (c (Int.toNat (0 : Int)))))) (Rel.b2 (ct (ln (Int.toNat (0 : Int))) (intCell (c (Int.toNat (0 : Int)))))) (Rel.b3 (ct (ln (Int.toNat (0 : Int))) (intCell (c (Int.toNat (0 : Int))))))
   (Rel.b4 (ct (ln (Int.toNat (0 : Int))) (intCell (c (Int.toNat (0 : Int)))))) (Rel.b5 (ct (ln (Int.toNat (0 : Int))) (intCell (c (Int.toNat (0 : Int)))))) (Rel.b6 (ct (ln (Int.toNat (0 : Int))) (intCell (c (Int.toNat (0 : Int))))))
   (Rel.b7 (ct (ln (Int.toNat (0 : Int))) (intCell (c (Int.toNat (0 : Int)))))) (Rel.b8 (ct (ln (Int.toNat (0 : Int))) (intCell (c (Int.toNat (0 : Int)))))) (Rel.b9 (ct (ln (Int.toNat (0 : Int))) (intCell (c (Int.toNat (0 : Int))))))
   (Rel.b10 (ct (ln (Int.toNat (0 : Int))) (intCell (c (Int.toNat (0 : Int)))))) (Rel.b11 (ct (ln (Int.toNat (0 : Int))) (intCell (c (Int.toNat (0 : Int)))))) (Rel.pn (ct (ln (Int.toNat (0 : Int))) (intCell (c (Int.toNat (0 : Int))))))
   (Rel.pd (ct (ln (Int.toNat (0 : Int))) (intCell (c (Int.toNat (0 : Int)))))) (Rel.tag (ct (ln (Int.toNat (0 : Int))) (intCell (c (Int.toNat (0 : Int))))))))
   (Rel.b9
   (Rel.mk (1 : Int) (0 : Int) (Rel.src (ct (ln (Int.toNat (0 : Int))) (intCell (c (Int.toNat (0 : Int)))))) (Rel.cir (ct (ln (Int.toNat (0 : Int))) (intCell (c (Int.toNat (0 : Int))))))
   (Rel.fn (ct (ln (Int.toNat (0 : Int))) (intCell (c (Int.toNat (0 : Int)))))) (BChn0_q3 ct ln c) (Rel.b0 (ct (ln (Int.toNat (0 : Int))) (intCell (c (Int.toNat (0 : Int))))))
   (Rel.b1 (ct (ln (Int.toNat (0 : Int))) (intCell (c (Int.toNat (0 : Int)))))) (Rel.b2 (ct (ln (Int.toNat (0 : Int))) (intCell (c (Int.toNat (0 : Int)))))) (Rel.b3 (ct (ln (Int.toNat (0 : Int))) (intCell (c (Int.toNat (0 : Int))))))
   (Rel.b4 (ct (ln (Int.toNat (0 : Int))) (intCell (c (Int.toNat (0 : Int)))))) (Rel.b5 (ct (ln (Int.toNat (0 : Int))) (intCell (c (Int.toNat (0 : Int)))))) (Rel.b6 (ct (ln (Int.toNat (0 : Int))) (intCell (c (Int.toNat (0 : Int))))))
   (Rel.b7 (ct (ln (Int.toNat (0 : Int))) (intCell (c (Int.toNat (0 : Int)))))) (Rel.b8 (ct (ln (Int.toNat (0 : Int))) (intCell (c (Int.toNat (0 : Int)))))) (Rel.b9 (ct (ln (Int.toNat (0 : Int))) (intCell (c (Int.toNat (0 : Int))))))
   (Rel.b10 (ct (ln (Int.toNat (0 : Int))) (intCell (c (Int.toNat (0 : Int)))))) (Rel.b11 (ct (ln (Int.toNat (0 : Int))) (intCell (c (Int.toNat (0 : Int)))))) (Rel.pn (ct (ln (Int.toNat (0 : Int))) (intCell (c (Int.toNat (0 : Int))))))
   (Rel.pd (ct (ln (Int.toNat (0 : Int))) (intCell (c (Int.toNat (0 : Int)))))) (Rel.tag (ct (ln (Int.toNat (0 : Int))) (intCell (c (Int.toNat (0 : Int))))))))
   (Rel.b10
   (Rel.mk (1 : Int) (0 : Int) (Rel.src (ct (ln (Int.toNat (0 : Int))) (intCell (c (Int.toNat (0 : Int)))))) (Rel.cir (ct (ln (Int.toNat (0 : Int))) (intCell (c (Int.toNat (0 : Int))))))
   (Rel.fn (ct (ln (Int.toNat (0 : Int))) (intCell (c (Int.toNat (0 : Int)))))) (BChn0_q3 ct ln c) (Rel.b0 (ct (ln (Int.toNat (0 : Int))) (intCell (c (Int.toNat (0 : Int))))))
   (Rel.b1 (ct (ln (Int.toNat (0 : Int))) (intCell (c (Int.toNat (0 : Int)))))) (Rel.b2 (ct (ln (Int.toNat (0 : Int))) (intCell (c (Int.toNat (0 : Int)))))) (Rel.b3 (ct (ln (Int.toNat (0 : Int))) (intCell (c (Int.toNat (0 : Int))))))
   (Rel.b4 (ct (ln (Int.toNat (0 : Int))) (intCell (c (Int.toNat (0 : Int)))))) (Rel.b5 (ct (ln (Int.toNat (0 : Int))) (intCell (c (Int.toNat (0 : Int)))))) (Rel.b6 (ct (ln (Int.toNat (0 : Int))) (intCell (c (Int.toNat (0 : Int))))))
   (Rel.b7 (ct (ln (Int.toNat (0 : Int))) (intCell (c (Int.toNat (0 : Int)))))) (Rel.b8 (ct (ln (Int.toNat (0 : Int))) (intCell (c (Int.toNat (0 : Int)))))) (Rel.b9 (ct (ln (Int.toNat (0 : Int))) (intCell (c (Int.toNat (0 : Int))))))
   (Rel.b10 (ct (ln (Int.toNat (0 : Int))) (intCell (c (Int.toNat (0 : Int)))))) (Rel.b11 (ct (ln (Int.toNat (0 : Int))) (intCell (c (Int.toNat (0 : Int)))))) (Rel.pn (ct (ln (Int.toNat (0 : Int))) (intCell (c (Int.toNat (0 : Int))))))
   (Rel.pd (ct (ln (Int.toNat (0 : Int))) (intCell (c (Int.toNat (0 : Int)))))) (Rel.tag (ct (ln (Int.toNat (0 : Int))) (intCell (c (Int.toNat (0 : Int))))))))
   (Rel.b11
   (Rel.mk (1 : Int) (0 : Int) (Rel.src (ct (ln (Int.toNat (0 : Int))) (intCell (c (Int.toNat (0 : Int)))))) (Rel.cir (ct (ln (Int.toNat (0 : Int))) (intCell (c (Int.toNat (0 : Int))))))
   (Rel.fn (ct (ln (Int.toNat (0 : Int))) (intCell (c (Int.toNat (0 : Int)))))) (BChn0_q3 ct ln c) (Rel.b0 (ct (ln (Int.toNat (0 : Int))) (intCell (c (Int.toNat (0 : Int))))))
   (Rel.b1 (ct (ln (Int.toNat (0 : Int))) (intCell (c (Int.toNat (0 : Int)))))) (Rel.b2 (ct (ln (Int.toNat (0 : Int))) (intCell (c (Int.toNat (0 : Int)))))) (Rel.b3 (ct (ln (Int.toNat (0 : Int))) (intCell (c (Int.toNat (0 : Int))))))
   (Rel.b4 (ct (ln (Int.toNat (0 : Int))) (intCell (c (Int.toNat (0 : Int)))))) (Rel.b5 (ct (ln (Int.toNat (0 : Int))) (intCell (c (Int.toNat (0 : Int)))))) (Rel.b6 (ct (ln (Int.toNat (0 : Int))) (intCell (c (Int.toNat (0 : Int))))))
   (Rel.b7 (ct (ln (Int.toNat (0 : Int))) (intCell (c (Int.toNat (0 : Int)))))) (Rel.b8 (ct (ln (Int.toNat (0 : Int))) (intCell (c (Int.toNat (0 : Int)))))) (Rel.b9 (ct (ln (Int.toNat (0 : Int))) (intCell (c (Int.toNat (0 : Int))))))
   (Rel.b10 (ct (ln (Int.toNat (0 : Int))) (intCell (c (Int.toNat (0 : Int)))))) (Rel.b11 (ct (ln (Int.toNat (0 : Int))) (intCell (c (Int.toNat (0 : Int)))))) (Rel.pn (ct (ln (Int.toNat (0 : Int))) (intCell (c (Int.toNat (0 : Int))))))
   (Rel.pd (ct (ln (Int.toNat (0 : Int))) (intCell (c (Int.toNat (0 : Int)))))) (Rel.tag (ct (ln (Int.toNat (0 : Int))) (intCell (c (Int.toNat (0 : Int))))))))
   (Rel.pn
   (Rel.mk (1 : Int) (0 : Int) (Rel.src (ct (ln (Int.toNat (0 : Int))) (intCell (c (Int.toNat (0 : Int)))))) (Rel.cir (ct (ln (Int.toNat (0 : Int))) (intCell (c (Int.toNat (0 : Int))))))
   (Rel.fn (ct (ln (Int.toNat (0 : Int))) (intCell (c (Int.toNat (0 : Int)))))) (BChn0_q3 ct ln c) (Rel.b0 (ct (ln (Int.toNat (0 : Int))) (intCell (c (Int.toNat (0 : Int))))))
   (Rel.b1 (ct (ln (Int.toNat (0 : Int))) (intCell (c (Int.toNat (0 : Int)))))) (Rel.b2 (ct (ln (Int.toNat (0 : Int))) (intCell (c (Int.toNat (0 : Int)))))) (Rel.b3 (ct (ln (Int.toNat (0 : Int))) (intCell (c (Int.toNat (0 : Int))))))
   (Rel.b4 (ct (ln (Int.toNat (0 : Int))) (intCell (c (Int.toNat (0 : Int)))))) (Rel.b5 (ct (ln (Int.toNat (0 : Int))) (intCell (c (Int.toNat (0 : Int)))))) (Rel.b6 (ct (ln (Int.toNat (0 : Int))) (intCell (c (Int.toNat (0 : Int))))))
   (Rel.b7 (ct (ln (Int.toNat (0 : Int))) (intCell (c (Int.toNat (0 : Int)))))) (Rel.b8 (ct (ln (Int.toNat (0 : Int))) (intCell (c (Int.toNat (0 : Int)))))) (Rel.b9 (ct (ln (Int.toNat (0 : Int))) (intCell (c (Int.toNat (0 : Int))))))
   (Rel.b10 (ct (ln (Int.toNat (0 : Int))) (intCell (c (Int.toNat (0 : Int)))))) (Rel.b11 (ct (ln (Int.toNat (0 : Int))) (intCell (c (Int.toNat (0 : Int)))))) (Rel.pn (ct (ln (Int.toNat (0 : Int))) (intCell (c (Int.toNat (0 : Int))))))
   (Rel.pd (ct (ln (Int.toNat (0 : Int))) (intCell (c (Int.toNat (0 : Int)))))) (Rel.tag (ct (ln (Int.toNat (0 : Int))) (intCell (c (Int.toNat (0 : Int))))))))
   (Rel.pd
   (Rel.mk (1 : Int) (0 : Int) (Rel.src (ct (ln (Int.toNat (0 : Int))) (intCell (c (Int.toNat (0 : Int)))))) (Rel.cir (ct (ln (Int.toNat (0 : Int))) (intCell (c (Int.toNat (0 : Int))))))
   (Rel.fn (ct (ln (Int.toNat (0 : Int))) (intCell (c (Int.toNat (0 : Int)))))) (BChn0_q3 ct ln c) (Rel.b0 (ct (ln (Int.toNat (0 : Int))) (intCell (c (Int.toNat (0 : Int))))))
   (Rel.b1 (ct (ln (Int.toNat (0 : Int))) (intCell (c (Int.toNat (0 : Int)))))) (Rel.b2 (ct (ln (Int.toNat (0 : Int))) (intCell (c (Int.toNat (0 : Int)))))) (Rel.b3 (ct (ln (Int.toNat (0 : Int))) (intCell (c (Int.toNat (0 : Int))))))
   (Rel.b4 (ct (ln (Int.toNat (0 : Int))) (intCell (c (Int.toNat (0 : Int)))))) (Rel.b5 (ct (ln (Int.toNat (0 : Int))) (intCell (c (Int.toNat (0 : Int)))))) (Rel.b6 (ct (ln (Int.toNat (0 : Int))) (intCell (c (Int.toNat (0 : Int))))))
   (Rel.b7 (ct (ln (Int.toNat (0 : Int))) (intCell (c (Int.toNat (0 : Int)))))) (Rel.b8 (ct (ln (Int.toNat (0 : Int))) (intCell (c (Int.toNat (0 : Int)))))) (Rel.b9 (ct (ln (Int.toNat (0 : Int))) (intCell (c (Int.toNat (0 : Int))))))
   (Rel.b10 (ct (ln (Int.toNat (0 : Int))) (intCell (c (Int.toNat (0 : Int)))))) (Rel.b11 (ct (ln (Int.toNat (0 : Int))) (intCell (c (Int.toNat (0 : Int)))))) (Rel.pn (ct (ln (Int.toNat (0 : Int))) (intCell (c (Int.toNat (0 : Int))))))
   (Rel.pd (ct (ln (Int.toNat (0 : Int))) (intCell (c (Int.toNat (0 : Int)))))) (Rel.tag (ct (ln (Int.toNat (0 : Int))) (intCell (c (Int.toNat (0 : Int))))))))
   (stp key
   (dig
   (Rel.mk (1 : Int) (0 : Int) (Rel.src (ct (ln (Int.toNat (0 : Int))) (intCell (c (Int.toNat (0 : Int)))))) (Rel.cir (ct (ln (Int.toNat (0 : Int))) (intCell (c (Int.toNat (0 : Int))))))
   (Rel.fn (ct (ln (Int.toNat (0 : Int))) (intCell (c (Int.toNat (0 : Int)))))) (BChn0_q3 ct ln c) (Rel.b0 (ct (ln (Int.toNat (0 : Int))) (intCell (c (Int.toNat (0 : Int))))))
   (Rel.b1 (ct (ln (Int.toNat (0 : Int))) (intCell (c (Int.toNat (0 : Int)))))) (Rel.b2 (ct (ln (Int.toNat (0 : Int))) (intCell (c (Int.toNat (0 : Int)))))) (Rel.b3 (ct (ln (Int.toNat (0 : Int))) (intCell (c (Int.toNat (0 : Int))))))
   (Rel.b4 (ct (ln (Int.toNat (0 : Int))) (intCell (c (Int.toNat (0 : Int)))))) (Rel.b5 (ct (ln (Int.toNat (0 : Int))) (intCell (c (Int.toNat (0 : Int)))))) (Rel.b6 (ct (ln (Int.toNat (0 : Int))) (intCell (c (Int.toNat (0 : Int))))))
   (Rel.b7 (ct (ln (Int.toNat (0 : Int))) (intCell (c (Int.toNat (0 : Int)))))) (Rel.b8 (ct (ln (Int.toNat (0 : Int))) (intCell (c (Int.toNat (0 : Int)))))) (Rel.b9 (ct (ln (Int.toNat (0 : Int))) (intCell (c (Int.toNat (0 : Int))))))
   (Rel.b10 (ct (ln (Int.toNat (0 : Int))) (intCell (c (Int.toNat (0 : Int)))))) (Rel.b11 (ct (ln (Int.toNat (0 : Int))) (intCell (c (Int.toNat (0 : Int))))))
   (Rel.pn (ct (ln (Int.toNat (0 : Int))) (intCell (c (Int.toNat (0 : Int)))))) (Rel.pd (ct (ln (Int.toNat (0 : Int))) (intCell (c (Int.toNat (0 : Int))))))
   (Rel.tag (ct (ln (Int.toNat (0 : Int))) (intCell (c (Int.toNat (0 : Int))))))))))
  j
noncomputable def BChn0 (ct : Nat → (Nat → Int) → Rel) (key : Int) (m : Nat) (ln : Nat → Nat) (c : Nat → Nat → Nat → DV) : Tree (Ex × AS) :=
  .ite (decide ((0 : Int) < (↑m : Int)) && true)
  (.need ((0 : Int) ≤ (0 : Int) ∧ (0 : Int) < (↑m : Int))
   (.need (Byt (ln (Int.toNat (0 : Int))) (c (Int.toNat (0 : Int))))
   (.need (0 ≤ 0)
   (.need (0 ≤ 0)
   (.need ((ChC 0 fun i j => dsAt [] (0 + (0 + i) * 20 + j)) ∧ U64C (Rel.fn (ct (ln (Int.toNat (0 : Int))) (intCell (c (Int.toNat (0 : Int)))))) (BChn0_q1 ct ln c))
   (.ite
   (nxE key 0
   (fun i =>
   Rel.mk (0 : Int) (0 : Int) (0 : Int) (0 : Int) 0 (fun x => (0 : Int)) (0 : Int) (0 : Int) (0 : Int) (0 : Int) (0 : Int) (0 : Int) (0 : Int) (0 : Int) (0 : Int) (0 : Int) (0 : Int) (0 : Int) (0 : Int) (0 : Int)
   (0 : Int))
   (ct (ln (Int.toNat (0 : Int))) (intCell (c (Int.toNat (0 : Int))))) ==
   (0 : Int))
   (.ret
   (.normal,
   AS.mk
   [.ok (SV.d (DV.x (.int .u64 key))), .ok (SV.d (DV.ro m 1 (BChn0_q2 ln c))), .unk, .unk, .unk,
   .ok
   (SV.d
   (DV.ro
   (nxN key 0
   (fun i =>
   Rel.mk (0 : Int) (0 : Int) (0 : Int) (0 : Int) 0 (fun x => (0 : Int)) (0 : Int) (0 : Int) (0 : Int) (0 : Int) (0 : Int) (0 : Int) (0 : Int) (0 : Int) (0 : Int) (0 : Int) (0 : Int) (0 : Int)
   (0 : Int) (0 : Int) (0 : Int))
   (ct (ln (Int.toNat (0 : Int))) (intCell (c (Int.toNat (0 : Int))))))
   20 (BChn0_q4 ct key ln c))),
   .ok (iv (1 : Int)), .unk, .unk, .unk, .unk, .unk, .unk, .unk, .unk, .unk, .unk, .unk, .unk, .unk, .unk, .unk, .unk, .unk, .unk, .unk, .unk, .unk, .unk, .unk, .unk,
   .unk, .unk]
   [none] 1 .nil))
   (.ret
   (.normal,
   AS.mk
   [.ok (SV.d (DV.x (.int .u64 key))), .ok (SV.d (DV.ro m 1 (BChn0_q2 ln c))), .unk, .unk, .unk,
   .ok (SV.d (DV.ro 0 20 fun i j => dsAt [] (0 + (0 + i) * 20 + j))), .ok (iv (1 : Int)), .unk, .unk, .unk, .unk, .unk, .unk, .unk, .unk, .unk, .unk,
   .unk, .unk, .unk, .unk, .unk, .unk, .unk, .unk, .unk, .unk, .unk, .unk, .unk, .unk, .unk, .unk]
   [none] 1 .nil))))))))
  (.ret
   (.exit 0,
   AS.mk
   [.ok (SV.d (DV.x (.int .u64 key))), .ok (SV.d (DV.ro m 1 (BChn0_q2 ln c))), .unk, .unk, .unk, .ok (SV.row 0 0 0 0 20),
   .ok (iv (0 : Int)), .unk, .unk, .unk, .unk, .unk, .unk, .unk, .unk, .unk, .unk, .unk, .unk, .unk, .unk, .unk, .unk, .unk, .unk, .unk, .unk, .unk, .unk, .unk, .unk, .unk, .unk]
   [some (.cells [])] 1 .nil))

theorem BChn0_eq (ct : Nat → (Nat → Int) → Rel) (key : Int) (m : Nat) (ln : Nat → Nat) (c : Nat → Nat → Nat → DV) : cutT 1 [] [0, 1, 5, 6] [] 1 .nil (exec Try.prog (CQ ct) (DQ ct) 200 bodyChn (inv0Chn key m ln c)) = BChn0 ct key m ln c := by kernel_rfl

noncomputable def BChn_q1 (f : Nat → Rel) (i : Nat) (j : Nat) : DV :=
  relD (f i) j
noncomputable def BChn_q2 (ct : Nat → (Nat → Int) → Rel) (ln : Nat → Nat) (c : Nat → Nat → Nat → DV) (k : Nat) (i : Nat) (x : Nat) : DV :=
  DV.x (.int .u64 (Rel.fc (ct (ln (Int.toNat (↑k : Int))) (intCell (c (Int.toNat (↑k : Int))))) i))
noncomputable def BChn_q3 (ln : Nat → Nat) (c : Nat → Nat → Nat → DV) (i : Nat) (x : Nat) : DV :=
  DV.ro (ln i) 1 (c i)
noncomputable def BChn_q4 (ct : Nat → (Nat → Int) → Rel) (key : Int) (ln : Nat → Nat) (c : Nat → Nat → Nat → DV) (k : Nat) (f : Nat → Rel) (i : Nat) (j : Nat) : DV :=
  relD (nxF key k (fun i => f i) (ct (ln (Int.toNat (↑k : Int))) (intCell (c (Int.toNat (↑k : Int))))) i) j
noncomputable def BChn (ct : Nat → (Nat → Int) → Rel) (key : Int) (m : Nat) (ln : Nat → Nat) (c : Nat → Nat → Nat → DV) (k : Nat) (f : Nat → Rel) : Tree (Ex × AS) :=
  .ite (decide ((↑k : Int) < (↑m : Int)) && decide ((↑k : Int) < (6 : Int)))
  (.need ((0 : Int) ≤ (↑k : Int) ∧ (↑k : Int) < (↑m : Int))
   (.need (Byt (ln (Int.toNat (↑k : Int))) (c (Int.toNat (↑k : Int))))
   (.need (ChC k (BChn_q1 f) ∧ U64C (Rel.fn (ct (ln (Int.toNat (↑k : Int))) (intCell (c (Int.toNat (↑k : Int)))))) (BChn_q2 ct ln c k))
   (.ite (nxE key k (fun i => f i) (ct (ln (Int.toNat (↑k : Int))) (intCell (c (Int.toNat (↑k : Int))))) == (0 : Int))
   (.ret
   (.normal,
   AS.mk
   [.ok (SV.d (DV.x (.int .u64 key))), .ok (SV.d (DV.ro m 1 (BChn_q3 ln c))), .unk, .unk, .unk,
   .ok (SV.d (DV.ro (nxN key k (fun i => f i) (ct (ln (Int.toNat (↑k : Int))) (intCell (c (Int.toNat (↑k : Int)))))) 20 (BChn_q4 ct key ln c k f))), .ok (iv (w64 ((↑k : Int) + (1 : Int)))), .unk,
   .unk, .unk, .unk, .unk, .unk, .unk, .unk, .unk, .unk, .unk, .unk, .unk, .unk, .unk, .unk, .unk, .unk, .unk, .unk, .unk, .unk, .unk, .unk, .unk, .unk]
   [none] 1 .nil))
   (.ret
   (.normal,
   AS.mk
   [.ok (SV.d (DV.x (.int .u64 key))), .ok (SV.d (DV.ro m 1 (BChn_q3 ln c))), .unk, .unk, .unk, .ok (SV.d (DV.ro k 20 (BChn_q1 f))),
   .ok (iv (w64 ((↑k : Int) + (1 : Int)))), .unk, .unk, .unk, .unk, .unk, .unk, .unk, .unk, .unk, .unk, .unk, .unk, .unk, .unk, .unk, .unk, .unk, .unk, .unk, .unk, .unk, .unk,
   .unk, .unk, .unk, .unk]
   [none] 1 .nil))))))
  (.ret
   (.exit 0,
   AS.mk
   [.ok (SV.d (DV.x (.int .u64 key))), .ok (SV.d (DV.ro m 1 (BChn_q3 ln c))), .unk, .unk, .unk, .ok (SV.d (DV.ro k 20 (BChn_q1 f))), .ok (iv (↑k : Int)), .unk,
   .unk, .unk, .unk, .unk, .unk, .unk, .unk, .unk, .unk, .unk, .unk, .unk, .unk, .unk, .unk, .unk, .unk, .unk, .unk, .unk, .unk, .unk, .unk, .unk, .unk]
   [none] 1 .nil))

theorem BChn_eq (ct : Nat → (Nat → Int) → Rel) (key : Int) (m : Nat) (ln : Nat → Nat) (c : Nat → Nat → Nat → DV) (k : Nat) (f : Nat → Rel) : cutT 1 [] [0, 1, 5, 6] [] 1 .nil (exec Try.prog (CQ ct) (DQ ct) 200 bodyChn (invChn key m ln c k f)) = BChn ct key m ln c k f := by kernel_rfl

noncomputable def KChn0 (ct : Nat → (Nat → Int) → Rel) (key : Int) (m : Nat) (ln : Nat → Nat) (c : Nat → Nat → Nat → DV) : Tree SV :=
  .need (0 ≤ 0) (.ret (SV.d (DV.ro 0 20 fun i j => dsAt [] (0 + (0 + i) * 20 + j))))

theorem KChn0_eq (ct : Nat → (Nat → Int) → Rel) (key : Int) (m : Nat) (ln : Nat → Nat) (c : Nat → Nat → Nat → DV) : codeK (sub [] (tChn ct key m ln c)) (.exit 0) (inv0Chn key m ln c) = KChn0 ct key m ln c := by kernel_rfl

noncomputable def KChn (ct : Nat → (Nat → Int) → Rel) (key : Int) (m : Nat) (ln : Nat → Nat) (c : Nat → Nat → Nat → DV) (k : Nat) (f : Nat → Rel) : Tree SV :=
  .ret (SV.d (DV.ro k 20 fun i j => relD (f i) j))

theorem KChn_eq (ct : Nat → (Nat → Int) → Rel) (key : Int) (m : Nat) (ln : Nat → Nat) (c : Nat → Nat → Nat → DV) (k : Nat) (f : Nat → Rel) : codeK (sub [] (tChn ct key m ln c)) (.exit 0) (invChn key m ln c k f) = KChn ct key m ln c k f := by kernel_rfl

end Go.Proofs.Ytpaejfeojdoikaa

namespace Go.Proofs.Ytpaejfeojdoikaa
open Go.Sx
set_option maxRecDepth 100000

/-! ### Contents are valid -/
theorem ratOf_pos {n d : Int} (hn : 1 ≤ n) (hd : 1 ≤ d) : 0 < (ratOf n d).num := by
  rw [(ratOf_red (n := n) (d := d) (by omega) rfl).1]
  have h1 : 0 < n.natAbs.gcd d.toNat := Nat.gcd_pos_of_pos_left _ (by omega)
  have h2 : n.natAbs.gcd d.toNat ≤ n.natAbs := Nat.gcd_le_left _ (by omega)
  rw [Int.tdiv_eq_ediv_of_nonneg (by omega)]
  exact Int.ediv_pos_of_pos_of_dvd hn (by omega) (Int.ofNat_dvd_left.2 (Nat.gcd_dvd_left _ _))
theorem ct_per {n : Nat} {cell : Nat → Nat → DV} (hb : Byt n cell) : mdQ (w64 (1 + at8 n (intCell cell) 2)) (w64 (1 + Int.tmod (at8 n (intCell cell) 3) 6)) = ratOf (1 + at8 n (intCell cell) 2) (1 + at8 n (intCell cell) 3 % 6) ∧ fitsR (ratOf (1 + at8 n (intCell cell) 2) (1 + at8 n (intCell cell) 3 % 6)) ∧ Sm 60 256 (ratOf (1 + at8 n (intCell cell) 2) (1 + at8 n (intCell cell) 3 % 6)) := by
  have a2 := at8_b hb 2
  have a3 := at8_b hb 3
  have e3 : Int.tmod (at8 n (intCell cell) 3) 6 = at8 n (intCell cell) 3 % 6 := Int.tmod_eq_emod_of_nonneg a3.1
  rw [e3, w64_of (by omega) (by omega), w64_of (by omega) (by omega)]
  have hs : Sm 60 256 (ratOf (1 + at8 n (intCell cell) 2) (1 + at8 n (intCell cell) 3 % 6)) := by
    refine Sm.ratOf (by omega) (by decide) (dvd60 a3.1) ?_
    have : 1 ≤ (1 + at8 n (intCell cell) 3 % 6).toNat := by omega
    omega
  have hf := hs.fits (by decide) (by decide)
  have eq : qR (1 + at8 n (intCell cell) 2) (1 + at8 n (intCell cell) 3 % 6) = ratOf (1 + at8 n (intCell cell) 2) (1 + at8 n (intCell cell) 3 % 6) := by
    unfold qR; rw [if_neg (by omega)]
  rw [mdQ_of (by omega) (by rw [eq]; exact hf), eq]
  exact ⟨rfl, hf, hs⟩
theorem viB_lo {n : Nat} {cell : Nat → Nat → DV} (hb : Byt n cell) (j : Nat) : viB (loQ n (intCell cell) j).num (loQ n (intCell cell) j).den (hiQ n (intCell cell) j).num (hiQ n (intCell cell) j).den = true := by
  unfold viB
  simp only [Bool.and_eq_true, decide_eq_true_eq, vB_iff, ratOf_rat]
  exact ⟨⟨VF.of ((loQ_sm hb j).fits (by decide) (by decide)), VF.of ((hiQ_sm hb j).fits (by decide) (by decide))⟩, loQ_le j⟩
theorem ct_vd {n : Nat} {cell : Nat → Nat → DV} (hb : Byt n cell) : vdB (ctR n (intCell cell)) = true := by
  have h4 := ct_fn (byt_ro hb)
  obtain ⟨e1, e2, e3⟩ := ct_per hb
  have a2 := at8_b hb 2
  have a3 := at8_b hb 3
  unfold vdB cdB
  simp only [Bool.and_eq_true, decide_eq_true_eq]
  refine ⟨⟨⟨⟨⟨viB_lo hb 0, viB_lo hb 1⟩, viB_lo hb 2⟩, ?_⟩, ?_⟩, ?_⟩
  · show vB (mdQ _ _).num (mdQ _ _).den = true
    rw [e1, vB_iff]; exact VF.of e2
  · show (mdQ _ _).num > 0
    rw [e1]; exact ratOf_pos (by omega) (by omega)
  · have h4 : (ctR n (intCell cell)).fn < 4 := h4
    omega

/-! ### Chains made of contents -/
noncomputable def mkR (key : Int) (c : Nat → Rel) : Nat → Rel
  | 0 => newR key 0 (fun _ => zR) (c 0)
  | k + 1 => newR key (k + 1) (fun _ => mkR key c k) (c (k + 1))
theorem mkR_new (key : Int) (c : Nat → Rel) : ∀ k, mkR key c k = newR key k (mkR key c) (c k)
  | 0 => rfl
  | k + 1 => by
    rw [mkR]
    unfold newR bR
    rfl
theorem newR_dig {key : Int} {n : Nat} {f : Nat → Rel} {r : Rel} : dig (newR key n f r) = dig (bR n f r) := rfl
theorem newR_good {key : Int} {k : Nat} {f : Nat → Rel} {r : Rel} (h : f k = newR key k f r) (hv : vdB r = true) : goodR key f k = true := by
  unfold goodR
  rw [h]
  have h1 : vdB (newR key k f r) = vdB r := rfl
  rw [h1, hv, newR_dig]
  simp [newR, bR]
theorem mkR_ck {key : Int} {c : Nat → Rel} {n : Nat} (hn : n ≤ 200) (hv : ∀ k, k < n → vdB (c k) = true) : ckV key n (mkR key c) = 0 := by
  have : ckB key (mkR key c) n = true := ckB_iff.2 fun k hk => newR_good (mkR_new key c k) (hv k hk)
  unfold ckV
  rw [if_neg (by simp only [decide_eq_true_eq]; omega), this]
  rfl
theorem nxE_ok {key : Int} {n : Nat} {f : Nat → Rel} {r : Rel} (h1 : ckV key n f = 0) (h2 : n < 200) (h3 : vdB r = true) : nxE key n f r = 0 := by
  unfold nxE
  rw [h1, h3]
  have : decide ((n : Int) ≥ 200) = false := by simp only [decide_eq_false_iff_not]; omega
  rw [this]; rfl
theorem ckV_0 {key : Int} {f : Nat → Rel} : ckV key 0 f = 0 := rfl
theorem nxN_ok {key : Int} {n : Nat} {f : Nat → Rel} {r : Rel} (h : nxE key n f r = 0) : nxN key n f r = n + 1 := by unfold nxN; rw [h]; rfl
theorem nxF_lt {key : Int} {n : Nat} {f : Nat → Rel} {r : Rel} {i : Nat} (h : i < n) : nxF key n f r i = f i := by unfold nxF; simp [h]
theorem nxF_eq {key : Int} {n : Nat} {f : Nat → Rel} {r : Rel} : nxF key n f r n = newR key n f r := by unfold nxF; simp

/-- The lists of a list of lists are bytes. -/
def BB (m : Nat) (ln : Nat → Nat) (c : Nat → Nat → Nat → DV) : Prop := m ≤ 9223372036854775807 ∧ ∀ i, i < m → Byt (ln i) (c i)
noncomputable def ctC (ln : Nat → Nat) (c : Nat → Nat → Nat → DV) : Nat → Rel := fun i => ctR (ln i) (intCell (c i))
theorem mkR_fn {key : Int} {c : Nat → Rel} {k : Nat} : (mkR key c k).fn = (c k).fn := by rw [mkR_new]; rfl
theorem ctC_fn {m : Nat} {ln : Nat → Nat} {c : Nat → Nat → Nat → DV} (hb : BB m ln c) {k : Nat} (hk : k < m) : (ctC ln c k).fn < 4 := ct_fn (byt_ro (hb.2 k hk))

set_option maxHeartbeats 1000000 in
theorem chn_sat {key : Int} {m : Nat} {ln : Nat → Nat} {c : Nat → Nat → Nat → DV} (hb : BB m ln c) : Sat Try.prog (tChn ctR key m ln c) fun x => leSV 0 [] [] x (.d (chD (min m 6) (mkR key (ctC ln c)))) := by
  constructor
  rw [LChn_eq]; unfold LChn
  refine code_satS CQ_ok DQ_ok (n := 200) (n0 := 1) (nx := 1) (roots := []) (keep := [0, 1, 5, 6]) (drop := []) (h := .nil) (c := codeC (sub [] (tChn ctR key m ln c))) (st := codeS (sub [] (tChn ctR key m ln c))) (k := codeK (sub [] (tChn ctR key m ln c))) (body := bodyChn) (by kernel_rfl) (by kernel_rfl)
    (fun q s => (q = min m 6 ∧ s = inv0Chn key m ln c) ∨ ∃ k : Nat, q = min m 6 - k ∧ 1 ≤ k ∧ k ≤ min m 6 ∧ s = invChn key m ln c k (mkR key (ctC ln c)))
    (fun e s => e = .exit 0 ∧ ((min m 6 = 0 ∧ s = inv0Chn key m ln c) ∨ s = invChn key m ln c (min m 6) (mkR key (ctC ln c))))
    ⟨_, _, .inl ⟨rfl, rfl⟩, ?_⟩ ?_ ?_
  · exact entA_sound (roots := []) (keep := [0, 1, 5, 6]) (drop := []) (nx := 1) (h := .nil) (by kernel_rfl)
  · rintro q s (⟨rfl, rfl⟩ | ⟨k, rfl, hk1, hk, rfl⟩)
    · refine Sat.of_eq (BChn0_eq ctR key m ln c) ?_
      constructor
      unfold BChn0
      refine ⟨fun hc => ?_, fun hc => ?_⟩
      · have hm : 0 < m := by simp at hc; omega
        have hbk := hb.2 0 hm
        have hv : vdB (ctC ln c 0) = true := ct_vd hbk
        refine ⟨by omega, hbk, by omega, by omega, ⟨⟨by omega, fun i hi => by omega⟩, U64C.self (by have := ctC_fn hb hm; exact Nat.le_of_lt (Nat.lt_trans this (by decide)))⟩, fun h => ?_, fun h => ?_⟩
        · refine ⟨min m 6 - 1, _, by omega, .inr ⟨1, rfl, by omega, by omega, rfl⟩, ?_⟩
          refine gc_sound [] [] rfl ?_ ?_
          · have hN := nxN_ok (nxE_ok (key := key) (n := 0) (f := fun i => zR) (r := ctC ln c 0) ckV_0 (by decide) hv)
            have hle : leD (.ro (nxN key 0 (fun i => zR) (ctC ln c 0)) 20 (BChn0_q4 ctR key ln c)) (chD 1 (mkR key (ctC ln c))) := by
              rw [hN]
              refine ⟨rfl, rfl, fun i j hi hj => ?_⟩
              obtain rfl : i = 0 := by omega
              rfl
            have hbb : leD (.ro m 1 (BChn0_q2 ln c)) (bbD m ln c) := ⟨rfl, rfl, fun i j hi hj => rfl⟩
            simp [invChn, leTm, leTV, leSV, leSVs, rn, iv, List.replicate, u64v]
            refine ⟨by simp [leD], hbb, hle, by simp [leD]⟩
          · simp [invChn, leHp]
        · exfalso
          have := nxE_ok (key := key) (n := 0) (f := fun i => zR) (r := ctC ln c 0) ckV_0 (by decide) hv
          have h2 : (nxE key 0 (fun i => zR) (ctC ln c 0) == 0) = false := h
          rw [this] at h2
          exact absurd h2 (by decide)
      · have hc : m = 0 := by simp at hc; omega
        exact ⟨_, ⟨rfl, .inl ⟨by omega, rfl⟩⟩, Gc.refl _ _⟩
    · refine Sat.of_eq (BChn_eq ctR key m ln c k _) ?_
      constructor
      unfold BChn
      simp only [Int.toNat_natCast]
      refine ⟨fun hc => ?_, fun hc => ?_⟩
      · have hc : k < m ∧ k < 6 := by simp at hc; omega
        have hbk := hb.2 k hc.1
        have hv : vdB (ctC ln c k) = true := ct_vd hbk
        have hck : ckV key k (mkR key (ctC ln c)) = 0 := mkR_ck (by omega) fun i hi => ct_vd (hb.2 i (by omega))
        have hE := nxE_ok hck (by omega) hv
        have hfn : ∀ i, i < k → (mkR key (ctC ln c) i).fn ≤ 1000000 := fun i hi => by
          rw [mkR_fn]; have := ctC_fn hb (k := i) (by omega); omega
        refine ⟨by omega, hbk, ⟨ChC.self (by omega) hfn, U64C.self (by have := ctC_fn hb hc.1; exact Nat.le_of_lt (Nat.lt_trans this (by decide)))⟩, fun h => ?_, fun h => ?_⟩
        · refine ⟨min m 6 - (k + 1), _, by omega, .inr ⟨k + 1, rfl, by omega, by omega, rfl⟩, ?_⟩
          rw [w64_of (n := (k : Int) + 1) (by omega) (by omega)]
          refine gc_sound [] [] rfl ?_ ?_
          · have hle : leD (.ro (nxN key k (mkR key (ctC ln c)) (ctC ln c k)) 20 (BChn_q4 ctR key ln c k (mkR key (ctC ln c)))) (chD (k + 1) (mkR key (ctC ln c))) := by
              rw [nxN_ok hE]
              refine ⟨rfl, rfl, fun i j hi hj => ?_⟩
              show relD (nxF key k (mkR key (ctC ln c)) (ctC ln c (Int.toNat k)) i) j = _
              rw [Int.toNat_natCast]
              by_cases hik : i < k
              · rw [nxF_lt hik]
              · obtain rfl : i = k := by omega
                rw [nxF_eq, ← mkR_new]
            have hbb : leD (.ro m 1 (BChn_q3 ln c)) (bbD m ln c) := ⟨rfl, rfl, fun i j hi hj => rfl⟩
            simp [invChn, leTm, leTV, leSV, leSVs, rn, iv, List.replicate, u64v]
            refine ⟨by simp [leD], hbb, hle, by simp [leD]⟩
          · simp [invChn, leHp]
        · exfalso
          have h2 : (nxE key k (mkR key (ctC ln c)) (ctC ln c k) == 0) = false := h
          rw [hE] at h2
          exact absurd h2 (by decide)
      · have hc : k = min m 6 := by simp at hc; omega
        subst hc
        exact ⟨_, ⟨rfl, .inr rfl⟩, Gc.refl _ _⟩
  · rintro e s ⟨rfl, ⟨h, rfl⟩ | rfl⟩
    · refine Sat.of_eq (KChn0_eq ctR key m ln c) ⟨?_⟩
      rw [h]
      exact ⟨by omega, rfl, rfl, fun i j hi => absurd hi (by omega)⟩
    · refine Sat.of_eq (KChn_eq ctR key m ln c _ _) ⟨?_⟩
      exact ⟨rfl, rfl, fun i j _ _ => rfl⟩
end Go.Proofs.Ytpaejfeojdoikaa

namespace Go.Proofs.Ytpaejfeojdoikaa
open Go.Sx
set_option maxRecDepth 100000
set_option pp.structureInstances false

def roC : DV → Nat → Nat → DV
  | .ro _ _ c => c
  | _ => fun _ _ => .x undef
def BBd (m : Nat) (cell : Nat → Nat → DV) : Prop := m ≤ 9223372036854775807 ∧ ∀ i, i < m → ∃ n c, cell i 0 = .ro n 1 c ∧ Byt n c
noncomputable def FM (key : Int) (m : Nat) (cell : Nat → Nat → DV) : Nat → Rel := mkR key (ctC (fun i => frN (cell i 0)) fun i => roC (cell i 0))
abbrev FT := Int → Nat → (Nat → Nat → DV) → Nat → Rel
noncomputable def cMkG (F : FT) : Ctr := fun ss => match ss with
  | [.d (.x (.int .u64 key)), .d (.ro m 1 cell)] => .need (BBd m cell) (.ret (.d (chD (min m 6) (F key m cell))))
  | _ => .fail
theorem cMkG_ok : CtrOK Try.prog 32 (cMkG FM) := by
  refine ctrOK_leR CQ_ok DQ_ok (by kernel_rfl) (by kernel_rfl) fun ss r h => ?_
  unfold cMkG at h
  split at h
  · rename_i key m cell
    obtain ⟨h1, rfl⟩ := h
    have hb : BB m (fun i => frN (cell i 0)) (fun i => roC (cell i 0)) := ⟨h1.1, fun i hi => by
      obtain ⟨n, c, e, hb⟩ := h1.2 i hi
      simp only [e]; exact hb⟩
    have k := chn_sat (key := key) hb
    refine ⟨[u64v key, .d (bbD m (fun i => frN (cell i 0)) (fun i => roC (cell i 0)))], 200, .nil, ?_, ?_⟩
    · simp only [leSVs, leSV, u64v, and_true]
      refine ⟨by simp [leD], rfl, rfl, fun i j hi hj => ?_⟩
      obtain rfl : j = 0 := by omega
      obtain ⟨n, c, e, hb⟩ := h1.2 i hi
      simp only [e]; rfl
    · exact k
  · exact h.elim

noncomputable def LNw_q1 (f : Nat → Rel) (i : Nat) (j : Nat) : DV :=
  relD (f i) j
noncomputable def LNw_q2 (r : Rel) (i : Nat) (x : Nat) : DV :=
  DV.x (.int .u64 (Rel.fc r i))
noncomputable def LNw_q3 (key : Int) (n : Nat) (f : Nat → Rel) (r : Rel) (i : Nat) (j : Nat) : DV :=
  relD (nxF key n (fun i => f i) r i) j
noncomputable def LNw (ct : Nat → (Nat → Int) → Rel) (key : Int) (n : Nat) (f : Nat → Rel) (r : Rel) : Tree SV :=
  .need (ChC n (LNw_q1 f) ∧ U64C (Rel.fn r) (LNw_q2 r)) (.ret (SV.agg [SV.d (DV.ro (nxN key n (fun i => f i) r) 20 (LNw_q3 key n f r)), iv (nxE key n (fun i => f i) r)]))

theorem LNw_eq (ct : Nat → (Nat → Int) → Rel) (key : Int) (n : Nat) (f : Nat → Rel) (r : Rel) : TQ ct .nil 34 [u64v key, .d (chD n f), .agg (relL r)] = LNw ct key n f r := by kernel_rfl

noncomputable def cTrue : Ctr := fun ss => match ss with
  | [] => .ret (bv true)
  | _ => .fail
noncomputable def manRl (ct : Nat → (Nat → Int) → Rel) (F : FT) : FuncId → Option Ctr := fun k => match k with
  | 32 => some (cMkG F)
  | 31 => some cTrue
  | 34 => some cNi
  | k => manQ ct k
end Go.Proofs.Ytpaejfeojdoikaa

namespace Go.Proofs.Ytpaejfeojdoikaa
open Go.Sx
set_option maxRecDepth 100000
set_option pp.structureInstances false
noncomputable def LSpn (a b : Int) : Tree SV :=
  .ret (SV.agg [iv a, iv (1 : Int), iv b, iv (1 : Int)])

theorem LSpn_eq (a b : Int) : TQ ctR .nil 98 [iv a, iv b] = LSpn a b := by kernel_rfl

noncomputable def nilV : SV := .d (.x (.slice none 0 0))
noncomputable def CEc : Ctx := ctxO Try.prog (manQ ctR) ownL (fun k => k == 122 || k == 125) 200 .run 12
noncomputable def LCi0  : Tr SV :=
  Tr.need (True ∧ 1 ≤ 1 ∧ 8 ≤ 140737488355328)
  (Tr.need (1 ≤ 1 ∧ 1 ≤ 1 ∧ 16 ≤ 140737488355328)
   (Tr.need (2 ≤ 2)
   (Tr.need
   (I64C 2 fun i j => selD (decide (0 + i < 1)) (DV.x (.int .i64 (0 : Int))) (dsAt [DV.x (.int .i64 (0 : Int))] (0 + (0 + (0 + i - 1)) * 1 + j)))
   (Tr.ret (SV.d (DV.x (.int .u64 (6496484108755115417 : Int))))))))

theorem LCi0_eq  : autoC Try.prog CEc 200 50 .run [.agg [nilV, nilV]] = LCi0  := by kernel_rfl

noncomputable def LFr0  : Tr SV :=
  Tr.need (I64C 0 fun x x_1 => DV.x (.tuple (Array.mk []))) (Tr.ret (SV.d (DV.x (.int .u64 (7059933888772838974 : Int)))))

theorem LFr0_eq  : autoC Try.prog CEc 200 51 .run [nilV] = LFr0  := by kernel_rfl

noncomputable def cSpn : Ctr := fun ss => match ss with
  | [.d (.x (.int .i64 a)), .d (.x (.int .i64 b))] => .ret (.agg [iv a, iv 1, iv b, iv 1])
  | _ => .fail
theorem cSpn_ok : CtrOK Try.prog 98 cSpn := by
  refine ctrOK_leS CQ_ok DQ_ok (by kernel_rfl) (by kernel_rfl) fun ss r h => ?_
  unfold cSpn at h
  split at h
  · rename_i a b
    simp only [Tr.ev] at h; subst h
    exact ⟨[iv a, iv b], 200, .nil, by simp [leSVs, leSV, iv, leD], Sat.of_eq (LSpn_eq a b) ⟨rfl⟩⟩
  · exact h.elim
theorem CEc_ok : CtxOK Try.prog CEc := ctxO_ok mixed manQ_ok ownL_ok 12
noncomputable def cCi0 : Ctr := fun ss => match ss with
  | [.agg [.d (.x (.slice none 0 0)), .d (.x (.slice none 0 0))]] => .ret (u64v 6496484108755115417)
  | _ => .fail
theorem cCi0_ok : CtrOK Try.prog 50 cCi0 := (autoC_ok CEc_ok mixed 200 50 .run).mono fun ss r h => by
  unfold cCi0 at h
  split at h
  · simp only [Tr.ev] at h; subst h
    rw [show autoC Try.prog CEc 200 50 .run [.agg [.d (.x (.slice none 0 0)), .d (.x (.slice none 0 0))]] = LCi0 from LCi0_eq]
    unfold LCi0
    refine ⟨⟨trivial, by decide, by decide⟩, ⟨by decide, by decide, by decide⟩, by decide, ⟨by decide, fun i hi => ?_⟩, rfl⟩
    match i, hi with
    | 0, _ => rfl
    | 1, _ => rfl
    | k + 2, h => exact absurd h (by omega)
  · exact h.elim
noncomputable def cFr0 : Ctr := fun ss => match ss with
  | [.d (.x (.slice none 0 0))] => .ret (u64v 7059933888772838974)
  | _ => .fail
theorem cFr0_ok : CtrOK Try.prog 51 cFr0 := (autoC_ok CEc_ok mixed 200 51 .run).mono fun ss r h => by
  unfold cFr0 at h
  split at h
  · simp only [Tr.ev] at h; subst h
    rw [show autoC Try.prog CEc 200 51 .run [.d (.x (.slice none 0 0))] = LFr0 from LFr0_eq]
    unfold LFr0
    exact ⟨⟨by decide, fun i hi => absurd hi (by omega)⟩, rfl⟩
  · exact h.elim
theorem cNw_ok : CtrOK Try.prog 34 cNi := by
  refine ctrOK_leR CQ_ok DQ_ok (by kernel_rfl) (by kernel_rfl) fun ss r h => ?_
  unfold cNi at h
  split at h
  · rename_i key d l
    split at h
    · rename_i n cell r p hr1 hr2
      obtain ⟨⟨h1, h2⟩, rfl⟩ := h
      obtain ⟨h3, h4⟩ := relOf_le hr2 h2
      refine ⟨[u64v key, .d (chD n (relC cell)), .agg (relL r)], 200, .nil, ?_, Sat.of_eq (LNw_eq ctR key n (relC cell) r) ⟨?_⟩⟩
      · simp only [leSVs, leSV, u64v, and_true]; exact ⟨by simp [leD], h1.le hr1, h3⟩
      · unfold LNw
        refine ⟨⟨ChC.self h1.1 h1.fn, U64C.self h4⟩, ?_⟩
        exact agg2_le ⟨rfl, rfl, fun i j _ _ => rfl⟩
    · exact h.elim
  · exact h.elim

noncomputable def manEx : FuncId → Option Ctr := fun k => match k with
  | 34 => some cNi
  | 98 => some cSpn
  | 50 => some cCi0
  | 51 => some cFr0
  | k => manQ ctR k
theorem manEx_ok (k : Nat) (c : Ctr) (h : manEx k = some c) : CtrOK Try.prog k c ∧ goodF Try.prog k = true := by
  unfold manEx at h
  split at h
  · cases h; exact ⟨cNw_ok, by kernel_rfl⟩
  · cases h; exact ⟨cSpn_ok, by kernel_rfl⟩
  · cases h; exact ⟨cCi0_ok, by kernel_rfl⟩
  · cases h; exact ⟨cFr0_ok, by kernel_rfl⟩
  · exact manQ_ok _ _ h
noncomputable def CEx : Ctx := ctxO Try.prog manEx ownL (fun k => false) 200 .run 12
theorem CEx_ok : CtxOK Try.prog CEx := ctxO_ok mixed manEx_ok ownL_ok 12
noncomputable def XEr  : Tr SV :=
  Tr.need ((ChC 0 fun x x_1 => DV.x (.tuple (Array.mk []))) ∧ U64C 0 fun x x_1 => DV.x (.tuple (Array.mk [])))
  (Tr.need
   ((ChC 1 fun i j =>
   relD
   (Rel.mk (1 : Int) (0 : Int) (5 : Int) (0 : Int) 0 (fun i => (0 : Int)) (0 : Int) (1 : Int) (80 : Int) (1 : Int) (1 : Int) (1 : Int) (2 : Int) (1 : Int) (0 : Int) (1 : Int) (9 : Int) (1 : Int) (3 : Int) (1 : Int)
   (16880852108703056937 : Int))
   j) ∧
   U64C 0 fun x x_1 => DV.x (.tuple (Array.mk [])))
   (Tr.need
   (U64C 0 fun i x =>
   DV.x
   (.int .u64
   (Rel.fc
   (Rel.mk (1 : Int) (0 : Int) (5 : Int) (0 : Int) 0
   (fun i =>
   Rel.fc
   (Rel.mk (1 : Int) (0 : Int) (5 : Int) (0 : Int) 0 (fun i => (0 : Int)) (0 : Int) (1 : Int) (80 : Int) (1 : Int) (1 : Int) (1 : Int) (2 : Int) (1 : Int) (0 : Int) (1 : Int) (9 : Int) (1 : Int) (3 : Int)
   (1 : Int) (16880852108703056937 : Int))
   i)
   (0 : Int) (1 : Int) (80 : Int) (1 : Int) (1 : Int) (1 : Int) (2 : Int) (1 : Int) (0 : Int) (1 : Int) (9 : Int) (1 : Int) (3 : Int) (1 : Int) (16880852108703056937 : Int))
   i)))
   (Tr.need
   (ChC 2 fun i j =>
   relD
   (nxF (7 : Int) 1
   (fun i =>
   Rel.mk (1 : Int) (0 : Int) (5 : Int) (0 : Int) 0 (fun i => (0 : Int)) (0 : Int) (1 : Int) (80 : Int) (1 : Int) (1 : Int) (1 : Int) (2 : Int) (1 : Int) (0 : Int) (1 : Int) (9 : Int) (1 : Int) (3 : Int) (1 : Int)
   (16880852108703056937 : Int))
   (Rel.mk (0 : Int) (0 : Int) (5 : Int) (0 : Int) 0 (fun i => (0 : Int)) (0 : Int) (1 : Int) (80 : Int) (1 : Int) (1 : Int) (1 : Int) (2 : Int) (1 : Int) (0 : Int) (1 : Int) (9 : Int) (1 : Int) (3 : Int) (1 : Int)
   (0 : Int))
   i)
   j)
   (Tr.need
   (ChC 2 fun i j =>
   relD
   (nxF (7 : Int) 1
   (fun i =>
   Rel.mk (1 : Int) (0 : Int) (5 : Int) (0 : Int) 0 (fun i => (0 : Int)) (0 : Int) (1 : Int) (80 : Int) (1 : Int) (1 : Int) (1 : Int) (2 : Int) (1 : Int) (0 : Int) (1 : Int) (9 : Int) (1 : Int) (3 : Int) (1 : Int)
   (16880852108703056937 : Int))
   (Rel.mk (0 : Int) (0 : Int) (5 : Int) (0 : Int) 0 (fun i => (0 : Int)) (0 : Int) (1 : Int) (80 : Int) (1 : Int) (1 : Int) (1 : Int) (2 : Int) (1 : Int) (0 : Int) (1 : Int) (9 : Int) (1 : Int) (3 : Int) (1 : Int)
   (0 : Int))
   i)
   j)
   (Tr.need
   ((ChC 1 fun i j =>
   relD
   (Rel.mk (1 : Int) (0 : Int) (5 : Int) (0 : Int) 0 (fun i => (0 : Int)) (0 : Int) (1 : Int) (80 : Int) (1 : Int) (1 : Int) (1 : Int) (2 : Int) (1 : Int) (0 : Int) (1 : Int) (9 : Int) (1 : Int) (3 : Int) (1 : Int)
   (16880852108703056937 : Int))
   j) ∧
   U64C 0 fun x x_1 => DV.x (.tuple (Array.mk [])))
   (Tr.need ((ChC 0 fun x x_1 => DV.x (.tuple (Array.mk []))) ∧ U64C 0 fun x x_1 => DV.x (.tuple (Array.mk [])))
   (Tr.need (U64C 0 fun x x_1 => DV.x (.tuple (Array.mk [])))
   (Tr.need
   (VB6 (10 : Int) (1 : Int) (20 : Int) (1 : Int) (1 : Int) (1 : Int) (2 : Int) (1 : Int) (0 : Int) (1 : Int) (9 : Int) (1 : Int) ∧
   VB6 (0 : Int) (1 : Int) (80 : Int) (1 : Int) (1 : Int) (1 : Int) (2 : Int) (1 : Int) (0 : Int) (1 : Int) (9 : Int) (1 : Int))
   (Tr.need (VF (7 : Int) (2 : Int) ∧ VF (3 : Int) (1 : Int))
   (Tr.need (U64C 0 fun x x_1 => DV.x (.tuple (Array.mk [])))
   (Tr.need
   (VB6 (10 : Int) (1 : Int) (20 : Int) (1 : Int) (1 : Int) (1 : Int) (2 : Int) (1 : Int) (0 : Int) (1 : Int) (9 : Int) (1 : Int) ∧
   VB6 (0 : Int) (1 : Int) (80 : Int) (1 : Int) (1 : Int) (1 : Int) (2 : Int) (1 : Int) (0 : Int) (1 : Int) (9 : Int) (1 : Int))
   (Tr.need (VF (2 : Int) (1 : Int) ∧ VF (3 : Int) (1 : Int))
   (Tr.need (U64C 0 fun x x_1 => DV.x (.tuple (Array.mk [])))
   (Tr.need
   (VB6 (0 : Int) (1 : Int) (81 : Int) (1 : Int) (1 : Int) (1 : Int) (2 : Int) (1 : Int) (0 : Int) (1 : Int) (9 : Int) (1 : Int) ∧
   VB6 (0 : Int) (1 : Int) (80 : Int) (1 : Int) (1 : Int) (1 : Int) (2 : Int) (1 : Int) (0 : Int) (1 : Int) (9 : Int) (1 : Int))
   (Tr.need (2 ≤ 2)
   (Tr.need (I64C 2 fun i j => dsAt [DV.x (.int .i64 (0 : Int)), DV.x (.int .i64 (0 : Int))] (0 + (0 + i) * 1 + j))
   (Tr.need (I64C 0 fun x x_1 => DV.x (.tuple (Array.mk [])))
   (Tr.need
   (ChC 2 fun i j =>
   relD
   (nxF (7 : Int) 1
   (fun i =>
   Rel.mk (1 : Int) (0 : Int) (5 : Int) (0 : Int) 0 (fun i => (0 : Int)) (0 : Int) (1 : Int) (80 : Int) (1 : Int) (1 : Int) (1 : Int) (2 : Int) (1 : Int) (0 : Int) (1 : Int) (9 : Int)
   (1 : Int) (3 : Int) (1 : Int) (16880852108703056937 : Int))
   (Rel.mk (0 : Int) (0 : Int) (5 : Int) (0 : Int) 0 (fun i => (0 : Int)) (0 : Int) (1 : Int) (80 : Int) (1 : Int) (1 : Int) (1 : Int) (2 : Int) (1 : Int) (0 : Int) (1 : Int) (9 : Int)
   (1 : Int) (3 : Int) (1 : Int) (0 : Int))
   i)
   j)
   (Tr.need
   (ChC 2 fun i j =>
   relD
   (nxF (7 : Int) 1
   (fun i =>
   Rel.mk (1 : Int) (0 : Int) (5 : Int) (0 : Int) 0 (fun i => (0 : Int)) (0 : Int) (1 : Int) (80 : Int) (1 : Int) (1 : Int) (1 : Int) (2 : Int) (1 : Int) (0 : Int) (1 : Int) (9 : Int)
   (1 : Int) (3 : Int) (1 : Int) (16880852108703056937 : Int))
   (Rel.mk (0 : Int) (0 : Int) (5 : Int) (0 : Int) 0 (fun i => (0 : Int)) (0 : Int) (1 : Int) (80 : Int) (1 : Int) (1 : Int) (1 : Int) (2 : Int) (1 : Int) (0 : Int) (1 : Int) (9 : Int)
   (1 : Int) (3 : Int) (1 : Int) (0 : Int))
   i)
   j)
   (Tr.ret (bv true)))))))))))))))))))))

theorem XEr_eq  : autoC Try.prog CEx 200 31 .run [] = XEr  := by kernel_rfl

end Go.Proofs.Ytpaejfeojdoikaa

namespace Go.Proofs.Ytpaejfeojdoikaa
open Go.Sx
set_option maxRecDepth 100000

/-! ### The digest's step is one to one -/
def fB (x : BitVec 64) : BitVec 64 := ((x * 15485907386658061715#64) ^^^ ((x * 15485907386658061715#64) >>> 32)) * 11562461410679940143#64
theorem wrapU (n : Int) : IntKind.wrap .u64 n = ((BitVec.ofInt 64 n).toNat : Int) := by
  rw [BitVec.toNat_ofInt]
  have h : 0 ≤ n % (2 ^ 64 : Int) := Int.emod_nonneg _ (by decide)
  show n % 18446744073709551616 = _
  rw [show ((2 ^ 64 : Nat) : Int) = 18446744073709551616 by decide, Int.toNat_of_nonneg (by omega)]
theorem ofInt_nat (x : BitVec 64) : BitVec.ofInt 64 (x.toNat : Int) = x := by
  apply BitVec.eq_of_toNat_eq
  rw [BitVec.toNat_ofInt]
  have := x.isLt
  omega
theorem mulU (x : BitVec 64) (n : Nat) : BitVec.ofInt 64 ((x.toNat : Int) * (n : Int)) = x * BitVec.ofNat 64 n := by
  apply BitVec.eq_of_toNat_eq
  rw [BitVec.toNat_ofInt, BitVec.toNat_mul, BitVec.toNat_ofNat, ← Int.natCast_mul]
  rw [show ((x.toNat * n : Nat) : Int) % ((2 ^ 64 : Nat) : Int) = ((x.toNat * n % 2 ^ 64 : Nat) : Int) from rfl, Int.toNat_natCast, Nat.mul_mod_mod]
theorem shrU (x : BitVec 64) : BitVec.ofInt 64 (Int.fdiv (x.toNat : Int) 4294967296) = x >>> 32 := by
  apply BitVec.eq_of_toNat_eq
  have := x.isLt
  rw [BitVec.toNat_ofInt, BitVec.toNat_ushiftRight, Nat.shiftRight_eq_div_pow, Int.fdiv_eq_ediv_of_nonneg _ (by decide)]
  omega
theorem stp_eq (s w : Int) : stp s w = ((fB (BitVec.ofInt 64 s ^^^ BitVec.ofInt 64 w)).toNat : Int) := by
  unfold stp fB
  generalize BitVec.ofInt 64 s ^^^ BitVec.ofInt 64 w = x
  simp only [wrapU, ofInt_nat]
  rw [show (15485907386658061715 : Int) = ((15485907386658061715 : Nat) : Int) from rfl, show (11562461410679940143 : Int) = ((11562461410679940143 : Nat) : Int) from rfl]
  simp only [mulU, ofInt_nat, shrU]
theorem xs_inv (a : BitVec 64) : (a ^^^ (a >>> 32)) ^^^ ((a ^^^ (a >>> 32)) >>> 32) = a := by
  rw [BitVec.ushiftRight_xor_distrib, ← BitVec.shiftRight_add]
  rw [show a >>> (32 + 32) = 0#64 from BitVec.ushiftRight_eq_zero (by decide)]
  simp [BitVec.xor_assoc]
theorem mul_inv {x y c d : BitVec 64} (h : c * d = 1#64) (e : x * c = y * c) : x = y := by
  have := congrArg (· * d) e
  simpa [BitVec.mul_assoc, h] using this
theorem fB_inj {x y : BitVec 64} (h : fB x = fB y) : x = y := by
  unfold fB at h
  have h1 := mul_inv (d := 10636502746458383055#64) (by decide) h
  have h2 : x * 15485907386658061715#64 = y * 15485907386658061715#64 := by
    rw [← xs_inv (x * 15485907386658061715#64), h1, xs_inv]
  exact mul_inv (d := 14982988110149298331#64) (by decide) h2
/-- Words. -/
def U6 (s : Int) : Prop := 0 ≤ s ∧ s < 18446744073709551616
theorem stp_U (s w : Int) : U6 (stp s w) := by
  rw [stp_eq]
  have := (fB (BitVec.ofInt 64 s ^^^ BitVec.ofInt 64 w)).isLt
  exact ⟨by omega, by omega⟩
theorem ofInt_inj {s t : Int} (hs : U6 s) (ht : U6 t) (h : BitVec.ofInt 64 s = BitVec.ofInt 64 t) : s = t := by
  have e := congrArg BitVec.toNat h
  rw [BitVec.toNat_ofInt, BitVec.toNat_ofInt] at e
  obtain ⟨h1, h2⟩ := hs
  obtain ⟨h3, h4⟩ := ht
  omega
theorem xor_inj_r {x y z : BitVec 64} (h : x ^^^ z = y ^^^ z) : x = y := by
  have := congrArg (· ^^^ z) h
  simpa [BitVec.xor_assoc] using this
theorem xor_inj_l {x y z : BitVec 64} (h : z ^^^ x = z ^^^ y) : x = y := by
  rw [BitVec.xor_comm z x, BitVec.xor_comm z y] at h; exact xor_inj_r h
theorem stp_s {s t w : Int} (hs : U6 s) (ht : U6 t) (h : stp s w = stp t w) : s = t := by
  rw [stp_eq, stp_eq] at h
  have e : fB (BitVec.ofInt 64 s ^^^ BitVec.ofInt 64 w) = fB (BitVec.ofInt 64 t ^^^ BitVec.ofInt 64 w) := BitVec.eq_of_toNat_eq (by omega)
  exact ofInt_inj hs ht (xor_inj_r (fB_inj e))
theorem stp_w {s v w : Int} (hv : U6 v) (hw : U6 w) (h : stp s v = stp s w) : v = w := by
  rw [stp_eq, stp_eq] at h
  have e : fB (BitVec.ofInt 64 s ^^^ BitVec.ofInt 64 v) = fB (BitVec.ofInt 64 s ^^^ BitVec.ofInt 64 w) := BitVec.eq_of_toNat_eq (by omega)
  exact ofInt_inj hv hw (xor_inj_l (fB_inj e))
theorem wU_U (n : Int) : U6 (wU n) := by
  unfold wU
  rw [wrapU]
  have := (BitVec.ofInt 64 n).isLt
  exact ⟨by omega, by omega⟩
theorem wU_inj {m n : Int} (hm : I64 m) (hn : I64 n) (h : wU m = wU n) : m = n := by
  have h : m % 18446744073709551616 = n % 18446744073709551616 := h
  obtain ⟨h1, h2⟩ := hm
  obtain ⟨h3, h4⟩ := hn
  omega
theorem dgF_U (c : Nat → Int) : ∀ n, U6 (dgF c n)
  | 0 => show U6 512970876019 from ⟨by decide, by decide⟩
  | n + 1 => stp_U _ _
theorem dgW_U (n : Nat) (c : Nat → Int) : U6 (dgW n c) := stp_U _ _
/-- One changed number changes the digest. -/
theorem dgF_one {c d : Nat → Int} {j : Nat} (hj : ∀ i, i ≠ j → c i = d i) (hc : I64 (c j)) (hd : I64 (d j)) (hne : c j ≠ d j) : ∀ n, j < n → dgF c n ≠ dgF d n
  | 0, h => by omega
  | n + 1, h => by
    intro e
    have e : stp (dgF c n) (wU (c n)) = stp (dgF d n) (wU (d n)) := e
    by_cases hn : j = n
    · subst hn
      have e0 : dgF c j = dgF d j := dgF_congr fun i hi => hj i (by omega)
      rw [e0] at e
      exact hne (wU_inj hc hd (stp_w (wU_U _) (wU_U _) e))
    · rw [hj n (by omega)] at e
      exact dgF_one hj hc hd hne n (by omega) (stp_s (dgF_U _ _) (dgF_U _ _) e)
theorem dgW_one {c d : Nat → Int} {j n : Nat} (hj : ∀ i, i ≠ j → c i = d i) (hc : I64 (c j)) (hd : I64 (d j)) (hne : c j ≠ d j) (h : j < n) : dgW n c ≠ dgW n d := fun e =>
  dgF_one hj hc hd hne n h (stp_s (dgF_U _ _) (dgF_U _ _) e)
end Go.Proofs.Ytpaejfeojdoikaa

namespace Go.Proofs.Ytpaejfeojdoikaa
open Go.Sx
set_option maxRecDepth 100000

theorem nx_fn0 {key : Int} {n : Nat} {f : Nat → Rel} {r : Rel} (hf : ∀ i, (f i).fn = 0) (hr : r.fn = 0) (i : Nat) : (nxF key n f r i).fn ≤ 1000000 := by
  unfold nxF
  cases decide (i < n)
  · show (newR key n f r).fn ≤ _
    rw [newR_fn, hr]; decide
  · show (f i).fn ≤ _
    rw [hf]; decide
theorem VB6.closed {a0 a1 a2 a3 b0 b1 b2 b3 c0 c1 c2 c3 : Int} (h : (VF a0 a1 ∧ VF a2 a3 ∧ VF b0 b1) ∧ (VF b2 b3 ∧ VF c0 c1 ∧ VF c2 c3)) : VB6 a0 a1 a2 a3 b0 b1 b2 b3 c0 c1 c2 c3 :=
  ⟨h.1.1, h.1.2.1, h.1.2.2, h.2.1, h.2.2.1, h.2.2.2⟩
theorem i64_two : I64C 2 fun i j => dsAt [DV.x (.int .i64 (0 : Int)), DV.x (.int .i64 (0 : Int))] (0 + (0 + i) * 1 + j) := ⟨by decide, fun i hi => by
  match i, hi with
  | 0, _ => rfl
  | 1, _ => rfl
  | k + 2, h => exact absurd h (by omega)⟩
theorem ex46 : (autoC Try.prog CEx 200 31 .run []).ev (bv true) := by
  rw [XEr_eq]; unfold XEr
  repeat' (first
    | exact rfl
    | refine sat_step (by decide +kernel) ?_
    | refine sat_step ⟨by decide, fun i hi => absurd hi (Nat.not_lt_zero _)⟩ ?_
    | refine sat_step ⟨⟨by decide, fun i hi => absurd hi (Nat.not_lt_zero _)⟩, ⟨by decide, fun i hi => absurd hi (Nat.not_lt_zero _)⟩⟩ ?_
    | refine sat_step ⟨ChC.self (by decide) fun i hi => Nat.zero_le _, ⟨by decide, fun i hi => absurd hi (Nat.not_lt_zero _)⟩⟩ ?_
    | refine sat_step (ChC.self (by decide) fun i hi => nx_fn0 (fun _ => rfl) rfl i) ?_
    | refine sat_step i64_two ?_
    | refine sat_step ⟨VB6.closed (by decide +kernel), VB6.closed (by decide +kernel)⟩ ?_)
theorem cEx46_ok : CtrOK Try.prog 31 cTrue := (autoC_ok CEx_ok mixed 200 31 .run).mono fun ss r h => by
  unfold cTrue at h
  split at h
  · simp only [Tr.ev] at h; subst h; exact ex46
  · exact h.elim
theorem manRl_ok (k : Nat) (c : Ctr) (h : manRl ctR FM k = some c) : CtrOK Try.prog k c ∧ goodF Try.prog k = true := by
  unfold manRl at h
  split at h
  · cases h; exact ⟨cMkG_ok, by kernel_rfl⟩
  · cases h; exact ⟨cEx46_ok, by kernel_rfl⟩
  · cases h; exact ⟨cNw_ok, by kernel_rfl⟩
  · exact manQ_ok _ _ h
end Go.Proofs.Ytpaejfeojdoikaa

namespace Go.Proofs.Ytpaejfeojdoikaa
open Go.Sx
set_option maxRecDepth 100000

/-! ### Arguments -/
/-! ### ReleaseKeys -/
theorem BBd.of {m : Nat} {ln : Nat → Nat} {c : Nat → Nat → Nat → DV} (hb : BB m ln c) : BBd m fun i _ => .ro (ln i) 1 (c i) := ⟨hb.1, fun i hi => ⟨_, _, rfl, hb.2 i hi⟩⟩
end Go.Proofs.Ytpaejfeojdoikaa

namespace Go.Proofs.Ytpaejfeojdoikaa
open Go.Sx
set_option maxRecDepth 100000
set_option pp.structureInstances false

abbrev GT := Rel → Int → Int → Rel
def relP (l : List SV) : Prop := ∃ r p, relOf l = some (r, p) ∧ p
noncomputable def relR (l : List SV) : Rel := match relOf l with
  | some (r, _) => r
  | none => zR
end Go.Proofs.Ytpaejfeojdoikaa

namespace Go.Proofs.Ytpaejfeojdoikaa
open Go.Sx
set_option maxRecDepth 100000

/-! ### A release of which one number is another one -/
def chJ (r : Rel) (v : Int) : Nat → Rel
  | 0 => { r with b0 := v }
  | 1 => { r with b1 := v }
  | 2 => { r with b2 := v }
  | 3 => { r with b3 := v }
  | 4 => { r with b4 := v }
  | 5 => { r with b5 := v }
  | 6 => { r with b6 := v }
  | 7 => { r with b7 := v }
  | 8 => { r with b8 := v }
  | 9 => { r with b9 := v }
  | 10 => { r with b10 := v }
  | 11 => { r with b11 := v }
  | 12 => { r with pn := v }
  | 13 => { r with pd := v }
  | _ => { r with tag := wU v }
def chI (r : Rel) (v : Int) (i : Nat) : Rel :=
  if i = 0 then { r with no := v } else if i = 1 then { r with prev := wU v } else if i = 2 then { r with src := wU v } else if i = 3 then { r with cir := wU v }
  else if i < 4 + r.fn then { r with fc := fun a => if a = i - 4 then wU v else r.fc a } else chJ r v (i - 4 - r.fn)
def chR : GT := fun r k v => chI r v (k % (19 + r.fn)).toNat

end Go.Proofs.Ytpaejfeojdoikaa

namespace Go.Proofs.Ytpaejfeojdoikaa
open Go.Sx
set_option maxRecDepth 100000

/-! ### One changed number -/
/-- What is known of a release of which one number is another one. -/
structure One (X r : Rel) : Prop where
  fn : X.fn = r.fn
  alt : (∃ j, j < 19 + r.fn ∧ X.tag = r.tag ∧ (∀ t, t ≠ j → numN X t = numN r t) ∧ I64 (numN X j) ∧ I64 (numN r j) ∧ (numN X j = numN r j → X = r)) ∨ ((∀ t, numN X t = numN r t) ∧ (X.tag = r.tag → X = r))
theorem getD_set {l : List Int} {j s : Nat} {v : Int} (hj : j < l.length) : (l.set j v).getD s 0 = if s = j then v else l.getD s 0 := by
  rw [List.getD_eq_getElem?_getD, List.getElem?_set, List.getD_eq_getElem?_getD]
  by_cases h : s = j
  · subst h; simp [hj]
  · rw [if_neg (by omega), if_neg h]
theorem smB_self (r : Rel) : smB r r = true := by
  unfold smB eqI
  simp only [Bool.and_eq_true, beq_iff_eq, true_and, and_true]
  exact eqF_iff.2 fun i _ => rfl
theorem One.tag {X r : Rel} (h : One X r) {key : Int} (ht : r.tag = stp key (dig r)) : smB X r = false → X.tag ≠ stp key (dig X) := by
  intro hs e
  have hX : X ≠ r := fun h2 => by rw [h2, smB_self] at hs; cases hs
  rcases h.alt with ⟨j, hj, h1, h2, h3, h4, h5⟩ | ⟨h1, h2⟩
  · have hne : dig X ≠ dig r := by
      unfold dig
      rw [h.fn]
      exact dgW_one h2 h3 h4 (fun h6 => hX (h5 h6)) hj
    rw [h1, ht] at e
    exact hne (stp_w (dgW_U _ _) (dgW_U _ _) e).symm
  · have hd : dig X = dig r := by
      unfold dig
      rw [h.fn]
      exact dgW_congr fun i _ => h1 i
    rw [hd, ← ht] at e
    exact hX (h2 e)
end Go.Proofs.Ytpaejfeojdoikaa

namespace Go.Proofs.Ytpaejfeojdoikaa
open Go.Sx
set_option maxRecDepth 100000

/-! ### ReleaseIntegrity -/
theorem relR_L (r : Rel) : relR (relL r) = r := rfl
theorem relP_L {r : Rel} (h : r.fn ≤ 1000000) : relP (relL r) := ⟨r, _, rfl, U64C.self h⟩
theorem relP_le {l : List SV} (h : relP l) : leSVs 0 [] [] l (relL (relR l)) ∧ (relR l).fn ≤ 1000000 := by
  obtain ⟨r, p, h1, h2⟩ := h
  have e : relR l = r := by unfold relR; rw [h1]
  rw [e]; exact relOf_le h1 h2
end Go.Proofs.Ytpaejfeojdoikaa

namespace Go.Proofs.Ytpaejfeojdoikaa
open Go.Sx
set_option maxRecDepth 100000

section
variable (key : Int) (m : Nat) (ln : Nat → Nat) (c : Nat → Nat → Nat → DV) (a b v : Int)
/-- The place of the changed release. -/
def i8 (m : Nat) (a : Int) : Nat := (Int.tmod (w64 (↑(BitVec.toNat (BitVec.ofInt 64 a &&& BitVec.ofInt 64 (255 : Int))) : Int)) ((min m 6 : Nat) : Int)).toNat
noncomputable def f8 : Nat → Rel := mkR key (ctC ln c)
noncomputable def x8 : Rel := chR (f8 key ln c (i8 m a)) (w64 (↑(BitVec.toNat (BitVec.ofInt 64 b &&& BitVec.ofInt 64 (255 : Int))) : Int)) v
noncomputable def g8 : Nat → Rel := fun i => if i = i8 m a then x8 key m ln c a b v else f8 key ln c i
noncomputable def h8 : Nat → Rel := fun i => if i < min m 6 then f8 key ln c i else f8 key ln c (i8 m a)
end
end Go.Proofs.Ytpaejfeojdoikaa

namespace Go.Proofs.Ytpaejfeojdoikaa
open Go.Sx
set_option maxRecDepth 100000

end Go.Proofs.Ytpaejfeojdoikaa

namespace Go.Proofs.Ytpaejfeojdoikaa
open Go.Sx
set_option maxRecDepth 100000
set_option pp.structureInstances false

end Go.Proofs.Ytpaejfeojdoikaa

namespace Go.Proofs.Ytpaejfeojdoikaa
open Go.Sx
set_option maxRecDepth 100000

/-! ### ReleaseChains -/
end Go.Proofs.Ytpaejfeojdoikaa

namespace Go.Proofs.Ytpaejfeojdoikaa
open Go.Sx
set_option maxRecDepth 100000

end Go.Proofs.Ytpaejfeojdoikaa

namespace Go.Proofs.Ytpaejfeojdoikaa
open Go.Sx
set_option maxRecDepth 100000
set_option pp.structureInstances false

noncomputable def LCv_q1 (r : Rel) (a0 : Int) (a1 : Int) (a2 : Int) (a3 : Int) (b0 : Int) (b1 : Int) (b2 : Int) (b3 : Int) (c0 : Int) (c1 : Int) (c2 : Int) (c3 : Int) : Bool :=
  vdB
   (Rel.mk (Rel.no r) (Rel.prev r) (Rel.src r) (Rel.cir r) 0 (fun i => (0 : Int)) (Rel.b0 r) (Rel.b1 r) (Rel.b2 r) (Rel.b3 r) (Rel.b4 r) (Rel.b5 r) (Rel.b6 r) (Rel.b7 r) (Rel.b8 r) (Rel.b9 r) (Rel.b10 r) (Rel.b11 r) (Rel.pn r)
   (Rel.pd r) (Rel.tag r)) &&
  (viB a0 a1 a2 a3 && viB b0 b1 b2 b3 && viB c0 c1 c2 c3)
noncomputable def LCv_q2 (a0 : Int) (a1 : Int) : Rat :=
  ratOf a0 a1
noncomputable def LCv_q3 (a2 : Int) (a3 : Int) : Rat :=
  ratOf a2 a3
noncomputable def LCv_q4 (r : Rel) : Rat :=
  ratOf (Rel.b0 r) (Rel.b1 r)
noncomputable def LCv_q5 (r : Rel) : Rat :=
  ratOf (Rel.b2 r) (Rel.b3 r)
noncomputable def LCv_q6 (b0 : Int) (b1 : Int) : Rat :=
  ratOf b0 b1
noncomputable def LCv_q7 (b2 : Int) (b3 : Int) : Rat :=
  ratOf b2 b3
noncomputable def LCv_q8 (r : Rel) : Rat :=
  ratOf (Rel.b4 r) (Rel.b5 r)
noncomputable def LCv_q9 (r : Rel) : Rat :=
  ratOf (Rel.b6 r) (Rel.b7 r)
noncomputable def LCv_q10 (c0 : Int) (c1 : Int) : Rat :=
  ratOf c0 c1
noncomputable def LCv_q11 (c2 : Int) (c3 : Int) : Rat :=
  ratOf c2 c3
noncomputable def LCv_q12 (r : Rel) : Rat :=
  ratOf (Rel.b8 r) (Rel.b9 r)
noncomputable def LCv_q13 (r : Rel) : Rat :=
  ratOf (Rel.b10 r) (Rel.b11 r)
noncomputable def LCv_q14 (r : Rel) (a0 : Int) (a1 : Int) (a2 : Int) (a3 : Int) (b0 : Int) (b1 : Int) (b2 : Int) (b3 : Int) (c0 : Int) (c1 : Int) (c2 : Int) (c3 : Int) (p : Int) (q : Int) : Bool :=
  LCv_q1 r a0 a1 a2 a3 b0 b1 b2 b3 c0 c1 c2 c3 &&
   (wiB (LCv_q2 a0 a1) (LCv_q3 a2 a3) (LCv_q4 r) (LCv_q5 r) && wiB (LCv_q6 b0 b1) (LCv_q7 b2 b3) (LCv_q8 r) (LCv_q9 r) &&
   wiB (LCv_q10 c0 c1) (LCv_q11 c2 c3) (LCv_q12 r) (LCv_q13 r)) &&
  vB p q
noncomputable def LCv_q15 (p : Int) (q : Int) : Rat :=
  ratOf p q
noncomputable def LCv_q16 (r : Rel) : Rat :=
  ratOf (Rel.pn r) (Rel.pd r)
noncomputable def LCv (r : Rel) (a0 a1 a2 a3 b0 b1 b2 b3 c0 c1 c2 c3 p q : Int) : Tree SV :=
  .need (U64C 0 fun x x_1 => DV.x (.tuple (Array.mk [])))
  (.need
   (LCv_q1 r a0 a1 a2 a3 b0 b1 b2 b3 c0 c1 c2 c3 = true →
   VB6 a0 a1 a2 a3 b0 b1 b2 b3 c0 c1 c2 c3 ∧ VB6 (Rel.b0 r) (Rel.b1 r) (Rel.b2 r) (Rel.b3 r) (Rel.b4 r) (Rel.b5 r) (Rel.b6 r) (Rel.b7 r) (Rel.b8 r) (Rel.b9 r) (Rel.b10 r) (Rel.b11 r))
   (.need (LCv_q14 r a0 a1 a2 a3 b0 b1 b2 b3 c0 c1 c2 c3 p q = true → VF p q ∧ VF (Rel.pn r) (Rel.pd r))
   (.ret (bv (LCv_q14 r a0 a1 a2 a3 b0 b1 b2 b3 c0 c1 c2 c3 p q && decide (cmpR (LCv_q15 p q) (LCv_q16 r) ≥ (0 : Int)))))))

theorem LCv_eq (r : Rel) (a0 a1 a2 a3 b0 b1 b2 b3 c0 c1 c2 c3 p q : Int) : TQ ctR .nil 43 [.agg (relL r), .agg [iv a0, iv a1, iv a2, iv a3, iv b0, iv b1, iv b2, iv b3, iv c0, iv c1, iv c2, iv c3], .agg [iv p, iv q]] = LCv r a0 a1 a2 a3 b0 b1 b2 b3 c0 c1 c2 c3 p q := by kernel_rfl

/-- Whether a release covers conditions. -/
noncomputable def cvB (r : Rel) (a0 a1 a2 a3 b0 b1 b2 b3 c0 c1 c2 c3 p q : Int) : Bool := LCv_q14 r a0 a1 a2 a3 b0 b1 b2 b3 c0 c1 c2 c3 p q && decide (cmpR (ratOf p q) (ratOf r.pn r.pd) ≥ 0)
noncomputable def cvL (l m : List SV) (p q : Int) : Bool := match intsOf .i64 m with
  | some [a0, a1, a2, a3, b0, b1, b2, b3, c0, c1, c2, c3] => cvB (relR l) a0 a1 a2 a3 b0 b1 b2 b3 c0 c1 c2 c3 p q
  | _ => false
def bxP (m : List SV) : Prop := ∃ a0 a1 a2 a3 b0 b1 b2 b3 c0 c1 c2 c3 : Int, m = [iv a0, iv a1, iv a2, iv a3, iv b0, iv b1, iv b2, iv b3, iv c0, iv c1, iv c2, iv c3]
abbrev VT := List SV → List SV → Int → Int → Bool
noncomputable def cCvG (V : VT) : Ctr := fun ss => match ss with
  | [.agg l, .agg m, .agg [.d (.x (.int .i64 p)), .d (.x (.int .i64 q))]] => .need (relP l ∧ bxP m) (.ret (bv (V l m p q)))
  | _ => .fail
noncomputable def manUl (ct : Nat → (Nat → Int) → Rel) (F : FT) (V : VT) : FuncId → Option Ctr := fun k => match k with
  | 43 => some (cCvG V)
  | k => manRl ct F k
noncomputable def CUl (ct : Nat → (Nat → Int) → Rel) (F : FT) (V : VT) : Ctx := ctxO Try.prog (manUl ct F V) ownL (fun k => false) 200 .nil 6
noncomputable def DUl (ct : Nat → (Nat → Int) → Rel) (F : FT) (V : VT) : Dr := fun _ => drawn Try.prog (CUl ct F V)
noncomputable def TUl (ct : Nat → (Nat → Int) → Rel) (F : FT) (V : VT) (h : Hint) (k : Nat) (args : List SV) : Tree SV := fnT Try.prog (CUl ct F V) (DUl ct F V) 200 (fnOf Try.prog k) (bodyOf Try.prog k) args h
noncomputable def L9r_q1 (d2 : Nat → Nat → DV) (i : Nat) : Int :=
  intOf1 (d2 i (0 : Nat))
noncomputable def L9r_q2 (n2 : Nat) (d2 : Nat → Nat → DV) : Rat :=
  loQ n2 (L9r_q1 d2) 0
noncomputable def L9r_q3 (n2 : Nat) (d2 : Nat → Nat → DV) : Rat :=
  hiQ n2 (L9r_q1 d2) 0
noncomputable def L9r_q4 (n2 : Nat) (d2 : Nat → Nat → DV) : Rat :=
  loQ n2 (L9r_q1 d2) 1
noncomputable def L9r_q5 (n2 : Nat) (d2 : Nat → Nat → DV) : Rat :=
  hiQ n2 (L9r_q1 d2) 1
noncomputable def L9r_q6 (n2 : Nat) (d2 : Nat → Nat → DV) : Rat :=
  loQ n2 (L9r_q1 d2) 2
noncomputable def L9r_q7 (n2 : Nat) (d2 : Nat → Nat → DV) : Rat :=
  hiQ n2 (L9r_q1 d2) 2
noncomputable def L9r_q8 (k6 : Int) : Rat :=
  mdQ (w64 k6) (7 : Int)
noncomputable def L9r_q9 (k7 : Int) : Rat :=
  mdQ (w64 ((1 : Int) + w64 k7)) (300 : Int)
noncomputable def L9r_q10 (ct : Nat → (Nat → Int) → Rel) (n1 : Nat) (d1 : Nat → Nat → DV) (i : Nat) (x : Nat) : DV :=
  DV.x (.int .u64 (Rel.fc (ct n1 (intCell d1)) i))
noncomputable def L9r_q11 (n2 : Nat) (d2 : Nat → Nat → DV) : Rat :=
  loQ n2 (intCell d2) (0 : Nat)
noncomputable def L9r_q12 (n2 : Nat) (d2 : Nat → Nat → DV) : Rat :=
  hiQ n2 (intCell d2) (0 : Nat)
noncomputable def L9r_q13 (n2 : Nat) (d2 : Nat → Nat → DV) : Rat :=
  loQ n2 (intCell d2) (1 : Nat)
noncomputable def L9r_q14 (n2 : Nat) (d2 : Nat → Nat → DV) : Rat :=
  hiQ n2 (intCell d2) (1 : Nat)
noncomputable def L9r_q15 (n2 : Nat) (d2 : Nat → Nat → DV) : Rat :=
  loQ n2 (intCell d2) (2 : Nat)
noncomputable def L9r_q16 (n2 : Nat) (d2 : Nat → Nat → DV) : Rat :=
  hiQ n2 (intCell d2) (2 : Nat)
noncomputable def L9r_q17 (ct : Nat → (Nat → Int) → Rel) (n1 : Nat) (d1 : Nat → Nat → DV) : Rat :=
  ratOf (Rel.pn (ct n1 (intCell d1))) (Rel.pd (ct n1 (intCell d1)))
noncomputable def L9r_q18 (k0 : Int) (k1 : Int) (k2 : Int) (k3 : Int) (k4 : Int) (k5 : Int) (k6 : Int) (k7 : Int) : Rat :=
  mdQ (w64 (List.getD [k0, k1, k2, k3, k4, k5, k6, k7] (Int.toNat (6 : Int)) (0 : Int))) (7 : Int)
noncomputable def L9r_q19 (k0 : Int) (k1 : Int) (k2 : Int) (k3 : Int) (k4 : Int) (k5 : Int) (k6 : Int) (k7 : Int) : Rat :=
  ratOf (Rat.num (L9r_q18 k0 k1 k2 k3 k4 k5 k6 k7)) (↑(Rat.den (L9r_q18 k0 k1 k2 k3 k4 k5 k6 k7)) : Int)
noncomputable def L9r_q20 (ct : Nat → (Nat → Int) → Rel) (n1 : Nat) (d1 : Nat → Nat → DV) (k0 : Int) (k1 : Int) (k2 : Int) (k3 : Int) (k4 : Int) (k5 : Int) (k6 : Int) (k7 : Int) : Rat :=
  L9r_q17 ct n1 d1 + L9r_q19 k0 k1 k2 k3 k4 k5 k6 k7
noncomputable def L9r_q21 (ct : Nat → (Nat → Int) → Rel) (V : VT) (n1 : Nat) (d1 : Nat → Nat → DV) (n2 : Nat) (d2 : Nat → Nat → DV) (k0 : Int) (k1 : Int) (k2 : Int) (k3 : Int) (k4 : Int) (k5 : Int) (k6 : Int) (k7 : Int) : Bool :=
  V
  [iv (Rel.no (ct n1 (intCell d1))), SV.d (DV.x (.int .u64 (Rel.prev (ct n1 (intCell d1))))), SV.d (DV.x (.int .u64 (Rel.src (ct n1 (intCell d1))))),
   SV.d (DV.x (.int .u64 (Rel.cir (ct n1 (intCell d1))))), SV.d (DV.ro (Rel.fn (ct n1 (intCell d1))) (1 : Nat) (L9r_q10 ct n1 d1)), iv (Rel.b0 (ct n1 (intCell d1))), iv (Rel.b1 (ct n1 (intCell d1))),
   iv (Rel.b2 (ct n1 (intCell d1))), iv (Rel.b3 (ct n1 (intCell d1))), iv (Rel.b4 (ct n1 (intCell d1))), iv (Rel.b5 (ct n1 (intCell d1))), iv (Rel.b6 (ct n1 (intCell d1))), iv (Rel.b7 (ct n1 (intCell d1))),
   iv (Rel.b8 (ct n1 (intCell d1))), iv (Rel.b9 (ct n1 (intCell d1))), iv (Rel.b10 (ct n1 (intCell d1))), iv (Rel.b11 (ct n1 (intCell d1))), iv (Rel.pn (ct n1 (intCell d1))), iv (Rel.pd (ct n1 (intCell d1))),
   SV.d (DV.x (.int .u64 (Rel.tag (ct n1 (intCell d1)))))]
  [iv (Rat.num (L9r_q11 n2 d2)), iv (↑(Rat.den (L9r_q11 n2 d2)) : Int), iv (Rat.num (L9r_q12 n2 d2)), iv (↑(Rat.den (L9r_q12 n2 d2)) : Int), iv (Rat.num (L9r_q13 n2 d2)),
   iv (↑(Rat.den (L9r_q13 n2 d2)) : Int), iv (Rat.num (L9r_q14 n2 d2)), iv (↑(Rat.den (L9r_q14 n2 d2)) : Int), iv (Rat.num (L9r_q15 n2 d2)), iv (↑(Rat.den (L9r_q15 n2 d2)) : Int),
   iv (Rat.num (L9r_q16 n2 d2)), iv (↑(Rat.den (L9r_q16 n2 d2)) : Int)]
  (rN (L9r_q20 ct n1 d1 k0 k1 k2 k3 k4 k5 k6 k7)) (rD (L9r_q20 ct n1 d1 k0 k1 k2 k3 k4 k5 k6 k7))
noncomputable def L9r_q22 (n2 : Nat) (d2 : Nat → Nat → DV) : Rat :=
  ratOf (Rat.num (L9r_q11 n2 d2)) (↑(Rat.den (L9r_q11 n2 d2)) : Int)
noncomputable def L9r_q23 (n2 : Nat) (d2 : Nat → Nat → DV) : Rat :=
  ratOf (Rat.num (L9r_q12 n2 d2)) (↑(Rat.den (L9r_q12 n2 d2)) : Int)
noncomputable def L9r_q24 (n2 : Nat) (d2 : Nat → Nat → DV) (k0 : Int) (k1 : Int) (k2 : Int) (k3 : Int) (k4 : Int) (k5 : Int) (k6 : Int) (k7 : Int) : Rat :=
  ptL (L9r_q22 n2 d2) (L9r_q23 n2 d2)
  (List.getD ((fun x => k0 :: x) ((fun x => k1 :: x) ((fun x => k2 :: x) ((fun x => k3 :: x) ((fun x => k4 :: x) ((fun x => k5 :: x) ((fun x => k6 :: x) ((fun x => k7 :: x) [])))))))) (Int.toNat (0 : Int)) (0 : Int))
  (List.getD ((fun x => k0 :: x) ((fun x => k1 :: x) ((fun x => k2 :: x) ((fun x => k3 :: x) ((fun x => k4 :: x) ((fun x => k5 :: x) ((fun x => k6 :: x) ((fun x => k7 :: x) [])))))))) (Int.toNat (3 : Int)) (0 : Int))
noncomputable def L9r_q25 (n2 : Nat) (d2 : Nat → Nat → DV) (k0 : Int) (k1 : Int) (k2 : Int) (k3 : Int) (k4 : Int) (k5 : Int) (k6 : Int) (k7 : Int) : Rat :=
  ptH (L9r_q22 n2 d2) (L9r_q23 n2 d2)
  (List.getD ((fun x => k0 :: x) ((fun x => k1 :: x) ((fun x => k2 :: x) ((fun x => k3 :: x) ((fun x => k4 :: x) ((fun x => k5 :: x) ((fun x => k6 :: x) ((fun x => k7 :: x) [])))))))) (Int.toNat (0 : Int)) (0 : Int))
  (List.getD ((fun x => k0 :: x) ((fun x => k1 :: x) ((fun x => k2 :: x) ((fun x => k3 :: x) ((fun x => k4 :: x) ((fun x => k5 :: x) ((fun x => k6 :: x) ((fun x => k7 :: x) [])))))))) (Int.toNat (3 : Int)) (0 : Int))
noncomputable def L9r_q26 (n2 : Nat) (d2 : Nat → Nat → DV) : Rat :=
  ratOf (Rat.num (L9r_q13 n2 d2)) (↑(Rat.den (L9r_q13 n2 d2)) : Int)
noncomputable def L9r_q27 (n2 : Nat) (d2 : Nat → Nat → DV) : Rat :=
  ratOf (Rat.num (L9r_q14 n2 d2)) (↑(Rat.den (L9r_q14 n2 d2)) : Int)
noncomputable def L9r_q28 (n2 : Nat) (d2 : Nat → Nat → DV) (k0 : Int) (k1 : Int) (k2 : Int) (k3 : Int) (k4 : Int) (k5 : Int) (k6 : Int) (k7 : Int) : Rat :=
  ptL (L9r_q26 n2 d2) (L9r_q27 n2 d2)
  (List.getD ((fun x => k0 :: x) ((fun x => k1 :: x) ((fun x => k2 :: x) ((fun x => k3 :: x) ((fun x => k4 :: x) ((fun x => k5 :: x) ((fun x => k6 :: x) ((fun x => k7 :: x) [])))))))) (Int.toNat (1 : Int)) (0 : Int))
  (List.getD ((fun x => k0 :: x) ((fun x => k1 :: x) ((fun x => k2 :: x) ((fun x => k3 :: x) ((fun x => k4 :: x) ((fun x => k5 :: x) ((fun x => k6 :: x) ((fun x => k7 :: x) [])))))))) (Int.toNat (4 : Int)) (0 : Int))
noncomputable def L9r_q29 (n2 : Nat) (d2 : Nat → Nat → DV) (k0 : Int) (k1 : Int) (k2 : Int) (k3 : Int) (k4 : Int) (k5 : Int) (k6 : Int) (k7 : Int) : Rat :=
  ptH (L9r_q26 n2 d2) (L9r_q27 n2 d2)
  (List.getD ((fun x => k0 :: x) ((fun x => k1 :: x) ((fun x => k2 :: x) ((fun x => k3 :: x) ((fun x => k4 :: x) ((fun x => k5 :: x) ((fun x => k6 :: x) ((fun x => k7 :: x) [])))))))) (Int.toNat (1 : Int)) (0 : Int))
  (List.getD ((fun x => k0 :: x) ((fun x => k1 :: x) ((fun x => k2 :: x) ((fun x => k3 :: x) ((fun x => k4 :: x) ((fun x => k5 :: x) ((fun x => k6 :: x) ((fun x => k7 :: x) [])))))))) (Int.toNat (4 : Int)) (0 : Int))
noncomputable def L9r_q30 (n2 : Nat) (d2 : Nat → Nat → DV) : Rat :=
  ratOf (Rat.num (L9r_q15 n2 d2)) (↑(Rat.den (L9r_q15 n2 d2)) : Int)
noncomputable def L9r_q31 (n2 : Nat) (d2 : Nat → Nat → DV) : Rat :=
  ratOf (Rat.num (L9r_q16 n2 d2)) (↑(Rat.den (L9r_q16 n2 d2)) : Int)
noncomputable def L9r_q32 (n2 : Nat) (d2 : Nat → Nat → DV) (k0 : Int) (k1 : Int) (k2 : Int) (k3 : Int) (k4 : Int) (k5 : Int) (k6 : Int) (k7 : Int) : Rat :=
  ptL (L9r_q30 n2 d2) (L9r_q31 n2 d2)
  (List.getD ((fun x => k0 :: x) ((fun x => k1 :: x) ((fun x => k2 :: x) ((fun x => k3 :: x) ((fun x => k4 :: x) ((fun x => k5 :: x) ((fun x => k6 :: x) ((fun x => k7 :: x) [])))))))) (Int.toNat (2 : Int)) (0 : Int))
  (List.getD ((fun x => k0 :: x) ((fun x => k1 :: x) ((fun x => k2 :: x) ((fun x => k3 :: x) ((fun x => k4 :: x) ((fun x => k5 :: x) ((fun x => k6 :: x) ((fun x => k7 :: x) [])))))))) (Int.toNat (5 : Int)) (0 : Int))
noncomputable def L9r_q33 (n2 : Nat) (d2 : Nat → Nat → DV) (k0 : Int) (k1 : Int) (k2 : Int) (k3 : Int) (k4 : Int) (k5 : Int) (k6 : Int) (k7 : Int) : Rat :=
  ptH (L9r_q30 n2 d2) (L9r_q31 n2 d2)
  (List.getD ((fun x => k0 :: x) ((fun x => k1 :: x) ((fun x => k2 :: x) ((fun x => k3 :: x) ((fun x => k4 :: x) ((fun x => k5 :: x) ((fun x => k6 :: x) ((fun x => k7 :: x) [])))))))) (Int.toNat (2 : Int)) (0 : Int))
  (List.getD ((fun x => k0 :: x) ((fun x => k1 :: x) ((fun x => k2 :: x) ((fun x => k3 :: x) ((fun x => k4 :: x) ((fun x => k5 :: x) ((fun x => k6 :: x) ((fun x => k7 :: x) [])))))))) (Int.toNat (5 : Int)) (0 : Int))
noncomputable def L9r_q34 (n2 : Nat) (d2 : Nat → Nat → DV) (k0 : Int) (k1 : Int) (k2 : Int) (k3 : Int) (k4 : Int) (k5 : Int) (k6 : Int) (k7 : Int) : Rat :=
  ptL (L9r_q22 n2 d2) (L9r_q23 n2 d2) (List.getD [k0, k1, k2, k3, k4, k5, k6, k7] (Int.toNat (0 : Int)) (0 : Int)) (List.getD [k0, k1, k2, k3, k4, k5, k6, k7] (Int.toNat (3 : Int)) (0 : Int))
noncomputable def L9r_q35 (n2 : Nat) (d2 : Nat → Nat → DV) (k0 : Int) (k1 : Int) (k2 : Int) (k3 : Int) (k4 : Int) (k5 : Int) (k6 : Int) (k7 : Int) : Rat :=
  ptH (L9r_q22 n2 d2) (L9r_q23 n2 d2) (List.getD [k0, k1, k2, k3, k4, k5, k6, k7] (Int.toNat (0 : Int)) (0 : Int)) (List.getD [k0, k1, k2, k3, k4, k5, k6, k7] (Int.toNat (3 : Int)) (0 : Int))
noncomputable def L9r_q36 (n2 : Nat) (d2 : Nat → Nat → DV) (k0 : Int) (k1 : Int) (k2 : Int) (k3 : Int) (k4 : Int) (k5 : Int) (k6 : Int) (k7 : Int) : Rat :=
  ptL (L9r_q26 n2 d2) (L9r_q27 n2 d2) (List.getD [k0, k1, k2, k3, k4, k5, k6, k7] (Int.toNat (1 : Int)) (0 : Int)) (List.getD [k0, k1, k2, k3, k4, k5, k6, k7] (Int.toNat (4 : Int)) (0 : Int))
noncomputable def L9r_q37 (n2 : Nat) (d2 : Nat → Nat → DV) (k0 : Int) (k1 : Int) (k2 : Int) (k3 : Int) (k4 : Int) (k5 : Int) (k6 : Int) (k7 : Int) : Rat :=
  ptH (L9r_q26 n2 d2) (L9r_q27 n2 d2) (List.getD [k0, k1, k2, k3, k4, k5, k6, k7] (Int.toNat (1 : Int)) (0 : Int)) (List.getD [k0, k1, k2, k3, k4, k5, k6, k7] (Int.toNat (4 : Int)) (0 : Int))
noncomputable def L9r_q38 (n2 : Nat) (d2 : Nat → Nat → DV) (k0 : Int) (k1 : Int) (k2 : Int) (k3 : Int) (k4 : Int) (k5 : Int) (k6 : Int) (k7 : Int) : Rat :=
  ptL (L9r_q30 n2 d2) (L9r_q31 n2 d2) (List.getD [k0, k1, k2, k3, k4, k5, k6, k7] (Int.toNat (2 : Int)) (0 : Int)) (List.getD [k0, k1, k2, k3, k4, k5, k6, k7] (Int.toNat (5 : Int)) (0 : Int))
noncomputable def L9r_q39 (n2 : Nat) (d2 : Nat → Nat → DV) (k0 : Int) (k1 : Int) (k2 : Int) (k3 : Int) (k4 : Int) (k5 : Int) (k6 : Int) (k7 : Int) : Rat :=
  ptH (L9r_q30 n2 d2) (L9r_q31 n2 d2) (List.getD [k0, k1, k2, k3, k4, k5, k6, k7] (Int.toNat (2 : Int)) (0 : Int)) (List.getD [k0, k1, k2, k3, k4, k5, k6, k7] (Int.toNat (5 : Int)) (0 : Int))
noncomputable def L9r_q40 (ct : Nat → (Nat → Int) → Rel) (V : VT) (n1 : Nat) (d1 : Nat → Nat → DV) (n2 : Nat) (d2 : Nat → Nat → DV) (k0 : Int) (k1 : Int) (k2 : Int) (k3 : Int) (k4 : Int) (k5 : Int) (k6 : Int) (k7 : Int) : Bool :=
  L9r_q21 ct V n1 d1 n2 d2 k0 k1 k2 k3 k4 k5 k6 k7 &&
  !V
   [iv (Rel.no (ct n1 (intCell d1))), SV.d (DV.x (.int .u64 (Rel.prev (ct n1 (intCell d1))))), SV.d (DV.x (.int .u64 (Rel.src (ct n1 (intCell d1))))),
   SV.d (DV.x (.int .u64 (Rel.cir (ct n1 (intCell d1))))), SV.d (DV.ro (Rel.fn (ct n1 (intCell d1))) (1 : Nat) (L9r_q10 ct n1 d1)), iv (Rel.b0 (ct n1 (intCell d1))), iv (Rel.b1 (ct n1 (intCell d1))),
   iv (Rel.b2 (ct n1 (intCell d1))), iv (Rel.b3 (ct n1 (intCell d1))), iv (Rel.b4 (ct n1 (intCell d1))), iv (Rel.b5 (ct n1 (intCell d1))), iv (Rel.b6 (ct n1 (intCell d1))), iv (Rel.b7 (ct n1 (intCell d1))),
   iv (Rel.b8 (ct n1 (intCell d1))), iv (Rel.b9 (ct n1 (intCell d1))), iv (Rel.b10 (ct n1 (intCell d1))), iv (Rel.b11 (ct n1 (intCell d1))), iv (Rel.pn (ct n1 (intCell d1))), iv (Rel.pd (ct n1 (intCell d1))),
   SV.d (DV.x (.int .u64 (Rel.tag (ct n1 (intCell d1)))))]
   [iv (Rat.num (L9r_q34 n2 d2 k0 k1 k2 k3 k4 k5 k6 k7)), iv (↑(Rat.den (L9r_q34 n2 d2 k0 k1 k2 k3 k4 k5 k6 k7)) : Int), iv (Rat.num (L9r_q35 n2 d2 k0 k1 k2 k3 k4 k5 k6 k7)),
   iv (↑(Rat.den (L9r_q35 n2 d2 k0 k1 k2 k3 k4 k5 k6 k7)) : Int), iv (Rat.num (L9r_q36 n2 d2 k0 k1 k2 k3 k4 k5 k6 k7)), iv (↑(Rat.den (L9r_q36 n2 d2 k0 k1 k2 k3 k4 k5 k6 k7)) : Int),
   iv (Rat.num (L9r_q37 n2 d2 k0 k1 k2 k3 k4 k5 k6 k7)), iv (↑(Rat.den (L9r_q37 n2 d2 k0 k1 k2 k3 k4 k5 k6 k7)) : Int), iv (Rat.num (L9r_q38 n2 d2 k0 k1 k2 k3 k4 k5 k6 k7)),
   iv (↑(Rat.den (L9r_q38 n2 d2 k0 k1 k2 k3 k4 k5 k6 k7)) : Int), iv (Rat.num (L9r_q39 n2 d2 k0 k1 k2 k3 k4 k5 k6 k7)), iv (↑(Rat.den (L9r_q39 n2 d2 k0 k1 k2 k3 k4 k5 k6 k7)) : Int)]
   (rN (L9r_q20 ct n1 d1 k0 k1 k2 k3 k4 k5 k6 k7)) (rD (L9r_q20 ct n1 d1 k0 k1 k2 k3 k4 k5 k6 k7))
noncomputable def L9r_q41 (ct : Nat → (Nat → Int) → Rel) (V : VT) (n1 : Nat) (d1 : Nat → Nat → DV) : Bool :=
  V
  [iv (Rel.no (ct n1 (intCell d1))), SV.d (DV.x (.int .u64 (Rel.prev (ct n1 (intCell d1))))), SV.d (DV.x (.int .u64 (Rel.src (ct n1 (intCell d1))))),
   SV.d (DV.x (.int .u64 (Rel.cir (ct n1 (intCell d1))))), SV.d (DV.ro (Rel.fn (ct n1 (intCell d1))) (1 : Nat) (L9r_q10 ct n1 d1)), iv (Rel.b0 (ct n1 (intCell d1))), iv (Rel.b1 (ct n1 (intCell d1))),
   iv (Rel.b2 (ct n1 (intCell d1))), iv (Rel.b3 (ct n1 (intCell d1))), iv (Rel.b4 (ct n1 (intCell d1))), iv (Rel.b5 (ct n1 (intCell d1))), iv (Rel.b6 (ct n1 (intCell d1))), iv (Rel.b7 (ct n1 (intCell d1))),
   iv (Rel.b8 (ct n1 (intCell d1))), iv (Rel.b9 (ct n1 (intCell d1))), iv (Rel.b10 (ct n1 (intCell d1))), iv (Rel.b11 (ct n1 (intCell d1))), iv (Rel.pn (ct n1 (intCell d1))), iv (Rel.pd (ct n1 (intCell d1))),
   SV.d (DV.x (.int .u64 (Rel.tag (ct n1 (intCell d1)))))]
  [iv (Rel.b0 (ct n1 (intCell d1))), iv (Rel.b1 (ct n1 (intCell d1))), iv (Rel.b2 (ct n1 (intCell d1))), iv (Rel.b3 (ct n1 (intCell d1))), iv (Rel.b4 (ct n1 (intCell d1))), iv (Rel.b5 (ct n1 (intCell d1))), iv (Rel.b6 (ct n1 (intCell d1))),
   iv (Rel.b7 (ct n1 (intCell d1))), iv (Rel.b8 (ct n1 (intCell d1))), iv (Rel.b9 (ct n1 (intCell d1))), iv (Rel.b10 (ct n1 (intCell d1))), iv (Rel.b11 (ct n1 (intCell d1)))]
  (Rel.pn (ct n1 (intCell d1))) (Rel.pd (ct n1 (intCell d1)))
noncomputable def L9r_q42 (ct : Nat → (Nat → Int) → Rel) (n1 : Nat) (d1 : Nat → Nat → DV) : Rat :=
  ratOf (Rel.b0 (ct n1 (intCell d1))) (Rel.b1 (ct n1 (intCell d1)))
noncomputable def L9r_q43 (ct : Nat → (Nat → Int) → Rel) (n1 : Nat) (d1 : Nat → Nat → DV) : Rat :=
  ratOf (Rel.b2 (ct n1 (intCell d1))) (Rel.b3 (ct n1 (intCell d1)))
noncomputable def L9r_q44 (ct : Nat → (Nat → Int) → Rel) (n1 : Nat) (d1 : Nat → Nat → DV) (k0 : Int) (k1 : Int) (k2 : Int) (k3 : Int) (k4 : Int) (k5 : Int) (k6 : Int) (k7 : Int) : Rat :=
  ptL (L9r_q42 ct n1 d1) (L9r_q43 ct n1 d1)
  (List.getD ((fun x => k0 :: x) ((fun x => k1 :: x) ((fun x => k2 :: x) ((fun x => k3 :: x) ((fun x => k4 :: x) ((fun x => k5 :: x) ((fun x => k6 :: x) ((fun x => k7 :: x) [])))))))) (Int.toNat (0 : Int)) (0 : Int))
  (List.getD ((fun x => k0 :: x) ((fun x => k1 :: x) ((fun x => k2 :: x) ((fun x => k3 :: x) ((fun x => k4 :: x) ((fun x => k5 :: x) ((fun x => k6 :: x) ((fun x => k7 :: x) [])))))))) (Int.toNat (3 : Int)) (0 : Int))
noncomputable def L9r_q45 (ct : Nat → (Nat → Int) → Rel) (n1 : Nat) (d1 : Nat → Nat → DV) (k0 : Int) (k1 : Int) (k2 : Int) (k3 : Int) (k4 : Int) (k5 : Int) (k6 : Int) (k7 : Int) : Rat :=
  ptH (L9r_q42 ct n1 d1) (L9r_q43 ct n1 d1)
  (List.getD ((fun x => k0 :: x) ((fun x => k1 :: x) ((fun x => k2 :: x) ((fun x => k3 :: x) ((fun x => k4 :: x) ((fun x => k5 :: x) ((fun x => k6 :: x) ((fun x => k7 :: x) [])))))))) (Int.toNat (0 : Int)) (0 : Int))
  (List.getD ((fun x => k0 :: x) ((fun x => k1 :: x) ((fun x => k2 :: x) ((fun x => k3 :: x) ((fun x => k4 :: x) ((fun x => k5 :: x) ((fun x => k6 :: x) ((fun x => k7 :: x) [])))))))) (Int.toNat (3 : Int)) (0 : Int))
noncomputable def L9r_q46 (ct : Nat → (Nat → Int) → Rel) (n1 : Nat) (d1 : Nat → Nat → DV) : Rat :=
  ratOf (Rel.b4 (ct n1 (intCell d1))) (Rel.b5 (ct n1 (intCell d1)))
noncomputable def L9r_q47 (ct : Nat → (Nat → Int) → Rel) (n1 : Nat) (d1 : Nat → Nat → DV) : Rat :=
  ratOf (Rel.b6 (ct n1 (intCell d1))) (Rel.b7 (ct n1 (intCell d1)))
noncomputable def L9r_q48 (ct : Nat → (Nat → Int) → Rel) (n1 : Nat) (d1 : Nat → Nat → DV) (k0 : Int) (k1 : Int) (k2 : Int) (k3 : Int) (k4 : Int) (k5 : Int) (k6 : Int) (k7 : Int) : Rat :=
  ptL (L9r_q46 ct n1 d1) (L9r_q47 ct n1 d1)
  (List.getD ((fun x => k0 :: x) ((fun x => k1 :: x) ((fun x => k2 :: x) ((fun x => k3 :: x) ((fun x => k4 :: x) ((fun x => k5 :: x) ((fun x => k6 :: x) ((fun x => k7 :: x) [])))))))) (Int.toNat (1 : Int)) (0 : Int))
  (List.getD ((fun x => k0 :: x) ((fun x => k1 :: x) ((fun x => k2 :: x) ((fun x => k3 :: x) ((fun x => k4 :: x) ((fun x => k5 :: x) ((fun x => k6 :: x) ((fun x => k7 :: x) [])))))))) (Int.toNat (4 : Int)) (0 : Int))
noncomputable def L9r_q49 (ct : Nat → (Nat → Int) → Rel) (n1 : Nat) (d1 : Nat → Nat → DV) (k0 : Int) (k1 : Int) (k2 : Int) (k3 : Int) (k4 : Int) (k5 : Int) (k6 : Int) (k7 : Int) : Rat :=
  ptH (L9r_q46 ct n1 d1) (L9r_q47 ct n1 d1)
  (List.getD ((fun x => k0 :: x) ((fun x => k1 :: x) ((fun x => k2 :: x) ((fun x => k3 :: x) ((fun x => k4 :: x) ((fun x => k5 :: x) ((fun x => k6 :: x) ((fun x => k7 :: x) [])))))))) (Int.toNat (1 : Int)) (0 : Int))
  (List.getD ((fun x => k0 :: x) ((fun x => k1 :: x) ((fun x => k2 :: x) ((fun x => k3 :: x) ((fun x => k4 :: x) ((fun x => k5 :: x) ((fun x => k6 :: x) ((fun x => k7 :: x) [])))))))) (Int.toNat (4 : Int)) (0 : Int))
noncomputable def L9r_q50 (ct : Nat → (Nat → Int) → Rel) (n1 : Nat) (d1 : Nat → Nat → DV) : Rat :=
  ratOf (Rel.b8 (ct n1 (intCell d1))) (Rel.b9 (ct n1 (intCell d1)))
noncomputable def L9r_q51 (ct : Nat → (Nat → Int) → Rel) (n1 : Nat) (d1 : Nat → Nat → DV) : Rat :=
  ratOf (Rel.b10 (ct n1 (intCell d1))) (Rel.b11 (ct n1 (intCell d1)))
noncomputable def L9r_q52 (ct : Nat → (Nat → Int) → Rel) (n1 : Nat) (d1 : Nat → Nat → DV) (k0 : Int) (k1 : Int) (k2 : Int) (k3 : Int) (k4 : Int) (k5 : Int) (k6 : Int) (k7 : Int) : Rat :=
  ptL (L9r_q50 ct n1 d1) (L9r_q51 ct n1 d1)
  (List.getD ((fun x => k0 :: x) ((fun x => k1 :: x) ((fun x => k2 :: x) ((fun x => k3 :: x) ((fun x => k4 :: x) ((fun x => k5 :: x) ((fun x => k6 :: x) ((fun x => k7 :: x) [])))))))) (Int.toNat (2 : Int)) (0 : Int))
  (List.getD ((fun x => k0 :: x) ((fun x => k1 :: x) ((fun x => k2 :: x) ((fun x => k3 :: x) ((fun x => k4 :: x) ((fun x => k5 :: x) ((fun x => k6 :: x) ((fun x => k7 :: x) [])))))))) (Int.toNat (5 : Int)) (0 : Int))
noncomputable def L9r_q53 (ct : Nat → (Nat → Int) → Rel) (n1 : Nat) (d1 : Nat → Nat → DV) (k0 : Int) (k1 : Int) (k2 : Int) (k3 : Int) (k4 : Int) (k5 : Int) (k6 : Int) (k7 : Int) : Rat :=
  ptH (L9r_q50 ct n1 d1) (L9r_q51 ct n1 d1)
  (List.getD ((fun x => k0 :: x) ((fun x => k1 :: x) ((fun x => k2 :: x) ((fun x => k3 :: x) ((fun x => k4 :: x) ((fun x => k5 :: x) ((fun x => k6 :: x) ((fun x => k7 :: x) [])))))))) (Int.toNat (2 : Int)) (0 : Int))
  (List.getD ((fun x => k0 :: x) ((fun x => k1 :: x) ((fun x => k2 :: x) ((fun x => k3 :: x) ((fun x => k4 :: x) ((fun x => k5 :: x) ((fun x => k6 :: x) ((fun x => k7 :: x) [])))))))) (Int.toNat (5 : Int)) (0 : Int))
noncomputable def L9r_q54 (ct : Nat → (Nat → Int) → Rel) (n1 : Nat) (d1 : Nat → Nat → DV) (k0 : Int) (k1 : Int) (k2 : Int) (k3 : Int) (k4 : Int) (k5 : Int) (k6 : Int) (k7 : Int) : Rat :=
  ptL (L9r_q42 ct n1 d1) (L9r_q43 ct n1 d1) (List.getD [k0, k1, k2, k3, k4, k5, k6, k7] (Int.toNat (0 : Int)) (0 : Int)) (List.getD [k0, k1, k2, k3, k4, k5, k6, k7] (Int.toNat (3 : Int)) (0 : Int))
noncomputable def L9r_q55 (ct : Nat → (Nat → Int) → Rel) (n1 : Nat) (d1 : Nat → Nat → DV) (k0 : Int) (k1 : Int) (k2 : Int) (k3 : Int) (k4 : Int) (k5 : Int) (k6 : Int) (k7 : Int) : Rat :=
  ptH (L9r_q42 ct n1 d1) (L9r_q43 ct n1 d1) (List.getD [k0, k1, k2, k3, k4, k5, k6, k7] (Int.toNat (0 : Int)) (0 : Int)) (List.getD [k0, k1, k2, k3, k4, k5, k6, k7] (Int.toNat (3 : Int)) (0 : Int))
noncomputable def L9r_q56 (ct : Nat → (Nat → Int) → Rel) (n1 : Nat) (d1 : Nat → Nat → DV) (k0 : Int) (k1 : Int) (k2 : Int) (k3 : Int) (k4 : Int) (k5 : Int) (k6 : Int) (k7 : Int) : Rat :=
  ptL (L9r_q46 ct n1 d1) (L9r_q47 ct n1 d1) (List.getD [k0, k1, k2, k3, k4, k5, k6, k7] (Int.toNat (1 : Int)) (0 : Int)) (List.getD [k0, k1, k2, k3, k4, k5, k6, k7] (Int.toNat (4 : Int)) (0 : Int))
noncomputable def L9r_q57 (ct : Nat → (Nat → Int) → Rel) (n1 : Nat) (d1 : Nat → Nat → DV) (k0 : Int) (k1 : Int) (k2 : Int) (k3 : Int) (k4 : Int) (k5 : Int) (k6 : Int) (k7 : Int) : Rat :=
  ptH (L9r_q46 ct n1 d1) (L9r_q47 ct n1 d1) (List.getD [k0, k1, k2, k3, k4, k5, k6, k7] (Int.toNat (1 : Int)) (0 : Int)) (List.getD [k0, k1, k2, k3, k4, k5, k6, k7] (Int.toNat (4 : Int)) (0 : Int))
noncomputable def L9r_q58 (ct : Nat → (Nat → Int) → Rel) (n1 : Nat) (d1 : Nat → Nat → DV) (k0 : Int) (k1 : Int) (k2 : Int) (k3 : Int) (k4 : Int) (k5 : Int) (k6 : Int) (k7 : Int) : Rat :=
  ptL (L9r_q50 ct n1 d1) (L9r_q51 ct n1 d1) (List.getD [k0, k1, k2, k3, k4, k5, k6, k7] (Int.toNat (2 : Int)) (0 : Int)) (List.getD [k0, k1, k2, k3, k4, k5, k6, k7] (Int.toNat (5 : Int)) (0 : Int))
noncomputable def L9r_q59 (ct : Nat → (Nat → Int) → Rel) (n1 : Nat) (d1 : Nat → Nat → DV) (k0 : Int) (k1 : Int) (k2 : Int) (k3 : Int) (k4 : Int) (k5 : Int) (k6 : Int) (k7 : Int) : Rat :=
  ptH (L9r_q50 ct n1 d1) (L9r_q51 ct n1 d1) (List.getD [k0, k1, k2, k3, k4, k5, k6, k7] (Int.toNat (2 : Int)) (0 : Int)) (List.getD [k0, k1, k2, k3, k4, k5, k6, k7] (Int.toNat (5 : Int)) (0 : Int))
noncomputable def L9r_q60 (ct : Nat → (Nat → Int) → Rel) (V : VT) (n1 : Nat) (d1 : Nat → Nat → DV) (k0 : Int) (k1 : Int) (k2 : Int) (k3 : Int) (k4 : Int) (k5 : Int) (k6 : Int) (k7 : Int) : Bool :=
  L9r_q41 ct V n1 d1 &&
  V
   [iv (Rel.no (ct n1 (intCell d1))), SV.d (DV.x (.int .u64 (Rel.prev (ct n1 (intCell d1))))), SV.d (DV.x (.int .u64 (Rel.src (ct n1 (intCell d1))))),
   SV.d (DV.x (.int .u64 (Rel.cir (ct n1 (intCell d1))))), SV.d (DV.ro (Rel.fn (ct n1 (intCell d1))) (1 : Nat) (L9r_q10 ct n1 d1)), iv (Rel.b0 (ct n1 (intCell d1))), iv (Rel.b1 (ct n1 (intCell d1))),
   iv (Rel.b2 (ct n1 (intCell d1))), iv (Rel.b3 (ct n1 (intCell d1))), iv (Rel.b4 (ct n1 (intCell d1))), iv (Rel.b5 (ct n1 (intCell d1))), iv (Rel.b6 (ct n1 (intCell d1))), iv (Rel.b7 (ct n1 (intCell d1))),
   iv (Rel.b8 (ct n1 (intCell d1))), iv (Rel.b9 (ct n1 (intCell d1))), iv (Rel.b10 (ct n1 (intCell d1))), iv (Rel.b11 (ct n1 (intCell d1))), iv (Rel.pn (ct n1 (intCell d1))), iv (Rel.pd (ct n1 (intCell d1))),
   SV.d (DV.x (.int .u64 (Rel.tag (ct n1 (intCell d1)))))]
   [iv (Rat.num (L9r_q54 ct n1 d1 k0 k1 k2 k3 k4 k5 k6 k7)), iv (↑(Rat.den (L9r_q54 ct n1 d1 k0 k1 k2 k3 k4 k5 k6 k7)) : Int), iv (Rat.num (L9r_q55 ct n1 d1 k0 k1 k2 k3 k4 k5 k6 k7)),
   iv (↑(Rat.den (L9r_q55 ct n1 d1 k0 k1 k2 k3 k4 k5 k6 k7)) : Int), iv (Rat.num (L9r_q56 ct n1 d1 k0 k1 k2 k3 k4 k5 k6 k7)), iv (↑(Rat.den (L9r_q56 ct n1 d1 k0 k1 k2 k3 k4 k5 k6 k7)) : Int),
   iv (Rat.num (L9r_q57 ct n1 d1 k0 k1 k2 k3 k4 k5 k6 k7)), iv (↑(Rat.den (L9r_q57 ct n1 d1 k0 k1 k2 k3 k4 k5 k6 k7)) : Int), iv (Rat.num (L9r_q58 ct n1 d1 k0 k1 k2 k3 k4 k5 k6 k7)),
   iv (↑(Rat.den (L9r_q58 ct n1 d1 k0 k1 k2 k3 k4 k5 k6 k7)) : Int), iv (Rat.num (L9r_q59 ct n1 d1 k0 k1 k2 k3 k4 k5 k6 k7)), iv (↑(Rat.den (L9r_q59 ct n1 d1 k0 k1 k2 k3 k4 k5 k6 k7)) : Int)]
   (rN (L9r_q20 ct n1 d1 k0 k1 k2 k3 k4 k5 k6 k7)) (rD (L9r_q20 ct n1 d1 k0 k1 k2 k3 k4 k5 k6 k7))
noncomputable def L9r_q61 (k0 : Int) (k1 : Int) (k2 : Int) (k3 : Int) (k4 : Int) (k5 : Int) (k6 : Int) (k7 : Int) : Rat :=
  mdQ (w64 ((1 : Int) + w64 (List.getD [k0, k1, k2, k3, k4, k5, k6, k7] (Int.toNat (7 : Int)) (0 : Int)))) (300 : Int)
noncomputable def L9r_q62 (k0 : Int) (k1 : Int) (k2 : Int) (k3 : Int) (k4 : Int) (k5 : Int) (k6 : Int) (k7 : Int) : Rat :=
  ratOf (Rat.num (L9r_q61 k0 k1 k2 k3 k4 k5 k6 k7)) (↑(Rat.den (L9r_q61 k0 k1 k2 k3 k4 k5 k6 k7)) : Int)
noncomputable def L9r_q63 (ct : Nat → (Nat → Int) → Rel) (n1 : Nat) (d1 : Nat → Nat → DV) (k0 : Int) (k1 : Int) (k2 : Int) (k3 : Int) (k4 : Int) (k5 : Int) (k6 : Int) (k7 : Int) : Rat :=
  L9r_q17 ct n1 d1 - L9r_q62 k0 k1 k2 k3 k4 k5 k6 k7
noncomputable def L9r (ct : Nat → (Nat → Int) → Rel) (F : FT) (V : VT) (n1 : Nat) (d1 : Nat → Nat → DV) (n2 : Nat) (d2 : Nat → Nat → DV) (k0 k1 k2 k3 k4 k5 k6 k7 : Int) : Tree SV :=
  .ite false (.ret (bv false))
  (.need (Byt n1 d1)
   (.need (Byt n2 d2)
   (.need ((0 : Int) ≤ (0 : Int) ∧ (0 : Int) < (8 : Int))
   (.need (0 < 8)
   (.need ((0 : Int) ≤ (1 : Int) ∧ (1 : Int) < (8 : Int))
   (.need (1 < 8)
   (.need ((0 : Int) ≤ (2 : Int) ∧ (2 : Int) < (8 : Int))
   (.need (2 < 8)
   (.need ((0 : Int) ≤ (3 : Int) ∧ (3 : Int) < (8 : Int))
   (.need (3 < 8)
   (.need ((0 : Int) ≤ (4 : Int) ∧ (4 : Int) < (8 : Int))
   (.need (4 < 8)
   (.need ((0 : Int) ≤ (5 : Int) ∧ (5 : Int) < (8 : Int))
   (.need (5 < 8)
   (.need
   ((SInt (Rat.num (L9r_q2 n2 d2)) (↑(Rat.den (L9r_q2 n2 d2)) : Int) (Rat.num (L9r_q3 n2 d2)) (↑(Rat.den (L9r_q3 n2 d2)) : Int) ∧
   SInt (Rat.num (L9r_q4 n2 d2)) (↑(Rat.den (L9r_q4 n2 d2)) : Int) (Rat.num (L9r_q5 n2 d2)) (↑(Rat.den (L9r_q5 n2 d2)) : Int) ∧
   SInt (Rat.num (L9r_q6 n2 d2)) (↑(Rat.den (L9r_q6 n2 d2)) : Int) (Rat.num (L9r_q7 n2 d2)) (↑(Rat.den (L9r_q7 n2 d2)) : Int)) ∧
   (((0 : Int) ≤ k0 ∧ k0 < (256 : Int)) ∧ ((0 : Int) ≤ k1 ∧ k1 < (256 : Int)) ∧ (0 : Int) ≤ k2 ∧ k2 < (256 : Int)) ∧
   ((0 : Int) ≤ k3 ∧ k3 < (256 : Int)) ∧ ((0 : Int) ≤ k4 ∧ k4 < (256 : Int)) ∧ (0 : Int) ≤ k5 ∧ k5 < (256 : Int))
   (.need ((0 : Int) ≤ (0 : Int) ∧ (0 : Int) < (8 : Int))
   (.need (0 < 8)
   (.need ((0 : Int) ≤ (1 : Int) ∧ (1 : Int) < (8 : Int))
   (.need (1 < 8)
   (.need ((0 : Int) ≤ (2 : Int) ∧ (2 : Int) < (8 : Int))
   (.need (2 < 8)
   (.need ((0 : Int) ≤ (3 : Int) ∧ (3 : Int) < (8 : Int))
   (.need (3 < 8)
   (.need ((0 : Int) ≤ (4 : Int) ∧ (4 : Int) < (8 : Int))
   (.need (4 < 8)
   (.need ((0 : Int) ≤ (5 : Int) ∧ (5 : Int) < (8 : Int))
   (.need (5 < 8)
   (.need
   ((SInt (Rel.b0 (ct n1 (intCell d1))) (Rel.b1 (ct n1 (intCell d1))) (Rel.b2 (ct n1 (intCell d1))) (Rel.b3 (ct n1 (intCell d1))) ∧
   SInt (Rel.b4 (ct n1 (intCell d1))) (Rel.b5 (ct n1 (intCell d1))) (Rel.b6 (ct n1 (intCell d1))) (Rel.b7 (ct n1 (intCell d1))) ∧
   SInt (Rel.b8 (ct n1 (intCell d1))) (Rel.b9 (ct n1 (intCell d1))) (Rel.b10 (ct n1 (intCell d1))) (Rel.b11 (ct n1 (intCell d1)))) ∧
   (((0 : Int) ≤ k0 ∧ k0 < (256 : Int)) ∧ ((0 : Int) ≤ k1 ∧ k1 < (256 : Int)) ∧ (0 : Int) ≤ k2 ∧ k2 < (256 : Int)) ∧
   ((0 : Int) ≤ k3 ∧ k3 < (256 : Int)) ∧ ((0 : Int) ≤ k4 ∧ k4 < (256 : Int)) ∧ (0 : Int) ≤ k5 ∧ k5 < (256 : Int))
   (.need ((0 : Int) ≤ (6 : Int) ∧ (6 : Int) < (8 : Int))
   (.need (6 < 8)
   (.need (I64 (w64 k6) ∧ I64 (7 : Int))
   (.need (VF (Rel.pn (ct n1 (intCell d1))) (Rel.pd (ct n1 (intCell d1))) ∧ VF (Rat.num (L9r_q8 k6)) (↑(Rat.den (L9r_q8 k6)) : Int))
   (.need ((0 : Int) ≤ (7 : Int) ∧ (7 : Int) < (8 : Int))
   (.need (7 < 8)
   (.need (I64 (w64 ((1 : Int) + w64 k7)) ∧ I64 (300 : Int))
   (.need (VF (Rel.pn (ct n1 (intCell d1))) (Rel.pd (ct n1 (intCell d1))) ∧ VF (Rat.num (L9r_q9 k7)) (↑(Rat.den (L9r_q9 k7)) : Int))
   (.need
   (relP
   [iv (Rel.no (ct n1 (intCell d1))), SV.d (DV.x (.int .u64 (Rel.prev (ct n1 (intCell d1))))),
   SV.d (DV.x (.int .u64 (Rel.src (ct n1 (intCell d1))))), SV.d (DV.x (.int .u64 (Rel.cir (ct n1 (intCell d1))))),
   SV.d (DV.ro (Rel.fn (ct n1 (intCell d1))) (1 : Nat) (L9r_q10 ct n1 d1)), iv (Rel.b0 (ct n1 (intCell d1))), iv (Rel.b1 (ct n1 (intCell d1))),
   iv (Rel.b2 (ct n1 (intCell d1))), iv (Rel.b3 (ct n1 (intCell d1))), iv (Rel.b4 (ct n1 (intCell d1))), iv (Rel.b5 (ct n1 (intCell d1))),
   iv (Rel.b6 (ct n1 (intCell d1))), iv (Rel.b7 (ct n1 (intCell d1))), iv (Rel.b8 (ct n1 (intCell d1))), iv (Rel.b9 (ct n1 (intCell d1))),
   iv (Rel.b10 (ct n1 (intCell d1))), iv (Rel.b11 (ct n1 (intCell d1))), iv (Rel.pn (ct n1 (intCell d1))), iv (Rel.pd (ct n1 (intCell d1))),
   SV.d (DV.x (.int .u64 (Rel.tag (ct n1 (intCell d1)))))] ∧
   bxP
   [iv (Rat.num (L9r_q11 n2 d2)), iv (↑(Rat.den (L9r_q11 n2 d2)) : Int), iv (Rat.num (L9r_q12 n2 d2)),
   iv (↑(Rat.den (L9r_q12 n2 d2)) : Int), iv (Rat.num (L9r_q13 n2 d2)), iv (↑(Rat.den (L9r_q13 n2 d2)) : Int),
   iv (Rat.num (L9r_q14 n2 d2)), iv (↑(Rat.den (L9r_q14 n2 d2)) : Int), iv (Rat.num (L9r_q15 n2 d2)),
   iv (↑(Rat.den (L9r_q15 n2 d2)) : Int), iv (Rat.num (L9r_q16 n2 d2)), iv (↑(Rat.den (L9r_q16 n2 d2)) : Int)])
   (.need
   (L9r_q21 ct V n1 d1 n2 d2 k0 k1 k2 k3 k4 k5 k6 k7 = true →
   relP
   [iv (Rel.no (ct n1 (intCell d1))), SV.d (DV.x (.int .u64 (Rel.prev (ct n1 (intCell d1))))),
   SV.d (DV.x (.int .u64 (Rel.src (ct n1 (intCell d1))))), SV.d (DV.x (.int .u64 (Rel.cir (ct n1 (intCell d1))))),
   SV.d (DV.ro (Rel.fn (ct n1 (intCell d1))) (1 : Nat) (L9r_q10 ct n1 d1)), iv (Rel.b0 (ct n1 (intCell d1))), iv (Rel.b1 (ct n1 (intCell d1))),
   iv (Rel.b2 (ct n1 (intCell d1))), iv (Rel.b3 (ct n1 (intCell d1))), iv (Rel.b4 (ct n1 (intCell d1))), iv (Rel.b5 (ct n1 (intCell d1))),
   iv (Rel.b6 (ct n1 (intCell d1))), iv (Rel.b7 (ct n1 (intCell d1))), iv (Rel.b8 (ct n1 (intCell d1))), iv (Rel.b9 (ct n1 (intCell d1))),
   iv (Rel.b10 (ct n1 (intCell d1))), iv (Rel.b11 (ct n1 (intCell d1))), iv (Rel.pn (ct n1 (intCell d1))), iv (Rel.pd (ct n1 (intCell d1))),
   SV.d (DV.x (.int .u64 (Rel.tag (ct n1 (intCell d1)))))] ∧
   bxP
   [iv (Rat.num (L9r_q24 n2 d2 k0 k1 k2 k3 k4 k5 k6 k7)), iv (↑(Rat.den (L9r_q24 n2 d2 k0 k1 k2 k3 k4 k5 k6 k7)) : Int),
   iv (Rat.num (L9r_q25 n2 d2 k0 k1 k2 k3 k4 k5 k6 k7)), iv (↑(Rat.den (L9r_q25 n2 d2 k0 k1 k2 k3 k4 k5 k6 k7)) : Int),
   iv (Rat.num (L9r_q28 n2 d2 k0 k1 k2 k3 k4 k5 k6 k7)), iv (↑(Rat.den (L9r_q28 n2 d2 k0 k1 k2 k3 k4 k5 k6 k7)) : Int),
   iv (Rat.num (L9r_q29 n2 d2 k0 k1 k2 k3 k4 k5 k6 k7)), iv (↑(Rat.den (L9r_q29 n2 d2 k0 k1 k2 k3 k4 k5 k6 k7)) : Int),
   iv (Rat.num (L9r_q32 n2 d2 k0 k1 k2 k3 k4 k5 k6 k7)), iv (↑(Rat.den (L9r_q32 n2 d2 k0 k1 k2 k3 k4 k5 k6 k7)) : Int),
   iv (Rat.num (L9r_q33 n2 d2 k0 k1 k2 k3 k4 k5 k6 k7)), iv (↑(Rat.den (L9r_q33 n2 d2 k0 k1 k2 k3 k4 k5 k6 k7)) : Int)])
   (.need
   (L9r_q40 ct V n1 d1 n2 d2 k0 k1 k2 k3 k4 k5 k6 k7 = false →
   relP
   [iv (Rel.no (ct n1 (intCell d1))), SV.d (DV.x (.int .u64 (Rel.prev (ct n1 (intCell d1))))),
   SV.d (DV.x (.int .u64 (Rel.src (ct n1 (intCell d1))))), SV.d (DV.x (.int .u64 (Rel.cir (ct n1 (intCell d1))))),
   SV.d (DV.ro (Rel.fn (ct n1 (intCell d1))) (1 : Nat) (L9r_q10 ct n1 d1)), iv (Rel.b0 (ct n1 (intCell d1))), iv (Rel.b1 (ct n1 (intCell d1))),
   iv (Rel.b2 (ct n1 (intCell d1))), iv (Rel.b3 (ct n1 (intCell d1))), iv (Rel.b4 (ct n1 (intCell d1))), iv (Rel.b5 (ct n1 (intCell d1))),
   iv (Rel.b6 (ct n1 (intCell d1))), iv (Rel.b7 (ct n1 (intCell d1))), iv (Rel.b8 (ct n1 (intCell d1))), iv (Rel.b9 (ct n1 (intCell d1))),
   iv (Rel.b10 (ct n1 (intCell d1))), iv (Rel.b11 (ct n1 (intCell d1))), iv (Rel.pn (ct n1 (intCell d1))), iv (Rel.pd (ct n1 (intCell d1))),
   SV.d (DV.x (.int .u64 (Rel.tag (ct n1 (intCell d1)))))] ∧
   bxP
   [iv (Rat.num (L9r_q11 n2 d2)), iv (↑(Rat.den (L9r_q11 n2 d2)) : Int), iv (Rat.num (L9r_q12 n2 d2)),
   iv (↑(Rat.den (L9r_q12 n2 d2)) : Int), iv (Rat.num (L9r_q13 n2 d2)), iv (↑(Rat.den (L9r_q13 n2 d2)) : Int),
   iv (Rat.num (L9r_q14 n2 d2)), iv (↑(Rat.den (L9r_q14 n2 d2)) : Int), iv (Rat.num (L9r_q15 n2 d2)),
   iv (↑(Rat.den (L9r_q15 n2 d2)) : Int), iv (Rat.num (L9r_q16 n2 d2)), iv (↑(Rat.den (L9r_q16 n2 d2)) : Int)])
   (.need
   (L9r_q40 ct V n1 d1 n2 d2 k0 k1 k2 k3 k4 k5 k6 k7 = false →
   relP
   [iv (Rel.no (ct n1 (intCell d1))), SV.d (DV.x (.int .u64 (Rel.prev (ct n1 (intCell d1))))),
   SV.d (DV.x (.int .u64 (Rel.src (ct n1 (intCell d1))))), SV.d (DV.x (.int .u64 (Rel.cir (ct n1 (intCell d1))))),
   SV.d (DV.ro (Rel.fn (ct n1 (intCell d1))) (1 : Nat) (L9r_q10 ct n1 d1)), iv (Rel.b0 (ct n1 (intCell d1))),
   iv (Rel.b1 (ct n1 (intCell d1))), iv (Rel.b2 (ct n1 (intCell d1))), iv (Rel.b3 (ct n1 (intCell d1))), iv (Rel.b4 (ct n1 (intCell d1))),
   iv (Rel.b5 (ct n1 (intCell d1))), iv (Rel.b6 (ct n1 (intCell d1))), iv (Rel.b7 (ct n1 (intCell d1))), iv (Rel.b8 (ct n1 (intCell d1))),
   iv (Rel.b9 (ct n1 (intCell d1))), iv (Rel.b10 (ct n1 (intCell d1))), iv (Rel.b11 (ct n1 (intCell d1))), iv (Rel.pn (ct n1 (intCell d1))),
   iv (Rel.pd (ct n1 (intCell d1))), SV.d (DV.x (.int .u64 (Rel.tag (ct n1 (intCell d1)))))] ∧
   bxP
   [iv (Rat.num (L9r_q11 n2 d2)), iv (↑(Rat.den (L9r_q11 n2 d2)) : Int), iv (Rat.num (L9r_q12 n2 d2)),
   iv (↑(Rat.den (L9r_q12 n2 d2)) : Int), iv (Rat.num (L9r_q13 n2 d2)), iv (↑(Rat.den (L9r_q13 n2 d2)) : Int),
   iv (Rat.num (L9r_q14 n2 d2)), iv (↑(Rat.den (L9r_q14 n2 d2)) : Int), iv (Rat.num (L9r_q15 n2 d2)),
   iv (↑(Rat.den (L9r_q15 n2 d2)) : Int), iv (Rat.num (L9r_q16 n2 d2)), iv (↑(Rat.den (L9r_q16 n2 d2)) : Int)])
   (.ite
   (L9r_q40 ct V n1 d1 n2 d2 k0 k1 k2 k3 k4 k5 k6 k7 ||
   !V
   [iv (Rel.no (ct n1 (intCell d1))), SV.d (DV.x (.int .u64 (Rel.prev (ct n1 (intCell d1))))),
   SV.d (DV.x (.int .u64 (Rel.src (ct n1 (intCell d1))))), SV.d (DV.x (.int .u64 (Rel.cir (ct n1 (intCell d1))))),
   SV.d (DV.ro (Rel.fn (ct n1 (intCell d1))) (1 : Nat) (L9r_q10 ct n1 d1)), iv (Rel.b0 (ct n1 (intCell d1))),
   iv (Rel.b1 (ct n1 (intCell d1))), iv (Rel.b2 (ct n1 (intCell d1))), iv (Rel.b3 (ct n1 (intCell d1))), iv (Rel.b4 (ct n1 (intCell d1))),
   iv (Rel.b5 (ct n1 (intCell d1))), iv (Rel.b6 (ct n1 (intCell d1))), iv (Rel.b7 (ct n1 (intCell d1))), iv (Rel.b8 (ct n1 (intCell d1))),
   iv (Rel.b9 (ct n1 (intCell d1))), iv (Rel.b10 (ct n1 (intCell d1))), iv (Rel.b11 (ct n1 (intCell d1))), iv (Rel.pn (ct n1 (intCell d1))),
   iv (Rel.pd (ct n1 (intCell d1))), SV.d (DV.x (.int .u64 (Rel.tag (ct n1 (intCell d1)))))]
   [iv (Rat.num (L9r_q11 n2 d2)), iv (↑(Rat.den (L9r_q11 n2 d2)) : Int), iv (Rat.num (L9r_q12 n2 d2)),
   iv (↑(Rat.den (L9r_q12 n2 d2)) : Int), iv (Rat.num (L9r_q13 n2 d2)), iv (↑(Rat.den (L9r_q13 n2 d2)) : Int),
   iv (Rat.num (L9r_q14 n2 d2)), iv (↑(Rat.den (L9r_q14 n2 d2)) : Int), iv (Rat.num (L9r_q15 n2 d2)),
   iv (↑(Rat.den (L9r_q15 n2 d2)) : Int), iv (Rat.num (L9r_q16 n2 d2)), iv (↑(Rat.den (L9r_q16 n2 d2)) : Int)]
   (Rel.pn (ct n1 (intCell d1))) (Rel.pd (ct n1 (intCell d1))) ==
   L9r_q21 ct V n1 d1 n2 d2 k0 k1 k2 k3 k4 k5 k6 k7)
   (.ret (bv false))
   (.need
   (relP
   [iv (Rel.no (ct n1 (intCell d1))), SV.d (DV.x (.int .u64 (Rel.prev (ct n1 (intCell d1))))),
   SV.d (DV.x (.int .u64 (Rel.src (ct n1 (intCell d1))))), SV.d (DV.x (.int .u64 (Rel.cir (ct n1 (intCell d1))))),
   SV.d (DV.ro (Rel.fn (ct n1 (intCell d1))) (1 : Nat) (L9r_q10 ct n1 d1)), iv (Rel.b0 (ct n1 (intCell d1))),
   iv (Rel.b1 (ct n1 (intCell d1))), iv (Rel.b2 (ct n1 (intCell d1))), iv (Rel.b3 (ct n1 (intCell d1))), iv (Rel.b4 (ct n1 (intCell d1))),
   iv (Rel.b5 (ct n1 (intCell d1))), iv (Rel.b6 (ct n1 (intCell d1))), iv (Rel.b7 (ct n1 (intCell d1))), iv (Rel.b8 (ct n1 (intCell d1))),
   iv (Rel.b9 (ct n1 (intCell d1))), iv (Rel.b10 (ct n1 (intCell d1))), iv (Rel.b11 (ct n1 (intCell d1))), iv (Rel.pn (ct n1 (intCell d1))),
   iv (Rel.pd (ct n1 (intCell d1))), SV.d (DV.x (.int .u64 (Rel.tag (ct n1 (intCell d1)))))] ∧
   bxP
   [iv (Rel.b0 (ct n1 (intCell d1))), iv (Rel.b1 (ct n1 (intCell d1))), iv (Rel.b2 (ct n1 (intCell d1))), iv (Rel.b3 (ct n1 (intCell d1))),
   iv (Rel.b4 (ct n1 (intCell d1))), iv (Rel.b5 (ct n1 (intCell d1))), iv (Rel.b6 (ct n1 (intCell d1))), iv (Rel.b7 (ct n1 (intCell d1))),
   iv (Rel.b8 (ct n1 (intCell d1))), iv (Rel.b9 (ct n1 (intCell d1))), iv (Rel.b10 (ct n1 (intCell d1))), iv (Rel.b11 (ct n1 (intCell d1)))])
   (.need
   (L9r_q41 ct V n1 d1 = true →
   relP
   [iv (Rel.no (ct n1 (intCell d1))), SV.d (DV.x (.int .u64 (Rel.prev (ct n1 (intCell d1))))),
   SV.d (DV.x (.int .u64 (Rel.src (ct n1 (intCell d1))))), SV.d (DV.x (.int .u64 (Rel.cir (ct n1 (intCell d1))))),
   SV.d (DV.ro (Rel.fn (ct n1 (intCell d1))) (1 : Nat) (L9r_q10 ct n1 d1)), iv (Rel.b0 (ct n1 (intCell d1))),
   iv (Rel.b1 (ct n1 (intCell d1))), iv (Rel.b2 (ct n1 (intCell d1))), iv (Rel.b3 (ct n1 (intCell d1))), iv (Rel.b4 (ct n1 (intCell d1))),
   iv (Rel.b5 (ct n1 (intCell d1))), iv (Rel.b6 (ct n1 (intCell d1))), iv (Rel.b7 (ct n1 (intCell d1))), iv (Rel.b8 (ct n1 (intCell d1))),
   iv (Rel.b9 (ct n1 (intCell d1))), iv (Rel.b10 (ct n1 (intCell d1))), iv (Rel.b11 (ct n1 (intCell d1))), iv (Rel.pn (ct n1 (intCell d1))),
   iv (Rel.pd (ct n1 (intCell d1))), SV.d (DV.x (.int .u64 (Rel.tag (ct n1 (intCell d1)))))] ∧
   bxP
   [iv (Rat.num (L9r_q44 ct n1 d1 k0 k1 k2 k3 k4 k5 k6 k7)), iv (↑(Rat.den (L9r_q44 ct n1 d1 k0 k1 k2 k3 k4 k5 k6 k7)) : Int),
   iv (Rat.num (L9r_q45 ct n1 d1 k0 k1 k2 k3 k4 k5 k6 k7)), iv (↑(Rat.den (L9r_q45 ct n1 d1 k0 k1 k2 k3 k4 k5 k6 k7)) : Int),
   iv (Rat.num (L9r_q48 ct n1 d1 k0 k1 k2 k3 k4 k5 k6 k7)), iv (↑(Rat.den (L9r_q48 ct n1 d1 k0 k1 k2 k3 k4 k5 k6 k7)) : Int),
   iv (Rat.num (L9r_q49 ct n1 d1 k0 k1 k2 k3 k4 k5 k6 k7)), iv (↑(Rat.den (L9r_q49 ct n1 d1 k0 k1 k2 k3 k4 k5 k6 k7)) : Int),
   iv (Rat.num (L9r_q52 ct n1 d1 k0 k1 k2 k3 k4 k5 k6 k7)), iv (↑(Rat.den (L9r_q52 ct n1 d1 k0 k1 k2 k3 k4 k5 k6 k7)) : Int),
   iv (Rat.num (L9r_q53 ct n1 d1 k0 k1 k2 k3 k4 k5 k6 k7)),
   iv (↑(Rat.den (L9r_q53 ct n1 d1 k0 k1 k2 k3 k4 k5 k6 k7)) : Int)])
   (.need
   (L9r_q60 ct V n1 d1 k0 k1 k2 k3 k4 k5 k6 k7 = true →
   relP
   [iv (Rel.no (ct n1 (intCell d1))), SV.d (DV.x (.int .u64 (Rel.prev (ct n1 (intCell d1))))),
   SV.d (DV.x (.int .u64 (Rel.src (ct n1 (intCell d1))))), SV.d (DV.x (.int .u64 (Rel.cir (ct n1 (intCell d1))))),
   SV.d (DV.ro (Rel.fn (ct n1 (intCell d1))) (1 : Nat) (L9r_q10 ct n1 d1)), iv (Rel.b0 (ct n1 (intCell d1))),
   iv (Rel.b1 (ct n1 (intCell d1))), iv (Rel.b2 (ct n1 (intCell d1))), iv (Rel.b3 (ct n1 (intCell d1))), iv (Rel.b4 (ct n1 (intCell d1))),
   iv (Rel.b5 (ct n1 (intCell d1))), iv (Rel.b6 (ct n1 (intCell d1))), iv (Rel.b7 (ct n1 (intCell d1))), iv (Rel.b8 (ct n1 (intCell d1))),
   iv (Rel.b9 (ct n1 (intCell d1))), iv (Rel.b10 (ct n1 (intCell d1))), iv (Rel.b11 (ct n1 (intCell d1))), iv (Rel.pn (ct n1 (intCell d1))),
   iv (Rel.pd (ct n1 (intCell d1))), SV.d (DV.x (.int .u64 (Rel.tag (ct n1 (intCell d1)))))] ∧
   bxP
   [iv (Rat.num (L9r_q44 ct n1 d1 k0 k1 k2 k3 k4 k5 k6 k7)),
   iv (↑(Rat.den (L9r_q44 ct n1 d1 k0 k1 k2 k3 k4 k5 k6 k7)) : Int),
   iv (Rat.num (L9r_q45 ct n1 d1 k0 k1 k2 k3 k4 k5 k6 k7)),
   iv (↑(Rat.den (L9r_q45 ct n1 d1 k0 k1 k2 k3 k4 k5 k6 k7)) : Int),
   iv (Rat.num (L9r_q48 ct n1 d1 k0 k1 k2 k3 k4 k5 k6 k7)),
   iv (↑(Rat.den (L9r_q48 ct n1 d1 k0 k1 k2 k3 k4 k5 k6 k7)) : Int),
   iv (Rat.num (L9r_q49 ct n1 d1 k0 k1 k2 k3 k4 k5 k6 k7)),
   iv (↑(Rat.den (L9r_q49 ct n1 d1 k0 k1 k2 k3 k4 k5 k6 k7)) : Int),
   iv (Rat.num (L9r_q52 ct n1 d1 k0 k1 k2 k3 k4 k5 k6 k7)),
   iv (↑(Rat.den (L9r_q52 ct n1 d1 k0 k1 k2 k3 k4 k5 k6 k7)) : Int),
   iv (Rat.num (L9r_q53 ct n1 d1 k0 k1 k2 k3 k4 k5 k6 k7)),
   iv (↑(Rat.den (L9r_q53 ct n1 d1 k0 k1 k2 k3 k4 k5 k6 k7)) : Int)])
   (.ret
   (bv
   (L9r_q60 ct V n1 d1 k0 k1 k2 k3 k4 k5 k6 k7 &&
   !V
   [iv (Rel.no (ct n1 (intCell d1))), SV.d (DV.x (.int .u64 (Rel.prev (ct n1 (intCell d1))))),
   SV.d (DV.x (.int .u64 (Rel.src (ct n1 (intCell d1))))), SV.d (DV.x (.int .u64 (Rel.cir (ct n1 (intCell d1))))),
   SV.d (DV.ro (Rel.fn (ct n1 (intCell d1))) (1 : Nat) (L9r_q10 ct n1 d1)), iv (Rel.b0 (ct n1 (intCell d1))),
   iv (Rel.b1 (ct n1 (intCell d1))), iv (Rel.b2 (ct n1 (intCell d1))), iv (Rel.b3 (ct n1 (intCell d1))), iv (Rel.b4 (ct n1 (intCell d1))),
   iv (Rel.b5 (ct n1 (intCell d1))), iv (Rel.b6 (ct n1 (intCell d1))), iv (Rel.b7 (ct n1 (intCell d1))), iv (Rel.b8 (ct n1 (intCell d1))),
   iv (Rel.b9 (ct n1 (intCell d1))), iv (Rel.b10 (ct n1 (intCell d1))), iv (Rel.b11 (ct n1 (intCell d1))),
   iv (Rel.pn (ct n1 (intCell d1))), iv (Rel.pd (ct n1 (intCell d1))), SV.d (DV.x (.int .u64 (Rel.tag (ct n1 (intCell d1)))))]
   [iv (Rat.num (L9r_q54 ct n1 d1 k0 k1 k2 k3 k4 k5 k6 k7)),
   iv (↑(Rat.den (L9r_q54 ct n1 d1 k0 k1 k2 k3 k4 k5 k6 k7)) : Int),
   iv (Rat.num (L9r_q55 ct n1 d1 k0 k1 k2 k3 k4 k5 k6 k7)),
   iv (↑(Rat.den (L9r_q55 ct n1 d1 k0 k1 k2 k3 k4 k5 k6 k7)) : Int),
   iv (Rat.num (L9r_q56 ct n1 d1 k0 k1 k2 k3 k4 k5 k6 k7)),
   iv (↑(Rat.den (L9r_q56 ct n1 d1 k0 k1 k2 k3 k4 k5 k6 k7)) : Int),
   iv (Rat.num (L9r_q57 ct n1 d1 k0 k1 k2 k3 k4 k5 k6 k7)),
   iv (↑(Rat.den (L9r_q57 ct n1 d1 k0 k1 k2 k3 k4 k5 k6 k7)) : Int),
   iv (Rat.num (L9r_q58 ct n1 d1 k0 k1 k2 k3 k4 k5 k6 k7)),
   iv (↑(Rat.den (L9r_q58 ct n1 d1 k0 k1 k2 k3 k4 k5 k6 k7)) : Int),
   iv (Rat.num (L9r_q59 ct n1 d1 k0 k1 k2 k3 k4 k5 k6 k7)),
   iv (↑(Rat.den (L9r_q59 ct n1 d1 k0 k1 k2 k3 k4 k5 k6 k7)) : Int)]
   (rN (L9r_q63 ct n1 d1 k0 k1 k2 k3 k4 k5 k6 k7)) (rD (L9r_q63 ct n1 d1 k0 k1 k2 k3 k4 k5 k6 k7)) &&
   true)))))))))))))))))))))))))))))))))))))))))))))))

theorem L9r_eq (ct : Nat → (Nat → Int) → Rel) (F : FT) (V : VT) (n1 : Nat) (d1 : Nat → Nat → DV) (n2 : Nat) (d2 : Nat → Nat → DV) (k0 k1 k2 k3 k4 k5 k6 k7 : Int) : TUl ct F V .nil 9 [.d (.ro n1 1 d1), .d (.ro n2 1 d2), .agg [.d (.x (.int .u8 k0)), .d (.x (.int .u8 k1)), .d (.x (.int .u8 k2)), .d (.x (.int .u8 k3)), .d (.x (.int .u8 k4)), .d (.x (.int .u8 k5)), .d (.x (.int .u8 k6)), .d (.x (.int .u8 k7))]] = L9r ct F V n1 d1 n2 d2 k0 k1 k2 k3 k4 k5 k6 k7 := by kernel_rfl

end Go.Proofs.Ytpaejfeojdoikaa

namespace Go.Proofs.Ytpaejfeojdoikaa
open Go.Sx
set_option maxRecDepth 100000

/-! ### Covers -/
theorem cCvG_ok : CtrOK Try.prog 43 (cCvG cvL) := by
  refine ctrOK_leS CQ_ok DQ_ok (by kernel_rfl) (by kernel_rfl) fun ss r h => ?_
  unfold cCvG at h
  split at h
  · rename_i l m p q
    obtain ⟨⟨h1, a0, a1, a2, a3, b0, b1, b2, b3, c0, c1, c2, c3, rfl⟩, rfl⟩ := h
    obtain ⟨h3, h4⟩ := relP_le h1
    refine ⟨[.agg (relL (relR l)), .agg [iv a0, iv a1, iv a2, iv a3, iv b0, iv b1, iv b2, iv b3, iv c0, iv c1, iv c2, iv c3], .agg [iv p, iv q]], 200, .nil, ?_, Sat.of_eq (LCv_eq (relR l) a0 a1 a2 a3 b0 b1 b2 b3 c0 c1 c2 c3 p q) ⟨?_⟩⟩
    · simp only [leSVs, leSV, iv, and_true]
      refine ⟨h3, ?_⟩
      simp [leD]
    · unfold LCv
      have e : cvL l [iv a0, iv a1, iv a2, iv a3, iv b0, iv b1, iv b2, iv b3, iv c0, iv c1, iv c2, iv c3] p q = cvB (relR l) a0 a1 a2 a3 b0 b1 b2 b3 c0 c1 c2 c3 p q := rfl
      rw [e]
      refine ⟨⟨by decide, fun i hi => absurd hi (Nat.not_lt_zero _)⟩, fun h => ?_, fun h => ?_, rfl⟩
      · unfold LCv_q1 vdB cdB viB at h
        simp only [Bool.and_eq_true, vB_iff, decide_eq_true_eq] at h
        obtain ⟨⟨⟨⟨⟨⟨⟨⟨g1, g2⟩, _⟩, ⟨g3, g4⟩, _⟩, ⟨g5, g6⟩, _⟩, _⟩, _⟩, _⟩, ⟨⟨⟨f1, f2⟩, _⟩, ⟨f3, f4⟩, _⟩, ⟨f5, f6⟩, _⟩ := h
        exact ⟨⟨f1, f2, f3, f4, f5, f6⟩, ⟨g1, g2, g3, g4, g5, g6⟩⟩
      · unfold LCv_q14 LCv_q1 vdB cdB viB at h
        simp only [Bool.and_eq_true, vB_iff, decide_eq_true_eq] at h
        obtain ⟨⟨⟨⟨⟨⟨_, g7⟩, _⟩, _⟩, _⟩, _⟩, f7⟩ := h
        exact ⟨f7, g7⟩
  · exact h.elim
theorem manUl_ok (k : Nat) (c : Ctr) (h : manUl ctR FM cvL k = some c) : CtrOK Try.prog k c ∧ goodF Try.prog k = true := by
  unfold manUl at h
  split at h
  · cases h; exact ⟨cCvG_ok, by kernel_rfl⟩
  · exact manRl_ok _ _ h
theorem CUl_ok : CtxOK Try.prog (CUl ctR FM cvL) := ctxO_ok mixed manUl_ok ownL_ok 6
theorem DUl_ok : DrOK Try.prog (CUl ctR FM cvL) (DUl ctR FM cvL) := drawn_ok CUl_ok mixed
structure LawU (k : Nat) (ss : List SV) : Prop where
  ok : ∃ h, (TUl ctR FM cvL h k ss).sat Try.prog (· = bv true)
theorem law_ctrU {k : Nat} {okA : List SV → Prop} (hf : (Try.prog.funcs[k]?).isSome = true) (hb : (fnOf Try.prog k).body.isSome = true) (h : ∀ ss, okA ss → ∃ ss', leSVs 0 [] [] ss ss' ∧ LawU k ss') :
    ∃ c : Ctr, CtrOK Try.prog k c ∧ ∀ ss, okA ss → (c ss).ev (bv true) := by
  refine ⟨fun ss => .need (okA ss) (.ret (bv true)), ?_, fun ss hs => ⟨hs, rfl⟩⟩
  refine ctrOK_leS CUl_ok DUl_ok hf hb fun ss r hr => ?_
  obtain ⟨h1, rfl⟩ := hr
  obtain ⟨ss', h2, h3⟩ := h ss h1
  obtain ⟨hint, h4⟩ := h3.ok
  exact ⟨ss', 200, hint, h2, ⟨h4⟩⟩

/-- Whether a release's conditions cover others, by their values. -/
noncomputable def cvQ (l0 h0 l1 h1 l2 h2 per x0 y0 x1 y1 x2 y2 p : Rat) : Bool :=
  decide (x0 ≤ y0) && decide (x1 ≤ y1) && decide (x2 ≤ y2) && (wiB x0 y0 l0 h0 && wiB x1 y1 l1 h1 && wiB x2 y2 l2 h2) && decide (per ≤ p)
theorem cvL_of {n : Nat} {cell : Nat → Nat → DV} (hb : Byt n cell) {x0 y0 x1 y1 x2 y2 p : Rat} (f0 : fitsR x0) (g0 : fitsR y0) (f1 : fitsR x1) (g1 : fitsR y1) (f2 : fitsR x2) (g2 : fitsR y2) (fp : fitsR p) {l : List SV} (hl : relR l = ctR n (intCell cell)) :
    cvL l [iv x0.num, iv x0.den, iv y0.num, iv y0.den, iv x1.num, iv x1.den, iv y1.num, iv y1.den, iv x2.num, iv x2.den, iv y2.num, iv y2.den] p.num p.den = cvQ (loQ n (intCell cell) 0) (hiQ n (intCell cell) 0) (loQ n (intCell cell) 1) (hiQ n (intCell cell) 1) (loQ n (intCell cell) 2) (hiQ n (intCell cell) 2) (ratOf (1 + at8 n (intCell cell) 2) (1 + at8 n (intCell cell) 3 % 6)) x0 y0 x1 y1 x2 y2 p := by
  have e : cvL l [iv x0.num, iv x0.den, iv y0.num, iv y0.den, iv x1.num, iv x1.den, iv y1.num, iv y1.den, iv x2.num, iv x2.den, iv y2.num, iv y2.den] p.num p.den = cvB (relR l) x0.num x0.den y0.num y0.den x1.num x1.den y1.num y1.den x2.num x2.den y2.num y2.den p.num p.den := rfl
  rw [e, hl]
  obtain ⟨e1, e2, e3⟩ := ct_per hb
  have hv : vdB { ctR n (intCell cell) with fn := 0, fc := fun i => 0 } = true := by
    have := ct_vd hb
    unfold vdB at this ⊢
    simp only [Bool.and_eq_true, decide_eq_true_eq] at this ⊢
    exact ⟨this.1, by decide⟩
  unfold cvB LCv_q14 LCv_q1
  have hv : vdB (Rel.mk (ctR n (intCell cell)).no (ctR n (intCell cell)).prev (ctR n (intCell cell)).src (ctR n (intCell cell)).cir 0 (fun i => 0) (ctR n (intCell cell)).b0 (ctR n (intCell cell)).b1 (ctR n (intCell cell)).b2 (ctR n (intCell cell)).b3 (ctR n (intCell cell)).b4 (ctR n (intCell cell)).b5 (ctR n (intCell cell)).b6 (ctR n (intCell cell)).b7 (ctR n (intCell cell)).b8 (ctR n (intCell cell)).b9 (ctR n (intCell cell)).b10 (ctR n (intCell cell)).b11 (ctR n (intCell cell)).pn (ctR n (intCell cell)).pd (ctR n (intCell cell)).tag) = true := hv
  rw [hv]
  have q2 : LCv_q2 x0.num x0.den = x0 := ratOf_rat _
  have q3 : LCv_q3 y0.num y0.den = y0 := ratOf_rat _
  have q6 : LCv_q6 x1.num x1.den = x1 := ratOf_rat _
  have q7 : LCv_q7 y1.num y1.den = y1 := ratOf_rat _
  have q10 : LCv_q10 x2.num x2.den = x2 := ratOf_rat _
  have q11 : LCv_q11 y2.num y2.den = y2 := ratOf_rat _
  have q4 : LCv_q4 (ctR n (intCell cell)) = loQ n (intCell cell) 0 := ratOf_rat _
  have q5 : LCv_q5 (ctR n (intCell cell)) = hiQ n (intCell cell) 0 := ratOf_rat _
  have q8 : LCv_q8 (ctR n (intCell cell)) = loQ n (intCell cell) 1 := ratOf_rat _
  have q9 : LCv_q9 (ctR n (intCell cell)) = hiQ n (intCell cell) 1 := ratOf_rat _
  have q12 : LCv_q12 (ctR n (intCell cell)) = loQ n (intCell cell) 2 := ratOf_rat _
  have q13 : LCv_q13 (ctR n (intCell cell)) = hiQ n (intCell cell) 2 := ratOf_rat _
  have qp : ratOf (ctR n (intCell cell)).pn (ctR n (intCell cell)).pd = ratOf (1 + at8 n (intCell cell) 2) (1 + at8 n (intCell cell) 3 % 6) := (ratOf_rat _).trans e1
  rw [q2, q3, q4, q5, q6, q7, q8, q9, q10, q11, q12, q13, qp, ratOf_rat, cmpR_ge]
  unfold viB cvQ
  rw [vB_of f0, vB_of g0, vB_of f1, vB_of g1, vB_of f2, vB_of g2, vB_of fp]
  simp only [ratOf_rat, Bool.true_and, Bool.and_true]
end Go.Proofs.Ytpaejfeojdoikaa

