/- Part of a proof of the given statements of this seat (SxFlRl, SxFlRm, SxFlRn, SxFlRo, SxFlRp, SxFlRr, SxFlRq, SxFlRs, SxFlRt, SxFlRu, SxFlRv, SxFlRw, SxFlRx, SxFlRy, SxFlRz, SxFlSa, SxFlSb, SxFlSc, SxFlG6): no conditions beyond those typed here. -/
import Derived.Test.YtpaejfeojdoikaaSy10
import Derived.Test.YtpaejfeojdoikaaRows
import Derived.Test.YtpaejfeojdoikaaChecked
set_option linter.unusedVariables false
set_option linter.unusedSimpArgs false

namespace Go.Proofs.Ytpaejfeojdoikaa
open Go.Sx
set_option maxRecDepth 100000
set_option pp.structureInstances false

noncomputable def manP : FuncId → Option Ctr := fun k => match k with
  | 153 => some cIdx
  | 35 => some cSe
  | 102 => some cNx
  | 101 => some cNi
  | k => manO k
theorem manP_ok (k : Nat) (c : Ctr) (h : manP k = some c) : CtrOK Try.prog k c ∧ goodF Try.prog k = true := by
  unfold manP at h
  split at h
  · cases h; exact ⟨cIdx_ok, by kernel_rfl⟩
  · cases h; exact ⟨cSe_ok, by kernel_rfl⟩
  · cases h; exact ⟨cNx_ok, by kernel_rfl⟩
  · cases h; exact ⟨cNi_ok, by kernel_rfl⟩
  · exact manO_ok _ _ h
noncomputable def CP : Ctx := ctxO Try.prog manP ownL (fun k => k == 106) 200 .nil 6
theorem CP_ok : CtxOK Try.prog CP := ctxO_ok mixed manP_ok ownL_ok 6
noncomputable def DP : Dr := fun _ => drawn Try.prog CP
theorem DP_ok : DrOK Try.prog CP DP := drawn_ok CP_ok mixed
noncomputable def TP (h : Hint) (k : Nat) (args : List SV) : Tree SV := fnT Try.prog CP DP 200 (fnOf Try.prog k) (bodyOf Try.prog k) args h
noncomputable def LFd_q1 (f : Nat → Rel) (i : Nat) (j : Nat) : DV :=
  relD (f i) j
noncomputable def LFd_q2 (n : Nat) (f : Nat → Rel) (no : Int) (i : Nat) (x : Nat) : DV :=
  DV.x (.int .u64 (Rel.fc (f (Int.toNat (idxV n (relC (LFd_q1 f)) no))) i))
noncomputable def LFd (n : Nat) (f : Nat → Rel) (no : Int) : Tree SV :=
  .need (ChC n (LFd_q1 f))
  (.ite (decide (idxV n (fun i => f i) no < (0 : Int)))
   (.ret
   (SV.agg
   [iv (0 : Int), SV.d (DV.x (.int .u64 (0 : Int))), SV.d (DV.x (.int .u64 (0 : Int))), SV.d (DV.x (.int .u64 (0 : Int))), SV.d (DV.x (.slice none 0 0)), iv (0 : Int),
   iv (0 : Int), iv (0 : Int), iv (0 : Int), iv (0 : Int), iv (0 : Int), iv (0 : Int), iv (0 : Int), iv (0 : Int), iv (0 : Int), iv (0 : Int), iv (0 : Int), iv (0 : Int), iv (0 : Int), SV.d (DV.x (.int .u64 (0 : Int))),
   iv (4 : Int)]))
   (.need ((0 : Int) ≤ idxV n (fun i => f i) no ∧ idxV n (fun i => f i) no < (↑n : Int))
   (.ret
   (SV.agg
   [iv (Rel.no (f (Int.toNat (idxV n (relC (LFd_q1 f)) no)))), SV.d (DV.x (.int .u64 (Rel.prev (f (Int.toNat (idxV n (relC (LFd_q1 f)) no)))))),
   SV.d (DV.x (.int .u64 (Rel.src (f (Int.toNat (idxV n (relC (LFd_q1 f)) no)))))), SV.d (DV.x (.int .u64 (Rel.cir (f (Int.toNat (idxV n (relC (LFd_q1 f)) no)))))),
   SV.d (DV.ro (Rel.fn (f (Int.toNat (idxV n (relC (LFd_q1 f)) no)))) 1 (LFd_q2 n f no)), iv (Rel.b0 (f (Int.toNat (idxV n (relC (LFd_q1 f)) no)))),
   iv (Rel.b1 (f (Int.toNat (idxV n (relC (LFd_q1 f)) no)))), iv (Rel.b2 (f (Int.toNat (idxV n (relC (LFd_q1 f)) no)))), iv (Rel.b3 (f (Int.toNat (idxV n (relC (LFd_q1 f)) no)))),
   iv (Rel.b4 (f (Int.toNat (idxV n (relC (LFd_q1 f)) no)))), iv (Rel.b5 (f (Int.toNat (idxV n (relC (LFd_q1 f)) no)))), iv (Rel.b6 (f (Int.toNat (idxV n (relC (LFd_q1 f)) no)))),
   iv (Rel.b7 (f (Int.toNat (idxV n (relC (LFd_q1 f)) no)))), iv (Rel.b8 (f (Int.toNat (idxV n (relC (LFd_q1 f)) no)))), iv (Rel.b9 (f (Int.toNat (idxV n (relC (LFd_q1 f)) no)))),
   iv (Rel.b10 (f (Int.toNat (idxV n (relC (LFd_q1 f)) no)))), iv (Rel.b11 (f (Int.toNat (idxV n (relC (LFd_q1 f)) no)))), iv (Rel.pn (f (Int.toNat (idxV n (relC (LFd_q1 f)) no)))),
   iv (Rel.pd (f (Int.toNat (idxV n (relC (LFd_q1 f)) no)))), SV.d (DV.x (.int .u64 (Rel.tag (f (Int.toNat (idxV n (relC (LFd_q1 f)) no)))))), iv (0 : Int)]))))

theorem LFd_eq (n : Nat) (f : Nat → Rel) (no : Int) : TP .nil 37 [.d (chD n f), iv no] = LFd n f no := by kernel_rfl

noncomputable def tCt (n : Nat) (c : Nat → Int) : Tree SV := TP .nil 33 [.d (.ro n 1 fun i _ => .x (.int .u8 (c i)))]
noncomputable def LCt4 (n : Nat) (c : Nat → Int) : Tree SV :=
  .need ((Byt n fun i x => DV.x (.int .u8 (c i))) ∧ (0 : Int) ≤ (0 : Int))
  (.need ((Byt n fun i x => DV.x (.int .u8 (c i))) ∧ (0 : Int) ≤ (1 : Int))
   (.need (Byt n fun i x => DV.x (.int .u8 (c i)))
   (.need ((Byt n fun i x => DV.x (.int .u8 (c i))) ∧ (0 : Int) ≤ (2 : Int))
   (.need ((Byt n fun i x => DV.x (.int .u8 (c i))) ∧ (0 : Int) ≤ (3 : Int))
   (.need ((6 : Int) ≠ (0 : Int))
   (.need (I64 (w64 ((1 : Int) + at8 n (fun i => c i) (2 : Int))) ∧ I64 (w64 ((1 : Int) + Int.tmod (at8 n (fun i => c i) (3 : Int)) (6 : Int))))
   (.code (codeC (sub [(0 : Nat), (0 : Nat), (0 : Nat), (0 : Nat), (0 : Nat), (0 : Nat), (0 : Nat)] (tCt n c))) (codeS (sub [(0 : Nat), (0 : Nat), (0 : Nat), (0 : Nat), (0 : Nat), (0 : Nat), (0 : Nat)] (tCt n c)))
   (codeK (sub [(0 : Nat), (0 : Nat), (0 : Nat), (0 : Nat), (0 : Nat), (0 : Nat), (0 : Nat)] (tCt n c))))))))))

theorem LCt4_eq (n : Nat) (c : Nat → Int) : tCt n c = LCt4 n c := by kernel_rfl

/-! Content -/
noncomputable def ctR (n : Nat) (c : Nat → Int) : Rel := ⟨0, 0, IntKind.wrap .u64 (at8 n c 0), IntKind.wrap .u64 (at8 n c 1), (Int.tmod (at8 n c 4) 4).toNat, fun i => IntKind.wrap .u64 (at8 n c (5 + i)),
  (loQ n c 0).num, (loQ n c 0).den, (hiQ n c 0).num, (hiQ n c 0).den, (loQ n c 1).num, (loQ n c 1).den, (hiQ n c 1).num, (hiQ n c 1).den, (loQ n c 2).num, (loQ n c 2).den, (hiQ n c 2).num, (hiQ n c 2).den,
  (mdQ (w64 (1 + at8 n c 2)) (w64 (1 + Int.tmod (at8 n c 3) 6))).num, (mdQ (w64 (1 + at8 n c 2)) (w64 (1 + Int.tmod (at8 n c 3) 6))).den, 0⟩
def zeroL : List SV := [iv 0, u64v 0, u64v 0, u64v 0, .d (.x (.slice none 0 0)), iv 0, iv 0, iv 0, iv 0, iv 0, iv 0, iv 0, iv 0, iv 0, iv 0, iv 0, iv 0, iv 0, iv 0, u64v 0]
def relLf (r : Rel) (s : SV) : List SV := [iv r.no, u64v r.prev, u64v r.src, u64v r.cir, s, iv r.b0, iv r.b1, iv r.b2, iv r.b3, iv r.b4, iv r.b5, iv r.b6, iv r.b7, iv r.b8, iv r.b9, iv r.b10, iv r.b11, iv r.pn, iv r.pd, u64v r.tag]
def ro8' (n : Nat) (c : Nat → Int) : SV := .d (.ro n 1 fun i _ => .x (.int .u8 (c i)))
noncomputable def entCt (n : Nat) (c : Nat → Int) : AS := ⟨[.ok (ro8' n c), .unk, .ok (.ptr 0 0), .ok (.ptr 1 0), .ok (iv 0)] ++ List.replicate 35 .unk, [some (.cells zeroL), some (.cells (relLf (ctR n c) (.d (.x (.slice none 0 0))))), none], 3, .nil⟩
theorem ECt_eq (n : Nat) (c : Nat → Int) : entA 3 [] [0, 2, 3, 4] [2] 3 .nil (sub [0, 0, 0, 0, 0, 0, 0] (tCt n c)) = some (entCt n c) := by kernel_rfl
noncomputable def invCt (n : Nat) (c : Nat → Int) (r : Rel) (k : Nat) (v : Nat → Int) : AS := ⟨[.ok (ro8' n c), .unk, .ok (.ptr 0 0), .ok (.ptr 1 0), .ok (iv k)] ++ List.replicate 35 .unk, [some (.cells zeroL), some (.cells (relLf r (.row 3 0 0 k 1))), none, some (.row k 1 fun i _ => .x (.int .u64 (v i)))], 4, .nil⟩
noncomputable def bodyCt : Code := loopN (bodyOf Try.prog 33) 0
noncomputable def rtCt : List (Root × Nat) := [(.cell (.base 1) 4, 3)]
noncomputable def BCt (n : Nat) (c : Nat → Int) (r : Rel) (k : Nat) (v : Nat → Int) : Tree (Ex × AS) :=
  .need ((Byt n fun i x => DV.x (.int .u8 (c i))) ∧ (0 : Int) ≤ (4 : Int))
  (.need ((4 : Int) ≠ (0 : Int))
   (.ite (decide ((↑k : Int) < Int.tmod (at8 n (fun i => c i) (4 : Int)) (4 : Int)))
   (.need ((Byt n fun i x => DV.x (.int .u8 (c i))) ∧ (0 : Int) ≤ w64 ((5 : Int) + (↑k : Int)))
   (.need (0 + k ≤ k ∧ 1 ≤ List.length [SV.d (DV.x (.int .u64 (IntKind.wrap .u64 (at8 n (fun i => c i) (w64 ((5 : Int) + (↑k : Int)))))))] ∧ (k + 1) * 8 ≤ 140737488355328)
   (.ret
   (.normal,
   AS.mk
   [.ok (SV.d (DV.ro n 1 fun i x => DV.x (.int .u8 (c i)))), .unk, .ok (SV.ptr 0 0), .ok (SV.ptr 1 0), .ok (iv (w64 ((↑k : Int) + (1 : Int)))), .unk,
   .unk, .unk, .unk, .unk, .unk, .unk, .unk, .unk, .unk, .unk, .unk, .unk, .unk, .unk, .unk, .unk, .unk, .unk, .unk, .unk, .unk, .unk, .unk, .unk, .unk, .unk, .unk,
   .unk, .unk, .unk, .unk, .unk, .unk, .unk]
   [some
   (.cells
   [iv (0 : Int), SV.d (DV.x (.int .u64 (0 : Int))), SV.d (DV.x (.int .u64 (0 : Int))), SV.d (DV.x (.int .u64 (0 : Int))), SV.d (DV.x (.slice none 0 0)),
   iv (0 : Int), iv (0 : Int), iv (0 : Int), iv (0 : Int), iv (0 : Int), iv (0 : Int), iv (0 : Int), iv (0 : Int), iv (0 : Int), iv (0 : Int), iv (0 : Int), iv (0 : Int), iv (0 : Int), iv (0 : Int),
   SV.d (DV.x (.int .u64 (0 : Int)))]),
   some
   (.cells
   [iv (Rel.no r), SV.d (DV.x (.int .u64 (Rel.prev r))), SV.d (DV.x (.int .u64 (Rel.src r))), SV.d (DV.x (.int .u64 (Rel.cir r))),
   SV.row 3 0 0 (k + 1) 1, iv (Rel.b0 r), iv (Rel.b1 r), iv (Rel.b2 r), iv (Rel.b3 r), iv (Rel.b4 r), iv (Rel.b5 r), iv (Rel.b6 r), iv (Rel.b7 r), iv (Rel.b8 r),
   iv (Rel.b9 r), iv (Rel.b10 r), iv (Rel.b11 r), iv (Rel.pn r), iv (Rel.pd r), SV.d (DV.x (.int .u64 (Rel.tag r)))]),
   none,
   some
   (.row (k + 1) 1 fun a b =>
   selD (decide (a < k)) (DV.x (.int .u64 (v ((0 : Nat) + a))))
   (dsAt [DV.x (.int .u64 (IntKind.wrap .u64 (at8 n (fun i => c i) (w64 ((5 : Int) + (↑k : Int))))))] (0 + (0 + (a - k)) * 1 + b)))]
   4 .nil))))
   (.ret
   (.exit 0,
   AS.mk
   [.ok (SV.d (DV.ro n 1 fun i x => DV.x (.int .u8 (c i)))), .unk, .ok (SV.ptr 0 0), .ok (SV.ptr 1 0), .ok (iv (↑k : Int)), .unk, .unk, .unk, .unk,
   .unk, .unk, .unk, .unk, .unk, .unk, .unk, .unk, .unk, .unk, .unk, .unk, .unk, .unk, .unk, .unk, .unk, .unk, .unk, .unk, .unk, .unk, .unk, .unk, .unk, .unk, .unk, .unk,
   .unk, .unk, .unk]
   [some
   (.cells
   [iv (0 : Int), SV.d (DV.x (.int .u64 (0 : Int))), SV.d (DV.x (.int .u64 (0 : Int))), SV.d (DV.x (.int .u64 (0 : Int))), SV.d (DV.x (.slice none 0 0)),
   iv (0 : Int), iv (0 : Int), iv (0 : Int), iv (0 : Int), iv (0 : Int), iv (0 : Int), iv (0 : Int), iv (0 : Int), iv (0 : Int), iv (0 : Int), iv (0 : Int), iv (0 : Int), iv (0 : Int), iv (0 : Int),
   SV.d (DV.x (.int .u64 (0 : Int)))]),
   some
   (.cells
   [iv (Rel.no r), SV.d (DV.x (.int .u64 (Rel.prev r))), SV.d (DV.x (.int .u64 (Rel.src r))), SV.d (DV.x (.int .u64 (Rel.cir r))), SV.row 3 0 0 k 1,
   iv (Rel.b0 r), iv (Rel.b1 r), iv (Rel.b2 r), iv (Rel.b3 r), iv (Rel.b4 r), iv (Rel.b5 r), iv (Rel.b6 r), iv (Rel.b7 r), iv (Rel.b8 r), iv (Rel.b9 r), iv (Rel.b10 r), iv (Rel.b11 r), iv (Rel.pn r), iv (Rel.pd r),
   SV.d (DV.x (.int .u64 (Rel.tag r)))]),
   none, some (.row k 1 fun i x => DV.x (.int .u64 (v i)))]
   4 .nil))))

theorem BCt_eq (n : Nat) (c : Nat → Int) (r : Rel) (k : Nat) (v : Nat → Int) : cutT 3 rtCt [0, 2, 3, 4] [2] 4 .nil (exec Try.prog CP DP 200 bodyCt (invCt n c r k v)) = BCt n c r k v := by kernel_rfl

noncomputable def KCt (n : Nat) (c : Nat → Int) (r : Rel) (k : Nat) (v : Nat → Int) : Tree SV :=
  .need (0 + k ≤ k)
  (.ret
   (SV.agg
   [iv (Rel.no r), SV.d (DV.x (.int .u64 (Rel.prev r))), SV.d (DV.x (.int .u64 (Rel.src r))), SV.d (DV.x (.int .u64 (Rel.cir r))),
   SV.d (DV.ro k 1 fun i j => DV.x (.int .u64 (v ((0 : Nat) + i)))), iv (Rel.b0 r), iv (Rel.b1 r), iv (Rel.b2 r), iv (Rel.b3 r), iv (Rel.b4 r), iv (Rel.b5 r), iv (Rel.b6 r), iv (Rel.b7 r), iv (Rel.b8 r),
   iv (Rel.b9 r), iv (Rel.b10 r), iv (Rel.b11 r), iv (Rel.pn r), iv (Rel.pd r), SV.d (DV.x (.int .u64 (Rel.tag r)))]))

theorem KCt_eq (n : Nat) (c : Nat → Int) (r : Rel) (k : Nat) (v : Nat → Int) : codeK (sub [0, 0, 0, 0, 0, 0, 0] (tCt n c)) (.exit 0) (invCt n c r k v) = KCt n c r k v := by kernel_rfl


end Go.Proofs.Ytpaejfeojdoikaa

namespace Go.Proofs.Ytpaejfeojdoikaa
open Go.Sx
set_option maxRecDepth 100000

theorem tmod4 {n : Nat} {c : Nat → Int} (hb : Byt n fun i _ => .x (.int .u8 (c i))) (i : Int) {m : Int} (hm : 0 < m) : 0 ≤ Int.tmod (at8 n c i) m ∧ Int.tmod (at8 n c i) m < m := by
  have h := at8_ro hb i
  have h : 0 ≤ at8 n c i ∧ at8 n c i < 256 := h
  rw [Int.tmod_eq_emod_of_nonneg h.1]
  exact ⟨Int.emod_nonneg _ (by omega), Int.emod_lt_of_pos _ hm⟩
theorem ct_fn {n : Nat} {c : Nat → Int} (hb : Byt n fun i _ => .x (.int .u8 (c i))) : (ctR n c).fn < 4 := by
  have := tmod4 hb 4 (m := 4) (by decide)
  show (Int.tmod (at8 n c 4) 4).toNat < 4
  omega
theorem ct_body {n : Nat} {c : Nat → Int} {k : Nat} (hk : k < 4) (i : Nat) (hi : i < k + 1) :
    selD (decide (i < k)) (DV.x (.int .u64 ((ctR n c).fc i))) (dsAt [DV.x (.int .u64 (IntKind.wrap .u64 (at8 n c (w64 (5 + (k : Int))))))] (i - k)) = DV.x (.int .u64 ((ctR n c).fc i)) := by
  rw [selD_if]
  by_cases h : i < k
  · rw [if_pos h]
  · rw [if_neg h]
    obtain rfl : i = k := by omega
    rw [Nat.sub_self, w64_of (n := 5 + (i : Int)) (by omega) (by omega)]
    rfl

set_option maxHeartbeats 1000000 in
theorem ct_sat {n : Nat} {c : Nat → Int} (hb : Byt n fun i _ => .x (.int .u8 (c i))) : Sat Try.prog (tCt n c) fun x => leSV 0 [] [] x (.agg (relL (ctR n c))) := by
  constructor
  rw [LCt4_eq]; unfold LCt4
  have a2 : 0 ≤ at8 n c 2 ∧ at8 n c 2 < 256 := at8_ro hb 2
  have a3 := tmod4 hb 3 (m := 6) (by decide)
  have i1 : I64 (w64 (1 + at8 n c 2)) := by rw [w64_of (by omega) (by omega)]; exact ⟨by omega, by omega⟩
  have i2 : I64 (w64 (1 + Int.tmod (at8 n c 3) 6)) := by rw [w64_of (by omega) (by omega)]; exact ⟨by omega, by omega⟩
  refine ⟨⟨hb, by decide⟩, ⟨hb, by decide⟩, hb, ⟨hb, by decide⟩, ⟨hb, by decide⟩, by decide, ⟨i1, i2⟩, ?_⟩
  have hfn := ct_fn hb
  have a4 := tmod4 hb 4 (m := 4) (by decide)
  have e4 : ((ctR n c).fn : Int) = Int.tmod (at8 n c 4) 4 := Int.toNat_of_nonneg a4.1
  refine code_satS CP_ok DP_ok (n := 200) (n0 := 3) (nx := 4) (roots := rtCt) (keep := [0, 2, 3, 4]) (drop := [2]) (h := .nil) (c := codeC (sub [0, 0, 0, 0, 0, 0, 0] (tCt n c))) (st := codeS (sub [0, 0, 0, 0, 0, 0, 0] (tCt n c))) (k := codeK (sub [0, 0, 0, 0, 0, 0, 0] (tCt n c))) (body := bodyCt) (by kernel_rfl) (by kernel_rfl)
    (fun q s => ∃ k : Nat, q = (ctR n c).fn - k ∧ k ≤ (ctR n c).fn ∧ s = invCt n c (ctR n c) k (ctR n c).fc)
    (fun e s => e = .exit 0 ∧ s = invCt n c (ctR n c) (ctR n c).fn (ctR n c).fc)
    ⟨_, _, ⟨0, rfl, by omega, rfl⟩, (entA_sound (ECt_eq n c)).trans ?_⟩ ?_ ?_
  · refine gc_sound [] [3] rfl ?_ ?_
    · simp [entCt, invCt, leTm, leTV, leSV, leSVs, rn, iv, leD, List.replicate, ro8']
    · simp [entCt, invCt, leHp, leBlk, leSVs, leSV, rn, iv, leD, srcOf, hget, relLf, zeroL, u64v]
  · rintro q s ⟨k, rfl, hk, rfl⟩
    refine Sat.of_eq (BCt_eq n c (ctR n c) k _) ?_
    constructor
    unfold BCt
    refine ⟨⟨hb, by decide⟩, by decide, fun hc => ?_, fun hc => ?_⟩
    · have hc : k < (ctR n c).fn := by simp only [decide_eq_true_eq] at hc; have : (k : Int) < Int.tmod (at8 n c 4) 4 := hc; omega
      have ew : w64 (5 + (k : Int)) = 5 + k := w64_of (by omega) (by omega)
      refine ⟨⟨hb, by rw [ew]; omega⟩, ⟨by omega, by simp, by omega⟩, (ctR n c).fn - (k + 1), _, by omega, ⟨k + 1, rfl, by omega, rfl⟩, ?_⟩
      rw [w64_of (n := (k : Int) + 1) (by omega) (by omega)]
      refine gc_sound [(3, 3)] [] rfl ?_ ?_
      · simp [invCt, leTm, leTV, leSV, leSVs, rn, iv, leD, List.replicate, ro8']
      · simp [invCt, leHp, leBlk, leSVs, leSV, rn, iv, leD, srcOf, hget, relLf, zeroL, u64v]
        intro i hi
        simpa using ct_body (n := n) (c := c) (k := k) (by omega) i (by omega)
    · have hc : k = (ctR n c).fn := by
        simp only [decide_eq_false_iff_not] at hc
        have : ¬ ((k : Int) < Int.tmod (at8 n c 4) 4) := hc
        omega
      rw [hc]
      exact ⟨_, ⟨rfl, rfl⟩, Gc.refl _ _⟩
  · rintro e s ⟨rfl, rfl⟩
    refine Sat.of_eq (KCt_eq n c (ctR n c) (ctR n c).fn _) ⟨?_⟩
    unfold KCt
    refine ⟨by omega, ?_⟩
    simp only [Tree.sat, relL, leSV, leSVs, u64v, iv, rou64, and_true]
    simp [leD]

noncomputable def cCt : Ctr := fun ss => match ss with
  | [.d d] => match rowD 1 d with
    | some (n, cell) => .need (Byt n cell) (.ret (.agg (relL (ctR n (intCell cell)))))
    | none => .fail
  | _ => .fail
theorem cCt_ok : CtrOK Try.prog 33 cCt := by
  refine ctrOK_leR CP_ok DP_ok (by kernel_rfl) (by kernel_rfl) fun ss r h => ?_
  unfold cCt at h
  split at h
  · rename_i d
    split at h
    · rename_i n cell hr
      obtain ⟨h1, rfl⟩ := h
      have k := ct_sat (byt_ro h1)
      refine ⟨[.d (.ro n 1 fun i _ => .x (.int .u8 (intCell cell i)))], 200, .nil, ?_, ?_⟩
      · simp only [leSVs, leSV, and_true]
        exact rowD_le hr (le_ro8 h1)
      · exact k
    · exact h.elim
  · exact h.elim

/-! ### found -/
def zR : Rel := ⟨0, 0, 0, 0, 0, fun _ => 0, 0, 0, 0, 0, 0, 0, 0, 0, 0, 0, 0, 0, 0, 0, 0⟩
def fiR (n : Nat) (f : Nat → Rel) (no : Int) : Rel := bif decide (idxV n f no < 0) then zR else f (idxV n f no).toNat
def fiE (n : Nat) (f : Nat → Rel) (no : Int) : Int := bif decide (idxV n f no < 0) then 4 else 0
theorem idx_lt {n : Nat} {f : Nat → Rel} {no : Int} (h : ¬ idxV n f no < 0) : 0 ≤ idxV n f no ∧ idxV n f no < n := by
  unfold idxV at h ⊢
  split at h
  · omega
  · rename_i hp
    rw [if_neg hp]
    rcases posF_spec (f := f) (no := no) (n := n) n 0 (by omega) with ⟨h1, _⟩ | ⟨_, h2, _⟩
    · exact absurd h1 hp
    · omega
noncomputable def cFd : Ctr := fun ss => match ss with
  | [.d d, .d (.x (.int .i64 no))] => match rowD 20 d with
    | some (n, cell) => .need (ChC n cell) (.ret (.agg [iv (fiR n (relC cell) no).no, u64v (fiR n (relC cell) no).prev, u64v (fiR n (relC cell) no).src, u64v (fiR n (relC cell) no).cir, rou64 (fiR n (relC cell) no).fn (fiR n (relC cell) no).fc, iv (fiR n (relC cell) no).b0, iv (fiR n (relC cell) no).b1, iv (fiR n (relC cell) no).b2, iv (fiR n (relC cell) no).b3, iv (fiR n (relC cell) no).b4, iv (fiR n (relC cell) no).b5, iv (fiR n (relC cell) no).b6, iv (fiR n (relC cell) no).b7, iv (fiR n (relC cell) no).b8, iv (fiR n (relC cell) no).b9, iv (fiR n (relC cell) no).b10, iv (fiR n (relC cell) no).b11, iv (fiR n (relC cell) no).pn, iv (fiR n (relC cell) no).pd, u64v (fiR n (relC cell) no).tag, iv (fiE n (relC cell) no)]))
    | none => .fail
  | _ => .fail
theorem fd_sat {n : Nat} {f : Nat → Rel} {no : Int} (hn : n ≤ 1000000) (hf : ∀ i, i < n → (f i).fn ≤ 1000000) : Sat Try.prog (LFd n f no) fun x => leSV 0 [] [] x (.agg [iv (fiR n f no).no, u64v (fiR n f no).prev, u64v (fiR n f no).src, u64v (fiR n f no).cir, rou64 (fiR n f no).fn (fiR n f no).fc, iv (fiR n f no).b0, iv (fiR n f no).b1, iv (fiR n f no).b2, iv (fiR n f no).b3, iv (fiR n f no).b4, iv (fiR n f no).b5, iv (fiR n f no).b6, iv (fiR n f no).b7, iv (fiR n f no).b8, iv (fiR n f no).b9, iv (fiR n f no).b10, iv (fiR n f no).b11, iv (fiR n f no).pn, iv (fiR n f no).pd, u64v (fiR n f no).tag, iv (fiE n f no)]) := by
  constructor
  unfold LFd
  refine ⟨ChC.self hn hf, fun h => ?_, fun h => ?_⟩
  · have h : decide (idxV n f no < 0) = true := h
    have e1 : fiR n f no = zR := by unfold fiR; rw [h]; rfl
    have e2 : fiE n f no = 4 := by unfold fiE; rw [h]; rfl
    rw [e1, e2]
    simp only [Tree.sat, leSV, leSVs, u64v, iv, rou64, zR, and_true]
    simp [leD]
  · have h : decide (idxV n f no < 0) = false := h
    have e1 : fiR n f no = f (idxV n f no).toNat := by unfold fiR; rw [h]; rfl
    have e2 : fiE n f no = 0 := by unfold fiE; rw [h]; rfl
    rw [e1, e2]
    have g := idx_lt (of_decide_eq_false h)
    refine ⟨g, ?_⟩
    simp only [Tree.sat, leSV, leSVs, u64v, iv, rou64, and_true]
    refine ⟨?_, ?_, ?_, ?_, ?_, ?_, ?_, ?_, ?_, ?_, ?_, ?_, ?_, ?_, ?_, ?_, ?_, ?_, ?_, ?_, ?_⟩
    all_goals first | exact rfl | exact ⟨rfl, rfl, fun i j _ _ => rfl⟩
theorem cFd_ok : CtrOK Try.prog 37 cFd := by
  refine ctrOK_leR CP_ok DP_ok (by kernel_rfl) (by kernel_rfl) fun ss r h => ?_
  unfold cFd at h
  split at h
  · rename_i d no
    split at h
    · rename_i n cell hr
      obtain ⟨h1, rfl⟩ := h
      have k := fd_sat (no := no) h1.1 h1.fn
      refine ⟨[.d (chD n (relC cell)), iv no], 200, .nil, ?_, ?_⟩
      · simp only [leSVs, leSV, iv, and_true]
        exact ⟨h1.le hr, by simp [leD]⟩
      · exact Sat.of_eq (LFd_eq n (relC cell) no) k
    · exact h.elim
  · exact h.elim
end Go.Proofs.Ytpaejfeojdoikaa

namespace Go.Proofs.Ytpaejfeojdoikaa
open Go.Sx
set_option maxRecDepth 100000
set_option pp.structureInstances false

noncomputable def cCtG (ct : Nat → (Nat → Int) → Rel) : Ctr := fun ss => match ss with
  | [.d d] => match rowD 1 d with
    | some (n, cell) => .need (Byt n cell) (.ret (.agg (relL (ct n (intCell cell)))))
    | none => .fail
  | _ => .fail
theorem cCtG_ok : CtrOK Try.prog 33 (cCtG ctR) := cCt_ok
noncomputable def manQ (ct : Nat → (Nat → Int) → Rel) : FuncId → Option Ctr := fun k => match k with
  | 33 => some (cCtG ct)
  | 37 => some cFd
  | k => manP k
theorem manQ_ok (k : Nat) (c : Ctr) (h : manQ ctR k = some c) : CtrOK Try.prog k c ∧ goodF Try.prog k = true := by
  unfold manQ at h
  split at h
  · cases h; exact ⟨cCtG_ok, by kernel_rfl⟩
  · cases h; exact ⟨cFd_ok, by kernel_rfl⟩
  · exact manP_ok _ _ h
noncomputable def CQ (ct : Nat → (Nat → Int) → Rel) : Ctx := ctxO Try.prog (manQ ct) ownL (fun k => k == 109) 200 .nil 6
theorem CQ_ok : CtxOK Try.prog (CQ ctR) := ctxO_ok mixed manQ_ok ownL_ok 6
noncomputable def DQ (ct : Nat → (Nat → Int) → Rel) : Dr := fun _ => drawn Try.prog (CQ ct)
theorem DQ_ok : DrOK Try.prog (CQ ctR) (DQ ctR) := drawn_ok CQ_ok mixed
noncomputable def TQ (ct : Nat → (Nat → Int) → Rel) (h : Hint) (k : Nat) (args : List SV) : Tree SV := fnT Try.prog (CQ ct) (DQ ct) 200 (fnOf Try.prog k) (bodyOf Try.prog k) args h
/-- A list of lists of bytes. -/
def bbD (m : Nat) (ln : Nat → Nat) (c : Nat → Nat → Nat → DV) : DV := .ro m 1 fun i _ => .ro (ln i) 1 (c i)
noncomputable def tChn (ct : Nat → (Nat → Int) → Rel) (key : Int) (m : Nat) (ln : Nat → Nat) (c : Nat → Nat → Nat → DV) : Tree SV := TQ ct .nil 32 [u64v key, .d (bbD m ln c)]
noncomputable def LChn (ct : Nat → (Nat → Int) → Rel) (key : Int) (m : Nat) (ln : Nat → Nat) (c : Nat → Nat → Nat → DV) : Tree SV :=
  .code (codeC (sub [] (tChn ct key m ln c))) (codeS (sub [] (tChn ct key m ln c))) (codeK (sub [] (tChn ct key m ln c)))

theorem LChn_eq (ct : Nat → (Nat → Int) → Rel) (key : Int) (m : Nat) (ln : Nat → Nat) (c : Nat → Nat → Nat → DV) : tChn ct key m ln c = LChn ct key m ln c := by kernel_rfl

noncomputable def inv0Chn (key : Int) (m : Nat) (ln : Nat → Nat) (c : Nat → Nat → Nat → DV) : AS := ⟨[.ok (u64v key), .ok (.d (bbD m ln c)), .unk, .unk, .unk, .ok (.row 0 0 0 0 20), .ok (iv 0)] ++ List.replicate 26 .unk, [some (.cells [])], 1, .nil⟩
noncomputable def invChn (key : Int) (m : Nat) (ln : Nat → Nat) (c : Nat → Nat → Nat → DV) (k : Nat) (f : Nat → Rel) : AS := ⟨[.ok (u64v key), .ok (.d (bbD m ln c)), .unk, .unk, .unk, .ok (.d (chD k f)), .ok (iv k)] ++ List.replicate 26 .unk, [none], 1, .nil⟩
noncomputable def bodyChn : Code := loopN (bodyOf Try.prog 32) 0
noncomputable def BChn0_q1 (ct : Nat → (Nat → Int) → Rel) (ln : Nat → Nat) (c : Nat → Nat → Nat → DV) (i : Nat) (x : Nat) : DV :=
  DV.x (.int .u64 (Rel.fc (ct (ln (Int.toNat (0 : Int))) (intCell (c (Int.toNat (0 : Int))))) i))
noncomputable def BChn0_q2 (ln : Nat → Nat) (c : Nat → Nat → Nat → DV) (i : Nat) (x : Nat) : DV :=
  DV.ro (ln i) 1 (c i)
noncomputable def BChn0_q3 (ct : Nat → (Nat → Int) → Rel) (ln : Nat → Nat) (c : Nat → Nat → Nat → DV) (i : Nat) : Int :=
  Rel.fc (ct (ln (Int.toNat (0 : Int))) (intCell (c (Int.toNat (0 : Int))))) i
noncomputable def BChn0_q4 (ct : Nat → (Nat → Int) → Rel) (key : Int) (ln : Nat → Nat) (c : Nat → Nat → Nat → DV) (i : Nat) (j : Nat) : DV :=
  relD
  (Rel.mk
   (Rel.no
   (Rel.mk (1 : Int) (0 : Int) (Rel.src (ct (ln (Int.toNat (0 : Int))) (intCell (c (Int.toNat (0 : Int)))))) (Rel.cir (ct (ln (Int.toNat (0 : Int))) (intCell (c (Int.toNat (0 : Int))))))
   (Rel.fn (ct (ln (Int.toNat (0 : Int))) (intCell (c (Int.toNat (0 : Int)))))) (BChn0_q3 ct ln c) (Rel.b0 (ct (ln (Int.toNat (0 : Int))) (intCell (c (Int.toNat (0 : Int))))))
   (Rel.b1 (ct (ln (Int.toNat (0 : Int))) (intCell (c (Int.toNat (0 : Int)))))) (Rel.b2 (ct (ln (Int.toNat (0 : Int))) (intCell (c (Int.toNat (0 : Int)))))) (Rel.b3 (ct (ln (Int.toNat (0 : Int))) (intCell (c (Int.toNat (0 : Int))))))
   (Rel.b4 (ct (ln (Int.toNat (0 : Int))) (intCell (c (Int.toNat (0 : Int)))))) (Rel.b5 (ct (ln (Int.toNat (0 : Int))) (intCell (c (Int.toNat (0 : Int)))))) (Rel.b6 (ct (ln (Int.toNat (0 : Int))) (intCell (c (Int.toNat (0 : Int))))))
   (Rel.b7 (ct (ln (Int.toNat (0 : Int))) (intCell (c (Int.toNat (0 : Int)))))) (Rel.b8 (ct (ln (Int.toNat (0 : Int))) (intCell (c (Int.toNat (0 : Int)))))) (Rel.b9 (ct (ln (Int.toNat (0 : Int))) (intCell (c (Int.toNat (0 : Int))))))
   (Rel.b10 (ct (ln (Int.toNat (0 : Int))) (intCell (c (Int.toNat (0 : Int)))))) (Rel.b11 (ct (ln (Int.toNat (0 : Int))) (intCell (c (Int.toNat (0 : Int)))))) (Rel.pn (ct (ln (Int.toNat (0 : Int))) (intCell (c (Int.toNat (0 : Int))))))
   (Rel.pd (ct (ln (Int.toNat (0 : Int))) (intCell (c (Int.toNat (0 : Int)))))) (Rel.tag (ct (ln (Int.toNat (0 : Int))) (intCell (c (Int.toNat (0 : Int))))))))
   (Rel.prev
   (Rel.mk (1 : Int) (0 : Int) (Rel.src (ct (ln (Int.toNat (0 : Int))) (intCell (c (Int.toNat (0 : Int)))))) (Rel.cir (ct (ln (Int.toNat (0 : Int))) (intCell (c (Int.toNat (0 : Int))))))
   (Rel.fn (ct (ln (Int.toNat (0 : Int))) (intCell (c (Int.toNat (0 : Int)))))) (BChn0_q3 ct ln c) (Rel.b0 (ct (ln (Int.toNat (0 : Int))) (intCell (c (Int.toNat (0 : Int))))))
   (Rel.b1 (ct (ln (Int.toNat (0 : Int))) (intCell (c (Int.toNat (0 : Int)))))) (Rel.b2 (ct (ln (Int.toNat (0 : Int))) (intCell (c (Int.toNat (0 : Int)))))) (Rel.b3 (ct (ln (Int.toNat (0 : Int))) (intCell (c (Int.toNat (0 : Int))))))
   (Rel.b4 (ct (ln (Int.toNat (0 : Int))) (intCell (c (Int.toNat (0 : Int)))))) (Rel.b5 (ct (ln (Int.toNat (0 : Int))) (intCell (c (Int.toNat (0 : Int)))))) (Rel.b6 (ct (ln (Int.toNat (0 : Int))) (intCell (c (Int.toNat (0 : Int))))))
   (Rel.b7 (ct (ln (Int.toNat (0 : Int))) (intCell (c (Int.toNat (0 : Int)))))) (Rel.b8 (ct (ln (Int.toNat (0 : Int))) (intCell (c (Int.toNat (0 : Int)))))) (Rel.b9 (ct (ln (Int.toNat (0 : Int))) (intCell (c (Int.toNat (0 : Int))))))
   (Rel.b10 (ct (ln (Int.toNat (0 : Int))) (intCell (c (Int.toNat (0 : Int)))))) (Rel.b11 (ct (ln (Int.toNat (0 : Int))) (intCell (c (Int.toNat (0 : Int)))))) (Rel.pn (ct (ln (Int.toNat (0 : Int))) (intCell (c (Int.toNat (0 : Int))))))
   (Rel.pd (ct (ln (Int.toNat (0 : Int))) (intCell (c (Int.toNat (0 : Int)))))) (Rel.tag (ct (ln (Int.toNat (0 : Int))) (intCell (c (Int.toNat (0 : Int))))))))
   (Rel.src
   (Rel.mk (1 : Int) (0 : Int) (Rel.src (ct (ln (Int.toNat (0 : Int))) (intCell (c (Int.toNat (0 : Int)))))) (Rel.cir (ct (ln (Int.toNat (0 : Int))) (intCell (c (Int.toNat (0 : Int))))))
   (Rel.fn (ct (ln (Int.toNat (0 : Int))) (intCell (c (Int.toNat (0 : Int)))))) (BChn0_q3 ct ln c) (Rel.b0 (ct (ln (Int.toNat (0 : Int))) (intCell (c (Int.toNat (0 : Int))))))
   (Rel.b1 (ct (ln (Int.toNat (0 : Int))) (intCell (c (Int.toNat (0 : Int)))))) (Rel.b2 (ct (ln (Int.toNat (0 : Int))) (intCell (c (Int.toNat (0 : Int)))))) (Rel.b3 (ct (ln (Int.toNat (0 : Int))) (intCell (c (Int.toNat (0 : Int))))))
   (Rel.b4 (ct (ln (Int.toNat (0 : Int))) (intCell (c (Int.toNat (0 : Int)))))) (Rel.b5 (ct (ln (Int.toNat (0 : Int))) (intCell (c (Int.toNat (0 : Int)))))) (Rel.b6 (ct (ln (Int.toNat (0 : Int))) (intCell (c (Int.toNat (0 : Int))))))
   (Rel.b7 (ct (ln (Int.toNat (0 : Int))) (intCell (c (Int.toNat (0 : Int)))))) (Rel.b8 (ct (ln (Int.toNat (0 : Int))) (intCell (c (Int.toNat (0 : Int)))))) (Rel.b9 (ct (ln (Int.toNat (0 : Int))) (intCell (c (Int.toNat (0 : Int))))))
   (Rel.b10 (ct (ln (Int.toNat (0 : Int))) (intCell (c (Int.toNat (0 : Int)))))) (Rel.b11 (ct (ln (Int.toNat (0 : Int))) (intCell (c (Int.toNat (0 : Int)))))) (Rel.pn (ct (ln (Int.toNat (0 : Int))) (intCell (c (Int.toNat (0 : Int))))))
   (Rel.pd (ct (ln (Int.toNat (0 : Int))) (intCell (c (Int.toNat (0 : Int)))))) (Rel.tag (ct (ln (Int.toNat (0 : Int))) (intCell (c (Int.toNat (0 : Int))))))))
   (Rel.cir
   (Rel.mk (1 : Int) (0 : Int) (Rel.src (ct (ln (Int.toNat (0 : Int))) (intCell (c (Int.toNat (0 : Int)))))) (Rel.cir (ct (ln (Int.toNat (0 : Int))) (intCell (c (Int.toNat (0 : Int))))))
   (Rel.fn (ct (ln (Int.toNat (0 : Int))) (intCell (c (Int.toNat (0 : Int)))))) (BChn0_q3 ct ln c) (Rel.b0 (ct (ln (Int.toNat (0 : Int))) (intCell (c (Int.toNat (0 : Int))))))
   (Rel.b1 (ct (ln (Int.toNat (0 : Int))) (intCell (c (Int.toNat (0 : Int)))))) (Rel.b2 (ct (ln (Int.toNat (0 : Int))) (intCell (c (Int.toNat (0 : Int)))))) (Rel.b3 (ct (ln (Int.toNat (0 : Int))) (intCell (c (Int.toNat (0 : Int))))))
   (Rel.b4 (ct (ln (Int.toNat (0 : Int))) (intCell (c (Int.toNat (0 : Int)))))) (Rel.b5 (ct (ln (Int.toNat (0 : Int))) (intCell (c (Int.toNat (0 : Int)))))) (Rel.b6 (ct (ln (Int.toNat (0 : Int))) (intCell (c (Int.toNat (0 : Int))))))
   (Rel.b7 (ct (ln (Int.toNat (0 : Int))) (intCell (c (Int.toNat (0 : Int)))))) (Rel.b8 (ct (ln (Int.toNat (0 : Int))) (intCell (c (Int.toNat (0 : Int)))))) (Rel.b9 (ct (ln (Int.toNat (0 : Int))) (intCell (c (Int.toNat (0 : Int))))))
   (Rel.b10 (ct (ln (Int.toNat (0 : Int))) (intCell (c (Int.toNat (0 : Int)))))) (Rel.b11 (ct (ln (Int.toNat (0 : Int))) (intCell (c (Int.toNat (0 : Int)))))) (Rel.pn (ct (ln (Int.toNat (0 : Int))) (intCell (c (Int.toNat (0 : Int))))))
   (Rel.pd (ct (ln (Int.toNat (0 : Int))) (intCell (c (Int.toNat (0 : Int)))))) (Rel.tag (ct (ln (Int.toNat (0 : Int))) (intCell (c (Int.toNat (0 : Int))))))))
   (Rel.fn
   (Rel.mk (1 : Int) (0 : Int) (Rel.src (ct (ln (Int.toNat (0 : Int))) (intCell (c (Int.toNat (0 : Int)))))) (Rel.cir (ct (ln (Int.toNat (0 : Int))) (intCell (c (Int.toNat (0 : Int))))))
   (Rel.fn (ct (ln (Int.toNat (0 : Int))) (intCell (c (Int.toNat (0 : Int)))))) (BChn0_q3 ct ln c) (Rel.b0 (ct (ln (Int.toNat (0 : Int))) (intCell (c (Int.toNat (0 : Int))))))
   (Rel.b1 (ct (ln (Int.toNat (0 : Int))) (intCell (c (Int.toNat (0 : Int)))))) (Rel.b2 (ct (ln (Int.toNat (0 : Int))) (intCell (c (Int.toNat (0 : Int)))))) (Rel.b3 (ct (ln (Int.toNat (0 : Int))) (intCell (c (Int.toNat (0 : Int))))))
   (Rel.b4 (ct (ln (Int.toNat (0 : Int))) (intCell (c (Int.toNat (0 : Int)))))) (Rel.b5 (ct (ln (Int.toNat (0 : Int))) (intCell (c (Int.toNat (0 : Int)))))) (Rel.b6 (ct (ln (Int.toNat (0 : Int))) (intCell (c (Int.toNat (0 : Int))))))
   (Rel.b7 (ct (ln (Int.toNat (0 : Int))) (intCell (c (Int.toNat (0 : Int)))))) (Rel.b8 (ct (ln (Int.toNat (0 : Int))) (intCell (c (Int.toNat (0 : Int)))))) (Rel.b9 (ct (ln (Int.toNat (0 : Int))) (intCell (c (Int.toNat (0 : Int))))))
   (Rel.b10 (ct (ln (Int.toNat (0 : Int))) (intCell (c (Int.toNat (0 : Int)))))) (Rel.b11 (ct (ln (Int.toNat (0 : Int))) (intCell (c (Int.toNat (0 : Int)))))) (Rel.pn (ct (ln (Int.toNat (0 : Int))) (intCell (c (Int.toNat (0 : Int))))))
   (Rel.pd (ct (ln (Int.toNat (0 : Int))) (intCell (c (Int.toNat (0 : Int)))))) (Rel.tag (ct (ln (Int.toNat (0 : Int))) (intCell (c (Int.toNat (0 : Int))))))))
   (BChn0_q3 ct ln c)
   (Rel.b0
   (Rel.mk (1 : Int) (0 : Int) (Rel.src (ct (ln (Int.toNat (0 : Int))) (intCell (c (Int.toNat (0 : Int)))))) (Rel.cir (ct (ln (Int.toNat (0 : Int))) (intCell (c (Int.toNat (0 : Int))))))
   (Rel.fn (ct (ln (Int.toNat (0 : Int))) (intCell (c (Int.toNat (0 : Int)))))) (BChn0_q3 ct ln c) (Rel.b0 (ct (ln (Int.toNat (0 : Int))) (intCell (c (Int.toNat (0 : Int))))))
   (Rel.b1 (ct (ln (Int.toNat (0 : Int))) (intCell (c (Int.toNat (0 : Int)))))) (Rel.b2 (ct (ln (Int.toNat (0 : Int))) (intCell (c (Int.toNat (0 : Int)))))) (Rel.b3 (ct (ln (Int.toNat (0 : Int))) (intCell (c (Int.toNat (0 : Int))))))
   (Rel.b4 (ct (ln (Int.toNat (0 : Int))) (intCell (c (Int.toNat (0 : Int)))))) (Rel.b5 (ct (ln (Int.toNat (0 : Int))) (intCell (c (Int.toNat (0 : Int)))))) (Rel.b6 (ct (ln (Int.toNat (0 : Int))) (intCell (c (Int.toNat (0 : Int))))))
   (Rel.b7 (ct (ln (Int.toNat (0 : Int))) (intCell (c (Int.toNat (0 : Int)))))) (Rel.b8 (ct (ln (Int.toNat (0 : Int))) (intCell (c (Int.toNat (0 : Int)))))) (Rel.b9 (ct (ln (Int.toNat (0 : Int))) (intCell (c (Int.toNat (0 : Int))))))
   (Rel.b10 (ct (ln (Int.toNat (0 : Int))) (intCell (c (Int.toNat (0 : Int)))))) (Rel.b11 (ct (ln (Int.toNat (0 : Int))) (intCell (c (Int.toNat (0 : Int)))))) (Rel.pn (ct (ln (Int.toNat (0 : Int))) (intCell (c (Int.toNat (0 : Int))))))
   (Rel.pd (ct (ln (Int.toNat (0 : Int))) (intCell (c (Int.toNat (0 : Int)))))) (Rel.tag (ct (ln (Int.toNat (0 : Int))) (intCell (c (Int.toNat (0 : Int))))))))
   (Rel.b1
   (Rel.mk (1 : Int) (0 : Int) (Rel.src (ct (ln (Int.toNat (0 : Int))) (intCell (c (Int.toNat (0 : Int)))))) (Rel.cir (ct (ln (Int.toNat (0 : Int))) (intCell (c (Int.toNat (0 : Int))))))
   (Rel.fn (ct (ln (Int.toNat (0 : Int))) (intCell (c (Int.toNat (0 : Int)))))) (BChn0_q3 ct ln c) (Rel.b0 (ct (ln (Int.toNat (0 : Int))) (intCell (c (Int.toNat (0 : Int))))))
   (Rel.b1 (ct (ln (Int.toNat (0 : Int))) (intCell (c (Int.toNat (0 : Int)))))) (Rel.b2 (ct (ln (Int.toNat (0 : Int))) (intCell (c (Int.toNat (0 : Int)))))) (Rel.b3 (ct (ln (Int.toNat (0 : Int))) (intCell (c (Int.toNat (0 : Int))))))
   (Rel.b4 (ct (ln (Int.toNat (0 : Int))) (intCell (c (Int.toNat (0 : Int)))))) (Rel.b5 (ct (ln (Int.toNat (0 : Int))) (intCell (c (Int.toNat (0 : Int)))))) (Rel.b6 (ct (ln (Int.toNat (0 : Int))) (intCell (c (Int.toNat (0 : Int))))))
   (Rel.b7 (ct (ln (Int.toNat (0 : Int))) (intCell (c (Int.toNat (0 : Int)))))) (Rel.b8 (ct (ln (Int.toNat (0 : Int))) (intCell (c (Int.toNat (0 : Int)))))) (Rel.b9 (ct (ln (Int.toNat (0 : Int))) (intCell (c (Int.toNat (0 : Int))))))
   (Rel.b10 (ct (ln (Int.toNat (0 : Int))) (intCell (c (Int.toNat (0 : Int)))))) (Rel.b11 (ct (ln (Int.toNat (0 : Int))) (intCell (c (Int.toNat (0 : Int)))))) (Rel.pn (ct (ln (Int.toNat (0 : Int))) (intCell (c (Int.toNat (0 : Int))))))
   (Rel.pd (ct (ln (Int.toNat (0 : Int))) (intCell (c (Int.toNat (0 : Int)))))) (Rel.tag (ct (ln (Int.toNat (0 : Int))) (intCell (c (Int.toNat (0 : Int))))))))
   (Rel.b2
   (Rel.mk (1 : Int) (0 : Int) (Rel.src (ct (ln (Int.toNat (0 : Int))) (intCell (c (Int.toNat (0 : Int)))))) (Rel.cir (ct (ln (Int.toNat (0 : Int))) (intCell (c (Int.toNat (0 : Int))))))
   (Rel.fn (ct (ln (Int.toNat (0 : Int))) (intCell (c (Int.toNat (0 : Int)))))) (BChn0_q3 ct ln c) (Rel.b0 (ct (ln (Int.toNat (0 : Int))) (intCell (c (Int.toNat (0 : Int))))))
   (Rel.b1 (ct (ln (Int.toNat (0 : Int))) (intCell (c (Int.toNat (0 : Int)))))) (Rel.b2 (ct (ln (Int.toNat (0 : Int))) (intCell (c (Int.toNat (0 : Int)))))) (Rel.b3 (ct (ln (Int.toNat (0 : Int))) (intCell (c (Int.toNat (0 : Int))))))
   (Rel.b4 (ct (ln (Int.toNat (0 : Int))) (intCell (c (Int.toNat (0 : Int)))))) (Rel.b5 (ct (ln (Int.toNat (0 : Int))) (intCell (c (Int.toNat (0 : Int)))))) (Rel.b6 (ct (ln (Int.toNat (0 : Int))) (intCell (c (Int.toNat (0 : Int))))))
   (Rel.b7 (ct (ln (Int.toNat (0 : Int))) (intCell (c (Int.toNat (0 : Int)))))) (Rel.b8 (ct (ln (Int.toNat (0 : Int))) (intCell (c (Int.toNat (0 : Int)))))) (Rel.b9 (ct (ln (Int.toNat (0 : Int))) (intCell (c (Int.toNat (0 : Int))))))
   (Rel.b10 (ct (ln (Int.toNat (0 : Int))) (intCell (c (Int.toNat (0 : Int)))))) (Rel.b11 (ct (ln (Int.toNat (0 : Int))) (intCell (c (Int.toNat (0 : Int)))))) (Rel.pn (ct (ln (Int.toNat (0 : Int))) (intCell (c (Int.toNat (0 : Int))))))
   (Rel.pd (ct (ln (Int.toNat (0 : Int))) (intCell (c (Int.toNat (0 : Int)))))) (Rel.tag (ct (ln (Int.toNat (0 : Int))) (intCell (c (Int.toNat (0 : Int))))))))
   (Rel.b3
   (Rel.mk (1 : Int) (0 : Int) (Rel.src (ct (ln (Int.toNat (0 : Int))) (intCell (c (Int.toNat (0 : Int)))))) (Rel.cir (ct (ln (Int.toNat (0 : Int))) (intCell (c (Int.toNat (0 : Int))))))
   (Rel.fn (ct (ln (Int.toNat (0 : Int))) (intCell (c (Int.toNat (0 : Int)))))) (BChn0_q3 ct ln c) (Rel.b0 (ct (ln (Int.toNat (0 : Int))) (intCell (c (Int.toNat (0 : Int))))))
   (Rel.b1 (ct (ln (Int.toNat (0 : Int))) (intCell (c (Int.toNat (0 : Int)))))) (Rel.b2 (ct (ln (Int.toNat (0 : Int))) (intCell (c (Int.toNat (0 : Int)))))) (Rel.b3 (ct (ln (Int.toNat (0 : Int))) (intCell (c (Int.toNat (0 : Int))))))
   (Rel.b4 (ct (ln (Int.toNat (0 : Int))) (intCell (c (Int.toNat (0 : Int)))))) (Rel.b5 (ct (ln (Int.toNat (0 : Int))) (intCell (c (Int.toNat (0 : Int)))))) (Rel.b6 (ct (ln (Int.toNat (0 : Int))) (intCell (c (Int.toNat (0 : Int))))))
   (Rel.b7 (ct (ln (Int.toNat (0 : Int))) (intCell (c (Int.toNat (0 : Int)))))) (Rel.b8 (ct (ln (Int.toNat (0 : Int))) (intCell (c (Int.toNat (0 : Int)))))) (Rel.b9 (ct (ln (Int.toNat (0 : Int))) (intCell (c (Int.toNat (0 : Int))))))
   (Rel.b10 (ct (ln (Int.toNat (0 : Int))) (intCell (c (Int.toNat (0 : Int)))))) (Rel.b11 (ct (ln (Int.toNat (0 : Int))) (intCell (c (Int.toNat (0 : Int)))))) (Rel.pn (ct (ln (Int.toNat (0 : Int))) (intCell (c (Int.toNat (0 : Int))))))
   (Rel.pd (ct (ln (Int.toNat (0 : Int))) (intCell (c (Int.toNat (0 : Int)))))) (Rel.tag (ct (ln (Int.toNat (0 : Int))) (intCell (c (Int.toNat (0 : Int))))))))
   (Rel.b4
   (Rel.mk (1 : Int) (0 : Int) (Rel.src (ct (ln (Int.toNat (0 : Int))) (intCell (c (Int.toNat (0 : Int)))))) (Rel.cir (ct (ln (Int.toNat (0 : Int))) (intCell (c (Int.toNat (0 : Int))))))
   (Rel.fn (ct (ln (Int.toNat (0 : Int))) (intCell (c (Int.toNat (0 : Int)))))) (BChn0_q3 ct ln c) (Rel.b0 (ct (ln (Int.toNat (0 : Int))) (intCell (c (Int.toNat (0 : Int))))))
   (Rel.b1 (ct (ln (Int.toNat (0 : Int))) (intCell (c (Int.toNat (0 : Int)))))) (Rel.b2 (ct (ln (Int.toNat (0 : Int))) (intCell (c (Int.toNat (0 : Int)))))) (Rel.b3 (ct (ln (Int.toNat (0 : Int))) (intCell (c (Int.toNat (0 : Int))))))
   (Rel.b4 (ct (ln (Int.toNat (0 : Int))) (intCell (c (Int.toNat (0 : Int)))))) (Rel.b5 (ct (ln (Int.toNat (0 : Int))) (intCell (c (Int.toNat (0 : Int)))))) (Rel.b6 (ct (ln (Int.toNat (0 : Int))) (intCell (c (Int.toNat (0 : Int))))))
   (Rel.b7 (ct (ln (Int.toNat (0 : Int))) (intCell (c (Int.toNat (0 : Int)))))) (Rel.b8 (ct (ln (Int.toNat (0 : Int))) (intCell (c (Int.toNat (0 : Int)))))) (Rel.b9 (ct (ln (Int.toNat (0 : Int))) (intCell (c (Int.toNat (0 : Int))))))
   (Rel.b10 (ct (ln (Int.toNat (0 : Int))) (intCell (c (Int.toNat (0 : Int)))))) (Rel.b11 (ct (ln (Int.toNat (0 : Int))) (intCell (c (Int.toNat (0 : Int)))))) (Rel.pn (ct (ln (Int.toNat (0 : Int))) (intCell (c (Int.toNat (0 : Int))))))
   (Rel.pd (ct (ln (Int.toNat (0 : Int))) (intCell (c (Int.toNat (0 : Int)))))) (Rel.tag (ct (ln (Int.toNat (0 : Int))) (intCell (c (Int.toNat (0 : Int))))))))
   (Rel.b5
   (Rel.mk (1 : Int) (0 : Int) (Rel.src (ct (ln (Int.toNat (0 : Int))) (intCell (c (Int.toNat (0 : Int)))))) (Rel.cir (ct (ln (Int.toNat (0 : Int))) (intCell (c (Int.toNat (0 : Int))))))
   (Rel.fn (ct (ln (Int.toNat (0 : Int))) (intCell (c (Int.toNat (0 : Int)))))) (BChn0_q3 ct ln c) (Rel.b0 (ct (ln (Int.toNat (0 : Int))) (intCell (c (Int.toNat (0 : Int))))))
   (Rel.b1 (ct (ln (Int.toNat (0 : Int))) (intCell (c (Int.toNat (0 : Int)))))) (Rel.b2 (ct (ln (Int.toNat (0 : Int))) (intCell (c (Int.toNat (0 : Int)))))) (Rel.b3 (ct (ln (Int.toNat (0 : Int))) (intCell (c (Int.toNat (0 : Int))))))
   (Rel.b4 (ct (ln (Int.toNat (0 : Int))) (intCell (c (Int.toNat (0 : Int)))))) (Rel.b5 (ct (ln (Int.toNat (0 : Int))) (intCell (c (Int.toNat (0 : Int)))))) (Rel.b6 (ct (ln (Int.toNat (0 : Int))) (intCell (c (Int.toNat (0 : Int))))))
   (Rel.b7 (ct (ln (Int.toNat (0 : Int))) (intCell (c (Int.toNat (0 : Int)))))) (Rel.b8 (ct (ln (Int.toNat (0 : Int))) (intCell (c (Int.toNat (0 : Int)))))) (Rel.b9 (ct (ln (Int.toNat (0 : Int))) (intCell (c (Int.toNat (0 : Int))))))
   (Rel.b10 (ct (ln (Int.toNat (0 : Int))) (intCell (c (Int.toNat (0 : Int)))))) (Rel.b11 (ct (ln (Int.toNat (0 : Int))) (intCell (c (Int.toNat (0 : Int)))))) (Rel.pn (ct (ln (Int.toNat (0 : Int))) (intCell (c (Int.toNat (0 : Int))))))
   (Rel.pd (ct (ln (Int.toNat (0 : Int))) (intCell (c (Int.toNat (0 : Int)))))) (Rel.tag (ct (ln (Int.toNat (0 : Int))) (intCell (c (Int.toNat (0 : Int))))))))
   (Rel.b6
   (Rel.mk (1 : Int) (0 : Int) (Rel.src (ct (ln (Int.toNat (0 : Int))) (intCell (c (Int.toNat (0 : Int)))))) (Rel.cir (ct (ln (Int.toNat (0 : Int))) (intCell (c (Int.toNat (0 : Int))))))
   (Rel.fn (ct (ln (Int.toNat (0 : Int))) (intCell (c (Int.toNat (0 : Int)))))) (BChn0_q3 ct ln c) (Rel.b0 (ct (ln (Int.toNat (0 : Int))) (intCell (c (Int.toNat (0 : Int))))))
   (Rel.b1 (ct (ln (Int.toNat (0 : Int))) (intCell (c (Int.toNat (0 : Int)))))) (Rel.b2 (ct (ln (Int.toNat (0 : Int))) (intCell (c (Int.toNat (0 : Int)))))) (Rel.b3 (ct (ln (Int.toNat (0 : Int))) (intCell (c (Int.toNat (0 : Int))))))
   (Rel.b4 (ct (ln (Int.toNat (0 : Int))) (intCell (c (Int.toNat (0 : Int)))))) (Rel.b5 (ct (ln (Int.toNat (0 : Int))) (intCell (c (Int.toNat (0 : Int)))))) (Rel.b6 (ct (ln (Int.toNat (0 : Int))) (intCell (c (Int.toNat (0 : Int))))))
   (Rel.b7 (ct (ln (Int.toNat (0 : Int))) (intCell (c (Int.toNat (0 : Int)))))) (Rel.b8 (ct (ln (Int.toNat (0 : Int))) (intCell (c (Int.toNat (0 : Int)))))) (Rel.b9 (ct (ln (Int.toNat (0 : Int))) (intCell (c (Int.toNat (0 : Int))))))
   (Rel.b10 (ct (ln (Int.toNat (0 : Int))) (intCell (c (Int.toNat (0 : Int)))))) (Rel.b11 (ct (ln (Int.toNat (0 : Int))) (intCell (c (Int.toNat (0 : Int)))))) (Rel.pn (ct (ln (Int.toNat (0 : Int))) (intCell (c (Int.toNat (0 : Int))))))
   (Rel.pd (ct (ln (Int.toNat (0 : Int))) (intCell (c (Int.toNat (0 : Int)))))) (Rel.tag (ct (ln (Int.toNat (0 : Int))) (intCell (c (Int.toNat (0 : Int))))))))
   (Rel.b7
   (Rel.mk (1 : Int) (0 : Int) (Rel.src (ct (ln (Int.toNat (0 : Int))) (intCell (c (Int.toNat (0 : Int)))))) (Rel.cir (ct (ln (Int.toNat (0 : Int))) (intCell (c (Int.toNat (0 : Int))))))
   (Rel.fn (ct (ln (Int.toNat (0 : Int))) (intCell (c (Int.toNat (0 : Int)))))) (BChn0_q3 ct ln c) (Rel.b0 (ct (ln (Int.toNat (0 : Int))) (intCell (c (Int.toNat (0 : Int))))))
   (Rel.b1 (ct (ln (Int.toNat (0 : Int))) (intCell (c (Int.toNat (0 : Int)))))) (Rel.b2 (ct (ln (Int.toNat (0 : Int))) (intCell (c (Int.toNat (0 : Int)))))) (Rel.b3 (ct (ln (Int.toNat (0 : Int))) (intCell (c (Int.toNat (0 : Int))))))
   (Rel.b4 (ct (ln (Int.toNat (0 : Int))) (intCell (c (Int.toNat (0 : Int)))))) (Rel.b5 (ct (ln (Int.toNat (0 : Int))) (intCell (c (Int.toNat (0 : Int)))))) (Rel.b6 (ct (ln (Int.toNat (0 : Int))) (intCell (c (Int.toNat (0 : Int))))))
   (Rel.b7 (ct (ln (Int.toNat (0 : Int))) (intCell (c (Int.toNat (0 : Int)))))) (Rel.b8 (ct (ln (Int.toNat (0 : Int))) (intCell (c (Int.toNat (0 : Int)))))) (Rel.b9 (ct (ln (Int.toNat (0 : Int))) (intCell (c (Int.toNat (0 : Int))))))
   (Rel.b10 (ct (ln (Int.toNat (0 : Int))) (intCell (c (Int.toNat (0 : Int)))))) (Rel.b11 (ct (ln (Int.toNat (0 : Int))) (intCell (c (Int.toNat (0 : Int)))))) (Rel.pn (ct (ln (Int.toNat (0 : Int))) (intCell (c (Int.toNat (0 : Int))))))
   (Rel.pd (ct (ln (Int.toNat (0 : Int))) (intCell (c (Int.toNat (0 : Int)))))) (Rel.tag (ct (ln (Int.toNat (0 : Int))) (intCell (c (Int.toNat (0 : Int))))))))
   (Rel.b8
   (Rel.mk (1 : Int) (0 : Int) (Rel.src (ct (ln (Int.toNat (0 : Int))) (intCell (c (Int.toNat (0 : Int)))))) (Rel.cir (ct (ln (Int.toNat (0 : Int))) (intCell (c (Int.toNat (0 : Int))))))
   (Rel.fn (ct (ln (Int.toNat (0 : Int))) (intCell (c (Int.toNat (0 : Int)))))) (BChn0_q3 ct ln c) (Rel.b0 (ct (ln (Int.toNat (0 : Int))) (intCell (c (Int.toNat (0 : Int))))))
   (Rel.b1 (ct (ln (Int.toNat (0 : Int))) (intCell (c (Int.toNat (0 : Int)))))) (Rel.b2 (ct (ln (Int.toNat (0 : Int))) (intCell (c (Int.toNat (0 : Int)))))) (Rel.b3 (ct (ln (Int.toNat (0 : Int))) (intCell (c (Int.toNat (0 : Int))))))
   (Rel.b4 (ct (ln (Int.toNat (0 : Int))) (intCell (c (Int.toNat (0 : Int)))))) (Rel.b5 (ct (ln (Int.toNat (0 : Int))) (intCell (c (Int.toNat (0 : Int)))))) (Rel.b6 (ct (ln (Int.toNat (0 : Int))) (intCell (c (Int.toNat (0 : Int))))))
   (Rel.b7 (ct (ln (Int.toNat (0 : Int))) (intCell (c (Int.toNat (0 : Int)))))) (Rel.b8 (ct (ln (Int.toNat (0 : Int))) (intCell (c (Int.toNat (0 : Int)))))) (Rel.b9 (ct (ln (Int.toNat (0 : Int))) (intCell (c (Int.toNat (0 : Int))))))
   (Rel.b10 (ct (ln (Int.toNat (0 : Int))) (intCell (c (Int.toNat (0 : Int)))))) (Rel.b11 (ct (ln (Int.toNat (0 : Int))) (intCell (c (Int.toNat (0 : Int)))))) (Rel.pn (ct (ln (Int.toNat (0 : Int))) (intCell (c (Int.toNat (0 : Int))))))
   (Rel.pd (ct (ln (Int.toNat (0 : Int))) (intCell (c (Int.toNat (0 : Int)))))) (Rel.tag (ct (ln (Int.toNat (0 : Int))) (intCell (c (Int.toNat (0 : Int))))))))
   (Rel.b9
   (Rel.mk (1 : Int) (0 : Int) (Rel.src (ct (ln (Int.toNat (0 : Int))) (intCell (c (Int.toNat (0 : Int)))))) (Rel.cir (ct (ln (Int.toNat (0 : Int))) (intCell (c (Int.toNat (0 : Int))))))
   (Rel.fn (ct (ln (Int.toNat (0 : Int))) (intCell (c (Int.toNat (0 : Int)))))) (BChn0_q3 ct ln c) (Rel.b0 (ct (ln (Int.toNat (0 : Int))) (intCell (c (Int.toNat (0 : Int))))))
   (Rel.b1 (ct (ln (Int.toNat (0 : Int))) (intCell (c (Int.toNat (0 : Int)))))) (Rel.b2 (ct (ln (Int.toNat (0 : Int))) (intCell (c (Int.toNat (0 : Int)))))) (Rel.b3 (ct (ln (Int.toNat (0 : Int))) (intCell (c (Int.toNat (0 : Int))))))
   (Rel.b4 (ct (ln (Int.toNat (0 : Int))) (intCell (c (Int.toNat (0 : Int)))))) (Rel.b5 (ct (ln (Int.toNat (0 : Int))) (intCell (c (Int.toNat (0 : Int)))))) (Rel.b6 (ct (ln (Int.toNat (0 : Int))) (intCell (c (Int.toNat (0 : Int))))))
   (Rel.b7 (ct (ln (Int.toNat (0 : Int))) (intCell (c (Int.toNat (0 : Int)))))) (Rel.b8 (ct (ln (Int.toNat (0 : Int))) (intCell (c (Int.toNat (0 : Int)))))) (Rel.b9 (ct (ln (Int.toNat (0 : Int))) (intCell (c (Int.toNat (0 : Int))))))
   (Rel.b10 (ct (ln (Int.toNat (0 : Int))) (intCell (c (Int.toNat (0 : Int)))))) (Rel.b11 (ct (ln (Int.toNat (0 : Int))) (intCell (c (Int.toNat (0 : Int)))))) (Rel.pn (ct (ln (Int.toNat (0 : Int))) (intCell (c (Int.toNat (0 : Int))))))
   (Rel.pd (ct (ln (Int.toNat (0 : Int))) (intCell (c (Int.toNat (0 : Int)))))) (Rel.tag (ct (ln (Int.toNat (0 : Int))) (intCell (c (Int.toNat (0 : Int))))))))
   (Rel.b10
   (Rel.mk (1 : Int) (0 : Int) (Rel.src (ct (ln (Int.toNat (0 : Int))) (intCell (c (Int.toNat (0 : Int)))))) (Rel.cir (ct (ln (Int.toNat (0 : Int))) (intCell (c (Int.toNat (0 : Int))))))
   (Rel.fn (ct (ln (Int.toNat (0 : Int))) (intCell (c (Int.toNat (0 : Int)))))) (BChn0_q3 ct ln c) (Rel.b0 (ct (ln (Int.toNat (0 : Int))) (intCell (c (Int.toNat (0 : Int))))))
   (Rel.b1 (ct (ln (Int.toNat (0 : Int))) (intCell (c (Int.toNat (0 : Int)))))) (Rel.b2 (ct (ln (Int.toNat (0 : Int))) (intCell (c (Int.toNat (0 : Int)))))) (Rel.b3 (ct (ln (Int.toNat (0 : Int))) (intCell (c (Int.toNat (0 : Int))))))
   (Rel.b4 (ct (ln (Int.toNat (0 : Int))) (intCell (c (Int.toNat (0 : Int)))))) (Rel.b5 (ct (ln (Int.toNat (0 : Int))) (intCell (c (Int.toNat (0 : Int)))))) (Rel.b6 (ct (ln (Int.toNat (0 : Int))) (intCell (c (Int.toNat (0 : Int))))))
   (Rel.b7 (ct (ln (Int.toNat (0 : Int))) (intCell (c (Int.toNat (0 : Int)))))) (Rel.b8 (ct (ln (Int.toNat (0 : Int))) (intCell (c (Int.toNat (0 : Int)))))) (Rel.b9 (ct (ln (Int.toNat (0 : Int))) (intCell (c (Int.toNat (0 : Int))))))
   (Rel.b10 (ct (ln (Int.toNat (0 : Int))) (intCell (c (Int.toNat (0 : Int)))))) (Rel.b11 (ct (ln (Int.toNat (0 : Int))) (intCell (c (Int.toNat (0 : Int)))))) (Rel.pn (ct (ln (Int.toNat (0 : Int))) (intCell (c (Int.toNat (0 : Int))))))
   (Rel.pd (ct (ln (Int.toNat (0 : Int))) (intCell (c (Int.toNat (0 : Int)))))) (Rel.tag (ct (ln (Int.toNat (0 : Int))) (intCell (c (Int.toNat (0 : Int))))))))
   (Rel.b11
   (Rel.mk (1 : Int) (0 : Int) (Rel.src (ct (ln (Int.toNat (0 : Int))) (intCell (c (Int.toNat (0 : Int)))))) (Rel.cir (ct (ln (Int.toNat (0 : Int))) (intCell (c (Int.toNat (0 : Int))))))
   (Rel.fn (ct (ln (Int.toNat (0 : Int))) (intCell (c (Int.toNat (0 : Int)))))) (BChn0_q3 ct ln c) (Rel.b0 (ct (ln (Int.toNat (0 : Int))) (intCell (c (Int.toNat (0 : Int))))))
   (Rel.b1 (ct (ln (Int.toNat (0 : Int))) (intCell (c (Int.toNat (0 : Int)))))) (Rel.b2 (ct (ln (Int.toNat (0 : Int))) (intCell (c (Int.toNat (0 : Int)))))) (Rel.b3 (ct (ln (Int.toNat (0 : Int))) (intCell (c (Int.toNat (0 : Int))))))
   (Rel.b4 (ct (ln (Int.toNat (0 : Int))) (intCell (c (Int.toNat (0 : Int)))))) (Rel.b5 (ct (ln (Int.toNat (0 : Int))) (intCell (c (Int.toNat (0 : Int)))))) (Rel.b6 (ct (ln (Int.toNat (0 : Int))) (intCell (c (Int.toNat (0 : Int))))))
   (Rel.b7 (ct (ln (Int.toNat (0 : Int))) (intCell (c (Int.toNat (0 : Int)))))) (Rel.b8 (ct (ln (Int.toNat (0 : Int))) (intCell (c (Int.toNat (0 : Int)))))) (Rel.b9 (ct (ln (Int.toNat (0 : Int))) (intCell (c (Int.toNat (0 : Int))))))
   (Rel.b10 (ct (ln (Int.toNat (0 : Int))) (intCell (c (Int.toNat (0 : Int)))))) (Rel.b11 (ct (ln (Int.toNat (0 : Int))) (intCell (c (Int.toNat (0 : Int)))))) (Rel.pn (ct (ln (Int.toNat (0 : Int))) (intCell (c (Int.toNat (0 : Int))))))
   (Rel.pd (ct (ln (Int.toNat (0 : Int))) (intCell (c (Int.toNat (0 : Int)))))) (Rel.tag (ct (ln (Int.toNat (0 : Int))) (intCell (c (Int.toNat (0 : Int))))))))
   (Rel.pn
   (Rel.mk (1 : Int) (0 : Int) (Rel.src (ct (ln (Int.toNat (0 : Int))) (intCell (c (Int.toNat (0 : Int)))))) (Rel.cir (ct (ln (Int.toNat (0 : Int))) (intCell (c (Int.toNat (0 : Int))))))
   (Rel.fn (ct (ln (Int.toNat (0 : Int))) (intCell (c (Int.toNat (0 : Int)))))) (BChn0_q3 ct ln c) (Rel.b0 (ct (ln (Int.toNat (0 : Int))) (intCell (c (Int.toNat (0 : Int))))))
   (Rel.b1 (ct (ln (Int.toNat (0 : Int))) (intCell (c (Int.toNat (0 : Int)))))) (Rel.b2 (ct (ln (Int.toNat (0 : Int))) (intCell (c (Int.toNat (0 : Int)))))) (Rel.b3 (ct (ln (Int.toNat (0 : Int))) (intCell (c (Int.toNat (0 : Int))))))
   (Rel.b4 (ct (ln (Int.toNat (0 : Int))) (intCell (c (Int.toNat (0 : Int)))))) (Rel.b5 (ct (ln (Int.toNat (0 : Int))) (intCell (c (Int.toNat (0 : Int)))))) (Rel.b6 (ct (ln (Int.toNat (0 : Int))) (intCell (c (Int.toNat (0 : Int))))))
   (Rel.b7 (ct (ln (Int.toNat (0 : Int))) (intCell (c (Int.toNat (0 : Int)))))) (Rel.b8 (ct (ln (Int.toNat (0 : Int))) (intCell (c (Int.toNat (0 : Int)))))) (Rel.b9 (ct (ln (Int.toNat (0 : Int))) (intCell (c (Int.toNat (0 : Int))))))
   (Rel.b10 (ct (ln (Int.toNat (0 : Int))) (intCell (c (Int.toNat (0 : Int)))))) (Rel.b11 (ct (ln (Int.toNat (0 : Int))) (intCell (c (Int.toNat (0 : Int)))))) (Rel.pn (ct (ln (Int.toNat (0 : Int))) (intCell (c (Int.toNat (0 : Int))))))
   (Rel.pd (ct (ln (Int.toNat (0 : Int))) (intCell (c (Int.toNat (0 : Int)))))) (Rel.tag (ct (ln (Int.toNat (0 : Int))) (intCell (c (Int.toNat (0 : Int))))))))
   (Rel.pd
   (Rel.mk (1 : Int) (0 : Int) (Rel.src (ct (ln (Int.toNat (0 : Int))) (intCell (c (Int.toNat (0 : Int)))))) (Rel.cir (ct (ln (Int.toNat (0 : Int))) (intCell (c (Int.toNat (0 : Int))))))
   (Rel.fn (ct (ln (Int.toNat (0 : Int))) (intCell (c (Int.toNat (0 : Int)))))) (BChn0_q3 ct ln c) (Rel.b0 (ct (ln (Int.toNat (0 : Int))) (intCell (c (Int.toNat (0 : Int))))))
   (Rel.b1 (ct (ln (Int.toNat (0 : Int))) (intCell (c (Int.toNat (0 : Int)))))) (Rel.b2 (ct (ln (Int.toNat (0 : Int))) (intCell (c (Int.toNat (0 : Int)))))) (Rel.b3 (ct (ln (Int.toNat (0 : Int))) (intCell (c (Int.toNat (0 : Int))))))
   (Rel.b4 (ct (ln (Int.toNat (0 : Int))) (intCell (c (Int.toNat (0 : Int)))))) (Rel.b5 (ct (ln (Int.toNat (0 : Int))) (intCell (c (Int.toNat (0 : Int)))))) (Rel.b6 (ct (ln (Int.toNat (0 : Int))) (intCell (c (Int.toNat (0 : Int))))))
   (Rel.b7 (ct (ln (Int.toNat (0 : Int))) (intCell (c (Int.toNat (0 : Int)))))) (Rel.b8 (ct (ln (Int.toNat (0 : Int))) (intCell (c (Int.toNat (0 : Int)))))) (Rel.b9 (ct (ln (Int.toNat (0 : Int))) (intCell (c (Int.toNat (0 : Int))))))
   (Rel.b10 (ct (ln (Int.toNat (0 : Int))) (intCell (c (Int.toNat (0 : Int)))))) (Rel.b11 (ct (ln (Int.toNat (0 : Int))) (intCell (c (Int.toNat (0 : Int)))))) (Rel.pn (ct (ln (Int.toNat (0 : Int))) (intCell (c (Int.toNat (0 : Int))))))
   (Rel.pd (ct (ln (Int.toNat (0 : Int))) (intCell (c (Int.toNat (0 : Int)))))) (Rel.tag (ct (ln (Int.toNat (0 : Int))) (intCell (c (Int.toNat (0 : Int))))))))
   (stp key
   (dig
   (Rel.mk (1 : Int) (0 : Int) (Rel.src (ct (ln (Int.toNat (0 : Int))) (intCell (c (Int.toNat (0 : Int)))))) (Rel.cir (ct (ln (Int.toNat (0 : Int))) (intCell (c (Int.toNat (0 : Int))))))
   (Rel.fn (ct (ln (Int.toNat (0 : Int))) (intCell (c (Int.toNat (0 : Int)))))) (BChn0_q3 ct ln c) (Rel.b0 (ct (ln (Int.toNat (0 : Int))) (intCell (c (Int.toNat (0 : Int))))))
   (Rel.b1 (ct (ln (Int.toNat (0 : Int))) (intCell (c (Int.toNat (0 : Int)))))) (Rel.b2 (ct (ln (Int.toNat (0 : Int))) (intCell (c (Int.toNat (0 : Int)))))) (Rel.b3 (ct (ln (Int.toNat (0 : Int))) (intCell (c (Int.toNat (0 : Int))))))
   (Rel.b4 (ct (ln (Int.toNat (0 : Int))) (intCell (c (Int.toNat (0 : Int)))))) (Rel.b5 (ct (ln (Int.toNat (0 : Int))) (intCell (c (Int.toNat (0 : Int)))))) (Rel.b6 (ct (ln (Int.toNat (0 : Int))) (intCell (c (Int.toNat (0 : Int))))))
   (Rel.b7 (ct (ln (Int.toNat (0 : Int))) (intCell (c (Int.toNat (0 : Int)))))) (Rel.b8 (ct (ln (Int.toNat (0 : Int))) (intCell (c (Int.toNat (0 : Int)))))) (Rel.b9 (ct (ln (Int.toNat (0 : Int))) (intCell (c (Int.toNat (0 : Int))))))
   (Rel.b10 (ct (ln (Int.toNat (0 : Int))) (intCell (c (Int.toNat (0 : Int)))))) (Rel.b11 (ct (ln (Int.toNat (0 : Int))) (intCell (c (Int.toNat (0 : Int))))))
   (Rel.pn (ct (ln (Int.toNat (0 : Int))) (intCell (c (Int.toNat (0 : Int)))))) (Rel.pd (ct (ln (Int.toNat (0 : Int))) (intCell (c (Int.toNat (0 : Int))))))
   (Rel.tag (ct (ln (Int.toNat (0 : Int))) (intCell (c (Int.toNat (0 : Int))))))))))
  j
noncomputable def BChn0 (ct : Nat → (Nat → Int) → Rel) (key : Int) (m : Nat) (ln : Nat → Nat) (c : Nat → Nat → Nat → DV) : Tree (Ex × AS) :=
  .ite (decide ((0 : Int) < (↑m : Int)) && true)
  (.need ((0 : Int) ≤ (0 : Int) ∧ (0 : Int) < (↑m : Int))
   (.need (Byt (ln (Int.toNat (0 : Int))) (c (Int.toNat (0 : Int))))
   (.need (0 ≤ 0)
   (.need (0 ≤ 0)
   (.need ((ChC 0 fun i j => dsAt [] (0 + (0 + i) * 20 + j)) ∧ U64C (Rel.fn (ct (ln (Int.toNat (0 : Int))) (intCell (c (Int.toNat (0 : Int)))))) (BChn0_q1 ct ln c))
   (.ite
   (nxE key 0
   (fun i =>
   Rel.mk (0 : Int) (0 : Int) (0 : Int) (0 : Int) 0 (fun x => (0 : Int)) (0 : Int) (0 : Int) (0 : Int) (0 : Int) (0 : Int) (0 : Int) (0 : Int) (0 : Int) (0 : Int) (0 : Int) (0 : Int) (0 : Int) (0 : Int) (0 : Int)
   (0 : Int))
   (ct (ln (Int.toNat (0 : Int))) (intCell (c (Int.toNat (0 : Int))))) ==
   (0 : Int))
   (.ret
   (.normal,
   AS.mk
   [.ok (SV.d (DV.x (.int .u64 key))), .ok (SV.d (DV.ro m 1 (BChn0_q2 ln c))), .unk, .unk, .unk,
   .ok
   (SV.d
   (DV.ro
   (nxN key 0
   (fun i =>
   Rel.mk (0 : Int) (0 : Int) (0 : Int) (0 : Int) 0 (fun x => (0 : Int)) (0 : Int) (0 : Int) (0 : Int) (0 : Int) (0 : Int) (0 : Int) (0 : Int) (0 : Int) (0 : Int) (0 : Int) (0 : Int) (0 : Int)
   (0 : Int) (0 : Int) (0 : Int))
   (ct (ln (Int.toNat (0 : Int))) (intCell (c (Int.toNat (0 : Int))))))
   20 (BChn0_q4 ct key ln c))),
   .ok (iv (1 : Int)), .unk, .unk, .unk, .unk, .unk, .unk, .unk, .unk, .unk, .unk, .unk, .unk, .unk, .unk, .unk, .unk, .unk, .unk, .unk, .unk, .unk, .unk, .unk, .unk,
   .unk, .unk]
   [none] 1 .nil))
   (.ret
   (.normal,
   AS.mk
   [.ok (SV.d (DV.x (.int .u64 key))), .ok (SV.d (DV.ro m 1 (BChn0_q2 ln c))), .unk, .unk, .unk,
   .ok (SV.d (DV.ro 0 20 fun i j => dsAt [] (0 + (0 + i) * 20 + j))), .ok (iv (1 : Int)), .unk, .unk, .unk, .unk, .unk, .unk, .unk, .unk, .unk, .unk,
   .unk, .unk, .unk, .unk, .unk, .unk, .unk, .unk, .unk, .unk, .unk, .unk, .unk, .unk, .unk, .unk]
   [none] 1 .nil))))))))
  (.ret
   (.exit 0,
   AS.mk
   [.ok (SV.d (DV.x (.int .u64 key))), .ok (SV.d (DV.ro m 1 (BChn0_q2 ln c))), .unk, .unk, .unk, .ok (SV.row 0 0 0 0 20),
   .ok (iv (0 : Int)), .unk, .unk, .unk, .unk, .unk, .unk, .unk, .unk, .unk, .unk, .unk, .unk, .unk, .unk, .unk, .unk, .unk, .unk, .unk, .unk, .unk, .unk, .unk, .unk, .unk, .unk]
   [some (.cells [])] 1 .nil))

theorem BChn0_eq (ct : Nat → (Nat → Int) → Rel) (key : Int) (m : Nat) (ln : Nat → Nat) (c : Nat → Nat → Nat → DV) : cutT 1 [] [0, 1, 5, 6] [] 1 .nil (exec Try.prog (CQ ct) (DQ ct) 200 bodyChn (inv0Chn key m ln c)) = BChn0 ct key m ln c := by kernel_rfl

noncomputable def BChn_q1 (f : Nat → Rel) (i : Nat) (j : Nat) : DV :=
  relD (f i) j
noncomputable def BChn_q2 (ct : Nat → (Nat → Int) → Rel) (ln : Nat → Nat) (c : Nat → Nat → Nat → DV) (k : Nat) (i : Nat) (x : Nat) : DV :=
  DV.x (.int .u64 (Rel.fc (ct (ln (Int.toNat (↑k : Int))) (intCell (c (Int.toNat (↑k : Int))))) i))
noncomputable def BChn_q3 (ln : Nat → Nat) (c : Nat → Nat → Nat → DV) (i : Nat) (x : Nat) : DV :=
  DV.ro (ln i) 1 (c i)
noncomputable def BChn_q4 (ct : Nat → (Nat → Int) → Rel) (key : Int) (ln : Nat → Nat) (c : Nat → Nat → Nat → DV) (k : Nat) (f : Nat → Rel) (i : Nat) (j : Nat) : DV :=
  relD (nxF key k (fun i => f i) (ct (ln (Int.toNat (↑k : Int))) (intCell (c (Int.toNat (↑k : Int))))) i) j
noncomputable def BChn (ct : Nat → (Nat → Int) → Rel) (key : Int) (m : Nat) (ln : Nat → Nat) (c : Nat → Nat → Nat → DV) (k : Nat) (f : Nat → Rel) : Tree (Ex × AS) :=
  .ite (decide ((↑k : Int) < (↑m : Int)) && decide ((↑k : Int) < (6 : Int)))
  (.need ((0 : Int) ≤ (↑k : Int) ∧ (↑k : Int) < (↑m : Int))
   (.need (Byt (ln (Int.toNat (↑k : Int))) (c (Int.toNat (↑k : Int))))
   (.need (ChC k (BChn_q1 f) ∧ U64C (Rel.fn (ct (ln (Int.toNat (↑k : Int))) (intCell (c (Int.toNat (↑k : Int)))))) (BChn_q2 ct ln c k))
   (.ite (nxE key k (fun i => f i) (ct (ln (Int.toNat (↑k : Int))) (intCell (c (Int.toNat (↑k : Int))))) == (0 : Int))
   (.ret
   (.normal,
   AS.mk
   [.ok (SV.d (DV.x (.int .u64 key))), .ok (SV.d (DV.ro m 1 (BChn_q3 ln c))), .unk, .unk, .unk,
   .ok (SV.d (DV.ro (nxN key k (fun i => f i) (ct (ln (Int.toNat (↑k : Int))) (intCell (c (Int.toNat (↑k : Int)))))) 20 (BChn_q4 ct key ln c k f))), .ok (iv (w64 ((↑k : Int) + (1 : Int)))), .unk,
   .unk, .unk, .unk, .unk, .unk, .unk, .unk, .unk, .unk, .unk, .unk, .unk, .unk, .unk, .unk, .unk, .unk, .unk, .unk, .unk, .unk, .unk, .unk, .unk, .unk]
   [none] 1 .nil))
   (.ret
   (.normal,
   AS.mk
   [.ok (SV.d (DV.x (.int .u64 key))), .ok (SV.d (DV.ro m 1 (BChn_q3 ln c))), .unk, .unk, .unk, .ok (SV.d (DV.ro k 20 (BChn_q1 f))),
   .ok (iv (w64 ((↑k : Int) + (1 : Int)))), .unk, .unk, .unk, .unk, .unk, .unk, .unk, .unk, .unk, .unk, .unk, .unk, .unk, .unk, .unk, .unk, .unk, .unk, .unk, .unk, .unk, .unk,
   .unk, .unk, .unk, .unk]
   [none] 1 .nil))))))
  (.ret
   (.exit 0,
   AS.mk
   [.ok (SV.d (DV.x (.int .u64 key))), .ok (SV.d (DV.ro m 1 (BChn_q3 ln c))), .unk, .unk, .unk, .ok (SV.d (DV.ro k 20 (BChn_q1 f))), .ok (iv (↑k : Int)), .unk,
   .unk, .unk, .unk, .unk, .unk, .unk, .unk, .unk, .unk, .unk, .unk, .unk, .unk, .unk, .unk, .unk, .unk, .unk, .unk, .unk, .unk, .unk, .unk, .unk, .unk]
   [none] 1 .nil))

theorem BChn_eq (ct : Nat → (Nat → Int) → Rel) (key : Int) (m : Nat) (ln : Nat → Nat) (c : Nat → Nat → Nat → DV) (k : Nat) (f : Nat → Rel) : cutT 1 [] [0, 1, 5, 6] [] 1 .nil (exec Try.prog (CQ ct) (DQ ct) 200 bodyChn (invChn key m ln c k f)) = BChn ct key m ln c k f := by kernel_rfl

noncomputable def KChn0 (ct : Nat → (Nat → Int) → Rel) (key : Int) (m : Nat) (ln : Nat → Nat) (c : Nat → Nat → Nat → DV) : Tree SV :=
  .need (0 ≤ 0) (.ret (SV.d (DV.ro 0 20 fun i j => dsAt [] (0 + (0 + i) * 20 + j))))

theorem KChn0_eq (ct : Nat → (Nat → Int) → Rel) (key : Int) (m : Nat) (ln : Nat → Nat) (c : Nat → Nat → Nat → DV) : codeK (sub [] (tChn ct key m ln c)) (.exit 0) (inv0Chn key m ln c) = KChn0 ct key m ln c := by kernel_rfl

noncomputable def KChn (ct : Nat → (Nat → Int) → Rel) (key : Int) (m : Nat) (ln : Nat → Nat) (c : Nat → Nat → Nat → DV) (k : Nat) (f : Nat → Rel) : Tree SV :=
  .ret (SV.d (DV.ro k 20 fun i j => relD (f i) j))

theorem KChn_eq (ct : Nat → (Nat → Int) → Rel) (key : Int) (m : Nat) (ln : Nat → Nat) (c : Nat → Nat → Nat → DV) (k : Nat) (f : Nat → Rel) : codeK (sub [] (tChn ct key m ln c)) (.exit 0) (invChn key m ln c k f) = KChn ct key m ln c k f := by kernel_rfl

end Go.Proofs.Ytpaejfeojdoikaa

namespace Go.Proofs.Ytpaejfeojdoikaa
open Go.Sx
set_option maxRecDepth 100000

/-! ### Contents are valid -/
theorem ratOf_pos {n d : Int} (hn : 1 ≤ n) (hd : 1 ≤ d) : 0 < (ratOf n d).num := by
  rw [(ratOf_red (n := n) (d := d) (by omega) rfl).1]
  have h1 : 0 < n.natAbs.gcd d.toNat := Nat.gcd_pos_of_pos_left _ (by omega)
  have h2 : n.natAbs.gcd d.toNat ≤ n.natAbs := Nat.gcd_le_left _ (by omega)
  rw [Int.tdiv_eq_ediv_of_nonneg (by omega)]
  exact Int.ediv_pos_of_pos_of_dvd hn (by omega) (Int.ofNat_dvd_left.2 (Nat.gcd_dvd_left _ _))
theorem ct_per {n : Nat} {cell : Nat → Nat → DV} (hb : Byt n cell) : mdQ (w64 (1 + at8 n (intCell cell) 2)) (w64 (1 + Int.tmod (at8 n (intCell cell) 3) 6)) = ratOf (1 + at8 n (intCell cell) 2) (1 + at8 n (intCell cell) 3 % 6) ∧ fitsR (ratOf (1 + at8 n (intCell cell) 2) (1 + at8 n (intCell cell) 3 % 6)) ∧ Sm 60 256 (ratOf (1 + at8 n (intCell cell) 2) (1 + at8 n (intCell cell) 3 % 6)) := by
  have a2 := at8_b hb 2
  have a3 := at8_b hb 3
  have e3 : Int.tmod (at8 n (intCell cell) 3) 6 = at8 n (intCell cell) 3 % 6 := Int.tmod_eq_emod_of_nonneg a3.1
  rw [e3, w64_of (by omega) (by omega), w64_of (by omega) (by omega)]
  have hs : Sm 60 256 (ratOf (1 + at8 n (intCell cell) 2) (1 + at8 n (intCell cell) 3 % 6)) := by
    refine Sm.ratOf (by omega) (by decide) (dvd60 a3.1) ?_
    have : 1 ≤ (1 + at8 n (intCell cell) 3 % 6).toNat := by omega
    omega
  have hf := hs.fits (by decide) (by decide)
  have eq : qR (1 + at8 n (intCell cell) 2) (1 + at8 n (intCell cell) 3 % 6) = ratOf (1 + at8 n (intCell cell) 2) (1 + at8 n (intCell cell) 3 % 6) := by
    unfold qR; rw [if_neg (by omega)]
  rw [mdQ_of (by omega) (by rw [eq]; exact hf), eq]
  exact ⟨rfl, hf, hs⟩
theorem viB_lo {n : Nat} {cell : Nat → Nat → DV} (hb : Byt n cell) (j : Nat) : viB (loQ n (intCell cell) j).num (loQ n (intCell cell) j).den (hiQ n (intCell cell) j).num (hiQ n (intCell cell) j).den = true := by
  unfold viB
  simp only [Bool.and_eq_true, decide_eq_true_eq, vB_iff, ratOf_rat]
  exact ⟨⟨VF.of ((loQ_sm hb j).fits (by decide) (by decide)), VF.of ((hiQ_sm hb j).fits (by decide) (by decide))⟩, loQ_le j⟩
theorem ct_vd {n : Nat} {cell : Nat → Nat → DV} (hb : Byt n cell) : vdB (ctR n (intCell cell)) = true := by
  have h4 := ct_fn (byt_ro hb)
  obtain ⟨e1, e2, e3⟩ := ct_per hb
  have a2 := at8_b hb 2
  have a3 := at8_b hb 3
  unfold vdB cdB
  simp only [Bool.and_eq_true, decide_eq_true_eq]
  refine ⟨⟨⟨⟨⟨viB_lo hb 0, viB_lo hb 1⟩, viB_lo hb 2⟩, ?_⟩, ?_⟩, ?_⟩
  · show vB (mdQ _ _).num (mdQ _ _).den = true
    rw [e1, vB_iff]; exact VF.of e2
  · show (mdQ _ _).num > 0
    rw [e1]; exact ratOf_pos (by omega) (by omega)
  · have h4 : (ctR n (intCell cell)).fn < 4 := h4
    omega

/-! ### Chains made of contents -/
noncomputable def mkR (key : Int) (c : Nat → Rel) : Nat → Rel
  | 0 => newR key 0 (fun _ => zR) (c 0)
  | k + 1 => newR key (k + 1) (fun _ => mkR key c k) (c (k + 1))
theorem mkR_new (key : Int) (c : Nat → Rel) : ∀ k, mkR key c k = newR key k (mkR key c) (c k)
  | 0 => rfl
  | k + 1 => by
    rw [mkR]
    unfold newR bR
    rfl
theorem newR_dig {key : Int} {n : Nat} {f : Nat → Rel} {r : Rel} : dig (newR key n f r) = dig (bR n f r) := rfl
theorem newR_good {key : Int} {k : Nat} {f : Nat → Rel} {r : Rel} (h : f k = newR key k f r) (hv : vdB r = true) : goodR key f k = true := by
  unfold goodR
  rw [h]
  have h1 : vdB (newR key k f r) = vdB r := rfl
  rw [h1, hv, newR_dig]
  simp [newR, bR]
theorem mkR_ck {key : Int} {c : Nat → Rel} {n : Nat} (hn : n ≤ 200) (hv : ∀ k, k < n → vdB (c k) = true) : ckV key n (mkR key c) = 0 := by
  have : ckB key (mkR key c) n = true := ckB_iff.2 fun k hk => newR_good (mkR_new key c k) (hv k hk)
  unfold ckV
  rw [if_neg (by simp only [decide_eq_true_eq]; omega), this]
  rfl
theorem nxE_ok {key : Int} {n : Nat} {f : Nat → Rel} {r : Rel} (h1 : ckV key n f = 0) (h2 : n < 200) (h3 : vdB r = true) : nxE key n f r = 0 := by
  unfold nxE
  rw [h1, h3]
  have : decide ((n : Int) ≥ 200) = false := by simp only [decide_eq_false_iff_not]; omega
  rw [this]; rfl
theorem ckV_0 {key : Int} {f : Nat → Rel} : ckV key 0 f = 0 := rfl
theorem nxN_ok {key : Int} {n : Nat} {f : Nat → Rel} {r : Rel} (h : nxE key n f r = 0) : nxN key n f r = n + 1 := by unfold nxN; rw [h]; rfl
theorem nxF_lt {key : Int} {n : Nat} {f : Nat → Rel} {r : Rel} {i : Nat} (h : i < n) : nxF key n f r i = f i := by unfold nxF; simp [h]
theorem nxF_eq {key : Int} {n : Nat} {f : Nat → Rel} {r : Rel} : nxF key n f r n = newR key n f r := by unfold nxF; simp

/-- The lists of a list of lists are bytes. -/
def BB (m : Nat) (ln : Nat → Nat) (c : Nat → Nat → Nat → DV) : Prop := m ≤ 9223372036854775807 ∧ ∀ i, i < m → Byt (ln i) (c i)
noncomputable def ctC (ln : Nat → Nat) (c : Nat → Nat → Nat → DV) : Nat → Rel := fun i => ctR (ln i) (intCell (c i))
theorem mkR_fn {key : Int} {c : Nat → Rel} {k : Nat} : (mkR key c k).fn = (c k).fn := by rw [mkR_new]; rfl
theorem ctC_fn {m : Nat} {ln : Nat → Nat} {c : Nat → Nat → Nat → DV} (hb : BB m ln c) {k : Nat} (hk : k < m) : (ctC ln c k).fn < 4 := ct_fn (byt_ro (hb.2 k hk))

set_option maxHeartbeats 1000000 in
theorem chn_sat {key : Int} {m : Nat} {ln : Nat → Nat} {c : Nat → Nat → Nat → DV} (hb : BB m ln c) : Sat Try.prog (tChn ctR key m ln c) fun x => leSV 0 [] [] x (.d (chD (min m 6) (mkR key (ctC ln c)))) := by
  constructor
  rw [LChn_eq]; unfold LChn
  refine code_satS CQ_ok DQ_ok (n := 200) (n0 := 1) (nx := 1) (roots := []) (keep := [0, 1, 5, 6]) (drop := []) (h := .nil) (c := codeC (sub [] (tChn ctR key m ln c))) (st := codeS (sub [] (tChn ctR key m ln c))) (k := codeK (sub [] (tChn ctR key m ln c))) (body := bodyChn) (by kernel_rfl) (by kernel_rfl)
    (fun q s => (q = min m 6 ∧ s = inv0Chn key m ln c) ∨ ∃ k : Nat, q = min m 6 - k ∧ 1 ≤ k ∧ k ≤ min m 6 ∧ s = invChn key m ln c k (mkR key (ctC ln c)))
    (fun e s => e = .exit 0 ∧ ((min m 6 = 0 ∧ s = inv0Chn key m ln c) ∨ s = invChn key m ln c (min m 6) (mkR key (ctC ln c))))
    ⟨_, _, .inl ⟨rfl, rfl⟩, ?_⟩ ?_ ?_
  · exact entA_sound (roots := []) (keep := [0, 1, 5, 6]) (drop := []) (nx := 1) (h := .nil) (by kernel_rfl)
  · rintro q s (⟨rfl, rfl⟩ | ⟨k, rfl, hk1, hk, rfl⟩)
    · refine Sat.of_eq (BChn0_eq ctR key m ln c) ?_
      constructor
      unfold BChn0
      refine ⟨fun hc => ?_, fun hc => ?_⟩
      · have hm : 0 < m := by simp at hc; omega
        have hbk := hb.2 0 hm
        have hv : vdB (ctC ln c 0) = true := ct_vd hbk
        refine ⟨by omega, hbk, by omega, by omega, ⟨⟨by omega, fun i hi => by omega⟩, U64C.self (by have := ctC_fn hb hm; exact Nat.le_of_lt (Nat.lt_trans this (by decide)))⟩, fun h => ?_, fun h => ?_⟩
        · refine ⟨min m 6 - 1, _, by omega, .inr ⟨1, rfl, by omega, by omega, rfl⟩, ?_⟩
          refine gc_sound [] [] rfl ?_ ?_
          · have hN := nxN_ok (nxE_ok (key := key) (n := 0) (f := fun i => zR) (r := ctC ln c 0) ckV_0 (by decide) hv)
            have hle : leD (.ro (nxN key 0 (fun i => zR) (ctC ln c 0)) 20 (BChn0_q4 ctR key ln c)) (chD 1 (mkR key (ctC ln c))) := by
              rw [hN]
              refine ⟨rfl, rfl, fun i j hi hj => ?_⟩
              obtain rfl : i = 0 := by omega
              rfl
            have hbb : leD (.ro m 1 (BChn0_q2 ln c)) (bbD m ln c) := ⟨rfl, rfl, fun i j hi hj => rfl⟩
            simp [invChn, leTm, leTV, leSV, leSVs, rn, iv, List.replicate, u64v]
            refine ⟨by simp [leD], hbb, hle, by simp [leD]⟩
          · simp [invChn, leHp]
        · exfalso
          have := nxE_ok (key := key) (n := 0) (f := fun i => zR) (r := ctC ln c 0) ckV_0 (by decide) hv
          have h2 : (nxE key 0 (fun i => zR) (ctC ln c 0) == 0) = false := h
          rw [this] at h2
          exact absurd h2 (by decide)
      · have hc : m = 0 := by simp at hc; omega
        exact ⟨_, ⟨rfl, .inl ⟨by omega, rfl⟩⟩, Gc.refl _ _⟩
    · refine Sat.of_eq (BChn_eq ctR key m ln c k _) ?_
      constructor
      unfold BChn
      simp only [Int.toNat_natCast]
      refine ⟨fun hc => ?_, fun hc => ?_⟩
      · have hc : k < m ∧ k < 6 := by simp at hc; omega
        have hbk := hb.2 k hc.1
        have hv : vdB (ctC ln c k) = true := ct_vd hbk
        have hck : ckV key k (mkR key (ctC ln c)) = 0 := mkR_ck (by omega) fun i hi => ct_vd (hb.2 i (by omega))
        have hE := nxE_ok hck (by omega) hv
        have hfn : ∀ i, i < k → (mkR key (ctC ln c) i).fn ≤ 1000000 := fun i hi => by
          rw [mkR_fn]; have := ctC_fn hb (k := i) (by omega); omega
        refine ⟨by omega, hbk, ⟨ChC.self (by omega) hfn, U64C.self (by have := ctC_fn hb hc.1; exact Nat.le_of_lt (Nat.lt_trans this (by decide)))⟩, fun h => ?_, fun h => ?_⟩
        · refine ⟨min m 6 - (k + 1), _, by omega, .inr ⟨k + 1, rfl, by omega, by omega, rfl⟩, ?_⟩
          rw [w64_of (n := (k : Int) + 1) (by omega) (by omega)]
          refine gc_sound [] [] rfl ?_ ?_
          · have hle : leD (.ro (nxN key k (mkR key (ctC ln c)) (ctC ln c k)) 20 (BChn_q4 ctR key ln c k (mkR key (ctC ln c)))) (chD (k + 1) (mkR key (ctC ln c))) := by
              rw [nxN_ok hE]
              refine ⟨rfl, rfl, fun i j hi hj => ?_⟩
              show relD (nxF key k (mkR key (ctC ln c)) (ctC ln c (Int.toNat k)) i) j = _
              rw [Int.toNat_natCast]
              by_cases hik : i < k
              · rw [nxF_lt hik]
              · obtain rfl : i = k := by omega
                rw [nxF_eq, ← mkR_new]
            have hbb : leD (.ro m 1 (BChn_q3 ln c)) (bbD m ln c) := ⟨rfl, rfl, fun i j hi hj => rfl⟩
            simp [invChn, leTm, leTV, leSV, leSVs, rn, iv, List.replicate, u64v]
            refine ⟨by simp [leD], hbb, hle, by simp [leD]⟩
          · simp [invChn, leHp]
        · exfalso
          have h2 : (nxE key k (mkR key (ctC ln c)) (ctC ln c k) == 0) = false := h
          rw [hE] at h2
          exact absurd h2 (by decide)
      · have hc : k = min m 6 := by simp at hc; omega
        subst hc
        exact ⟨_, ⟨rfl, .inr rfl⟩, Gc.refl _ _⟩
  · rintro e s ⟨rfl, ⟨h, rfl⟩ | rfl⟩
    · refine Sat.of_eq (KChn0_eq ctR key m ln c) ⟨?_⟩
      rw [h]
      exact ⟨by omega, rfl, rfl, fun i j hi => absurd hi (by omega)⟩
    · refine Sat.of_eq (KChn_eq ctR key m ln c _ _) ⟨?_⟩
      exact ⟨rfl, rfl, fun i j _ _ => rfl⟩
end Go.Proofs.Ytpaejfeojdoikaa

namespace Go.Proofs.Ytpaejfeojdoikaa
open Go.Sx
set_option maxRecDepth 100000
set_option pp.structureInstances false

def roC : DV → Nat → Nat → DV
  | .ro _ _ c => c
  | _ => fun _ _ => .x undef
def BBd (m : Nat) (cell : Nat → Nat → DV) : Prop := m ≤ 9223372036854775807 ∧ ∀ i, i < m → ∃ n c, cell i 0 = .ro n 1 c ∧ Byt n c
noncomputable def FM (key : Int) (m : Nat) (cell : Nat → Nat → DV) : Nat → Rel := mkR key (ctC (fun i => frN (cell i 0)) fun i => roC (cell i 0))
abbrev FT := Int → Nat → (Nat → Nat → DV) → Nat → Rel
noncomputable def cMkG (F : FT) : Ctr := fun ss => match ss with
  | [.d (.x (.int .u64 key)), .d (.ro m 1 cell)] => .need (BBd m cell) (.ret (.d (chD (min m 6) (F key m cell))))
  | _ => .fail
theorem cMkG_ok : CtrOK Try.prog 32 (cMkG FM) := by
  refine ctrOK_leR CQ_ok DQ_ok (by kernel_rfl) (by kernel_rfl) fun ss r h => ?_
  unfold cMkG at h
  split at h
  · rename_i key m cell
    obtain ⟨h1, rfl⟩ := h
    have hb : BB m (fun i => frN (cell i 0)) (fun i => roC (cell i 0)) := ⟨h1.1, fun i hi => by
      obtain ⟨n, c, e, hb⟩ := h1.2 i hi
      simp only [e]; exact hb⟩
    have k := chn_sat (key := key) hb
    refine ⟨[u64v key, .d (bbD m (fun i => frN (cell i 0)) (fun i => roC (cell i 0)))], 200, .nil, ?_, ?_⟩
    · simp only [leSVs, leSV, u64v, and_true]
      refine ⟨by simp [leD], rfl, rfl, fun i j hi hj => ?_⟩
      obtain rfl : j = 0 := by omega
      obtain ⟨n, c, e, hb⟩ := h1.2 i hi
      simp only [e]; rfl
    · exact k
  · exact h.elim

noncomputable def LNw_q1 (f : Nat → Rel) (i : Nat) (j : Nat) : DV :=
  relD (f i) j
noncomputable def LNw_q2 (r : Rel) (i : Nat) (x : Nat) : DV :=
  DV.x (.int .u64 (Rel.fc r i))
noncomputable def LNw_q3 (key : Int) (n : Nat) (f : Nat → Rel) (r : Rel) (i : Nat) (j : Nat) : DV :=
  relD (nxF key n (fun i => f i) r i) j
noncomputable def LNw (ct : Nat → (Nat → Int) → Rel) (key : Int) (n : Nat) (f : Nat → Rel) (r : Rel) : Tree SV :=
  .need (ChC n (LNw_q1 f) ∧ U64C (Rel.fn r) (LNw_q2 r)) (.ret (SV.agg [SV.d (DV.ro (nxN key n (fun i => f i) r) 20 (LNw_q3 key n f r)), iv (nxE key n (fun i => f i) r)]))

theorem LNw_eq (ct : Nat → (Nat → Int) → Rel) (key : Int) (n : Nat) (f : Nat → Rel) (r : Rel) : TQ ct .nil 34 [u64v key, .d (chD n f), .agg (relL r)] = LNw ct key n f r := by kernel_rfl

noncomputable def cTrue : Ctr := fun ss => match ss with
  | [] => .ret (bv true)
  | _ => .fail
noncomputable def manRl (ct : Nat → (Nat → Int) → Rel) (F : FT) : FuncId → Option Ctr := fun k => match k with
  | 32 => some (cMkG F)
  | 31 => some cTrue
  | 34 => some cNi
  | k => manQ ct k
end Go.Proofs.Ytpaejfeojdoikaa

namespace Go.Proofs.Ytpaejfeojdoikaa
open Go.Sx
set_option maxRecDepth 100000
set_option pp.structureInstances false
noncomputable def LSpn (a b : Int) : Tree SV :=
  .ret (SV.agg [iv a, iv (1 : Int), iv b, iv (1 : Int)])

theorem LSpn_eq (a b : Int) : TQ ctR .nil 98 [iv a, iv b] = LSpn a b := by kernel_rfl

noncomputable def nilV : SV := .d (.x (.slice none 0 0))
noncomputable def CEc : Ctx := ctxO Try.prog (manQ ctR) ownL (fun k => k == 122 || k == 125) 200 .run 12
noncomputable def LCi0  : Tr SV :=
  Tr.need (True ∧ 1 ≤ 1 ∧ 8 ≤ 140737488355328)
  (Tr.need (1 ≤ 1 ∧ 1 ≤ 1 ∧ 16 ≤ 140737488355328)
   (Tr.need (2 ≤ 2)
   (Tr.need
   (I64C 2 fun i j => selD (decide (0 + i < 1)) (DV.x (.int .i64 (0 : Int))) (dsAt [DV.x (.int .i64 (0 : Int))] (0 + (0 + (0 + i - 1)) * 1 + j)))
   (Tr.ret (SV.d (DV.x (.int .u64 (6496484108755115417 : Int))))))))

theorem LCi0_eq  : autoC Try.prog CEc 200 50 .run [.agg [nilV, nilV]] = LCi0  := by kernel_rfl

noncomputable def LFr0  : Tr SV :=
  Tr.need (I64C 0 fun x x_1 => DV.x (.tuple (Array.mk []))) (Tr.ret (SV.d (DV.x (.int .u64 (7059933888772838974 : Int)))))

theorem LFr0_eq  : autoC Try.prog CEc 200 51 .run [nilV] = LFr0  := by kernel_rfl

noncomputable def cSpn : Ctr := fun ss => match ss with
  | [.d (.x (.int .i64 a)), .d (.x (.int .i64 b))] => .ret (.agg [iv a, iv 1, iv b, iv 1])
  | _ => .fail
theorem cSpn_ok : CtrOK Try.prog 98 cSpn := by
  refine ctrOK_leS CQ_ok DQ_ok (by kernel_rfl) (by kernel_rfl) fun ss r h => ?_
  unfold cSpn at h
  split at h
  · rename_i a b
    simp only [Tr.ev] at h; subst h
    exact ⟨[iv a, iv b], 200, .nil, by simp [leSVs, leSV, iv, leD], Sat.of_eq (LSpn_eq a b) ⟨rfl⟩⟩
  · exact h.elim
theorem CEc_ok : CtxOK Try.prog CEc := ctxO_ok mixed manQ_ok ownL_ok 12
noncomputable def cCi0 : Ctr := fun ss => match ss with
  | [.agg [.d (.x (.slice none 0 0)), .d (.x (.slice none 0 0))]] => .ret (u64v 6496484108755115417)
  | _ => .fail
theorem cCi0_ok : CtrOK Try.prog 50 cCi0 := (autoC_ok CEc_ok mixed 200 50 .run).mono fun ss r h => by
  unfold cCi0 at h
  split at h
  · simp only [Tr.ev] at h; subst h
    rw [show autoC Try.prog CEc 200 50 .run [.agg [.d (.x (.slice none 0 0)), .d (.x (.slice none 0 0))]] = LCi0 from LCi0_eq]
    unfold LCi0
    refine ⟨⟨trivial, by decide, by decide⟩, ⟨by decide, by decide, by decide⟩, by decide, ⟨by decide, fun i hi => ?_⟩, rfl⟩
    match i, hi with
    | 0, _ => rfl
    | 1, _ => rfl
    | k + 2, h => exact absurd h (by omega)
  · exact h.elim
noncomputable def cFr0 : Ctr := fun ss => match ss with
  | [.d (.x (.slice none 0 0))] => .ret (u64v 7059933888772838974)
  | _ => .fail
theorem cFr0_ok : CtrOK Try.prog 51 cFr0 := (autoC_ok CEc_ok mixed 200 51 .run).mono fun ss r h => by
  unfold cFr0 at h
  split at h
  · simp only [Tr.ev] at h; subst h
    rw [show autoC Try.prog CEc 200 51 .run [.d (.x (.slice none 0 0))] = LFr0 from LFr0_eq]
    unfold LFr0
    exact ⟨⟨by decide, fun i hi => absurd hi (by omega)⟩, rfl⟩
  · exact h.elim
theorem cNw_ok : CtrOK Try.prog 34 cNi := by
  refine ctrOK_leR CQ_ok DQ_ok (by kernel_rfl) (by kernel_rfl) fun ss r h => ?_
  unfold cNi at h
  split at h
  · rename_i key d l
    split at h
    · rename_i n cell r p hr1 hr2
      obtain ⟨⟨h1, h2⟩, rfl⟩ := h
      obtain ⟨h3, h4⟩ := relOf_le hr2 h2
      refine ⟨[u64v key, .d (chD n (relC cell)), .agg (relL r)], 200, .nil, ?_, Sat.of_eq (LNw_eq ctR key n (relC cell) r) ⟨?_⟩⟩
      · simp only [leSVs, leSV, u64v, and_true]; exact ⟨by simp [leD], h1.le hr1, h3⟩
      · unfold LNw
        refine ⟨⟨ChC.self h1.1 h1.fn, U64C.self h4⟩, ?_⟩
        exact agg2_le ⟨rfl, rfl, fun i j _ _ => rfl⟩
    · exact h.elim
  · exact h.elim

noncomputable def manEx : FuncId → Option Ctr := fun k => match k with
  | 34 => some cNi
  | 98 => some cSpn
  | 50 => some cCi0
  | 51 => some cFr0
  | k => manQ ctR k
theorem manEx_ok (k : Nat) (c : Ctr) (h : manEx k = some c) : CtrOK Try.prog k c ∧ goodF Try.prog k = true := by
  unfold manEx at h
  split at h
  · cases h; exact ⟨cNw_ok, by kernel_rfl⟩
  · cases h; exact ⟨cSpn_ok, by kernel_rfl⟩
  · cases h; exact ⟨cCi0_ok, by kernel_rfl⟩
  · cases h; exact ⟨cFr0_ok, by kernel_rfl⟩
  · exact manQ_ok _ _ h
noncomputable def CEx : Ctx := ctxO Try.prog manEx ownL (fun k => false) 200 .run 12
theorem CEx_ok : CtxOK Try.prog CEx := ctxO_ok mixed manEx_ok ownL_ok 12
noncomputable def XEr  : Tr SV :=
  Tr.need ((ChC 0 fun x x_1 => DV.x (.tuple (Array.mk []))) ∧ U64C 0 fun x x_1 => DV.x (.tuple (Array.mk [])))
  (Tr.need
   ((ChC 1 fun i j =>
   relD
   (Rel.mk (1 : Int) (0 : Int) (5 : Int) (0 : Int) 0 (fun i => (0 : Int)) (0 : Int) (1 : Int) (80 : Int) (1 : Int) (1 : Int) (1 : Int) (2 : Int) (1 : Int) (0 : Int) (1 : Int) (9 : Int) (1 : Int) (3 : Int) (1 : Int)
   (16880852108703056937 : Int))
   j) ∧
   U64C 0 fun x x_1 => DV.x (.tuple (Array.mk [])))
   (Tr.need
   (U64C 0 fun i x =>
   DV.x
   (.int .u64
   (Rel.fc
   (Rel.mk (1 : Int) (0 : Int) (5 : Int) (0 : Int) 0
   (fun i =>
   Rel.fc
   (Rel.mk (1 : Int) (0 : Int) (5 : Int) (0 : Int) 0 (fun i => (0 : Int)) (0 : Int) (1 : Int) (80 : Int) (1 : Int) (1 : Int) (1 : Int) (2 : Int) (1 : Int) (0 : Int) (1 : Int) (9 : Int) (1 : Int) (3 : Int)
   (1 : Int) (16880852108703056937 : Int))
   i)
   (0 : Int) (1 : Int) (80 : Int) (1 : Int) (1 : Int) (1 : Int) (2 : Int) (1 : Int) (0 : Int) (1 : Int) (9 : Int) (1 : Int) (3 : Int) (1 : Int) (16880852108703056937 : Int))
   i)))
   (Tr.need
   (ChC 2 fun i j =>
   relD
   (nxF (7 : Int) 1
   (fun i =>
   Rel.mk (1 : Int) (0 : Int) (5 : Int) (0 : Int) 0 (fun i => (0 : Int)) (0 : Int) (1 : Int) (80 : Int) (1 : Int) (1 : Int) (1 : Int) (2 : Int) (1 : Int) (0 : Int) (1 : Int) (9 : Int) (1 : Int) (3 : Int) (1 : Int)
   (16880852108703056937 : Int))
   (Rel.mk (0 : Int) (0 : Int) (5 : Int) (0 : Int) 0 (fun i => (0 : Int)) (0 : Int) (1 : Int) (80 : Int) (1 : Int) (1 : Int) (1 : Int) (2 : Int) (1 : Int) (0 : Int) (1 : Int) (9 : Int) (1 : Int) (3 : Int) (1 : Int)
   (0 : Int))
   i)
   j)
   (Tr.need
   (ChC 2 fun i j =>
   relD
   (nxF (7 : Int) 1
   (fun i =>
   Rel.mk (1 : Int) (0 : Int) (5 : Int) (0 : Int) 0 (fun i => (0 : Int)) (0 : Int) (1 : Int) (80 : Int) (1 : Int) (1 : Int) (1 : Int) (2 : Int) (1 : Int) (0 : Int) (1 : Int) (9 : Int) (1 : Int) (3 : Int) (1 : Int)
   (16880852108703056937 : Int))
   (Rel.mk (0 : Int) (0 : Int) (5 : Int) (0 : Int) 0 (fun i => (0 : Int)) (0 : Int) (1 : Int) (80 : Int) (1 : Int) (1 : Int) (1 : Int) (2 : Int) (1 : Int) (0 : Int) (1 : Int) (9 : Int) (1 : Int) (3 : Int) (1 : Int)
   (0 : Int))
   i)
   j)
   (Tr.need
   ((ChC 1 fun i j =>
   relD
   (Rel.mk (1 : Int) (0 : Int) (5 : Int) (0 : Int) 0 (fun i => (0 : Int)) (0 : Int) (1 : Int) (80 : Int) (1 : Int) (1 : Int) (1 : Int) (2 : Int) (1 : Int) (0 : Int) (1 : Int) (9 : Int) (1 : Int) (3 : Int) (1 : Int)
   (16880852108703056937 : Int))
   j) ∧
   U64C 0 fun x x_1 => DV.x (.tuple (Array.mk [])))
   (Tr.need ((ChC 0 fun x x_1 => DV.x (.tuple (Array.mk []))) ∧ U64C 0 fun x x_1 => DV.x (.tuple (Array.mk [])))
   (Tr.need (U64C 0 fun x x_1 => DV.x (.tuple (Array.mk [])))
   (Tr.need
   (VB6 (10 : Int) (1 : Int) (20 : Int) (1 : Int) (1 : Int) (1 : Int) (2 : Int) (1 : Int) (0 : Int) (1 : Int) (9 : Int) (1 : Int) ∧
   VB6 (0 : Int) (1 : Int) (80 : Int) (1 : Int) (1 : Int) (1 : Int) (2 : Int) (1 : Int) (0 : Int) (1 : Int) (9 : Int) (1 : Int))
   (Tr.need (VF (7 : Int) (2 : Int) ∧ VF (3 : Int) (1 : Int))
   (Tr.need (U64C 0 fun x x_1 => DV.x (.tuple (Array.mk [])))
   (Tr.need
   (VB6 (10 : Int) (1 : Int) (20 : Int) (1 : Int) (1 : Int) (1 : Int) (2 : Int) (1 : Int) (0 : Int) (1 : Int) (9 : Int) (1 : Int) ∧
   VB6 (0 : Int) (1 : Int) (80 : Int) (1 : Int) (1 : Int) (1 : Int) (2 : Int) (1 : Int) (0 : Int) (1 : Int) (9 : Int) (1 : Int))
   (Tr.need (VF (2 : Int) (1 : Int) ∧ VF (3 : Int) (1 : Int))
   (Tr.need (U64C 0 fun x x_1 => DV.x (.tuple (Array.mk [])))
   (Tr.need
   (VB6 (0 : Int) (1 : Int) (81 : Int) (1 : Int) (1 : Int) (1 : Int) (2 : Int) (1 : Int) (0 : Int) (1 : Int) (9 : Int) (1 : Int) ∧
   VB6 (0 : Int) (1 : Int) (80 : Int) (1 : Int) (1 : Int) (1 : Int) (2 : Int) (1 : Int) (0 : Int) (1 : Int) (9 : Int) (1 : Int))
   (Tr.need (2 ≤ 2)
   (Tr.need (I64C 2 fun i j => dsAt [DV.x (.int .i64 (0 : Int)), DV.x (.int .i64 (0 : Int))] (0 + (0 + i) * 1 + j))
   (Tr.need (I64C 0 fun x x_1 => DV.x (.tuple (Array.mk [])))
   (Tr.need
   (ChC 2 fun i j =>
   relD
   (nxF (7 : Int) 1
   (fun i =>
   Rel.mk (1 : Int) (0 : Int) (5 : Int) (0 : Int) 0 (fun i => (0 : Int)) (0 : Int) (1 : Int) (80 : Int) (1 : Int) (1 : Int) (1 : Int) (2 : Int) (1 : Int) (0 : Int) (1 : Int) (9 : Int)
   (1 : Int) (3 : Int) (1 : Int) (16880852108703056937 : Int))
   (Rel.mk (0 : Int) (0 : Int) (5 : Int) (0 : Int) 0 (fun i => (0 : Int)) (0 : Int) (1 : Int) (80 : Int) (1 : Int) (1 : Int) (1 : Int) (2 : Int) (1 : Int) (0 : Int) (1 : Int) (9 : Int)
   (1 : Int) (3 : Int) (1 : Int) (0 : Int))
   i)
   j)
   (Tr.need
   (ChC 2 fun i j =>
   relD
   (nxF (7 : Int) 1
   (fun i =>
   Rel.mk (1 : Int) (0 : Int) (5 : Int) (0 : Int) 0 (fun i => (0 : Int)) (0 : Int) (1 : Int) (80 : Int) (1 : Int) (1 : Int) (1 : Int) (2 : Int) (1 : Int) (0 : Int) (1 : Int) (9 : Int)
   (1 : Int) (3 : Int) (1 : Int) (16880852108703056937 : Int))
   (Rel.mk (0 : Int) (0 : Int) (5 : Int) (0 : Int) 0 (fun i => (0 : Int)) (0 : Int) (1 : Int) (80 : Int) (1 : Int) (1 : Int) (1 : Int) (2 : Int) (1 : Int) (0 : Int) (1 : Int) (9 : Int)
   (1 : Int) (3 : Int) (1 : Int) (0 : Int))
   i)
   j)
   (Tr.ret (bv true)))))))))))))))))))))

theorem XEr_eq  : autoC Try.prog CEx 200 31 .run [] = XEr  := by kernel_rfl

end Go.Proofs.Ytpaejfeojdoikaa

namespace Go.Proofs.Ytpaejfeojdoikaa
open Go.Sx
set_option maxRecDepth 100000

/-! ### The digest's step is one to one -/
def fB (x : BitVec 64) : BitVec 64 := ((x * 15485907386658061715#64) ^^^ ((x * 15485907386658061715#64) >>> 32)) * 11562461410679940143#64
theorem wrapU (n : Int) : IntKind.wrap .u64 n = ((BitVec.ofInt 64 n).toNat : Int) := by
  rw [BitVec.toNat_ofInt]
  have h : 0 ≤ n % (2 ^ 64 : Int) := Int.emod_nonneg _ (by decide)
  show n % 18446744073709551616 = _
  rw [show ((2 ^ 64 : Nat) : Int) = 18446744073709551616 by decide, Int.toNat_of_nonneg (by omega)]
theorem ofInt_nat (x : BitVec 64) : BitVec.ofInt 64 (x.toNat : Int) = x := by
  apply BitVec.eq_of_toNat_eq
  rw [BitVec.toNat_ofInt]
  have := x.isLt
  omega
theorem mulU (x : BitVec 64) (n : Nat) : BitVec.ofInt 64 ((x.toNat : Int) * (n : Int)) = x * BitVec.ofNat 64 n := by
  apply BitVec.eq_of_toNat_eq
  rw [BitVec.toNat_ofInt, BitVec.toNat_mul, BitVec.toNat_ofNat, ← Int.natCast_mul]
  rw [show ((x.toNat * n : Nat) : Int) % ((2 ^ 64 : Nat) : Int) = ((x.toNat * n % 2 ^ 64 : Nat) : Int) from rfl, Int.toNat_natCast, Nat.mul_mod_mod]
theorem shrU (x : BitVec 64) : BitVec.ofInt 64 (Int.fdiv (x.toNat : Int) 4294967296) = x >>> 32 := by
  apply BitVec.eq_of_toNat_eq
  have := x.isLt
  rw [BitVec.toNat_ofInt, BitVec.toNat_ushiftRight, Nat.shiftRight_eq_div_pow, Int.fdiv_eq_ediv_of_nonneg _ (by decide)]
  omega
theorem stp_eq (s w : Int) : stp s w = ((fB (BitVec.ofInt 64 s ^^^ BitVec.ofInt 64 w)).toNat : Int) := by
  unfold stp fB
  generalize BitVec.ofInt 64 s ^^^ BitVec.ofInt 64 w = x
  simp only [wrapU, ofInt_nat]
  rw [show (15485907386658061715 : Int) = ((15485907386658061715 : Nat) : Int) from rfl, show (11562461410679940143 : Int) = ((11562461410679940143 : Nat) : Int) from rfl]
  simp only [mulU, ofInt_nat, shrU]
theorem xs_inv (a : BitVec 64) : (a ^^^ (a >>> 32)) ^^^ ((a ^^^ (a >>> 32)) >>> 32) = a := by
  rw [BitVec.ushiftRight_xor_distrib, ← BitVec.shiftRight_add]
  rw [show a >>> (32 + 32) = 0#64 from BitVec.ushiftRight_eq_zero (by decide)]
  simp [BitVec.xor_assoc]
theorem mul_inv {x y c d : BitVec 64} (h : c * d = 1#64) (e : x * c = y * c) : x = y := by
  have := congrArg (· * d) e
  simpa [BitVec.mul_assoc, h] using this
theorem fB_inj {x y : BitVec 64} (h : fB x = fB y) : x = y := by
  unfold fB at h
  have h1 := mul_inv (d := 10636502746458383055#64) (by decide) h
  have h2 : x * 15485907386658061715#64 = y * 15485907386658061715#64 := by
    rw [← xs_inv (x * 15485907386658061715#64), h1, xs_inv]
  exact mul_inv (d := 14982988110149298331#64) (by decide) h2
/-- Words. -/
def U6 (s : Int) : Prop := 0 ≤ s ∧ s < 18446744073709551616
theorem stp_U (s w : Int) : U6 (stp s w) := by
  rw [stp_eq]
  have := (fB (BitVec.ofInt 64 s ^^^ BitVec.ofInt 64 w)).isLt
  exact ⟨by omega, by omega⟩
theorem ofInt_inj {s t : Int} (hs : U6 s) (ht : U6 t) (h : BitVec.ofInt 64 s = BitVec.ofInt 64 t) : s = t := by
  have e := congrArg BitVec.toNat h
  rw [BitVec.toNat_ofInt, BitVec.toNat_ofInt] at e
  obtain ⟨h1, h2⟩ := hs
  obtain ⟨h3, h4⟩ := ht
  omega
theorem xor_inj_r {x y z : BitVec 64} (h : x ^^^ z = y ^^^ z) : x = y := by
  have := congrArg (· ^^^ z) h
  simpa [BitVec.xor_assoc] using this
theorem xor_inj_l {x y z : BitVec 64} (h : z ^^^ x = z ^^^ y) : x = y := by
  rw [BitVec.xor_comm z x, BitVec.xor_comm z y] at h; exact xor_inj_r h
theorem stp_s {s t w : Int} (hs : U6 s) (ht : U6 t) (h : stp s w = stp t w) : s = t := by
  rw [stp_eq, stp_eq] at h
  have e : fB (BitVec.ofInt 64 s ^^^ BitVec.ofInt 64 w) = fB (BitVec.ofInt 64 t ^^^ BitVec.ofInt 64 w) := BitVec.eq_of_toNat_eq (by omega)
  exact ofInt_inj hs ht (xor_inj_r (fB_inj e))
theorem stp_w {s v w : Int} (hv : U6 v) (hw : U6 w) (h : stp s v = stp s w) : v = w := by
  rw [stp_eq, stp_eq] at h
  have e : fB (BitVec.ofInt 64 s ^^^ BitVec.ofInt 64 v) = fB (BitVec.ofInt 64 s ^^^ BitVec.ofInt 64 w) := BitVec.eq_of_toNat_eq (by omega)
  exact ofInt_inj hv hw (xor_inj_l (fB_inj e))
theorem wU_U (n : Int) : U6 (wU n) := by
  unfold wU
  rw [wrapU]
  have := (BitVec.ofInt 64 n).isLt
  exact ⟨by omega, by omega⟩
theorem wU_inj {m n : Int} (hm : I64 m) (hn : I64 n) (h : wU m = wU n) : m = n := by
  have h : m % 18446744073709551616 = n % 18446744073709551616 := h
  obtain ⟨h1, h2⟩ := hm
  obtain ⟨h3, h4⟩ := hn
  omega
theorem dgF_U (c : Nat → Int) : ∀ n, U6 (dgF c n)
  | 0 => show U6 512970876019 from ⟨by decide, by decide⟩
  | n + 1 => stp_U _ _
theorem dgW_U (n : Nat) (c : Nat → Int) : U6 (dgW n c) := stp_U _ _
/-- One changed number changes the digest. -/
theorem dgF_one {c d : Nat → Int} {j : Nat} (hj : ∀ i, i ≠ j → c i = d i) (hc : I64 (c j)) (hd : I64 (d j)) (hne : c j ≠ d j) : ∀ n, j < n → dgF c n ≠ dgF d n
  | 0, h => by omega
  | n + 1, h => by
    intro e
    have e : stp (dgF c n) (wU (c n)) = stp (dgF d n) (wU (d n)) := e
    by_cases hn : j = n
    · subst hn
      have e0 : dgF c j = dgF d j := dgF_congr fun i hi => hj i (by omega)
      rw [e0] at e
      exact hne (wU_inj hc hd (stp_w (wU_U _) (wU_U _) e))
    · rw [hj n (by omega)] at e
      exact dgF_one hj hc hd hne n (by omega) (stp_s (dgF_U _ _) (dgF_U _ _) e)
theorem dgW_one {c d : Nat → Int} {j n : Nat} (hj : ∀ i, i ≠ j → c i = d i) (hc : I64 (c j)) (hd : I64 (d j)) (hne : c j ≠ d j) (h : j < n) : dgW n c ≠ dgW n d := fun e =>
  dgF_one hj hc hd hne n h (stp_s (dgF_U _ _) (dgF_U _ _) e)
end Go.Proofs.Ytpaejfeojdoikaa

namespace Go.Proofs.Ytpaejfeojdoikaa
open Go.Sx
set_option maxRecDepth 100000

theorem nx_fn0 {key : Int} {n : Nat} {f : Nat → Rel} {r : Rel} (hf : ∀ i, (f i).fn = 0) (hr : r.fn = 0) (i : Nat) : (nxF key n f r i).fn ≤ 1000000 := by
  unfold nxF
  cases decide (i < n)
  · show (newR key n f r).fn ≤ _
    rw [newR_fn, hr]; decide
  · show (f i).fn ≤ _
    rw [hf]; decide
theorem VB6.closed {a0 a1 a2 a3 b0 b1 b2 b3 c0 c1 c2 c3 : Int} (h : (VF a0 a1 ∧ VF a2 a3 ∧ VF b0 b1) ∧ (VF b2 b3 ∧ VF c0 c1 ∧ VF c2 c3)) : VB6 a0 a1 a2 a3 b0 b1 b2 b3 c0 c1 c2 c3 :=
  ⟨h.1.1, h.1.2.1, h.1.2.2, h.2.1, h.2.2.1, h.2.2.2⟩
theorem i64_two : I64C 2 fun i j => dsAt [DV.x (.int .i64 (0 : Int)), DV.x (.int .i64 (0 : Int))] (0 + (0 + i) * 1 + j) := ⟨by decide, fun i hi => by
  match i, hi with
  | 0, _ => rfl
  | 1, _ => rfl
  | k + 2, h => exact absurd h (by omega)⟩
theorem ex46 : (autoC Try.prog CEx 200 31 .run []).ev (bv true) := by
  rw [XEr_eq]; unfold XEr
  repeat' (first
    | exact rfl
    | refine sat_step (by decide +kernel) ?_
    | refine sat_step ⟨by decide, fun i hi => absurd hi (Nat.not_lt_zero _)⟩ ?_
    | refine sat_step ⟨⟨by decide, fun i hi => absurd hi (Nat.not_lt_zero _)⟩, ⟨by decide, fun i hi => absurd hi (Nat.not_lt_zero _)⟩⟩ ?_
    | refine sat_step ⟨ChC.self (by decide) fun i hi => Nat.zero_le _, ⟨by decide, fun i hi => absurd hi (Nat.not_lt_zero _)⟩⟩ ?_
    | refine sat_step (ChC.self (by decide) fun i hi => nx_fn0 (fun _ => rfl) rfl i) ?_
    | refine sat_step i64_two ?_
    | refine sat_step ⟨VB6.closed (by decide +kernel), VB6.closed (by decide +kernel)⟩ ?_)
theorem cEx46_ok : CtrOK Try.prog 31 cTrue := (autoC_ok CEx_ok mixed 200 31 .run).mono fun ss r h => by
  unfold cTrue at h
  split at h
  · simp only [Tr.ev] at h; subst h; exact ex46
  · exact h.elim
theorem manRl_ok (k : Nat) (c : Ctr) (h : manRl ctR FM k = some c) : CtrOK Try.prog k c ∧ goodF Try.prog k = true := by
  unfold manRl at h
  split at h
  · cases h; exact ⟨cMkG_ok, by kernel_rfl⟩
  · cases h; exact ⟨cEx46_ok, by kernel_rfl⟩
  · cases h; exact ⟨cNw_ok, by kernel_rfl⟩
  · exact manQ_ok _ _ h
end Go.Proofs.Ytpaejfeojdoikaa

namespace Go.Proofs.Ytpaejfeojdoikaa
open Go.Sx
set_option maxRecDepth 100000

/-! ### Arguments -/
theorem okBB {ds : List DV} {n : Nat} (h : okT Try.prog (n + 3) 61 ds) : ∃ m ln c, BB m ln c ∧ leSVs 0 [] [] [svT Try.prog 61 ds] [.d (bbD m ln c)] := by
  unfold okT at h
  simp only [Try.underlying61] at h
  obtain ⟨m, cell, hm, rfl, hc⟩ := h
  have hc' : ∀ i, i < m → ∃ k c, cell i 0 = .ro k 1 c ∧ Byt k c := fun i hi => by
    obtain ⟨k, c, h1, h2⟩ := okBytes (hc i hi)
    refine ⟨k, c, ?_, h1⟩
    have e : (List.range (Try.prog.cellsOf 22)).map (cell i) = [cell i 0] := by rfl
    rw [e] at h2
    simpa using h2
  refine ⟨m, fun i => frN (cell i 0), fun i => roC (cell i 0), ⟨hm, fun i hi => ?_⟩, ?_⟩
  · obtain ⟨k, c, e, hb⟩ := hc' i hi
    simp only [e]; exact hb
  · have e : svT Try.prog 61 [.ro m (Try.prog.cellsOf 22) cell] = .d (.ro m 1 cell) := by rfl
    rw [e]
    simp only [leSVs, leSV, and_true]
    refine ⟨rfl, rfl, fun i j hi hj => ?_⟩
    obtain rfl : j = 0 := by omega
    obtain ⟨k, c, e, hb⟩ := hc' i hi
    simp only [e]; rfl
/-! ### ReleaseKeys -/
theorem mkR_good {key : Int} {c : Nat → Rel} {k : Nat} (hv : vdB (c k) = true) : goodR key (mkR key c) k = true := newR_good (mkR_new key c k) hv
theorem min6 (m : Nat) : min m 6 ≤ 6 := Nat.min_le_right _ _
theorem BBd.of {m : Nat} {ln : Nat → Nat} {c : Nat → Nat → Nat → DV} (hb : BB m ln c) : BBd m fun i _ => .ro (ln i) 1 (c i) := ⟨hb.1, fun i hi => ⟨_, _, rfl, hb.2 i hi⟩⟩
theorem mk_fn {key : Int} {m : Nat} {ln : Nat → Nat} {c : Nat → Nat → Nat → DV} (hb : BB m ln c) : ∀ i, i < min m 6 → (mkR key (ctC ln c) i).fn ≤ 1000000 := fun i hi => by
  rw [mkR_fn]; have := ctC_fn hb (k := i) (by omega); omega
theorem mk_vd {m : Nat} {ln : Nat → Nat} {c : Nat → Nat → Nat → DV} (hb : BB m ln c) : ∀ i, i < min m 6 → vdB (ctC ln c i) = true := fun i hi => ct_vd (hb.2 i (by omega))
end Go.Proofs.Ytpaejfeojdoikaa

namespace Go.Proofs.Ytpaejfeojdoikaa
open Go.Sx
set_option maxRecDepth 100000
set_option pp.structureInstances false

abbrev GT := Rel → Int → Int → Rel
abbrev CT := (Nat → Nat → DV) → Nat → Rel
abbrev LT := List SV → Rel
def relP (l : List SV) : Prop := ∃ r p, relOf l = some (r, p) ∧ p
noncomputable def relR (l : List SV) : Rel := match relOf l with
  | some (r, _) => r
  | none => zR
noncomputable def cCkG (C : CT) : Ctr := fun ss => match ss with
  | [.d (.x (.int .u64 key)), .d d] => match rowD 20 d with
    | some (n, cell) => .need (ChC n cell) (.ret (iv (ckV key n (C cell))))
    | none => .fail
  | _ => .fail
noncomputable def cSmG (L : LT) : Ctr := fun ss => match ss with
  | [.agg l, .agg m] => .need (relP l ∧ relP m) (.ret (bv (smB (L l) (L m))))
  | _ => .fail
end Go.Proofs.Ytpaejfeojdoikaa

namespace Go.Proofs.Ytpaejfeojdoikaa
open Go.Sx
set_option maxRecDepth 100000

/-! ### A release of which one number is another one -/
def chJ (r : Rel) (v : Int) : Nat → Rel
  | 0 => { r with b0 := v }
  | 1 => { r with b1 := v }
  | 2 => { r with b2 := v }
  | 3 => { r with b3 := v }
  | 4 => { r with b4 := v }
  | 5 => { r with b5 := v }
  | 6 => { r with b6 := v }
  | 7 => { r with b7 := v }
  | 8 => { r with b8 := v }
  | 9 => { r with b9 := v }
  | 10 => { r with b10 := v }
  | 11 => { r with b11 := v }
  | 12 => { r with pn := v }
  | 13 => { r with pd := v }
  | _ => { r with tag := wU v }
def chI (r : Rel) (v : Int) (i : Nat) : Rel :=
  if i = 0 then { r with no := v } else if i = 1 then { r with prev := wU v } else if i = 2 then { r with src := wU v } else if i = 3 then { r with cir := wU v }
  else if i < 4 + r.fn then { r with fc := fun a => if a = i - 4 then wU v else r.fc a } else chJ r v (i - 4 - r.fn)
def chR : GT := fun r k v => chI r v (k % (19 + r.fn)).toNat

end Go.Proofs.Ytpaejfeojdoikaa

namespace Go.Proofs.Ytpaejfeojdoikaa
open Go.Sx
set_option maxRecDepth 100000

/-! ### One changed number -/
/-- What is known of a release of which one number is another one. -/
structure One (X r : Rel) : Prop where
  fn : X.fn = r.fn
  alt : (∃ j, j < 19 + r.fn ∧ X.tag = r.tag ∧ (∀ t, t ≠ j → numN X t = numN r t) ∧ I64 (numN X j) ∧ I64 (numN r j) ∧ (numN X j = numN r j → X = r)) ∨ ((∀ t, numN X t = numN r t) ∧ (X.tag = r.tag → X = r))
theorem getD_set {l : List Int} {j s : Nat} {v : Int} (hj : j < l.length) : (l.set j v).getD s 0 = if s = j then v else l.getD s 0 := by
  rw [List.getD_eq_getElem?_getD, List.getElem?_set, List.getD_eq_getElem?_getD]
  by_cases h : s = j
  · subst h; simp [hj]
  · rw [if_neg (by omega), if_neg h]
theorem smB_self (r : Rel) : smB r r = true := by
  unfold smB eqI
  simp only [Bool.and_eq_true, beq_iff_eq, true_and, and_true]
  exact eqF_iff.2 fun i _ => rfl
theorem One.tag {X r : Rel} (h : One X r) {key : Int} (ht : r.tag = stp key (dig r)) : smB X r = false → X.tag ≠ stp key (dig X) := by
  intro hs e
  have hX : X ≠ r := fun h2 => by rw [h2, smB_self] at hs; cases hs
  rcases h.alt with ⟨j, hj, h1, h2, h3, h4, h5⟩ | ⟨h1, h2⟩
  · have hne : dig X ≠ dig r := by
      unfold dig
      rw [h.fn]
      exact dgW_one h2 h3 h4 (fun h6 => hX (h5 h6)) hj
    rw [h1, ht] at e
    exact hne (stp_w (dgW_U _ _) (dgW_U _ _) e).symm
  · have hd : dig X = dig r := by
      unfold dig
      rw [h.fn]
      exact dgW_congr fun i _ => h1 i
    rw [hd, ← ht] at e
    exact hX (h2 e)
end Go.Proofs.Ytpaejfeojdoikaa

namespace Go.Proofs.Ytpaejfeojdoikaa
open Go.Sx
set_option maxRecDepth 100000

/-! ### ReleaseIntegrity -/
theorem relP_L {r : Rel} (h : r.fn ≤ 1000000) : relP (relL r) := ⟨r, _, rfl, U64C.self h⟩
theorem relP_le {l : List SV} (h : relP l) : leSVs 0 [] [] l (relL (relR l)) ∧ (relR l).fn ≤ 1000000 := by
  obtain ⟨r, p, h1, h2⟩ := h
  have e : relR l = r := by unfold relR; rw [h1]
  rw [e]; exact relOf_le h1 h2
theorem cSmG_ok : CtrOK Try.prog 38 (cSmG relR) := by
  refine ctrOK_leS CN_ok DN_ok (by kernel_rfl) (by kernel_rfl) fun ss r h => ?_
  unfold cSmG at h
  split at h
  · rename_i l m
    obtain ⟨⟨h1, h2⟩, rfl⟩ := h
    obtain ⟨h3, h4⟩ := relP_le h1
    obtain ⟨h5, h6⟩ := relP_le h2
    refine ⟨[.agg (relL (relR l)), .agg (relL (relR m))], 200, .nil, ?_, Sat.of_eq (LSm_eq (relR l) (relR m)) ⟨?_⟩⟩
    · simp only [leSVs, leSV, and_true]; exact ⟨h3, h5⟩
    · unfold LSm
      exact ⟨U64C.self h4, U64C.self h6, ⟨I64C.self (by omega), I64C.self (by omega)⟩, rfl⟩
  · exact h.elim
theorem ckB_congr {key : Int} {f g : Nat → Rel} : ∀ {n : Nat}, (∀ i, i < n → f i = g i) → ckB key f n = ckB key g n
  | 0, _ => rfl
  | n + 1, h => by
    have e : goodR key f n = goodR key g n := by
      unfold goodR
      have e1 : prevN f n = prevN g n := by
        cases n with
        | zero => rfl
        | succ k => show dig (f k) = dig (g k); rw [h k (by omega)]
      rw [e1, h n (by omega)]
    show (ckB key f n && goodR key f n) = (ckB key g n && goodR key g n)
    rw [e, ckB_congr fun i hi => h i (by omega)]
theorem ckV_congr {key : Int} {n : Nat} {f g : Nat → Rel} (h : ∀ i, i < n → f i = g i) : ckV key n f = ckV key n g := by
  unfold ckV; rw [ckB_congr h]
theorem mk_no {key : Int} {c : Nat → Rel} {i : Nat} : (mkR key c i).no = (i : Int) + 1 := by rw [mkR_new]; rfl
end Go.Proofs.Ytpaejfeojdoikaa

namespace Go.Proofs.Ytpaejfeojdoikaa
open Go.Sx
set_option maxRecDepth 100000

section
variable (key : Int) (m : Nat) (ln : Nat → Nat) (c : Nat → Nat → Nat → DV) (a b v : Int)
/-- The place of the changed release. -/
def i8 (m : Nat) (a : Int) : Nat := (Int.tmod (w64 (↑(BitVec.toNat (BitVec.ofInt 64 a &&& BitVec.ofInt 64 (255 : Int))) : Int)) ((min m 6 : Nat) : Int)).toNat
noncomputable def f8 : Nat → Rel := mkR key (ctC ln c)
noncomputable def x8 : Rel := chR (f8 key ln c (i8 m a)) (w64 (↑(BitVec.toNat (BitVec.ofInt 64 b &&& BitVec.ofInt 64 (255 : Int))) : Int)) v
noncomputable def g8 : Nat → Rel := fun i => if i = i8 m a then x8 key m ln c a b v else f8 key ln c i
noncomputable def h8 : Nat → Rel := fun i => if i < min m 6 then f8 key ln c i else f8 key ln c (i8 m a)
end
end Go.Proofs.Ytpaejfeojdoikaa

namespace Go.Proofs.Ytpaejfeojdoikaa
open Go.Sx
set_option maxRecDepth 100000

theorem f8_good {key : Int} {m : Nat} {ln : Nat → Nat} {c : Nat → Nat → Nat → DV} (hb : BB m ln c) {i : Nat} (hi : i < min m 6) : goodR key (f8 key ln c) i = true := mkR_good (mk_vd hb i hi)
theorem f8_ck {key : Int} {m : Nat} {ln : Nat → Nat} {c : Nat → Nat → Nat → DV} (hb : BB m ln c) : ckV key (min m 6) (f8 key ln c) = 0 := mkR_ck (by have := min6 m; omega) (mk_vd hb)
end Go.Proofs.Ytpaejfeojdoikaa

namespace Go.Proofs.Ytpaejfeojdoikaa
open Go.Sx
set_option maxRecDepth 100000
set_option pp.structureInstances false

noncomputable def cNiG (C : CT) (L : LT) : Ctr := fun ss => match ss with
  | [.d (.x (.int .u64 key)), .d d, .agg l] => match rowD 20 d with
    | some (n, cell) => .need (ChC n cell ∧ relP l) (.ret (.agg [.d (chD (nxN key n (C cell) (L l)) (nxF key n (C cell) (L l))), iv (nxE key n (C cell) (L l))]))
    | _ => .fail
  | _ => .fail
noncomputable def cSeG (C : CT) : Ctr := fun ss => match ss with
  | [.d d, .d e] => match rowD 20 d, rowD 20 e with
    | some (n, c1), some (m, c2) => .need (ChC n c1 ∧ ChC m c2) (.ret (bv (seB n m (C c1) (C c2))))
    | _, _ => .fail
  | _ => .fail
noncomputable def cFdG (C : CT) : Ctr := fun ss => match ss with
  | [.d d, .d (.x (.int .i64 no))] => match rowD 20 d with
    | some (n, cell) => .need (ChC n cell) (.ret (.agg [iv (fiR n (C cell) no).no, u64v (fiR n (C cell) no).prev, u64v (fiR n (C cell) no).src, u64v (fiR n (C cell) no).cir, rou64 (fiR n (C cell) no).fn (fiR n (C cell) no).fc, iv (fiR n (C cell) no).b0, iv (fiR n (C cell) no).b1, iv (fiR n (C cell) no).b2, iv (fiR n (C cell) no).b3, iv (fiR n (C cell) no).b4, iv (fiR n (C cell) no).b5, iv (fiR n (C cell) no).b6, iv (fiR n (C cell) no).b7, iv (fiR n (C cell) no).b8, iv (fiR n (C cell) no).b9, iv (fiR n (C cell) no).b10, iv (fiR n (C cell) no).b11, iv (fiR n (C cell) no).pn, iv (fiR n (C cell) no).pd, u64v (fiR n (C cell) no).tag, iv (fiE n (C cell) no)]))
    | none => .fail
  | _ => .fail
noncomputable def manTl (ct : Nat → (Nat → Int) → Rel) (F : FT) (C : CT) (L : LT) : FuncId → Option Ctr := fun k => match k with
  | 36 => some (cCkG C)
  | 38 => some (cSmG L)
  | 34 => some (cNiG C L)
  | 35 => some (cSeG C)
  | 37 => some (cFdG C)
  | k => manRl ct F k
noncomputable def CTl (ct : Nat → (Nat → Int) → Rel) (F : FT) (C : CT) (L : LT) : Ctx := ctxO Try.prog (manTl ct F C L) ownL (fun k => false) 200 .nil 6
noncomputable def DTl (ct : Nat → (Nat → Int) → Rel) (F : FT) (C : CT) (L : LT) : Dr := fun _ => drawn Try.prog (CTl ct F C L)
noncomputable def TTl (ct : Nat → (Nat → Int) → Rel) (F : FT) (C : CT) (L : LT) (h : Hint) (k : Nat) (args : List SV) : Tree SV := fnT Try.prog (CTl ct F C L) (DTl ct F C L) 200 (fnOf Try.prog k) (bodyOf Try.prog k) args h
noncomputable def t6 (ct : Nat → (Nat → Int) → Rel) (F : FT) (C : CT) (L : LT) (key : Int) (m : Nat) (ln : Nat → Nat) (c : Nat → Nat → Nat → DV) (n : Nat) (d : Nat → Nat → DV) : Tree SV := TTl ct F C L .nil 6 [u64v key, .d (bbD m ln c), .d (.ro n 1 d)]
noncomputable def L6r_q1 (ln : Nat → Nat) (c : Nat → Nat → Nat → DV) (i : Nat) (x : Nat) : DV :=
  DV.ro (ln i) 1 (c i)
noncomputable def L6r_q2 (ln : Nat → Nat) (c : Nat → Nat → Nat → DV) (i : Nat) (x : Nat) : DV :=
  DV.ro (ln i) (1 : Nat) (c i)
noncomputable def L6r_q3 (F : FT) (key : Int) (m : Nat) (ln : Nat → Nat) (c : Nat → Nat → Nat → DV) (i : Nat) (j : Nat) : DV :=
  relD (F key m (L6r_q2 ln c) i) j
noncomputable def L6r_q4 (ct : Nat → (Nat → Int) → Rel) (n : Nat) (d : Nat → Nat → DV) (i : Nat) (x : Nat) : DV :=
  DV.x (.int .u64 (Rel.fc (ct n (intCell d)) i))
noncomputable def L6r_q5 (ct : Nat → (Nat → Int) → Rel) (L : LT) (n : Nat) (d : Nat → Nat → DV) : Rel :=
  L
  [iv (Rel.no (ct n (intCell d))), SV.d (DV.x (.int .u64 (Rel.prev (ct n (intCell d))))), SV.d (DV.x (.int .u64 (Rel.src (ct n (intCell d))))), SV.d (DV.x (.int .u64 (Rel.cir (ct n (intCell d))))),
   SV.d (DV.ro (Rel.fn (ct n (intCell d))) (1 : Nat) (L6r_q4 ct n d)), iv (Rel.b0 (ct n (intCell d))), iv (Rel.b1 (ct n (intCell d))), iv (Rel.b2 (ct n (intCell d))), iv (Rel.b3 (ct n (intCell d))),
   iv (Rel.b4 (ct n (intCell d))), iv (Rel.b5 (ct n (intCell d))), iv (Rel.b6 (ct n (intCell d))), iv (Rel.b7 (ct n (intCell d))), iv (Rel.b8 (ct n (intCell d))), iv (Rel.b9 (ct n (intCell d))), iv (Rel.b10 (ct n (intCell d))),
   iv (Rel.b11 (ct n (intCell d))), iv (Rel.pn (ct n (intCell d))), iv (Rel.pd (ct n (intCell d))), SV.d (DV.x (.int .u64 (Rel.tag (ct n (intCell d)))))]
noncomputable def L6r_q6 (ct : Nat → (Nat → Int) → Rel) (F : FT) (C : CT) (L : LT) (key : Int) (m : Nat) (ln : Nat → Nat) (c : Nat → Nat → Nat → DV) (n : Nat) (d : Nat → Nat → DV) : Bool :=
  nxE key (min m 6) (C (L6r_q3 F key m ln c)) (L6r_q5 ct L n d) != (0 : Int) ||
  (↑(nxN key (min m 6) (C (L6r_q3 F key m ln c)) (L6r_q5 ct L n d)) : Int) != w64 ((↑(min m 6) : Int) + (1 : Int))
noncomputable def L6r_q7 (ct : Nat → (Nat → Int) → Rel) (F : FT) (C : CT) (L : LT) (key : Int) (m : Nat) (ln : Nat → Nat) (c : Nat → Nat → Nat → DV) (n : Nat) (d : Nat → Nat → DV) (i : Nat) (j : Nat) : DV :=
  relD (nxF key (min m 6) (C (L6r_q3 F key m ln c)) (L6r_q5 ct L n d) (0 + i)) j
noncomputable def L6r_q8 (ct : Nat → (Nat → Int) → Rel) (F : FT) (C : CT) (L : LT) (key : Int) (m : Nat) (ln : Nat → Nat) (c : Nat → Nat → Nat → DV) (n : Nat) (d : Nat → Nat → DV) (i : Nat) (j : Nat) : DV :=
  relD (nxF key (min m (6 : Nat)) (C (L6r_q3 F key m ln c)) (L6r_q5 ct L n d) ((0 : Nat) + i)) j
noncomputable def L6r_q9 (ct : Nat → (Nat → Int) → Rel) (F : FT) (C : CT) (L : LT) (key : Int) (m : Nat) (ln : Nat → Nat) (c : Nat → Nat → Nat → DV) (n : Nat) (d : Nat → Nat → DV) : Bool :=
  L6r_q6 ct F C L key m ln c n d || !seB (Int.toNat (↑(min m 6) : Int) - 0) (min m 6) (C (L6r_q8 ct F C L key m ln c n d)) (C (L6r_q3 F key m ln c))
noncomputable def L6r_q10 (ct : Nat → (Nat → Int) → Rel) (F : FT) (C : CT) (L : LT) (key : Int) (m : Nat) (ln : Nat → Nat) (c : Nat → Nat → Nat → DV) (n : Nat) (d : Nat → Nat → DV) (i : Nat) (j : Nat) : DV :=
  relD (nxF key (min m 6) (C (L6r_q3 F key m ln c)) (L6r_q5 ct L n d) i) j
noncomputable def L6r_q11 (ct : Nat → (Nat → Int) → Rel) (F : FT) (C : CT) (L : LT) (key : Int) (m : Nat) (ln : Nat → Nat) (c : Nat → Nat → Nat → DV) (n : Nat) (d : Nat → Nat → DV) (i : Nat) (j : Nat) : DV :=
  relD (nxF key (min m (6 : Nat)) (C (L6r_q3 F key m ln c)) (L6r_q5 ct L n d) i) j
noncomputable def L6r (ct : Nat → (Nat → Int) → Rel) (F : FT) (C : CT) (L : LT) (key : Int) (m : Nat) (ln : Nat → Nat) (c : Nat → Nat → Nat → DV) (n : Nat) (d : Nat → Nat → DV) : Tree SV :=
  .ite false (.ret (bv false))
  (.need (BBd m (L6r_q1 ln c))
   (.need (Byt n d)
   (.need
   (ChC (min m 6) (L6r_q3 F key m ln c) ∧
   relP
   [iv (Rel.no (ct n (intCell d))), SV.d (DV.x (.int .u64 (Rel.prev (ct n (intCell d))))), SV.d (DV.x (.int .u64 (Rel.src (ct n (intCell d))))),
   SV.d (DV.x (.int .u64 (Rel.cir (ct n (intCell d))))), SV.d (DV.ro (Rel.fn (ct n (intCell d))) (1 : Nat) (L6r_q4 ct n d)), iv (Rel.b0 (ct n (intCell d))), iv (Rel.b1 (ct n (intCell d))),
   iv (Rel.b2 (ct n (intCell d))), iv (Rel.b3 (ct n (intCell d))), iv (Rel.b4 (ct n (intCell d))), iv (Rel.b5 (ct n (intCell d))), iv (Rel.b6 (ct n (intCell d))), iv (Rel.b7 (ct n (intCell d))), iv (Rel.b8 (ct n (intCell d))),
   iv (Rel.b9 (ct n (intCell d))), iv (Rel.b10 (ct n (intCell d))), iv (Rel.b11 (ct n (intCell d))), iv (Rel.pn (ct n (intCell d))), iv (Rel.pd (ct n (intCell d))),
   SV.d (DV.x (.int .u64 (Rel.tag (ct n (intCell d)))))])
   (.need
   (L6r_q6 ct F C L key m ln c n d = false →
   ((0 : Int) ≤ (↑(min m 6) : Int) ∧ Int.toNat (↑(min m 6) : Int) ≤ nxN key (min m 6) (C (L6r_q3 F key m ln c)) (L6r_q5 ct L n d)) ∧ True)
   (.need (L6r_q6 ct F C L key m ln c n d = false → ChC (Int.toNat (↑(min m 6) : Int) - 0) (L6r_q7 ct F C L key m ln c n d) ∧ ChC (min m 6) (L6r_q3 F key m ln c))
   (.need (L6r_q9 ct F C L key m ln c n d = false → ChC (nxN key (min m 6) (C (L6r_q3 F key m ln c)) (L6r_q5 ct L n d)) (L6r_q10 ct F C L key m ln c n d))
   (.ite (L6r_q9 ct F C L key m ln c n d || ckV key (nxN key (min m 6) (C (L6r_q3 F key m ln c)) (L6r_q5 ct L n d)) (C (L6r_q11 ct F C L key m ln c n d)) != (0 : Int))
   (.ret (bv false))
   (.code (codeC (sub [(1 : Nat), (0 : Nat), (0 : Nat), (0 : Nat), (0 : Nat), (0 : Nat), (0 : Nat), (1 : Nat)] (t6 ct F C L key m ln c n d)))
   (codeS (sub [(1 : Nat), (0 : Nat), (0 : Nat), (0 : Nat), (0 : Nat), (0 : Nat), (0 : Nat), (1 : Nat)] (t6 ct F C L key m ln c n d)))
   (codeK (sub [(1 : Nat), (0 : Nat), (0 : Nat), (0 : Nat), (0 : Nat), (0 : Nat), (0 : Nat), (1 : Nat)] (t6 ct F C L key m ln c n d)))))))))))

theorem L6r_eq (ct : Nat → (Nat → Int) → Rel) (F : FT) (C : CT) (L : LT) (key : Int) (m : Nat) (ln : Nat → Nat) (c : Nat → Nat → Nat → DV) (n : Nat) (d : Nat → Nat → DV) : t6 ct F C L key m ln c n d = L6r ct F C L key m ln c n d := by kernel_rfl

noncomputable def inv6 (key : Int) (M : Nat) (f : Nat → Rel) (r : Rel) (N : Nat) (G : Nat → Rel) (E : Int) (k : Nat) : AS := ⟨[.ok (u64v key), .unk, .unk, .unk, .unk, .unk, .unk, .ok (bv true), .ok (.d (chD M f)), .ok (.ptr 0 0), .ok (.ptr 2 0), .ok (iv k)] ++ List.replicate 117 .unk, [some (.cells (relL r)), none, some (.cells [.d (chD N G), iv E]), none], 4, .nil⟩
noncomputable def body6 : Code := loopN (bodyOf Try.prog 6) 0
noncomputable def B6r_q1 (G : Nat → Rel) (i : Nat) (j : Nat) : DV :=
  relD (G i) j
noncomputable def B6r_q2 (G : Nat → Rel) (i : Nat) (j : Nat) : DV :=
  relD (G ((0 : Nat) + i)) j
noncomputable def B6r_q3 (C : CT) (key : Int) (N : Nat) (G : Nat → Rel) (k : Nat) : Bool :=
  ckV key (Int.toNat (↑k : Int) - 0) (C (B6r_q2 G)) != (0 : Int) || fiE N (C (B6r_q1 G)) (w64 ((↑k : Int) + (1 : Int))) != (0 : Int)
noncomputable def B6r_q4 (C : CT) (N : Nat) (G : Nat → Rel) (k : Nat) : Rel :=
  fiR N (C (B6r_q1 G)) (w64 ((↑k : Int) + (1 : Int)))
noncomputable def B6r_q5 (C : CT) (N : Nat) (G : Nat → Rel) (k : Nat) (i : Nat) (x : Nat) : DV :=
  DV.x (.int .u64 (Rel.fc (B6r_q4 C N G k) i))
noncomputable def B6r_q6 (G : Nat → Rel) (k : Nat) (i : Nat) (x : Nat) : DV :=
  DV.x (.int .u64 (Rel.fc (G (Int.toNat (↑k : Int))) i))
noncomputable def B6r_q7 (f : Nat → Rel) (i : Nat) (j : Nat) : DV :=
  relD (f i) j
noncomputable def B6r_q8 (r : Rel) (i : Nat) (x : Nat) : DV :=
  DV.x (.int .u64 (Rel.fc r i))
noncomputable def B6r (ct : Nat → (Nat → Int) → Rel) (F : FT) (C : CT) (L : LT) (key : Int) (M : Nat) (f : Nat → Rel) (r : Rel) (N : Nat) (G : Nat → Rel) (E : Int) (k : Nat) : Tree (Ex × AS) :=
  .ite (decide ((↑k : Int) < (↑N : Int)))
  (.need (ChC N (B6r_q1 G))
   (.need (((0 : Int) ≤ (↑k : Int) ∧ Int.toNat (↑k : Int) ≤ N) ∧ True)
   (.need (ChC (Int.toNat (↑k : Int) - 0) (B6r_q2 G))
   (.need (B6r_q3 C key N G k = false → (0 : Int) ≤ (↑k : Int) ∧ (↑k : Int) < (↑N : Int))
   (.need
   (B6r_q3 C key N G k = false →
   relP
   [iv (Rel.no (B6r_q4 C N G k)), SV.d (DV.x (.int .u64 (Rel.prev (B6r_q4 C N G k)))), SV.d (DV.x (.int .u64 (Rel.src (B6r_q4 C N G k)))),
   SV.d (DV.x (.int .u64 (Rel.cir (B6r_q4 C N G k)))), SV.d (DV.ro (Rel.fn (B6r_q4 C N G k)) (1 : Nat) (B6r_q5 C N G k)), iv (Rel.b0 (B6r_q4 C N G k)),
   iv (Rel.b1 (B6r_q4 C N G k)), iv (Rel.b2 (B6r_q4 C N G k)), iv (Rel.b3 (B6r_q4 C N G k)), iv (Rel.b4 (B6r_q4 C N G k)), iv (Rel.b5 (B6r_q4 C N G k)),
   iv (Rel.b6 (B6r_q4 C N G k)), iv (Rel.b7 (B6r_q4 C N G k)), iv (Rel.b8 (B6r_q4 C N G k)), iv (Rel.b9 (B6r_q4 C N G k)), iv (Rel.b10 (B6r_q4 C N G k)),
   iv (Rel.b11 (B6r_q4 C N G k)), iv (Rel.pn (B6r_q4 C N G k)), iv (Rel.pd (B6r_q4 C N G k)), SV.d (DV.x (.int .u64 (Rel.tag (B6r_q4 C N G k))))] ∧
   relP
   [iv (Rel.no (G (Int.toNat (↑k : Int)))), SV.d (DV.x (.int .u64 (Rel.prev (G (Int.toNat (↑k : Int)))))), SV.d (DV.x (.int .u64 (Rel.src (G (Int.toNat (↑k : Int)))))),
   SV.d (DV.x (.int .u64 (Rel.cir (G (Int.toNat (↑k : Int)))))), SV.d (DV.ro (Rel.fn (G (Int.toNat (↑k : Int)))) (1 : Nat) (B6r_q6 G k)), iv (Rel.b0 (G (Int.toNat (↑k : Int)))),
   iv (Rel.b1 (G (Int.toNat (↑k : Int)))), iv (Rel.b2 (G (Int.toNat (↑k : Int)))), iv (Rel.b3 (G (Int.toNat (↑k : Int)))), iv (Rel.b4 (G (Int.toNat (↑k : Int)))), iv (Rel.b5 (G (Int.toNat (↑k : Int)))),
   iv (Rel.b6 (G (Int.toNat (↑k : Int)))), iv (Rel.b7 (G (Int.toNat (↑k : Int)))), iv (Rel.b8 (G (Int.toNat (↑k : Int)))), iv (Rel.b9 (G (Int.toNat (↑k : Int)))), iv (Rel.b10 (G (Int.toNat (↑k : Int)))),
   iv (Rel.b11 (G (Int.toNat (↑k : Int)))), iv (Rel.pn (G (Int.toNat (↑k : Int)))), iv (Rel.pd (G (Int.toNat (↑k : Int)))), SV.d (DV.x (.int .u64 (Rel.tag (G (Int.toNat (↑k : Int))))))])
   (.ite
   (B6r_q3 C key N G k ||
   !smB
   (L
   [iv (Rel.no (B6r_q4 C N G k)), SV.d (DV.x (.int .u64 (Rel.prev (B6r_q4 C N G k)))), SV.d (DV.x (.int .u64 (Rel.src (B6r_q4 C N G k)))),
   SV.d (DV.x (.int .u64 (Rel.cir (B6r_q4 C N G k)))), SV.d (DV.ro (Rel.fn (B6r_q4 C N G k)) (1 : Nat) (B6r_q5 C N G k)), iv (Rel.b0 (B6r_q4 C N G k)),
   iv (Rel.b1 (B6r_q4 C N G k)), iv (Rel.b2 (B6r_q4 C N G k)), iv (Rel.b3 (B6r_q4 C N G k)), iv (Rel.b4 (B6r_q4 C N G k)), iv (Rel.b5 (B6r_q4 C N G k)),
   iv (Rel.b6 (B6r_q4 C N G k)), iv (Rel.b7 (B6r_q4 C N G k)), iv (Rel.b8 (B6r_q4 C N G k)), iv (Rel.b9 (B6r_q4 C N G k)), iv (Rel.b10 (B6r_q4 C N G k)),
   iv (Rel.b11 (B6r_q4 C N G k)), iv (Rel.pn (B6r_q4 C N G k)), iv (Rel.pd (B6r_q4 C N G k)), SV.d (DV.x (.int .u64 (Rel.tag (B6r_q4 C N G k))))])
   (L
   [iv (Rel.no (G (Int.toNat (↑k : Int)))), SV.d (DV.x (.int .u64 (Rel.prev (G (Int.toNat (↑k : Int)))))), SV.d (DV.x (.int .u64 (Rel.src (G (Int.toNat (↑k : Int)))))),
   SV.d (DV.x (.int .u64 (Rel.cir (G (Int.toNat (↑k : Int)))))), SV.d (DV.ro (Rel.fn (G (Int.toNat (↑k : Int)))) (1 : Nat) (B6r_q6 G k)), iv (Rel.b0 (G (Int.toNat (↑k : Int)))),
   iv (Rel.b1 (G (Int.toNat (↑k : Int)))), iv (Rel.b2 (G (Int.toNat (↑k : Int)))), iv (Rel.b3 (G (Int.toNat (↑k : Int)))), iv (Rel.b4 (G (Int.toNat (↑k : Int)))), iv (Rel.b5 (G (Int.toNat (↑k : Int)))),
   iv (Rel.b6 (G (Int.toNat (↑k : Int)))), iv (Rel.b7 (G (Int.toNat (↑k : Int)))), iv (Rel.b8 (G (Int.toNat (↑k : Int)))), iv (Rel.b9 (G (Int.toNat (↑k : Int)))), iv (Rel.b10 (G (Int.toNat (↑k : Int)))),
   iv (Rel.b11 (G (Int.toNat (↑k : Int)))), iv (Rel.pn (G (Int.toNat (↑k : Int)))), iv (Rel.pd (G (Int.toNat (↑k : Int)))), SV.d (DV.x (.int .u64 (Rel.tag (G (Int.toNat (↑k : Int))))))]))
   (.ret
   (.ret,
   AS.mk
   [.ok (SV.d (DV.x (.int .u64 key))), .unk, .unk, .unk, .unk, .unk, .ok (bv false), .ok (bv true), .ok (SV.d (DV.ro M 20 (B6r_q7 f))),
   .ok (SV.ptr 0 0), .ok (SV.ptr 2 0), .ok (iv (↑k : Int)), .unk, .unk, .unk, .unk, .unk, .unk, .unk, .unk, .unk, .unk, .unk, .unk, .unk, .unk,
   .unk, .unk, .unk, .unk, .unk, .unk, .unk, .unk, .unk, .unk, .unk, .unk, .unk, .unk, .unk, .unk, .unk, .unk, .unk, .unk, .unk, .unk, .unk, .unk, .unk, .unk, .unk,
   .unk, .unk, .unk, .unk, .unk, .unk, .unk, .unk, .unk, .unk, .unk, .unk, .unk, .unk, .unk, .unk, .unk, .unk, .unk, .unk, .unk, .unk, .unk, .unk, .unk, .unk, .unk,
   .unk, .unk, .unk, .unk, .unk, .unk, .unk, .unk, .unk, .unk, .unk, .unk, .unk, .unk, .unk, .unk, .unk, .unk, .unk, .unk, .unk, .unk, .unk, .unk, .unk, .unk, .unk,
   .unk, .unk, .unk, .unk, .unk, .unk, .unk, .unk, .unk, .unk, .unk, .unk, .unk, .unk, .unk, .unk, .unk, .unk, .unk, .unk, .unk, .unk]
   [some
   (.cells
   [iv (Rel.no r), SV.d (DV.x (.int .u64 (Rel.prev r))), SV.d (DV.x (.int .u64 (Rel.src r))), SV.d (DV.x (.int .u64 (Rel.cir r))),
   SV.d (DV.ro (Rel.fn r) 1 (B6r_q8 r)), iv (Rel.b0 r), iv (Rel.b1 r), iv (Rel.b2 r), iv (Rel.b3 r), iv (Rel.b4 r), iv (Rel.b5 r), iv (Rel.b6 r), iv (Rel.b7 r), iv (Rel.b8 r), iv (Rel.b9 r),
   iv (Rel.b10 r), iv (Rel.b11 r), iv (Rel.pn r), iv (Rel.pd r), SV.d (DV.x (.int .u64 (Rel.tag r)))]),
   none, some (.cells [SV.d (DV.ro N 20 (B6r_q1 G)), iv E]), none]
   4 .nil))
   (.ret
   (.normal,
   AS.mk
   [.ok (SV.d (DV.x (.int .u64 key))), .unk, .unk, .unk, .unk, .unk, .unk, .ok (bv true), .ok (SV.d (DV.ro M 20 (B6r_q7 f))), .ok (SV.ptr 0 0),
   .ok (SV.ptr 2 0), .ok (iv (w64 ((↑k : Int) + (1 : Int)))), .unk, .unk, .unk, .unk, .unk, .unk, .unk, .unk, .unk, .unk, .unk, .unk, .unk, .unk, .unk, .unk, .unk,
   .unk, .unk, .unk, .unk, .unk, .unk, .unk, .unk, .unk, .unk, .unk, .unk, .unk, .unk, .unk, .unk, .unk, .unk, .unk, .unk, .unk, .unk, .unk, .unk, .unk, .unk, .unk,
   .unk, .unk, .unk, .unk, .unk, .unk, .unk, .unk, .unk, .unk, .unk, .unk, .unk, .unk, .unk, .unk, .unk, .unk, .unk, .unk, .unk, .unk, .unk, .unk, .unk, .unk, .unk,
   .unk, .unk, .unk, .unk, .unk, .unk, .unk, .unk, .unk, .unk, .unk, .unk, .unk, .unk, .unk, .unk, .unk, .unk, .unk, .unk, .unk, .unk, .unk, .unk, .unk, .unk, .unk,
   .unk, .unk, .unk, .unk, .unk, .unk, .unk, .unk, .unk, .unk, .unk, .unk, .unk, .unk, .unk, .unk, .unk, .unk, .unk]
   [some
   (.cells
   [iv (Rel.no r), SV.d (DV.x (.int .u64 (Rel.prev r))), SV.d (DV.x (.int .u64 (Rel.src r))), SV.d (DV.x (.int .u64 (Rel.cir r))),
   SV.d (DV.ro (Rel.fn r) 1 (B6r_q8 r)), iv (Rel.b0 r), iv (Rel.b1 r), iv (Rel.b2 r), iv (Rel.b3 r), iv (Rel.b4 r), iv (Rel.b5 r), iv (Rel.b6 r), iv (Rel.b7 r), iv (Rel.b8 r), iv (Rel.b9 r),
   iv (Rel.b10 r), iv (Rel.b11 r), iv (Rel.pn r), iv (Rel.pd r), SV.d (DV.x (.int .u64 (Rel.tag r)))]),
   none, some (.cells [SV.d (DV.ro N 20 (B6r_q1 G)), iv E]), none]
   4 .nil))))))))
  (.ret
   (.exit 0,
   AS.mk
   [.ok (SV.d (DV.x (.int .u64 key))), .unk, .unk, .unk, .unk, .unk, .unk, .ok (bv true), .ok (SV.d (DV.ro M 20 (B6r_q7 f))), .ok (SV.ptr 0 0),
   .ok (SV.ptr 2 0), .ok (iv (↑k : Int)), .unk, .unk, .unk, .unk, .unk, .unk, .unk, .unk, .unk, .unk, .unk, .unk, .unk, .unk, .unk, .unk, .unk, .unk, .unk, .unk, .unk,
   .unk, .unk, .unk, .unk, .unk, .unk, .unk, .unk, .unk, .unk, .unk, .unk, .unk, .unk, .unk, .unk, .unk, .unk, .unk, .unk, .unk, .unk, .unk, .unk, .unk, .unk, .unk, .unk,
   .unk, .unk, .unk, .unk, .unk, .unk, .unk, .unk, .unk, .unk, .unk, .unk, .unk, .unk, .unk, .unk, .unk, .unk, .unk, .unk, .unk, .unk, .unk, .unk, .unk, .unk, .unk, .unk,
   .unk, .unk, .unk, .unk, .unk, .unk, .unk, .unk, .unk, .unk, .unk, .unk, .unk, .unk, .unk, .unk, .unk, .unk, .unk, .unk, .unk, .unk, .unk, .unk, .unk, .unk, .unk, .unk,
   .unk, .unk, .unk, .unk, .unk, .unk, .unk, .unk, .unk, .unk, .unk, .unk]
   [some
   (.cells
   [iv (Rel.no r), SV.d (DV.x (.int .u64 (Rel.prev r))), SV.d (DV.x (.int .u64 (Rel.src r))), SV.d (DV.x (.int .u64 (Rel.cir r))), SV.d (DV.ro (Rel.fn r) 1 (B6r_q8 r)),
   iv (Rel.b0 r), iv (Rel.b1 r), iv (Rel.b2 r), iv (Rel.b3 r), iv (Rel.b4 r), iv (Rel.b5 r), iv (Rel.b6 r), iv (Rel.b7 r), iv (Rel.b8 r), iv (Rel.b9 r), iv (Rel.b10 r), iv (Rel.b11 r), iv (Rel.pn r), iv (Rel.pd r),
   SV.d (DV.x (.int .u64 (Rel.tag r)))]),
   none, some (.cells [SV.d (DV.ro N 20 (B6r_q1 G)), iv E]), none]
   4 .nil))

theorem B6r_eq (ct : Nat → (Nat → Int) → Rel) (F : FT) (C : CT) (L : LT) (key : Int) (M : Nat) (f : Nat → Rel) (r : Rel) (N : Nat) (G : Nat → Rel) (E : Int) (k : Nat) : cutT 4 [] [0, 6, 7, 8, 9, 10, 11] [1, 3] 4 .nil (exec Try.prog (CTl ct F C L) (DTl ct F C L) 200 body6 (inv6 key M f r N G E k)) = B6r ct F C L key M f r N G E k := by kernel_rfl

noncomputable def K6r_q1 (r : Rel) (i : Nat) (x : Nat) : DV :=
  DV.x (.int .u64 (Rel.fc r i))
noncomputable def K6r_q2 (M : Nat) (G : Nat → Rel) (i : Nat) (x : Nat) : DV :=
  DV.x (.int .u64 (Rel.fc (G (Int.toNat (↑M : Int))) i))
noncomputable def K6r_q3 (L : LT) (M : Nat) (r : Rel) (G : Nat → Rel) : Bool :=
  smB
  (L
   [iv (Rel.no (G (Int.toNat (↑M : Int)))), SV.d (DV.x (.int .u64 (Rel.prev (G (Int.toNat (↑M : Int)))))), SV.d (DV.x (.int .u64 (Rel.src r))), SV.d (DV.x (.int .u64 (Rel.cir r))),
   SV.d (DV.ro (Rel.fn r) (1 : Nat) (K6r_q1 r)), iv (Rel.b0 r), iv (Rel.b1 r), iv (Rel.b2 r), iv (Rel.b3 r), iv (Rel.b4 r), iv (Rel.b5 r), iv (Rel.b6 r), iv (Rel.b7 r), iv (Rel.b8 r), iv (Rel.b9 r), iv (Rel.b10 r),
   iv (Rel.b11 r), iv (Rel.pn r), iv (Rel.pd r), SV.d (DV.x (.int .u64 (Rel.tag (G (Int.toNat (↑M : Int))))))])
  (L
   [iv (Rel.no (G (Int.toNat (↑M : Int)))), SV.d (DV.x (.int .u64 (Rel.prev (G (Int.toNat (↑M : Int)))))), SV.d (DV.x (.int .u64 (Rel.src (G (Int.toNat (↑M : Int)))))),
   SV.d (DV.x (.int .u64 (Rel.cir (G (Int.toNat (↑M : Int)))))), SV.d (DV.ro (Rel.fn (G (Int.toNat (↑M : Int)))) (1 : Nat) (K6r_q2 M G)), iv (Rel.b0 (G (Int.toNat (↑M : Int)))),
   iv (Rel.b1 (G (Int.toNat (↑M : Int)))), iv (Rel.b2 (G (Int.toNat (↑M : Int)))), iv (Rel.b3 (G (Int.toNat (↑M : Int)))), iv (Rel.b4 (G (Int.toNat (↑M : Int)))), iv (Rel.b5 (G (Int.toNat (↑M : Int)))),
   iv (Rel.b6 (G (Int.toNat (↑M : Int)))), iv (Rel.b7 (G (Int.toNat (↑M : Int)))), iv (Rel.b8 (G (Int.toNat (↑M : Int)))), iv (Rel.b9 (G (Int.toNat (↑M : Int)))), iv (Rel.b10 (G (Int.toNat (↑M : Int)))),
   iv (Rel.b11 (G (Int.toNat (↑M : Int)))), iv (Rel.pn (G (Int.toNat (↑M : Int)))), iv (Rel.pd (G (Int.toNat (↑M : Int)))), SV.d (DV.x (.int .u64 (Rel.tag (G (Int.toNat (↑M : Int))))))])
noncomputable def K6r_q4 (G : Nat → Rel) (i : Nat) (j : Nat) : DV :=
  relD (G i) j
noncomputable def K6r_q5 (C : CT) (L : LT) (M : Nat) (r : Rel) (N : Nat) (G : Nat → Rel) : Bool :=
  K6r_q3 L M r G && fiE N (C (K6r_q4 G)) (w64 ((↑N : Int) + (1 : Int))) == (4 : Int)
noncomputable def K6r (ct : Nat → (Nat → Int) → Rel) (F : FT) (C : CT) (L : LT) (key : Int) (m : Nat) (ln : Nat → Nat) (c : Nat → Nat → Nat → DV) (n : Nat) (d : Nat → Nat → DV) (M : Nat) (f : Nat → Rel) (r : Rel) (N : Nat) (G : Nat → Rel) (E : Int) (k : Nat) : Tree SV :=
  .need ((0 : Int) ≤ (↑M : Int) ∧ (↑M : Int) < (↑N : Int))
  (.need
   (relP
   [iv (Rel.no (G (Int.toNat (↑M : Int)))), SV.d (DV.x (.int .u64 (Rel.prev (G (Int.toNat (↑M : Int)))))), SV.d (DV.x (.int .u64 (Rel.src r))), SV.d (DV.x (.int .u64 (Rel.cir r))),
   SV.d (DV.ro (Rel.fn r) (1 : Nat) (K6r_q1 r)), iv (Rel.b0 r), iv (Rel.b1 r), iv (Rel.b2 r), iv (Rel.b3 r), iv (Rel.b4 r), iv (Rel.b5 r), iv (Rel.b6 r), iv (Rel.b7 r), iv (Rel.b8 r), iv (Rel.b9 r), iv (Rel.b10 r),
   iv (Rel.b11 r), iv (Rel.pn r), iv (Rel.pd r), SV.d (DV.x (.int .u64 (Rel.tag (G (Int.toNat (↑M : Int))))))] ∧
   relP
   [iv (Rel.no (G (Int.toNat (↑M : Int)))), SV.d (DV.x (.int .u64 (Rel.prev (G (Int.toNat (↑M : Int)))))), SV.d (DV.x (.int .u64 (Rel.src (G (Int.toNat (↑M : Int)))))),
   SV.d (DV.x (.int .u64 (Rel.cir (G (Int.toNat (↑M : Int)))))), SV.d (DV.ro (Rel.fn (G (Int.toNat (↑M : Int)))) (1 : Nat) (K6r_q2 M G)), iv (Rel.b0 (G (Int.toNat (↑M : Int)))),
   iv (Rel.b1 (G (Int.toNat (↑M : Int)))), iv (Rel.b2 (G (Int.toNat (↑M : Int)))), iv (Rel.b3 (G (Int.toNat (↑M : Int)))), iv (Rel.b4 (G (Int.toNat (↑M : Int)))), iv (Rel.b5 (G (Int.toNat (↑M : Int)))),
   iv (Rel.b6 (G (Int.toNat (↑M : Int)))), iv (Rel.b7 (G (Int.toNat (↑M : Int)))), iv (Rel.b8 (G (Int.toNat (↑M : Int)))), iv (Rel.b9 (G (Int.toNat (↑M : Int)))), iv (Rel.b10 (G (Int.toNat (↑M : Int)))),
   iv (Rel.b11 (G (Int.toNat (↑M : Int)))), iv (Rel.pn (G (Int.toNat (↑M : Int)))), iv (Rel.pd (G (Int.toNat (↑M : Int)))), SV.d (DV.x (.int .u64 (Rel.tag (G (Int.toNat (↑M : Int))))))])
   (.need (K6r_q3 L M r G = true → ChC N (K6r_q4 G))
   (.need (K6r_q5 C L M r N G = true → ChC N (K6r_q4 G)) (.ret (bv (K6r_q5 C L M r N G && fiE N (C (K6r_q4 G)) (0 : Int) == (4 : Int) && true))))))

theorem K6r_eq (ct : Nat → (Nat → Int) → Rel) (F : FT) (C : CT) (L : LT) (key : Int) (m : Nat) (ln : Nat → Nat) (c : Nat → Nat → Nat → DV) (n : Nat) (d : Nat → Nat → DV) (M : Nat) (f : Nat → Rel) (r : Rel) (N : Nat) (G : Nat → Rel) (E : Int) (k : Nat) : codeK (sub [1, 0, 0, 0, 0, 0, 0, 1] (t6 ct F C L key m ln c n d)) (.exit 0) (inv6 key M f r N G E k) = K6r ct F C L key m ln c n d M f r N G E k := by kernel_rfl

end Go.Proofs.Ytpaejfeojdoikaa

namespace Go.Proofs.Ytpaejfeojdoikaa
open Go.Sx
set_option maxRecDepth 100000

/-! ### ReleaseChains -/
theorem cNiG_ok : CtrOK Try.prog 34 (cNiG relC relR) := by
  refine ctrOK_leR CQ_ok DQ_ok (by kernel_rfl) (by kernel_rfl) fun ss r h => ?_
  unfold cNiG at h
  split at h
  · rename_i key d l
    split at h
    · rename_i n cell hr1
      obtain ⟨⟨h1, h2⟩, rfl⟩ := h
      obtain ⟨h3, h4⟩ := relP_le h2
      refine ⟨[u64v key, .d (chD n (relC cell)), .agg (relL (relR l))], 200, .nil, ?_, Sat.of_eq (LNw_eq ctR key n (relC cell) (relR l)) ⟨?_⟩⟩
      · simp only [leSVs, leSV, u64v, and_true]; exact ⟨by simp [leD], h1.le hr1, h3⟩
      · unfold LNw
        refine ⟨⟨ChC.self h1.1 h1.fn, U64C.self h4⟩, ?_⟩
        exact agg2_le ⟨rfl, rfl, fun i j _ _ => rfl⟩
    · exact h.elim
  · exact h.elim
theorem manTl_ok (k : Nat) (c : Ctr) (h : manTl ctR FM relC relR k = some c) : CtrOK Try.prog k c ∧ goodF Try.prog k = true := by
  unfold manTl at h
  split at h
  · cases h; exact ⟨cCk_ok, by kernel_rfl⟩
  · cases h; exact ⟨cSmG_ok, by kernel_rfl⟩
  · cases h; exact ⟨cNiG_ok, by kernel_rfl⟩
  · cases h; exact ⟨cSe_ok, by kernel_rfl⟩
  · cases h; exact ⟨cFd_ok, by kernel_rfl⟩
  · exact manRl_ok _ _ h
theorem CTl_ok : CtxOK Try.prog (CTl ctR FM relC relR) := ctxO_ok mixed manTl_ok ownL_ok 6
theorem DTl_ok : DrOK Try.prog (CTl ctR FM relC relR) (DTl ctR FM relC relR) := drawn_ok CTl_ok mixed
structure LawT (k : Nat) (ss : List SV) : Prop where
  ok : ∃ h, (TTl ctR FM relC relR h k ss).sat Try.prog (· = bv true)
theorem law_ctrT {k : Nat} {okA : List SV → Prop} (hf : (Try.prog.funcs[k]?).isSome = true) (hb : (fnOf Try.prog k).body.isSome = true) (h : ∀ ss, okA ss → ∃ ss', leSVs 0 [] [] ss ss' ∧ LawT k ss') :
    ∃ c : Ctr, CtrOK Try.prog k c ∧ ∀ ss, okA ss → (c ss).ev (bv true) := by
  refine ⟨fun ss => .need (okA ss) (.ret (bv true)), ?_, fun ss hs => ⟨hs, rfl⟩⟩
  refine ctrOK_leS CTl_ok DTl_ok hf hb fun ss r hr => ?_
  obtain ⟨h1, rfl⟩ := hr
  obtain ⟨ss', h2, h3⟩ := h ss h1
  obtain ⟨hint, h4⟩ := h3.ok
  exact ⟨ss', 200, hint, h2, ⟨h4⟩⟩
theorem E6_eq (ct : Nat → (Nat → Int) → Rel) (F : FT) (C : CT) (L : LT) (key : Int) (m : Nat) (ln : Nat → Nat) (c : Nat → Nat → Nat → DV) (n : Nat) (d : Nat → Nat → DV) :
    entA 4 [] [0, 7, 8, 9, 10, 11] [1, 3] 4 .nil (sub [1, 0, 0, 0, 0, 0, 0, 1] (t6 ct F C L key m ln c n d)) = some (inv6 key (min m 6) (F key m fun i _ => .ro (ln i) 1 (c i)) (ct n (intCell d)) (nxN key (min m 6) (C (L6r_q3 F key m ln c)) (L6r_q5 ct L n d)) (nxF key (min m 6) (C (L6r_q3 F key m ln c)) (L6r_q5 ct L n d)) (nxE key (min m 6) (C (L6r_q3 F key m ln c)) (L6r_q5 ct L n d)) 0) := by kernel_rfl

theorem idx_found {N : Nat} {G : Nat → Rel} (hno : ∀ i, i < N → (G i).no = (i : Int) + 1) {k : Nat} (hk : k < N) : idxV N G ((k : Int) + 1) = k := by
  unfold idxV
  rcases posF_spec (f := G) (no := (k : Int) + 1) (n := N) N 0 (by omega) with ⟨_, h2⟩ | ⟨_, h2, h3⟩
  · exact absurd (hno k hk) (h2 k (by omega) hk)
  · rw [hno _ h2] at h3
    rw [if_neg (by omega)]
    omega
theorem idx_none {N : Nat} {G : Nat → Rel} {no : Int} (hno : ∀ i, i < N → (G i).no ≠ no) : idxV N G no = -1 := by
  unfold idxV
  rcases posF_spec (f := G) (no := no) (n := N) N 0 (by omega) with ⟨h1, _⟩ | ⟨_, h2, h3⟩
  · rw [if_pos h1]
  · exact absurd h3 (hno _ h2)
theorem fi_found {N : Nat} {G : Nat → Rel} (hno : ∀ i, i < N → (G i).no = (i : Int) + 1) {k : Nat} (hk : k < N) : fiR N G ((k : Int) + 1) = G k ∧ fiE N G ((k : Int) + 1) = 0 := by
  unfold fiR fiE
  rw [idx_found hno hk]
  rw [show decide ((k : Int) < 0) = false by simp only [decide_eq_false_iff_not]; omega]
  exact ⟨rfl, rfl⟩
theorem fi_none {N : Nat} {G : Nat → Rel} {no : Int} (hno : ∀ i, i < N → (G i).no ≠ no) : fiE N G no = 4 := by
  unfold fiE
  rw [idx_none hno]; rfl

/-- What the law knows of the chain with a further release. -/
structure Ch6 (key : Int) (M : Nat) (f : Nat → Rel) (r : Rel) (G : Nat → Rel) : Prop where
  le : M ≤ 6
  lt : ∀ i, i < M → G i = f i
  eq : G M = newR key M f r
  no : ∀ i, i < M + 1 → (G i).no = (i : Int) + 1
  ck : ∀ j, j ≤ M + 1 → ckV key j G = 0
  fn : ∀ i, i < M + 1 → (G i).fn ≤ 1000000
theorem ch6 {key : Int} {m : Nat} {ln : Nat → Nat} {c : Nat → Nat → Nat → DV} (hb : BB m ln c) {r : Rel} (hv : vdB r = true) (hf : r.fn ≤ 1000000) : Ch6 key (min m 6) (f8 key ln c) r (nxF key (min m 6) (f8 key ln c) r) := by
  have hlt : ∀ i, i < min m 6 → nxF key (min m 6) (f8 key ln c) r i = f8 key ln c i := fun i hi => nxF_lt hi
  have heq : nxF key (min m 6) (f8 key ln c) r (min m 6) = newR key (min m 6) (f8 key ln c) r := nxF_eq
  have hno : ∀ i, i < min m 6 + 1 → (nxF key (min m 6) (f8 key ln c) r i).no = (i : Int) + 1 := fun i hi => by
    by_cases h : i < min m 6
    · rw [hlt i h]; exact mk_no
    · obtain rfl : i = min m 6 := by omega
      rw [heq]; rfl
  have hfn : ∀ i, i < min m 6 + 1 → (nxF key (min m 6) (f8 key ln c) r i).fn ≤ 1000000 := fun i hi => by
    by_cases h : i < min m 6
    · rw [hlt i h]; exact mk_fn hb i h
    · obtain rfl : i = min m 6 := by omega
      rw [heq]; exact hf
  have hm := min6 m
  refine ⟨hm, hlt, heq, hno, fun j hj => ?_, hfn⟩
  have hg : ∀ i, i < min m 6 + 1 → goodR key (nxF key (min m 6) (f8 key ln c) r) i = true := fun i hi => by
    have e1 : prevN (nxF key (min m 6) (f8 key ln c) r) i = prevN (f8 key ln c) i := by
      cases i with
      | zero => rfl
      | succ k => show dig _ = dig _; rw [hlt k (by omega)]
    by_cases h : i < min m 6
    · have := f8_good (key := key) hb h
      unfold goodR at this ⊢
      rw [e1, hlt i h]; exact this
    · obtain rfl : i = min m 6 := by omega
      refine newR_good (r := r) ?_ hv
      rw [heq]
      unfold newR bR
      rw [e1]
  have : ckB key (nxF key (min m 6) (f8 key ln c) r) j = true := ckB_iff.2 fun i hi => hg i (by omega)
  unfold ckV
  rw [if_neg (by simp only [decide_eq_true_eq]; omega), this]
  rfl
theorem seB_self {n : Nat} {f g : Nat → Rel} (h : ∀ i, i < n → f i = g i) : seB n n f g = true := by
  unfold seB
  simp only [beq_self_eq_true, Bool.true_and]
  exact seF_iff.2 fun i hi => by rw [h i hi]; exact smB_self _
end Go.Proofs.Ytpaejfeojdoikaa

namespace Go.Proofs.Ytpaejfeojdoikaa
open Go.Sx
set_option maxRecDepth 100000

set_option maxHeartbeats 2000000 in
theorem law6 {key : Int} {m : Nat} {ln : Nat → Nat} {c : Nat → Nat → Nat → DV} (hb : BB m ln c) {n : Nat} {d : Nat → Nat → DV} (hd : Byt n d) : LawT 6 [u64v key, .d (bbD m ln c), .d (.ro n 1 d)] := by
  refine ⟨.nil, ?_⟩
  show (t6 ctR FM relC relR key m ln c n d).sat Try.prog (· = bv true)
  rw [L6r_eq]; unfold L6r
  have hv : vdB (ctR n (intCell d)) = true := ct_vd hd
  have hr : (ctR n (intCell d)).fn ≤ 1000000 := by have := ct_fn (byt_ro hd); have : (ctR n (intCell d)).fn < 4 := this; omega
  have hm := min6 m
  have hE : nxE key (min m 6) (f8 key ln c) (ctR n (intCell d)) = 0 := nxE_ok (f8_ck hb) (by omega) hv
  have hN := nxN_ok hE
  have ch := ch6 (key := key) hb hv hr
  have hfn : ∀ i, i < min m 6 → (f8 key ln c i).fn ≤ 1000000 := mk_fn hb
  have hc3 : ChC (min m 6) (L6r_q3 FM key m ln c) := ChC.self (f := f8 key ln c) (by omega) hfn
  have b6 : L6r_q6 ctR FM relC relR key m ln c n d = false := by
    show (nxE key (min m 6) (f8 key ln c) (ctR n (intCell d)) != 0 || ((nxN key (min m 6) (f8 key ln c) (ctR n (intCell d)) : Nat) : Int) != w64 (((min m 6 : Nat) : Int) + 1)) = false
    rw [hE, hN, w64_of (by omega) (by omega)]
    simp
  have b9 : L6r_q9 ctR FM relC relR key m ln c n d = false := by
    unfold L6r_q9
    rw [b6]
    show (false || !seB (Int.toNat ((min m 6 : Nat) : Int) - 0) (min m 6) (fun i => nxF key (min m 6) (f8 key ln c) (ctR n (intCell d)) (0 + i)) (f8 key ln c)) = false
    rw [Int.toNat_natCast, Nat.sub_zero, seB_self fun i hi => by rw [Nat.zero_add]; exact ch.lt i hi]
    rfl
  have hcG : ChC (nxN key (min m 6) (f8 key ln c) (ctR n (intCell d))) (fun i j => relD (nxF key (min m 6) (f8 key ln c) (ctR n (intCell d)) i) j) := by
    rw [hN]; exact ChC.self (f := nxF key (min m 6) (f8 key ln c) (ctR n (intCell d))) (by omega) ch.fn
  have hcP : ∀ k, k ≤ min m 6 → ChC (Int.toNat (k : Int) - 0) (fun i j => relD (nxF key (min m 6) (f8 key ln c) (ctR n (intCell d)) (0 + i)) j) := fun k hk => by
    rw [Int.toNat_natCast, Nat.sub_zero]
    exact ChC.self (f := fun i => nxF key (min m 6) (f8 key ln c) (ctR n (intCell d)) (0 + i)) (by omega) fun i hi => by
      show (nxF key (min m 6) (f8 key ln c) (ctR n (intCell d)) (0 + i)).fn ≤ 1000000
      rw [Nat.zero_add]; exact ch.fn i (by omega)
  refine ⟨fun h => absurd h (by decide), fun _ => ⟨BBd.of hb, hd, ⟨hc3, relP_L hr⟩, fun _ => ⟨⟨by omega, ?_⟩, trivial⟩, fun _ => ⟨hcP _ (Nat.le_refl _), hc3⟩, fun _ => hcG, fun h => ?_, fun _ => ?_⟩⟩
  · show Int.toNat ((min m 6 : Nat) : Int) ≤ nxN key (min m 6) (f8 key ln c) (ctR n (intCell d))
    rw [hN]; omega
  · exfalso
    rw [b9] at h
    have h : (false || ckV key (nxN key (min m 6) (f8 key ln c) (ctR n (intCell d))) (nxF key (min m 6) (f8 key ln c) (ctR n (intCell d))) != 0) = true := h
    rw [hN, ch.ck _ (Nat.le_refl _)] at h
    cases h
  · have kE := E6_eq ctR FM relC relR key m ln c n d
    have kE : entA 4 [] [0, 7, 8, 9, 10, 11] [1, 3] 4 .nil (sub [1, 0, 0, 0, 0, 0, 0, 1] (t6 ctR FM relC relR key m ln c n d)) = some (inv6 key (min m 6) (f8 key ln c) (ctR n (intCell d)) (nxN key (min m 6) (f8 key ln c) (ctR n (intCell d))) (nxF key (min m 6) (f8 key ln c) (ctR n (intCell d))) (nxE key (min m 6) (f8 key ln c) (ctR n (intCell d))) 0) := kE
    rw [hN, hE] at kE
    generalize nxF key (min m 6) (f8 key ln c) (ctR n (intCell d)) = G at ch kE hcG hcP
    rw [hN] at hcG
    generalize f8 key ln c = f at ch kE hcP
    generalize ctR n (intCell d) = r at ch kE hr
    generalize min m 6 = M at ch kE hcG hcP hm
    refine code_satS CTl_ok DTl_ok (n := 200) (n0 := 4) (nx := 4) (roots := []) (keep := [0, 6, 7, 8, 9, 10, 11]) (drop := [1, 3]) (h := .nil) (c := codeC (sub [1, 0, 0, 0, 0, 0, 0, 1] (t6 ctR FM relC relR key m ln c n d))) (st := codeS (sub [1, 0, 0, 0, 0, 0, 0, 1] (t6 ctR FM relC relR key m ln c n d))) (k := codeK (sub [1, 0, 0, 0, 0, 0, 0, 1] (t6 ctR FM relC relR key m ln c n d))) (body := body6) (by kernel_rfl) (by kernel_rfl)
      (fun q s => ∃ k : Nat, q = M + 1 - k ∧ k ≤ M + 1 ∧ s = inv6 key M f r (M + 1) G 0 k)
      (fun e s => e = .exit 0 ∧ s = inv6 key M f r (M + 1) G 0 (M + 1))
      ⟨_, _, ⟨0, rfl, by omega, rfl⟩, entA_sound kE⟩ ?_ ?_
    · rintro q s ⟨k, rfl, hk, rfl⟩
      refine Sat.of_eq (B6r_eq ctR FM relC relR key M f r (M + 1) G 0 k) ?_
      constructor
      unfold B6r
      refine ⟨fun hc => ?_, fun hc => ?_⟩
      · have hc : k < M + 1 := by have := of_decide_eq_true hc; omega
        have hw : w64 ((k : Int) + 1) = (k : Int) + 1 := w64_of (by omega) (by omega)
        obtain ⟨g1, g2⟩ := fi_found ch.no hc
        have b3 : B6r_q3 relC key (M + 1) G k = false := by
          unfold B6r_q3
          show (ckV key (Int.toNat (k : Int) - 0) (fun i => G (0 + i)) != 0 || fiE (M + 1) G (w64 ((k : Int) + 1)) != 0) = false
          rw [Int.toNat_natCast, Nat.sub_zero, hw, g2, ckV_congr (g := G) fun i hi => by rw [Nat.zero_add], ch.ck k (by omega)]
          rfl
        have b4 : B6r_q4 relC (M + 1) G k = G k := by
          show fiR (M + 1) G (w64 ((k : Int) + 1)) = G k
          rw [hw, g1]
        have p4 : relP (relL (B6r_q4 relC (M + 1) G k)) := by rw [b4]; exact relP_L (ch.fn k hc)
        have pk : relP (relL (G (Int.toNat (k : Int)))) := by rw [Int.toNat_natCast]; exact relP_L (ch.fn k hc)
        have hck : ChC (Int.toNat (k : Int) - 0) (B6r_q2 G) := by
          rw [Int.toNat_natCast, Nat.sub_zero]
          exact ChC.self (f := fun i => G (0 + i)) (by omega) fun i hi => by
            show (G (0 + i)).fn ≤ 1000000
            rw [Nat.zero_add]; exact ch.fn i (by omega)
        refine ⟨hcG, ⟨⟨by omega, by omega⟩, trivial⟩, hck, fun _ => by omega, fun _ => ⟨p4, pk⟩, fun h => ?_, fun h => ?_⟩
        · exfalso
          have h : (B6r_q3 relC key (M + 1) G k || !smB (B6r_q4 relC (M + 1) G k) (G (Int.toNat (k : Int)))) = true := h
          rw [b3, b4, Int.toNat_natCast, smB_self] at h
          cases h
        · refine ⟨M + 1 - (k + 1), _, by omega, ⟨k + 1, rfl, by omega, rfl⟩, ?_⟩
          rw [hw]; exact Gc.refl _ _
      · have hc : k = M + 1 := by have := of_decide_eq_false hc; omega
        subst hc
        exact ⟨_, ⟨rfl, rfl⟩, Gc.refl _ _⟩
    · rintro e s ⟨rfl, rfl⟩
      refine Sat.of_eq (K6r_eq ctR FM relC relR key m ln c n d M f r (M + 1) G 0 (M + 1)) ⟨?_⟩
      unfold K6r
      have hl : G (Int.toNat (M : Int)) = newR key M f r := by rw [Int.toNat_natCast]; exact ch.eq
      have hw : w64 (((M + 1 : Nat) : Int) + 1) = ((M + 1 : Nat) : Int) + 1 := w64_of (by omega) (by omega)
      have n1 : fiE (M + 1) G (((M + 1 : Nat) : Int) + 1) = 4 := fi_none fun i hi h => by rw [ch.no i hi] at h; omega
      have n2 : fiE (M + 1) G 0 = 4 := fi_none fun i hi h => by rw [ch.no i hi] at h; omega
      have b3 : K6r_q3 relR M r G = true := by
        show smB { r with no := (G (Int.toNat (M : Int))).no, prev := (G (Int.toNat (M : Int))).prev, tag := (G (Int.toNat (M : Int))).tag } (G (Int.toNat (M : Int))) = true
        rw [hl]
        exact smB_self _
      have b5 : K6r_q5 relC relR M r (M + 1) G = true := by
        show (K6r_q3 relR M r G && fiE (M + 1) G (w64 (((M + 1 : Nat) : Int) + 1)) == 4) = true
        rw [b3, hw, n1]; rfl
      have p1 : relP (relL { r with no := (G (Int.toNat (M : Int))).no, prev := (G (Int.toNat (M : Int))).prev, tag := (G (Int.toNat (M : Int))).tag }) := relP_L hr
      have p2 : relP (relL (G (Int.toNat (M : Int)))) := by rw [Int.toNat_natCast]; exact relP_L (ch.fn M (by omega))
      refine ⟨by omega, ⟨p1, p2⟩, fun _ => hcG, fun _ => hcG, ?_⟩
      refine bv_true ?_
      show (K6r_q5 relC relR M r (M + 1) G && fiE (M + 1) G 0 == 4 && true) = true
      rw [b5, n2]; rfl

theorem releaseChains_ok : ∃ c : Ctr, CtrOK Try.prog 6 c ∧ ∀ ss, okArgs Try.prog 6 [60, 61, 22] ss → (c ss).ev (bv true) := by
  refine law_ctrT (by kernel_rfl) (by kernel_rfl) fun ss hs => ?_
  obtain ⟨d1, r1, rfl, g1, d2, r2, rfl, g2, d3, r3, rfl, g3, rfl⟩ := hs
  obtain ⟨m, ln, c, hb, hle⟩ := okBB g2
  obtain ⟨n, d, hd, rfl⟩ := okBytes g3
  unfold okT at g1
  simp only [Try.underlying60] at g1
  obtain ⟨key, w0, rfl⟩ := g1
  have k := law6 (key := key) hb hd
  refine ⟨[u64v key, .d (bbD m ln c), .d (.ro n 1 d)], ?_, ?_⟩
  · have e1 : svT Try.prog 60 [.x (.int .u64 key)] = u64v key := by rfl
    have e2 : svT Try.prog 22 [.ro n 1 d] = .d (.ro n 1 d) := by rfl
    rw [e1, e2]
    simp only [leSVs, and_true] at hle ⊢
    refine ⟨by simp [leSV, leD, u64v], hle, ?_⟩
    simp [leSV, leD]
  · exact k
end Go.Proofs.Ytpaejfeojdoikaa

namespace Go.Proofs.Ytpaejfeojdoikaa
open Go.ChangeShapes Go.WideShapes Go.ChangeAt Go.RowKit Go.Sx

theorem own : ownKnob Try.prog.godebug = none := by kernel_rfl
theorem laidOut : laidOutB Try.prog = true := by kernel_rfl

set_option maxRecDepth 100000 in
theorem lifted (os : Os) (started : os.Started) (H : Type) (enc : TypeId × Value → H) :
    ReturnsInHanded {} Try.checked os 6 .any (Rows.releaseChainsSpec.pre6 enc Try.prog Try.f6 Rows.releaseChainsRow.domain false) (Rows.releaseChainsSpec.post enc Try.prog Try.f6 false true false false) := by
  refine returnsInHanded_of_change (C := Try.checked) own started (by kernel_rfl) Try.func6
    (ChangeSpec.witness6 (enc := enc) (C := Try.checked) false ⟨#[], #[.int .u64 0, .slice none 0 0, .slice none 0 0], []⟩ 8 (by kernel_rfl) (by kernel_rfl) (by kernel_rfl) (by kernel_rfl)) ?_
  intro W base args ds gs before hval0 hW hcnd _
  have hval : ∀ (j : Nat) t v, Try.f6.params[j]? = some t → args[j]? = some v → Value.okWide Try.prog W .any base t v := hval0
  have hW' := hW
  obtain ⟨p, q, hA0, hV, rfl, hfz, hnd⟩ := hW
  have hA : DataW.TrodAll enc Try.prog W 0 (fun _ => true) true Try.f6.params.toList args.toList ds p := hA0
  rw [Try.params6] at hA hval
  obtain ⟨rfl, rfl⟩ := trodVars_none hV
  obtain ⟨v0, vs0, d0, ds0, p0, q0, hargs, rfl, e0, h0, r0⟩ := trodAll_cons hA
  obtain ⟨v1, vs1, d1, ds1, p1, q1, e1_1, rfl, e2_1, h1, r1⟩ := trodAll_cons r0
  obtain ⟨v2, vs2, d2, ds2, p2, q2, e1_2, rfl, e2_2, h2, r2⟩ := trodAll_cons r1
  obtain ⟨e3, rfl, e4⟩ := trodAll_nil r2
  obtain ⟨c, hc, hev⟩ := releaseChains_ok
  have hlt := trodAll_lt hA
  obtain ⟨ss, o1, o2, o3⟩ := open_args (F := fun b => ∃ x ∈ p, x.block = b) (n := 6) (r := .any) (base := base) (by kernel_rfl) hA (fun j t v a b => hval j t v (by simpa using a) (by simpa using b)) (fun q hq => ⟨q, hq, rfl⟩)
  refine (law_of hc (F := fun b => ∃ x ∈ p, x.block = b) (fun b ⟨x, hx, e⟩ => e ▸ hlt x hx) (ss := ss) ⟨by simpa using o2, fun i hi => by simpa [List.getD, Array.getD_eq_getD_getElem?] using o3 i hi⟩ (hev ss o1)).mono fun e W' ⟨he, bel⟩ => ?_
  subst he
  have hback := trodAll_below laidOut bel (by kernel_rfl) hA
  exact ⟨_, rfl, _, _, _, [], _, [], hW', trodAll_mk1 (shut_bool Try.underlying4 _), hback, rfl, bel.frame _, fun h => by cases h⟩

theorem over : Rows.releaseChainsRow.holds Try.pinned (OpenSpec.ofChange Rows.releaseChainsSpec) :=
  OpenClaim.holds_of_wide 6 Try.f6 rfl rfl rfl rfl rfl rfl rfl ⟨rfl, rfl, rfl, rfl, rfl⟩ rfl rfl rfl rfl rfl (by kernel_rfl) Try.func6 (by kernel_rfl)
    (of_decide_eq_true (by kernel_rfl)) (by unfold Func.isWrapper; first | (rw [if_pos (by decide +kernel)]; kernel_rfl) | (rw [if_neg (by decide +kernel)]; exact ⟨rfl, rfl⟩))
    (fun os started H enc _ => lifted os started H enc)

theorem releaseChains_holds : Rows.ReleaseChainsSaid := over
#print axioms releaseChains_holds
end Go.Proofs.Ytpaejfeojdoikaa

