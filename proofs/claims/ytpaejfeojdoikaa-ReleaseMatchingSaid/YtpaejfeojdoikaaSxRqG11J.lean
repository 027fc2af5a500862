/- Part of a proof of the given statements of this seat (SxFmRm, SxFmRn, SxFmRo, SxFmRp, SxFmRr, SxFmRq, SxFmRs, SxRqA, SxRqB, SxRqC, SxRqD, SxRqF, SxRqE, SxRqG, SxRqH, SxRqI, SxRqJ, SxFmRt, SxRqK, SxRqG11): no conditions beyond those typed here. -/
import Derived.Test.YtpaejfeojdoikaaSw09
import Derived.Test.YtpaejfeojdoikaaRows
import Derived.Test.YtpaejfeojdoikaaChecked
set_option linter.unusedVariables false
set_option linter.unusedSimpArgs false
set_option linter.unusedSectionVars false
set_option linter.constructorNameAsVariable false

namespace Go.Proofs.Ytpaejfeojdoikaa
open Go.Sx
set_option maxRecDepth 100000
theorem tmod4 {n : Nat} {c : Nat → Int} (hb : Byt n fun i _ => .x (.int .u8 (c i))) (i : Int) {m : Int} (hm : 0 < m) : 0 ≤ Int.tmod (at8 n c i) m ∧ Int.tmod (at8 n c i) m < m := by
  have h := at8_ro hb i
  have h : 0 ≤ at8 n c i ∧ at8 n c i < 256 := h
  rw [Int.tmod_eq_emod_of_nonneg h.1]
  exact ⟨Int.emod_nonneg _ (by omega), Int.emod_lt_of_pos _ hm⟩
theorem ct_fn {n : Nat} {c : Nat → Int} (hb : Byt n fun i _ => .x (.int .u8 (c i))) : (ctR n c).fn < 4 := by
  have := tmod4 hb 4 (m := 4) (by decide)
  show (Int.tmod (at8 n c 4) 4).toNat < 4
  omega
theorem ct_body {n : Nat} {c : Nat → Int} {k : Nat} (hk : k < 4) (i : Nat) (hi : i < k + 1) :
    selD (decide (i < k)) (DV.x (.int .u64 ((ctR n c).fc i))) (dsAt [DV.x (.int .u64 (IntKind.wrap .u64 (at8 n c (w64 (5 + (k : Int))))))] (i - k)) = DV.x (.int .u64 ((ctR n c).fc i)) := by
  rw [selD_if]
  by_cases h : i < k
  · rw [if_pos h]
  · rw [if_neg h]
    obtain rfl : i = k := by omega
    rw [Nat.sub_self, w64_of (n := 5 + (i : Int)) (by omega) (by omega)]
    rfl
set_option maxHeartbeats 1000000 in
theorem ct_sat {n : Nat} {c : Nat → Int} (hb : Byt n fun i _ => .x (.int .u8 (c i))) : Sat Try.prog (tCt n c) fun x => leSV 0 [] [] x (.agg (relL (ctR n c))) := by
  constructor
  rw [LCt4_eq]; unfold LCt4
  have a2 : 0 ≤ at8 n c 2 ∧ at8 n c 2 < 256 := at8_ro hb 2
  have a3 := tmod4 hb 3 (m := 6) (by decide)
  have i1 : I64 (w64 (1 + at8 n c 2)) := by rw [w64_of (by omega) (by omega)]; exact ⟨by omega, by omega⟩
  have i2 : I64 (w64 (1 + Int.tmod (at8 n c 3) 6)) := by rw [w64_of (by omega) (by omega)]; exact ⟨by omega, by omega⟩
  refine ⟨⟨hb, by decide⟩, ⟨hb, by decide⟩, hb, ⟨hb, by decide⟩, ⟨hb, by decide⟩, by decide, ⟨i1, i2⟩, ?_⟩
  have hfn := ct_fn hb
  have a4 := tmod4 hb 4 (m := 4) (by decide)
  have e4 : ((ctR n c).fn : Int) = Int.tmod (at8 n c 4) 4 := Int.toNat_of_nonneg a4.1
  refine code_satS CP_ok DP_ok (n := 200) (n0 := 3) (nx := 4) (roots := rtCt) (keep := [0, 2, 3, 4]) (drop := [2]) (h := .nil) (c := codeC (sub [0, 0, 0, 0, 0, 0, 0] (tCt n c))) (st := codeS (sub [0, 0, 0, 0, 0, 0, 0] (tCt n c))) (k := codeK (sub [0, 0, 0, 0, 0, 0, 0] (tCt n c))) (body := bodyCt) (by kernel_rfl) (by kernel_rfl)
    (fun q s => ∃ k : Nat, q = (ctR n c).fn - k ∧ k ≤ (ctR n c).fn ∧ s = invCt n c (ctR n c) k (ctR n c).fc)
    (fun e s => e = .exit 0 ∧ s = invCt n c (ctR n c) (ctR n c).fn (ctR n c).fc)
    ⟨_, _, ⟨0, rfl, by omega, rfl⟩, (entA_sound (ECt_eq n c)).trans ?_⟩ ?_ ?_
  · refine gc_sound [] [3] rfl ?_ ?_
    · simp [entCt, invCt, leTm, leTV, leSV, leSVs, rn, iv, leD, List.replicate, ro8']
    · simp [entCt, invCt, leHp, leBlk, leSVs, leSV, rn, iv, leD, srcOf, hget, relLf, zeroL, u64v]
  · rintro q s ⟨k, rfl, hk, rfl⟩
    refine Sat.of_eq (BCt_eq n c (ctR n c) k _) ?_
    constructor
    unfold BCt
    refine ⟨⟨hb, by decide⟩, by decide, fun hc => ?_, fun hc => ?_⟩
    · have hc : k < (ctR n c).fn := by simp only [decide_eq_true_eq] at hc; have : (k : Int) < Int.tmod (at8 n c 4) 4 := hc; omega
      have ew : w64 (5 + (k : Int)) = 5 + k := w64_of (by omega) (by omega)
      refine ⟨⟨hb, by rw [ew]; omega⟩, ⟨by omega, by simp, by omega⟩, (ctR n c).fn - (k + 1), _, by omega, ⟨k + 1, rfl, by omega, rfl⟩, ?_⟩
      rw [w64_of (n := (k : Int) + 1) (by omega) (by omega)]
      refine gc_sound [(3, 3)] [] rfl ?_ ?_
      · simp [invCt, leTm, leTV, leSV, leSVs, rn, iv, leD, List.replicate, ro8']
      · simp [invCt, leHp, leBlk, leSVs, leSV, rn, iv, leD, srcOf, hget, relLf, zeroL, u64v]
        intro i hi
        simpa using ct_body (n := n) (c := c) (k := k) (by omega) i (by omega)
    · have hc : k = (ctR n c).fn := by
        simp only [decide_eq_false_iff_not] at hc
        have : ¬ ((k : Int) < Int.tmod (at8 n c 4) 4) := hc
        omega
      rw [hc]
      exact ⟨_, ⟨rfl, rfl⟩, Gc.refl _ _⟩
  · rintro e s ⟨rfl, rfl⟩
    refine Sat.of_eq (KCt_eq n c (ctR n c) (ctR n c).fn _) ⟨?_⟩
    unfold KCt
    refine ⟨by omega, ?_⟩
    simp only [Tree.sat, relL, leSV, leSVs, u64v, iv, rou64, and_true]
    simp [leD]
noncomputable def cCt : Ctr := fun ss => match ss with
  | [.d d] => match rowD 1 d with
    | some (n, cell) => .need (Byt n cell) (.ret (.agg (relL (ctR n (intCell cell)))))
    | none => .fail
  | _ => .fail
theorem cCt_ok : CtrOK Try.prog 33 cCt := by
  refine ctrOK_leR CP_ok DP_ok (by kernel_rfl) (by kernel_rfl) fun ss r h => ?_
  unfold cCt at h
  split at h
  · rename_i d
    split at h
    · rename_i n cell hr
      obtain ⟨h1, rfl⟩ := h
      have k := ct_sat (byt_ro h1)
      refine ⟨[.d (.ro n 1 fun i _ => .x (.int .u8 (intCell cell i)))], 200, .nil, ?_, ?_⟩
      · simp only [leSVs, leSV, and_true]
        exact rowD_le hr (le_ro8 h1)
      · exact k
    · exact h.elim
  · exact h.elim
def zR : Rel := ⟨0, 0, 0, 0, 0, fun _ => 0, 0, 0, 0, 0, 0, 0, 0, 0, 0, 0, 0, 0, 0, 0, 0⟩
def fiR (n : Nat) (f : Nat → Rel) (no : Int) : Rel := bif decide (idxV n f no < 0) then zR else f (idxV n f no).toNat
def fiE (n : Nat) (f : Nat → Rel) (no : Int) : Int := bif decide (idxV n f no < 0) then 4 else 0
theorem idx_lt {n : Nat} {f : Nat → Rel} {no : Int} (h : ¬ idxV n f no < 0) : 0 ≤ idxV n f no ∧ idxV n f no < n := by
  unfold idxV at h ⊢
  split at h
  · omega
  · rename_i hp
    rw [if_neg hp]
    rcases posF_spec (f := f) (no := no) (n := n) n 0 (by omega) with ⟨h1, _⟩ | ⟨_, h2, _⟩
    · exact absurd h1 hp
    · omega
noncomputable def cFd : Ctr := fun ss => match ss with
  | [.d d, .d (.x (.int .i64 no))] => match rowD 20 d with
    | some (n, cell) => .need (ChC n cell) (.ret (.agg [iv (fiR n (relC cell) no).no, u64v (fiR n (relC cell) no).prev, u64v (fiR n (relC cell) no).src, u64v (fiR n (relC cell) no).cir, rou64 (fiR n (relC cell) no).fn (fiR n (relC cell) no).fc, iv (fiR n (relC cell) no).b0, iv (fiR n (relC cell) no).b1, iv (fiR n (relC cell) no).b2, iv (fiR n (relC cell) no).b3, iv (fiR n (relC cell) no).b4, iv (fiR n (relC cell) no).b5, iv (fiR n (relC cell) no).b6, iv (fiR n (relC cell) no).b7, iv (fiR n (relC cell) no).b8, iv (fiR n (relC cell) no).b9, iv (fiR n (relC cell) no).b10, iv (fiR n (relC cell) no).b11, iv (fiR n (relC cell) no).pn, iv (fiR n (relC cell) no).pd, u64v (fiR n (relC cell) no).tag, iv (fiE n (relC cell) no)]))
    | none => .fail
  | _ => .fail
theorem fd_sat {n : Nat} {f : Nat → Rel} {no : Int} (hn : n ≤ 1000000) (hf : ∀ i, i < n → (f i).fn ≤ 1000000) : Sat Try.prog (LFd n f no) fun x => leSV 0 [] [] x (.agg [iv (fiR n f no).no, u64v (fiR n f no).prev, u64v (fiR n f no).src, u64v (fiR n f no).cir, rou64 (fiR n f no).fn (fiR n f no).fc, iv (fiR n f no).b0, iv (fiR n f no).b1, iv (fiR n f no).b2, iv (fiR n f no).b3, iv (fiR n f no).b4, iv (fiR n f no).b5, iv (fiR n f no).b6, iv (fiR n f no).b7, iv (fiR n f no).b8, iv (fiR n f no).b9, iv (fiR n f no).b10, iv (fiR n f no).b11, iv (fiR n f no).pn, iv (fiR n f no).pd, u64v (fiR n f no).tag, iv (fiE n f no)]) := by
  constructor
  unfold LFd
  refine ⟨ChC.self hn hf, fun h => ?_, fun h => ?_⟩
  · have h : decide (idxV n f no < 0) = true := h
    have e1 : fiR n f no = zR := by unfold fiR; rw [h]; rfl
    have e2 : fiE n f no = 4 := by unfold fiE; rw [h]; rfl
    rw [e1, e2]
    simp only [Tree.sat, leSV, leSVs, u64v, iv, rou64, zR, and_true]
    simp [leD]
  · have h : decide (idxV n f no < 0) = false := h
    have e1 : fiR n f no = f (idxV n f no).toNat := by unfold fiR; rw [h]; rfl
    have e2 : fiE n f no = 0 := by unfold fiE; rw [h]; rfl
    rw [e1, e2]
    have g := idx_lt (of_decide_eq_false h)
    refine ⟨g, ?_⟩
    simp only [Tree.sat, leSV, leSVs, u64v, iv, rou64, and_true]
    refine ⟨?_, ?_, ?_, ?_, ?_, ?_, ?_, ?_, ?_, ?_, ?_, ?_, ?_, ?_, ?_, ?_, ?_, ?_, ?_, ?_, ?_⟩
    all_goals first | exact rfl | exact ⟨rfl, rfl, fun i j _ _ => rfl⟩
theorem cFd_ok : CtrOK Try.prog 37 cFd := by
  refine ctrOK_leR CP_ok DP_ok (by kernel_rfl) (by kernel_rfl) fun ss r h => ?_
  unfold cFd at h
  split at h
  · rename_i d no
    split at h
    · rename_i n cell hr
      obtain ⟨h1, rfl⟩ := h
      have k := fd_sat (no := no) h1.1 h1.fn
      refine ⟨[.d (chD n (relC cell)), iv no], 200, .nil, ?_, ?_⟩
      · simp only [leSVs, leSV, iv, and_true]
        exact ⟨h1.le hr, by simp [leD]⟩
      · exact Sat.of_eq (LFd_eq n (relC cell) no) k
    · exact h.elim
  · exact h.elim
end Go.Proofs.Ytpaejfeojdoikaa
namespace Go.Proofs.Ytpaejfeojdoikaa
open Go.Sx
set_option maxRecDepth 100000
set_option pp.structureInstances false
noncomputable def cCtG (ct : Nat → (Nat → Int) → Rel) : Ctr := fun ss => match ss with
  | [.d d] => match rowD 1 d with
    | some (n, cell) => .need (Byt n cell) (.ret (.agg (relL (ct n (intCell cell)))))
    | none => .fail
  | _ => .fail
theorem cCtG_ok : CtrOK Try.prog 33 (cCtG ctR) := cCt_ok
noncomputable def manQ (ct : Nat → (Nat → Int) → Rel) : FuncId → Option Ctr := fun k => match k with
  | 33 => some (cCtG ct)
  | 37 => some cFd
  | k => manP k
theorem manQ_ok (k : Nat) (c : Ctr) (h : manQ ctR k = some c) : CtrOK Try.prog k c ∧ goodF Try.prog k = true := by
  unfold manQ at h
  split at h
  · cases h; exact ⟨cCtG_ok, by kernel_rfl⟩
  · cases h; exact ⟨cFd_ok, by kernel_rfl⟩
  · exact manP_ok _ _ h
noncomputable def CQ (ct : Nat → (Nat → Int) → Rel) : Ctx := ctxO Try.prog (manQ ct) ownL (fun k => k == 109) 200 .nil 6
theorem CQ_ok : CtxOK Try.prog (CQ ctR) := ctxO_ok mixed manQ_ok ownL_ok 6
noncomputable def DQ (ct : Nat → (Nat → Int) → Rel) : Dr := fun _ => drawn Try.prog (CQ ct)
theorem DQ_ok : DrOK Try.prog (CQ ctR) (DQ ctR) := drawn_ok CQ_ok mixed
noncomputable def TQ (ct : Nat → (Nat → Int) → Rel) (h : Hint) (k : Nat) (args : List SV) : Tree SV := fnT Try.prog (CQ ct) (DQ ct) 200 (fnOf Try.prog k) (bodyOf Try.prog k) args h
end Go.Proofs.Ytpaejfeojdoikaa
namespace Go.Proofs.Ytpaejfeojdoikaa
open Go.Sx
set_option maxRecDepth 100000
def BB (m : Nat) (ln : Nat → Nat) (c : Nat → Nat → Nat → DV) : Prop := m ≤ 9223372036854775807 ∧ ∀ i, i < m → Byt (ln i) (c i)
end Go.Proofs.Ytpaejfeojdoikaa
namespace Go.Proofs.Ytpaejfeojdoikaa
open Go.Sx
set_option maxRecDepth 100000
set_option pp.structureInstances false
def BBd (m : Nat) (cell : Nat → Nat → DV) : Prop := m ≤ 9223372036854775807 ∧ ∀ i, i < m → ∃ n c, cell i 0 = .ro n 1 c ∧ Byt n c
noncomputable def LNw_q1 (f : Nat → Rel) (i : Nat) (j : Nat) : DV :=
  relD (f i) j
noncomputable def LNw_q2 (r : Rel) (i : Nat) (x : Nat) : DV :=
  DV.x (.int .u64 (Rel.fc r i))
noncomputable def LNw_q3 (key : Int) (n : Nat) (f : Nat → Rel) (r : Rel) (i : Nat) (j : Nat) : DV :=
  relD (nxF key n (fun i => f i) r i) j
noncomputable def LNw (ct : Nat → (Nat → Int) → Rel) (key : Int) (n : Nat) (f : Nat → Rel) (r : Rel) : Tree SV :=
  .need (ChC n (LNw_q1 f) ∧ U64C (Rel.fn r) (LNw_q2 r)) (.ret (SV.agg [SV.d (DV.ro (nxN key n (fun i => f i) r) 20 (LNw_q3 key n f r)), iv (nxE key n (fun i => f i) r)]))
theorem LNw_eq (ct : Nat → (Nat → Int) → Rel) (key : Int) (n : Nat) (f : Nat → Rel) (r : Rel) : TQ ct .nil 34 [u64v key, .d (chD n f), .agg (relL r)] = LNw ct key n f r := by kernel_rfl
noncomputable def cTrue : Ctr := fun ss => match ss with
  | [] => .ret (bv true)
  | _ => .fail
end Go.Proofs.Ytpaejfeojdoikaa
namespace Go.Proofs.Ytpaejfeojdoikaa
open Go.Sx
set_option maxRecDepth 100000
set_option pp.structureInstances false
noncomputable def LSpn (a b : Int) : Tree SV :=
  .ret (SV.agg [iv a, iv (1 : Int), iv b, iv (1 : Int)])
theorem LSpn_eq (a b : Int) : TQ ctR .nil 98 [iv a, iv b] = LSpn a b := by kernel_rfl
noncomputable def nilV : SV := .d (.x (.slice none 0 0))
noncomputable def CEc : Ctx := ctxO Try.prog (manQ ctR) ownL (fun k => k == 122 || k == 125) 200 .run 12
noncomputable def LCi0  : Tr SV :=
  Tr.need (True ∧ 1 ≤ 1 ∧ 8 ≤ 140737488355328)
  (Tr.need (1 ≤ 1 ∧ 1 ≤ 1 ∧ 16 ≤ 140737488355328)
   (Tr.need (2 ≤ 2)
   (Tr.need
   (I64C 2 fun i j => selD (decide (0 + i < 1)) (DV.x (.int .i64 (0 : Int))) (dsAt [DV.x (.int .i64 (0 : Int))] (0 + (0 + (0 + i - 1)) * 1 + j)))
   (Tr.ret (SV.d (DV.x (.int .u64 (6496484108755115417 : Int))))))))
theorem LCi0_eq  : autoC Try.prog CEc 200 50 .run [.agg [nilV, nilV]] = LCi0  := by kernel_rfl
noncomputable def LFr0  : Tr SV :=
  Tr.need (I64C 0 fun x x_1 => DV.x (.tuple (Array.mk []))) (Tr.ret (SV.d (DV.x (.int .u64 (7059933888772838974 : Int)))))
theorem LFr0_eq  : autoC Try.prog CEc 200 51 .run [nilV] = LFr0  := by kernel_rfl
noncomputable def cSpn : Ctr := fun ss => match ss with
  | [.d (.x (.int .i64 a)), .d (.x (.int .i64 b))] => .ret (.agg [iv a, iv 1, iv b, iv 1])
  | _ => .fail
theorem cSpn_ok : CtrOK Try.prog 98 cSpn := by
  refine ctrOK_leS CQ_ok DQ_ok (by kernel_rfl) (by kernel_rfl) fun ss r h => ?_
  unfold cSpn at h
  split at h
  · rename_i a b
    simp only [Tr.ev] at h; subst h
    exact ⟨[iv a, iv b], 200, .nil, by simp [leSVs, leSV, iv, leD], Sat.of_eq (LSpn_eq a b) ⟨rfl⟩⟩
  · exact h.elim
theorem CEc_ok : CtxOK Try.prog CEc := ctxO_ok mixed manQ_ok ownL_ok 12
noncomputable def cCi0 : Ctr := fun ss => match ss with
  | [.agg [.d (.x (.slice none 0 0)), .d (.x (.slice none 0 0))]] => .ret (u64v 6496484108755115417)
  | _ => .fail
theorem cCi0_ok : CtrOK Try.prog 50 cCi0 := (autoC_ok CEc_ok mixed 200 50 .run).mono fun ss r h => by
  unfold cCi0 at h
  split at h
  · simp only [Tr.ev] at h; subst h
    rw [show autoC Try.prog CEc 200 50 .run [.agg [.d (.x (.slice none 0 0)), .d (.x (.slice none 0 0))]] = LCi0 from LCi0_eq]
    unfold LCi0
    refine ⟨⟨trivial, by decide, by decide⟩, ⟨by decide, by decide, by decide⟩, by decide, ⟨by decide, fun i hi => ?_⟩, rfl⟩
    match i, hi with
    | 0, _ => rfl
    | 1, _ => rfl
    | k + 2, h => exact absurd h (by omega)
  · exact h.elim
noncomputable def cFr0 : Ctr := fun ss => match ss with
  | [.d (.x (.slice none 0 0))] => .ret (u64v 7059933888772838974)
  | _ => .fail
theorem cFr0_ok : CtrOK Try.prog 51 cFr0 := (autoC_ok CEc_ok mixed 200 51 .run).mono fun ss r h => by
  unfold cFr0 at h
  split at h
  · simp only [Tr.ev] at h; subst h
    rw [show autoC Try.prog CEc 200 51 .run [.d (.x (.slice none 0 0))] = LFr0 from LFr0_eq]
    unfold LFr0
    exact ⟨⟨by decide, fun i hi => absurd hi (by omega)⟩, rfl⟩
  · exact h.elim
theorem cNw_ok : CtrOK Try.prog 34 cNi := by
  refine ctrOK_leR CQ_ok DQ_ok (by kernel_rfl) (by kernel_rfl) fun ss r h => ?_
  unfold cNi at h
  split at h
  · rename_i key d l
    split at h
    · rename_i n cell r p hr1 hr2
      obtain ⟨⟨h1, h2⟩, rfl⟩ := h
      obtain ⟨h3, h4⟩ := relOf_le hr2 h2
      refine ⟨[u64v key, .d (chD n (relC cell)), .agg (relL r)], 200, .nil, ?_, Sat.of_eq (LNw_eq ctR key n (relC cell) r) ⟨?_⟩⟩
      · simp only [leSVs, leSV, u64v, and_true]; exact ⟨by simp [leD], h1.le hr1, h3⟩
      · unfold LNw
        refine ⟨⟨ChC.self h1.1 h1.fn, U64C.self h4⟩, ?_⟩
        exact agg2_le ⟨rfl, rfl, fun i j _ _ => rfl⟩
    · exact h.elim
  · exact h.elim
noncomputable def manEx : FuncId → Option Ctr := fun k => match k with
  | 34 => some cNi
  | 98 => some cSpn
  | 50 => some cCi0
  | 51 => some cFr0
  | k => manQ ctR k
theorem manEx_ok (k : Nat) (c : Ctr) (h : manEx k = some c) : CtrOK Try.prog k c ∧ goodF Try.prog k = true := by
  unfold manEx at h
  split at h
  · cases h; exact ⟨cNw_ok, by kernel_rfl⟩
  · cases h; exact ⟨cSpn_ok, by kernel_rfl⟩
  · cases h; exact ⟨cCi0_ok, by kernel_rfl⟩
  · cases h; exact ⟨cFr0_ok, by kernel_rfl⟩
  · exact manQ_ok _ _ h
noncomputable def CEx : Ctx := ctxO Try.prog manEx ownL (fun k => false) 200 .run 12
theorem CEx_ok : CtxOK Try.prog CEx := ctxO_ok mixed manEx_ok ownL_ok 12
noncomputable def XEr  : Tr SV :=
 Tr.need ((ChC 0 fun x x_1 => DV.x (.tuple (Array.mk []))) ∧ U64C 0 fun x x_1 => DV.x (.tuple (Array.mk [])))
 (Tr.need
 ((ChC 1 fun i j =>
 relD
 (Rel.mk (1 : Int) (0 : Int) (5 : Int) (0 : Int) 0 (fun i => (0 : Int)) (0 : Int) (1 : Int) (80 : Int) (1 : Int) (1 : Int) (1 : Int) (2 : Int) (1 : Int) (0 : Int) (1 : Int) (9 : Int) (1 : Int) (3 : Int) (1 : Int)
 (16880852108703056937 : Int))
 j) ∧
 U64C 0 fun x x_1 => DV.x (.tuple (Array.mk [])))
 (Tr.need
 (U64C 0 fun i x =>
 DV.x
 (.int .u64
 (Rel.fc
 (Rel.mk (1 : Int) (0 : Int) (5 : Int) (0 : Int) 0
 (fun i =>
 Rel.fc
 (Rel.mk (1 : Int) (0 : Int) (5 : Int) (0 : Int) 0 (fun i => (0 : Int)) (0 : Int) (1 : Int) (80 : Int) (1 : Int) (1 : Int) (1 : Int) (2 : Int) (1 : Int) (0 : Int) (1 : Int) (9 : Int) (1 : Int) (3 : Int)
 (1 : Int) (16880852108703056937 : Int))
 i)
 (0 : Int) (1 : Int) (80 : Int) (1 : Int) (1 : Int) (1 : Int) (2 : Int) (1 : Int) (0 : Int) (1 : Int) (9 : Int) (1 : Int) (3 : Int) (1 : Int) (16880852108703056937 : Int))
 i)))
 (Tr.need
 (ChC 2 fun i j =>
 relD
 (nxF (7 : Int) 1
 (fun i =>
 Rel.mk (1 : Int) (0 : Int) (5 : Int) (0 : Int) 0 (fun i => (0 : Int)) (0 : Int) (1 : Int) (80 : Int) (1 : Int) (1 : Int) (1 : Int) (2 : Int) (1 : Int) (0 : Int) (1 : Int) (9 : Int) (1 : Int) (3 : Int) (1 : Int)
 (16880852108703056937 : Int))
 (Rel.mk (0 : Int) (0 : Int) (5 : Int) (0 : Int) 0 (fun i => (0 : Int)) (0 : Int) (1 : Int) (80 : Int) (1 : Int) (1 : Int) (1 : Int) (2 : Int) (1 : Int) (0 : Int) (1 : Int) (9 : Int) (1 : Int) (3 : Int) (1 : Int)
 (0 : Int))
 i)
 j)
 (Tr.need
 (ChC 2 fun i j =>
 relD
 (nxF (7 : Int) 1
 (fun i =>
 Rel.mk (1 : Int) (0 : Int) (5 : Int) (0 : Int) 0 (fun i => (0 : Int)) (0 : Int) (1 : Int) (80 : Int) (1 : Int) (1 : Int) (1 : Int) (2 : Int) (1 : Int) (0 : Int) (1 : Int) (9 : Int) (1 : Int) (3 : Int) (1 : Int)
 (16880852108703056937 : Int))
 (Rel.mk (0 : Int) (0 : Int) (5 : Int) (0 : Int) 0 (fun i => (0 : Int)) (0 : Int) (1 : Int) (80 : Int) (1 : Int) (1 : Int) (1 : Int) (2 : Int) (1 : Int) (0 : Int) (1 : Int) (9 : Int) (1 : Int) (3 : Int) (1 : Int)
 (0 : Int))
 i)
 j)
 (Tr.need
 ((ChC 1 fun i j =>
 relD
 (Rel.mk (1 : Int) (0 : Int) (5 : Int) (0 : Int) 0 (fun i => (0 : Int)) (0 : Int) (1 : Int) (80 : Int) (1 : Int) (1 : Int) (1 : Int) (2 : Int) (1 : Int) (0 : Int) (1 : Int) (9 : Int) (1 : Int) (3 : Int) (1 : Int)
 (16880852108703056937 : Int))
 j) ∧
 U64C 0 fun x x_1 => DV.x (.tuple (Array.mk [])))
 (Tr.need ((ChC 0 fun x x_1 => DV.x (.tuple (Array.mk []))) ∧ U64C 0 fun x x_1 => DV.x (.tuple (Array.mk [])))
 (Tr.need (U64C 0 fun x x_1 => DV.x (.tuple (Array.mk [])))
 (Tr.need
 (VB6 (10 : Int) (1 : Int) (20 : Int) (1 : Int) (1 : Int) (1 : Int) (2 : Int) (1 : Int) (0 : Int) (1 : Int) (9 : Int) (1 : Int) ∧
 VB6 (0 : Int) (1 : Int) (80 : Int) (1 : Int) (1 : Int) (1 : Int) (2 : Int) (1 : Int) (0 : Int) (1 : Int) (9 : Int) (1 : Int))
 (Tr.need (VF (7 : Int) (2 : Int) ∧ VF (3 : Int) (1 : Int))
 (Tr.need (U64C 0 fun x x_1 => DV.x (.tuple (Array.mk [])))
 (Tr.need
 (VB6 (10 : Int) (1 : Int) (20 : Int) (1 : Int) (1 : Int) (1 : Int) (2 : Int) (1 : Int) (0 : Int) (1 : Int) (9 : Int) (1 : Int) ∧
 VB6 (0 : Int) (1 : Int) (80 : Int) (1 : Int) (1 : Int) (1 : Int) (2 : Int) (1 : Int) (0 : Int) (1 : Int) (9 : Int) (1 : Int))
 (Tr.need (VF (2 : Int) (1 : Int) ∧ VF (3 : Int) (1 : Int))
 (Tr.need (U64C 0 fun x x_1 => DV.x (.tuple (Array.mk [])))
 (Tr.need
 (VB6 (0 : Int) (1 : Int) (81 : Int) (1 : Int) (1 : Int) (1 : Int) (2 : Int) (1 : Int) (0 : Int) (1 : Int) (9 : Int) (1 : Int) ∧
 VB6 (0 : Int) (1 : Int) (80 : Int) (1 : Int) (1 : Int) (1 : Int) (2 : Int) (1 : Int) (0 : Int) (1 : Int) (9 : Int) (1 : Int))
 (Tr.need (2 ≤ 2)
 (Tr.need (I64C 2 fun i j => dsAt [DV.x (.int .i64 (0 : Int)), DV.x (.int .i64 (0 : Int))] (0 + (0 + i) * 1 + j))
 (Tr.need (I64C 0 fun x x_1 => DV.x (.tuple (Array.mk [])))
 (Tr.need
 (ChC 2 fun i j =>
 relD
 (nxF (7 : Int) 1
 (fun i =>
 Rel.mk (1 : Int) (0 : Int) (5 : Int) (0 : Int) 0 (fun i => (0 : Int)) (0 : Int) (1 : Int) (80 : Int) (1 : Int) (1 : Int) (1 : Int) (2 : Int) (1 : Int) (0 : Int) (1 : Int) (9 : Int)
 (1 : Int) (3 : Int) (1 : Int) (16880852108703056937 : Int))
 (Rel.mk (0 : Int) (0 : Int) (5 : Int) (0 : Int) 0 (fun i => (0 : Int)) (0 : Int) (1 : Int) (80 : Int) (1 : Int) (1 : Int) (1 : Int) (2 : Int) (1 : Int) (0 : Int) (1 : Int) (9 : Int)
 (1 : Int) (3 : Int) (1 : Int) (0 : Int))
 i)
 j)
 (Tr.need
 (ChC 2 fun i j =>
 relD
 (nxF (7 : Int) 1
 (fun i =>
 Rel.mk (1 : Int) (0 : Int) (5 : Int) (0 : Int) 0 (fun i => (0 : Int)) (0 : Int) (1 : Int) (80 : Int) (1 : Int) (1 : Int) (1 : Int) (2 : Int) (1 : Int) (0 : Int) (1 : Int) (9 : Int)
 (1 : Int) (3 : Int) (1 : Int) (16880852108703056937 : Int))
 (Rel.mk (0 : Int) (0 : Int) (5 : Int) (0 : Int) 0 (fun i => (0 : Int)) (0 : Int) (1 : Int) (80 : Int) (1 : Int) (1 : Int) (1 : Int) (2 : Int) (1 : Int) (0 : Int) (1 : Int) (9 : Int)
 (1 : Int) (3 : Int) (1 : Int) (0 : Int))
 i)
 j)
 (Tr.ret (bv true)))))))))))))))))))))
theorem XEr_eq  : autoC Try.prog CEx 200 31 .run [] = XEr  := by kernel_rfl
end Go.Proofs.Ytpaejfeojdoikaa
namespace Go.Proofs.Ytpaejfeojdoikaa
open Go.Sx
set_option maxRecDepth 100000
def fB (x : BitVec 64) : BitVec 64 := ((x * 15485907386658061715#64) ^^^ ((x * 15485907386658061715#64) >>> 32)) * 11562461410679940143#64
theorem wrapU (n : Int) : IntKind.wrap .u64 n = ((BitVec.ofInt 64 n).toNat : Int) := by
  rw [BitVec.toNat_ofInt]
  have h : 0 ≤ n % (2 ^ 64 : Int) := Int.emod_nonneg _ (by decide)
  show n % 18446744073709551616 = _
  rw [show ((2 ^ 64 : Nat) : Int) = 18446744073709551616 by decide, Int.toNat_of_nonneg (by omega)]
theorem ofInt_nat (x : BitVec 64) : BitVec.ofInt 64 (x.toNat : Int) = x := by
  apply BitVec.eq_of_toNat_eq
  rw [BitVec.toNat_ofInt]
  have := x.isLt
  omega
theorem mulU (x : BitVec 64) (n : Nat) : BitVec.ofInt 64 ((x.toNat : Int) * (n : Int)) = x * BitVec.ofNat 64 n := by
  apply BitVec.eq_of_toNat_eq
  rw [BitVec.toNat_ofInt, BitVec.toNat_mul, BitVec.toNat_ofNat, ← Int.natCast_mul]
  rw [show ((x.toNat * n : Nat) : Int) % ((2 ^ 64 : Nat) : Int) = ((x.toNat * n % 2 ^ 64 : Nat) : Int) from rfl, Int.toNat_natCast, Nat.mul_mod_mod]
theorem shrU (x : BitVec 64) : BitVec.ofInt 64 (Int.fdiv (x.toNat : Int) 4294967296) = x >>> 32 := by
  apply BitVec.eq_of_toNat_eq
  have := x.isLt
  rw [BitVec.toNat_ofInt, BitVec.toNat_ushiftRight, Nat.shiftRight_eq_div_pow, Int.fdiv_eq_ediv_of_nonneg _ (by decide)]
  omega
theorem stp_eq (s w : Int) : stp s w = ((fB (BitVec.ofInt 64 s ^^^ BitVec.ofInt 64 w)).toNat : Int) := by
  unfold stp fB
  generalize BitVec.ofInt 64 s ^^^ BitVec.ofInt 64 w = x
  simp only [wrapU, ofInt_nat]
  rw [show (15485907386658061715 : Int) = ((15485907386658061715 : Nat) : Int) from rfl, show (11562461410679940143 : Int) = ((11562461410679940143 : Nat) : Int) from rfl]
  simp only [mulU, ofInt_nat, shrU]
theorem xs_inv (a : BitVec 64) : (a ^^^ (a >>> 32)) ^^^ ((a ^^^ (a >>> 32)) >>> 32) = a := by
  rw [BitVec.ushiftRight_xor_distrib, ← BitVec.shiftRight_add]
  rw [show a >>> (32 + 32) = 0#64 from BitVec.ushiftRight_eq_zero (by decide)]
  simp [BitVec.xor_assoc]
theorem mul_inv {x y c d : BitVec 64} (h : c * d = 1#64) (e : x * c = y * c) : x = y := by
  have := congrArg (· * d) e
  simpa [BitVec.mul_assoc, h] using this
theorem fB_inj {x y : BitVec 64} (h : fB x = fB y) : x = y := by
  unfold fB at h
  have h1 := mul_inv (d := 10636502746458383055#64) (by decide) h
  have h2 : x * 15485907386658061715#64 = y * 15485907386658061715#64 := by
    rw [← xs_inv (x * 15485907386658061715#64), h1, xs_inv]
  exact mul_inv (d := 14982988110149298331#64) (by decide) h2
def U6 (s : Int) : Prop := 0 ≤ s ∧ s < 18446744073709551616
theorem stp_U (s w : Int) : U6 (stp s w) := by
  rw [stp_eq]
  have := (fB (BitVec.ofInt 64 s ^^^ BitVec.ofInt 64 w)).isLt
  exact ⟨by omega, by omega⟩
theorem ofInt_inj {s t : Int} (hs : U6 s) (ht : U6 t) (h : BitVec.ofInt 64 s = BitVec.ofInt 64 t) : s = t := by
  have e := congrArg BitVec.toNat h
  rw [BitVec.toNat_ofInt, BitVec.toNat_ofInt] at e
  obtain ⟨h1, h2⟩ := hs
  obtain ⟨h3, h4⟩ := ht
  omega
theorem xor_inj_r {x y z : BitVec 64} (h : x ^^^ z = y ^^^ z) : x = y := by
  have := congrArg (· ^^^ z) h
  simpa [BitVec.xor_assoc] using this
theorem xor_inj_l {x y z : BitVec 64} (h : z ^^^ x = z ^^^ y) : x = y := by
  rw [BitVec.xor_comm z x, BitVec.xor_comm z y] at h; exact xor_inj_r h
theorem stp_s {s t w : Int} (hs : U6 s) (ht : U6 t) (h : stp s w = stp t w) : s = t := by
  rw [stp_eq, stp_eq] at h
  have e : fB (BitVec.ofInt 64 s ^^^ BitVec.ofInt 64 w) = fB (BitVec.ofInt 64 t ^^^ BitVec.ofInt 64 w) := BitVec.eq_of_toNat_eq (by omega)
  exact ofInt_inj hs ht (xor_inj_r (fB_inj e))
theorem stp_w {s v w : Int} (hv : U6 v) (hw : U6 w) (h : stp s v = stp s w) : v = w := by
  rw [stp_eq, stp_eq] at h
  have e : fB (BitVec.ofInt 64 s ^^^ BitVec.ofInt 64 v) = fB (BitVec.ofInt 64 s ^^^ BitVec.ofInt 64 w) := BitVec.eq_of_toNat_eq (by omega)
  exact ofInt_inj hv hw (xor_inj_l (fB_inj e))
theorem wU_U (n : Int) : U6 (wU n) := by
  unfold wU
  rw [wrapU]
  have := (BitVec.ofInt 64 n).isLt
  exact ⟨by omega, by omega⟩
theorem wU_inj {m n : Int} (hm : I64 m) (hn : I64 n) (h : wU m = wU n) : m = n := by
  have h : m % 18446744073709551616 = n % 18446744073709551616 := h
  obtain ⟨h1, h2⟩ := hm
  obtain ⟨h3, h4⟩ := hn
  omega
theorem dgF_U (c : Nat → Int) : ∀ n, U6 (dgF c n)
  | 0 => show U6 512970876019 from ⟨by decide, by decide⟩
  | n + 1 => stp_U _ _
theorem dgW_U (n : Nat) (c : Nat → Int) : U6 (dgW n c) := stp_U _ _
theorem dgF_one {c d : Nat → Int} {j : Nat} (hj : ∀ i, i ≠ j → c i = d i) (hc : I64 (c j)) (hd : I64 (d j)) (hne : c j ≠ d j) : ∀ n, j < n → dgF c n ≠ dgF d n
  | 0, h => by omega
  | n + 1, h => by
    intro e
    have e : stp (dgF c n) (wU (c n)) = stp (dgF d n) (wU (d n)) := e
    by_cases hn : j = n
    · subst hn
      have e0 : dgF c j = dgF d j := dgF_congr fun i hi => hj i (by omega)
      rw [e0] at e
      exact hne (wU_inj hc hd (stp_w (wU_U _) (wU_U _) e))
    · rw [hj n (by omega)] at e
      exact dgF_one hj hc hd hne n (by omega) (stp_s (dgF_U _ _) (dgF_U _ _) e)
theorem dgW_one {c d : Nat → Int} {j n : Nat} (hj : ∀ i, i ≠ j → c i = d i) (hc : I64 (c j)) (hd : I64 (d j)) (hne : c j ≠ d j) (h : j < n) : dgW n c ≠ dgW n d := fun e =>
  dgF_one hj hc hd hne n h (stp_s (dgF_U _ _) (dgF_U _ _) e)
end Go.Proofs.Ytpaejfeojdoikaa
namespace Go.Proofs.Ytpaejfeojdoikaa
open Go.Sx
set_option maxRecDepth 100000
theorem nx_fn0 {key : Int} {n : Nat} {f : Nat → Rel} {r : Rel} (hf : ∀ i, (f i).fn = 0) (hr : r.fn = 0) (i : Nat) : (nxF key n f r i).fn ≤ 1000000 := by
  unfold nxF
  cases decide (i < n)
  · show (newR key n f r).fn ≤ _
    rw [newR_fn, hr]; decide
  · show (f i).fn ≤ _
    rw [hf]; decide
theorem VB6.closed {a0 a1 a2 a3 b0 b1 b2 b3 c0 c1 c2 c3 : Int} (h : (VF a0 a1 ∧ VF a2 a3 ∧ VF b0 b1) ∧ (VF b2 b3 ∧ VF c0 c1 ∧ VF c2 c3)) : VB6 a0 a1 a2 a3 b0 b1 b2 b3 c0 c1 c2 c3 :=
  ⟨h.1.1, h.1.2.1, h.1.2.2, h.2.1, h.2.2.1, h.2.2.2⟩
theorem i64_two : I64C 2 fun i j => dsAt [DV.x (.int .i64 (0 : Int)), DV.x (.int .i64 (0 : Int))] (0 + (0 + i) * 1 + j) := ⟨by decide, fun i hi => by
  match i, hi with
  | 0, _ => rfl
  | 1, _ => rfl
  | k + 2, h => exact absurd h (by omega)⟩
theorem ex46 : (autoC Try.prog CEx 200 31 .run []).ev (bv true) := by
  rw [XEr_eq]; unfold XEr
  repeat' (first
    | exact rfl
    | refine sat_step (by decide +kernel) ?_
    | refine sat_step ⟨by decide, fun i hi => absurd hi (Nat.not_lt_zero _)⟩ ?_
    | refine sat_step ⟨⟨by decide, fun i hi => absurd hi (Nat.not_lt_zero _)⟩, ⟨by decide, fun i hi => absurd hi (Nat.not_lt_zero _)⟩⟩ ?_
    | refine sat_step ⟨ChC.self (by decide) fun i hi => Nat.zero_le _, ⟨by decide, fun i hi => absurd hi (Nat.not_lt_zero _)⟩⟩ ?_
    | refine sat_step (ChC.self (by decide) fun i hi => nx_fn0 (fun _ => rfl) rfl i) ?_
    | refine sat_step i64_two ?_
    | refine sat_step ⟨VB6.closed (by decide +kernel), VB6.closed (by decide +kernel)⟩ ?_)
theorem cEx46_ok : CtrOK Try.prog 31 cTrue := (autoC_ok CEx_ok mixed 200 31 .run).mono fun ss r h => by
  unfold cTrue at h
  split at h
  · simp only [Tr.ev] at h; subst h; exact ex46
  · exact h.elim
end Go.Proofs.Ytpaejfeojdoikaa
namespace Go.Proofs.Ytpaejfeojdoikaa.Rw
open Go.Proofs.Ytpaejfeojdoikaa.Rm
open Go.Sx
set_option maxRecDepth 100000
theorem dgL_U (L : List Int) : U6 (dgL L) := dgW_U _ _
theorem dgL_one {A C : List Int} {a b : Int} (ha : I64 a) (hb : I64 b) : dgL (A ++ a :: C) = dgL (A ++ b :: C) ↔ a = b := by
  constructor
  · intro h
    refine Decidable.byContradiction fun hne => ?_
    unfold dgL at h
    rw [show (A ++ b :: C).length = (A ++ a :: C).length by simp] at h
    refine dgW_one (j := A.length) (fun i hi => ?_) ?_ ?_ ?_ ?_ h
    · rcases Nat.lt_or_ge i A.length with h1 | h1
      · rw [List.getD_eq_getElem?_getD, List.getD_eq_getElem?_getD, List.getElem?_append_left h1, List.getElem?_append_left h1]
      · rw [List.getD_eq_getElem?_getD, List.getD_eq_getElem?_getD, List.getElem?_append_right h1, List.getElem?_append_right h1]
        obtain ⟨k, hk⟩ : ∃ k, i - A.length = k + 1 := ⟨i - A.length - 1, by omega⟩
        rw [hk]; rfl
    · simpa using ha
    · simpa using hb
    · simpa using hne
    · simp
  · intro h; rw [h]
theorem allN_cut {α : Type} (f : α → List Int) (g : Nat → α) {i n : Nat} (hi : i < n) : allN f g n = allN f g i ++ (f (g i) ++ allN f (fun k => g (i + 1 + k)) (n - (i + 1))) := by
  obtain ⟨r, rfl⟩ : ∃ r, n = i + 1 + r := ⟨n - (i + 1), by omega⟩
  have e : allN f g (i + 1 + r) = allN f g (i + 1) ++ allN f (fun k => g (i + 1 + k)) r := by
    unfold allN
    rw [List.range_add, List.flatMap_append]
    congr 1
    rw [List.flatMap_map]
  rw [e, allN_succ, List.append_assoc, Nat.add_sub_cancel_left]
theorem allN_congr {α : Type} (f : α → List Int) {g g' : Nat → α} {n : Nat} (h : ∀ k, k < n → g k = g' k) : allN f g n = allN f g' n := by
  induction n with
  | zero => rfl
  | succ n ih => rw [allN_succ, allN_succ, ih fun k hk => h k (by omega), h n (by omega)]
theorem allN_upd {α : Type} (f : α → List Int) (g : Nat → α) {i n : Nat} (hi : i < n) : ∃ A C, ∀ g', (∀ k, k ≠ i → g' k = g k) → allN f g' n = A ++ (f (g' i) ++ C) := by
  refine ⟨allN f g i, allN f (fun k => g (i + 1 + k)) (n - (i + 1)), fun g' h => ?_⟩
  rw [allN_cut f g' hi, allN_congr f (g := g') (g' := g) (n := i) fun k hk => h k (by omega), allN_congr f (g := fun k => g' (i + 1 + k)) (g' := fun k => g (i + 1 + k)) fun k hk => h _ (by omega)]
def rgI (r : RgT) (v : Int) : RgT := { r with ini := v }
def prI (p : PrT) (v : Int) : PrT := { p with r := fun j => if j = 0 then rgI (p.r 0) v else p.r j }
def ciI (x : CiT) (p : Nat) (v : Int) : CiT := { x with p := fun k => if k = p then prI (x.p p) v else x.p k }
def chK (c : ChT) (v : Int) : ChT := { c with cap := v }
def ciK (x : CiT) (v : Int) : CiT := { x with c := fun k => if k = 0 then chK (x.c 0) v else x.c k }
theorem prN_ini {p : PrT} (h : 0 < p.nr) : ∃ A C, ∀ v, prN (prI p v) = A ++ v :: C := by
  obtain ⟨A, C, hA⟩ := allN_upd rgN p.r h
  refine ⟨textL p.nm.data.toList ++ (textL p.ck.data.toList ++ ([(p.nr : Int)] ++ (A ++ (textL (p.r 0).nm.data.toList ++ [(p.r 0).w])))), (xtN (p.r 0).nx ++ ruN (p.r 0).rk (p.r 0).rf (p.r 0).rn) ++ (C ++ ([0] ++ ([(p.nt : Int)] ++ (allN tkN p.t p.nt ++ ([(p.np : Int)] ++ allN ptN p.p p.np))))), fun v => ?_⟩
  have h1 := hA (fun j => if j = 0 then rgI (p.r 0) v else p.r j) fun k hk => by rw [if_neg hk]
  rw [if_pos rfl] at h1
  unfold prN prI
  dsimp only
  rw [h1]
  unfold rgN rgI
  simp only [List.append_assoc, List.cons_append, List.nil_append]
theorem ciN_ini {x : CiT} {p : Nat} (hp : p < x.np) (h : 0 < (x.p p).nr) : ∃ A C, ∀ v, ciN (ciI x p v) = A ++ v :: C := by
  obtain ⟨A, C, hA⟩ := allN_upd prN x.p hp
  obtain ⟨A', C', hB⟩ := prN_ini h
  refine ⟨[(x.np : Int)] ++ (A ++ A'), C' ++ (C ++ ([(x.nc : Int)] ++ allN chN x.c x.nc)), fun v => ?_⟩
  have h1 := hA (fun k => if k = p then prI (x.p p) v else x.p k) fun k hk => by rw [if_neg hk]
  rw [if_pos rfl, hB] at h1
  unfold ciN ciI
  dsimp only
  rw [h1]
  simp only [List.append_assoc, List.cons_append, List.nil_append]
theorem prI_self (p : PrT) : prI p (p.r 0).ini = p := by
  unfold prI
  have : (fun j => if j = 0 then rgI (p.r 0) (p.r 0).ini else p.r j) = p.r := by
    funext j; split
    · rename_i h; subst h; rfl
    · rfl
  rw [this]
theorem ciI_self (x : CiT) (p : Nat) : ciI x p ((x.p p).r 0).ini = x := by
  unfold ciI
  have : (fun k => if k = p then prI (x.p p) ((x.p p).r 0).ini else x.p k) = x.p := by
    funext j; split
    · rename_i h; subst h; exact prI_self _
    · rfl
  rw [this]
theorem ciK_self (x : CiT) : ciK x (x.c 0).cap = x := by
  unfold ciK
  have : (fun k => if k = 0 then chK (x.c 0) (x.c 0).cap else x.c k) = x.c := by
    funext j; split
    · rename_i h; subst h; rfl
    · rfl
  rw [this]
theorem dg_ini {x : CiT} {p : Nat} (hp : p < x.np) (h : 0 < (x.p p).nr) {v : Int} (hv : I64 v) (ho : I64 ((x.p p).r 0).ini) : (dgL (ciN x) == dgL (ciN (ciI x p v))) = (v == ((x.p p).r 0).ini) := by
  obtain ⟨A, C, hA⟩ := ciN_ini hp h
  have h1 := hA v
  have h2 := hA ((x.p p).r 0).ini
  rw [ciI_self] at h2
  rw [h1, h2, Bool.eq_iff_iff, beq_iff_eq, beq_iff_eq, dgL_one ho hv]
  exact ⟨Eq.symm, Eq.symm⟩
theorem ciN_cap {x : CiT} (h : 0 < x.nc) : ∃ A C, ∀ v, ciN (ciK x v) = A ++ v :: C := by
  obtain ⟨A, C, hA⟩ := allN_upd chN x.c h
  refine ⟨[(x.np : Int)] ++ (allN prN x.p x.np ++ ([(x.nc : Int)] ++ (A ++ (textL (x.c 0).nm.data.toList ++ [(x.c 0).w])))), [(x.c 0).fr, (x.c 0).to] ++ C, fun v => ?_⟩
  have h1 := hA (fun j => if j = 0 then chK (x.c 0) v else x.c j) fun k hk => by rw [if_neg hk]
  rw [if_pos rfl] at h1
  unfold ciN ciK
  dsimp only
  rw [h1]
  unfold chN chK
  simp only [List.append_assoc, List.cons_append, List.nil_append]
theorem dg_cap {x : CiT} (h : 0 < x.nc) {v : Int} (hv : I64 v) (ho : I64 (x.c 0).cap) : (dgL (ciN x) == dgL (ciN (ciK x v))) = (v == (x.c 0).cap) := by
  obtain ⟨A, C, hA⟩ := ciN_cap h
  have h1 := hA v
  have h2 := hA (x.c 0).cap
  rw [ciK_self] at h2
  rw [h1, h2, Bool.eq_iff_iff, beq_iff_eq, beq_iff_eq, dgL_one ho hv]
  exact ⟨Eq.symm, Eq.symm⟩
end Go.Proofs.Ytpaejfeojdoikaa.Rw
namespace Go.Proofs.Ytpaejfeojdoikaa.Rw
open Go.Proofs.Ytpaejfeojdoikaa.Rm
open Go.Sx
set_option maxRecDepth 100000
theorem jnV_U (a b : Int) : U6 (jnV a b) := stp_U _ _
theorem jnV_l {a a' b : Int} (h1 : U6 a) (h2 : U6 a') (h : jnV a b = jnV a' b) : a = a' := stp_w h1 h2 (stp_s (stp_U _ _) (stp_U _ _) h)
theorem jnV_r {a b b' : Int} (h1 : U6 b) (h2 : U6 b') (h : jnV a b = jnV a b') : b = b' := stp_w h1 h2 h
theorem rtG_one {n k : Nat} {g h : Nat → Int} (hn : n ≤ 4) (hk : k < n) (hg : ∀ i, U6 (g i)) (hh : ∀ i, U6 (h i)) (e : ∀ i, i < n → i ≠ k → g i = h i) (hr : rtG n g = rtG n h) : g k = h k := by
  have hn' : n = 1 ∨ n = 2 ∨ n = 3 ∨ n = 4 := by omega
  rcases hn' with rfl | rfl | rfl | rfl
  · obtain rfl : k = 0 := by omega
    exact hr
  · have hr : jnV (g 0) (g 1) = jnV (h 0) (h 1) := hr
    have hk' : k = 0 ∨ k = 1 := by omega
    rcases hk' with rfl | rfl
    · rw [e 1 (by omega) (by omega)] at hr; exact jnV_l (hg _) (hh _) hr
    · rw [e 0 (by omega) (by omega)] at hr; exact jnV_r (hg _) (hh _) hr
  · have hr : jnV (jnV (g 0) (g 1)) (g 2) = jnV (jnV (h 0) (h 1)) (h 2) := hr
    have hk' : k = 0 ∨ k = 1 ∨ k = 2 := by omega
    rcases hk' with rfl | rfl | rfl
    · rw [e 1 (by omega) (by omega), e 2 (by omega) (by omega)] at hr; exact jnV_l (hg _) (hh _) (jnV_l (jnV_U _ _) (jnV_U _ _) hr)
    · rw [e 0 (by omega) (by omega), e 2 (by omega) (by omega)] at hr; exact jnV_r (hg _) (hh _) (jnV_l (jnV_U _ _) (jnV_U _ _) hr)
    · rw [e 0 (by omega) (by omega), e 1 (by omega) (by omega)] at hr; exact jnV_r (hg _) (hh _) hr
  · have hr : jnV (jnV (g 0) (g 1)) (jnV (g 2) (g 3)) = jnV (jnV (h 0) (h 1)) (jnV (h 2) (h 3)) := hr
    have hk' : k = 0 ∨ k = 1 ∨ k = 2 ∨ k = 3 := by omega
    rcases hk' with rfl | rfl | rfl | rfl
    · rw [e 1 (by omega) (by omega), e 2 (by omega) (by omega), e 3 (by omega) (by omega)] at hr; exact jnV_l (hg _) (hh _) (jnV_l (jnV_U _ _) (jnV_U _ _) hr)
    · rw [e 0 (by omega) (by omega), e 2 (by omega) (by omega), e 3 (by omega) (by omega)] at hr; exact jnV_r (hg _) (hh _) (jnV_l (jnV_U _ _) (jnV_U _ _) hr)
    · rw [e 0 (by omega) (by omega), e 1 (by omega) (by omega), e 3 (by omega) (by omega)] at hr; exact jnV_l (hg _) (hh _) (jnV_r (jnV_U _ _) (jnV_U _ _) hr)
    · rw [e 0 (by omega) (by omega), e 1 (by omega) (by omega), e 2 (by omega) (by omega)] at hr; exact jnV_r (hg _) (hh _) (jnV_r (jnV_U _ _) (jnV_U _ _) hr)
theorem w64_I (x : Int) : I64 (w64 x) := by
  unfold I64 w64 IntKind.wrap
  simp [IntKind.signed, IntKind.bits]
  omega
theorem w64_inj {a b : Int} (ha : U6 a) (hb : U6 b) (h : w64 a = w64 b) : a = b := by
  unfold w64 IntKind.wrap at h
  simp [IntKind.signed, IntKind.bits] at h
  obtain ⟨h1, h2⟩ := ha
  obtain ⟨h3, h4⟩ := hb
  omega
theorem fmN_get (f : FrT) {i : Nat} (hi : i < f.n) : (fmN f).getD i 0 = w64 (f.w i) := by
  unfold fmN
  rw [List.getD_eq_getElem?_getD, List.getElem?_map, List.getElem?_range hi]; rfl
theorem fm_one {f g : FrT} {j : Nat} (hn : f.n = g.n) (hj : j < f.n) (hf : U6 (f.w j)) (hg : U6 (g.w j)) (e : ∀ i, i < f.n → i ≠ j → f.w i = g.w i) (h : dgL (fmN f) = dgL (fmN g)) : f.w j = g.w j := by
  refine Decidable.byContradiction fun hne => ?_
  unfold dgL at h
  rw [fmN_len, fmN_len, ← hn] at h
  have hc : ∀ (c : Nat → Int), dgW f.n c = dgW f.n fun i => if i < f.n then c i else 0 := fun c => dgW_congr fun i hi => by rw [if_pos hi]
  rw [hc, hc fun i => (fmN g).getD i 0] at h
  refine dgW_one (j := j) (fun i hi => ?_) ?_ ?_ ?_ hj h
  · split
    · rename_i h1
      rw [fmN_get f h1, fmN_get g (by omega), e i h1 hi]
    · rfl
  · rw [if_pos hj, fmN_get f hj]; exact w64_I _
  · rw [if_pos hj, fmN_get g (by omega)]; exact w64_I _
  · rw [if_pos hj, fmN_get f hj, fmN_get g (by omega), if_pos hj]
    exact fun h2 => hne (w64_inj hf hg h2)
theorem fmN_eq {f g : FrT} (hn : f.n = g.n) (e : ∀ i, i < f.n → f.w i = g.w i) : fmN f = fmN g := by
  unfold fmN
  rw [← hn]
  refine List.map_congr_left fun i hi => ?_
  rw [e i (List.mem_range.1 hi)]
def WdU (n : Nat) (x : Nat → FsT) : Prop := ∀ p k j, p < n → k < (x p).n → j < ((x p).f k).n → U6 (((x p).f k).w j)
theorem fs_wod {n : Nat} {x : Nat → FsT} {a : Nat} {v : Int} (hs : Sml 4 n x) (hw : WdU n x) (hv : U6 v) : (∀ i, i < n → fsV (x i) = fsV (wodF x a v i)) ↔ elQ n x n (wodF x a v) := by
  constructor
  · intro h
    refine ⟨⟨rfl, fun i hi => ⟨rfl, fun k hk => rfl⟩⟩, fun i hi k hk => ⟨rfl, fun j hj => ?_⟩⟩
    show ((x i).f k).w j = if posW (mmF x) (nnF x) i k j = a then v else ((x i).f k).w j
    by_cases hp : posW (mmF x) (nnF x) i k j = a
    · rw [if_pos hp]
      have h1 := h i hi
      unfold fsV at h1
      have hothers : ∀ k', k' < (x i).n → k' ≠ k → dgL (fmN ((x i).f k')) = dgL (fmN ((wodF x a v i).f k')) := fun k' hk' hne => by
        refine congrArg dgL (fmN_eq rfl fun j' hj' => ?_)
        show ((x i).f k').w j' = if posW (mmF x) (nnF x) i k' j' = a then v else ((x i).f k').w j'
        rw [if_neg]
        intro h2
        obtain ⟨_, h3, _⟩ := posW_inj hk' hj' hk hj (h2.trans hp.symm)
        exact hne h3
      have h2 : dgL (fmN ((x i).f k)) = dgL (fmN ((wodF x a v i).f k)) := rtG_one (n := (x i).n) (k := k) (g := fun k => dgL (fmN ((x i).f k))) (h := fun k => dgL (fmN ((wodF x a v i).f k))) (hs.m i hi) hk (fun _ => dgL_U _) (fun _ => dgL_U _) hothers h1
      have hself : ((wodF x a v i).f k).w j = v := by
        show (if posW (mmF x) (nnF x) i k j = a then v else ((x i).f k).w j) = v
        rw [if_pos hp]
      have h3 := fm_one (f := (x i).f k) (g := (wodF x a v i).f k) rfl hj (hw i k j hi hk hj) (by rw [hself]; exact hv) (fun j' hj' hne => by
        show ((x i).f k).w j' = if posW (mmF x) (nnF x) i k j' = a then v else ((x i).f k).w j'
        rw [if_neg]
        intro h4
        exact hne (posW_inj hk hj' hk hj (h4.trans hp.symm)).2.2) h2
      rw [hself] at h3
      exact h3
    · rw [if_neg hp]
  · rintro ⟨_, h⟩ i hi
    unfold fsV
    refine rtG_congr (hs.m i hi) fun k hk => congrArg dgL (fmN_eq rfl fun j hj => ?_)
    exact (h i hi k hk).2 j hj
theorem ps_ini (n : Nat) (B : Nat → Nat → Sx.DV) : ∀ (es : List (List Int × List Int)) m p, ∀ x ∈ psG n B es m p, I64 (x.r 0).ini
  | [], _, _, x, h => by cases h
  | e :: es, m, p, x, h => by
    unfold psG at h
    rcases List.mem_cons.1 h with rfl | h
    · show I64 (inV _ _)
      unfold inV; exact w64_I _
    · exact ps_ini n B es _ _ x h
theorem md_ini (sh : Int) (n : Nat) (B : Nat → Nat → Sx.DV) {p : Nat} (hp : p < (mdW sh n B).np) : I64 (((mdW sh n B).p p).r 0).ini := by
  refine ps_ini n B (planL (sh % 6).toNat) 0 0 _ ?_
  have hp' : p < (planL (sh % 6).toNat).length := hp
  exact Go.Sx.getD_mem (by rw [psG_len]; exact hp')
theorem md_cap (sh : Int) (n : Nat) (B : Nat → Nat → Sx.DV) : I64 ((mdW sh n B).c 0).cap := by
  show I64 (cpL _ sh 0)
  unfold cpL
  split
  · exact w64_I _
  · exact ⟨by decide, by decide⟩
end Go.Proofs.Ytpaejfeojdoikaa.Rw
namespace Go.Sx
open Go.Proofs.Ytpaejfeojdoikaa in
open Go.Proofs.Ytpaejfeojdoikaa.Rm in
def _root_.Go.Proofs.MdIs (sh : Int) (n : Nat) (B : Nat → Nat → DV) (x : CiT) : Prop := (0 ≤ sh ∧ Proofs.BtD n B) ∧ mdW sh n B = x
open Go.Proofs.Ytpaejfeojdoikaa.Rm in
def _root_.Go.Proofs.SeIs (a : Nat) (S : Nat → Nat → DV) (b : Nat) (W : Nat → Nat → DV) (m : Nat) (y : Nat → FsT) : Prop :=
  ∃ sh wd : Nat → Int, ((∀ i, 0 ≤ sh i) ∧ Proofs.RowK .u8 a S sh ∧ Proofs.RowK .u64 b W wd) ∧ (seV a sh b wd).length = m ∧ (fun i => fsT ((seV a sh b wd).getD i [])) = y
end Go.Sx
namespace Go.Proofs.Ytpaejfeojdoikaa.Rw
open Go.Proofs.Ytpaejfeojdoikaa.Rm
open Go.Sx
set_option maxRecDepth 100000
noncomputable def cMdX (x : CiT) : Ctr := fun ss => match ss with
  | [.agg [.d (.x (.int .u8 sh)), .d (.ro n 1 B)]] => .need (MdIs sh n B x) (.ret (ciS x))
  | _ => .fail
theorem cMdX_ok (x : CiT) : CtrOK Try.prog 48 (cMdX x) := Rm.cMd_ok.mono fun ss r h => by
  unfold cMdX at h
  unfold Rm.cMd
  split at h
  · obtain ⟨⟨h1, h2⟩, rfl⟩ := h
    exact ⟨h1, by rw [h2]; rfl⟩
  · exact h.elim
noncomputable def cSeX (m : Nat) (y : Nat → FsT) : Ctr := fun ss => match ss with
  | [.agg [.d (.ro a 1 S), .d (.ro b 1 W)]] => .need (SeIs a S b W m y) (.ret (ssS m y))
  | _ => .fail
theorem cSeX_ok (m : Nat) (y : Nat → FsT) : CtrOK Try.prog 49 (cSeX m y) := by
  intro ss vs w F r hF hgl hr hev
  unfold cSeX at hev
  split at hev
  · obtain ⟨⟨sh, wd, h1, h2, h3⟩, rfl⟩ := hev
    refine Rm.cSe_ok sh wd _ vs w F _ hF hgl hr ?_
    refine ⟨h1, ?_⟩
    subst h2; subst h3
    rfl
  · exact hev.elim
noncomputable def ct0 : Rel := ctR 0 (intCell fun _ _ => .x undef)
noncomputable def cCt0 (r : Rel) : Ctr := fun ss => match ss with
  | [.d (.x (.slice none 0 0))] => .need (ct0 = r) (.ret (.agg (relL r)))
  | _ => .fail
theorem cCt0_ok (r : Rel) : CtrOK Try.prog 33 (cCt0 r) := cCt_ok.mono fun ss s h => by
  unfold cCt0 at h
  split at h
  · obtain ⟨h1, rfl⟩ := h
    exact ⟨⟨by decide, fun i hi => absurd hi (Nat.not_lt_zero _)⟩, by rw [← h1]; rfl⟩
  · exact h.elim
section
variable (x : CiT) (m : Nat) (y : Nat → FsT) (r : Rel)
noncomputable def manX : FuncId → Option Ctr := fun k => match k with
  | 31 => some cTrue
  | 48 => some (cMdX x)
  | 49 => some (cSeX m y)
  | 33 => some (cCt0 r)
  | 50 => some cCi
  | 51 => some cFr
  | 52 => some cMt
  | 53 => some cWo
  | 54 => some cEl
  | _ => none
theorem manX_ok (k : Nat) (c : Ctr) (hk : manX x m y r k = some c) : CtrOK Try.prog k c ∧ goodF Try.prog k = true := by
  unfold manX at hk
  split at hk
  · cases hk; exact ⟨cEx46_ok, by kernel_rfl⟩
  · cases hk; exact ⟨cMdX_ok x, by kernel_rfl⟩
  · cases hk; exact ⟨cSeX_ok m y, by kernel_rfl⟩
  · cases hk; exact ⟨cCt0_ok r, by kernel_rfl⟩
  · cases hk; exact ⟨cCi_ok, by kernel_rfl⟩
  · cases hk; exact ⟨cFr_ok, by kernel_rfl⟩
  · cases hk; exact ⟨cMt_ok, by kernel_rfl⟩
  · cases hk; exact ⟨cWo_ok, by kernel_rfl⟩
  · cases hk; exact ⟨cEl_ok, by kernel_rfl⟩
  · cases hk
noncomputable def CX : Ctx := ctxN Try.prog (manX x m y r) (fun _ => false) 200 .nil 6
theorem CX_ok : CtxOK Try.prog (CX x m y r) := ctxN_ok mixed (manX_ok x m y r) 6
noncomputable def DX : Dr := drawnL Try.prog (CX x m y r)
theorem DX_ok : DrOK Try.prog (CX x m y r) (DX x m y r) := drawnL_ok (CX_ok x m y r) mixed
end
noncomputable def rwX (sh : Int) (n : Nat) (B : Nat → Nat → Sx.DV) : SV := .agg [.d (.x (.int .u8 sh)), .d (.ro n 1 B)]
noncomputable def rwY (a : Nat) (S : Nat → Nat → Sx.DV) (b : Nat) (W : Nat → Nat → Sx.DV) : SV := .agg [.d (.ro a 1 S), .d (.ro b 1 W)]
noncomputable def k4 (k0 k1 k2 k3 : Int) : SV := .agg [iv k0, iv k1, iv k2, iv k3]
noncomputable def tMg (x : CiT) (m : Nat) (y : Nat → FsT) (r : Rel) (sh : Int) (n : Nat) (B : Nat → Nat → Sx.DV) (a : Nat) (S : Nat → Nat → Sx.DV) (b : Nat) (W : Nat → Nat → Sx.DV) (k0 k1 k2 k3 : Int) (h : Hint) : Tree SV :=
  fnT Try.prog (CX x m y r) (DX x m y r) 200 (fnOf Try.prog 11) (bodyOf Try.prog 11) [rwX sh n B, rwY a S b W, k4 k0 k1 k2 k3] h
noncomputable def LMg (x : CiT) (m : Nat) (y : Nat → FsT) (r : Rel) (sh : Int) (n : Nat) (B : Nat → Nat → Sx.DV) (a : Nat) (S : Nat → Nat → Sx.DV) (b : Nat) (W : Nat → Nat → Sx.DV) (k0 k1 k2 k3 : Int) : Tree SV :=
  .ite false (.ret (bv false))
  (.need (MdIs sh n B x)
   (.need (SeIs a S b W m y)
   (.need (ct0 = r)
   (.need (CiD (CiT.np x) (fun i j => prC (CiT.p x i) j) (CiT.nc x) fun i j => chC (CiT.c x i) j)
   (.code (codeC (sub [(1 : Nat), (0 : Nat), (0 : Nat), (0 : Nat), (0 : Nat)] (tMg x m y r sh n B a S b W k0 k1 k2 k3 .nil)))
   (codeS (sub [(1 : Nat), (0 : Nat), (0 : Nat), (0 : Nat), (0 : Nat)] (tMg x m y r sh n B a S b W k0 k1 k2 k3 .nil)))
   (codeK (sub [(1 : Nat), (0 : Nat), (0 : Nat), (0 : Nat), (0 : Nat)] (tMg x m y r sh n B a S b W k0 k1 k2 k3 .nil))))))))
theorem LMg_eq (x : CiT) (m : Nat) (y : Nat → FsT) (r : Rel) (sh : Int) (n : Nat) (B : Nat → Nat → Sx.DV) (a : Nat) (S : Nat → Nat → Sx.DV) (b : Nat) (W : Nat → Nat → Sx.DV) (k0 k1 k2 k3 : Int) : tMg x m y r sh n B a S b W k0 k1 k2 k3 .nil = LMg x m y r sh n B a S b W k0 k1 k2 k3 := by kernel_rfl
end Go.Proofs.Ytpaejfeojdoikaa.Rw
namespace Go.Proofs.Ytpaejfeojdoikaa.Rw
open Go.Proofs.Ytpaejfeojdoikaa.Rm
open Go.Sx
set_option maxRecDepth 100000
noncomputable def slX (l : List (Nat × SV)) : List TV := (List.range 161).map fun k => match l.find? (fun e => Nat.beq e.1 k) with | some e => .ok e.2 | none => .unk
section
variable (x : CiT) (m : Nat) (y : Nat → FsT) (r : Rel) (k0 k1 k2 k3 : Int)
noncomputable def ciCells : List SV := [.d (.ro x.np 6 fun i j => prC (x.p i) j), .d (.ro x.nc 5 fun i j => chC (x.c i) j)]
noncomputable def rlCells (c4 : SV) : List SV := [iv r.no, u64v r.prev, u64v r.src, u64v (dgL (ciN x)), c4, iv r.b0, iv r.b1, iv r.b2, iv r.b3, iv r.b4, iv r.b5, iv r.b6, iv r.b7, iv r.b8, iv r.b9, iv r.b10, iv r.b11, iv r.pn, iv r.pd, u64v r.tag]
noncomputable def hpX (c4 : SV) : Heap := [none, none, some (.cells [iv k0, iv k1, iv k2, iv k3]), none, none, none, none, some (.cells (ciCells x)), none, none, some (.cells (rlCells x r c4)), none, none, none]
noncomputable def slX1 (i : Int) : List TV := slX [(5, .ptr 2 0), (7, bv true), (8, .ptr 7 0), (9, ssS m y), (10, .ptr 10 0), (11, iv i)]
noncomputable def rowU (d : Nat → Int) : Nat → Nat → Sx.DV := fun a _ => .x (.int .u64 (d a))
noncomputable def stX1 (q : Nat) (c : Nat → Nat → Sx.DV) (i : Int) (h : Hint) : AS := ⟨slX1 m y i, hpX x r k0 k1 k2 k3 (.row 14 0 0 q 1) ++ [some (.row q 1 c)], 15, h⟩
noncomputable def bodyX1 : Code := loopN (bodyOf Try.prog 11) 0
variable (q : Nat) (d : Nat → Int) (i : Int)
noncomputable def bX1 : Tree (Ex × AS) := cutT 14 [(.cell (.base 10) 4, 14)] [5, 7, 8, 9, 10, 11] [] 15 .nil (exec Try.prog (CX x m y r) (DX x m y r) 200 bodyX1 (stX1 x m y r k0 k1 k2 k3 q (rowU d) i .nil))
noncomputable def selX (v : Int) : Nat → Nat → Sx.DV := fun a b => selD (decide (a < q)) (.x (.int .u64 (d (0 + a)))) (dsAt [.x (.int .u64 v)] (0 + (0 + (a - q)) * 1 + b))
noncomputable def BX1 : Tree (Ex × AS) := .ite (decide (i < (m : Int)))
  (.need (0 ≤ i ∧ i < (m : Int)) (.need (FrD (y i.toNat).n fun k j => fmC ((y i.toNat).f k) j) (.need (0 + q ≤ q ∧ 1 ≤ 1 ∧ (q + 1) * 8 ≤ 140737488355328) (.ret (.normal, stX1 x m y r k0 k1 k2 k3 (q + 1) (selX q d (fsV (y i.toNat))) (w64 (i + 1)) .nil)))))
  (.ret (.exit 0, stX1 x m y r k0 k1 k2 k3 q (rowU d) i .nil))
theorem BX1_eq : bX1 x m y r k0 k1 k2 k3 q d i = BX1 x m y r k0 k1 k2 k3 q d i := by kernel_rfl
end
end Go.Proofs.Ytpaejfeojdoikaa.Rw
namespace Go.Proofs.Ytpaejfeojdoikaa.Rw
open Go.Proofs.Ytpaejfeojdoikaa.Rm
open Go.Sx
set_option maxRecDepth 100000
theorem frD_of {n : Nat} {x : Nat → FsT} (hs : Sml 4 n x) {i : Nat} (hi : i < n) : FrD (x i).n fun k j => fmC ((x i).f k) j :=
  ⟨hs.m i hi, fun k hk => ⟨by show ((x i).f k).n ≤ _; have := hs.k i k hi hk; omega, rfl⟩⟩
theorem ssD_of {n : Nat} {x : Nat → FsT} (hs : Sml 4 n x) : SsD n fun i j => fsC (x i) j :=
  fun i hi => ⟨⟨hs.m i hi, fun k hk => by show ((x i).f k).n ≤ _; have := hs.k i k hi hk; omega⟩, rfl⟩
theorem selX_eq (q : Nat) (d : Nat → Int) (a b : Nat) (ha : a < q + 1) (hb : b < 1) : selX q d (d q) a b = rowU d a b := by
  obtain rfl : b = 0 := by omega
  unfold selX rowU
  rw [selD_eq, Nat.zero_add, show 0 + (0 + (a - q)) * 1 + 0 = a - q by omega]
  by_cases h : a < q
  · rw [decide_eq_true h]; rfl
  · obtain rfl : a = q := by omega
    rw [decide_eq_false (by omega), Nat.sub_self]; rfl
section
variable {x : CiT} {m : Nat} {y : Nat → FsT} {r : Rel} {k0 k1 k2 k3 : Int}
theorem mg1_sat (hs : Sml 4 m y) {i : Nat} (hi : i ≤ m) : Sat Try.prog (bX1 x m y r k0 k1 k2 k3 i (fun a => fsV (y a)) i) fun w => (i < m ∧ w.1 = .normal ∧ Gc 14 w.2 (stX1 x m y r k0 k1 k2 k3 (i + 1) (rowU fun a => fsV (y a)) ((i + 1 : Nat) : Int) .nil)) ∨
    (i = m ∧ w.1 = .exit 0 ∧ Gc 14 w.2 (stX1 x m y r k0 k1 k2 k3 i (rowU fun a => fsV (y a)) i (.c 5 .nil))) := by
  have hm := hs.le
  refine Sat.of_eq (BX1_eq x m y r k0 k1 k2 k3 i (fun a => fsV (y a)) i) ⟨?_⟩
  unfold BX1
  rw [Int.toNat_natCast]
  refine ⟨fun h1 => ?_, fun h1 => ?_⟩
  · simp only [decide_eq_true_eq] at h1
    have hlt : i < m := by omega
    rw [w64_of (n := (i : Int) + 1) (by omega) (by omega)]
    have e2 : ((i + 1 : Nat) : Int) = (i : Int) + 1 := by omega
    refine ⟨by omega, frD_of hs hlt, by omega, Or.inl ⟨hlt, rfl, ?_⟩⟩
    rw [e2]
    unfold stX1 hpX
    exact gc_hp rfl rfl ⟨.inl rfl, .inl rfl, .inr ⟨_, _, rfl, rfl, .refl _⟩, .inl rfl, .inl rfl, .inl rfl, .inl rfl, .inr ⟨_, _, rfl, rfl, .refl _⟩, .inl rfl, .inl rfl, .inr ⟨_, _, rfl, rfl, .refl _⟩, .inl rfl, .inl rfl, .inl rfl, .inr ⟨_, _, rfl, rfl, .row fun a b ha hb => selX_eq i (fun a => fsV (y a)) a b ha hb⟩, trivial⟩
  · simp only [decide_eq_false_iff_not] at h1
    obtain rfl : i = m := by omega
    refine Or.inr ⟨rfl, rfl, ?_⟩
    unfold stX1 hpX
    exact gc_hp rfl rfl ⟨.inl rfl, .inl rfl, .inr ⟨_, _, rfl, rfl, .refl _⟩, .inl rfl, .inl rfl, .inl rfl, .inl rfl, .inr ⟨_, _, rfl, rfl, .refl _⟩, .inl rfl, .inl rfl, .inr ⟨_, _, rfl, rfl, .refl _⟩, .inl rfl, .inl rfl, .inl rfl, .inr ⟨_, _, rfl, rfl, .refl _⟩, trivial⟩
end
section
variable (x : CiT) (m : Nat) (y : Nat → FsT) (r : Rel) (sh : Int) (n : Nat) (B : Nat → Nat → Sx.DV) (a : Nat) (S : Nat → Nat → Sx.DV) (b : Nat) (W : Nat → Nat → Sx.DV) (k0 k1 k2 k3 : Int)
noncomputable def stX0 : AS := ⟨slX1 m y 0, hpX x r k0 k1 k2 k3 (.d (.x (.slice none 0 0))), 14, .nil⟩
theorem EX1_eq : entA 14 [] [5, 7, 8, 9, 10, 11] [0, 1, 3, 4, 5, 6, 8, 9, 11, 12, 13] 14 .nil (sub [1, 0, 0, 0, 0] (tMg x m y r sh n B a S b W k0 k1 k2 k3 .nil)) = some (stX0 x m y r k0 k1 k2 k3) := by kernel_rfl
theorem stX0_gc : Gc 14 (stX0 x m y r k0 k1 k2 k3) (stX1 x m y r k0 k1 k2 k3 0 (rowU fun a => fsV (y a)) 0 .nil) := by
  refine gc_sound [] [14] rfl ?_ ?_
  · simp [stX0, stX1, slX1, slX, leTm, leTV, leSV, leSVs, rn, iv, leD, List.range, List.range.loop, List.find?, ssS, bv]
  · simp [stX0, stX1, hpX, rlCells, ciCells, leHp, leBlk, leSVs, leSV, rn, iv, leD, srcOf, hget, u64v]
end
end Go.Proofs.Ytpaejfeojdoikaa.Rw
namespace Go.Proofs.Ytpaejfeojdoikaa.Rw
open Go.Proofs.Ytpaejfeojdoikaa.Rm
open Go.Sx
set_option maxRecDepth 100000
section
variable (x : CiT) (m : Nat) (y : Nat → FsT) (r : Rel) (sh : Int) (n : Nat) (B : Nat → Nat → Sx.DV) (a : Nat) (S : Nat → Nat → Sx.DV) (b : Nat) (W : Nat → Nat → Sx.DV) (k0 k1 k2 k3 : Int) (q : Nat) (d : Nat → Int) (i : Int)
noncomputable def tK1 : Tree SV := codeK (sub [1, 0, 0, 0, 0] (tMg x m y r sh n B a S b W k0 k1 k2 k3 .nil)) (.exit 0) (stX1 x m y r k0 k1 k2 k3 q (rowU d) i (.c 5 .nil))
abbrev pK1 : List Nat := [0, 0, 1, 0, 0, 0, 0]
noncomputable def LK1 : Tree SV :=
  .need (0 + q ≤ q) (.need ((CiD (CiT.np x) (fun i j => prC (CiT.p x i) j) (CiT.nc x) fun i j => chC (CiT.c x i) j) ∧ (UrD q fun i j => DV.x (.int .u64 (d (0 + i)))) ∧ SsD m fun i j => fsC (y i) j)
   (.ite (!mtB (dgL (ciN x)) q (fun i j => DV.x (.int .u64 (d (0 + i)))) (CiT.np x) (fun i j => prC (CiT.p x i) j) (CiT.nc x) (fun i j => chC (CiT.c x i) j) m fun i j => fsC (y i) j) (.ret (bv false))
   (.need ((0 : Nat) ≤ 0 ∧ True ∧ (0 + CiT.np x) * 128 ≤ 140737488355328) (.need ((0 : Int) ≤ (0 : Int) ∧ (0 : Int) < (4 : Int)) (.need ((0 : Nat) < 4) (.need (((CiT.np x : Nat) : Int) ≠ (0 : Int))
   (atCode (sub pK1 (tK1 x m y r sh n B a S b W k0 k1 k2 k3 q d i)))))))))
theorem LK1_eq : tK1 x m y r sh n B a S b W k0 k1 k2 k3 q d i = LK1 x m y r sh n B a S b W k0 k1 k2 k3 q d i := by kernel_rfl
noncomputable def pIx (k0 : Int) (np : Nat) : Int := Int.tmod (w64 ((BitVec.toNat (BitVec.ofInt 64 k0 &&& BitVec.ofInt 64 255) : Nat) : Int)) np
noncomputable def hpY (b18 : Option Blk) : Heap := [none, none, some (.cells [iv k0, iv k1, iv k2, iv k3]), none, none, none, none, some (.cells (ciCells x)), none, none, some (.cells (rlCells x r (.row 14 0 0 q 1))), none, none, none, some (.row q 1 (rowU d)), some (.cells [.row 18 0 0 x.np 6, .d (.ro x.nc 5 fun i j => chC (x.c i) j)]), none, none, b18, none]
noncomputable def slX2 (p : Int) : List TV := slX [(5, .ptr 2 0), (7, bv true), (8, .ptr 7 0), (9, ssS m y), (10, .ptr 10 0), (12, .ptr 15 0), (13, iv p)]
noncomputable def stX2 (p : Int) (b18 : Option Blk) : AS := ⟨slX2 m y p, hpY x r k0 k1 k2 k3 q d b18, 20, .nil⟩
end
section
variable (P : Nat → PrT) (nc : Nat) (Q : Nat → ChT) (m : Nat) (y : Nat → FsT) (r : Rel) (sh : Int) (n : Nat) (B : Nat → Nat → Sx.DV) (a : Nat) (S : Nat → Nat → Sx.DV) (b : Nat) (W : Nat → Nat → Sx.DV) (k0 k1 k2 k3 : Int) (q : Nat) (d : Nat → Int) (i : Int)
noncomputable def crow (x : CiT) : Nat → Nat → Sx.DV := fun a b => bif decide (a < 0) then dsAt [] (0 + (0 + a) * 6 + b) else prC (x.p (a - 0)) b
def spL (P : Nat → PrT) (np : Nat) : List SV := (List.range np).flatMap fun k => [.d (prC (P k) 0), .d (prC (P k) 1), .d (prC (P k) 2), .d (prC (P k) 3), .d (prC (P k) 4), .d (prC (P k) 5)]
noncomputable def tZ (np : Nat) (p : Int) : Tree SV := (exec Try.prog (CX ⟨np, P, nc, Q⟩ m y r) (DX ⟨np, P, nc, Q⟩ m y r) 200 (codeC (sub pK1 (tK1 ⟨np, P, nc, Q⟩ m y r sh n B a S b W k0 k1 k2 k3 q d i))) (stX2 ⟨np, P, nc, Q⟩ m y r k0 k1 k2 k3 q d p (some (.cells (spL P np))))).bind fun e => codeK (sub pK1 (tK1 ⟨np, P, nc, Q⟩ m y r sh n B a S b W k0 k1 k2 k3 q d i)) e.1 e.2
end
section
variable (P : Nat → PrT) (nc : Nat) (Q : Nat → ChT) (m : Nat) (y : Nat → FsT) (r : Rel) (sh : Int) (n : Nat) (B : Nat → Nat → Sx.DV) (a : Nat) (S : Nat → Nat → Sx.DV) (b : Nat) (W : Nat → Nat → Sx.DV) (k0 k1 k2 k3 : Int) (q : Nat) (d : Nat → Int) (i : Int) (np p : Nat)
noncomputable def rgZ (v : Int) (x : PrT) : Nat → Nat → Sx.DV := fun i j => if 2 ≤ j ∧ j < 3 then selD (decide (0 + i = 0)) ([Sx.DV.x (.int .i64 v)].getD (j - 2) (.x undef)) (bif decide (0 + i < 0) then dsAt [] (0 + (0 + (0 + i)) * 13 + j) else rgC (x.r (0 + i - 0)) j) else bif decide (0 + i < 0) then dsAt [] (0 + (0 + (0 + i)) * 13 + j) else rgC (x.r (0 + i - 0)) j
noncomputable def PZ : Nat → Nat → Sx.DV := fun i j => dsAt ((List.range np).flatMap fun k => [prC (P k) 0, prC (P k) 1, if k = p then .ro (0 + (P k).nr) 13 (rgZ k1 (P k)) else prC (P k) 2, prC (P k) 3, prC (P k) 4, prC (P k) 5]) (i * 6 + j)
noncomputable def QZ : Nat → Nat → Sx.DV := fun i j => if 2 ≤ j ∧ j < 3 then selD (decide (0 + i = 0)) ([Sx.DV.x (.int .i64 k2)].getD (j - 2) (.x undef)) (bif decide (0 + i < 0) then dsAt [] (0 + (0 + (0 + i)) * 5 + j) else chC (Q (0 + i - 0)) j) else bif decide (0 + i < 0) then dsAt [] (0 + (0 + (0 + i)) * 5 + j) else chC (Q (0 + i - 0)) j
noncomputable def lZ : Nat → Nat → Sx.DV := fun i j => dsAt [.x (.int .u64 (IntKind.wrap .u64 k3)), .x (.int .u64 (IntKind.wrap .u64 k1))] (0 + (0 + i) * 2 + j)
def DZ : Nat → Nat → Sx.DV := fun i j => .x (.int .u64 (d (0 + i)))
def PX : Nat → Nat → Sx.DV := fun i j => prC (P i) j
def QX : Nat → Nat → Sx.DV := fun i j => chC (Q i) j
def FX : Nat → Nat → Sx.DV := fun i j => fsC (y i) j
noncomputable def yw : Nat → FsT := wodF y (IntKind.wrap .u64 k3 % 64).toNat (IntKind.wrap .u64 k1)
noncomputable def z1 : Bool := !(mtB (dgL (ciN ⟨np, P, nc, Q⟩)) q (DZ d) np (PX P) (0 + nc) (QZ Q k2) m (FX y) == (k2 == (Q 0).cap))
noncomputable def z2 : Bool := !(mtB (dgL (ciN ⟨np, P, nc, Q⟩)) q (DZ d) np (PX P) nc (QX Q) m (FX (yw y k1 k3)) == @decide (elQ m y m (yw y k1 k3)) (Classical.propDecidable _))
noncomputable def z3 : Bool := ((m : Int) == (0 : Int)) || !mtB (dgL (ciN ⟨np, P, nc, Q⟩)) q (DZ d) np (PX P) nc (QX Q) (m - 1) (fun i j => fsC (y (1 + i)) j)
abbrev nd (p : Prop) (t : Tree SV) : Tree SV := .need p t
noncomputable def LZ2 : Tree SV :=
  nd ((0 : Nat) ≤ 0 ∧ True ∧ (0 + nc) * 48 ≤ 140737488355328) <| nd ((0 : Int) ≤ (2 : Int) ∧ (2 : Int) < (4 : Int)) <| nd ((2 : Nat) < 4) <| nd ((0 : Int) ≤ (0 : Int) ∧ (0 : Int) < ((0 + nc : Nat) : Int)) <| nd (0 < 0 + nc) <|
  nd ((0 : Int) ≤ (3 : Int) ∧ (3 : Int) < (4 : Int)) <| nd ((3 : Nat) < 4) <| nd ((0 : Int) ≤ (1 : Int) ∧ (1 : Int) < (4 : Int)) <| nd ((1 : Nat) < 4) <| nd ((2 : Nat) ≤ 2) <|
  nd (SsD m (FX y) ∧ WdD m (FX y) (lZ k1 k3)) <| nd (0 + q ≤ q) <| nd (0 + (0 + nc) ≤ 0 + nc) <|
  nd (CiD np (PX P) (0 + nc) (QZ Q k2) ∧ UrD q (DZ d) ∧ SsD m (FX y)) <| nd ((0 : Int) ≤ (2 : Int) ∧ (2 : Int) < (4 : Int)) <| nd ((2 : Nat) < 4) <| nd ((0 : Int) ≤ (0 : Int) ∧ (0 : Int) < (nc : Int)) <|
  nd (z1 P nc Q m y k2 q d np = false → 0 + q ≤ q) <| nd (z1 P nc Q m y k2 q d np = false → CiD np (PX P) nc (QX Q) ∧ UrD q (DZ d) ∧ SsD m (FX (yw y k1 k3))) <|
  nd (z1 P nc Q m y k2 q d np = false → (m ≤ 1000000000 ∧ SsD m (FX y)) ∧ SsD m (FX (yw y k1 k3))) <|
  .ite (z1 P nc Q m y k2 q d np || z2 P nc Q m y k1 k3 q d np) (.ret (bv false)) <|
  nd (((m : Int) == (0 : Int)) = false → True ∧ (0 : Int) ≤ (1 : Int) ∧ 1 ≤ m) <| nd (((m : Int) == (0 : Int)) = false → 0 + q ≤ q) <|
  nd (((m : Int) == (0 : Int)) = false → CiD np (PX P) nc (QX Q) ∧ UrD q (DZ d) ∧ SsD (m - 1) fun i j => fsC (y (1 + i)) j) <| .ret (bv (z3 P nc Q m y q d np && true))
noncomputable def LZ1 : Tree SV :=
  nd ((0 : Int) ≤ (p : Int) ∧ (p : Int) < (np : Int)) <| nd ((0 : Nat) ≤ 0 ∧ True ∧ (0 + (P p).nr) * 160 ≤ 140737488355328) <| nd ((0 : Int) ≤ (p : Int) ∧ (p : Int) < (np : Int)) <| nd (p < np) <| nd ((0 : Int) ≤ (p : Int) ∧ (p : Int) < (np : Int)) <| nd (p < np) <|
  nd ((0 : Int) ≤ (1 : Int) ∧ (1 : Int) < (4 : Int)) <| nd ((1 : Nat) < 4) <| nd ((0 : Int) ≤ (0 : Int) ∧ (0 : Int) < ((0 + (P p).nr : Nat) : Int)) <| nd (0 < 0 + (P p).nr) <| nd (0 + q ≤ q) <| nd (0 + (0 + (P p).nr) ≤ 0 + (P p).nr) <|
  nd (CiD np (PZ P k1 np p) nc (QX Q) ∧ UrD q (DZ d) ∧ SsD m (FX y)) <| nd ((0 : Int) ≤ (1 : Int) ∧ (1 : Int) < (4 : Int)) <| nd ((1 : Nat) < 4) <| nd ((0 : Int) ≤ (p : Int) ∧ (p : Int) < (np : Int)) <| nd ((0 : Int) ≤ (0 : Int) ∧ (0 : Int) < ((P p).nr : Int)) <|
  .ite (!(mtB (dgL (ciN ⟨np, P, nc, Q⟩)) q (DZ d) np (PZ P k1 np p) nc (QX Q) m (FX y) == (k1 == ((P p).r 0).ini))) (.ret (bv false)) (LZ2 P nc Q m y k1 k2 k3 q d np)
end
end Go.Proofs.Ytpaejfeojdoikaa.Rw
namespace Go.Proofs.Ytpaejfeojdoikaa.Rw
open Go.Proofs.Ytpaejfeojdoikaa.Rm
open Go.Sx
set_option maxRecDepth 100000
section
variable (P : Nat → PrT) (nc : Nat) (Q : Nat → ChT) (m : Nat) (y : Nat → FsT) (r : Rel) (sh : Int) (n : Nat) (B : Nat → Nat → Sx.DV) (a : Nat) (S : Nat → Nat → Sx.DV) (b : Nat) (W : Nat → Nat → Sx.DV) (k0 k1 k2 k3 : Int) (q : Nat) (d : Nat → Int) (i : Int)
theorem LZ10_eq : tZ P nc Q m y r sh n B a S b W k0 k1 k2 k3 q d i 1 0 = LZ1 P nc Q m y k1 k2 k3 q d 1 0 := by kernel_rfl
theorem EY1_eq : entA 20 [] [5, 7, 8, 9, 10, 12, 13] [0, 1, 3, 4, 5, 6, 8, 9, 11, 12, 13, 16, 17, 19] 20 .nil (sub pK1 (tK1 ⟨1, P, nc, Q⟩ m y r sh n B a S b W k0 k1 k2 k3 q d i)) = some (stX2 ⟨1, P, nc, Q⟩ m y r k0 k1 k2 k3 q d (pIx k0 1) (some (.row 1 6 (crow ⟨1, P, nc, Q⟩)))) := by kernel_rfl
theorem LZ20_eq : tZ P nc Q m y r sh n B a S b W k0 k1 k2 k3 q d i 2 0 = LZ1 P nc Q m y k1 k2 k3 q d 2 0 := by kernel_rfl
theorem LZ21_eq : tZ P nc Q m y r sh n B a S b W k0 k1 k2 k3 q d i 2 1 = LZ1 P nc Q m y k1 k2 k3 q d 2 1 := by kernel_rfl
theorem EY2_eq : entA 20 [] [5, 7, 8, 9, 10, 12, 13] [0, 1, 3, 4, 5, 6, 8, 9, 11, 12, 13, 16, 17, 19] 20 .nil (sub pK1 (tK1 ⟨2, P, nc, Q⟩ m y r sh n B a S b W k0 k1 k2 k3 q d i)) = some (stX2 ⟨2, P, nc, Q⟩ m y r k0 k1 k2 k3 q d (pIx k0 2) (some (.row 2 6 (crow ⟨2, P, nc, Q⟩)))) := by kernel_rfl
theorem LZ30_eq : tZ P nc Q m y r sh n B a S b W k0 k1 k2 k3 q d i 3 0 = LZ1 P nc Q m y k1 k2 k3 q d 3 0 := by kernel_rfl
theorem LZ31_eq : tZ P nc Q m y r sh n B a S b W k0 k1 k2 k3 q d i 3 1 = LZ1 P nc Q m y k1 k2 k3 q d 3 1 := by kernel_rfl
theorem LZ32_eq : tZ P nc Q m y r sh n B a S b W k0 k1 k2 k3 q d i 3 2 = LZ1 P nc Q m y k1 k2 k3 q d 3 2 := by kernel_rfl
theorem EY3_eq : entA 20 [] [5, 7, 8, 9, 10, 12, 13] [0, 1, 3, 4, 5, 6, 8, 9, 11, 12, 13, 16, 17, 19] 20 .nil (sub pK1 (tK1 ⟨3, P, nc, Q⟩ m y r sh n B a S b W k0 k1 k2 k3 q d i)) = some (stX2 ⟨3, P, nc, Q⟩ m y r k0 k1 k2 k3 q d (pIx k0 3) (some (.row 3 6 (crow ⟨3, P, nc, Q⟩)))) := by kernel_rfl
theorem LZ40_eq : tZ P nc Q m y r sh n B a S b W k0 k1 k2 k3 q d i 4 0 = LZ1 P nc Q m y k1 k2 k3 q d 4 0 := by kernel_rfl
theorem LZ41_eq : tZ P nc Q m y r sh n B a S b W k0 k1 k2 k3 q d i 4 1 = LZ1 P nc Q m y k1 k2 k3 q d 4 1 := by kernel_rfl
theorem LZ42_eq : tZ P nc Q m y r sh n B a S b W k0 k1 k2 k3 q d i 4 2 = LZ1 P nc Q m y k1 k2 k3 q d 4 2 := by kernel_rfl
theorem LZ43_eq : tZ P nc Q m y r sh n B a S b W k0 k1 k2 k3 q d i 4 3 = LZ1 P nc Q m y k1 k2 k3 q d 4 3 := by kernel_rfl
theorem EY4_eq : entA 20 [] [5, 7, 8, 9, 10, 12, 13] [0, 1, 3, 4, 5, 6, 8, 9, 11, 12, 13, 16, 17, 19] 20 .nil (sub pK1 (tK1 ⟨4, P, nc, Q⟩ m y r sh n B a S b W k0 k1 k2 k3 q d i)) = some (stX2 ⟨4, P, nc, Q⟩ m y r k0 k1 k2 k3 q d (pIx k0 4) (some (.row 4 6 (crow ⟨4, P, nc, Q⟩)))) := by kernel_rfl
theorem LZ_eq {np p : Nat} (h : np ≤ 4) (hp : p < np) : tZ P nc Q m y r sh n B a S b W k0 k1 k2 k3 q d i np p = LZ1 P nc Q m y k1 k2 k3 q d np p := by
  have : (np = 1 ∧ p = 0) ∨ (np = 2 ∧ p = 0) ∨ (np = 2 ∧ p = 1) ∨ (np = 3 ∧ p = 0) ∨ (np = 3 ∧ p = 1) ∨ (np = 3 ∧ p = 2) ∨ (np = 4 ∧ p = 0) ∨ (np = 4 ∧ p = 1) ∨ (np = 4 ∧ p = 2) ∨ (np = 4 ∧ p = 3) := by omega
  rcases this with ⟨rfl, rfl⟩ | ⟨rfl, rfl⟩ | ⟨rfl, rfl⟩ | ⟨rfl, rfl⟩ | ⟨rfl, rfl⟩ | ⟨rfl, rfl⟩ | ⟨rfl, rfl⟩ | ⟨rfl, rfl⟩ | ⟨rfl, rfl⟩ | ⟨rfl, rfl⟩
  · exact LZ10_eq P nc Q m y r sh n B a S b W k0 k1 k2 k3 q d i
  · exact LZ20_eq P nc Q m y r sh n B a S b W k0 k1 k2 k3 q d i
  · exact LZ21_eq P nc Q m y r sh n B a S b W k0 k1 k2 k3 q d i
  · exact LZ30_eq P nc Q m y r sh n B a S b W k0 k1 k2 k3 q d i
  · exact LZ31_eq P nc Q m y r sh n B a S b W k0 k1 k2 k3 q d i
  · exact LZ32_eq P nc Q m y r sh n B a S b W k0 k1 k2 k3 q d i
  · exact LZ40_eq P nc Q m y r sh n B a S b W k0 k1 k2 k3 q d i
  · exact LZ41_eq P nc Q m y r sh n B a S b W k0 k1 k2 k3 q d i
  · exact LZ42_eq P nc Q m y r sh n B a S b W k0 k1 k2 k3 q d i
  · exact LZ43_eq P nc Q m y r sh n B a S b W k0 k1 k2 k3 q d i
theorem EY_eq {np : Nat} (h1 : 1 ≤ np) (h : np ≤ 4) : entA 20 [] [5, 7, 8, 9, 10, 12, 13] [0, 1, 3, 4, 5, 6, 8, 9, 11, 12, 13, 16, 17, 19] 20 .nil (sub pK1 (tK1 ⟨np, P, nc, Q⟩ m y r sh n B a S b W k0 k1 k2 k3 q d i)) = some (stX2 ⟨np, P, nc, Q⟩ m y r k0 k1 k2 k3 q d (pIx k0 np) (some (.row np 6 (crow ⟨np, P, nc, Q⟩)))) := by
  have : np = 1 ∨ np = 2 ∨ np = 3 ∨ np = 4 := by omega
  rcases this with rfl | rfl | rfl | rfl
  · exact EY1_eq P nc Q m y r sh n B a S b W k0 k1 k2 k3 q d i
  · exact EY2_eq P nc Q m y r sh n B a S b W k0 k1 k2 k3 q d i
  · exact EY3_eq P nc Q m y r sh n B a S b W k0 k1 k2 k3 q d i
  · exact EY4_eq P nc Q m y r sh n B a S b W k0 k1 k2 k3 q d i
end
end Go.Proofs.Ytpaejfeojdoikaa.Rw
namespace Go.Proofs.Ytpaejfeojdoikaa.Rw
open Go.Proofs.Ytpaejfeojdoikaa.Rm
open Go.Sx
set_option maxRecDepth 100000
theorem prRd_of {c : Nat → Sx.DV} {p : PrT} (h : ∀ j, j < 6 → c j = prC p j) : prRd c = p := by
  unfold prRd
  rw [h 0 (by omega), h 1 (by omega), h 2 (by omega), h 4 (by omega), h 5 (by omega)]
  rfl
theorem chRd_of {c : Nat → Sx.DV} {p : ChT} (h : ∀ j, j < 5 → c j = chC p j) : chRd c = p := by
  unfold chRd
  rw [h 0 (by omega), h 1 (by omega), h 2 (by omega), h 3 (by omega), h 4 (by omega)]
  rfl
theorem ciD_of {x : CiT} {np : Nat} {P : Nat → Nat → Sx.DV} {nc : Nat} {Q : Nat → Nat → Sx.DV} (hx : CiOK x) (hnp : x.np = np) (hnc : x.nc = nc) (hP : ∀ i j, i < np → j < 6 → P i j = prC (x.p i) j) (hQ : ∀ i j, i < nc → j < 5 → Q i j = chC (x.c i) j) :
    CiD np P nc Q ∧ dgC np P nc Q = dgL (ciN x) := by
  have e1 : ∀ i, i < np → prRd (P i) = x.p i := fun i hi => prRd_of fun j hj => hP i j hi hj
  have e2 : ∀ i, i < nc → chRd (Q i) = x.c i := fun i hi => chRd_of fun j hj => hQ i j hi hj
  have e3 : ciN (rdC np P nc Q) = ciN x := by
    unfold ciN rdC
    dsimp only
    rw [hnp, hnc, allN_congr prN e1, allN_congr chN e2]
  refine ⟨⟨⟨fun i hi => ?_, by rw [e3]; exact hx.l⟩, fun i j hi hj => ?_, fun i j hi hj => ?_⟩, by unfold dgC; rw [e3]⟩
  · have hi' : i < np := hi
    show PrOK (prRd (P i))
    rw [e1 i hi']; exact hx.p i (by omega)
  · rw [e1 i hi]; exact hP i j hi hj
  · rw [e2 i hi]; exact hQ i j hi hj
theorem rgC_ini (r : RgT) (v : Int) (j : Nat) : rgC (rgI r v) j = if j = 2 then .x (.int .i64 v) else rgC r j := by
  match j with
  | 0 => rfl
  | 1 => rfl
  | 2 => rfl
  | 3 => rfl
  | 4 => rfl
  | 5 => rfl
  | 6 => rfl
  | 7 => rfl
  | 8 => rfl
  | 9 => rfl
  | 10 => rfl
  | 11 => rfl
  | 12 => rfl
  | j + 13 => rfl
theorem rgZ_eq (v : Int) (x : PrT) (i j : Nat) : rgZ v x i j = rgC ((prI x v).r i) j := by
  unfold rgZ prI
  dsimp only
  rw [selD_eq, Nat.zero_add, Nat.sub_zero, show decide (i < 0) = false from decide_eq_false (by omega)]
  simp only [cond_false]
  by_cases hi : i = 0
  · subst hi
    rw [if_pos rfl, rgC_ini]
    by_cases hj : j = 2
    · subst hj; rfl
    · rw [if_neg (by omega), if_neg hj]
  · rw [if_neg hi, show decide (i = 0) = false from decide_eq_false hi]
    by_cases hj : 2 ≤ j ∧ j < 3
    · rw [if_pos hj]; rfl
    · rw [if_neg hj]
theorem chC_cap (r : ChT) (v : Int) (j : Nat) : chC (chK r v) j = if j = 2 then .x (.int .i64 v) else chC r j := by
  match j with
  | 0 => rfl
  | 1 => rfl
  | 2 => rfl
  | 3 => rfl
  | 4 => rfl
  | j + 5 => rfl
section
variable {P : Nat → PrT} {nc : Nat} {Q : Nat → ChT} {np : Nat}
theorem QZ_eq (v : Int) (i j : Nat) : QZ Q v i j = chC ((ciK ⟨np, P, nc, Q⟩ v).c i) j := by
  unfold QZ ciK
  dsimp only
  rw [selD_eq, Nat.zero_add, Nat.sub_zero, show decide (i < 0) = false from decide_eq_false (by omega)]
  simp only [cond_false]
  by_cases hi : i = 0
  · subst hi
    rw [if_pos rfl, chC_cap]
    by_cases hj : j = 2
    · subst hj; rfl
    · rw [if_neg (by omega), if_neg hj]
  · rw [if_neg hi, show decide (i = 0) = false from decide_eq_false hi]
    by_cases hj : 2 ≤ j ∧ j < 3
    · rw [if_pos hj]; rfl
    · rw [if_neg hj]
theorem prZ_eq (v : Int) (x : PrT) (j : Nat) (hj : j < 6) : [prC x 0, prC x 1, .ro (0 + x.nr) 13 (rgZ v x), prC x 3, prC x 4, prC x 5].getD j (.x undef) = prC (prI x v) j := by
  have e : rgZ v x = fun i j => rgC ((prI x v).r i) j := by funext i j; exact rgZ_eq v x i j
  match j, hj with
  | 0, _ => rfl
  | 1, _ => rfl
  | 2, _ =>
    show Sx.DV.ro (0 + x.nr) 13 (rgZ v x) = .ro x.nr 13 fun i j => rgC ((prI x v).r i) j
    rw [e, Nat.zero_add]
  | 3, _ => rfl
  | 4, _ => rfl
  | 5, _ => rfl
theorem dsAt_getD (l : List Sx.DV) (k : Nat) (h : k < l.length) : dsAt l k = l.getD k (.x undef) := dsAt_eq h
theorem flat6 (f : Nat → List Sx.DV) (hf : ∀ k, (f k).length = 6) : ∀ (n i j : Nat), i < n → j < 6 → ((List.range n).flatMap f).getD (i * 6 + j) (.x undef) = (f i).getD j (.x undef) := by
  intro n
  induction n with
  | zero => intro i j h; omega
  | succ n ih =>
    intro i j hi hj
    rw [List.range_succ, List.flatMap_append]
    have hl : ∀ n, ((List.range n).flatMap f).length = n * 6 := by
      intro n
      induction n with
      | zero => rfl
      | succ n ih => rw [List.range_succ, List.flatMap_append, List.length_append, ih]; simp [hf]; omega
    by_cases h : i < n
    · have h1 : i * 6 + j < n * 6 := by omega
      rw [List.getD_eq_getElem?_getD, List.getElem?_append_left (by rw [hl]; exact h1), ← List.getD_eq_getElem?_getD]
      exact ih i j h hj
    · obtain rfl : i = n := by omega
      rw [List.getD_eq_getElem?_getD, List.getElem?_append_right (by rw [hl]; omega), hl, show i * 6 + j - i * 6 = j by omega]
      simp [List.flatMap, List.getD_eq_getElem?_getD]
theorem PZ_eq {p : Nat} (v : Int) {i j : Nat} (hi : i < np) (hj : j < 6) : PZ P v np p i j = prC ((ciI ⟨np, P, nc, Q⟩ p v).p i) j := by
  unfold PZ
  generalize hf : (fun k => [prC (P k) 0, prC (P k) 1, if k = p then .ro (0 + (P k).nr) 13 (rgZ v (P k)) else prC (P k) 2, prC (P k) 3, prC (P k) 4, prC (P k) 5]) = f
  have hl : ∀ k, (f k).length = 6 := fun k => by rw [← hf]; rfl
  have hln : ∀ n, ((List.range n).flatMap f).length = n * 6 := by
    intro n
    induction n with
    | zero => rfl
    | succ n ih => rw [List.range_succ, List.flatMap_append, List.length_append, ih]; simp [hl]; omega
  rw [dsAt_getD _ _ (by rw [hln]; omega), flat6 f hl np i j hi hj, ← hf]
  dsimp only
  show _ = prC (if i = p then prI (P p) v else P i) j
  by_cases h : i = p
  · subst h
    rw [if_pos rfl, if_pos rfl]
    exact prZ_eq v (P i) j hj
  · rw [if_neg h, if_neg h]
    match j, hj with
    | 0, _ => rfl
    | 1, _ => rfl
    | 2, _ => rfl
    | 3, _ => rfl
    | 4, _ => rfl
    | 5, _ => rfl
end
theorem pIx_ok (k0 : Int) {np : Nat} (h : 1 ≤ np) : 0 ≤ pIx k0 np ∧ pIx k0 np < np := by
  unfold pIx
  have hb : (BitVec.ofInt 64 k0 &&& BitVec.ofInt 64 255).toNat ≤ 255 := by
    rw [BitVec.toNat_and]
    exact Nat.le_trans Nat.and_le_right (by decide)
  rw [w64_of (by omega) (by omega), Int.tmod_eq_emod_of_nonneg (by omega)]
  exact ⟨Int.emod_nonneg _ (by omega), Int.emod_lt_of_pos _ (by omega)⟩
end Go.Proofs.Ytpaejfeojdoikaa.Rw
namespace Go.Proofs.Ytpaejfeojdoikaa.Rw
open Go.Proofs.Ytpaejfeojdoikaa.Rm
open Go.Sx
set_option maxRecDepth 100000
structure MgOK (x : CiT) (m : Nat) (y : Nat → FsT) : Prop where
  c : CiOK x
  np : 1 ≤ x.np ∧ x.np ≤ 4
  nc : 1 ≤ x.nc ∧ x.nc ≤ 5
  nr : ∀ i, i < x.np → 1 ≤ (x.p i).nr
  ini : ∀ i, i < x.np → I64 ((x.p i).r 0).ini
  cap : I64 (x.c 0).cap
  s : Sml 4 m y
  w : WdU m y
theorem nr_le {x : CiT} (h : CiOK x) {i : Nat} (hi : i < x.np) : (x.p i).nr ≤ 1000000000 := by
  have h1 := h.l
  have h2 : (x.p i).nr ≤ (prN (x.p i)).length := by
    unfold prN
    simp only [List.length_append]
    have := allN_ge (f := rgN) (x.p i).r rgN_pos (x.p i).nr
    omega
  have h3 : (prN (x.p i)).length ≤ (allN prN x.p x.np).length := by
    rw [allN_cut prN x.p hi]
    simp only [List.length_append]
    omega
  unfold ciN at h1
  simp only [List.length_append] at h1
  omega
section
variable {P : Nat → PrT} {nc : Nat} {Q : Nat → ChT} {m : Nat} {y : Nat → FsT} {np : Nat} {k0 k1 k2 k3 : Int}
theorem urD_of (hm : m ≤ 4) (d : Nat → Int) : UrD m (DZ d) := ⟨by omega, fun i hi => rfl⟩
theorem eqFs_self (d : Nat → Int) (hd : ∀ i, i < m → d i = fsV (y i)) : eqFs m (DZ d) m (FX y) = true := by
  show eqS m (fun i => d (0 + i)) m y = true
  unfold eqS
  exact decide_eq_true ⟨rfl, fun i hi => by show d (0 + i) = _; rw [Nat.zero_add]; exact hd i hi⟩
theorem ciOK_ini {x : CiT} {p : Nat} {v : Int} (h : CiOK x) (hp : p < x.np) (hr : 0 < (x.p p).nr) : CiOK (ciI x p v) := by
  obtain ⟨A, C, hA⟩ := ciN_ini hp hr
  refine ⟨fun i hi => ?_, ?_⟩
  · have hi' : i < x.np := hi
    show PrOK (if i = p then prI (x.p p) v else x.p i)
    split
    · have h1 := h.p p hp
      refine ⟨fun j hj => ?_, h1.t, h1.p⟩
      show XtOK (if j = 0 then rgI ((x.p p).r 0) v else (x.p p).r j).nx
      split
      · exact h1.r 0 hr
      · exact h1.r j hj
    · exact h.p i hi'
  · have h1 := hA v
    have h2 := hA ((x.p p).r 0).ini
    rw [ciI_self] at h2
    have h3 := h.l
    rw [h2] at h3
    rw [h1]
    simpa using h3
theorem ciOK_cap {x : CiT} {v : Int} (h : CiOK x) (hc : 0 < x.nc) : CiOK (ciK x v) := by
  obtain ⟨A, C, hA⟩ := ciN_cap hc
  refine ⟨h.p, ?_⟩
  have h1 := hA v
  have h2 := hA (x.c 0).cap
  rw [ciK_self] at h2
  have h3 := h.l
  rw [h2] at h3
  rw [h1]
  simpa using h3
theorem sml_yw (hs : Sml 4 m y) : Sml 4 m (yw y k1 k3) := ⟨hs.le, hs.m, hs.k⟩
theorem wrapU6 (x : Int) : U6 (IntKind.wrap .u64 x) := by
  have : IntKind.wrap .u64 x = x % 18446744073709551616 := by unfold IntKind.wrap; rfl
  rw [this]
  exact ⟨by omega, by omega⟩
theorem z1_eq (h : MgOK ⟨np, P, nc, Q⟩ m y) (hk : I64 k2) (d : Nat → Int) (hd : ∀ i, i < m → d i = fsV (y i)) : z1 P nc Q m y k2 m d np = false := by
  have hnc : 0 < nc := h.nc.1
  have e := (ciD_of (x := ciK ⟨np, P, nc, Q⟩ k2) (np := np) (P := PX P) (nc := 0 + nc) (Q := QZ Q k2) (ciOK_cap h.c hnc) rfl (by rw [Nat.zero_add]; rfl) (fun i j _ _ => rfl) (fun i j _ _ => QZ_eq k2 i j)).2
  unfold z1 mtB
  rw [e, eqFs_self d hd, Bool.and_true, dg_cap (x := ⟨np, P, nc, Q⟩) hnc hk h.cap]
  simp
theorem z2_eq (h : MgOK ⟨np, P, nc, Q⟩ m y) (d : Nat → Int) (hd : ∀ i, i < m → d i = fsV (y i)) : z2 P nc Q m y k1 k3 m d np = false := by
  have e := (ciD_of (x := ⟨np, P, nc, Q⟩) (np := np) (P := PX P) (nc := nc) (Q := QX Q) h.c rfl rfl (fun i j _ _ => rfl) (fun i j _ _ => rfl)).2
  have e2 : eqFs m (DZ d) m (FX (yw y k1 k3)) = @decide (elQ m y m (yw y k1 k3)) (Classical.propDecidable _) := by
    show eqS m (fun i => d (0 + i)) m (yw y k1 k3) = _
    unfold eqS
    rw [Bool.eq_iff_iff, decide_eq_true_iff, @decide_eq_true_iff _ (Classical.propDecidable _), show yw y k1 k3 = wodF y (IntKind.wrap .u64 k3 % 64).toNat (IntKind.wrap .u64 k1) from rfl, ← fs_wod h.s h.w (wrapU6 k1)]
    constructor
    · rintro ⟨_, h2⟩ i hi
      rw [← hd i hi]
      have h3 : d (0 + i) = _ := h2 i hi
      rwa [Nat.zero_add] at h3
    · intro h2
      exact ⟨rfl, fun i hi => by show d (0 + i) = _; rw [Nat.zero_add, hd i hi]; exact h2 i hi⟩
  unfold z2 mtB
  rw [e, e2]
  simp
theorem z3_eq (h : MgOK ⟨np, P, nc, Q⟩ m y) (d : Nat → Int) : z3 P nc Q m y m d np = true := by
  unfold z3
  by_cases hm : m = 0
  · subst hm; rfl
  · have e : eqFs m (DZ d) (m - 1) (fun i j => fsC (y (1 + i)) j) = false := by
      unfold eqFs eqS
      exact decide_eq_false fun h2 => by omega
    unfold mtB
    rw [e]
    simp
theorem ini_eq (h : MgOK ⟨np, P, nc, Q⟩ m y) {p : Nat} (hp : p < np) (hk : I64 k1) (d : Nat → Int) (hd : ∀ i, i < m → d i = fsV (y i)) :
    (!(mtB (dgL (ciN ⟨np, P, nc, Q⟩)) m (DZ d) np (PZ P k1 np p) nc (QX Q) m (FX y) == (k1 == ((P p).r 0).ini))) = false := by
  have e := (ciD_of (x := ciI ⟨np, P, nc, Q⟩ p k1) (np := np) (P := PZ P k1 np p) (nc := nc) (Q := QX Q) (ciOK_ini h.c hp (h.nr p hp)) rfl rfl (fun i j hi hj => PZ_eq k1 hi hj) (fun i j _ _ => rfl)).2
  unfold mtB
  rw [e, eqFs_self d hd, Bool.and_true, dg_ini (x := ⟨np, P, nc, Q⟩) hp (h.nr p hp) hk (h.ini p hp)]
  simp
theorem LZ2_sat (h : MgOK ⟨np, P, nc, Q⟩ m y) (hk2 : I64 k2) (d : Nat → Int) (hd : ∀ i, i < m → d i = fsV (y i)) : Sat Try.prog (LZ2 P nc Q m y k1 k2 k3 m d np) (· = bv true) := by
  have hm := h.s.le
  obtain ⟨c1, c2⟩ := h.nc
  have c1 : 1 ≤ nc := c1
  have c2 : nc ≤ 5 := c2
  have hc := (ciD_of (x := ⟨np, P, nc, Q⟩) (np := np) (P := PX P) (nc := nc) (Q := QX Q) h.c rfl rfl (fun i j _ _ => rfl) (fun i j _ _ => rfl)).1
  have hc2 := (ciD_of (x := ciK ⟨np, P, nc, Q⟩ k2) (np := np) (P := PX P) (nc := 0 + nc) (Q := QZ Q k2) (ciOK_cap h.c c1) rfl (by rw [Nat.zero_add]; rfl) (fun i j _ _ => rfl) (fun i j _ _ => QZ_eq k2 i j)).1
  have hu := urD_of hm d
  have hf := ssD_of h.s
  have hg := ssD_of (sml_yw (k1 := k1) (k3 := k3) h.s)
  have hw : WdD m (FX y) (lZ k1 k3) := ⟨h.s, (wrapU6 k3).1, fun j hj => by
    match j, hj with
    | 0, _ => rfl
    | 1, _ => rfl⟩
  have hsub : SsD (m - 1) fun i j => fsC (y (1 + i)) j := fun i hi => hf (1 + i) (by omega)
  unfold LZ2
  rw [z1_eq h hk2 d hd, z2_eq h d hd, z3_eq h d]
  constructor
  refine ⟨⟨Nat.le_refl _, trivial, by omega⟩, by omega, by omega, by omega, by omega, by omega, by omega, by omega, by omega, by omega, ⟨hf, hw⟩, by omega, by omega, ⟨hc2, hu, hf⟩, by omega, by omega, by omega, fun _ => by omega, fun _ => ⟨hc, hu, hg⟩, fun _ => ⟨⟨by omega, hf⟩, hg⟩, fun h1 => (by cases h1), fun _ => ⟨fun h1 => ⟨trivial, by omega, ?_⟩, fun _ => by omega, fun h1 => ⟨hc, hu, hsub⟩, rfl⟩⟩
  have : ¬ (m : Int) = 0 := by simpa using h1
  omega
theorem LZ1_sat (h : MgOK ⟨np, P, nc, Q⟩ m y) {p : Nat} (hp : p < np) (hk1 : I64 k1) (hk2 : I64 k2) (d : Nat → Int) (hd : ∀ i, i < m → d i = fsV (y i)) : Sat Try.prog (LZ1 P nc Q m y k1 k2 k3 m d np p) (· = bv true) := by
  have hm := h.s.le
  have hr : 1 ≤ (P p).nr := h.nr p hp
  have hr2 : (P p).nr ≤ 1000000000 := nr_le h.c hp
  have hu := urD_of hm d
  have hf := ssD_of h.s
  have hc := (ciD_of (x := ciI ⟨np, P, nc, Q⟩ p k1) (np := np) (P := PZ P k1 np p) (nc := nc) (Q := QX Q) (ciOK_ini h.c hp hr) rfl rfl (fun i j hi hj => PZ_eq k1 hi hj) (fun i j _ _ => rfl)).1
  have k := LZ2_sat (k1 := k1) (k3 := k3) h hk2 d hd
  unfold LZ1
  rw [ini_eq h hp hk1 d hd]
  generalize LZ2 P nc Q m y k1 k2 k3 m d np = T at k ⊢
  constructor
  exact ⟨by omega, ⟨Nat.le_refl _, trivial, by omega⟩, by omega, hp, by omega, hp, by omega, by omega, by omega, by omega, by omega, by omega, ⟨hc, hu, hf⟩, by omega, by omega, by omega, by omega, fun h1 => (by cases h1), fun _ => k.ok⟩
end
end Go.Proofs.Ytpaejfeojdoikaa.Rw
namespace Go.Proofs.Ytpaejfeojdoikaa.Rw
open Go.Proofs.Ytpaejfeojdoikaa.Rm
open Go.Sx
set_option maxRecDepth 100000
section
variable {P : Nat → PrT} {nc : Nat} {Q : Nat → ChT}
theorem sp1_eq (k : Nat) (hk : k < 1 * 6) : (spL P 1).getD k uv = .d (crow ⟨1, P, nc, Q⟩ (k / 6) (k % 6)) := by
  match k, hk with
  | 0, _ => rfl
  | 1, _ => rfl
  | 2, _ => rfl
  | 3, _ => rfl
  | 4, _ => rfl
  | 5, _ => rfl
  | k + 6, h => exact absurd h (by omega)
theorem sp2_eq (k : Nat) (hk : k < 2 * 6) : (spL P 2).getD k uv = .d (crow ⟨2, P, nc, Q⟩ (k / 6) (k % 6)) := by
  match k, hk with
  | 0, _ => rfl
  | 1, _ => rfl
  | 2, _ => rfl
  | 3, _ => rfl
  | 4, _ => rfl
  | 5, _ => rfl
  | 6, _ => rfl
  | 7, _ => rfl
  | 8, _ => rfl
  | 9, _ => rfl
  | 10, _ => rfl
  | 11, _ => rfl
  | k + 12, h => exact absurd h (by omega)
theorem sp3_eq (k : Nat) (hk : k < 3 * 6) : (spL P 3).getD k uv = .d (crow ⟨3, P, nc, Q⟩ (k / 6) (k % 6)) := by
  match k, hk with
  | 0, _ => rfl
  | 1, _ => rfl
  | 2, _ => rfl
  | 3, _ => rfl
  | 4, _ => rfl
  | 5, _ => rfl
  | 6, _ => rfl
  | 7, _ => rfl
  | 8, _ => rfl
  | 9, _ => rfl
  | 10, _ => rfl
  | 11, _ => rfl
  | 12, _ => rfl
  | 13, _ => rfl
  | 14, _ => rfl
  | 15, _ => rfl
  | 16, _ => rfl
  | 17, _ => rfl
  | k + 18, h => exact absurd h (by omega)
theorem sp4_eq (k : Nat) (hk : k < 4 * 6) : (spL P 4).getD k uv = .d (crow ⟨4, P, nc, Q⟩ (k / 6) (k % 6)) := by
  match k, hk with
  | 0, _ => rfl
  | 1, _ => rfl
  | 2, _ => rfl
  | 3, _ => rfl
  | 4, _ => rfl
  | 5, _ => rfl
  | 6, _ => rfl
  | 7, _ => rfl
  | 8, _ => rfl
  | 9, _ => rfl
  | 10, _ => rfl
  | 11, _ => rfl
  | 12, _ => rfl
  | 13, _ => rfl
  | 14, _ => rfl
  | 15, _ => rfl
  | 16, _ => rfl
  | 17, _ => rfl
  | 18, _ => rfl
  | 19, _ => rfl
  | 20, _ => rfl
  | 21, _ => rfl
  | 22, _ => rfl
  | 23, _ => rfl
  | k + 24, h => exact absurd h (by omega)
theorem sp_le {np : Nat} (h1 : 1 ≤ np) (h4 : np ≤ 4) : BlkLe (.row np 6 (crow ⟨np, P, nc, Q⟩)) (.cells (spL P np)) := by
  have : np = 1 ∨ np = 2 ∨ np = 3 ∨ np = 4 := by omega
  rcases this with rfl | rfl | rfl | rfl
  · exact .spread (by omega) (by omega) rfl fun k hk => sp1_eq k hk
  · exact .spread (by omega) (by omega) rfl fun k hk => sp2_eq k hk
  · exact .spread (by omega) (by omega) rfl fun k hk => sp3_eq k hk
  · exact .spread (by omega) (by omega) rfl fun k hk => sp4_eq k hk
variable {m : Nat} {y : Nat → FsT} {r : Rel} {sh : Int} {n : Nat} {B : Nat → Nat → Sx.DV} {a : Nat} {S : Nat → Nat → Sx.DV} {b : Nat} {W : Nat → Nat → Sx.DV} {k0 k1 k2 k3 : Int} {np : Nat}
theorem cut_gc (h1 : 1 ≤ np) (h4 : np ≤ 4) (q : Nat) (d : Nat → Int) (i : Int) : Gc 20 (ups (codeS (sub pK1 (tK1 ⟨np, P, nc, Q⟩ m y r sh n B a S b W k0 k1 k2 k3 q d i))) 20) (stX2 ⟨np, P, nc, Q⟩ m y r k0 k1 k2 k3 q d (pIx k0 np).toNat (some (.cells (spL P np)))) := by
  refine (entA_sound (EY_eq P nc Q m y r sh n B a S b W k0 k1 k2 k3 q d i h1 h4)).trans ?_
  have hp := pIx_ok k0 h1
  have e : ((pIx k0 np).toNat : Int) = pIx k0 np := by omega
  rw [e]
  unfold stX2 hpY
  exact gc_hp rfl rfl ⟨.inl rfl, .inl rfl, .inr ⟨_, _, rfl, rfl, .refl _⟩, .inl rfl, .inl rfl, .inl rfl, .inl rfl, .inr ⟨_, _, rfl, rfl, .refl _⟩, .inl rfl, .inl rfl, .inr ⟨_, _, rfl, rfl, .refl _⟩, .inl rfl, .inl rfl, .inl rfl, .inr ⟨_, _, rfl, rfl, .refl _⟩, .inr ⟨_, _, rfl, rfl, .refl _⟩, .inl rfl, .inl rfl, .inr ⟨_, _, rfl, rfl, sp_le h1 h4⟩, .inl rfl, trivial⟩
theorem K1_sat (h : MgOK ⟨np, P, nc, Q⟩ m y) (hk1 : I64 k1) (hk2 : I64 k2) : Sat Try.prog (tK1 ⟨np, P, nc, Q⟩ m y r sh n B a S b W k0 k1 k2 k3 m (fun a => fsV (y a)) m) (· = bv true) := by
  have hm := h.s.le
  obtain ⟨p1, p2⟩ := h.np
  have p1 : 1 ≤ np := p1
  have p2 : np ≤ 4 := p2
  have hp := pIx_ok k0 p1
  have hc := ciD_of (x := ⟨np, P, nc, Q⟩) (np := np) (P := PX P) (nc := nc) (Q := QX Q) h.c rfl rfl (fun i j _ _ => rfl) (fun i j _ _ => rfl)
  have hu := urD_of hm fun a => fsV (y a)
  have hf := ssD_of h.s
  have ht : mtB (dgL (ciN ⟨np, P, nc, Q⟩)) m (DZ fun a => fsV (y a)) np (PX P) nc (QX Q) m (FX y) = true := by
    unfold mtB
    rw [hc.2, eqFs_self _ fun i _ => rfl]
    simp
  have kz := LZ1_sat (k1 := k1) (k2 := k2) (k3 := k3) h (p := (pIx k0 np).toNat) (by omega) hk1 hk2 (fun a => fsV (y a)) fun i _ => rfl
  have kz2 := Sat.of_eq (LZ_eq P nc Q m y r sh n B a S b W k0 k1 k2 k3 m (fun a => fsV (y a)) m p2 (p := (pIx k0 np).toNat) (by omega)) kz
  have hg := cut_gc (P := P) (nc := nc) (Q := Q) (m := m) (y := y) (r := r) (sh := sh) (n := n) (B := B) (a := a) (S := S) (b := b) (W := W) (k0 := k0) (k1 := k1) (k2 := k2) (k3 := k3) p1 p2 m (fun a => fsV (y a)) m
  refine Sat.of_eq (LK1_eq _ _ _ _ _ _ _ _ _ _ _ _ _ _ _ _ _ _) ?_
  unfold LK1
  have ht' : (!mtB (dgL (ciN ⟨np, P, nc, Q⟩)) m (fun i j => .x (.int .u64 ((fun a => fsV (y a)) (0 + i)))) np (fun i j => prC (P i) j) nc (fun i j => chC (Q i) j) m fun i j => fsC (y i) j) = false := by
    exact congrArg (fun b => !b) ht
  have hcut : Sat Try.prog (atCode (sub pK1 (tK1 ⟨np, P, nc, Q⟩ m y r sh n B a S b W k0 k1 k2 k3 m (fun a => fsV (y a)) m))) (· = bv true) :=
    ⟨code_cut (CX_ok ⟨np, P, nc, Q⟩ m y r) (DX_ok ⟨np, P, nc, Q⟩ m y r) (n := 200) (n0 := 20) (by kernel_rfl) hg kz2⟩
  generalize atCode (sub pK1 (tK1 ⟨np, P, nc, Q⟩ m y r sh n B a S b W k0 k1 k2 k3 m (fun a => fsV (y a)) m)) = T at hcut ⊢
  exact ⟨by omega, ⟨hc.1, hu, hf⟩, fun h1 => (by rw [ht'] at h1; cases h1), fun _ => ⟨⟨Nat.le_refl _, trivial, by show (0 + np) * 128 ≤ _; omega⟩, by omega, by omega, by show (np : Int) ≠ 0; omega, hcut.ok⟩⟩
theorem mg_sat (h : MgOK ⟨np, P, nc, Q⟩ m y) (hk1 : I64 k1) (hk2 : I64 k2) (hM : MdIs sh n B ⟨np, P, nc, Q⟩) (hS : SeIs a S b W m y) (hr : ct0 = r) : Sat Try.prog (tMg ⟨np, P, nc, Q⟩ m y r sh n B a S b W k0 k1 k2 k3 .nil) (· = bv true) := by
  have hm := h.s.le
  have hc := (ciD_of (x := ⟨np, P, nc, Q⟩) (np := np) (P := PX P) (nc := nc) (Q := QX Q) h.c rfl rfl (fun i j _ _ => rfl) (fun i j _ _ => rfl)).1
  refine Sat.of_eq (LMg_eq _ _ _ _ _ _ _ _ _ _ _ _ _ _ _) ?_
  unfold LMg
  have hcode : Sat Try.prog (atCode (sub [1, 0, 0, 0, 0] (tMg ⟨np, P, nc, Q⟩ m y r sh n B a S b W k0 k1 k2 k3 .nil))) (· = bv true) := by
    refine ⟨code_satS (CX_ok ⟨np, P, nc, Q⟩ m y r) (DX_ok ⟨np, P, nc, Q⟩ m y r) (n := 200) (n0 := 14) (nx := 15) (roots := [(.cell (.base 10) 4, 14)]) (keep := [5, 7, 8, 9, 10, 11]) (drop := []) (h := .nil) (body := bodyX1) (by kernel_rfl) (by kernel_rfl)
      (fun q t => ∃ i : Nat, q = m - i ∧ i ≤ m ∧ t = stX1 ⟨np, P, nc, Q⟩ m y r k0 k1 k2 k3 i (rowU fun a => fsV (y a)) i .nil)
      (fun e t => e = .exit 0 ∧ t = stX1 ⟨np, P, nc, Q⟩ m y r k0 k1 k2 k3 m (rowU fun a => fsV (y a)) m (.c 5 .nil))
      ⟨_, _, ⟨0, rfl, Nat.zero_le _, rfl⟩, ?_⟩ ?_ ?_⟩
    · exact (entA_sound (EX1_eq ⟨np, P, nc, Q⟩ m y r sh n B a S b W k0 k1 k2 k3)).trans (stX0_gc _ _ _ _ _ _ _ _)
    · rintro q t ⟨i, rfl, hi, rfl⟩
      refine ⟨Tree.sat_mono (fun w hw => ?_) (mg1_sat h.s hi).ok⟩
      obtain ⟨ex, st⟩ := w
      rcases hw with ⟨h1, h2, h3⟩ | ⟨h1, h2, h3⟩
      · obtain rfl : ex = .normal := h2
        exact ⟨m - (i + 1), _, by omega, ⟨i + 1, rfl, h1, rfl⟩, h3⟩
      · obtain rfl : ex = .exit 0 := h2
        subst h1
        exact ⟨_, ⟨rfl, rfl⟩, h3⟩
    · intro e t ht
      obtain ⟨he, ht⟩ := ht
      subst he
      rw [ht]
      have k := K1_sat (r := r) (sh := sh) (n := n) (B := B) (a := a) (S := S) (b := b) (W := W) (k0 := k0) (k3 := k3) h hk1 hk2
      unfold tK1 at k
      exact k
  unfold atCode at hcode
  exact ⟨⟨fun h1 => (by cases h1), fun _ => ⟨hM, hS, hr, hc, hcode.ok⟩⟩⟩
end
end Go.Proofs.Ytpaejfeojdoikaa.Rw
namespace Go.Proofs.Ytpaejfeojdoikaa
open Go.Sx
set_option maxRecDepth 100000
theorem BBd.of {m : Nat} {ln : Nat → Nat} {c : Nat → Nat → Nat → DV} (hb : BB m ln c) : BBd m fun i _ => .ro (ln i) 1 (c i) := ⟨hb.1, fun i hi => ⟨_, _, rfl, hb.2 i hi⟩⟩
end Go.Proofs.Ytpaejfeojdoikaa
namespace Go.Sx
section
variable [Globs]
theorem law_eachC {P : Program} {k : FuncId} {okA : List SV → Prop} (hf : (P.funcs[k]?).isSome = true) (hb : (fnOf P k).body.isSome = true)
    (h : ∀ ss, okA ss → ∃ (C : Ctx) (D : Dr), CtxOK P C ∧ DrOK P C D ∧ ∃ ss' n hint, leSVs 0 [] [] ss ss' ∧ Sat P (fnT P C D n (fnOf P k) (bodyOf P k) ss' hint) (· = bv true)) :
    ∃ c : Ctr, CtrOK P k c ∧ ∀ ss, okA ss → (c ss).ev (bv true) := by
  refine ⟨fun ss => .need (okA ss) (.ret (bv true)), ?_, fun ss hs => ⟨hs, rfl⟩⟩
  intro ss vs w F r hF hgl hr hev
  obtain ⟨h1, rfl⟩ := hev
  obtain ⟨C, D, hC, hD, ss', n, hint, h2, h3⟩ := h ss h1
  exact ctrOK_leS (c := fun ts => .need (ts = ss) (.ret (bv true))) hC hD hf hb (fun ts q hq => by
    obtain ⟨rfl, rfl⟩ := hq
    exact ⟨ss', n, hint, h2, h3⟩) ss vs w F _ hF hgl hr ⟨rfl, rfl⟩
end
def fldT (P : Program) (t : TypeId) : Option (List TypeId) := match P.underlying t with | some (.struct fs) => some (fs.toList.map (·.type)) | _ => none
def okTs (P : Program) (n : Nat) : List TypeId → List DV → Prop
  | [], ds => ds = []
  | t :: ts, ds => ∃ a b, ds = a ++ b ∧ okT P n t a ∧ okTs P n ts b
theorem okFs_Ts {P : Program} {n : Nat} : ∀ {fs : List Field} {ds : List DV}, okFs (okT P n) fs ds → okTs P n (fs.map (·.type)) ds
  | [], ds, h => h
  | f :: fs, ds, h => by
    obtain ⟨a, b, e, h1, h2⟩ := h
    exact ⟨a, b, e, h1, okFs_Ts h2⟩
theorem okT_struct {P : Program} {n : Nat} {t : TypeId} {ts : List TypeId} {ds : List DV} (h : fldT P t = some ts) (k : okT P (n + 1) t ds) : okTs P n ts ds ∧ svT P t ds = .agg (ds.map .d) := by
  unfold fldT at h
  split at h
  · rename_i fs hu
    unfold okT at k
    rw [hu] at k
    simp only [Option.some.injEq] at h
    subst h
    refine ⟨okFs_Ts k, ?_⟩
    unfold svT; rw [hu]
  · cases h
end Go.Sx
namespace Go.Proofs.Ytpaejfeojdoikaa.Rw
open Go.Proofs.Ytpaejfeojdoikaa.Rm
open Go.Sx
set_option maxRecDepth 100000
theorem wsG_U {b : Nat} {wd : Nat → Int} (hw : ∀ i, U6 (wd i)) (n c : Nat) (hn : n + c ≤ 1000000) : ∀ v ∈ wsG b wd n c, U6 v := by
  intro v hv
  unfold wsG at hv
  obtain ⟨j, hj, rfl⟩ := List.mem_map.1 hv
  have := List.mem_range.1 hj
  unfold wG
  split
  · exact hw _
  · exact ⟨by omega, by omega⟩
theorem fsG_U {b : Nat} {wd : Nat → Int} (hw : ∀ i, U6 (wd i)) (s : Int) (n : Nat) (hn : n ≤ 500) : ∀ k, k ≤ 4 → ∀ ws ∈ (fsG b wd s n k).1, ∀ v ∈ ws, U6 v
  | 0, _, ws, h => by cases h
  | k + 1, hk, ws, h => by
    unfold fsG at h
    rcases List.mem_append.1 h with h | h
    · exact fsG_U hw s n hn k (by omega) ws h
    · obtain rfl := List.mem_singleton.1 h
      have h1 := fsG_nx b wd s n k
      have h2 := cnS_le s k
      exact wsG_U hw _ _ (by omega)
theorem ssG_U {b : Nat} {wd : Nat → Int} (hw : ∀ i, U6 (wd i)) (sh : Nat → Int) : ∀ k, k ≤ 4 → ∀ fs ∈ (ssG b wd sh k).1, ∀ ws ∈ fs, ∀ v ∈ ws, U6 v
  | 0, _, fs, h => by cases h
  | k + 1, hk, fs, h => by
    unfold ssG at h
    rcases List.mem_append.1 h with h | h
    · exact ssG_U hw sh k (by omega) fs h
    · obtain rfl := List.mem_singleton.1 h
      have h1 := ssG_nx b wd sh k
      exact fsG_U hw _ _ (by omega) _ (nfS_le _)
theorem se_ok {a b : Nat} {sh wd : Nat → Int} (hw : ∀ i, U6 (wd i)) : Sml 4 (seV a sh b wd).length (fun i => fsT ((seV a sh b wd).getD i [])) ∧ WdU (seV a sh b wd).length (fun i => fsT ((seV a sh b wd).getD i [])) := by
  have h := seV_ok a sh b wd
  have hu : ∀ fs ∈ seV a sh b wd, ∀ ws ∈ fs, ∀ v ∈ ws, U6 v := ssG_U hw sh _ (by omega)
  generalize seV a sh b wd = ss at h hu
  have hm : ∀ i, i < ss.length → ss.getD i [] ∈ ss := fun i hi => Go.Sx.getD_mem hi
  have hm2 : ∀ i k, i < ss.length → k < (ss.getD i []).length → (ss.getD i []).getD k [] ∈ ss.getD i [] := fun i k _ hk => Go.Sx.getD_mem hk
  refine ⟨⟨h.1, fun i hi => (h.2 _ (hm i hi)).1, fun i k hi hk => (h.2 _ (hm i hi)).2 _ (hm2 i k hi hk)⟩, fun i k j hi hk hj => ?_⟩
  exact hu _ (hm i hi) _ (hm2 i k hi hk) _ (Go.Sx.getD_mem hj)
theorem u5 : Try.prog.underlying 5 = some (.int .u8) := by kernel_rfl
theorem u60 : Try.prog.underlying 60 = some (.int .u64) := by kernel_rfl
theorem u64' : Try.prog.underlying 64 = some (.slice 60) := by kernel_rfl
theorem u3 : Try.prog.underlying 3 = some (.int .i64) := by kernel_rfl
theorem u98 : Try.prog.underlying 98 = some (.array 4 3) := by kernel_rfl
theorem c60 : Try.prog.cellsOf 60 = 1 := by kernel_rfl
theorem words_arg {n : Nat} {ds : List Sx.DV} (h : okT Try.prog (n + 2) 64 ds) : ∃ (m : Nat) (f : Nat → Nat → Sx.DV), ds = [.ro m 1 f] ∧ ∀ i, i < m → ∃ v, f i 0 = .x (.int .u64 v) ∧ U6 v := by
  unfold okT at h
  rw [u64'] at h
  obtain ⟨m, cell, hm, rfl, hc⟩ := h
  rw [c60] at hc ⊢
  refine ⟨m, cell, rfl, fun i hi => ?_⟩
  obtain ⟨v, hv, he⟩ := okT_int u60 (hc i hi)
  have h0 : IntKind.u64.min = 0 := rfl
  have h1 : IntKind.u64.max = 18446744073709551615 := rfl
  have e : cell i 0 = .x (.int .u64 v) := by simpa [List.range, List.range.loop] using he
  exact ⟨v, e, by omega, by omega⟩
theorem int_arg {n : Nat} {ds : List Sx.DV} (h : okT Try.prog (n + 1) 3 ds) : ∃ v : Int, I64 v ∧ ds = [.x (.int .i64 v)] := by
  obtain ⟨v, hv, he⟩ := okT_int u3 h
  have h0 : IntKind.i64.min = -9223372036854775808 := rfl
  have h1 : IntKind.i64.max = 9223372036854775807 := rfl
  exact ⟨v, ⟨by omega, by omega⟩, he⟩
theorem releaseMatching_ok : ∃ c : Ctr, CtrOK Try.prog 11 c ∧ ∀ ss, okArgs Try.prog 6 [95, 97, 98] ss → (c ss).ev (bv true) := by
  refine law_eachC (by kernel_rfl) (by kernel_rfl) fun ss hs => ?_
  obtain ⟨d1, r1, rfl, g1, d2, r2, rfl, g2, d3, r3, rfl, g3, rfl⟩ := hs
  obtain ⟨⟨a1, t1, rfl, l1, a2, t2, rfl, l2, rfl⟩, e1⟩ := okT_struct (ts := [5, 22]) (by kernel_rfl) g1
  obtain ⟨⟨a3, t3, rfl, l3, a4, t4, rfl, l4, rfl⟩, e2⟩ := okT_struct (ts := [22, 64]) (by kernel_rfl) g2
  obtain ⟨sh, hsh, rfl⟩ := okT_int u5 l1
  obtain ⟨n, B, hB, rfl⟩ := okBytes l2
  obtain ⟨a, S, hS, rfl⟩ := okBytes l3
  obtain ⟨b, W, rfl, hW⟩ := words_arg l4
  have h0 : IntKind.u8.min = 0 := rfl
  unfold okT at g3
  rw [u98] at g3
  obtain ⟨b0, q0, rfl, m0, b1, q1, rfl, m1, b2, q2, rfl, m2, b3, q3, rfl, m3, rfl⟩ := g3
  obtain ⟨k0, i0, rfl⟩ := int_arg m0
  obtain ⟨k1, i1, rfl⟩ := int_arg m1
  obtain ⟨k2, i2, rfl⟩ := int_arg m2
  obtain ⟨k3, i3, rfl⟩ := int_arg m3
  have hb : BtD n B := ⟨hB.1, fun i hi => by
    obtain ⟨c, e, h1, h2⟩ := hB.2 i hi
    rw [e]
    exact ⟨rfl, h1, by show c ≤ 255; omega⟩⟩
  obtain ⟨shF, hshF⟩ : ∃ f : Nat → Int, ∀ i, 0 ≤ f i ∧ (i < a → S i 0 = .x (.int .u8 (f i))) := ⟨fun i => if i < a then numV (S i 0) else 0, fun i => by
    by_cases hi : i < a
    · obtain ⟨c, e, h1, h2⟩ := hS.2 i hi
      dsimp only
      rw [if_pos hi, e]
      exact ⟨h1, fun _ => rfl⟩
    · dsimp only
      rw [if_neg hi]
      exact ⟨Int.le_refl _, fun h => absurd h hi⟩⟩
  obtain ⟨wdF, hwdF⟩ : ∃ f : Nat → Int, ∀ i, U6 (f i) ∧ (i < b → W i 0 = .x (.int .u64 (f i))) := ⟨fun i => if i < b then numV (W i 0) else 0, fun i => by
    by_cases hi : i < b
    · obtain ⟨v, e, hv⟩ := hW i hi
      dsimp only
      rw [if_pos hi, e]
      exact ⟨hv, fun _ => rfl⟩
    · dsimp only
      rw [if_neg hi]
      exact ⟨⟨by omega, by omega⟩, fun h => absurd h hi⟩⟩
  have hSe : SeIs a S b W (seV a shF b wdF).length (fun i => fsT ((seV a shF b wdF).getD i [])) := ⟨shF, wdF, ⟨fun i => (hshF i).1, fun i hi => (hshF i).2 hi, fun i hi => (hwdF i).2 hi⟩, rfl, rfl⟩
  obtain ⟨hs4, hsU⟩ := se_ok (a := a) (b := b) (sh := shF) (wd := wdF) fun i => (hwdF i).1
  obtain ⟨o1, o2, o3, o4⟩ := mdW_ok (sh := sh) n B
  have hi := fun p (hp : p < (mdW sh n B).np) => md_ini sh n B hp
  have hcp := md_cap sh n B
  have hM : MdIs sh n B (mdW sh n B) := ⟨⟨by omega, hb⟩, rfl⟩
  generalize mdW sh n B = x at o1 o2 o3 o4 hi hcp hM
  generalize (seV a shF b wdF).length = m at hSe hs4 hsU
  generalize (fun i => fsT ((seV a shF b wdF).getD i [])) = y at hSe hs4 hsU
  obtain ⟨np, P, nc, Q⟩ := x
  have hok : MgOK ⟨np, P, nc, Q⟩ m y := ⟨o1, o2, o3, o4, hi, hcp, hs4, hsU⟩
  have k := mg_sat (k0 := k0) (k3 := k3) hok i1 i2 hM hSe (rfl : ct0 = ct0)
  refine ⟨CX ⟨np, P, nc, Q⟩ m y ct0, DX ⟨np, P, nc, Q⟩ m y ct0, CX_ok _ _ _ _, DX_ok _ _ _ _, [rwX sh n B, rwY a S b W, k4 k0 k1 k2 k3], 200, .nil, ?_, k⟩
  rw [e1, e2]
  have e3 : svT Try.prog 98 ([.x (.int .i64 k0)] ++ ([.x (.int .i64 k1)] ++ ([.x (.int .i64 k2)] ++ ([.x (.int .i64 k3)] ++ [])))) = k4 k0 k1 k2 k3 := by rfl
  rw [e3]
  unfold rwX rwY k4
  simp [leSVs, leSV, leD, iv]
end Go.Proofs.Ytpaejfeojdoikaa.Rw
namespace Go.Proofs.Ytpaejfeojdoikaa
open Go.ChangeShapes Go.WideShapes Go.ChangeAt Go.RowKit Go.Sx
theorem glob0 {w : World} {F : Nat → Prop} : GlobOK w F := ⟨fun g n cell h => (by cases h), fun g Q h => (by cases h)⟩
theorem own : ownKnob Try.prog.godebug = none := by kernel_rfl
theorem laidOut : laidOutB Try.prog = true := by kernel_rfl
set_option maxRecDepth 100000 in
theorem lifted (os : Os) (started : os.Started) (H : Type) (enc : TypeId × Value → H) :
    ReturnsInHanded {} Try.checked os 11 .any (Rows.releaseMatchingSpec.pre6 enc Try.prog Try.f11 Rows.releaseMatchingRow.domain false) (Rows.releaseMatchingSpec.post enc Try.prog Try.f11 false true false false) := by
  refine returnsInHanded_of_change (C := Try.checked) own started (by kernel_rfl) Try.func11
    (ChangeSpec.witness6 (enc := enc) (C := Try.checked) false ⟨#[], #[.agg #[.int .u8 0, .slice none 0 0], .agg #[.slice none 0 0, .slice none 0 0], .agg #[.int .i64 0, .int .i64 0, .int .i64 0, .int .i64 0]], []⟩ 8 (by kernel_rfl) (by kernel_rfl) (by kernel_rfl) (by kernel_rfl)) ?_
  intro W base args ds gs before hval0 hW hcnd _
  have hval : ∀ (j : Nat) t v, Try.f11.params[j]? = some t → args[j]? = some v → Value.okWide Try.prog W .any base t v := hval0
  have hW' := hW
  obtain ⟨p, q, hA0, hV, rfl, hfz, hnd⟩ := hW
  have hA : DataW.TrodAll enc Try.prog W 0 (fun _ => true) true Try.f11.params.toList args.toList ds p := hA0
  rw [Try.params11] at hA hval
  obtain ⟨rfl, rfl⟩ := trodVars_none hV
  obtain ⟨v0, vs0, d0, ds0, p0, q0, hargs, rfl, e0, h0, r0⟩ := trodAll_cons hA
  obtain ⟨v1, vs1, d1, ds1, p1, q1, e1_1, rfl, e2_1, h1, r1⟩ := trodAll_cons r0
  obtain ⟨v2, vs2, d2, ds2, p2, q2, e1_2, rfl, e2_2, h2, r2⟩ := trodAll_cons r1
  obtain ⟨e3, rfl, e4⟩ := trodAll_nil r2
  obtain ⟨c, hc, hev⟩ := Rw.releaseMatching_ok
  have hlt := trodAll_lt hA
  obtain ⟨ss, o1, o2, o3⟩ := open_args (F := fun b => ∃ x ∈ p, x.block = b) (n := 6) (r := .any) (base := base) (by kernel_rfl) hA (fun j t v a b => hval j t v (by simpa using a) (by simpa using b)) (fun q hq => ⟨q, hq, rfl⟩)
  refine (law_of hc (F := fun b => ∃ x ∈ p, x.block = b) (fun b ⟨x, hx, e⟩ => e ▸ hlt x hx) glob0 (ss := ss) ⟨by simpa using o2, fun i hi => by simpa [List.getD, Array.getD_eq_getD_getElem?] using o3 i hi⟩ (hev ss o1)).mono fun e W' ⟨he, bel⟩ => ?_
  subst he
  have hback := trodAll_below laidOut bel (by kernel_rfl) hA
  exact ⟨_, rfl, _, _, _, [], _, [], hW', trodAll_mk1 (shut_bool Try.underlying4 _), hback, rfl, bel.frame _, fun h => by cases h⟩
theorem over : Rows.releaseMatchingRow.holds Try.pinned (OpenSpec.ofChange Rows.releaseMatchingSpec) :=
  OpenClaim.holds_of_wide 11 Try.f11 rfl rfl rfl rfl rfl rfl rfl ⟨rfl, rfl, rfl, rfl, rfl⟩ rfl rfl rfl rfl rfl (by kernel_rfl) Try.func11 (by kernel_rfl)
    (of_decide_eq_true (by kernel_rfl)) (by unfold Func.isWrapper; first | (rw [if_pos (by decide +kernel)]; kernel_rfl) | (rw [if_neg (by decide +kernel)]; exact ⟨rfl, rfl⟩))
    (fun os started H enc _ => lifted os started H enc)
theorem releaseMatching_holds : Rows.ReleaseMatchingSaid := over
#print axioms releaseMatching_holds
end Go.Proofs.Ytpaejfeojdoikaa
