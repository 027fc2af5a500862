/- Part of a proof of the given statements of this seat (SxFlRw, SxFlRx, SxFlRy, SxFlRz, SxFlG8): no conditions beyond those typed here. -/
import Derived.Test.YtpaejfeojdoikaaSy11
import Derived.Test.YtpaejfeojdoikaaRows
import Derived.Test.YtpaejfeojdoikaaChecked
set_option linter.unusedVariables false
set_option linter.unusedSimpArgs false

namespace Go.Proofs.Ytpaejfeojdoikaa
open Go.Sx
set_option maxRecDepth 100000

/-! ### One changed number -/
def nums (r : Rel) : List Int := relB r ++ [r.pn, r.pd]
theorem numN_def (r : Rel) (i : Nat) : numN r i = if i < 5 then ([r.no, w64 r.prev, w64 r.src, w64 r.cir, (r.fn : Int)] : List Int).getD i 0 else if i < 5 + r.fn then w64 (r.fc (i - 5)) else (nums r).getD (i - 5 - r.fn) 0 := rfl
/-- A release whose numbers are in range. -/
structure Okr (r : Rel) : Prop where
  no : I64 r.no
  prev : U6 r.prev
  src : U6 r.src
  cir : U6 r.cir
  fn : r.fn ≤ 1000000
  fc : ∀ i, U6 (r.fc i)
  nums : ∀ s, I64 ((nums r).getD s 0)
theorem w64_if (n : Int) : w64 n = if 9223372036854775808 ≤ n % 18446744073709551616 then n % 18446744073709551616 - 18446744073709551616 else n % 18446744073709551616 := by
  unfold w64 IntKind.wrap
  simp [IntKind.bits, IntKind.signed]
theorem w64_I (n : Int) : I64 (w64 n) := by
  rw [w64_if]
  unfold I64
  split <;> omega
theorem w64_inj {a b : Int} (ha : U6 a) (hb : U6 b) (h : w64 a = w64 b) : a = b := by
  obtain ⟨h1, h2⟩ := ha
  obtain ⟨h3, h4⟩ := hb
  rw [w64_if, w64_if] at h
  split at h <;> split at h <;> omega
/-- What is known of a release of which one number is another one. -/
structure One (X r : Rel) : Prop where
  fn : X.fn = r.fn
  alt : (∃ j, j < 19 + r.fn ∧ X.tag = r.tag ∧ (∀ t, t ≠ j → numN X t = numN r t) ∧ I64 (numN X j) ∧ I64 (numN r j) ∧ (numN X j = numN r j → X = r)) ∨ ((∀ t, numN X t = numN r t) ∧ (X.tag = r.tag → X = r))
theorem chJ_nums (r : Rel) (v : Int) (j : Nat) (hj : j < 14) : nums (chJ r v j) = (nums r).set j v ∧ (chJ r v j).fn = r.fn ∧ (chJ r v j).no = r.no ∧ (chJ r v j).prev = r.prev ∧ (chJ r v j).src = r.src ∧ (chJ r v j).cir = r.cir ∧ (chJ r v j).fc = r.fc ∧ (chJ r v j).tag = r.tag ∧ ((nums r).getD j 0 = v → chJ r v j = r) := by
  match j, hj with
  | 0, _ => exact ⟨rfl, rfl, rfl, rfl, rfl, rfl, rfl, rfl, fun h => by subst h; rfl⟩
  | 1, _ => exact ⟨rfl, rfl, rfl, rfl, rfl, rfl, rfl, rfl, fun h => by subst h; rfl⟩
  | 2, _ => exact ⟨rfl, rfl, rfl, rfl, rfl, rfl, rfl, rfl, fun h => by subst h; rfl⟩
  | 3, _ => exact ⟨rfl, rfl, rfl, rfl, rfl, rfl, rfl, rfl, fun h => by subst h; rfl⟩
  | 4, _ => exact ⟨rfl, rfl, rfl, rfl, rfl, rfl, rfl, rfl, fun h => by subst h; rfl⟩
  | 5, _ => exact ⟨rfl, rfl, rfl, rfl, rfl, rfl, rfl, rfl, fun h => by subst h; rfl⟩
  | 6, _ => exact ⟨rfl, rfl, rfl, rfl, rfl, rfl, rfl, rfl, fun h => by subst h; rfl⟩
  | 7, _ => exact ⟨rfl, rfl, rfl, rfl, rfl, rfl, rfl, rfl, fun h => by subst h; rfl⟩
  | 8, _ => exact ⟨rfl, rfl, rfl, rfl, rfl, rfl, rfl, rfl, fun h => by subst h; rfl⟩
  | 9, _ => exact ⟨rfl, rfl, rfl, rfl, rfl, rfl, rfl, rfl, fun h => by subst h; rfl⟩
  | 10, _ => exact ⟨rfl, rfl, rfl, rfl, rfl, rfl, rfl, rfl, fun h => by subst h; rfl⟩
  | 11, _ => exact ⟨rfl, rfl, rfl, rfl, rfl, rfl, rfl, rfl, fun h => by subst h; rfl⟩
  | 12, _ => exact ⟨rfl, rfl, rfl, rfl, rfl, rfl, rfl, rfl, fun h => by subst h; rfl⟩
  | 13, _ => exact ⟨rfl, rfl, rfl, rfl, rfl, rfl, rfl, rfl, fun h => by subst h; rfl⟩
  | k + 14, h => exact absurd h (by omega)
theorem getD_set {l : List Int} {j s : Nat} {v : Int} (hj : j < l.length) : (l.set j v).getD s 0 = if s = j then v else l.getD s 0 := by
  rw [List.getD_eq_getElem?_getD, List.getElem?_set, List.getD_eq_getElem?_getD]
  by_cases h : s = j
  · subst h; simp [hj]
  · rw [if_neg (by omega), if_neg h]
theorem nums_len (r : Rel) : (nums r).length = 14 := rfl
theorem one_J {r : Rel} (ok : Okr r) {v : Int} (hv : I64 v) {j : Nat} (hj : j < 14) : One (chJ r v j) r := by
  obtain ⟨h1, h2, h3, h4, h5, h6, h7, h8, h9⟩ := chJ_nums r v j hj
  have e : ∀ t, numN (chJ r v j) t = if t = 5 + r.fn + j then v else numN r t := fun t => by
    rw [numN_def, numN_def, h1, h2, h3, h4, h5, h6, h7]
    by_cases t1 : t < 5
    · rw [if_pos t1, if_pos t1, if_neg (by omega)]
    · rw [if_neg t1, if_neg t1]
      by_cases t2 : t < 5 + r.fn
      · rw [if_pos t2, if_pos t2, if_neg (by omega)]
      · rw [if_neg t2, if_neg t2, getD_set (by rw [nums_len]; exact hj)]
        by_cases t3 : t = 5 + r.fn + j
        · rw [if_pos (by omega), if_pos t3]
        · rw [if_neg (by omega), if_neg t3]
  have e2 : numN r (5 + r.fn + j) = (nums r).getD j 0 := by
    rw [numN_def, if_neg (by omega), if_neg (by omega), show 5 + r.fn + j - 5 - r.fn = j by omega]
  refine ⟨h2, .inl ⟨5 + r.fn + j, by omega, h8, fun t ht => ?_, ?_, ?_, fun h => ?_⟩⟩
  · rw [e, if_neg ht]
  · rw [e, if_pos rfl]; exact hv
  · rw [e2]; exact ok.nums j
  · rw [e, if_pos rfl, e2] at h; exact h9 h.symm
theorem numN_lo {r X : Rel} (hfn : X.fn = r.fn) (hfc : X.fc = r.fc) (hn : nums X = nums r) {t : Nat} (h : t < 5 → ([X.no, w64 X.prev, w64 X.src, w64 X.cir, (X.fn : Int)] : List Int).getD t 0 = ([r.no, w64 r.prev, w64 r.src, w64 r.cir, (r.fn : Int)] : List Int).getD t 0) : numN X t = numN r t := by
  rw [numN_def, numN_def, hfn, hfc, hn]
  by_cases t1 : t < 5
  · rw [if_pos t1, if_pos t1]; rw [hfn] at h; exact h t1
  · rw [if_neg t1, if_neg t1]
theorem one_I {r : Rel} (ok : Okr r) {v : Int} (hv : I64 v) {i : Nat} (hi : i < 19 + r.fn) : One (chI r v i) r := by
  unfold chI
  by_cases n0 : i = 0
  · rw [if_pos n0]
    refine ⟨rfl, .inl ⟨0, by omega, rfl, fun t ht => numN_lo (X := { r with no := v }) (r := r) rfl rfl rfl fun h => ?_, hv, ok.no, fun h => ?_⟩⟩
    · match t, ht with
      | 0, h => exact absurd rfl h
      | t + 1, _ => rfl
    · have h : v = r.no := h
      subst h; rfl
  rw [if_neg n0]
  by_cases n1 : i = 1
  · rw [if_pos n1]
    refine ⟨rfl, .inl ⟨1, by omega, rfl, fun t ht => numN_lo (X := { r with prev := wU v }) (r := r) rfl rfl rfl fun h => ?_, w64_I _, w64_I _, fun h => ?_⟩⟩
    · match t, ht with
      | 0, _ => rfl
      | 1, h => exact absurd rfl h
      | t + 2, _ => rfl
    · have h := w64_inj (wU_U v) ok.prev h
      rw [h]
  rw [if_neg n1]
  by_cases n2 : i = 2
  · rw [if_pos n2]
    refine ⟨rfl, .inl ⟨2, by omega, rfl, fun t ht => numN_lo (X := { r with src := wU v }) (r := r) rfl rfl rfl fun h => ?_, w64_I _, w64_I _, fun h => ?_⟩⟩
    · match t, ht with
      | 0, _ => rfl
      | 1, _ => rfl
      | 2, h => exact absurd rfl h
      | t + 3, _ => rfl
    · have h := w64_inj (wU_U v) ok.src h
      rw [h]
  rw [if_neg n2]
  by_cases n3 : i = 3
  · rw [if_pos n3]
    refine ⟨rfl, .inl ⟨3, by omega, rfl, fun t ht => numN_lo (X := { r with cir := wU v }) (r := r) rfl rfl rfl fun h => ?_, w64_I _, w64_I _, fun h => ?_⟩⟩
    · match t, ht with
      | 0, _ => rfl
      | 1, _ => rfl
      | 2, _ => rfl
      | 3, h => exact absurd rfl h
      | t + 4, _ => rfl
    · have h := w64_inj (wU_U v) ok.cir h
      rw [h]
  rw [if_neg n3]
  by_cases n4 : i < 4 + r.fn
  · rw [if_pos n4]
    have e : ∀ t, numN { r with fc := fun a => if a = i - 4 then wU v else r.fc a } t = if t = i + 1 then w64 (wU v) else numN r t := fun t => by
      rw [numN_def, numN_def]
      by_cases t1 : t < 5
      · rw [if_pos t1, if_pos t1, if_neg (by omega)]
      · rw [if_neg t1, if_neg t1]
        by_cases t2 : t < 5 + r.fn
        · rw [if_pos t2, if_pos t2]
          by_cases t3 : t = i + 1
          · rw [if_pos t3]; show w64 (if t - 5 = i - 4 then wU v else r.fc (t - 5)) = _; rw [if_pos (by omega)]
          · rw [if_neg t3]; show w64 (if t - 5 = i - 4 then wU v else r.fc (t - 5)) = _; rw [if_neg (by omega)]
        · rw [if_neg t2, if_neg t2, if_neg (by omega)]; rfl
    have e2 : numN r (i + 1) = w64 (r.fc (i - 4)) := by
      rw [numN_def, if_neg (by omega), if_pos (by omega), show i + 1 - 5 = i - 4 by omega]
    refine ⟨rfl, .inl ⟨i + 1, by omega, rfl, fun t ht => ?_, ?_, ?_, fun h => ?_⟩⟩
    · rw [e, if_neg ht]
    · rw [e, if_pos rfl]; exact w64_I _
    · rw [e2]; exact w64_I _
    · rw [e, if_pos rfl, e2] at h
      have h := w64_inj (wU_U v) (ok.fc _) h
      have : (fun a => if a = i - 4 then wU v else r.fc a) = r.fc := funext fun a => by
        by_cases ha : a = i - 4
        · rw [if_pos ha, ha, h]
        · rw [if_neg ha]
      rw [this]
  rw [if_neg n4]
  by_cases n5 : i - 4 - r.fn < 14
  · exact one_J ok hv n5
  · have : i - 4 - r.fn = 14 := by omega
    rw [this]
    exact ⟨rfl, .inr ⟨fun t => rfl, fun h => by
      have h : wU v = r.tag := h
      show ({ r with tag := wU v } : Rel) = r
      rw [h]⟩⟩
theorem one_R {r : Rel} (ok : Okr r) {v k : Int} (hv : I64 v) : One (chR r k v) r := by
  refine one_I ok hv ?_
  have h0 : 0 ≤ k % (19 + (r.fn : Int)) := Int.emod_nonneg _ (by omega)
  have h1 : k % (19 + (r.fn : Int)) < 19 + r.fn := Int.emod_lt_of_pos _ (by omega)
  omega
theorem smB_self (r : Rel) : smB r r = true := by
  unfold smB eqI
  simp only [Bool.and_eq_true, beq_iff_eq, true_and, and_true]
  exact eqF_iff.2 fun i _ => rfl
theorem One.same {X r : Rel} (h : One X r) : smB X r = true → X = r := by
  intro hs
  unfold smB eqI at hs
  simp only [Bool.and_eq_true, beq_iff_eq] at hs
  have hn := eqF_iff.1 hs.1.2
  rcases h.alt with ⟨j, hj, _, _, _, _, h6⟩ | ⟨_, h2⟩
  · exact h6 (hn j (by rw [h.fn]; exact hj))
  · exact h2 hs.2
theorem One.tag {X r : Rel} (h : One X r) {key : Int} (ht : r.tag = stp key (dig r)) : smB X r = false → X.tag ≠ stp key (dig X) := by
  intro hs e
  have hX : X ≠ r := fun h2 => by rw [h2, smB_self] at hs; cases hs
  rcases h.alt with ⟨j, hj, h1, h2, h3, h4, h5⟩ | ⟨h1, h2⟩
  · have hne : dig X ≠ dig r := by
      unfold dig
      rw [h.fn]
      exact dgW_one h2 h3 h4 (fun h6 => hX (h5 h6)) hj
    rw [h1, ht] at e
    exact hne (stp_w (dgW_U _ _) (dgW_U _ _) e).symm
  · have hd : dig X = dig r := by
      unfold dig
      rw [h.fn]
      exact dgW_congr fun i _ => h1 i
    rw [hd, ← ht] at e
    exact hX (h2 e)
end Go.Proofs.Ytpaejfeojdoikaa

namespace Go.Proofs.Ytpaejfeojdoikaa
open Go.Sx
set_option maxRecDepth 100000

/-! ### ReleaseIntegrity -/
theorem relR_L (r : Rel) : relR (relL r) = r := rfl
theorem relP_L {r : Rel} (h : r.fn ≤ 1000000) : relP (relL r) := ⟨r, _, rfl, U64C.self h⟩
theorem relP_le {l : List SV} (h : relP l) : leSVs 0 [] [] l (relL (relR l)) ∧ (relR l).fn ≤ 1000000 := by
  obtain ⟨r, p, h1, h2⟩ := h
  have e : relR l = r := by unfold relR; rw [h1]
  rw [e]; exact relOf_le h1 h2
theorem cChd_ok : CtrOK Try.prog 39 (cChd relR chR) := by
  refine ctrOK_leR CQ_ok DQ_ok (by kernel_rfl) (by kernel_rfl) fun ss r h => ?_
  unfold cChd at h
  split at h
  · rename_i l k v
    obtain ⟨⟨h1, h2⟩, rfl⟩ := h
    obtain ⟨h3, h4⟩ := relP_le h1
    have k' := ch_sat (v := v) h2 h4
    refine ⟨[.agg (relL (relR l)), iv k, iv v], 200, .nil, ?_, Sat.of_eq (LCh_eq ctR (relR l) k v) k'⟩
    simp only [leSVs, leSV, iv, and_true]; exact ⟨h3, by simp [leD], by simp [leD]⟩
  · exact h.elim
theorem cSmG_ok : CtrOK Try.prog 38 (cSmG relR) := by
  refine ctrOK_leS CN_ok DN_ok (by kernel_rfl) (by kernel_rfl) fun ss r h => ?_
  unfold cSmG at h
  split at h
  · rename_i l m
    obtain ⟨⟨h1, h2⟩, rfl⟩ := h
    obtain ⟨h3, h4⟩ := relP_le h1
    obtain ⟨h5, h6⟩ := relP_le h2
    refine ⟨[.agg (relL (relR l)), .agg (relL (relR m))], 200, .nil, ?_, Sat.of_eq (LSm_eq (relR l) (relR m)) ⟨?_⟩⟩
    · simp only [leSVs, leSV, and_true]; exact ⟨h3, h5⟩
    · unfold LSm
      exact ⟨U64C.self h4, U64C.self h6, ⟨I64C.self (by omega), I64C.self (by omega)⟩, rfl⟩
  · exact h.elim
theorem manSl_ok (k : Nat) (c : Ctr) (h : manSl ctR FM chR relC relR k = some c) : CtrOK Try.prog k c ∧ goodF Try.prog k = true := by
  unfold manSl at h
  split at h
  · cases h; exact ⟨cChd_ok, by kernel_rfl⟩
  · cases h; exact ⟨cCk_ok, by kernel_rfl⟩
  · cases h; exact ⟨cSmG_ok, by kernel_rfl⟩
  · exact manRl_ok _ _ h
theorem CSl_ok : CtxOK Try.prog (CSl ctR FM chR relC relR) := ctxO_ok mixed manSl_ok ownL_ok 6
theorem DSl_ok : DrOK Try.prog (CSl ctR FM chR relC relR) (DSl ctR FM chR relC relR) := drawn_ok CSl_ok mixed
structure LawS (k : Nat) (ss : List SV) : Prop where
  ok : ∃ h, (TSl ctR FM chR relC relR h k ss).sat Try.prog (· = bv true)
theorem law_ctrS {k : Nat} {okA : List SV → Prop} (hf : (Try.prog.funcs[k]?).isSome = true) (hb : (fnOf Try.prog k).body.isSome = true) (h : ∀ ss, okA ss → ∃ ss', leSVs 0 [] [] ss ss' ∧ LawS k ss') :
    ∃ c : Ctr, CtrOK Try.prog k c ∧ ∀ ss, okA ss → (c ss).ev (bv true) := by
  refine ⟨fun ss => .need (okA ss) (.ret (bv true)), ?_, fun ss hs => ⟨hs, rfl⟩⟩
  refine ctrOK_leS CSl_ok DSl_ok hf hb fun ss r hr => ?_
  obtain ⟨h1, rfl⟩ := hr
  obtain ⟨ss', h2, h3⟩ := h ss h1
  obtain ⟨hint, h4⟩ := h3.ok
  exact ⟨ss', 200, hint, h2, ⟨h4⟩⟩

theorem relC_at {cell : Nat → Nat → DV} {a : Nat} {r : Rel} (h : ∀ j, j < 20 → cell a j = relD r j) : relC cell a = r := by
  unfold relC
  rw [h 0 (by decide), h 1 (by decide), h 2 (by decide), h 3 (by decide), h 4 (by decide), h 5 (by decide), h 6 (by decide), h 7 (by decide), h 8 (by decide), h 9 (by decide), h 10 (by decide), h 11 (by decide), h 12 (by decide), h 13 (by decide), h 14 (by decide), h 15 (by decide), h 16 (by decide), h 17 (by decide), h 18 (by decide), h 19 (by decide)]
  rfl
theorem ckB_congr {key : Int} {f g : Nat → Rel} : ∀ {n : Nat}, (∀ i, i < n → f i = g i) → ckB key f n = ckB key g n
  | 0, _ => rfl
  | n + 1, h => by
    have e : goodR key f n = goodR key g n := by
      unfold goodR
      have e1 : prevN f n = prevN g n := by
        cases n with
        | zero => rfl
        | succ k => show dig (f k) = dig (g k); rw [h k (by omega)]
      rw [e1, h n (by omega)]
    show (ckB key f n && goodR key f n) = (ckB key g n && goodR key g n)
    rw [e, ckB_congr fun i hi => h i (by omega)]
theorem ckV_congr {key : Int} {n : Nat} {f g : Nat → Rel} (h : ∀ i, i < n → f i = g i) : ckV key n f = ckV key n g := by
  unfold ckV; rw [ckB_congr h]
theorem ckV_no {key : Int} {n : Nat} {f : Nat → Rel} {k : Nat} (hk : k < n) (h : goodR key f k = false) : ckV key n f = 460 := by
  unfold ckV
  split
  · rfl
  · rw [if_neg]
    intro h2
    rw [ckB_iff.1 h2 k hk] at h
    cases h
theorem ChC_of {n : Nat} {cell : Nat → Nat → DV} {g : Nat → Rel} (hn : n ≤ 1000000) (hg : ∀ i, i < n → (g i).fn ≤ 1000000) (h : ∀ i j, i < n → j < 20 → cell i j = relD (g i) j) : ChC n cell := by
  refine ⟨hn, fun i hi => ?_⟩
  have e : relC cell i = g i := relC_at fun j hj => h i j hi hj
  rw [e]
  exact ⟨hg i hi, fun j hj => h i j hi hj⟩
theorem vdB_nums {r : Rel} (h : vdB r = true) : ∀ s, I64 ((nums r).getD s 0) := by
  unfold vdB cdB viB at h
  simp only [Bool.and_eq_true, vB_iff, decide_eq_true_eq] at h
  obtain ⟨⟨⟨⟨⟨⟨⟨h1, h2⟩, _⟩, ⟨h3, h4⟩, _⟩, ⟨h5, h6⟩, _⟩, h7⟩, _⟩, _⟩ := h
  have N : ∀ {n d : Int}, VF n d → I64 n := fun h => by have := h.n; exact ⟨by omega, by omega⟩
  have D : ∀ {n d : Int}, VF n d → I64 d := fun h => by have := h.d; have := h.low.pos; exact ⟨by omega, by omega⟩
  intro s
  match s with
  | 0 => exact N h1
  | 1 => exact D h1
  | 2 => exact N h2
  | 3 => exact D h2
  | 4 => exact N h3
  | 5 => exact D h3
  | 6 => exact N h4
  | 7 => exact D h4
  | 8 => exact N h5
  | 9 => exact D h5
  | 10 => exact N h6
  | 11 => exact D h6
  | 12 => exact N h7
  | 13 => exact D h7
  | k + 14 => show I64 0; exact ⟨by decide, by decide⟩
theorem prevN_U (f : Nat → Rel) : ∀ k, U6 (prevN f k)
  | 0 => show U6 0 from ⟨by decide, by decide⟩
  | k + 1 => dgW_U _ _
theorem mk_okr {key : Int} {m : Nat} {ln : Nat → Nat} {c : Nat → Nat → Nat → DV} (hb : BB m ln c) {i : Nat} (hi : i < min m 6) : Okr (mkR key (ctC ln c) i) := by
  have hv := mk_vd hb i hi
  have hv2 : vdB (mkR key (ctC ln c) i) = true := by rw [mkR_new]; exact hv
  refine ⟨?_, ?_, ?_, ?_, mk_fn hb i hi, ?_, vdB_nums hv2⟩
  · rw [mkR_new]; show I64 ((i : Int) + 1); exact ⟨by omega, by omega⟩
  · rw [mkR_new]; exact prevN_U _ _
  · rw [mkR_new]; exact wU_U _
  · rw [mkR_new]; exact wU_U _
  · rw [mkR_new]; exact fun t => wU_U _
theorem mk_no {key : Int} {c : Nat → Rel} {i : Nat} : (mkR key c i).no = (i : Int) + 1 := by rw [mkR_new]; rfl
end Go.Proofs.Ytpaejfeojdoikaa

namespace Go.Proofs.Ytpaejfeojdoikaa
open Go.Sx
set_option maxRecDepth 100000

theorem m20 {r : Rel} {d : DV} {q : Nat → Nat → DV} (hq : q = fun i _ => .x (.int .u64 (r.fc i))) : ∀ j, j < 20 → (match ([i64d r.no, u64d r.prev, u64d r.src, u64d r.cir, .ro r.fn 1 q, i64d r.b0, i64d r.b1, i64d r.b2, i64d r.b3, i64d r.b4, i64d r.b5, i64d r.b6, i64d r.b7, i64d r.b8, i64d r.b9, i64d r.b10, i64d r.b11, i64d r.pn, i64d r.pd, u64d r.tag] : List DV)[j - 0]? with | some x => x | none => d) = relD r j := by
  subst hq
  intro j hj
  match j, hj with
  | 0, _ => rfl
  | 1, _ => rfl
  | 2, _ => rfl
  | 3, _ => rfl
  | 4, _ => rfl
  | 5, _ => rfl
  | 6, _ => rfl
  | 7, _ => rfl
  | 8, _ => rfl
  | 9, _ => rfl
  | 10, _ => rfl
  | 11, _ => rfl
  | 12, _ => rfl
  | 13, _ => rfl
  | 14, _ => rfl
  | 15, _ => rfl
  | 16, _ => rfl
  | 17, _ => rfl
  | 18, _ => rfl
  | 19, _ => rfl
  | k + 20, h => exact absurd h (by omega)
theorem and255 (a : Int) : 0 ≤ w64 (↑(BitVec.toNat (BitVec.ofInt 64 a &&& BitVec.ofInt 64 (255 : Int))) : Int) := by
  have h : BitVec.toNat (BitVec.ofInt 64 a &&& BitVec.ofInt 64 (255 : Int)) ≤ 255 := by
    rw [BitVec.toNat_and]
    exact Nat.and_le_right
  rw [w64_of (by omega) (by omega)]
  omega
section
variable (key : Int) (m : Nat) (ln : Nat → Nat) (c : Nat → Nat → Nat → DV) (a b v : Int)
/-- The place of the changed release. -/
def i8 (m : Nat) (a : Int) : Nat := (Int.tmod (w64 (↑(BitVec.toNat (BitVec.ofInt 64 a &&& BitVec.ofInt 64 (255 : Int))) : Int)) ((min m 6 : Nat) : Int)).toNat
noncomputable def f8 : Nat → Rel := mkR key (ctC ln c)
noncomputable def x8 : Rel := chR (f8 key ln c (i8 m a)) (w64 (↑(BitVec.toNat (BitVec.ofInt 64 b &&& BitVec.ofInt 64 (255 : Int))) : Int)) v
noncomputable def g8 : Nat → Rel := fun i => if i = i8 m a then x8 key m ln c a b v else f8 key ln c i
noncomputable def h8 : Nat → Rel := fun i => if i < min m 6 then f8 key ln c i else f8 key ln c (i8 m a)
theorem e8_8 : L8r_q8 FM relR key m ln c a b v = f8 key ln c (i8 m a) := rfl
theorem e8_9 : L8r_q9 FM chR relR key m ln c a b v = x8 key m ln c a b v := by
  unfold L8r_q9; rw [e8_8]; rfl
theorem e8_12 : L8r_q12 FM chR relR key m ln c a b v = x8 key m ln c a b v := by
  unfold L8r_q12 x8; rfl
theorem e8_14 : L8r_q14 FM chR relR key m ln c a b v = L8r_q11 FM chR relR key m ln c a b v := by kernel_rfl
theorem e8_17 : L8r_q17 FM key m ln c a b v = L8r_q16 FM key m ln c a b v := by kernel_rfl
theorem e8_11 (i j : Nat) (hj : j < 20) : L8r_q11 FM chR relR key m ln c a b v i j = relD (g8 key m ln c a b v i) j := by
  unfold L8r_q11
  rw [if_pos ⟨by omega, hj⟩, selD_if]
  unfold g8
  by_cases h : i = i8 m a
  · rw [if_pos (by rw [Nat.zero_add, Nat.zero_add]; exact h), if_pos h, e8_9]
    refine m20 ?_ j hj
    funext i x; unfold L8r_q10; rw [e8_9]
  · rw [if_neg (by rw [Nat.zero_add, Nat.zero_add]; exact h), if_neg h]
    simp only [Nat.zero_add, Nat.not_lt_zero, decide_false, cond_false, Nat.sub_zero]
    rfl
theorem e8_16 (i j : Nat) (hi : i < min m 6 + 1) (hj : j < 20) : L8r_q16 FM key m ln c a b v i j = relD (h8 key m ln c a i) j := by
  unfold L8r_q16
  rw [selD_if]
  unfold h8
  by_cases h : i < min m 6
  · rw [if_pos (by rw [Nat.zero_add, Nat.zero_add]; exact h), if_pos h]
    simp only [Nat.zero_add, Nat.not_lt_zero, decide_false, cond_false, Nat.sub_zero]
    rfl
  · rw [if_neg (by rw [Nat.zero_add, Nat.zero_add]; exact h), if_neg h, show 0 + (0 + (0 + i - (0 + min m 6))) * 20 + j = j by omega]
    exact dsAt_rel (r := f8 key ln c (i8 m a)) rfl j hj
end
end Go.Proofs.Ytpaejfeojdoikaa

namespace Go.Proofs.Ytpaejfeojdoikaa
open Go.Sx
set_option maxRecDepth 100000

theorem i8_lt {m : Nat} {a : Int} (hm : min m 6 ≠ 0) : 0 ≤ Int.tmod (w64 (↑(BitVec.toNat (BitVec.ofInt 64 a &&& BitVec.ofInt 64 (255 : Int))) : Int)) ((min m 6 : Nat) : Int) ∧ Int.tmod (w64 (↑(BitVec.toNat (BitVec.ofInt 64 a &&& BitVec.ofInt 64 (255 : Int))) : Int)) ((min m 6 : Nat) : Int) < ((min m 6 : Nat) : Int) ∧ i8 m a < min m 6 := by
  have h := and255 a
  have h1 := Int.emod_nonneg (w64 (↑(BitVec.toNat (BitVec.ofInt 64 a &&& BitVec.ofInt 64 (255 : Int))) : Int)) (b := ((min m 6 : Nat) : Int)) (by omega)
  have h2 := Int.emod_lt_of_pos (w64 (↑(BitVec.toNat (BitVec.ofInt 64 a &&& BitVec.ofInt 64 (255 : Int))) : Int)) (b := ((min m 6 : Nat) : Int)) (by omega)
  unfold i8
  rw [Int.tmod_eq_emod_of_nonneg h]
  exact ⟨h1, h2, by omega⟩
theorem f8_good {key : Int} {m : Nat} {ln : Nat → Nat} {c : Nat → Nat → Nat → DV} (hb : BB m ln c) {i : Nat} (hi : i < min m 6) : goodR key (f8 key ln c) i = true := mkR_good (mk_vd hb i hi)
theorem f8_ck {key : Int} {m : Nat} {ln : Nat → Nat} {c : Nat → Nat → Nat → DV} (hb : BB m ln c) : ckV key (min m 6) (f8 key ln c) = 0 := mkR_ck (by have := min6 m; omega) (mk_vd hb)
theorem law8_odd {key : Int} {m : Nat} {ln : Nat → Nat} {c : Nat → Nat → Nat → DV} (hb : BB m ln c) {a b v : Int} (hv : I64 v) (hi : i8 m a < min m 6) :
    (ckV key (min m 6) (g8 key m ln c a b v) == 0) = smB (x8 key m ln c a b v) (f8 key ln c (i8 m a)) := by
  have hone : One (x8 key m ln c a b v) (f8 key ln c (i8 m a)) := one_R (mk_okr hb hi) hv
  cases hs : smB (x8 key m ln c a b v) (f8 key ln c (i8 m a)) with
  | true =>
    have e := hone.same hs
    have : ckV key (min m 6) (g8 key m ln c a b v) = 0 := by
      rw [ckV_congr (g := f8 key ln c) fun i hi => by
        unfold g8
        by_cases h : i = i8 m a
        · rw [if_pos h, e, h]
        · rw [if_neg h]]
      exact f8_ck hb
    rw [this]; rfl
  | false =>
    have hg := f8_good (key := key) hb hi
    simp only [goodR, Bool.and_eq_true, beq_iff_eq] at hg
    have ht := hone.tag hg.2 hs
    have : ckV key (min m 6) (g8 key m ln c a b v) = 460 := ckV_no (k := i8 m a) hi (by
      unfold goodR
      rw [show g8 key m ln c a b v (i8 m a) = x8 key m ln c a b v by unfold g8; rw [if_pos rfl]]
      rw [show ((x8 key m ln c a b v).tag == stp key (dig (x8 key m ln c a b v))) = false by simpa using ht]
      simp)
    rw [this]; rfl
theorem law8_twice {key : Int} {m : Nat} {ln : Nat → Nat} {c : Nat → Nat → Nat → DV} {a : Int} (hi : i8 m a < min m 6) : ckV key (min m 6 + 1) (h8 key m ln c a) = 460 := ckV_no (k := min m 6) (by omega) (by
  unfold goodR
  have e : (h8 key m ln c a (min m 6)).no = (i8 m a : Int) + 1 := by unfold h8; rw [if_neg (by omega)]; exact mk_no
  rw [e]
  rw [show (((i8 m a : Int) + 1) == ((min m 6 : Nat) : Int) + 1) = false by rw [beq_eq_false_iff_ne]; omega]
  simp)
theorem law8_tail {key : Int} {m : Nat} {ln : Nat → Nat} {c : Nat → Nat → Nat → DV} (h1 : min m 6 ≠ 0) (h2 : min m 6 ≠ 1) : ckV key (min m 6 - 1) (fun i => f8 key ln c (1 + i)) = 460 := ckV_no (k := 0) (by omega) (by
  unfold goodR
  have e : (f8 key ln c (1 + 0)).no = ((1 + 0 : Nat) : Int) + 1 := mk_no
  rw [e]
  simp)

theorem law8 {key : Int} {m : Nat} {ln : Nat → Nat} {c : Nat → Nat → Nat → DV} (hb : BB m ln c) {a b v : Int} (hv : I64 v) : LawS 8 [u64v key, .d (bbD m ln c), .agg [iv a, iv b, iv v]] := by
  refine ⟨.nil, ?_⟩
  rw [L8r_eq]; unfold L8r
  have hm6 := min6 m
  have hn : min m 6 ≤ 1000000 := by omega
  have hfn := mk_fn (key := key) hb
  have hc3 : ChC (min m 6) (L8r_q3 FM key m ln c) := ChC.self (f := f8 key ln c) hn hfn
  refine ⟨fun h => absurd h (by decide), fun _ => ⟨BBd.of hb, fun h => ⟨hc3, ?_⟩, fun h => ?_⟩⟩
  · refine bv_true ?_
    show (ckV key (min m 6) (f8 key ln c) == 0 && true) = true
    rw [f8_ck hb]; rfl
  · have h0 : min m 6 ≠ 0 := by have := beq_eq_false_iff_ne.1 h; omega
    obtain ⟨i1, i2, i3⟩ := i8_lt (a := a) h0
    have hf6 : (f8 key ln c (i8 m a)).fn ≤ 1000000 := hfn _ i3
    have hone : One (x8 key m ln c a b v) (f8 key ln c (i8 m a)) := one_R (mk_okr hb i3) hv
    have hx : (x8 key m ln c a b v).fn ≤ 1000000 := by rw [hone.fn]; exact hf6
    have p4 : relP (relL (f8 key ln c (i8 m a))) := relP_L hf6
    have px : relP (relL (x8 key m ln c a b v)) := relP_L hx
    have hg : ∀ i, i < min m 6 → (g8 key m ln c a b v i).fn ≤ 1000000 := fun i hi => by
      unfold g8; split
      · exact hx
      · exact hfn i hi
    have hh : ∀ i, i < min m 6 + 1 → (h8 key m ln c a i).fn ≤ 1000000 := fun i hi => by
      unfold h8; split
      · exact hfn i (by assumption)
      · exact hf6
    have z : 0 + min m 6 = min m 6 := Nat.zero_add _
    have hc11 : ChC (0 + min m 6) (L8r_q11 FM chR relR key m ln c a b v) := by
      rw [z]; exact ChC_of hn hg fun i j hi hj => e8_11 key m ln c a b v i j hj
    have hc16 : ChC (0 + min m 6 + 1) (L8r_q16 FM key m ln c a b v) := by
      rw [z]; exact ChC_of (by omega) hh fun i j hi hj => e8_16 key m ln c a b v i j hi hj
    have k14 : ckV key (0 + min m 6) (relC (L8r_q14 FM chR relR key m ln c a b v)) = ckV key (min m 6) (g8 key m ln c a b v) := by
      rw [z, e8_14]; exact ckV_congr fun i hi => relC_at fun j hj => e8_11 key m ln c a b v i j hj
    have k17 : ckV key (0 + min m 6 + 1) (relC (L8r_q17 FM key m ln c a b v)) = ckV key (min m 6 + 1) (h8 key m ln c a) := by
      rw [z, e8_17]; exact ckV_congr fun i hi => relC_at fun j hj => e8_16 key m ln c a b v i j hi hj
    have k20 : ckV key (min m 6 - 1) (relC (L8r_q20 FM key m ln c)) = ckV key (min m 6 - 1) (fun i => f8 key ln c (1 + i)) := rfl
    have hc20 : min m 6 ≠ 1 → ChC (min m 6 - 1) (L8r_q20 FM key m ln c) := fun h => ChC.self (f := fun i => f8 key ln c (1 + i)) (by omega) fun i hi => hfn _ (by omega)
    have b15 : L8r_q15 FM chR relC relR key m ln c a b v = true := by
      unfold L8r_q15
      rw [k14, law8_odd hb hv i3, e8_8]
      show (smB (x8 key m ln c a b v) (f8 key ln c (i8 m a)) == smB (relR (relL (L8r_q9 FM chR relR key m ln c a b v))) (f8 key ln c (i8 m a))) = true
      rw [relR_L, e8_9]
      simp
    have b18 : L8r_q18 FM chR relC relR key m ln c a b v = true := by
      unfold L8r_q18
      rw [b15, k17, law8_twice i3]; rfl
    have p12 : relP (relL (L8r_q12 FM chR relR key m ln c a b v)) := by rw [e8_12]; exact px
    have b19 : L8r_q19 m = false → min m 6 ≠ 1 := fun h => by
      unfold L8r_q19 at h
      have := beq_eq_false_iff_ne.1 h
      omega
    refine ⟨by omega, by omega, by omega, ⟨i1, i2⟩, by omega, by omega, by omega, by omega, ⟨p4, and255 b⟩, ⟨by omega, trivial, by omega⟩, ⟨i1, by rw [z]; exact i2⟩, by have := i3; unfold i8 at this; omega, ⟨by omega, trivial, by omega⟩, ⟨i1, i2⟩, ⟨by omega, by simp, by omega⟩, by omega, hc11, ⟨i1, i2⟩, ⟨p12, p4⟩, fun _ => by omega, fun _ => hc16, fun h => ⟨trivial, by omega, by omega⟩, fun h => hc20 (b19 h.2), ?_⟩
    refine bv_true ?_
    rw [b18, k20]
    cases h19 : L8r_q19 m with
    | true => rfl
    | false => rw [law8_tail h0 (b19 h19)]; rfl

theorem releaseIntegrity_ok : ∃ c : Ctr, CtrOK Try.prog 8 c ∧ ∀ ss, okArgs Try.prog 6 [60, 61, 80] ss → (c ss).ev (bv true) := by
  refine law_ctrS (by kernel_rfl) (by kernel_rfl) fun ss hs => ?_
  obtain ⟨d1, r1, rfl, g1, d2, r2, rfl, g2, d3, r3, rfl, g3, rfl⟩ := hs
  obtain ⟨m, ln, c, hb, hle⟩ := okBB g2
  obtain ⟨ks, k1, rfl, k3⟩ := okT_ints (c := 3) (by kernel_rfl) g3
  match ks, k1 with
  | [a, b, v], _ =>
    unfold okT at g1
    simp only [Try.underlying60] at g1
    obtain ⟨key, w0, rfl⟩ := g1
    have k := law8 (key := key) (a := a) (b := b) hb (k3 v (by simp))
    refine ⟨[u64v key, .d (bbD m ln c), .agg [iv a, iv b, iv v]], ?_, ?_⟩
    · have e1 : svT Try.prog 60 [.x (.int .u64 key)] = u64v key := by rfl
      have e2 : svT Try.prog 80 ([a, b, v].map i64d) = .agg [iv a, iv b, iv v] := by rfl
      rw [e1, e2]
      simp only [leSVs, and_true] at hle ⊢
      refine ⟨by simp [leSV, leD, u64v], hle, ?_⟩
      simp [leSV, leSVs, leD, iv]
    · exact k
end Go.Proofs.Ytpaejfeojdoikaa

namespace Go.Proofs.Ytpaejfeojdoikaa
open Go.ChangeShapes Go.WideShapes Go.ChangeAt Go.RowKit Go.Sx

theorem own : ownKnob Try.prog.godebug = none := by kernel_rfl
theorem laidOut : laidOutB Try.prog = true := by kernel_rfl

set_option maxRecDepth 100000 in
theorem lifted (os : Os) (started : os.Started) (H : Type) (enc : TypeId × Value → H) :
    ReturnsInHanded {} Try.checked os 8 .any (Rows.releaseIntegritySpec.pre6 enc Try.prog Try.f8 Rows.releaseIntegrityRow.domain false) (Rows.releaseIntegritySpec.post enc Try.prog Try.f8 false true false false) := by
  refine returnsInHanded_of_change (C := Try.checked) own started (by kernel_rfl) Try.func8
    (ChangeSpec.witness6 (enc := enc) (C := Try.checked) false ⟨#[], #[.int .u64 0, .slice none 0 0, .agg #[.int .i64 0, .int .i64 0, .int .i64 0]], []⟩ 8 (by kernel_rfl) (by kernel_rfl) (by kernel_rfl) (by kernel_rfl)) ?_
  intro W base args ds gs before hval0 hW hcnd _
  have hval : ∀ (j : Nat) t v, Try.f8.params[j]? = some t → args[j]? = some v → Value.okWide Try.prog W .any base t v := hval0
  have hW' := hW
  obtain ⟨p, q, hA0, hV, rfl, hfz, hnd⟩ := hW
  have hA : DataW.TrodAll enc Try.prog W 0 (fun _ => true) true Try.f8.params.toList args.toList ds p := hA0
  rw [Try.params8] at hA hval
  obtain ⟨rfl, rfl⟩ := trodVars_none hV
  obtain ⟨v0, vs0, d0, ds0, p0, q0, hargs, rfl, e0, h0, r0⟩ := trodAll_cons hA
  obtain ⟨v1, vs1, d1, ds1, p1, q1, e1_1, rfl, e2_1, h1, r1⟩ := trodAll_cons r0
  obtain ⟨v2, vs2, d2, ds2, p2, q2, e1_2, rfl, e2_2, h2, r2⟩ := trodAll_cons r1
  obtain ⟨e3, rfl, e4⟩ := trodAll_nil r2
  obtain ⟨c, hc, hev⟩ := releaseIntegrity_ok
  have hlt := trodAll_lt hA
  obtain ⟨ss, o1, o2, o3⟩ := open_args (F := fun b => ∃ x ∈ p, x.block = b) (n := 6) (r := .any) (base := base) (by kernel_rfl) hA (fun j t v a b => hval j t v (by simpa using a) (by simpa using b)) (fun q hq => ⟨q, hq, rfl⟩)
  refine (law_of hc (F := fun b => ∃ x ∈ p, x.block = b) (fun b ⟨x, hx, e⟩ => e ▸ hlt x hx) (ss := ss) ⟨by simpa using o2, fun i hi => by simpa [List.getD, Array.getD_eq_getD_getElem?] using o3 i hi⟩ (hev ss o1)).mono fun e W' ⟨he, bel⟩ => ?_
  subst he
  have hback := trodAll_below laidOut bel (by kernel_rfl) hA
  exact ⟨_, rfl, _, _, _, [], _, [], hW', trodAll_mk1 (shut_bool Try.underlying4 _), hback, rfl, bel.frame _, fun h => by cases h⟩

theorem over : Rows.releaseIntegrityRow.holds Try.pinned (OpenSpec.ofChange Rows.releaseIntegritySpec) :=
  OpenClaim.holds_of_wide 8 Try.f8 rfl rfl rfl rfl rfl rfl rfl ⟨rfl, rfl, rfl, rfl, rfl⟩ rfl rfl rfl rfl rfl (by kernel_rfl) Try.func8 (by kernel_rfl)
    (of_decide_eq_true (by kernel_rfl)) (by unfold Func.isWrapper; first | (rw [if_pos (by decide +kernel)]; kernel_rfl) | (rw [if_neg (by decide +kernel)]; exact ⟨rfl, rfl⟩))
    (fun os started H enc _ => lifted os started H enc)

theorem releaseIntegrity_holds : Rows.ReleaseIntegritySaid := over
#print axioms releaseIntegrity_holds
end Go.Proofs.Ytpaejfeojdoikaa

