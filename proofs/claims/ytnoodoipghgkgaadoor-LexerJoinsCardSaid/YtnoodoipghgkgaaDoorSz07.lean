/- Part of a proof of the given statements of this seat (SxLxL, SxLxO, SxLxP, SxLxQ, SxLxU, SxLxR, SxLxV, SxLxW, SxLxX, SxLxY, SxLxYa, SxLxYb, SxLxZ, SxLxZb, SxLxZc): no conditions beyond those typed here. -/
import Derived.Test.YtnoodoipghgkgaaDoorSz06
import Derived.Lib.Bytealg
set_option linter.unusedVariables false
set_option linter.unusedSimpArgs false
set_option linter.unusedSectionVars false

namespace Go.Proofs.YtnoodoipghgkgaaDoor
open Go.Sx
set_option maxRecDepth 100000

/-! ### Same -/
theorem sm_sat {n m : Nat} {L M : List Tok} {b : Int} (hn : n ≤ 1000000) (hb : -1000000000 ≤ b ∧ b ≤ 1000000000) (ha : ∀ i, tkA L i ≤ 1000000000) :
    Sat Tryd.prog (tSm n L m M b) (· = bv (smB n L m M b)) := by
  constructor
  rw [LSm_eq]; unfold LSm
  have ha0 : ∀ i, 0 ≤ tkA L i := fun i => by unfold tkA; omega
  refine ⟨fun h => ?_, fun h => ?_⟩
  · have : smB n L m M b = false := by
      unfold smB
      rw [bne_iff_ne] at h
      rw [decide_eq_false (by omega), Bool.false_and]
    rw [this]; exact rfl
  obtain rfl : n = m := by rw [bne_eq_false_iff_eq] at h; omega
  refine code_satS C2_ok D2_ok (n := 200) (n0 := 0) (nx := 0) (roots := []) (keep := [0, 1, 2, 6, 7]) (drop := []) (h := .nil) (c := codeC (sub [1] (tSm n L n M b))) (st := codeS (sub [1] (tSm n L n M b))) (k := codeK (sub [1] (tSm n L n M b))) (body := bodySm) (by kernel_rfl) (by kernel_rfl)
    (fun q t => ∃ i : Nat, q = n - i ∧ i ≤ n ∧ (∀ j, j < i → smF L M b j = true) ∧ t = invSm n L n M b false i)
    (fun e t => (e = .exit 0 ∧ smB n L n M b = true ∧ t = invSm n L n M b false n) ∨ (e = .ret ∧ smB n L n M b = false ∧ ∃ i, t = invSm n L n M b false i))
    ⟨_, _, ⟨0, rfl, by omega, fun j hj => by omega, rfl⟩, ?_⟩ ?_ ?_
  · exact entA_sound (roots := []) (keep := [0, 1, 2, 6, 7]) (drop := []) (nx := 0) (h := .nil) (by kernel_rfl)
  · rintro q t ⟨i, rfl, hi, hj, rfl⟩
    refine Sat.of_eq (BSm_eq n L n M b false i) ?_
    constructor
    unfold BSm
    have w1 : w64 (tkA L i + b) = tkA L i + b := w64_of (by have := ha0 i; omega) (by have := ha i; omega)
    simp only [Int.toNat_natCast, w1]
    have hf : (tkK L i != tkK M i || !strEq (tkT L i) (tkT M i) || tkA L i + b != tkA M i) = !smF L M b i := by
      unfold smF bne
      cases tkK L i == tkK M i <;> cases strEq (tkT L i) (tkT M i) <;> cases tkA L i + b == tkA M i <;> rfl
    rw [hf]
    refine ⟨fun h2 => ?_, fun h2 => ?_⟩
    · simp only [decide_eq_true_eq] at h2
      refine ⟨by omega, by omega, fun _ => by omega, fun _ => by omega, fun _ => by omega, fun _ => by omega, fun h3 => ?_, fun h3 => ?_⟩
      · refine ⟨_, .inr ⟨rfl, ?_, i, rfl⟩, Gc.refl _ _⟩
        cases hs : smB n L n M b with
        | false => rfl
        | true => have := (smB_iff.1 hs).2 i (by omega); rw [this] at h3; cases h3
      · rw [w64_of (n := (i : Int) + 1) (by omega) (by omega)]
        refine ⟨n - (i + 1), _, by omega, ⟨i + 1, rfl, by omega, fun j hj2 => ?_, rfl⟩, Gc.refl _ _⟩
        rcases Nat.lt_or_ge j i with h5 | h5
        · exact hj j h5
        · obtain rfl : j = i := by omega
          simpa using h3
    · simp only [decide_eq_false_iff_not] at h2
      obtain rfl : i = n := by omega
      exact ⟨_, .inl ⟨rfl, smB_iff.2 ⟨rfl, hj⟩, rfl⟩, Gc.refl _ _⟩
  · rintro e t (⟨rfl, hs, rfl⟩ | ⟨rfl, hs, i, rfl⟩)
    · refine Sat.of_eq (KSm_eq n L n M b false n) ⟨?_⟩
      rw [hs]; exact rfl
    · refine Sat.of_eq (KSn_eq n L n M b false i) ⟨?_⟩
      rw [hs]; exact rfl

/-! ### LineIn -/
theorem lnP_bd : ∀ l : List UInt8, (lnP l).1 ≤ l.length + 1 ∧ (lnP l).2 ≤ l.length + 1 := by
  refine snoc_ind ⟨by decide, by decide⟩ fun l b ih => ?_
  rw [lnP_snoc, List.length_append, List.length_singleton]
  unfold lnS
  split <;> simp only <;> omega
theorem li_sat {s : List UInt8} {a : Int} (hs : s.length ≤ 100000) : Sat Tryd.prog (tLi s a) (· = .agg [iv (lnO s a).1, iv (lnO s a).2]) := by
  constructor
  rw [LLi_eq]; unfold LLi
  simp only [strB_size]
  refine ⟨fun h => ?_, fun h => ?_⟩
  · simp only [Bool.or_eq_true, decide_eq_true_eq] at h
    unfold lnO
    rw [if_neg (by omega)]; exact rfl
  simp only [Bool.or_eq_false_iff, decide_eq_false_iff_not] at h
  obtain ⟨k, rfl⟩ : ∃ k : Nat, a = k := ⟨a.toNat, by omega⟩
  have hv : lnO s (k : Int) = lnP (s.take k) := by unfold lnO; rw [if_pos (by omega), Int.toNat_natCast]
  rw [hv]
  refine code_satS C2_ok D2_ok (n := 200) (n0 := 3) (nx := 3) (roots := []) (keep := [0, 1, 4, 5, 6]) (drop := [2]) (h := .nil) (c := codeC (sub [1] (tLi s k))) (st := codeS (sub [1] (tLi s k))) (k := codeK (sub [1] (tLi s k))) (body := bodyLi) (by kernel_rfl) (by kernel_rfl)
    (fun q t => ∃ i : Nat, q = k - i ∧ i ≤ k ∧ t = invLi s k (lnP (s.take i)).1 (lnP (s.take i)).2 i)
    (fun e t => e = .exit 0 ∧ t = invLi s k (lnP (s.take k)).1 (lnP (s.take k)).2 k)
    ⟨_, _, ⟨0, rfl, by omega, rfl⟩, ?_⟩ ?_ ?_
  · exact entA_sound (roots := []) (keep := [0, 1, 4, 5, 6]) (drop := [2]) (nx := 3) (h := .nil) (by kernel_rfl)
  · rintro q t ⟨i, rfl, hi, rfl⟩
    refine Sat.of_eq (BLi_eq s k _ _ i) ?_
    constructor
    unfold BLi
    simp only [strB_size, strB_at, Int.toNat_natCast, e10]
    have hb := lnP_bd (s.take i)
    rw [List.length_take] at hb
    refine ⟨fun h2 => ?_, fun h2 => ?_⟩
    · simp only [decide_eq_true_eq] at h2
      have hlt : i < s.length := by omega
      have hsn : lnP (s.take (i + 1)) = lnS (lnP (s.take i)) (s.getD i 0) := by rw [take_snoc hlt, lnP_snoc]
      refine ⟨by omega, fun h3 => ?_, fun h3 => ?_⟩
      · rw [w64_of (n := (i : Int) + 1) (by omega) (by omega), w64_of (by omega) (by omega)]
        have : lnP (s.take (i + 1)) = ((lnP (s.take i)).1 + 1, 1) := by rw [hsn]; unfold lnS; rw [if_pos (by simpa using h3)]
        refine ⟨k - (i + 1), _, by omega, ⟨i + 1, rfl, by omega, rfl⟩, ?_⟩
        rw [this]; exact Gc.refl _ _
      · rw [w64_of (n := (i : Int) + 1) (by omega) (by omega), w64_of (by omega) (by omega)]
        have : lnP (s.take (i + 1)) = ((lnP (s.take i)).1, (lnP (s.take i)).2 + 1) := by rw [hsn]; unfold lnS; rw [if_neg (by simpa using h3)]
        refine ⟨k - (i + 1), _, by omega, ⟨i + 1, rfl, by omega, rfl⟩, ?_⟩
        rw [this]; exact Gc.refl _ _
    · simp only [decide_eq_false_iff_not] at h2
      obtain rfl : i = k := by omega
      exact ⟨_, ⟨rfl, rfl⟩, Gc.refl _ _⟩
  · rintro e t ⟨rfl, rfl⟩
    exact Sat.of_eq (KLi_eq s k _ _ k) ⟨rfl⟩

/-! ### The two Joins -/
theorem tkK4 (L : List Tok) (i : Nat) : (tkK L i == 4) = decide ((L.getD i default).k = 4) := by
  unfold tkK
  rw [Bool.eq_iff_iff, beq_iff_eq, decide_eq_true_eq]; omega
theorem tkT_of (L : List Tok) (i : Nat) : tkT L i = strB (L.getD i default).t := rfl
theorem jr_sat {n : Nat} {L : List Tok} (hn : n ≤ L.length) (hl : n ≤ 100000) (hj : (joinL (ktx L n)).length ≤ 100000) : Sat Tryd.prog (tJr n L) (· = strV (joinL (ktx L n))) := by
  constructor
  rw [LJr_eq]; unfold LJr
  refine code_satS C2_ok D2_ok (n := 200) (n0 := 0) (nx := 0) (roots := []) (keep := [0, 2, 3, 4, 5]) (drop := []) (h := .nil) (c := codeC (sub [] (tJr n L))) (st := codeS (sub [] (tJr n L))) (k := codeK (sub [] (tJr n L))) (body := bodyJr) (by kernel_rfl) (by kernel_rfl)
    (fun q t => ∃ i : Nat, q = n - i ∧ i ≤ n ∧ t = invJr n L (joinL (ktx L i)) (ktx L i).isEmpty i)
    (fun e t => e = .exit 0 ∧ t = invJr n L (joinL (ktx L n)) (ktx L n).isEmpty n)
    ⟨_, _, ⟨0, rfl, by omega, rfl⟩, ?_⟩ ?_ ?_
  · exact entA_sound (s' := invJr n L [] true 0) (roots := []) (keep := [0, 2, 3, 4, 5]) (drop := []) (nx := 0) (h := .nil) (by kernel_rfl)
  · rintro q t ⟨i, rfl, hi, rfl⟩
    refine Sat.of_eq (BJr_eq n L _ _ i) ?_
    constructor
    unfold BJr
    simp only [strB_size, strB_append, tkT_of, tkK4, Int.toNat_natCast]
    refine ⟨fun h2 => ?_, fun h2 => ?_⟩
    · simp only [decide_eq_true_eq] at h2
      have hlt : i < L.length := by omega
      have hs := ktx_snoc hlt
      have hm := ktx_join (L := L) (i := i) (n := n) (by omega)
      have hm1 := ktx_join (L := L) (i := i + 1) (n := n) (by omega)
      have wi : w64 ((i : Int) + 1) = ((i + 1 : Nat) : Int) := by rw [w64_of (by omega) (by omega)]; omega
      rw [wi]
      refine ⟨by omega, fun h3 => ?_, fun h3 => ⟨fun h4 => ?_, fun h4 => ?_⟩⟩
      · rw [if_pos (by simpa using h3)] at hs
        refine ⟨n - (i + 1), _, by omega, ⟨i + 1, rfl, by omega, rfl⟩, ?_⟩
        rw [hs]; exact Gc.refl _ _
      · rw [if_neg (by simpa using h3)] at hs
        have hne : ktx L i ≠ [] := by intro e; rw [e] at h4; cases h4
        have hjn : joinL (ktx L (i + 1)) = joinL (ktx L i) ++ [32] ++ (L.getD i default).t := by rw [hs, joinL_snoc, if_neg hne]; simp
        rw [hjn] at hm1
        simp only [List.length_append, List.length_singleton] at hm1 ⊢
        refine ⟨by omega, by omega, by omega, n - (i + 1), _, by omega, ⟨i + 1, rfl, by omega, rfl⟩, ?_⟩
        have he : (ktx L (i + 1)).isEmpty = false := by rw [hs]; simp
        rw [hjn, he]; exact Gc.refl _ _
      · rw [if_neg (by simpa using h3)] at hs
        have hne : ktx L i = [] := by
          cases hk : ktx L i with
          | nil => rfl
          | cons a b => rw [hk] at h4; cases h4
        have hjn : joinL (ktx L (i + 1)) = joinL (ktx L i) ++ (L.getD i default).t := by rw [hs, joinL_snoc, if_pos hne, hne]; simp [joinL]
        rw [hjn] at hm1
        simp only [List.length_append] at hm1 ⊢
        refine ⟨by omega, by omega, n - (i + 1), _, by omega, ⟨i + 1, rfl, by omega, rfl⟩, ?_⟩
        have he : (ktx L (i + 1)).isEmpty = false := by rw [hs]; simp
        rw [hjn, he]; exact Gc.refl _ _
    · simp only [decide_eq_false_iff_not] at h2
      obtain rfl : i = n := by omega
      exact ⟨_, ⟨rfl, rfl⟩, Gc.refl _ _⟩
  · rintro e t ⟨rfl, rfl⟩
    exact Sat.of_eq (KJr_eq n L _ _ n) ⟨rfl⟩
theorem cellsT_tx (T : List (List UInt8)) : cellsT T.length (fun i j => txD T (0 + i) j) = T := by
  unfold cellsT
  refine List.ext_getElem (by simp) fun i h1 h2 => ?_
  simp only [List.getElem_map, List.getElem_range, strAt, txD, txT, Nat.zero_add]
  rw [strB_list]
  simp [h2]
theorem jp_sat {n : Nat} {L : List Tok} (hn : n ≤ L.length) (hl : n ≤ 100000) (hj : (joinL (ktx L n)).length ≤ 100000) : Sat Tryd.prog (tJp n L) (· = strV (joinL (ktx L n))) := by
  constructor
  rw [LJp_eq]; unfold LJp
  refine code_satS C2_ok D2_ok (n := 200) (n0 := 0) (nx := 1) (roots := [(.slot 3, 0)]) (keep := [2, 3, 6, 7, 8]) (drop := []) (h := .nil) (c := codeC (sub [] (tJp n L))) (st := codeS (sub [] (tJp n L))) (k := codeK (sub [] (tJp n L))) (body := bodyJp) (by kernel_rfl) (by kernel_rfl)
    (fun q t => ∃ i : Nat, q = n - i ∧ i ≤ n ∧ t = invJp n L (ktx L i).length (ktx L i) i)
    (fun e t => e = .exit 0 ∧ t = invJp n L (ktx L n).length (ktx L n) n)
    ⟨_, _, ⟨0, rfl, by omega, rfl⟩, ?_⟩ ?_ ?_
  · refine (entA_sound (s' := ⟨[.unk, .unk, .ok (strV []), .ok (.d (.x (.slice none 0 0))), .unk, .unk, .ok (roT n L), .ok (iv n), .ok (iv 0)] ++ List.replicate 14 .unk, [], 0, .nil⟩) (roots := []) (keep := [2, 3, 6, 7, 8]) (drop := []) (nx := 0) (h := .nil) (by kernel_rfl)).trans ?_
    refine gc_sound [] [0] rfl ?_ ?_
    · simp [invJp, leTm, leTV, leSV, leSVs, rn, iv, leD, List.replicate, strV, roT, ktx]
    · simp [invJp, leHp, leBlk, leSVs, leSV, rn, iv, leD, srcOf, hget, ktx]
  · rintro q t ⟨i, rfl, hi, rfl⟩
    refine Sat.of_eq (BJp_eq n L _ _ i) ?_
    constructor
    unfold BJp
    have hk4 : (tkK L i != 4) = !decide ((L.getD i default).k = 4) := by unfold bne; rw [tkK4]
    simp only [tkT_of, hk4, Int.toNat_natCast]
    refine ⟨fun h2 => ?_, fun h2 => ?_⟩
    · simp only [decide_eq_true_eq] at h2
      have hlt : i < L.length := by omega
      have hs := ktx_snoc hlt
      have hkl := ktx_len L i
      have wi : w64 ((i : Int) + 1) = ((i + 1 : Nat) : Int) := by rw [w64_of (by omega) (by omega)]; omega
      rw [wi]
      refine ⟨by omega, fun h3 => ?_, fun h3 => ?_⟩
      · rw [if_neg (by simpa using h3)] at hs
        refine ⟨⟨by omega, by simp, by omega⟩, n - (i + 1), _, by omega, ⟨i + 1, rfl, by omega, rfl⟩, ?_⟩
        have hlen : (ktx L (i + 1)).length = (ktx L i).length + 1 := by rw [hs]; simp
        rw [hlen]
        refine gc_hp rfl rfl ⟨.inr ⟨_, _, rfl, rfl, .row fun a b ha hb => ?_⟩, trivial⟩
        rw [selD_eq]
        obtain rfl : b = 0 := by omega
        rw [hs]
        unfold txD txT
        by_cases h5 : a < (ktx L i).length
        · rw [decide_eq_true h5, Nat.zero_add]
          simp [List.getD_eq_getElem?_getD, List.getElem?_append, h5]
        · obtain rfl : a = (ktx L i).length := by omega
          rw [decide_eq_false h5]
          simp [dsAt, List.getD_eq_getElem?_getD]
      · rw [if_pos (by simpa using h3)] at hs
        refine ⟨n - (i + 1), _, by omega, ⟨i + 1, rfl, by omega, rfl⟩, ?_⟩
        rw [hs]; exact Gc.refl _ _
    · simp only [decide_eq_false_iff_not] at h2
      obtain rfl : i = n := by omega
      exact ⟨_, ⟨rfl, rfl⟩, Gc.refl _ _⟩
  · rintro e t ⟨rfl, rfl⟩
    refine Sat.of_eq (KJp_eq n L _ _ n) ⟨?_⟩
    unfold KJp
    have hc : cellsT (ktx L n).length (KJp_q2 (ktx L n)) = ktx L n := cellsT_tx _
    have hkl := ktx_len L n
    rw [hc]
    exact ⟨by omega, ⟨rfl, by omega, fun i hi => by
      unfold KJp_q1 strAt txD
      simp only [strB_of], hj⟩, rfl⟩
end Go.Proofs.YtnoodoipghgkgaaDoor

namespace Go.Proofs.YtnoodoipghgkgaaDoor
open Go.Sx
set_option maxRecDepth 100000

theorem tok_le {n : Nat} {c : Nat → Nat → DV} (h : TokOK n c) : leSV 0 [] [] (.d (.ro n 3 c)) (roT n (tokR n c)) := ⟨rfl, rfl, fun i j hi hj => h i j hi hj⟩
noncomputable def cSm : Ctr := fun ss => match ss with
  | [.d (.ro n 3 c), .d (.ro m 3 e), .d (.x (.int .i64 b))] => .need (TokOK n c ∧ TokOK m e ∧ n ≤ 1000000 ∧ (-1000000000 ≤ b ∧ b ≤ 1000000000) ∧ ∀ i, tkA (tokR n c) i ≤ 1000000000) (.ret (bv (smB n (tokR n c) m (tokR m e) b)))
  | _ => .fail
theorem cSm_ok : CtrOK Tryd.prog 23 cSm := by
  refine ctrOK_leS C2_ok D2_ok (by kernel_rfl) (by kernel_rfl) fun ss r h => ?_
  unfold cSm at h
  split at h
  · rename_i n c m e b
    obtain ⟨⟨h1, h2, h3, h4, h5⟩, rfl⟩ := h
    have kk := sm_sat (n := n) (m := m) (L := tokR n c) (M := tokR m e) h3 h4 h5
    exact ⟨[roT n (tokR n c), roT m (tokR m e), iv b], 200, .nil, ⟨tok_le h1, tok_le h2, rfl, rfl⟩, kk⟩
  · exact h.elim
noncomputable def cLi2 : Ctr := fun ss => match ss with
  | [.d (.x (.string s)), .d (.x (.int .i64 a))] => .need (s.size ≤ 100000) (.ret (.agg [iv (lnO s.data.toList a).1, iv (lnO s.data.toList a).2]))
  | _ => .fail
theorem cLi2_ok : CtrOK Tryd.prog 19 cLi2 := by
  refine ctrOK_leS C2_ok D2_ok (by kernel_rfl) (by kernel_rfl) fun ss r h => ?_
  unfold cLi2 at h
  split at h
  · rename_i s a
    obtain ⟨h2, rfl⟩ := h
    rw [size_list] at h2
    have kk := li_sat (a := a) h2
    exact ⟨[strV s.data.toList, iv a], 200, .nil, ⟨str_le s, rfl, rfl⟩, kk⟩
  · exact h.elim
noncomputable def cJr : Ctr := fun ss => match ss with
  | [.d (.ro n 3 c)] => .need (TokOK n c ∧ n ≤ 100000 ∧ (joinL (ktx (tokR n c) n)).length ≤ 100000) (.ret (strV (joinL (ktx (tokR n c) n))))
  | _ => .fail
theorem cJr_ok : CtrOK Tryd.prog 21 cJr := by
  refine ctrOK_leS C2_ok D2_ok (by kernel_rfl) (by kernel_rfl) fun ss r h => ?_
  unfold cJr at h
  split at h
  · rename_i n c
    obtain ⟨⟨h1, h2, h3⟩, rfl⟩ := h
    have kk := jr_sat (n := n) (L := tokR n c) (by rw [tokR_len]; omega) h2 h3
    exact ⟨[roT n (tokR n c)], 200, .nil, ⟨tok_le h1, rfl⟩, kk⟩
  · exact h.elim
theorem cJp_ok : CtrOK Tryd.prog 20 cJr := by
  refine ctrOK_leS C2_ok D2_ok (by kernel_rfl) (by kernel_rfl) fun ss r h => ?_
  unfold cJr at h
  split at h
  · rename_i n c
    obtain ⟨⟨h1, h2, h3⟩, rfl⟩ := h
    have kk := jp_sat (n := n) (L := tokR n c) (by rw [tokR_len]; omega) h2 h3
    exact ⟨[roT n (tokR n c)], 200, .nil, ⟨tok_le h1, rfl⟩, kk⟩
  · exact h.elim
end Go.Proofs.YtnoodoipghgkgaaDoor

namespace Go.Proofs.YtnoodoipghgkgaaDoor
open Go.Sx
set_option maxRecDepth 100000

noncomputable def man3 : FuncId → Option Ctr := fun k => match k with
  | 19 => some cLi2
  | 20 => some cJr
  | 21 => some cJr
  | 23 => some cSm
  | k => man2 k
theorem man3_ok (k : Nat) (c : Ctr) (h : man3 k = some c) : CtrOK Tryd.prog k c ∧ goodF Tryd.prog k = true := by
  unfold man3 at h
  split at h
  · cases h; exact ⟨cLi2_ok, by kernel_rfl⟩
  · cases h; exact ⟨cJp_ok, by kernel_rfl⟩
  · cases h; exact ⟨cJr_ok, by kernel_rfl⟩
  · cases h; exact ⟨cSm_ok, by kernel_rfl⟩
  · exact man2_ok _ _ h
noncomputable def inlL : FuncId → Bool := fun k => k == 31 || k == 32 || k == 36 || k == 37
noncomputable def C3 : Ctx := ctxN Tryd.prog man3 inlL 200 .nil 6
theorem C3_ok : CtxOK Tryd.prog C3 := ctxN_ok mixed man3_ok 6
noncomputable def D3 : Dr := fun _ => drawn Tryd.prog C3
theorem D3_ok : DrOK Tryd.prog C3 D3 := drawn_ok C3_ok mixed
noncomputable def T3 (h : Hint) (k : Nat) (args : List SV) : Tree SV := fnT Tryd.prog C3 D3 200 (fnOf Tryd.prog k) (bodyOf Tryd.prog k) args h
noncomputable def lxd (n : Nat) (L : List Tok) (a e : Int) : SV := .agg [roT n L, iv a, iv e]
noncomputable def tLx (s : List UInt8) : Tree SV := T3 .nil 15 [strV s]
noncomputable def tLp (s : List UInt8) : Tree SV := T3 .nil 26 [strV s]
noncomputable def LAl_q1 (a : Int) (e : Int) (b : Int) (f : Int) : Bool :=
  e == f && a == b
noncomputable def LAl_q2 (L : List Tok) (i : Nat) (j : Nat) : DV :=
  match j with
| (0 : Nat) => DV.x (.int .i64 (tkK L i))
| (1 : Nat) => DV.x (.string (tkT L i))
| x => DV.x (.int .i64 (tkA L i))
noncomputable def LAl_q3 (M : List Tok) (i : Nat) (j : Nat) : DV :=
  match j with
| (0 : Nat) => DV.x (.int .i64 (tkK M i))
| (1 : Nat) => DV.x (.string (tkT M i))
| x => DV.x (.int .i64 (tkA M i))
noncomputable def LAl (n : Nat) (L : List Tok) (a e : Int) (m : Nat) (M : List Tok) (b f : Int) : Tree SV :=
  .need
  (LAl_q1 a e b f = true →
   (∀ (i j : Nat), i < n → j < (3 : Nat) → tkC L i j = tkC (tokR n (tkC L)) i j) ∧
   (∀ (i j : Nat), i < m → j < (3 : Nat) → tkC M i j = tkC (tokR m (tkC M)) i j) ∧ n ≤ 1000000 ∧ ((-1000000000 : Int) ≤ (0 : Int) ∧ (0 : Int) ≤ (1000000000 : Int)) ∧ ∀ (i : Nat), tkA (tokR n (tkC L)) i ≤ (1000000000 : Int))
  (.ret (bv (LAl_q1 a e b f && smB n (tokR n (LAl_q2 L)) m (tokR m (LAl_q3 M)) (0 : Int))))

theorem LAl_eq (n : Nat) (L : List Tok) (a e : Int) (m : Nat) (M : List Tok) (b f : Int) : T3 .nil 14 [lxd n L a e, lxd m M b f] = LAl n L a e m M b f := by kernel_rfl

noncomputable def LLx (s : List UInt8) : Tree SV :=
  .ite (decide ((↑(ByteArray.size (strB s)) : Int) > (8000 : Int))) (.ret (SV.agg [SV.d (DV.x (.slice none 0 0)), iv (0 : Int), iv (2 : Int)]))
  (.need (ByteArray.size (strB s) ≤ 100000 ∧ (0 : Int) ≤ (0 : Int) ∧ (0 : Int) ≤ (↑(ByteArray.size (strB s)) : Int))
   (.code (codeC (sub [(1 : Nat), (0 : Nat)] (tLx s))) (codeS (sub [(1 : Nat), (0 : Nat)] (tLx s))) (codeK (sub [(1 : Nat), (0 : Nat)] (tLx s)))))

theorem LLx_eq (s : List UInt8) : tLx s = LLx s := by kernel_rfl

noncomputable def LLp (s : List UInt8) : Tree SV :=
  .ite (decide ((↑(ByteArray.size (strB s)) : Int) > (8000 : Int))) (.ret (SV.tup [SV.d (DV.x (.slice none 0 0)), iv (0 : Int), iv (2 : Int)]))
  (.code (codeC (sub [(1 : Nat)] (tLp s))) (codeS (sub [(1 : Nat)] (tLp s))) (codeK (sub [(1 : Nat)] (tLp s))))

theorem LLp_eq (s : List UInt8) : tLp s = LLp s := by kernel_rfl


end Go.Proofs.YtnoodoipghgkgaaDoor

namespace Go.Proofs.YtnoodoipghgkgaaDoor
open Go.Sx
set_option maxRecDepth 100000

noncomputable def tabC : List SV := (List.range 256).map fun i => .d (.x (.int .u8 (clsN i)))
noncomputable def scC (s : List UInt8) (a : Int) (tk : SV) : Blk := .cells ([strV s, iv a] ++ tabC ++ [tk])
noncomputable def scF : Blk := .cells [.fn (.func 36) [] [], .fn (.func 31) [] [], .fn (.func 32) [] []]
def hD : Hint := .br (.t .nil) (.t .nil)
def hC : Hint := .u (.t .nil)
def hB : Hint := .br (.f hC) hD
def hA : Hint := .br (.u (.t (.br (.t .nil) hB))) .nil
def hZ : Hint := .u (.f .nil)
def hE : Hint := .br (.t .nil) (.f (.u (.t (.u (.t (.br (.t .nil) (.u (.t (.br (.t .nil) (.u (.f hZ)))))))))))
noncomputable def invLp (s : List UInt8) (a : Int) (n : Nat) (L : List Tok) (h : Hint) : AS := ⟨[.ok (strV s), .unk, .ok (.d (.x (.slice none 0 0))), .ok (iv 0), .ok (iv 0), .ok (.ptr 0 0), .ok (.ptr 1 0)] ++ List.replicate 35 .unk, [some (scC s a (.row 3 0 0 n 3)), some scF, none, some (.row n 3 (tkC L))], 4, h⟩
noncomputable def bodyLp : Code := loopN (bodyOf Tryd.prog 26) 0
noncomputable def tBp (s : List UInt8) (a : Int) (n : Nat) (L : List Tok) : Tree (Ex × AS) := cutT 3 [(.cell (.base 0) 258, 3)] [0, 2, 3, 4, 5, 6] [] 4 hA (exec Tryd.prog C3 D3 300 bodyLp (invLp s a n L hA))
noncomputable def BBp (s : List UInt8) (a : Int) (n : Nat) (L : List Tok) : Tree (Ex × AS) :=
  .ite (decide (a < (↑(ByteArray.size (strB s)) : Int)))
  (.need (true = true)
   (.need ((0 : Int) ≤ (0 : Int) ∧ (0 : Int) < (3 : Int))
   (.need (1 ≤ 1)
   (.need ((0 : Int) ≤ a + (0 : Int) ∧ a + (0 : Int) ≤ (4611686018427387904 : Int))
   (.ite (hdC1 (3 : Int) (List.drop (Int.toNat (a + (0 : Int))) (Array.toList (ByteArray.data (strB s)))))
   (.need (true = true)
   (.ret
   (.normal,
   {
   tm :=
   [.ok (SV.d (DV.x (.string (strB s)))), .unk, .ok (SV.d (DV.x (.slice none 0 0))), .ok (iv (0 : Int)), .ok (iv (0 : Int)), .ok (SV.ptr 0 0),
   .ok (SV.ptr 1 0), .unk, .unk, .unk, .unk, .unk, .unk, .unk, .unk, .unk, .unk, .unk, .unk, .unk, .unk, .unk, .unk, .unk, .unk, .unk, .unk, .unk, .unk,
   .unk, .unk, .unk, .unk, .unk, .unk, .unk, .unk, .unk, .unk, .unk, .unk, .unk],
   hp :=
   [some
   (.cells
   ([SV.d (DV.x (.string (strB s))), iv (w64 (a + (1 : Int)))] ++ tabC ++ [SV.row 3 0 0 n 3])),
   some (.cells [SV.fn (Fn.func 36) [] [], SV.fn (Fn.func 31) [] [], SV.fn (Fn.func 32) [] []]), none,
   some
   (.row n 3 fun i j =>
   match j with
   | (0 : Nat) => DV.x (.int .i64 (tkK L i))
   | (1 : Nat) => DV.x (.string (tkT L i))
   | x => DV.x (.int .i64 (tkA L i)))],
   next := 4, hint := .br (.u (.t (.br (.t .nil) (.br (.f (.u (.t .nil))) (.br (.t .nil) (.t .nil)))))) .nil })))
   (.need (True ∧ (0 : Int) ≤ a ∧ Int.toNat a ≤ ByteArray.size (strB s))
   (.ite (!List.isPrefixOf [(47 : UInt8), (47 : UInt8)] (Array.toList (ByteArray.data (ByteArray.extract (strB s) (Int.toNat a) (ByteArray.size (strB s))))))
   (.need (false = false)
   (.need (true = true)
   (.need ((0 : Int) ≤ (1 : Int) ∧ (1 : Int) < (3 : Int))
   (.code (codeC (sub [(0 : Nat), (0 : Nat), (0 : Nat), (0 : Nat), (0 : Nat), (1 : Nat), (0 : Nat), (0 : Nat), (0 : Nat), (0 : Nat), (0 : Nat)] (tBp s a n L)))
   (codeS (sub [(0 : Nat), (0 : Nat), (0 : Nat), (0 : Nat), (0 : Nat), (1 : Nat), (0 : Nat), (0 : Nat), (0 : Nat), (0 : Nat), (0 : Nat)] (tBp s a n L)))
   (codeK (sub [(0 : Nat), (0 : Nat), (0 : Nat), (0 : Nat), (0 : Nat), (1 : Nat), (0 : Nat), (0 : Nat), (0 : Nat), (0 : Nat), (0 : Nat)] (tBp s a n L)))))))
   (.need (True ∧ (0 : Int) ≤ a ∧ Int.toNat a ≤ ByteArray.size (strB s))
   (.ite (decide (Lib.indexByte (Array.toList (ByteArray.data (ByteArray.extract (strB s) (Int.toNat a) (ByteArray.size (strB s))))) (10 : UInt8) < (0 : Int)))
   (.need (true = true)
   (.ret
   (.normal,
   {
   tm :=
   [.ok (SV.d (DV.x (.string (strB s)))), .unk, .ok (SV.d (DV.x (.slice none 0 0))), .ok (iv (0 : Int)), .ok (iv (0 : Int)), .ok (SV.ptr 0 0),
   .ok (SV.ptr 1 0), .unk, .unk, .unk, .unk, .unk, .unk, .unk, .unk, .unk, .unk, .unk, .unk, .unk, .unk, .unk, .unk, .unk, .unk, .unk, .unk, .unk,
   .unk, .unk, .unk, .unk, .unk, .unk, .unk, .unk, .unk, .unk, .unk, .unk, .unk, .unk],
   hp :=
   [some
   (.cells
   ([SV.d (DV.x (.string (strB s))), iv (w64 (a + w64 ((↑(ByteArray.size (strB s)) : Int) - a)))] ++ tabC ++ [SV.row 3 0 0 n 3])),
   some (.cells [SV.fn (Fn.func 36) [] [], SV.fn (Fn.func 31) [] [], SV.fn (Fn.func 32) [] []]), none,
   some
   (.row n 3 fun i j =>
   match j with
   | (0 : Nat) => DV.x (.int .i64 (tkK L i))
   | (1 : Nat) => DV.x (.string (tkT L i))
   | x => DV.x (.int .i64 (tkA L i)))],
   next := 4, hint := .br (.u (.t (.br (.t .nil) (.br (.f (.u (.t .nil))) (.br (.t .nil) (.t .nil)))))) .nil })))
   (.need (true = true)
   (.ret
   (.normal,
   {
   tm :=
   [.ok (SV.d (DV.x (.string (strB s)))), .unk, .ok (SV.d (DV.x (.slice none 0 0))), .ok (iv (0 : Int)), .ok (iv (0 : Int)), .ok (SV.ptr 0 0),
   .ok (SV.ptr 1 0), .unk, .unk, .unk, .unk, .unk, .unk, .unk, .unk, .unk, .unk, .unk, .unk, .unk, .unk, .unk, .unk, .unk, .unk, .unk, .unk, .unk,
   .unk, .unk, .unk, .unk, .unk, .unk, .unk, .unk, .unk, .unk, .unk, .unk, .unk, .unk],
   hp :=
   [some
   (.cells
   ([SV.d (DV.x (.string (strB s))), iv (w64 (a + Lib.indexByte (Array.toList (ByteArray.data (ByteArray.extract (strB s) (Int.toNat a) (ByteArray.size (strB s))))) (10 : UInt8)))] ++ tabC ++ [SV.row 3 0 0 n 3])),
   some (.cells [SV.fn (Fn.func 36) [] [], SV.fn (Fn.func 31) [] [], SV.fn (Fn.func 32) [] []]), none,
   some
   (.row n 3 fun i j =>
   match j with
   | (0 : Nat) => DV.x (.int .i64 (tkK L i))
   | (1 : Nat) => DV.x (.string (tkT L i))
   | x => DV.x (.int .i64 (tkA L i)))],
   next := 4, hint := .br (.u (.t (.br (.t .nil) (.br (.f (.u (.t .nil))) (.br (.t .nil) (.t .nil)))))) .nil }))))))))))))
  (.ret
   (.exit 0,
   {
   tm :=
   [.ok (SV.d (DV.x (.string (strB s)))), .unk, .ok (SV.d (DV.x (.slice none 0 0))), .ok (iv (0 : Int)), .ok (iv (0 : Int)), .ok (SV.ptr 0 0),
   .ok (SV.ptr 1 0), .unk, .unk, .unk, .unk, .unk, .unk, .unk, .unk, .unk, .unk, .unk, .unk, .unk, .unk, .unk, .unk, .unk, .unk, .unk, .unk, .unk, .unk, .unk,
   .unk, .unk, .unk, .unk, .unk, .unk, .unk, .unk, .unk, .unk, .unk, .unk],
   hp :=
   [some
   (.cells
   ([SV.d (DV.x (.string (strB s))), iv a] ++ tabC ++ [SV.row 3 0 0 n 3])),
   some (.cells [SV.fn (Fn.func 36) [] [], SV.fn (Fn.func 31) [] [], SV.fn (Fn.func 32) [] []]), none,
   some
   (.row n 3 fun i j =>
   match j with
   | (0 : Nat) => DV.x (.int .i64 (tkK L i))
   | (1 : Nat) => DV.x (.string (tkT L i))
   | x => DV.x (.int .i64 (tkA L i)))],
   next := 4, hint := .br (.u (.t (.br (.t .nil) (.br (.f (.u (.t .nil))) (.br (.t .nil) (.t .nil)))))) .nil }))

theorem BBp_eq (s : List UInt8) (a : Int) (n : Nat) (L : List Tok) : tBp s a n L = BBp s a n L := by kernel_rfl

noncomputable def invWd (s : List UInt8) (a : Int) (n : Nat) (L : List Tok) (w : Nat) : AS := ⟨[.ok (.ptr 0 0), .unk, .ok (bv false), .ok (iv w)] ++ List.replicate 29 .unk, [some (scC s a (.row 3 0 0 n 3)), some scF, none, some (.row n 3 (tkC L))] ++ List.replicate 12 none, 16, hE⟩
noncomputable def bodyWd : Code := loopN (bodyOf Tryd.prog 31) 0
def pWd : List Nat := [0, 0, 0, 0, 0, 1, 0, 0, 0, 0, 0]
noncomputable def BWd (s : List UInt8) (a : Int) (n : Nat) (L : List Tok) (w : Nat) : Tree (Ex × AS) :=
  .need (2 ≤ 2)
  (.need ((0 : Int) ≤ a + (↑w : Int) ∧ a + (↑w : Int) ≤ (4611686018427387904 : Int))
   (.ite (hdC2 (1 : Int) (2 : Int) (List.drop (Int.toNat (a + (↑w : Int))) (Array.toList (ByteArray.data (strB s)))))
   (.ret
   (.normal,
   {
   tm :=
   [.ok (SV.ptr 0 0), .unk, .ok (bv false), .ok (iv (w64 ((↑w : Int) + (1 : Int)))), .unk, .unk, .unk, .unk, .unk, .unk, .unk, .unk, .unk, .unk, .unk, .unk, .unk, .unk,
   .unk, .unk, .unk, .unk, .unk, .unk, .unk, .unk, .unk, .unk, .unk, .unk, .unk, .unk, .unk],
   hp :=
   [some
   (.cells
   ([SV.d (DV.x (.string (strB s))), iv a] ++ tabC ++ [SV.row 3 0 0 n 3])),
   some (.cells [SV.fn (Fn.func 36) [] [], SV.fn (Fn.func 31) [] [], SV.fn (Fn.func 32) [] []]), none,
   some
   (.row n 3 fun i j =>
   match j with
   | (0 : Nat) => DV.x (.int .i64 (tkK L i))
   | (1 : Nat) => DV.x (.string (tkT L i))
   | x => DV.x (.int .i64 (tkA L i))),
   none, none, none, none, none, none, none, none, none, none, none, none],
   next := 16, hint := .br (.t .nil) (.f (.u (.t (.u (.t (.br (.t .nil) (.u (.t (.br (.t .nil) (.u (.f (.u (.f .nil))))))))))))) }))
   (.ret
   (.exit 0,
   {
   tm :=
   [.ok (SV.ptr 0 0), .unk, .ok (bv false), .ok (iv (↑w : Int)), .unk, .unk, .unk, .unk, .unk, .unk, .unk, .unk, .unk, .unk, .unk, .unk, .unk, .unk, .unk, .unk, .unk,
   .unk, .unk, .unk, .unk, .unk, .unk, .unk, .unk, .unk, .unk, .unk, .unk],
   hp :=
   [some
   (.cells
   ([SV.d (DV.x (.string (strB s))), iv a] ++ tabC ++ [SV.row 3 0 0 n 3])),
   some (.cells [SV.fn (Fn.func 36) [] [], SV.fn (Fn.func 31) [] [], SV.fn (Fn.func 32) [] []]), none,
   some
   (.row n 3 fun i j =>
   match j with
   | (0 : Nat) => DV.x (.int .i64 (tkK L i))
   | (1 : Nat) => DV.x (.string (tkT L i))
   | x => DV.x (.int .i64 (tkA L i))),
   none, none, none, none, none, none, none, none, none, none, none, none],
   next := 16, hint := .br (.t .nil) (.f (.u (.t (.u (.t (.br (.t .nil) (.u (.t (.br (.t .nil) (.u (.f (.u (.f .nil))))))))))))) }))))

theorem BWd_eq (s : List UInt8) (a : Int) (n : Nat) (L : List Tok) (w : Nat) : cutT 16 [] [0, 2, 3] [2, 4, 5, 6, 7, 8, 9, 10, 11, 12, 13, 14, 15] 16 hE (exec Tryd.prog C3 D3 300 bodyWd (invWd s a n L w)) = BWd s a n L w := by kernel_rfl

noncomputable def KWd (s : List UInt8) (a : Int) (n : Nat) (L : List Tok) (w : Nat) : Tree (Ex × AS) :=
  .need (((0 : Int) ≤ w64 (a + (↑w : Int)) ∧ Int.toNat (w64 (a + (↑w : Int))) ≤ ByteArray.size (strB s)) ∧ (0 : Int) ≤ a ∧ Int.toNat a ≤ Int.toNat (w64 (a + (↑w : Int))))
  (.need
   ((List.all (Array.toList (ByteArray.data (ByteArray.extract (strB s) (Int.toNat a) (Int.toNat (w64 (a + (↑w : Int))))))) fun b => isLet b || isDg b) = true ∧
   ByteArray.size (ByteArray.extract (strB s) (Int.toNat a) (Int.toNat (w64 (a + (↑w : Int))))) ≤ 100000)
   (.ite ((↑(wKind (Array.toList (ByteArray.data (ByteArray.extract (strB s) (Int.toNat a) (Int.toNat (w64 (a + (↑w : Int)))))))) : Int) != (0 : Int))
   (.need (((0 : Int) ≤ w64 (a + (↑w : Int)) ∧ Int.toNat (w64 (a + (↑w : Int))) ≤ ByteArray.size (strB s)) ∧ (0 : Int) ≤ a ∧ Int.toNat a ≤ Int.toNat (w64 (a + (↑w : Int))))
   (.need (0 + n ≤ n ∧ 3 ≤ 3 ∧ (n + 1) * 32 ≤ 140737488355328)
   (.need (true = true)
   (.ret
   (.normal,
   {
   tm :=
   [.ok (SV.d (DV.x (.string (strB s)))), .unk, .ok (SV.d (DV.x (.slice none 0 0))), .ok (iv (0 : Int)), .ok (iv (0 : Int)), .ok (SV.ptr 0 0),
   .ok (SV.ptr 1 0), .unk, .unk, .unk, .unk, .unk, .unk, .unk, .unk, .unk, .unk, .unk, .unk, .unk, .unk, .unk, .unk, .unk, .unk, .unk, .unk, .unk, .unk,
   .unk, .unk, .unk, .unk, .unk, .unk, .unk, .unk, .unk, .unk, .unk, .unk, .unk],
   hp :=
   [some
   (.cells
   ([SV.d (DV.x (.string (strB s))), iv (w64 (a + (↑w : Int)))] ++ tabC ++ [SV.row 3 0 0 (n + 1) 3])),
   some (.cells [SV.fn (Fn.func 36) [] [], SV.fn (Fn.func 31) [] [], SV.fn (Fn.func 32) [] []]), none,
   some
   (.row (n + 1) 3 fun a_1 b =>
   selD (decide (a_1 < n)) (tkC L (0 + a_1) b)
   (dsAt
   [DV.x (.int .i64 (↑(wKind (Array.toList (ByteArray.data (ByteArray.extract (strB s) (Int.toNat a) (Int.toNat (w64 (a + (↑w : Int)))))))) : Int)),
   DV.x (.string (ByteArray.extract (strB s) (Int.toNat a) (Int.toNat (w64 (a + (↑w : Int)))))), DV.x (.int .i64 a)]
   (0 + (0 + (a_1 - n)) * 3 + b)))],
   next := 4, hint := .br (.u (.t (.br (.t .nil) (.br (.f (.u (.t .nil))) (.br (.t .nil) (.t .nil)))))) .nil })))))
   (.need (false = false)
   (.need (true = true)
   (.need ((0 : Int) ≤ (2 : Int) ∧ (2 : Int) < (3 : Int))
   (.need (true = true)
   (.need ((0 : Int) ≤ (0 : Int) ∧ (0 : Int) < (2 : Int))
   (.need (0 < 2)
   (.need (True ∧ (0 : Int) ≤ a ∧ Int.toNat a ≤ ByteArray.size (strB s))
   (.ite (List.isPrefixOf [(45 : UInt8), (62 : UInt8)] (Array.toList (ByteArray.data (ByteArray.extract (strB s) (Int.toNat a) (ByteArray.size (strB s))))))
   (.need (((0 : Int) ≤ w64 (a + (2 : Int)) ∧ Int.toNat (w64 (a + (2 : Int))) ≤ ByteArray.size (strB s)) ∧ (0 : Int) ≤ a ∧ Int.toNat a ≤ Int.toNat (w64 (a + (2 : Int))))
   (.need (0 + n ≤ n ∧ 3 ≤ 3 ∧ (n + 1) * 32 ≤ 140737488355328)
   (.need (true = true)
   (.ret
   (.normal,
   {
   tm :=
   [.ok (SV.d (DV.x (.string (strB s)))), .unk, .ok (SV.d (DV.x (.slice none 0 0))), .ok (iv (0 : Int)), .ok (iv (0 : Int)), .ok (SV.ptr 0 0),
   .ok (SV.ptr 1 0), .unk, .unk, .unk, .unk, .unk, .unk, .unk, .unk, .unk, .unk, .unk, .unk, .unk, .unk, .unk, .unk, .unk, .unk, .unk, .unk,
   .unk, .unk, .unk, .unk, .unk, .unk, .unk, .unk, .unk, .unk, .unk, .unk, .unk, .unk, .unk],
   hp :=
   [some
   (.cells
   ([SV.d (DV.x (.string (strB s))), iv (w64 (a + (2 : Int)))] ++ tabC ++ [SV.row 3 0 0 (n + 1) 3])),
   some (.cells [SV.fn (Fn.func 36) [] [], SV.fn (Fn.func 31) [] [], SV.fn (Fn.func 32) [] []]), none,
   some
   (.row (n + 1) 3 fun a_1 b =>
   selD (decide (a_1 < n)) (tkC L (0 + a_1) b)
   (dsAt [DV.x (.int .i64 (3 : Int)), DV.x (.string (ByteArray.extract (strB s) (Int.toNat a) (Int.toNat (w64 (a + (2 : Int)))))), DV.x (.int .i64 a)]
   (0 + (0 + (a_1 - n)) * 3 + b)))],
   next := 4, hint := .br (.u (.t (.br (.t .nil) (.br (.f (.u (.t .nil))) (.br (.t .nil) (.t .nil)))))) .nil })))))
   (.need (true = true)
   (.need ((0 : Int) ≤ (1 : Int) ∧ (1 : Int) < (2 : Int))
   (.need (1 < 2)
   (.need (True ∧ (0 : Int) ≤ a ∧ Int.toNat a ≤ ByteArray.size (strB s))
   (.ite (List.isPrefixOf [(61 : UInt8), (61 : UInt8)] (Array.toList (ByteArray.data (ByteArray.extract (strB s) (Int.toNat a) (ByteArray.size (strB s))))))
   (.need (((0 : Int) ≤ w64 (a + (2 : Int)) ∧ Int.toNat (w64 (a + (2 : Int))) ≤ ByteArray.size (strB s)) ∧ (0 : Int) ≤ a ∧ Int.toNat a ≤ Int.toNat (w64 (a + (2 : Int))))
   (.need (0 + n ≤ n ∧ 3 ≤ 3 ∧ (n + 1) * 32 ≤ 140737488355328)
   (.need (true = true)
   (.ret
   (.normal,
   {
   tm :=
   [.ok (SV.d (DV.x (.string (strB s)))), .unk, .ok (SV.d (DV.x (.slice none 0 0))), .ok (iv (0 : Int)), .ok (iv (0 : Int)),
   .ok (SV.ptr 0 0), .ok (SV.ptr 1 0), .unk, .unk, .unk, .unk, .unk, .unk, .unk, .unk, .unk, .unk, .unk, .unk, .unk, .unk,
   .unk, .unk, .unk, .unk, .unk, .unk, .unk, .unk, .unk, .unk, .unk, .unk, .unk, .unk, .unk, .unk, .unk, .unk, .unk, .unk, .unk],
   hp :=
   [some
   (.cells
   ([SV.d (DV.x (.string (strB s))), iv (w64 (a + (2 : Int)))] ++ tabC ++ [SV.row 3 0 0 (n + 1) 3])),
   some (.cells [SV.fn (Fn.func 36) [] [], SV.fn (Fn.func 31) [] [], SV.fn (Fn.func 32) [] []]), none,
   some
   (.row (n + 1) 3 fun a_1 b =>
   selD (decide (a_1 < n)) (tkC L (0 + a_1) b)
   (dsAt [DV.x (.int .i64 (3 : Int)), DV.x (.string (ByteArray.extract (strB s) (Int.toNat a) (Int.toNat (w64 (a + (2 : Int)))))), DV.x (.int .i64 a)]
   (0 + (0 + (a_1 - n)) * 3 + b)))],
   next := 4, hint := .br (.u (.t (.br (.t .nil) (.br (.f (.u (.t .nil))) (.br (.t .nil) (.t .nil)))))) .nil })))))
   (.need (false = false)
   (.need (1 ≤ 1)
   (.need ((0 : Int) ≤ a + (0 : Int) ∧ a + (0 : Int) ≤ (4611686018427387904 : Int))
   (.ite (hdC1 (4 : Int) (List.drop (Int.toNat (a + (0 : Int))) (Array.toList (ByteArray.data (strB s)))))
   (.need (((0 : Int) ≤ w64 (a + (1 : Int)) ∧ Int.toNat (w64 (a + (1 : Int))) ≤ ByteArray.size (strB s)) ∧ (0 : Int) ≤ a ∧ Int.toNat a ≤ Int.toNat (w64 (a + (1 : Int))))
   (.need (0 + n ≤ n ∧ 3 ≤ 3 ∧ (n + 1) * 32 ≤ 140737488355328)
   (.ite true
   (.ret
   (.normal,
   {
   tm :=
   [.ok (SV.d (DV.x (.string (strB s)))), .unk, .ok (SV.d (DV.x (.slice none 0 0))), .ok (iv (0 : Int)), .ok (iv (0 : Int)),
   .ok (SV.ptr 0 0), .ok (SV.ptr 1 0), .unk, .unk, .unk, .unk, .unk, .unk, .unk, .unk, .unk, .unk, .unk, .unk, .unk,
   .unk, .unk, .unk, .unk, .unk, .unk, .unk, .unk, .unk, .unk, .unk, .unk, .unk, .unk, .unk, .unk, .unk, .unk, .unk, .unk, .unk, .unk],
   hp :=
   [some
   (.cells
   ([SV.d (DV.x (.string (strB s))), iv (w64 (a + (1 : Int)))] ++ tabC ++ [SV.row 3 0 0 (n + 1) 3])),
   some (.cells [SV.fn (Fn.func 36) [] [], SV.fn (Fn.func 31) [] [], SV.fn (Fn.func 32) [] []]), none,
   some
   (.row (n + 1) 3 fun a_1 b =>
   selD (decide (a_1 < n)) (tkC L (0 + a_1) b)
   (dsAt [DV.x (.int .i64 (3 : Int)), DV.x (.string (ByteArray.extract (strB s) (Int.toNat a) (Int.toNat (w64 (a + (1 : Int)))))), DV.x (.int .i64 a)]
   (0 + (0 + (a_1 - n)) * 3 + b)))],
   next := 4, hint := .br (.u (.t (.br (.t .nil) (.br (.f (.u (.t .nil))) (.br (.t .nil) (.t .nil)))))) .nil }))
   (.need (false = false)
   (.ret
   (.ret,
   {
   tm :=
   [.ok (SV.d (DV.x (.string (strB s)))), .unk, .ok (SV.d (DV.x (.slice none 0 0))), .ok (iv (w64 (a + (1 : Int)))), .ok (iv (5 : Int)),
   .ok (SV.ptr 0 0), .ok (SV.ptr 1 0), .unk, .unk, .unk, .unk, .unk, .unk, .unk, .unk, .unk, .unk, .unk, .unk,
   .unk, .unk, .unk, .unk, .unk, .unk, .unk, .unk, .unk, .unk, .unk, .unk, .unk, .unk, .unk, .unk, .unk, .unk, .unk, .unk, .unk, .unk,
   .unk],
   hp :=
   [some
   (.cells
   ([SV.d (DV.x (.string (strB s))), iv (w64 (a + (1 : Int)))] ++ tabC ++ [SV.row 3 0 0 (n + 1) 3])),
   some (.cells [SV.fn (Fn.func 36) [] [], SV.fn (Fn.func 31) [] [], SV.fn (Fn.func 32) [] []]), none,
   some
   (.row (n + 1) 3 fun a_1 b =>
   selD (decide (a_1 < n)) (tkC L (0 + a_1) b)
   (dsAt [DV.x (.int .i64 (3 : Int)), DV.x (.string (ByteArray.extract (strB s) (Int.toNat a) (Int.toNat (w64 (a + (1 : Int)))))), DV.x (.int .i64 a)]
   (0 + (0 + (a_1 - n)) * 3 + b)))],
   next := 4,
   hint := .br (.u (.t (.br (.t .nil) (.br (.f (.u (.t .nil))) (.br (.t .nil) (.t .nil)))))) .nil }))))))
   (.ite false
   (.ret
   (.normal,
   {
   tm :=
   [.ok (SV.d (DV.x (.string (strB s)))), .unk, .ok (SV.d (DV.x (.slice none 0 0))), .ok (iv (0 : Int)), .ok (iv (0 : Int)),
   .ok (SV.ptr 0 0), .ok (SV.ptr 1 0), .unk, .unk, .unk, .unk, .unk, .unk, .unk, .unk, .unk, .unk, .unk, .unk, .unk,
   .unk, .unk, .unk, .unk, .unk, .unk, .unk, .unk, .unk, .unk, .unk, .unk, .unk, .unk, .unk, .unk, .unk, .unk, .unk, .unk, .unk, .unk],
   hp :=
   [some
   (.cells
   ([SV.d (DV.x (.string (strB s))), iv a] ++ tabC ++ [SV.row 3 0 0 n 3])),
   some (.cells [SV.fn (Fn.func 36) [] [], SV.fn (Fn.func 31) [] [], SV.fn (Fn.func 32) [] []]), none,
   some
   (.row n 3 fun i j =>
   match j with
   | (0 : Nat) => DV.x (.int .i64 (tkK L i))
   | (1 : Nat) => DV.x (.string (tkT L i))
   | x => DV.x (.int .i64 (tkA L i)))],
   next := 4, hint := .br (.u (.t (.br (.t .nil) (.br (.f (.u (.t .nil))) (.br (.t .nil) (.t .nil)))))) .nil }))
   (.need (false = false)
   (.ret
   (.ret,
   {
   tm :=
   [.ok (SV.d (DV.x (.string (strB s)))), .unk, .ok (SV.d (DV.x (.slice none 0 0))), .ok (iv a), .ok (iv (5 : Int)),
   .ok (SV.ptr 0 0), .ok (SV.ptr 1 0), .unk, .unk, .unk, .unk, .unk, .unk, .unk, .unk, .unk, .unk, .unk, .unk, .unk,
   .unk, .unk, .unk, .unk, .unk, .unk, .unk, .unk, .unk, .unk, .unk, .unk, .unk, .unk, .unk, .unk, .unk, .unk, .unk, .unk, .unk, .unk],
   hp :=
   [some
   (.cells
   ([SV.d (DV.x (.string (strB s))), iv a] ++ tabC ++ [SV.row 3 0 0 n 3])),
   some (.cells [SV.fn (Fn.func 36) [] [], SV.fn (Fn.func 31) [] [], SV.fn (Fn.func 32) [] []]), none,
   some
   (.row n 3 fun i j =>
   match j with
   | (0 : Nat) => DV.x (.int .i64 (tkK L i))
   | (1 : Nat) => DV.x (.string (tkT L i))
   | x => DV.x (.int .i64 (tkA L i)))],
   next := 4,
   hint := .br (.u (.t (.br (.t .nil) (.br (.f (.u (.t .nil))) (.br (.t .nil) (.t .nil)))))) .nil })))))))))))))))))))))))

theorem KWd_eq (s : List UInt8) (a : Int) (n : Nat) (L : List Tok) (w : Nat) : codeK (sub pWd (tBp s a n L)) (.exit 0) (invWd s a n L w) = KWd s a n L w := by kernel_rfl

noncomputable def KLp_q1 (s : List UInt8) (a : Int) (n : Nat) (L : List Tok) (i : Nat) (j : Nat) : DV :=
  selD (decide (0 + i < n)) (tkC L (0 + (0 + i)) j)
  (dsAt [DV.x (.int .i64 (4 : Int)), DV.x (.string (ByteArray.extract (strB s) (Int.toNat a) (Int.toNat (w64 (a + (0 : Int)))))), DV.x (.int .i64 a)]
   (0 + (0 + (0 + i - n)) * 3 + j))
noncomputable def KLp (s : List UInt8) (a : Int) (n : Nat) (L : List Tok) : Tree SV :=
  .need (((0 : Int) ≤ w64 (a + (0 : Int)) ∧ Int.toNat (w64 (a + (0 : Int))) ≤ ByteArray.size (strB s)) ∧ (0 : Int) ≤ a ∧ Int.toNat a ≤ Int.toNat (w64 (a + (0 : Int))))
  (.need (0 + n ≤ n ∧ 3 ≤ 3 ∧ (n + 1) * 32 ≤ 140737488355328)
   (.need (0 + (n + 1) ≤ n + 1) (.ret (SV.tup [SV.d (DV.ro (n + 1) 3 (KLp_q1 s a n L)), iv (0 : Int), iv (0 : Int)]))))

theorem KLp_eq (s : List UInt8) (a : Int) (n : Nat) (L : List Tok) : codeK (sub [1] (tLp s)) (.exit 0) (invLp s a n L hA) = KLp s a n L := by kernel_rfl

noncomputable def invLr (s : List UInt8) (a : Int) (n : Nat) (L : List Tok) : AS := ⟨[.ok (strV s), .unk, .ok (.d (.x (.slice none 0 0))), .ok (iv a), .ok (iv 5), .ok (.ptr 0 0), .ok (.ptr 1 0)] ++ List.replicate 35 .unk, [some (scC s a (.row 3 0 0 n 3)), some scF, none, some (.row n 3 (tkC L))], 4, hA⟩
noncomputable def KLr (s : List UInt8) (a : Int) (n : Nat) (L : List Tok) : Tree SV :=
  .ret (SV.tup [SV.d (DV.x (.slice none 0 0)), iv a, iv (5 : Int)])

theorem KLr_eq (s : List UInt8) (a : Int) (n : Nat) (L : List Tok) : codeK (sub [1] (tLp s)) .ret (invLr s a n L) = KLr s a n L := by kernel_rfl


end Go.Proofs.YtnoodoipghgkgaaDoor

/- Plain laws: what Lex hands back. -/
namespace Go.Sx
theorem prefix2 (x y : UInt8) : ∀ l : List UInt8, List.isPrefixOf [x, y] l = pre2 x y l
  | [] => rfl
  | [a] => by simp [List.isPrefixOf, pre2]
  | a :: b :: l => by
    simp only [List.isPrefixOf, pre2, Bool.and_true]
    rw [Bool.beq_comm (a := x), Bool.beq_comm (a := y)]
theorem ib_spec : ∀ l : List UInt8, (Lib.indexByte l 10 = -1 ∧ (l.takeWhile notNl).length = l.length) ∨ Lib.indexByte l 10 = (l.takeWhile notNl).length
  | [] => .inl ⟨rfl, rfl⟩
  | b :: l => by
    unfold Lib.indexByte
    by_cases h : b = 10
    · subst h
      exact .inr rfl
    · have h1 : (b == 10) = false := beq_eq_false_iff_ne.2 h
      have h2 : notNl b = true := by unfold notNl; rw [bne, h1]; rfl
      rw [h1]
      simp only [List.takeWhile, h2, List.length_cons]
      rcases ib_spec l with ⟨e, hl⟩ | e
      · rw [e]; exact .inl ⟨rfl, by omega⟩
      · right
        rw [e, if_neg (by simp), if_neg (by rw [beq_iff_eq]; omega)]; omega
/-- What Lex hands back. -/
def lxO (s : List UInt8) : List Tok := if 8000 < s.length then [] else match (lexL s 0).2 with | none => (lexL s 0).1 | some _ => []
def lxA (s : List UInt8) : Nat := if 8000 < s.length then 0 else ((lexL s 0).2).getD 0
def lxE (s : List UInt8) : Int := if 8000 < s.length then 2 else match (lexL s 0).2 with | none => 0 | some _ => 5
theorem tok_snoc {L : List Tok} {n : Nat} (hn : n = L.length) {c : Nat → Nat → DV} {k' a' : Int} {t' : ByteArray} (x : Tok) (hk : k' = (x.k : Nat)) (ht : t' = strB x.t) (ha : a' = (x.a : Nat))
    (hc : ∀ i j, c i j = selD (decide (i < n)) (tkC L (0 + i) j) (dsAt [.x (.int .i64 k'), .x (.string t'), .x (.int .i64 a')] (0 + (0 + (i - n)) * 3 + j))) : ∀ i j, i < n + 1 → j < 3 → c i j = tkC (L ++ [x]) i j := by
  intro i j hi hj
  rw [hc, selD_eq]
  subst hn
  by_cases h : i < L.length
  · rw [decide_eq_true h, Nat.zero_add]
    have : (L ++ [x]).getD i default = L.getD i default := by simp [List.getD_eq_getElem?_getD, List.getElem?_append, h]
    simp only [cond_true]
    unfold tkC tkK tkT tkA
    rw [this]
  · obtain rfl : i = L.length := by omega
    rw [decide_eq_false h]
    have : (L ++ [x]).getD L.length default = x := by simp [List.getD_eq_getElem?_getD]
    unfold tkC tkK tkT tkA
    rw [this]
    match j, hj with
    | 0, _ => simp [dsAt, hk]
    | 1, _ => simp [dsAt, ht]
    | 2, _ => simp [dsAt, ha]
end Go.Sx

namespace Go.Proofs.YtnoodoipghgkgaaDoor
open Go.Sx
set_option maxRecDepth 100000

theorem leSVs_map {n0 : Nat} {ρ : List (Nat × Nat)} {nils : List Nat} {xs ys : List SV} (g : Nat → Value) (h : leSVs n0 ρ nils xs ys) : ∀ l : List Nat, leSVs n0 ρ nils (l.map (fun i => SV.d (.x (g i))) ++ xs) (l.map (fun i => SV.d (.x (g i))) ++ ys)
  | [] => h
  | i :: l => by
    simp only [List.map_cons, List.cons_append, leSVs, leSV, leD]
    exact ⟨trivial, leSVs_map g h l⟩
theorem lexSplit {s : List UInt8} {a : Nat} {L : List Tok} (h : lexL s 0 = (L ++ (lexL (s.drop a) a).1, (lexL (s.drop a) a).2)) {n : Nat} (h0 : s.drop a ≠ []) (hs : skipN (s.drop a) = n) (hn : 0 < n) :
    lexL s 0 = (L ++ (lexL (s.drop (a + n)) (a + n)).1, (lexL (s.drop (a + n)) (a + n)).2) := by
  rw [h, lexL_skip _ h0 (by omega), hs, List.drop_drop]
theorem lexTok {s : List UInt8} {a : Nat} {L : List Tok} (h : lexL s 0 = (L ++ (lexL (s.drop a) a).1, (lexL (s.drop a) a).2)) {n : Nat} (h0 : s.drop a ≠ []) (hs : skipN (s.drop a) = 0) (ht : tokN (s.drop a) = n) (hn : 0 < n) :
    lexL s 0 = ((L ++ [⟨tokK (s.drop a), (s.drop a).take n, a⟩]) ++ (lexL (s.drop (a + n)) (a + n)).1, (lexL (s.drop (a + n)) (a + n)).2) := by
  rw [h, lexL_tok _ h0 hs (by omega), ht, List.drop_drop]
  simp
theorem ext_at {s : List UInt8} {a w : Nat} (haw : (a : Int) + w ≤ 9223372036854775807) (h0 : 0 ≤ (a : Int) + w) : ByteArray.extract (strB s) (Int.toNat (a : Int)) (Int.toNat (w64 ((a : Int) + (w : Int)))) = strB ((s.drop a).take w) := by
  rw [w64_of (by omega) haw, Int.toNat_natCast, show (((a : Int) + (w : Int))).toNat = a + w by omega, strB_extract, List.drop_take]
  congr 2; omega
theorem tw_wd {s : List UInt8} : ∀ b ∈ s.takeWhile isWd, isWd b = true := by
  induction s with
  | nil => intro b hb; cases hb
  | cons x s ih =>
    intro b hb
    simp only [List.takeWhile] at hb
    split at hb
    · rename_i h
      rcases List.mem_cons.1 hb with rfl | hb
      · exact h
      · exact ih b hb
    · cases hb
theorem tw_all (l : List UInt8) : (l.takeWhile isWd).all isWd = true := List.all_eq_true.2 fun b hb => tw_wd b hb
theorem tw_pre (p : UInt8 → Bool) : ∀ l : List UInt8, l.take (l.takeWhile p).length = l.takeWhile p
  | [] => rfl
  | b :: l => by
    simp only [List.takeWhile]
    split
    · rw [List.length_cons, List.take_succ_cons, tw_pre p l]
    · rfl
theorem lp_sat {s : List UInt8} (hs : s.length ≤ 100000) : Sat Tryd.prog (tLp s) (fun r => leSV 0 [] [] r (.tup [.d (.ro (lxO s).length 3 (tkC (lxO s))), iv (lxA s), iv (lxE s)])) := by
  constructor
  rw [LLp_eq]; unfold LLp
  simp only [strB_size]
  refine ⟨fun h => ?_, fun h => ?_⟩
  · simp only [decide_eq_true_eq] at h
    have h8 : 8000 < s.length := by omega
    have e1 : lxO s = [] := by unfold lxO; rw [if_pos h8]
    have e2 : lxA s = 0 := by unfold lxA; rw [if_pos h8]
    have e3 : lxE s = 2 := by unfold lxE; rw [if_pos h8]
    rw [e1, e2, e3]
    exact ⟨⟨rfl, rfl⟩, rfl, rfl, rfl⟩
  simp only [decide_eq_false_iff_not] at h
  have h8 : ¬ 8000 < s.length := by omega
  refine code_satS C3_ok D3_ok (n := 300) (n0 := 3) (nx := 4) (roots := [(.cell (.base 0) 258, 3)]) (keep := [0, 2, 3, 4, 5, 6]) (drop := []) (h := hA) (c := codeC (sub [1] (tLp s))) (st := codeS (sub [1] (tLp s))) (k := codeK (sub [1] (tLp s))) (body := bodyLp) (by kernel_rfl) (by kernel_rfl)
    (fun q t => ∃ (a : Nat) (L : List Tok), q = s.length - a ∧ a ≤ s.length ∧ L.length ≤ a ∧ lexL s 0 = (L ++ (lexL (s.drop a) a).1, (lexL (s.drop a) a).2) ∧ t = invLp s a L.length L hA)
    (fun e t => (e = .exit 0 ∧ ∃ L : List Tok, L.length ≤ s.length ∧ lexL s 0 = (L ++ [⟨4, [], s.length⟩], none) ∧ t = invLp s (s.length : Nat) L.length L hA) ∨ (e = .ret ∧ ∃ (a : Nat) (L : List Tok), (lexL s 0).2 = some a ∧ t = invLr s a L.length L))
    ⟨_, _, ⟨0, [], rfl, by omega, by simp, rfl, rfl⟩, ?_⟩ ?_ ?_
  · refine (entA_sound (s' := ⟨[.ok (strV s), .unk, .ok (.d (.x (.slice none 0 0))), .ok (iv 0), .ok (iv 0), .ok (.ptr 0 0), .ok (.ptr 1 0)] ++ List.replicate 35 .unk, [some (scC s 0 (.d (.x (.slice none 0 0)))), some scF, none, none], 4, hA⟩) (roots := [(.cell (.base 0) 258, 3)]) (keep := [0, 2, 3, 4, 5, 6]) (drop := [2]) (nx := 4) (h := hA) (by kernel_rfl)).trans ?_
    refine gc_sound [] [3] rfl ?_ ?_
    · simp [invLp, leTm, leTV, leSV, leSVs, rn, iv, leD, List.replicate, strV]
    · have hb : leBlk 3 [] [3] (scC s 0 (.d (.x (.slice none 0 0)))) (scC s 0 (.row 3 0 0 0 3)) := by
        unfold scC
        simp only [leBlk, List.cons_append, List.nil_append, leSVs, leSV, leD, strV, iv]
        refine ⟨trivial, trivial, ?_⟩
        unfold tabC
        exact leSVs_map _ (by simp [leSVs, leSV]) _
      simp only [invLp, leHp, srcOf, hget]
      refine ⟨hb, ?_, ?_⟩
      · simp [scF, leBlk, leSVs, leSV]
      · simp
  · rintro q t ⟨a, L, rfl, ha, hLa, hlx, rfl⟩
    refine Sat.of_eq (BBp_eq s a L.length L) ?_
    constructor
    unfold BBp
    have a0 : (a : Int) + 0 = a := Int.add_zero _
    have hex : ByteArray.extract (strB s) a s.length = strB (s.drop a) := by rw [strB_extract, List.take_length]
    simp only [strB_size, a0, Int.toNat_natCast, strB_list, hex, hdC1_sp, prefix2]
    refine ⟨fun hc => ?_, fun hc => ?_⟩
    · have hlt : a < s.length := by simp only [decide_eq_true_eq] at hc; omega
      have hne : s.drop a ≠ [] := by
        intro e
        have := congrArg List.length e
        rw [List.length_drop] at this
        simp at this; omega
      refine ⟨trivial, by omega, by omega, by omega, fun hsp => ?_, fun hsp => ⟨⟨trivial, by omega, by omega⟩, fun hcm => ?_, fun hcm => ⟨⟨trivial, by omega, by omega⟩, fun hix => ?_, fun hix => ?_⟩⟩⟩
      · -- a byte of white space
        have hsk : skipN (s.drop a) = 1 := by unfold skipN; rw [if_pos hsp]
        rw [w64_of (n := (a : Int) + 1) (by omega) (by omega)]
        exact ⟨trivial, s.length - (a + 1), _, by omega, ⟨a + 1, L, rfl, by omega, by omega, lexSplit hlx hne hsk (by omega), rfl⟩, Gc.refl _ _⟩
      · -- no white space: a word, a sign, or an error
        have hcm' : cmt (s.drop a) = false := by simpa [cmt] using hcm
        have hsk : skipN (s.drop a) = 0 := by unfold skipN; rw [if_neg (by rw [hsp]; simp), if_neg (by rw [hcm']; simp)]
        refine ⟨trivial, trivial, by omega, ?_⟩
        have hWle := tw_le isWd (s.drop a)
        rw [List.length_drop] at hWle
        refine code_satS C3_ok D3_ok (n := 300) (n0 := 16) (nx := 16) (roots := []) (keep := [0, 2, 3]) (drop := [2, 4, 5, 6, 7, 8, 9, 10, 11, 12, 13, 14, 15]) (h := hE) (body := bodyWd) (by kernel_rfl) (by kernel_rfl)
          (fun q t => ∃ w : Nat, q = s.length - (a + w) ∧ a + w ≤ s.length ∧ (∀ i, i < w → isWd ((s.drop a).getD i 0) = true) ∧ t = invWd s a L.length L w)
          (fun e t => e = .exit 0 ∧ t = invWd s a L.length L ((s.drop a).takeWhile isWd).length)
          ⟨_, _, ⟨0, rfl, by omega, fun i hi => by omega, rfl⟩, ?_⟩ ?_ ?_
        · exact entA_sound (roots := []) (keep := [0, 2, 3]) (drop := [2, 4, 5, 6, 7, 8, 9, 10, 11, 12, 13, 14, 15]) (nx := 16) (h := hE) (by kernel_rfl)
        · rintro q t ⟨w, rfl, hw, hall, rfl⟩
          refine Sat.of_eq (BWd_eq s a L.length L w) ?_
          constructor
          unfold BWd
          have eaw : ((a : Int) + (w : Int)).toNat = a + w := by omega
          rw [hdC2_wd, strB_list, eaw]
          refine ⟨by omega, by omega, fun h2 => ?_, fun h2 => ?_⟩
          · have hl2 : a + w < s.length := by
              rcases Nat.lt_or_ge (a + w) s.length with h3 | h3
              · exact h3
              · rw [hdo h3] at h2; cases h2
            rw [w64_of (n := (w : Int) + 1) (by omega) (by omega)]
            refine ⟨s.length - (a + (w + 1)), _, by omega, ⟨w + 1, rfl, by omega, fun i hi => ?_, rfl⟩, Gc.refl _ _⟩
            rcases Nat.lt_or_ge i w with h5 | h5
            · exact hall i h5
            · obtain rfl : i = w := by omega
              rw [getD_drop]
              rw [hdd hl2] at h2; exact h2
          · have e : (s.drop a).takeWhile isWd = (s.drop a).take w := by
              refine tw_at (by rw [List.length_drop]; omega) hall fun h5 => ?_
              rw [List.length_drop] at h5
              rw [getD_drop]
              rw [hdd (by omega)] at h2; exact h2
            have el : ((s.drop a).takeWhile isWd).length = w := by rw [e, List.length_take, List.length_drop]; omega
            refine ⟨_, ⟨rfl, ?_⟩, Gc.refl _ _⟩
            rw [el]; rfl
        · rintro e t ⟨rfl, rfl⟩
          obtain ⟨W, hW⟩ : ∃ W, (s.drop a).takeWhile isWd = W := ⟨_, rfl⟩
          rw [hW] at hWle ⊢
          have hWp : (s.drop a).take W.length = W := by rw [← hW]; exact tw_pre _ _
          have hWa : W.all isWd = true := by rw [← hW]; exact tw_all _
          refine Sat.of_eq (KWd_eq s a L.length L W.length) ⟨?_⟩
          unfold KWd
          have ex : ByteArray.extract (strB s) (Int.toNat (a : Int)) (Int.toNat (w64 ((a : Int) + (W.length : Int)))) = strB W := by rw [ext_at (by omega) (by omega), hWp]
          have ex2 : ByteArray.extract (strB s) (Int.toNat (a : Int)) (Int.toNat (w64 ((a : Int) + 2))) = strB ((s.drop a).take 2) := ext_at (w := 2) (by omega) (by omega)
          have ex1 : ByteArray.extract (strB s) (Int.toNat (a : Int)) (Int.toNat (w64 ((a : Int) + 1))) = strB ((s.drop a).take 1) := ext_at (w := 1) (by omega) (by omega)
          have wW : w64 ((a : Int) + (W.length : Int)) = ((a + W.length : Nat) : Int) := by rw [w64_of (by omega) (by omega)]; omega
          have w2 : w64 ((a : Int) + 2) = ((a + 2 : Nat) : Int) := by rw [w64_of (by omega) (by omega)]; omega
          have w1 : w64 ((a : Int) + 1) = ((a + 1 : Nat) : Int) := by rw [w64_of (by omega) (by omega)]; omega
          simp only [ex, ex1, ex2]
          simp only [wW, w1, w2, strB_size, a0, Int.toNat_natCast, strB_list, hex, hdC1_sg, prefix2]
          have hall2 : (List.all W fun b => isLet b || isDg b) = true := hWa
          have hlen2 : ∀ x y, pre2 x y (s.drop a) = true → a + 2 ≤ s.length := by
            intro x y hp
            rw [pre2d, Bool.and_eq_true, decide_eq_true_eq] at hp; omega
          have key : ∀ (n : Nat) (x : Tok) (hn : 0 < n) (hle : a + n ≤ s.length) (htn : tokN (s.drop a) = n) (hx : x = ⟨tokK (s.drop a), (s.drop a).take n, a⟩),
              lexL s 0 = ((L ++ [x]) ++ (lexL (s.drop (a + n)) (a + n)).1, (lexL (s.drop (a + n)) (a + n)).2) := by
            intro n x hn hle htn hx
            subst hx
            exact lexTok hlx hne hsk htn hn
          have hls : ∀ x : Tok, (L ++ [x]).length = L.length + 1 := fun x => by simp
          have htk : tokN (s.drop a) = if wKind W = 0 then sgLen (s.drop a) else W.length := by unfold tokN; rw [hW]
          have htK : tokK (s.drop a) = if wKind W = 0 then 3 else wKind W := by unfold tokK; rw [hW]
          refine ⟨⟨⟨by omega, by omega⟩, by omega, by omega⟩, ⟨hall2, by omega⟩, fun hk => ⟨⟨⟨by omega, by omega⟩, by omega, by omega⟩, ⟨by omega, by omega, by omega⟩, trivial, ?_⟩,
            fun hk => ⟨trivial, trivial, by omega, trivial, by omega, by omega, ⟨trivial, by omega, by omega⟩, fun hp => ?_, fun hp => ⟨trivial, by omega, by omega, ⟨trivial, by omega, by omega⟩, fun hp2 => ?_, fun hp2 => ⟨trivial, by omega, by omega, fun hg => ?_, fun hg => ?_⟩⟩⟩⟩
          · have hk0 : wKind W ≠ 0 := by rw [bne_iff_ne] at hk; omega
            rw [if_neg hk0] at htk htK
            have hWn : 0 < W.length := by
              refine List.length_pos_iff.2 fun e => hk0 ?_
              rw [e]; rfl
            have hx := key W.length ⟨wKind W, W, a⟩ hWn (by omega) htk (by rw [htK, hWp])
            refine ⟨s.length - (a + W.length), _, by omega, ⟨a + W.length, L ++ [⟨wKind W, W, a⟩], rfl, by omega, by rw [hls]; omega, hx, rfl⟩, ?_⟩
            rw [hls]
            refine gc_hp rfl rfl ⟨.inr ⟨_, _, rfl, rfl, .refl _⟩, .inr ⟨_, _, rfl, rfl, .refl _⟩, .inl rfl, .inr ⟨_, _, rfl, rfl, .row ?_⟩, trivial⟩
            exact tok_snoc rfl ⟨wKind W, W, a⟩ rfl rfl rfl fun i j => rfl
          all_goals have hk0 : wKind W = 0 := by (rw [bne_eq_false_iff_eq] at hk; omega)
          all_goals rw [if_pos hk0] at htk htK
          · have h2 := hlen2 _ _ hp
            have hsg : sgLen (s.drop a) = 2 := by unfold sgLen; rw [if_pos (by rw [hp]; rfl)]
            rw [hsg] at htk
            have hx := key 2 ⟨3, (s.drop a).take 2, a⟩ (by omega) h2 htk (by rw [htK])
            refine ⟨⟨⟨by omega, by omega⟩, by omega, by omega⟩, ⟨by omega, by omega, by omega⟩, trivial, s.length - (a + 2), _, by omega, ⟨a + 2, L ++ [⟨3, (s.drop a).take 2, a⟩], rfl, by omega, by rw [hls]; omega, hx, rfl⟩, ?_⟩
            rw [hls]
            refine gc_hp rfl rfl ⟨.inr ⟨_, _, rfl, rfl, .refl _⟩, .inr ⟨_, _, rfl, rfl, .refl _⟩, .inl rfl, .inr ⟨_, _, rfl, rfl, .row ?_⟩, trivial⟩
            exact tok_snoc rfl ⟨3, (s.drop a).take 2, a⟩ rfl rfl rfl fun i j => rfl
          · have h2 := hlen2 _ _ hp2
            have hsg : sgLen (s.drop a) = 2 := by unfold sgLen; rw [if_pos (by rw [hp2]; simp)]
            rw [hsg] at htk
            have hx := key 2 ⟨3, (s.drop a).take 2, a⟩ (by omega) h2 htk (by rw [htK])
            refine ⟨⟨⟨by omega, by omega⟩, by omega, by omega⟩, ⟨by omega, by omega, by omega⟩, trivial, s.length - (a + 2), _, by omega, ⟨a + 2, L ++ [⟨3, (s.drop a).take 2, a⟩], rfl, by omega, by rw [hls]; omega, hx, rfl⟩, ?_⟩
            rw [hls]
            refine gc_hp rfl rfl ⟨.inr ⟨_, _, rfl, rfl, .refl _⟩, .inr ⟨_, _, rfl, rfl, .refl _⟩, .inl rfl, .inr ⟨_, _, rfl, rfl, .row ?_⟩, trivial⟩
            exact tok_snoc rfl ⟨3, (s.drop a).take 2, a⟩ rfl rfl rfl fun i j => rfl
          · have hsg : sgLen (s.drop a) = 1 := by unfold sgLen; rw [if_neg (by rw [hp, hp2]; simp), if_pos hg]
            rw [hsg] at htk
            have hx := key 1 ⟨3, (s.drop a).take 1, a⟩ (by omega) (by omega) htk (by rw [htK])
            refine ⟨⟨⟨by omega, by omega⟩, by omega, by omega⟩, ⟨by omega, by omega, by omega⟩, fun _ => ⟨s.length - (a + 1), _, by omega, ⟨a + 1, L ++ [⟨3, (s.drop a).take 1, a⟩], rfl, by omega, by rw [hls]; omega, hx, rfl⟩, ?_⟩, fun h => (by cases h)⟩
            rw [hls]
            refine gc_hp rfl rfl ⟨.inr ⟨_, _, rfl, rfl, .refl _⟩, .inr ⟨_, _, rfl, rfl, .refl _⟩, .inl rfl, .inr ⟨_, _, rfl, rfl, .row ?_⟩, trivial⟩
            exact tok_snoc rfl ⟨3, (s.drop a).take 1, a⟩ rfl rfl rfl fun i j => rfl
          · have hsg : sgLen (s.drop a) = 0 := by unfold sgLen; rw [if_neg (by rw [hp, hp2]; simp), if_neg (by rw [hg]; simp)]
            rw [hsg] at htk
            have he : (lexL s 0).2 = some a := by rw [hlx, lexL_err a hne hsk htk]
            exact ⟨fun h => (by cases h), fun _ => ⟨trivial, _, .inr ⟨rfl, a, L, he, rfl⟩, Gc.refl _ _⟩⟩
      · -- a comment up to the end
        have hcm' : cmt (s.drop a) = true := by simpa [cmt] using hcm
        have hsk : skipN (s.drop a) = ((s.drop a).takeWhile notNl).length := by unfold skipN; rw [if_neg (by rw [hsp]; simp), if_pos hcm']
        have hix : Lib.indexByte (s.drop a) 10 < 0 := by simpa using hix
        have hl : ((s.drop a).takeWhile notNl).length = s.length - a := by
          rcases ib_spec (s.drop a) with ⟨_, e⟩ | e
          · rw [e, List.length_drop]
          · omega
        rw [hl] at hsk
        rw [w64_of (n := (s.length : Int) - a) (by omega) (by omega), w64_of (by omega) (by omega), show (a : Int) + ((s.length : Int) - a) = ((a + (s.length - a) : Nat) : Int) by omega]
        exact ⟨trivial, s.length - (a + (s.length - a)), _, by omega, ⟨a + (s.length - a), L, rfl, by omega, by omega, lexSplit hlx hne hsk (by omega), rfl⟩, Gc.refl _ _⟩
      · -- a comment with a line feed behind
        have hcm' : cmt (s.drop a) = true := by simpa [cmt] using hcm
        have hsk : skipN (s.drop a) = ((s.drop a).takeWhile notNl).length := by unfold skipN; rw [if_neg (by rw [hsp]; simp), if_pos hcm']
        have hix : ¬ Lib.indexByte (s.drop a) 10 < 0 := by simpa using hix
        have hle := tw_le notNl (s.drop a)
        rw [List.length_drop] at hle
        have hb : Lib.indexByte (s.drop a) 10 = ((s.drop a).takeWhile notNl).length := by
          rcases ib_spec (s.drop a) with ⟨e, _⟩ | e
          · omega
          · exact e
        have hpos : 0 < ((s.drop a).takeWhile notNl).length := by
          refine List.length_pos_iff.2 (tw_hd ?_)
          rw [pre2_hd (by simpa [cmt] using hcm')]; decide
        rw [hb, w64_of (by omega) (by omega), show (a : Int) + (((s.drop a).takeWhile notNl).length : Int) = ((a + ((s.drop a).takeWhile notNl).length : Nat) : Int) by omega]
        exact ⟨trivial, s.length - (a + ((s.drop a).takeWhile notNl).length), _, by omega, ⟨a + ((s.drop a).takeWhile notNl).length, L, rfl, by omega, by omega, lexSplit hlx hne hsk hpos, rfl⟩, Gc.refl _ _⟩
    · simp only [decide_eq_false_iff_not] at hc
      obtain rfl : a = s.length := by omega
      refine ⟨_, .inl ⟨rfl, L, hLa, ?_, rfl⟩, Gc.refl _ _⟩
      rw [hlx, List.drop_eq_nil_of_le (Nat.le_refl _), lexL_nil]
  · rintro e t (⟨rfl, L, hLl, he, rfl⟩ | ⟨rfl, a, L, he, rfl⟩)
    · refine Sat.of_eq (KLp_eq s _ L.length L) ⟨?_⟩
      unfold KLp
      have w0 : w64 ((s.length : Int) + 0) = (s.length : Nat) := by rw [w64_of (by omega) (by omega)]; omega
      have hO : lxO s = L ++ [⟨4, [], s.length⟩] := by unfold lxO; rw [if_neg h8, he]
      have hA' : lxA s = 0 := by unfold lxA; rw [if_neg h8, he]; rfl
      have hE' : lxE s = 0 := by unfold lxE; rw [if_neg h8, he]
      have hsn := tok_snoc (L := L) rfl (k' := 4) (a' := (s.length : Int)) (t' := ByteArray.extract (strB s) (Int.toNat (s.length : Int)) (Int.toNat (w64 ((s.length : Int) + 0)))) ⟨4, [], s.length⟩ rfl
        (by rw [w0, Int.toNat_natCast, strB_extract, List.drop_eq_nil_of_le (by rw [List.length_take]; omega)]) rfl (c := KLp_q1 s s.length L.length L) (fun i j => by unfold KLp_q1; simp only [Nat.zero_add])
      rw [hO, hA', hE', w0]
      refine ⟨⟨⟨by omega, by rw [strB_size]; omega⟩, by omega, by omega⟩, ⟨by omega, by omega, by omega⟩, by omega, ?_⟩
      rw [List.length_append, List.length_singleton]
      exact ⟨⟨rfl, rfl, fun i j hi hj => hsn i j hi hj⟩, rfl, rfl, rfl⟩
    · refine Sat.of_eq (KLr_eq s a L.length L) ⟨?_⟩
      unfold KLr
      have hO : lxO s = [] := by unfold lxO; rw [if_neg h8, he]
      have hA' : lxA s = a := by unfold lxA; rw [if_neg h8, he]; rfl
      have hE' : lxE s = 5 := by unfold lxE; rw [if_neg h8, he]
      rw [hO, hA', hE']
      exact ⟨⟨rfl, rfl⟩, rfl, rfl, rfl⟩
noncomputable def cLp : Ctr := fun ss => match ss with
  | [.d (.x (.string s))] => .need (s.size ≤ 100000) (.ret (.tup [.d (.ro (lxO s.data.toList).length 3 (tkC (lxO s.data.toList))), iv (lxA s.data.toList), iv (lxE s.data.toList)]))
  | _ => .fail
theorem cLp_ok : CtrOK Tryd.prog 26 cLp := by
  refine ctrOK_leR C3_ok D3_ok (by kernel_rfl) (by kernel_rfl) fun ss r h => ?_
  unfold cLp at h
  split at h
  · rename_i s
    obtain ⟨h2, rfl⟩ := h
    rw [size_list] at h2
    have kk := lp_sat h2
    exact ⟨[strV s.data.toList], 200, .nil, ⟨str_le s, rfl⟩, kk⟩
  · exact h.elim
end Go.Proofs.YtnoodoipghgkgaaDoor

namespace Go.Proofs.YtnoodoipghgkgaaDoor
open Go.Sx
set_option maxRecDepth 100000

noncomputable def lxB (a e : Int) (l : SV) : Blk := .cells [l, iv a, iv e]
noncomputable def nilS : SV := .d (.x (.slice none 0 0))
noncomputable def invLx (s : List UInt8) (i : Int) (n : Nat) (L : List Tok) : AS := ⟨[.ok (strV s), .unk, .ok (.ptr 0 0), .ok (.ptr 1 0), .ok (iv i)] ++ List.replicate 72 .unk, [some (lxB 0 0 nilS), some (lxB 0 0 (.row 3 0 0 n 3)), none, some (.row n 3 (tkC L))], 4, .nil⟩
noncomputable def bodyLx : Code := loopN (bodyOf Tryd.prog 15) 0
noncomputable def tBx (s : List UInt8) (i : Int) (n : Nat) (L : List Tok) : Tree (Ex × AS) := cutT 3 [(.cell (.base 1) 0, 3)] [0, 2, 3, 4] [] 4 .nil (exec Tryd.prog C3 D3 300 bodyLx (invLx s i n L))
noncomputable def BBx (s : List UInt8) (i : Int) (n : Nat) (L : List Tok) : Tree (Ex × AS) :=
  .ite (decide (i < (↑(ByteArray.size (strB s)) : Int))) (.code (codeC (sub [(0 : Nat)] (tBx s i n L))) (codeS (sub [(0 : Nat)] (tBx s i n L))) (codeK (sub [(0 : Nat)] (tBx s i n L))))
  (.ret
   (.exit 0,
   {
   tm :=
   [.ok (SV.d (DV.x (.string (strB s)))), .unk, .ok (SV.ptr 0 0), .ok (SV.ptr 1 0), .ok (iv i), .unk, .unk, .unk, .unk, .unk, .unk, .unk, .unk, .unk, .unk,
   .unk, .unk, .unk, .unk, .unk, .unk, .unk, .unk, .unk, .unk, .unk, .unk, .unk, .unk, .unk, .unk, .unk, .unk, .unk, .unk, .unk, .unk, .unk, .unk, .unk, .unk, .unk, .unk,
   .unk, .unk, .unk, .unk, .unk, .unk, .unk, .unk, .unk, .unk, .unk, .unk, .unk, .unk, .unk, .unk, .unk, .unk, .unk, .unk, .unk, .unk, .unk, .unk, .unk, .unk, .unk, .unk,
   .unk, .unk, .unk, .unk, .unk, .unk],
   hp :=
   [some (.cells [SV.d (DV.x (.slice none 0 0)), iv (0 : Int), iv (0 : Int)]), some (.cells [SV.row 3 0 0 n 3, iv (0 : Int), iv (0 : Int)]), none,
   some
   (.row n 3 fun i j =>
   match j with
   | (0 : Nat) => DV.x (.int .i64 (tkK L i))
   | (1 : Nat) => DV.x (.string (tkT L i))
   | x => DV.x (.int .i64 (tkA L i)))],
   next := 4, hint := .nil }))

theorem BBx_eq (s : List UInt8) (i : Int) (n : Nat) (L : List Tok) : tBx s i n L = BBx s i n L := by kernel_rfl

noncomputable def invLy (s : List UInt8) (i j : Int) (n : Nat) (L : List Tok) : AS := ⟨[.ok (strV s), .unk, .ok (.ptr 0 0), .ok (.ptr 1 0), .ok (iv i), .ok (iv j)] ++ List.replicate 71 .unk, [some (lxB 0 0 nilS), some (lxB 0 0 (.row 3 0 0 n 3)), none, some (.row n 3 (tkC L))], 4, .nil⟩
noncomputable def bodyLy : Code := loopN (bodyOf Tryd.prog 15) 1
noncomputable def BBy (s : List UInt8) (i j : Int) (n : Nat) (L : List Tok) : Tree (Ex × AS) :=
  .need (decide (j < (↑(ByteArray.size (strB s)) : Int)) = true → (0 : Int) ≤ j ∧ j < (↑(ByteArray.size (strB s)) : Int)) (.ite (decide (j < (↑(ByteArray.size (strB s)) : Int)) && (decide ((↑(UInt8.toNat (Array.getD (ByteArray.data (strB s)) (Int.toNat j) (0 : UInt8))) : Int) ≥ (97 : Int)) && decide ((↑(UInt8.toNat (Array.getD (ByteArray.data (strB s)) (Int.toNat j) (0 : UInt8))) : Int) ≤ (122 : Int)) || decide ((↑(UInt8.toNat (Array.getD (ByteArray.data (strB s)) (Int.toNat j) (0 : UInt8))) : Int) ≥ (48 : Int)) && decide ((↑(UInt8.toNat (Array.getD (ByteArray.data (strB s)) (Int.toNat j) (0 : UInt8))) : Int) ≤ (57 : Int)))) (.ret (.normal, { tm := [.ok (SV.d (DV.x (.string (strB s)))), .unk, .ok (SV.ptr 0 0), .ok (SV.ptr 1 0), .ok (iv i), .ok (iv (w64 (j + (1 : Int)))), .unk, .unk, .unk, .unk, .unk, .unk, .unk, .unk, .unk, .unk, .unk, .unk, .unk, .unk, .unk, .unk, .unk, .unk, .unk, .unk, .unk, .unk, .unk, .unk, .unk, .unk, .unk, .unk, .unk, .unk, .unk, .unk, .unk, .unk, .unk, .unk, .unk, .unk, .unk, .unk, .unk, .unk, .unk, .unk, .unk, .unk, .unk, .unk, .unk, .unk, .unk, .unk, .unk, .unk, .unk, .unk, .unk, .unk, .unk, .unk, .unk, .unk, .unk, .unk, .unk, .unk, .unk, .unk, .unk, .unk, .unk], hp := [some (.cells [SV.d (DV.x (.slice none 0 0)), iv (0 : Int), iv (0 : Int)]), some (.cells [SV.row 3 0 0 n 3, iv (0 : Int), iv (0 : Int)]), none, some (.row n 3 fun i j => match j with | (0 : Nat) => DV.x (.int .i64 (tkK L i)) | (1 : Nat) => DV.x (.string (tkT L i)) | x => DV.x (.int .i64 (tkA L i)))], next := 4, hint := .nil })) (.ret (.exit 2, { tm := [.ok (SV.d (DV.x (.string (strB s)))), .unk, .ok (SV.ptr 0 0), .ok (SV.ptr 1 0), .ok (iv i), .ok (iv j), .unk, .unk, .unk, .unk, .unk, .unk, .unk, .unk, .unk, .unk, .unk, .unk, .unk, .unk, .unk, .unk, .unk, .unk, .unk, .unk, .unk, .unk, .unk, .unk, .unk, .unk, .unk, .unk, .unk, .unk, .unk, .unk, .unk, .unk, .unk, .unk, .unk, .unk, .unk, .unk, .unk, .unk, .unk, .unk, .unk, .unk, .unk, .unk, .unk, .unk, .unk, .unk, .unk, .unk, .unk, .unk, .unk, .unk, .unk, .unk, .unk, .unk, .unk, .unk, .unk, .unk, .unk, .unk, .unk, .unk, .unk], hp := [some (.cells [SV.d (DV.x (.slice none 0 0)), iv (0 : Int), iv (0 : Int)]), some (.cells [SV.row 3 0 0 n 3, iv (0 : Int), iv (0 : Int)]), none, some (.row n 3 fun i j => match j with | (0 : Nat) => DV.x (.int .i64 (tkK L i)) | (1 : Nat) => DV.x (.string (tkT L i)) | x => DV.x (.int .i64 (tkA L i)))], next := 4, hint := .nil })))

theorem BBy_eq (s : List UInt8) (i j : Int) (n : Nat) (L : List Tok) : cutT 4 [] [0, 2, 3, 4, 5] [] 4 .nil (exec Tryd.prog C3 D3 300 bodyLy (invLy s i j n L)) = BBy s i j n L := by kernel_rfl

noncomputable def KBy (s : List UInt8) (i j : Int) (n : Nat) (L : List Tok) : Tree (Ex × AS) :=
  .need (((0 : Int) ≤ j ∧ Int.toNat j ≤ ByteArray.size (strB s)) ∧ (0 : Int) ≤ i ∧ Int.toNat i ≤ Int.toNat j)
  (.need (ByteArray.size (ByteArray.extract (strB s) (Int.toNat i) (Int.toNat j)) ≤ 100000)
   (.ite (j == i)
   (.need (ByteArray.size (strB s) ≤ 100000 ∧ (0 : Int) ≤ i ∧ i < (↑(ByteArray.size (strB s)) : Int))
   (.ite (w64 (i + (↑(sgLen (List.drop (Int.toNat i) (Array.toList (ByteArray.data (strB s))))) : Int)) == i || false)
   (.ret
   (.ret,
   {
   tm :=
   [.ok (SV.d (DV.x (.string (strB s)))), .unk, .ok (SV.ptr 0 0), .ok (SV.ptr 1 0), .ok (iv i), .unk, .unk, .unk, .unk, .unk, .unk, .unk, .unk, .unk,
   .unk, .unk, .unk, .unk, .unk, .unk, .unk, .unk, .unk, .unk, .unk, .unk, .unk, .unk, .unk, .unk, .unk, .unk, .unk, .unk, .unk, .unk, .unk, .unk, .unk, .unk, .unk,
   .unk, .unk, .unk, .unk, .unk, .unk, .unk, .unk, .unk, .unk, .unk, .unk, .unk, .unk, .unk, .unk, .unk, .unk, .unk, .unk, .unk, .unk, .unk, .unk, .unk, .unk, .unk,
   .unk, .unk, .unk, .unk, .unk, .unk, .unk, .unk, .unk],
   hp :=
   [some (.cells [SV.d (DV.x (.slice none 0 0)), iv i, iv (5 : Int)]), some (.cells [SV.row 3 0 0 n 3, iv (0 : Int), iv (0 : Int)]), none,
   some
   (.row n 3 fun i j =>
   match j with
   | (0 : Nat) => DV.x (.int .i64 (tkK L i))
   | (1 : Nat) => DV.x (.string (tkT L i))
   | x => DV.x (.int .i64 (tkA L i)))],
   next := 4, hint := .nil }))
   (.need
   (((0 : Int) ≤ w64 (i + (↑(sgLen (List.drop (Int.toNat i) (Array.toList (ByteArray.data (strB s))))) : Int)) ∧
   Int.toNat (w64 (i + (↑(sgLen (List.drop (Int.toNat i) (Array.toList (ByteArray.data (strB s))))) : Int))) ≤ ByteArray.size (strB s)) ∧
   (0 : Int) ≤ i ∧ Int.toNat i ≤ Int.toNat (w64 (i + (↑(sgLen (List.drop (Int.toNat i) (Array.toList (ByteArray.data (strB s))))) : Int))))
   (.need (0 + n ≤ n ∧ 3 ≤ 3 ∧ (n + 1) * 32 ≤ 140737488355328)
   (.need
   (ByteArray.size (strB s) ≤ 100000 ∧
   (0 : Int) ≤ w64 (i + (↑(sgLen (List.drop (Int.toNat i) (Array.toList (ByteArray.data (strB s))))) : Int)) ∧
   w64 (i + (↑(sgLen (List.drop (Int.toNat i) (Array.toList (ByteArray.data (strB s))))) : Int)) ≤ (↑(ByteArray.size (strB s)) : Int))
   (.ret
   (.normal,
   {
   tm :=
   [.ok (SV.d (DV.x (.string (strB s)))), .unk, .ok (SV.ptr 0 0), .ok (SV.ptr 1 0),
   .ok
   (iv
   (↑(Int.toNat (w64 (i + (↑(sgLen (List.drop (Int.toNat i) (Array.toList (ByteArray.data (strB s))))) : Int))) +
   gapN (List.drop (Int.toNat (w64 (i + (↑(sgLen (List.drop (Int.toNat i) (Array.toList (ByteArray.data (strB s))))) : Int)))) (Array.toList (ByteArray.data (strB s))))) :
   Int)),
   .unk, .unk, .unk, .unk, .unk, .unk, .unk, .unk, .unk, .unk, .unk, .unk, .unk, .unk, .unk, .unk, .unk, .unk, .unk, .unk, .unk, .unk, .unk, .unk, .unk, .unk,
   .unk, .unk, .unk, .unk, .unk, .unk, .unk, .unk, .unk, .unk, .unk, .unk, .unk, .unk, .unk, .unk, .unk, .unk, .unk, .unk, .unk, .unk, .unk, .unk, .unk, .unk,
   .unk, .unk, .unk, .unk, .unk, .unk, .unk, .unk, .unk, .unk, .unk, .unk, .unk, .unk, .unk, .unk, .unk, .unk, .unk, .unk],
   hp :=
   [some (.cells [SV.d (DV.x (.slice none 0 0)), iv (0 : Int), iv (0 : Int)]),
   some (.cells [SV.row 3 0 0 (n + 1) 3, iv (0 : Int), iv (0 : Int)]), none,
   some
   (.row (n + 1) 3 fun a b =>
   selD (decide (a < n)) (tkC L (0 + a) b)
   (dsAt
   [DV.x (.int .i64 (3 : Int)),
   DV.x (.string (ByteArray.extract (strB s) (Int.toNat i) (Int.toNat (w64 (i + (↑(sgLen (List.drop (Int.toNat i) (Array.toList (ByteArray.data (strB s))))) : Int)))))), DV.x (.int .i64 i)]
   (0 + (0 + (a - n)) * 3 + b)))],
   next := 4, hint := .nil })))))))
   (.ite (j == i || (↑(kindR (Array.toList (ByteArray.data (ByteArray.extract (strB s) (Int.toNat i) (Int.toNat j))))) : Int) == (0 : Int))
   (.ret
   (.ret,
   {
   tm :=
   [.ok (SV.d (DV.x (.string (strB s)))), .unk, .ok (SV.ptr 0 0), .ok (SV.ptr 1 0), .ok (iv i), .unk, .unk, .unk, .unk, .unk, .unk, .unk, .unk, .unk,
   .unk, .unk, .unk, .unk, .unk, .unk, .unk, .unk, .unk, .unk, .unk, .unk, .unk, .unk, .unk, .unk, .unk, .unk, .unk, .unk, .unk, .unk, .unk, .unk, .unk, .unk, .unk,
   .unk, .unk, .unk, .unk, .unk, .unk, .unk, .unk, .unk, .unk, .unk, .unk, .unk, .unk, .unk, .unk, .unk, .unk, .unk, .unk, .unk, .unk, .unk, .unk, .unk, .unk, .unk,
   .unk, .unk, .unk, .unk, .unk, .unk, .unk, .unk, .unk],
   hp :=
   [some (.cells [SV.d (DV.x (.slice none 0 0)), iv i, iv (5 : Int)]), some (.cells [SV.row 3 0 0 n 3, iv (0 : Int), iv (0 : Int)]), none,
   some
   (.row n 3 fun i j =>
   match j with
   | (0 : Nat) => DV.x (.int .i64 (tkK L i))
   | (1 : Nat) => DV.x (.string (tkT L i))
   | x => DV.x (.int .i64 (tkA L i)))],
   next := 4, hint := .nil }))
   (.need (((0 : Int) ≤ j ∧ Int.toNat j ≤ ByteArray.size (strB s)) ∧ (0 : Int) ≤ i ∧ Int.toNat i ≤ Int.toNat j)
   (.need (0 + n ≤ n ∧ 3 ≤ 3 ∧ (n + 1) * 32 ≤ 140737488355328)
   (.need (ByteArray.size (strB s) ≤ 100000 ∧ (0 : Int) ≤ j ∧ j ≤ (↑(ByteArray.size (strB s)) : Int))
   (.ret
   (.normal,
   {
   tm :=
   [.ok (SV.d (DV.x (.string (strB s)))), .unk, .ok (SV.ptr 0 0), .ok (SV.ptr 1 0),
   .ok (iv (↑(Int.toNat j + gapN (List.drop (Int.toNat j) (Array.toList (ByteArray.data (strB s))))) : Int)), .unk, .unk, .unk, .unk, .unk, .unk, .unk, .unk, .unk, .unk, .unk, .unk, .unk,
   .unk, .unk, .unk, .unk, .unk, .unk, .unk, .unk, .unk, .unk, .unk, .unk, .unk, .unk, .unk, .unk, .unk, .unk, .unk, .unk, .unk, .unk, .unk, .unk, .unk, .unk, .unk,
   .unk, .unk, .unk, .unk, .unk, .unk, .unk, .unk, .unk, .unk, .unk, .unk, .unk, .unk, .unk, .unk, .unk, .unk, .unk, .unk, .unk, .unk, .unk, .unk, .unk, .unk, .unk,
   .unk, .unk, .unk, .unk, .unk],
   hp :=
   [some (.cells [SV.d (DV.x (.slice none 0 0)), iv (0 : Int), iv (0 : Int)]),
   some (.cells [SV.row 3 0 0 (n + 1) 3, iv (0 : Int), iv (0 : Int)]), none,
   some
   (.row (n + 1) 3 fun a b =>
   selD (decide (a < n)) (tkC L (0 + a) b)
   (dsAt
   [DV.x (.int .i64 (↑(kindR (Array.toList (ByteArray.data (ByteArray.extract (strB s) (Int.toNat i) (Int.toNat j))))) : Int)),
   DV.x (.string (ByteArray.extract (strB s) (Int.toNat i) (Int.toNat j))), DV.x (.int .i64 i)]
   (0 + (0 + (a - n)) * 3 + b)))],
   next := 4, hint := .nil }))))))))

theorem KBy_eq (s : List UInt8) (i j : Int) (n : Nat) (L : List Tok) : codeK (sub [0] (tBx s i n L)) (.exit 2) (invLy s i j n L) = KBy s i j n L := by kernel_rfl

noncomputable def invLz (s : List UInt8) (i : Int) (n : Nat) (L : List Tok) : AS := ⟨[.ok (strV s), .unk, .ok (.ptr 0 0), .ok (.ptr 1 0), .ok (iv i)] ++ List.replicate 72 .unk, [some (lxB i 5 nilS), some (lxB 0 0 (.row 3 0 0 n 3)), none, some (.row n 3 (tkC L))], 4, .nil⟩
noncomputable def KLx_q1 (s : List UInt8) (n : Nat) (L : List Tok) (i : Nat) (j : Nat) : DV :=
  selD (decide (0 + i < n)) (tkC L (0 + (0 + i)) j)
  (dsAt [DV.x (.int .i64 (4 : Int)), DV.x (.string (strB [])), DV.x (.int .i64 (↑(ByteArray.size (strB s)) : Int))] (0 + (0 + (0 + i - n)) * 3 + j))
noncomputable def KLx (s : List UInt8) (i : Int) (n : Nat) (L : List Tok) : Tree SV :=
  .need (0 + n ≤ n ∧ 3 ≤ 3 ∧ (n + 1) * 32 ≤ 140737488355328)
  (.need (0 + (n + 1) ≤ n + 1) (.ret (SV.agg [SV.d (DV.ro (n + 1) 3 (KLx_q1 s n L)), iv (0 : Int), iv (0 : Int)])))

theorem KLx_eq (s : List UInt8) (i : Int) (n : Nat) (L : List Tok) : codeK (sub [1, 0] (tLx s)) (.exit 0) (invLx s i n L) = KLx s i n L := by kernel_rfl

noncomputable def KLz (s : List UInt8) (i : Int) (n : Nat) (L : List Tok) : Tree SV :=
  .ret (SV.agg [SV.d (DV.x (.slice none 0 0)), iv i, iv (5 : Int)])

theorem KLz_eq (s : List UInt8) (i : Int) (n : Nat) (L : List Tok) : codeK (sub [1, 0] (tLx s)) .ret (invLz s i n L) = KLz s i n L := by kernel_rfl


end Go.Proofs.YtnoodoipghgkgaaDoor

namespace Go.Proofs.YtnoodoipghgkgaaDoor
open Go.Sx
set_option maxRecDepth 100000

theorem lx_sat {s : List UInt8} (hs : s.length ≤ 100000) : Sat Tryd.prog (tLx s) (fun r => leSV 0 [] [] r (.agg [.d (.ro (lxO s).length 3 (tkC (lxO s))), iv (lxA s), iv (lxE s)])) := by
  constructor
  rw [LLx_eq]; unfold LLx
  simp only [strB_size]
  refine ⟨fun h => ?_, fun h => ⟨⟨by omega, by omega, by omega⟩, ?_⟩⟩
  · simp only [decide_eq_true_eq] at h
    have h8 : 8000 < s.length := by omega
    have e1 : lxO s = [] := by unfold lxO; rw [if_pos h8]
    have e2 : lxA s = 0 := by unfold lxA; rw [if_pos h8]
    have e3 : lxE s = 2 := by unfold lxE; rw [if_pos h8]
    rw [e1, e2, e3]
    exact ⟨⟨rfl, rfl⟩, rfl, rfl, rfl⟩
  simp only [decide_eq_false_iff_not] at h
  have h8 : ¬ 8000 < s.length := by omega
  have hg0 := gap_le s
  refine code_satS C3_ok D3_ok (n := 300) (n0 := 3) (nx := 4) (roots := [(.cell (.base 1) 0, 3)]) (keep := [0, 2, 3, 4]) (drop := []) (h := .nil) (c := codeC (sub [1, 0] (tLx s))) (st := codeS (sub [1, 0] (tLx s))) (k := codeK (sub [1, 0] (tLx s))) (body := bodyLx) (by kernel_rfl) (by kernel_rfl)
    (fun q t => ∃ (a : Nat) (L : List Tok), q = s.length - a ∧ a ≤ s.length ∧ L.length ≤ a ∧ lexL s 0 = (L ++ (lexL (s.drop a) a).1, (lexL (s.drop a) a).2) ∧ skipN (s.drop a) = 0 ∧ t = invLx s a L.length L)
    (fun e t => (e = .exit 0 ∧ ∃ (L : List Tok), L.length ≤ s.length ∧ lexL s 0 = (L ++ [⟨4, [], s.length⟩], none) ∧ t = invLx s (s.length : Nat) L.length L) ∨ (e = .ret ∧ ∃ (a : Nat) (L : List Tok), (lexL s 0).2 = some a ∧ t = invLz s a L.length L))
    ⟨_, _, ⟨gapN s, [], rfl, hg0, by simp, by rw [lex_gap s 0, Nat.zero_add]; rfl, gap_stop s, rfl⟩, ?_⟩ ?_ ?_
  · refine (entA_sound (s' := ⟨[.ok (strV s), .unk, .ok (.ptr 0 0), .ok (.ptr 1 0), .ok (iv ((0 + gapN (s.drop 0) : Nat) : Int))] ++ List.replicate 72 .unk, [some (lxB 0 0 nilS), some (lxB 0 0 nilS), none, none], 4, .nil⟩) (roots := [(.cell (.base 1) 0, 3)]) (keep := [0, 2, 3, 4]) (drop := [2]) (nx := 4) (h := .nil) (by kernel_rfl)).trans ?_
    rw [Nat.zero_add, List.drop_zero]
    refine gc_sound [] [3] rfl ?_ ?_
    · simp [invLx, leTm, leTV, leSV, leSVs, rn, iv, leD, List.replicate, strV]
    · simp [invLx, leHp, leBlk, leSVs, leSV, rn, iv, leD, srcOf, hget, lxB, nilS]
  · rintro q t ⟨a, L, rfl, ha, hLa, hlx, hsk, rfl⟩
    refine Sat.of_eq (BBx_eq s a L.length L) ?_
    constructor
    unfold BBx
    simp only [strB_size]
    refine ⟨fun hc => ?_, fun hc => ?_⟩
    · have hlt : a < s.length := by simp only [decide_eq_true_eq] at hc; omega
      have hne : s.drop a ≠ [] := by
        intro e
        have := congrArg List.length e
        rw [List.length_drop] at this
        simp at this; omega
      have hWle := tw_le isWd (s.drop a)
      rw [List.length_drop] at hWle
      refine code_satS C3_ok D3_ok (n := 300) (n0 := 4) (nx := 4) (roots := []) (keep := [0, 2, 3, 4, 5]) (drop := []) (h := .nil) (body := bodyLy) (by kernel_rfl) (by kernel_rfl)
        (fun q t => ∃ w : Nat, q = s.length - (a + w) ∧ a + w ≤ s.length ∧ (∀ i, i < w → isWd ((s.drop a).getD i 0) = true) ∧ t = invLy s a ((a + w : Nat) : Int) L.length L)
        (fun e t => e = .exit 2 ∧ t = invLy s a ((a + ((s.drop a).takeWhile isWd).length : Nat) : Int) L.length L)
        ⟨_, _, ⟨0, rfl, by omega, fun i hi => by omega, rfl⟩, ?_⟩ ?_ ?_
      · exact entA_sound (roots := []) (keep := [0, 2, 3, 4, 5]) (drop := [2]) (nx := 4) (h := .nil) (by kernel_rfl)
      · rintro q t ⟨w, rfl, hw, hall, rfl⟩
        refine Sat.of_eq (BBy_eq s a _ L.length L) ?_
        constructor
        unfold BBy
        simp only [strB_size, strB_at, Int.toNat_natCast, dWd]
        refine ⟨fun h2 => by have := of_decide_eq_true h2; omega, fun h2 => ?_, fun h2 => ?_⟩
        · rw [Bool.and_eq_true, decide_eq_true_eq] at h2
          have w1 : w64 (((a + w : Nat) : Int) + 1) = ((a + (w + 1) : Nat) : Int) := by rw [w64_of (by omega) (by omega)]; omega
          rw [w1]
          refine ⟨s.length - (a + (w + 1)), _, by omega, ⟨w + 1, rfl, by omega, fun i hi => ?_, rfl⟩, Gc.refl _ _⟩
          rcases Nat.lt_or_ge i w with h5 | h5
          · exact hall i h5
          · obtain rfl : i = w := by omega
            rw [getD_drop]; exact h2.2
        · have e : (s.drop a).takeWhile isWd = (s.drop a).take w := by
            refine tw_at (by rw [List.length_drop]; omega) hall fun h5 => ?_
            rw [List.length_drop] at h5
            rw [getD_drop]
            rw [Bool.and_eq_false_iff, decide_eq_false_iff_not] at h2
            rcases h2 with h2 | h2
            · omega
            · exact h2
          have el : ((s.drop a).takeWhile isWd).length = w := by rw [e, List.length_take, List.length_drop]; omega
          refine ⟨_, ⟨rfl, ?_⟩, Gc.refl _ _⟩
          rw [el]; rfl
      · rintro e t ⟨rfl, rfl⟩
        obtain ⟨W, hW⟩ : ∃ W, (s.drop a).takeWhile isWd = W := ⟨_, rfl⟩
        rw [hW] at hWle ⊢
        have hWp : (s.drop a).take W.length = W := by rw [← hW]; exact tw_pre _ _
        have hWa : W.all isWd = true := by rw [← hW]; exact tw_all _
        have hkr : kindR W = wKind W := by unfold kindR; rw [if_pos hWa]
        refine Sat.of_eq (KBy_eq s a _ L.length L) ⟨?_⟩
        unfold KBy
        have htk : tokN (s.drop a) = if wKind W = 0 then sgLen (s.drop a) else W.length := by unfold tokN; rw [hW]
        have htK : tokK (s.drop a) = if wKind W = 0 then 3 else wKind W := by unfold tokK; rw [hW]
        have hsl := sgLen_le (s.drop a)
        rw [List.length_drop] at hsl
        have ex : ByteArray.extract (strB s) a (a + W.length) = strB W := by rw [strB_extract, List.drop_take, show a + W.length - a = W.length by omega, hWp]
        have wS : w64 ((a : Int) + (sgLen (s.drop a) : Int)) = ((a + sgLen (s.drop a) : Nat) : Int) := by rw [w64_of (by omega) (by omega)]; omega
        have exS : ByteArray.extract (strB s) a (a + sgLen (s.drop a)) = strB ((s.drop a).take (sgLen (s.drop a))) := by rw [strB_extract, List.drop_take, show a + sgLen (s.drop a) - a = sgLen (s.drop a) by omega]
        simp only [strB_list, Int.toNat_natCast, wS, ex, exS, strB_size, hkr]
        have hls : ∀ x : Tok, (L ++ [x]).length = L.length + 1 := fun x => by simp
        have key : ∀ (n : Nat) (x : Tok) (hn : 0 < n) (hle : a + n ≤ s.length) (htn : tokN (s.drop a) = n) (hx : x = ⟨tokK (s.drop a), (s.drop a).take n, a⟩),
            lexL s 0 = ((L ++ [x]) ++ (lexL (s.drop (a + n + gapN (s.drop (a + n)))) (a + n + gapN (s.drop (a + n)))).1, (lexL (s.drop (a + n + gapN (s.drop (a + n)))) (a + n + gapN (s.drop (a + n)))).2) := by
          intro n x hn hle htn hx
          subst hx
          rw [lexTok hlx hne hsk htn hn, lex_gap (s.drop (a + n)), List.drop_drop]
        have gst : ∀ n, skipN (s.drop (a + n + gapN (s.drop (a + n)))) = 0 := fun n => by rw [← List.drop_drop]; exact gap_stop _
        have gle : ∀ n, a + n ≤ s.length → a + n + gapN (s.drop (a + n)) ≤ s.length := fun n hn => by
          have := gap_le (s.drop (a + n))
          rw [List.length_drop] at this; omega
        refine ⟨⟨⟨by omega, by omega⟩, by omega, by omega⟩, by omega, fun hj => ⟨⟨by omega, by omega, by omega⟩, fun hz => ?_, fun hz => ⟨⟨⟨by omega, by omega⟩, by omega, by omega⟩, ⟨by omega, by omega, by omega⟩, ⟨by omega, by omega, by omega⟩, ?_⟩⟩, fun hj => ⟨fun hz => ?_, fun hz => ⟨⟨⟨by omega, by omega⟩, by omega, by omega⟩, ⟨by omega, by omega, by omega⟩, ⟨by omega, by omega, by omega⟩, ?_⟩⟩⟩
        · have hW0 : W = [] := List.length_eq_zero_iff.1 (by have := beq_iff_eq.1 hj; omega)
          have hk0 : wKind W = 0 := by rw [hW0]; rfl
          rw [if_pos hk0] at htk
          have hs0 : sgLen (s.drop a) = 0 := by simp only [Bool.or_false, beq_iff_eq] at hz; omega
          rw [hs0] at htk
          have he : (lexL s 0).2 = some a := by rw [hlx, lexL_err a hne hsk htk]
          exact ⟨_, .inr ⟨rfl, a, L, he, rfl⟩, Gc.refl _ _⟩
        · have hW0 : W = [] := List.length_eq_zero_iff.1 (by have := beq_iff_eq.1 hj; omega)
          have hk0 : wKind W = 0 := by rw [hW0]; rfl
          rw [if_pos hk0] at htk htK
          have hs0 : 0 < sgLen (s.drop a) := by simp only [Bool.or_false, beq_eq_false_iff_ne, ne_eq] at hz; omega
          have hx := key (sgLen (s.drop a)) ⟨3, (s.drop a).take (sgLen (s.drop a)), a⟩ hs0 (by omega) htk (by rw [htK])
          have hgl := gle (sgLen (s.drop a)) (by omega)
          refine ⟨s.length - (a + sgLen (s.drop a) + gapN (s.drop (a + sgLen (s.drop a)))), _, by omega, ⟨a + sgLen (s.drop a) + gapN (s.drop (a + sgLen (s.drop a))), L ++ [⟨3, (s.drop a).take (sgLen (s.drop a)), a⟩], rfl, hgl, by rw [hls]; omega, hx, gst _, rfl⟩, ?_⟩
          rw [hls]
          refine gc_hp rfl rfl ⟨.inr ⟨_, _, rfl, rfl, .refl _⟩, .inr ⟨_, _, rfl, rfl, .refl _⟩, .inl rfl, .inr ⟨_, _, rfl, rfl, .row ?_⟩, trivial⟩
          exact tok_snoc rfl ⟨3, (s.drop a).take (sgLen (s.drop a)), a⟩ rfl rfl rfl fun i j => rfl
        · rw [hj, Bool.false_or, beq_iff_eq] at hz
          have hk0 : wKind W = 0 := by omega
          rw [if_pos hk0] at htk
          have hWn : W ≠ [] := by
            intro e
            rw [e] at hj
            simp at hj
          have hwd : hd1 isWd (s.drop a) = true := by
            cases hh : hd1 isWd (s.drop a) with
            | true => rfl
            | false => rw [tw_eq_nil hh] at hW; exact absurd hW.symm hWn
          rw [sgLen_wd hwd] at htk
          have he : (lexL s 0).2 = some a := by rw [hlx, lexL_err a hne hsk htk]
          exact ⟨_, .inr ⟨rfl, a, L, he, rfl⟩, Gc.refl _ _⟩
        · rw [hj, Bool.false_or, beq_eq_false_iff_ne] at hz
          have hk0 : wKind W ≠ 0 := by omega
          rw [if_neg hk0] at htk htK
          have hWn : 0 < W.length := by
            rw [beq_eq_false_iff_ne] at hj; omega
          have hx := key W.length ⟨wKind W, W, a⟩ hWn (by omega) htk (by rw [htK, hWp])
          have hgl := gle W.length (by omega)
          refine ⟨s.length - (a + W.length + gapN (s.drop (a + W.length))), _, by omega, ⟨a + W.length + gapN (s.drop (a + W.length)), L ++ [⟨wKind W, W, a⟩], rfl, hgl, by rw [hls]; omega, hx, gst _, rfl⟩, ?_⟩
          rw [hls]
          refine gc_hp rfl rfl ⟨.inr ⟨_, _, rfl, rfl, .refl _⟩, .inr ⟨_, _, rfl, rfl, .refl _⟩, .inl rfl, .inr ⟨_, _, rfl, rfl, .row ?_⟩, trivial⟩
          exact tok_snoc rfl ⟨wKind W, W, a⟩ rfl rfl rfl fun i j => rfl
    · simp only [decide_eq_false_iff_not] at hc
      obtain rfl : a = s.length := by omega
      refine ⟨_, .inl ⟨rfl, L, hLa, ?_, rfl⟩, Gc.refl _ _⟩
      rw [hlx, List.drop_eq_nil_of_le (Nat.le_refl _), lexL_nil]
  · rintro e t (⟨rfl, L, hLl, he, rfl⟩ | ⟨rfl, a, L, he, rfl⟩)
    · refine Sat.of_eq (KLx_eq s _ L.length L) ⟨?_⟩
      unfold KLx
      have hO : lxO s = L ++ [⟨4, [], s.length⟩] := by unfold lxO; rw [if_neg h8, he]
      have hA' : lxA s = 0 := by unfold lxA; rw [if_neg h8, he]; rfl
      have hE' : lxE s = 0 := by unfold lxE; rw [if_neg h8, he]
      have hsn := tok_snoc (L := L) rfl (k' := 4) (a' := ((strB s).size : Int)) (t' := strB []) ⟨4, [], s.length⟩ rfl rfl (by rw [strB_size]) (c := KLx_q1 s L.length L) (fun i j => by unfold KLx_q1; simp only [Nat.zero_add])
      rw [hO, hA', hE']
      refine ⟨⟨by omega, by omega, by omega⟩, by omega, ?_⟩
      rw [List.length_append, List.length_singleton]
      exact ⟨⟨rfl, rfl, fun i j hi hj => hsn i j hi hj⟩, rfl, rfl, rfl⟩
    · refine Sat.of_eq (KLz_eq s a L.length L) ⟨?_⟩
      unfold KLz
      have hO : lxO s = [] := by unfold lxO; rw [if_neg h8, he]
      have hA' : lxA s = a := by unfold lxA; rw [if_neg h8, he]; rfl
      have hE' : lxE s = 5 := by unfold lxE; rw [if_neg h8, he]
      rw [hO, hA', hE']
      exact ⟨⟨rfl, rfl⟩, rfl, rfl, rfl⟩
noncomputable def cLx : Ctr := fun ss => match ss with
  | [.d (.x (.string s))] => .need (s.size ≤ 100000) (.ret (.agg [.d (.ro (lxO s.data.toList).length 3 (tkC (lxO s.data.toList))), iv (lxA s.data.toList), iv (lxE s.data.toList)]))
  | _ => .fail
theorem cLx_ok : CtrOK Tryd.prog 15 cLx := by
  refine ctrOK_leR C3_ok D3_ok (by kernel_rfl) (by kernel_rfl) fun ss r h => ?_
  unfold cLx at h
  split at h
  · rename_i s
    obtain ⟨h2, rfl⟩ := h
    rw [size_list] at h2
    have kk := lx_sat h2
    exact ⟨[strV s.data.toList], 200, .nil, ⟨str_le s, rfl⟩, kk⟩
  · exact h.elim
end Go.Proofs.YtnoodoipghgkgaaDoor

namespace Go.Proofs.YtnoodoipghgkgaaDoor
open Go.Sx
set_option maxRecDepth 100000

def kR3 : Hint := .u (.f .nil)
def kR2 : Hint := .u (.t (.u (.t (.br (.br .nil kR3) (.u (.t (.br (.br .nil kR3) (.u (.f (.br (.br .nil kR3) (.f kR3)))))))))))
def kE : Hint := .br (.br .nil kR2) (.f kR2)
noncomputable def tKp (s : List UInt8) : Tree SV := T3 (.u (.t .nil)) 16 [strV s]
noncomputable def invKw (s : List UInt8) (w : Nat) : AS := ⟨[.ok (.ptr 0 0), .unk, .ok (bv false), .ok (iv w)] ++ List.replicate 29 .unk, [some (scC s 0 nilS)], 1, kE⟩
noncomputable def LKp (s : List UInt8) : Tree SV :=
  .need (true = true) (.need ((0 : Int) ≤ (0 : Int) ∧ (0 : Int) < (2 : Int)) (.code (codeC (sub [(0 : Nat), (0 : Nat)] (tKp s))) (codeS (sub [(0 : Nat), (0 : Nat)] (tKp s))) (codeK (sub [(0 : Nat), (0 : Nat)] (tKp s)))))

theorem LKp_eq (s : List UInt8) : tKp s = LKp s := by kernel_rfl

noncomputable def BKw (s : List UInt8) (w : Nat) : Tree (Ex × AS) :=
  .need (2 ≤ 2)
  (.need ((0 : Int) ≤ (0 : Int) + (↑w : Int) ∧ (0 : Int) + (↑w : Int) ≤ (4611686018427387904 : Int))
   (.ite (hdC2 (1 : Int) (2 : Int) (List.drop (Int.toNat ((0 : Int) + (↑w : Int))) (Array.toList (ByteArray.data (strB s)))))
   (.ret
   (.normal,
   {
   tm :=
   [.ok (SV.ptr 0 0), .unk, .ok (bv false), .ok (iv (w64 ((↑w : Int) + (1 : Int)))), .unk, .unk, .unk, .unk, .unk, .unk, .unk, .unk, .unk, .unk, .unk, .unk, .unk, .unk,
   .unk, .unk, .unk, .unk, .unk, .unk, .unk, .unk, .unk, .unk, .unk, .unk, .unk, .unk, .unk],
   hp :=
   [some
   (.cells
   ([SV.d (DV.x (.string (strB s))), iv (0 : Int)] ++ tabC ++ [SV.d (DV.x (.slice none 0 0))]))],
   next := 1,
   hint := kE }))
   (.ret
   (.exit 0,
   {
   tm :=
   [.ok (SV.ptr 0 0), .unk, .ok (bv false), .ok (iv (↑w : Int)), .unk, .unk, .unk, .unk, .unk, .unk, .unk, .unk, .unk, .unk, .unk, .unk, .unk, .unk, .unk, .unk, .unk,
   .unk, .unk, .unk, .unk, .unk, .unk, .unk, .unk, .unk, .unk, .unk, .unk],
   hp :=
   [some
   (.cells
   ([SV.d (DV.x (.string (strB s))), iv (0 : Int)] ++ tabC ++ [SV.d (DV.x (.slice none 0 0))]))],
   next := 1,
   hint := kE }))))

theorem BKw_eq (s : List UInt8) (w : Nat) : cutT 1 [] [0, 2, 3] [] 1 kE (exec Tryd.prog C3 D3 300 bodyWd (invKw s w)) = BKw s w := by kernel_rfl

noncomputable def KKp (s : List UInt8) (w : Nat) : Tree SV :=
  .need (((0 : Int) ≤ w64 ((0 : Int) + (↑w : Int)) ∧ Int.toNat (w64 ((0 : Int) + (↑w : Int))) ≤ ByteArray.size (strB s)) ∧ (0 : Int) ≤ (0 : Int) ∧ 0 ≤ Int.toNat (w64 ((0 : Int) + (↑w : Int))))
  (.need
   ((List.all (Array.toList (ByteArray.data (ByteArray.extract (strB s) 0 (Int.toNat (w64 ((0 : Int) + (↑w : Int))))))) fun b => isLet b || isDg b) = true ∧
   ByteArray.size (ByteArray.extract (strB s) 0 (Int.toNat (w64 ((0 : Int) + (↑w : Int))))) ≤ 100000)
   (.ite ((↑(wKind (Array.toList (ByteArray.data (ByteArray.extract (strB s) 0 (Int.toNat (w64 ((0 : Int) + (↑w : Int)))))))) : Int) != (0 : Int))
   (.need (((0 : Int) ≤ w64 ((0 : Int) + (↑w : Int)) ∧ Int.toNat (w64 ((0 : Int) + (↑w : Int))) ≤ ByteArray.size (strB s)) ∧ (0 : Int) ≤ (0 : Int) ∧ 0 ≤ Int.toNat (w64 ((0 : Int) + (↑w : Int))))
   (.need (True ∧ 3 ≤ 3 ∧ 32 ≤ 140737488355328)
   (.ite (true && w64 ((0 : Int) + (↑w : Int)) == (↑(ByteArray.size (strB s)) : Int))
   (.need ((0 : Int) ≤ (0 : Int) ∧ (0 : Int) < (1 : Int))
   (.need (0 < 1) (.ret (iv (↑(wKind (Array.toList (ByteArray.data (ByteArray.extract (strB s) 0 (Int.toNat (w64 ((0 : Int) + (↑w : Int)))))))) : Int)))))
   (.need (true = true)
   (.need ((0 : Int) ≤ (1 : Int) ∧ (1 : Int) < (2 : Int))
   (.need (true = true)
   (.need ((0 : Int) ≤ (0 : Int) ∧ (0 : Int) < (2 : Int))
   (.need (0 < 2)
   (.need (True ∧ (0 : Int) ≤ (0 : Int) ∧ 0 ≤ ByteArray.size (strB s))
   (.ite (List.isPrefixOf [(45 : UInt8), (62 : UInt8)] (Array.toList (ByteArray.data (ByteArray.extract (strB s) 0 (ByteArray.size (strB s))))))
   (.need (((0 : Int) ≤ (2 : Int) ∧ 2 ≤ ByteArray.size (strB s)) ∧ (0 : Int) ≤ (0 : Int) ∧ 0 ≤ 2)
   (.need (True ∧ 3 ≤ 3 ∧ 32 ≤ 140737488355328)
   (.ite (true && (2 : Int) == (↑(ByteArray.size (strB s)) : Int)) (.need ((0 : Int) ≤ (0 : Int) ∧ (0 : Int) < (1 : Int)) (.need (0 < 1) (.ret (iv (3 : Int)))))
   (.need (false = false) (.ret (iv (0 : Int)))))))
   (.need (true = true)
   (.need ((0 : Int) ≤ (1 : Int) ∧ (1 : Int) < (2 : Int))
   (.need (1 < 2)
   (.need (True ∧ (0 : Int) ≤ (0 : Int) ∧ 0 ≤ ByteArray.size (strB s))
   (.ite (List.isPrefixOf [(61 : UInt8), (61 : UInt8)] (Array.toList (ByteArray.data (ByteArray.extract (strB s) 0 (ByteArray.size (strB s))))))
   (.need (((0 : Int) ≤ (2 : Int) ∧ 2 ≤ ByteArray.size (strB s)) ∧ (0 : Int) ≤ (0 : Int) ∧ 0 ≤ 2)
   (.need (True ∧ 3 ≤ 3 ∧ 32 ≤ 140737488355328)
   (.ite (true && (2 : Int) == (↑(ByteArray.size (strB s)) : Int)) (.need ((0 : Int) ≤ (0 : Int) ∧ (0 : Int) < (1 : Int)) (.need (0 < 1) (.ret (iv (3 : Int)))))
   (.need (false = false) (.ret (iv (0 : Int)))))))
   (.need (false = false)
   (.need (1 ≤ 1)
   (.need ((0 : Int) ≤ (0 : Int) ∧ (0 : Int) ≤ (4611686018427387904 : Int))
   (.ite (hdC1 (4 : Int) (List.drop 0 (Array.toList (ByteArray.data (strB s)))))
   (.need (((0 : Int) ≤ (1 : Int) ∧ 1 ≤ ByteArray.size (strB s)) ∧ (0 : Int) ≤ (0 : Int) ∧ 0 ≤ 1)
   (.need (True ∧ 3 ≤ 3 ∧ 32 ≤ 140737488355328)
   (.ite (true && (1 : Int) == (↑(ByteArray.size (strB s)) : Int)) (.need ((0 : Int) ≤ (0 : Int) ∧ (0 : Int) < (1 : Int)) (.need (0 < 1) (.ret (iv (3 : Int)))))
   (.need (false = false) (.ret (iv (0 : Int)))))))
   (.need ((false && (0 : Int) == (↑(ByteArray.size (strB s)) : Int)) = false) (.need (false = false) (.ret (iv (0 : Int))))))))))))))))))))))))
   (.need ((false && (0 : Int) == (↑(ByteArray.size (strB s)) : Int)) = false)
   (.need (true = true)
   (.need ((0 : Int) ≤ (1 : Int) ∧ (1 : Int) < (2 : Int))
   (.need (true = true)
   (.need ((0 : Int) ≤ (0 : Int) ∧ (0 : Int) < (2 : Int))
   (.need (0 < 2)
   (.need (True ∧ (0 : Int) ≤ (0 : Int) ∧ 0 ≤ ByteArray.size (strB s))
   (.ite (List.isPrefixOf [(45 : UInt8), (62 : UInt8)] (Array.toList (ByteArray.data (ByteArray.extract (strB s) 0 (ByteArray.size (strB s))))))
   (.need (((0 : Int) ≤ (2 : Int) ∧ 2 ≤ ByteArray.size (strB s)) ∧ (0 : Int) ≤ (0 : Int) ∧ 0 ≤ 2)
   (.need (True ∧ 3 ≤ 3 ∧ 32 ≤ 140737488355328)
   (.ite (true && (2 : Int) == (↑(ByteArray.size (strB s)) : Int)) (.need ((0 : Int) ≤ (0 : Int) ∧ (0 : Int) < (1 : Int)) (.need (0 < 1) (.ret (iv (3 : Int)))))
   (.need (false = false) (.ret (iv (0 : Int)))))))
   (.need (true = true)
   (.need ((0 : Int) ≤ (1 : Int) ∧ (1 : Int) < (2 : Int))
   (.need (1 < 2)
   (.need (True ∧ (0 : Int) ≤ (0 : Int) ∧ 0 ≤ ByteArray.size (strB s))
   (.ite (List.isPrefixOf [(61 : UInt8), (61 : UInt8)] (Array.toList (ByteArray.data (ByteArray.extract (strB s) 0 (ByteArray.size (strB s))))))
   (.need (((0 : Int) ≤ (2 : Int) ∧ 2 ≤ ByteArray.size (strB s)) ∧ (0 : Int) ≤ (0 : Int) ∧ 0 ≤ 2)
   (.need (True ∧ 3 ≤ 3 ∧ 32 ≤ 140737488355328)
   (.ite (true && (2 : Int) == (↑(ByteArray.size (strB s)) : Int)) (.need ((0 : Int) ≤ (0 : Int) ∧ (0 : Int) < (1 : Int)) (.need (0 < 1) (.ret (iv (3 : Int)))))
   (.need (false = false) (.ret (iv (0 : Int)))))))
   (.need (false = false)
   (.need (1 ≤ 1)
   (.need ((0 : Int) ≤ (0 : Int) ∧ (0 : Int) ≤ (4611686018427387904 : Int))
   (.ite (hdC1 (4 : Int) (List.drop 0 (Array.toList (ByteArray.data (strB s)))))
   (.need (((0 : Int) ≤ (1 : Int) ∧ 1 ≤ ByteArray.size (strB s)) ∧ (0 : Int) ≤ (0 : Int) ∧ 0 ≤ 1)
   (.need (True ∧ 3 ≤ 3 ∧ 32 ≤ 140737488355328)
   (.ite (true && (1 : Int) == (↑(ByteArray.size (strB s)) : Int)) (.need ((0 : Int) ≤ (0 : Int) ∧ (0 : Int) < (1 : Int)) (.need (0 < 1) (.ret (iv (3 : Int)))))
   (.need (false = false) (.ret (iv (0 : Int)))))))
   (.need ((false && (0 : Int) == (↑(ByteArray.size (strB s)) : Int)) = false) (.need (false = false) (.ret (iv (0 : Int))))))))))))))))))))))))

theorem KKp_eq (s : List UInt8) (w : Nat) : codeK (sub [0, 0] (tKp s)) (.exit 0) (invKw s w) = KKp s w := by kernel_rfl


end Go.Proofs.YtnoodoipghgkgaaDoor

namespace Go.Proofs.YtnoodoipghgkgaaDoor
open Go.Sx
set_option maxRecDepth 100000

theorem sg_ex (s : List UInt8) : ByteArray.extract (strB s) 0 s.length = strB s := by
  rw [strB_extract]; exact congrArg strB (List.take_of_length_le (Nat.le_refl _))
theorem kindL_wd {s : List UInt8} (h : wKind (s.takeWhile isWd) ≠ 0) : kindL s = if (s.takeWhile isWd).length = s.length then wKind (s.takeWhile isWd) else 0 := by
  have h1 : tokN s = (s.takeWhile isWd).length := by unfold tokN; rw [if_neg h]
  have h2 : tokK s = wKind (s.takeWhile isWd) := by unfold tokK; rw [if_neg h]
  have h3 : s.takeWhile isWd ≠ [] := by intro e; rw [e] at h; exact h rfl
  have h4 := List.length_pos_iff.2 h3
  unfold kindL
  rw [h1, h2]
  split <;> split <;> first | rfl | omega
theorem kindL_sg {s : List UInt8} (h : wKind (s.takeWhile isWd) = 0) : kindL s = if 0 < sgLen s ∧ sgLen s = s.length then 3 else 0 := by
  unfold kindL tokN tokK
  rw [if_pos h, if_pos h]
theorem sgLen_2 {s : List UInt8} (h : (pre2 45 62 s || pre2 61 61 s) = true) : sgLen s = 2 := by unfold sgLen; rw [if_pos h]
theorem sgLen_1 {s : List UInt8} (h1 : pre2 45 62 s = false) (h2 : pre2 61 61 s = false) : sgLen s = if hd1 isSg s then 1 else 0 := by unfold sgLen; rw [h1, h2]; rfl
theorem len2 {x y : UInt8} {s : List UInt8} (h : pre2 x y s = true) : 2 ≤ s.length := by
  match s, h with
  | a :: b :: l, _ => simp
theorem len1 {p : UInt8 → Bool} {s : List UInt8} (h : hd1 p s = true) : 1 ≤ s.length := by
  match s, h with
  | a :: l, _ => simp

/-- A string that is one sign, or nothing. -/
theorem sg_leaf {s : List UInt8} (hk : wKind (s.takeWhile isWd) = 0) (b : Bool) (hb : (0 < sgLen s ∧ sgLen s = s.length) ↔ b = true) : kindL s = if b then 3 else 0 := by
  rw [kindL_sg hk]
  cases b with
  | true => rw [if_pos (hb.2 rfl)]; rfl
  | false => rw [if_neg (fun h => by simpa using hb.1 h)]; rfl

theorem kp_sat {s : List UInt8} (hs : s.length ≤ 100000) : Sat Tryd.prog (tKp s) (· = iv (kindL s)) := by
  constructor
  rw [LKp_eq]; unfold LKp
  refine ⟨(by first | trivial | rfl), by omega, ?_⟩
  refine code_satS C3_ok D3_ok (n := 300) (n0 := 1) (nx := 1) (roots := []) (keep := [0, 2, 3]) (drop := []) (h := kE) (c := codeC (sub [0, 0] (tKp s))) (st := codeS (sub [0, 0] (tKp s))) (k := codeK (sub [0, 0] (tKp s))) (body := bodyWd) (by kernel_rfl) (by kernel_rfl)
    (fun q t => ∃ w : Nat, q = s.length - w ∧ w ≤ s.length ∧ (∀ i, i < w → isWd (s.getD i 0) = true) ∧ t = invKw s w)
    (fun e t => e = .exit 0 ∧ t = invKw s (s.takeWhile isWd).length)
    ⟨_, _, ⟨0, rfl, by omega, fun i hi => by omega, rfl⟩, ?_⟩ ?_ ?_
  · exact entA_sound (roots := []) (keep := [0, 2, 3]) (drop := []) (nx := 1) (h := kE) (by kernel_rfl)
  · rintro q t ⟨w, rfl, hw, hall, rfl⟩
    refine Sat.of_eq (BKw_eq s w) ?_
    constructor
    unfold BKw
    have e0 : Int.toNat ((0 : Int) + (w : Int)) = w := by omega
    simp only [strB_list, e0, hdC2_wd]
    refine ⟨by omega, ⟨by omega, by omega⟩, fun h2 => ?_, fun h2 => ?_⟩
    · have hlt : w < s.length := by
        rcases Nat.lt_or_ge w s.length with h5 | h5
        · exact h5
        · rw [hdo h5] at h2; cases h2
      rw [hdd hlt] at h2
      have w1 : w64 ((w : Int) + 1) = ((w + 1 : Nat) : Int) := by rw [w64_of (by omega) (by omega)]; omega
      rw [w1]
      refine ⟨s.length - (w + 1), _, by omega, ⟨w + 1, rfl, by omega, fun i hi => ?_, rfl⟩, Gc.refl _ _⟩
      rcases Nat.lt_or_ge i w with h5 | h5
      · exact hall i h5
      · obtain rfl : i = w := by omega
        exact h2
    · have e : s.takeWhile isWd = s.take w := by
        refine tw_at hw hall fun h5 => ?_
        rw [hdd h5] at h2; exact h2
      have el : (s.takeWhile isWd).length = w := by rw [e, List.length_take]; omega
      refine ⟨_, ⟨rfl, ?_⟩, Gc.refl _ _⟩
      rw [el]; rfl
  · rintro e t ⟨rfl, rfl⟩
    obtain ⟨W, hW⟩ : ∃ W, s.takeWhile isWd = W := ⟨_, rfl⟩
    have hWle := tw_le isWd s
    have hWp := tw_pre isWd s
    have hWa := tw_all s
    rw [hW] at hWle hWp hWa ⊢
    refine Sat.of_eq (KKp_eq s W.length) ⟨?_⟩
    unfold KKp
    have w0 : w64 ((0 : Int) + (W.length : Int)) = (W.length : Int) := by rw [w64_of (by omega) (by omega)]; omega
    have ex : ByteArray.extract (strB s) 0 W.length = strB W := by rw [strB_extract]; exact congrArg strB hWp
    have ex2 := sg_ex s
    have eIn : (fun b => isLet b || isDg b) = isWd := rfl
    have sgc : ∀ {r : SV}, wKind W = 0 → ∀ b : Bool, ((0 < sgLen s ∧ sgLen s = s.length) ↔ b = true) → r = iv ((if b then 3 else 0 : Nat) : Int) → r = iv (kindL s) := by
      intro r hk b hb hr
      rw [hr, sg_leaf (by rw [hW]; exact hk) b hb]
    simp only [w0, Int.toNat_natCast, ex, ex2, strB_size, strB_list, eIn, prefix2, List.drop_zero, hdC1_sg, Bool.true_and, Bool.false_and]
    refine ⟨⟨⟨by omega, hWle⟩, by omega, by omega⟩, ⟨hWa, by omega⟩, fun hk => ?_, fun hk => ?_⟩
    · have hk' : wKind W ≠ 0 := by simpa using hk
      have hkl := kindL_wd (s := s) (by rw [hW]; exact hk')
      rw [hW] at hkl
      refine ⟨⟨⟨by omega, hWle⟩, by omega, by omega⟩, ⟨(by first | trivial | rfl), by omega, by omega⟩, fun hl => ?_, fun hl => ?_⟩
      · rw [beq_iff_eq] at hl
        refine ⟨by omega, by omega, ?_⟩
        rw [hkl, if_pos (by omega)]; rfl
      · rw [beq_eq_false_iff_ne] at hl
        have hne : ¬ W.length = s.length := fun h => hl (by rw [h])
        have hk0 : kindL s = 0 := by rw [hkl, if_neg hne]
        have hwd : hd1 isWd s = true := by
          cases hh : hd1 isWd s with
          | true => rfl
          | false => rw [tw_eq_nil hh] at hW; rw [← hW] at hk'; exact absurd rfl hk'
        have hsg := sgLen_wd hwd
        have fls : ∀ x y : UInt8, isWd x = false → pre2 x y s = true → False := by
          intro x y hx hp
          have := pre2_hd hp isWd
          rw [hwd, hx] at this; cases this
        refine ⟨(by first | trivial | rfl), by omega, (by first | trivial | rfl), by omega, by omega, ⟨(by first | trivial | rfl), by omega, by omega⟩, fun hp => (fls _ _ (by decide) hp).elim, fun _ => ⟨(by first | trivial | rfl), by omega, by omega, ⟨(by first | trivial | rfl), by omega, by omega⟩, fun hp => (fls _ _ (by decide) hp).elim, fun _ => ⟨(by first | trivial | rfl), by omega, by omega, fun hg => ?_, fun _ => ⟨(by first | trivial | rfl), (by first | trivial | rfl), ?_⟩⟩⟩⟩
        · exfalso
          have h1 : sgLen s ≠ 0 := by
            unfold sgLen; rw [hg]; split <;> simp
          exact h1 hsg
        · rw [hk0]; rfl
    · have hk' : wKind W = 0 := by simpa using hk
      refine ⟨(by first | trivial | rfl), (by first | trivial | rfl), by omega, (by first | trivial | rfl), by omega, by omega, ⟨(by first | trivial | rfl), by omega, by omega⟩, fun hp => ?_, fun hp => ⟨(by first | trivial | rfl), by omega, by omega, ⟨(by first | trivial | rfl), by omega, by omega⟩, fun hq => ?_, fun hq => ⟨(by first | trivial | rfl), by omega, by omega, fun hg => ?_, fun hg => ⟨(by first | trivial | rfl), (by first | trivial | rfl), ?_⟩⟩⟩⟩
      · have h2 := len2 hp
        have h3 := sgLen_2 (s := s) (by rw [hp]; rfl)
        refine ⟨⟨⟨by omega, by omega⟩, by omega, by omega⟩, ⟨(by first | trivial | rfl), by omega, by omega⟩, fun hl => ⟨by omega, by omega, ?_⟩, fun hl => ⟨(by first | trivial | rfl), ?_⟩⟩
        · rw [beq_iff_eq] at hl
          exact sgc hk' true ⟨fun _ => rfl, fun _ => by omega⟩ rfl
        · rw [beq_eq_false_iff_ne] at hl
          exact sgc hk' false ⟨fun h => by exfalso; omega, fun h => by cases h⟩ rfl
      · have h2 := len2 hq
        have h3 := sgLen_2 (s := s) (by rw [hq, Bool.or_true])
        refine ⟨⟨⟨by omega, by omega⟩, by omega, by omega⟩, ⟨(by first | trivial | rfl), by omega, by omega⟩, fun hl => ⟨by omega, by omega, ?_⟩, fun hl => ⟨(by first | trivial | rfl), ?_⟩⟩
        · rw [beq_iff_eq] at hl
          exact sgc hk' true ⟨fun _ => rfl, fun _ => by omega⟩ rfl
        · rw [beq_eq_false_iff_ne] at hl
          exact sgc hk' false ⟨fun h => by exfalso; omega, fun h => by cases h⟩ rfl
      · have h2 := len1 hg
        have h3 := sgLen_1 hp hq
        rw [if_pos hg] at h3
        refine ⟨⟨⟨by omega, by omega⟩, by omega, by omega⟩, ⟨(by first | trivial | rfl), by omega, by omega⟩, fun hl => ⟨by omega, by omega, ?_⟩, fun hl => ⟨(by first | trivial | rfl), ?_⟩⟩
        · rw [beq_iff_eq] at hl
          exact sgc hk' true ⟨fun _ => rfl, fun _ => by omega⟩ rfl
        · rw [beq_eq_false_iff_ne] at hl
          exact sgc hk' false ⟨fun h => by exfalso; omega, fun h => by cases h⟩ rfl
      · have h3 := sgLen_1 hp hq
        rw [if_neg (by rw [hg]; simp)] at h3
        exact sgc hk' false ⟨fun h => by exfalso; omega, fun h => by cases h⟩ rfl
noncomputable def cKp : Ctr := fun ss => match ss with
  | [.d (.x (.string s))] => .need (s.size ≤ 100000) (.ret (iv (kindL s.data.toList)))
  | _ => .fail
theorem cKp_ok : CtrOK Tryd.prog 16 cKp := by
  refine ctrOK_leS C3_ok D3_ok (by kernel_rfl) (by kernel_rfl) fun ss r h => ?_
  unfold cKp at h
  split at h
  · rename_i s
    obtain ⟨h2, rfl⟩ := h
    rw [size_list] at h2
    have kk := kp_sat h2
    exact ⟨[strV s.data.toList], 200, .u (.t .nil), ⟨str_le s, rfl⟩, kk⟩
  · exact h.elim
end Go.Proofs.YtnoodoipghgkgaaDoor

namespace Go.Proofs.YtnoodoipghgkgaaDoor
open Go.Sx
set_option maxRecDepth 100000

theorem tw_full {p : UInt8 → Bool} : ∀ {l : List UInt8}, l.all p = true → l.takeWhile p = l
  | [], _ => rfl
  | b :: l, h => by
    rw [List.all_cons, Bool.and_eq_true] at h
    simp only [List.takeWhile, h.1]
    rw [tw_full h.2]
theorem tw_part {p : UInt8 → Bool} : ∀ {l : List UInt8}, l.all p = false → (l.takeWhile p).length ≠ l.length
  | [], h => by cases h
  | b :: l, h => by
    rw [List.all_cons] at h
    cases hb : p b with
    | true =>
      rw [hb, Bool.true_and] at h
      have := tw_part h
      simp only [List.takeWhile, hb, List.length_cons]; omega
    | false => simp only [List.takeWhile, hb, List.length_cons, List.length_nil]; omega
theorem kindR_L (s : List UInt8) : kindL s = if 0 < s.length ∧ sgLen s = s.length then 3 else kindR s := by
  cases ha : s.all isWd with
  | true =>
    have e := tw_full ha
    by_cases hk : wKind s = 0
    · rw [kindL_sg (by rw [e]; exact hk)]
      unfold kindR
      rw [if_pos ha, hk]
      split <;> split <;> first | rfl | omega
    · have hwd : hd1 isWd s = true := by
        cases hh : hd1 isWd s with
        | true => rfl
        | false => rw [tw_eq_nil hh] at e; rw [← e] at hk; exact absurd rfl hk
      rw [kindL_wd (by rw [e]; exact hk), sgLen_wd hwd]
      unfold kindR
      rw [if_pos ha, e, if_pos rfl, if_neg (by omega)]
  | false =>
    have e := tw_part ha
    have hr : kindR s = 0 := by unfold kindR; rw [ha]; rfl
    rw [hr]
    by_cases hk : wKind (s.takeWhile isWd) = 0
    · rw [kindL_sg hk]
      split <;> split <;> first | rfl | omega
    · have hwd : hd1 isWd s = true := by
        cases hh : hd1 isWd s with
        | true => rfl
        | false => rw [tw_eq_nil hh] at hk; exact absurd rfl hk
      rw [kindL_wd hk, sgLen_wd hwd, if_neg e, if_neg (by omega)]
theorem kr_sat {s : List UInt8} (hs : s.length ≤ 100000) : Sat Tryd.prog (T2 .nil 17 [strV s]) (· = iv (kindL s)) := by
  constructor
  rw [LKr_eq]; unfold LKr LKr_q1
  simp only [strB_size, strB_list, List.drop_zero]
  rw [kindR_L]
  refine ⟨fun h => ?_, fun h => ?_, fun h => ⟨by omega, ?_⟩⟩
  · have := of_decide_eq_true h; exact ⟨by omega, by omega, by omega⟩
  · rw [Bool.and_eq_true, decide_eq_true_eq, beq_iff_eq] at h
    rw [if_pos (by omega)]; rfl
  · rw [Bool.and_eq_false_iff, decide_eq_false_iff_not, beq_eq_false_iff_ne] at h
    rw [if_neg (by omega)]; rfl
theorem cKr_ok : CtrOK Tryd.prog 17 cKp := by
  refine ctrOK_leS C2_ok D2_ok (by kernel_rfl) (by kernel_rfl) fun ss r h => ?_
  unfold cKp at h
  split at h
  · rename_i s
    obtain ⟨h2, rfl⟩ := h
    rw [size_list] at h2
    have kk := kr_sat h2
    exact ⟨[strV s.data.toList], 200, .nil, ⟨str_le s, rfl⟩, kk⟩
  · exact h.elim

noncomputable def cAl : Ctr := fun ss => match ss with
  | [.agg [.d (.ro n 3 c), .d (.x (.int .i64 a)), .d (.x (.int .i64 e))], .agg [.d (.ro m 3 d), .d (.x (.int .i64 b)), .d (.x (.int .i64 f))]] =>
    .need (TokOK n c ∧ TokOK m d ∧ n ≤ 1000000 ∧ ∀ i, tkA (tokR n c) i ≤ 1000000000) (.ret (bv ((e == f && a == b) && smB n (tokR n c) m (tokR m d) 0)))
  | _ => .fail
theorem al_sat {n m : Nat} {L M : List Tok} {a e b f : Int} (hL : L.length = n) (hM : M.length = m) (hn : n ≤ 1000000) (ha : ∀ i, tkA L i ≤ 1000000000) :
    Sat Tryd.prog (T3 .nil 14 [lxd n L a e, lxd m M b f]) (· = bv ((e == f && a == b) && smB n L m M 0)) := by
  constructor
  rw [LAl_eq]; unfold LAl
  have h1 : tokR n (tkC L) = L := tokR_of hL fun _ _ _ _ => rfl
  have h2 : tokR m (tkC M) = M := tokR_of hM fun _ _ _ _ => rfl
  have e1 : LAl_q2 L = tkC L := rfl
  have e2 : LAl_q3 M = tkC M := rfl
  rw [e1, e2, h1, h2]
  refine ⟨fun _ => ⟨fun _ _ _ _ => rfl, fun _ _ _ _ => rfl, hn, ⟨by omega, by omega⟩, ha⟩, rfl⟩
theorem cAl_ok : CtrOK Tryd.prog 14 cAl := by
  refine ctrOK_leS C3_ok D3_ok (by kernel_rfl) (by kernel_rfl) fun ss r h => ?_
  unfold cAl at h
  split at h
  · rename_i n c a e m d b f
    obtain ⟨⟨h1, h2, h3, h4⟩, rfl⟩ := h
    have kk := al_sat (n := n) (m := m) (L := tokR n c) (M := tokR m d) (a := a) (e := e) (b := b) (f := f) (tokR_len _ _) (tokR_len _ _) h3 h4
    exact ⟨[lxd n (tokR n c) a e, lxd m (tokR m d) b f], 200, .nil, ⟨⟨tok_le h1, rfl, rfl, rfl⟩, ⟨tok_le h2, rfl, rfl, rfl⟩, rfl⟩, kk⟩
  · exact h.elim
noncomputable def tPc : Tree SV := T3 .nil 25 []
end Go.Proofs.YtnoodoipghgkgaaDoor

namespace Go.Proofs.YtnoodoipghgkgaaDoor
open Go.Sx
set_option maxRecDepth 100000

noncomputable def pcX : SV := .d (.ro 50 1 (fun i j => dsAt (pcs.map fun t => .x (.string (strB t))) (0 + (0 + i) * 1 + j)))
noncomputable def LPc : Tree SV := .need (50 ≤ 50) (.ret pcX)
theorem LPc_eq : tPc = LPc := by kernel_rfl
theorem pc_le : leSV 0 [] [] pcX (.d (.ro 50 1 (txD pcs))) := by
  refine ⟨rfl, rfl, fun i j hi hj => ?_⟩
  have hl : (pcs.map fun t => (DV.x (.string (strB t)))).length = 50 := by rw [List.length_map]; rfl
  have : j = 0 := by omega
  subst this
  have e : 0 + (0 + i) * 1 + 0 = i := by omega
  show dsAt _ (0 + (0 + i) * 1 + 0) = _
  rw [e, dsAt_eq (by rw [hl]; exact hi)]
  have hi' : i < pcs.length := by rw [List.length_map] at hl; omega
  unfold txD txT
  rw [List.getD_eq_getElem?_getD, List.getElem?_map, List.getD_eq_getElem?_getD, List.getElem?_eq_getElem hi']
  rfl
noncomputable def cPc : Ctr := fun ss => match ss with
  | [] => .ret (.d (.ro 50 1 (txD pcs)))
  | _ => .fail
theorem cPc_ok : CtrOK Tryd.prog 25 cPc := by
  refine ctrOK_leR C3_ok D3_ok (by kernel_rfl) (by kernel_rfl) fun ss r h => ?_
  unfold cPc at h
  split at h
  · cases h
    refine ⟨[], 200, .nil, rfl, ⟨?_⟩⟩
    show Tree.sat _ tPc _
    rw [LPc_eq]
    exact ⟨by omega, pc_le⟩
  · exact h.elim
noncomputable def man4 : FuncId → Option Ctr := fun k => match k with
  | 14 => some cAl
  | 15 => some cLx
  | 16 => some cKp
  | 17 => some cKp
  | 25 => some cPc
  | 26 => some cLp
  | k => man3 k
theorem man4_ok (k : Nat) (c : Ctr) (h : man4 k = some c) : CtrOK Tryd.prog k c ∧ goodF Tryd.prog k = true := by
  unfold man4 at h
  split at h
  · cases h; exact ⟨cAl_ok, by kernel_rfl⟩
  · cases h; exact ⟨cLx_ok, by kernel_rfl⟩
  · cases h; exact ⟨cKp_ok, by kernel_rfl⟩
  · cases h; exact ⟨cKr_ok, by kernel_rfl⟩
  · cases h; exact ⟨cPc_ok, by kernel_rfl⟩
  · cases h; exact ⟨cLp_ok, by kernel_rfl⟩
  · exact man3_ok _ _ h
noncomputable def C4 : Ctx := ctxN Tryd.prog man4 (fun _ => false) 200 .nil 6
theorem C4_ok : CtxOK Tryd.prog C4 := ctxN_ok mixed man4_ok 6
noncomputable def D4 : Dr := fun _ => drawn Tryd.prog C4
theorem D4_ok : DrOK Tryd.prog C4 D4 := drawn_ok C4_ok mixed
noncomputable def T4 (h : Hint) (k : Nat) (args : List SV) : Tree SV := fnT Tryd.prog C4 D4 200 (fnOf Tryd.prog k) (bodyOf Tryd.prog k) args h
/-- Bytes as cells. -/
def byN (b : List UInt8) (i : Nat) : Nat := (b.getD i 0).toNat
def byC (b : List UInt8) (i j : Nat) : DV := .x (.int .u8 (byN b i))
noncomputable def byT (n : Nat) (b : List UInt8) : SV := .d (.ro n 1 (byC b))
noncomputable def tMa (n : Nat) (b : List UInt8) : Tree SV := T4 .nil 11 [byT n b]
noncomputable def tCl (n : Nat) (b : List UInt8) : Tree SV := T4 .nil 12 [byT n b]
noncomputable def tWh (s : List UInt8) : Tree SV := T4 .nil 22 [strV s]
noncomputable def invMa (n : Nat) (b : List UInt8) (P : List (List UInt8)) (o : List UInt8) (i : Nat) : AS := ⟨[.ok (byT n b), .unk, .ok (strV []), .ok (.d (.ro 50 1 (txD P))), .ok (strV o), .ok (iv i)] ++ List.replicate 45 .unk, [], 0, .nil⟩
noncomputable def bodyMa : Code := loopN (bodyOf Tryd.prog 11) 0
noncomputable def invCl (n : Nat) (b : List UInt8) (P : List (List UInt8)) (o : List UInt8) (i : Nat) : AS := ⟨[.ok (byT n b), .unk, .ok (strV []), .ok (.d (.ro 50 1 (txD P))), .ok (strV o), .ok (iv i)] ++ List.replicate 32 .unk, [], 0, .nil⟩
noncomputable def bodyCl : Code := loopN (bodyOf Tryd.prog 12) 0
noncomputable def invWh (s : List UInt8) (i : Nat) : AS := ⟨[.ok (strV s), .unk, .ok (bv false), .ok (iv i)] ++ List.replicate 46 .unk, [], 0, .nil⟩
noncomputable def bodyWh : Code := loopN (bodyOf Tryd.prog 22) 0
noncomputable def bodyWi : Code := loopN (bodyOf Tryd.prog 22) 1
end Go.Proofs.YtnoodoipghgkgaaDoor

namespace Go.Proofs.YtnoodoipghgkgaaDoor
open Go.Sx
set_option maxRecDepth 100000

noncomputable def LMa (n : Nat) (b : List UInt8) : Tree SV :=
  .code (codeC (sub [] (tMa n b))) (codeS (sub [] (tMa n b))) (codeK (sub [] (tMa n b)))

theorem LMa_eq (n : Nat) (b : List UInt8) : tMa n b = LMa n b := by kernel_rfl

noncomputable def LCl (n : Nat) (b : List UInt8) : Tree SV :=
  .code (codeC (sub [] (tCl n b))) (codeS (sub [] (tCl n b))) (codeK (sub [] (tCl n b)))

theorem LCl_eq (n : Nat) (b : List UInt8) : tCl n b = LCl n b := by kernel_rfl

noncomputable def LWh (s : List UInt8) : Tree SV :=
  .code (codeC (sub [] (tWh s))) (codeS (sub [] (tWh s))) (codeK (sub [] (tWh s)))

theorem LWh_eq (s : List UInt8) : tWh s = LWh s := by kernel_rfl

noncomputable def BMa (n : Nat) (b : List UInt8) (P : List (List UInt8)) (o : List UInt8) (i : Nat) : Tree (Ex × AS) :=
  .ite (decide ((↑i : Int) < (↑n : Int)) && decide ((↑i : Int) < (60 : Int)))
  (.need ((0 : Int) ≤ (↑i : Int) ∧ (↑i : Int) < (↑n : Int))
   (.need ((40 : Int) ≠ (0 : Int))
   (.need ((0 : Int) ≤ (↑i : Int) ∧ (↑i : Int) < (↑n : Int))
   (.ite (decide ((↑(byN b (Int.toNat (↑i : Int))) : Int) ≥ (240 : Int)))
   (.need ((0 : Int) ≤ (↑i : Int) ∧ (↑i : Int) < (↑n : Int))
   (.need ((10 : Int) ≠ (0 : Int))
   (.need ((0 : Int) ≤ w64 ((40 : Int) + Int.tmod (w64 (↑(byN b (Int.toNat (↑i : Int))) : Int)) (10 : Int)) ∧ w64 ((40 : Int) + Int.tmod (w64 (↑(byN b (Int.toNat (↑i : Int))) : Int)) (10 : Int)) < (50 : Int))
   (.need (ByteArray.size (strB o) + ByteArray.size (txT P (Int.toNat (w64 ((40 : Int) + Int.tmod (w64 (↑(byN b (Int.toNat (↑i : Int))) : Int)) (10 : Int))))) ≤ 9223372036854775807)
   (.need ((0 : Int) ≤ (↑i : Int) ∧ (↑i : Int) < (↑n : Int))
   (.need ((3 : Int) ≠ (0 : Int))
   (.ite (decide (Int.tmod (↑(byN b (Int.toNat (↑i : Int))) : Int) (3 : Int) > (0 : Int)))
   (.need (ByteArray.size (strB o ++ txT P (Int.toNat (w64 ((40 : Int) + Int.tmod (w64 (↑(byN b (Int.toNat (↑i : Int))) : Int)) (10 : Int))))) + 1 ≤ 9223372036854775807)
   (.ret
   (.normal,
   {
   tm :=
   [.ok (SV.d (DV.ro n 1 fun i j => DV.x (.int .u8 (↑(byN b i) : Int)))), .unk, .ok (SV.d (DV.x (.string (strB [])))),
   .ok (SV.d (DV.ro 50 1 fun i j => DV.x (.string (txT P i)))),
   .ok (SV.d (DV.x (.string (strB o ++ txT P (Int.toNat (w64 ((40 : Int) + Int.tmod (w64 (↑(byN b (Int.toNat (↑i : Int))) : Int)) (10 : Int)))) ++ strB [(32 : UInt8)])))),
   .ok (iv (w64 ((↑i : Int) + (1 : Int)))), .unk, .unk, .unk, .unk, .unk, .unk, .unk, .unk, .unk, .unk, .unk, .unk, .unk, .unk, .unk, .unk, .unk, .unk, .unk, .unk,
   .unk, .unk, .unk, .unk, .unk, .unk, .unk, .unk, .unk, .unk, .unk, .unk, .unk, .unk, .unk, .unk, .unk, .unk, .unk, .unk, .unk, .unk, .unk, .unk, .unk],
   hp := [], next := 0, hint := .nil })))
   (.ret
   (.normal,
   {
   tm :=
   [.ok (SV.d (DV.ro n 1 fun i j => DV.x (.int .u8 (↑(byN b i) : Int)))), .unk, .ok (SV.d (DV.x (.string (strB [])))),
   .ok (SV.d (DV.ro 50 1 fun i j => DV.x (.string (txT P i)))),
   .ok (SV.d (DV.x (.string (strB o ++ txT P (Int.toNat (w64 ((40 : Int) + Int.tmod (w64 (↑(byN b (Int.toNat (↑i : Int))) : Int)) (10 : Int)))))))), .ok (iv (w64 ((↑i : Int) + (1 : Int)))), .unk,
   .unk, .unk, .unk, .unk, .unk, .unk, .unk, .unk, .unk, .unk, .unk, .unk, .unk, .unk, .unk, .unk, .unk, .unk, .unk, .unk, .unk, .unk, .unk, .unk, .unk,
   .unk, .unk, .unk, .unk, .unk, .unk, .unk, .unk, .unk, .unk, .unk, .unk, .unk, .unk, .unk, .unk, .unk, .unk, .unk],
   hp := [], next := 0, hint := .nil })))))))))
   (.need ((0 : Int) ≤ Int.tmod (w64 (↑(byN b (Int.toNat (↑i : Int))) : Int)) (40 : Int) ∧ Int.tmod (w64 (↑(byN b (Int.toNat (↑i : Int))) : Int)) (40 : Int) < (50 : Int))
   (.need (ByteArray.size (strB o) + ByteArray.size (txT P (Int.toNat (Int.tmod (w64 (↑(byN b (Int.toNat (↑i : Int))) : Int)) (40 : Int)))) ≤ 9223372036854775807)
   (.need ((0 : Int) ≤ (↑i : Int) ∧ (↑i : Int) < (↑n : Int))
   (.need ((3 : Int) ≠ (0 : Int))
   (.ite (decide (Int.tmod (↑(byN b (Int.toNat (↑i : Int))) : Int) (3 : Int) > (0 : Int)))
   (.need (ByteArray.size (strB o ++ txT P (Int.toNat (Int.tmod (w64 (↑(byN b (Int.toNat (↑i : Int))) : Int)) (40 : Int)))) + 1 ≤ 9223372036854775807)
   (.ret
   (.normal,
   {
   tm :=
   [.ok (SV.d (DV.ro n 1 fun i j => DV.x (.int .u8 (↑(byN b i) : Int)))), .unk, .ok (SV.d (DV.x (.string (strB [])))),
   .ok (SV.d (DV.ro 50 1 fun i j => DV.x (.string (txT P i)))),
   .ok (SV.d (DV.x (.string (strB o ++ txT P (Int.toNat (Int.tmod (w64 (↑(byN b (Int.toNat (↑i : Int))) : Int)) (40 : Int))) ++ strB [(32 : UInt8)])))), .ok (iv (w64 ((↑i : Int) + (1 : Int)))), .unk,
   .unk, .unk, .unk, .unk, .unk, .unk, .unk, .unk, .unk, .unk, .unk, .unk, .unk, .unk, .unk, .unk, .unk, .unk, .unk, .unk, .unk, .unk, .unk, .unk, .unk, .unk,
   .unk, .unk, .unk, .unk, .unk, .unk, .unk, .unk, .unk, .unk, .unk, .unk, .unk, .unk, .unk, .unk, .unk, .unk],
   hp := [], next := 0, hint := .nil })))
   (.ret
   (.normal,
   {
   tm :=
   [.ok (SV.d (DV.ro n 1 fun i j => DV.x (.int .u8 (↑(byN b i) : Int)))), .unk, .ok (SV.d (DV.x (.string (strB [])))),
   .ok (SV.d (DV.ro 50 1 fun i j => DV.x (.string (txT P i)))),
   .ok (SV.d (DV.x (.string (strB o ++ txT P (Int.toNat (Int.tmod (w64 (↑(byN b (Int.toNat (↑i : Int))) : Int)) (40 : Int))))))), .ok (iv (w64 ((↑i : Int) + (1 : Int)))), .unk, .unk, .unk, .unk,
   .unk, .unk, .unk, .unk, .unk, .unk, .unk, .unk, .unk, .unk, .unk, .unk, .unk, .unk, .unk, .unk, .unk, .unk, .unk, .unk, .unk, .unk, .unk, .unk, .unk, .unk,
   .unk, .unk, .unk, .unk, .unk, .unk, .unk, .unk, .unk, .unk, .unk, .unk, .unk, .unk, .unk],
   hp := [], next := 0, hint := .nil })))))))))))
  (.ret
   (.exit 0,
   {
   tm :=
   [.ok (SV.d (DV.ro n 1 fun i j => DV.x (.int .u8 (↑(byN b i) : Int)))), .unk, .ok (SV.d (DV.x (.string (strB [])))),
   .ok (SV.d (DV.ro 50 1 fun i j => DV.x (.string (txT P i)))), .ok (SV.d (DV.x (.string (strB o)))), .ok (iv (↑i : Int)), .unk, .unk, .unk, .unk, .unk, .unk, .unk, .unk, .unk,
   .unk, .unk, .unk, .unk, .unk, .unk, .unk, .unk, .unk, .unk, .unk, .unk, .unk, .unk, .unk, .unk, .unk, .unk, .unk, .unk, .unk, .unk, .unk, .unk, .unk, .unk, .unk, .unk,
   .unk, .unk, .unk, .unk, .unk, .unk, .unk, .unk],
   hp := [], next := 0, hint := .nil }))

theorem BMa_eq (n : Nat) (b : List UInt8) (P : List (List UInt8)) (o : List UInt8) (i : Nat) : cutT 0 [] [0, 2, 3, 4, 5] [] 0 .nil (exec Tryd.prog C4 D4 200 bodyMa (invMa n b P o i)) = BMa n b P o i := by kernel_rfl

noncomputable def BCl (n : Nat) (b : List UInt8) (P : List (List UInt8)) (o : List UInt8) (i : Nat) : Tree (Ex × AS) :=
  .ite (decide ((↑i : Int) < (↑n : Int)) && decide ((↑i : Int) < (60 : Int)))
  (.need ((0 : Int) ≤ (↑i : Int) ∧ (↑i : Int) < (↑n : Int))
   (.need ((40 : Int) ≠ (0 : Int))
   (.need ((0 : Int) ≤ Int.tmod (w64 (↑(byN b (Int.toNat (↑i : Int))) : Int)) (40 : Int) ∧ Int.tmod (w64 (↑(byN b (Int.toNat (↑i : Int))) : Int)) (40 : Int) < (50 : Int))
   (.need (ByteArray.size (strB o) + ByteArray.size (txT P (Int.toNat (Int.tmod (w64 (↑(byN b (Int.toNat (↑i : Int))) : Int)) (40 : Int)))) ≤ 9223372036854775807)
   (.need ((0 : Int) ≤ (↑i : Int) ∧ (↑i : Int) < (↑n : Int))
   (.ite (decide ((↑(byN b (Int.toNat (↑i : Int))) : Int) ≥ (200 : Int)))
   (.need (ByteArray.size (strB o ++ txT P (Int.toNat (Int.tmod (w64 (↑(byN b (Int.toNat (↑i : Int))) : Int)) (40 : Int)))) + 1 ≤ 9223372036854775807)
   (.ret
   (.normal,
   {
   tm :=
   [.ok (SV.d (DV.ro n 1 fun i j => DV.x (.int .u8 (↑(byN b i) : Int)))), .unk, .ok (SV.d (DV.x (.string (strB [])))),
   .ok (SV.d (DV.ro 50 1 fun i j => DV.x (.string (txT P i)))),
   .ok (SV.d (DV.x (.string (strB o ++ txT P (Int.toNat (Int.tmod (w64 (↑(byN b (Int.toNat (↑i : Int))) : Int)) (40 : Int))) ++ strB [(10 : UInt8)])))), .ok (iv (w64 ((↑i : Int) + (1 : Int)))), .unk,
   .unk, .unk, .unk, .unk, .unk, .unk, .unk, .unk, .unk, .unk, .unk, .unk, .unk, .unk, .unk, .unk, .unk, .unk, .unk, .unk, .unk, .unk, .unk, .unk, .unk, .unk,
   .unk, .unk, .unk, .unk, .unk],
   hp := [], next := 0, hint := .nil })))
   (.need (ByteArray.size (strB o ++ txT P (Int.toNat (Int.tmod (w64 (↑(byN b (Int.toNat (↑i : Int))) : Int)) (40 : Int)))) + 1 ≤ 9223372036854775807)
   (.ret
   (.normal,
   {
   tm :=
   [.ok (SV.d (DV.ro n 1 fun i j => DV.x (.int .u8 (↑(byN b i) : Int)))), .unk, .ok (SV.d (DV.x (.string (strB [])))),
   .ok (SV.d (DV.ro 50 1 fun i j => DV.x (.string (txT P i)))),
   .ok (SV.d (DV.x (.string (strB o ++ txT P (Int.toNat (Int.tmod (w64 (↑(byN b (Int.toNat (↑i : Int))) : Int)) (40 : Int))) ++ strB [(32 : UInt8)])))), .ok (iv (w64 ((↑i : Int) + (1 : Int)))), .unk,
   .unk, .unk, .unk, .unk, .unk, .unk, .unk, .unk, .unk, .unk, .unk, .unk, .unk, .unk, .unk, .unk, .unk, .unk, .unk, .unk, .unk, .unk, .unk, .unk, .unk, .unk,
   .unk, .unk, .unk, .unk, .unk],
   hp := [], next := 0, hint := .nil })))))))))
  (.ret
   (.exit 0,
   {
   tm :=
   [.ok (SV.d (DV.ro n 1 fun i j => DV.x (.int .u8 (↑(byN b i) : Int)))), .unk, .ok (SV.d (DV.x (.string (strB [])))),
   .ok (SV.d (DV.ro 50 1 fun i j => DV.x (.string (txT P i)))), .ok (SV.d (DV.x (.string (strB o)))), .ok (iv (↑i : Int)), .unk, .unk, .unk, .unk, .unk, .unk, .unk, .unk, .unk,
   .unk, .unk, .unk, .unk, .unk, .unk, .unk, .unk, .unk, .unk, .unk, .unk, .unk, .unk, .unk, .unk, .unk, .unk, .unk, .unk, .unk, .unk, .unk],
   hp := [], next := 0, hint := .nil }))

theorem BCl_eq (n : Nat) (b : List UInt8) (P : List (List UInt8)) (o : List UInt8) (i : Nat) : cutT 0 [] [0, 2, 3, 4, 5] [] 0 .nil (exec Tryd.prog C4 D4 200 bodyCl (invCl n b P o i)) = BCl n b P o i := by kernel_rfl

noncomputable def KMa (n : Nat) (b : List UInt8) (P : List (List UInt8)) (o : List UInt8) (i : Nat) : Tree SV :=
  .ret (SV.d (DV.x (.string (strB o))))

theorem KMa_eq (n : Nat) (b : List UInt8) (P : List (List UInt8)) (o : List UInt8) (i : Nat) : codeK (sub [] (tMa n b)) (.exit 0) (invMa n b P o i) = KMa n b P o i := by kernel_rfl

noncomputable def KCl (n : Nat) (b : List UInt8) (P : List (List UInt8)) (o : List UInt8) (i : Nat) : Tree SV :=
  .ret (SV.d (DV.x (.string (strB o))))

theorem KCl_eq (n : Nat) (b : List UInt8) (P : List (List UInt8)) (o : List UInt8) (i : Nat) : codeK (sub [] (tCl n b)) (.exit 0) (invCl n b P o i) = KCl n b P o i := by kernel_rfl

noncomputable def tBWh (s : List UInt8) (i : Nat) : Tree (Ex × AS) := cutT 0 [] [0, 2, 3] [] 0 .nil (exec Tryd.prog C4 D4 200 bodyWh (invWh s i))
noncomputable def BWh (s : List UInt8) (i : Nat) : Tree (Ex × AS) :=
  .ite (decide ((↑i : Int) < (↑(ByteArray.size (strB s)) : Int))) (.need ((0 : Int) ≤ (↑i : Int) ∧ (↑i : Int) < (↑(ByteArray.size (strB s)) : Int)) (.need (((↑(UInt8.toNat (Array.getD (ByteArray.data (strB s)) (Int.toNat (↑i : Int)) (0 : UInt8))) : Int) == (32 : Int)) = false → (0 : Int) ≤ (↑i : Int) ∧ (↑i : Int) < (↑(ByteArray.size (strB s)) : Int)) (.ite ((↑(UInt8.toNat (Array.getD (ByteArray.data (strB s)) (Int.toNat (↑i : Int)) (0 : UInt8))) : Int) == (32 : Int) || (↑(UInt8.toNat (Array.getD (ByteArray.data (strB s)) (Int.toNat (↑i : Int)) (0 : UInt8))) : Int) == (10 : Int)) (.ret (.normal, { tm := [.ok (SV.d (DV.x (.string (strB s)))), .unk, .ok (bv false), .ok (iv (w64 ((↑i : Int) + (1 : Int)))), .unk, .unk, .unk, .unk, .unk, .unk, .unk, .unk, .unk, .unk, .unk, .unk, .unk, .unk, .unk, .unk, .unk, .unk, .unk, .unk, .unk, .unk, .unk, .unk, .unk, .unk, .unk, .unk, .unk, .unk, .unk, .unk, .unk, .unk, .unk, .unk, .unk, .unk, .unk, .unk, .unk, .unk, .unk, .unk, .unk, .unk], hp := [], next := 0, hint := .nil })) (.need ((0 : Int) ≤ (↑i : Int) ∧ (↑i : Int) < (↑(ByteArray.size (strB s)) : Int)) (.need (((↑(UInt8.toNat (Array.getD (ByteArray.data (strB s)) (Int.toNat (↑i : Int)) (0 : UInt8))) : Int) != (47 : Int) || w64 ((↑i : Int) + (1 : Int)) == (↑(ByteArray.size (strB s)) : Int)) = false → (0 : Int) ≤ w64 ((↑i : Int) + (1 : Int)) ∧ w64 ((↑i : Int) + (1 : Int)) < (↑(ByteArray.size (strB s)) : Int)) (.ite ((↑(UInt8.toNat (Array.getD (ByteArray.data (strB s)) (Int.toNat (↑i : Int)) (0 : UInt8))) : Int) != (47 : Int) || w64 ((↑i : Int) + (1 : Int)) == (↑(ByteArray.size (strB s)) : Int) || (↑(UInt8.toNat (Array.getD (ByteArray.data (strB s)) (Int.toNat (w64 ((↑i : Int) + (1 : Int)))) (0 : UInt8))) : Int) != (47 : Int)) (.ret (.ret, { tm := [.ok (SV.d (DV.x (.string (strB s)))), .unk, .ok (bv false), .ok (iv (↑i : Int)), .unk, .unk, .unk, .unk, .unk, .unk, .unk, .unk, .unk, .unk, .unk, .unk, .unk, .unk, .unk, .unk, .unk, .unk, .unk, .unk, .unk, .unk, .unk, .unk, .unk, .unk, .unk, .unk, .unk, .unk, .unk, .unk, .unk, .unk, .unk, .unk, .unk, .unk, .unk, .unk, .unk, .unk, .unk, .unk, .unk, .unk], hp := [], next := 0, hint := .nil })) (.code (codeC (sub [(0 : Nat), (0 : Nat), (0 : Nat), (1 : Nat), (0 : Nat), (0 : Nat), (1 : Nat)] (tBWh s i))) (codeS (sub [(0 : Nat), (0 : Nat), (0 : Nat), (1 : Nat), (0 : Nat), (0 : Nat), (1 : Nat)] (tBWh s i))) (codeK (sub [(0 : Nat), (0 : Nat), (0 : Nat), (1 : Nat), (0 : Nat), (0 : Nat), (1 : Nat)] (tBWh s i)))))))))) (.ret (.exit 0, { tm := [.ok (SV.d (DV.x (.string (strB s)))), .unk, .ok (bv false), .ok (iv (↑i : Int)), .unk, .unk, .unk, .unk, .unk, .unk, .unk, .unk, .unk, .unk, .unk, .unk, .unk, .unk, .unk, .unk, .unk, .unk, .unk, .unk, .unk, .unk, .unk, .unk, .unk, .unk, .unk, .unk, .unk, .unk, .unk, .unk, .unk, .unk, .unk, .unk, .unk, .unk, .unk, .unk, .unk, .unk, .unk, .unk, .unk, .unk], hp := [], next := 0, hint := .nil }))

theorem BWh_eq (s : List UInt8) (i : Nat) : tBWh s i = BWh s i := by kernel_rfl

noncomputable def BWi (s : List UInt8) (i : Nat) : Tree (Ex × AS) :=
  .need (decide ((↑i : Int) < (↑(ByteArray.size (strB s)) : Int)) = true → (0 : Int) ≤ (↑i : Int) ∧ (↑i : Int) < (↑(ByteArray.size (strB s)) : Int)) (.ite (decide ((↑i : Int) < (↑(ByteArray.size (strB s)) : Int)) && (↑(UInt8.toNat (Array.getD (ByteArray.data (strB s)) (Int.toNat (↑i : Int)) (0 : UInt8))) : Int) != (10 : Int)) (.ret (.normal, { tm := [.ok (SV.d (DV.x (.string (strB s)))), .unk, .ok (bv false), .ok (iv (w64 ((↑i : Int) + (1 : Int)))), .unk, .unk, .unk, .unk, .unk, .unk, .unk, .unk, .unk, .unk, .unk, .unk, .unk, .unk, .unk, .unk, .unk, .unk, .unk, .unk, .unk, .unk, .unk, .unk, .unk, .unk, .unk, .unk, .unk, .unk, .unk, .unk, .unk, .unk, .unk, .unk, .unk, .unk, .unk, .unk, .unk, .unk, .unk, .unk, .unk, .unk], hp := [], next := 0, hint := .nil })) (.ret (.exit 2, { tm := [.ok (SV.d (DV.x (.string (strB s)))), .unk, .ok (bv false), .ok (iv (↑i : Int)), .unk, .unk, .unk, .unk, .unk, .unk, .unk, .unk, .unk, .unk, .unk, .unk, .unk, .unk, .unk, .unk, .unk, .unk, .unk, .unk, .unk, .unk, .unk, .unk, .unk, .unk, .unk, .unk, .unk, .unk, .unk, .unk, .unk, .unk, .unk, .unk, .unk, .unk, .unk, .unk, .unk, .unk, .unk, .unk, .unk, .unk], hp := [], next := 0, hint := .nil })))

theorem BWi_eq (s : List UInt8) (i : Nat) : cutT 0 [] [0, 2, 3] [] 0 .nil (exec Tryd.prog C4 D4 200 bodyWi (invWh s i)) = BWi s i := by kernel_rfl

noncomputable def KWi (s : List UInt8) (i j : Nat) : Tree (Ex × AS) :=
  .ret
  (.normal,
   {
   tm :=
   [.ok (SV.d (DV.x (.string (strB s)))), .unk, .ok (bv false), .ok (iv (w64 ((↑j : Int) + (1 : Int)))), .unk, .unk, .unk, .unk, .unk, .unk, .unk, .unk, .unk, .unk, .unk, .unk, .unk, .unk,
   .unk, .unk, .unk, .unk, .unk, .unk, .unk, .unk, .unk, .unk, .unk, .unk, .unk, .unk, .unk, .unk, .unk, .unk, .unk, .unk, .unk, .unk, .unk, .unk, .unk, .unk, .unk, .unk,
   .unk, .unk, .unk, .unk],
   hp := [], next := 0, hint := .nil })

theorem KWi_eq (s : List UInt8) (i j : Nat) : codeK (sub [0, 0, 0, 1, 0, 0, 1] (tBWh s i)) (.exit 2) (invWh s j) = KWi s i j := by kernel_rfl

noncomputable def KWh (s : List UInt8) (i : Nat) : Tree SV :=
  .ret (bv true)

theorem KWh_eq (s : List UInt8) (i : Nat) : codeK (sub [] (tWh s)) (.exit 0) (invWh s i) = KWh s i := by kernel_rfl

noncomputable def KWr (s : List UInt8) (i : Nat) : Tree SV :=
  .ret (bv false)

theorem KWr_eq (s : List UInt8) (i : Nat) : codeK (sub [] (tWh s)) .ret (invWh s i) = KWr s i := by kernel_rfl


end Go.Proofs.YtnoodoipghgkgaaDoor

namespace Go.Proofs.YtnoodoipghgkgaaDoor
open Go.Sx
set_option maxRecDepth 100000

theorem byN_lt (b : List UInt8) (i : Nat) : byN b i < 256 := (b.getD i 0).toNat_lt
theorem w_by (b : List UInt8) (i : Nat) : w64 ((byN b i : Nat) : Int) = (byN b i : Nat) := by
  have := byN_lt b i
  rw [w64_of (by omega) (by omega)]
theorem tm_nat (n : Nat) (k : Nat) : Int.tmod ((n : Nat) : Int) ((k : Nat) : Int) = ((n % k : Nat) : Int) := rfl
theorem txT_size (i : Nat) : (txT pcs i).size ≤ 9 := by unfold txT; rw [strB_size]; exact pcs_len i

theorem ma_sat {n : Nat} {b : List UInt8} : Sat Tryd.prog (tMa n b) (· = strV (txM (byN b) (min n 60))) := by
  constructor
  rw [LMa_eq]; unfold LMa
  refine code_satS C4_ok D4_ok (n := 200) (n0 := 0) (nx := 0) (roots := []) (keep := [0, 2, 3, 4, 5]) (drop := []) (h := .nil) (c := codeC (sub [] (tMa n b))) (st := codeS (sub [] (tMa n b))) (k := codeK (sub [] (tMa n b))) (body := bodyMa) (by kernel_rfl) (by kernel_rfl)
    (fun q t => ∃ i : Nat, q = 60 - i ∧ i ≤ 60 ∧ i ≤ n ∧ t = invMa n b pcs (txM (byN b) i) i)
    (fun e t => e = .exit 0 ∧ t = invMa n b pcs (txM (byN b) (min n 60)) (min n 60))
    ⟨_, _, ⟨0, rfl, by omega, by omega, rfl⟩, ?_⟩ ?_ ?_
  · exact entA_sound (roots := []) (keep := [0, 2, 3, 4, 5]) (drop := []) (nx := 0) (h := .nil) (by kernel_rfl)
  · rintro q t ⟨i, rfl, hi, hin, rfl⟩
    refine Sat.of_eq (BMa_eq n b pcs _ i) ?_
    constructor
    unfold BMa
    have hb := byN_lt b i
    have e40 : Int.tmod (w64 ((byN b i : Nat) : Int)) 40 = ((byN b i % 40 : Nat) : Int) := by rw [w_by]; exact tm_nat _ 40
    have e10 : Int.tmod (w64 ((byN b i : Nat) : Int)) 10 = ((byN b i % 10 : Nat) : Int) := by rw [w_by]; exact tm_nat _ 10
    have e3 : Int.tmod ((byN b i : Nat) : Int) 3 = ((byN b i % 3 : Nat) : Int) := tm_nat _ 3
    have w40 : w64 (40 + ((byN b i % 10 : Nat) : Int)) = ((40 + byN b i % 10 : Nat) : Int) := by rw [w64_of (by omega) (by omega)]; omega
    have wi : w64 ((i : Int) + 1) = ((i + 1 : Nat) : Int) := by rw [w64_of (by omega) (by omega)]; omega
    have hl := txM_len (byN b) i
    have hs : ∀ k, (strB (txM (byN b) i)).size + (txT pcs k).size ≤ 609 := fun k => by have := txT_size k; rw [strB_size]; omega
    have ap : ∀ k, strB (txM (byN b) i) ++ txT pcs k = strB (txM (byN b) i ++ pcs.getD k []) := fun k => by unfold txT; rw [strB_append]
    have step : ∀ (k : Nat) (sp : Bool), txI (byN b i) = k → decide ((((byN b i % 3 : Nat) : Int)) > 0) = sp → txM (byN b) (i + 1) = txM (byN b) i ++ pcs.getD k [] ++ (if sp then [32] else []) := by
      intro k sp hk h3
      have : (0 < byN b i % 3) ↔ sp = true := by rw [← h3, decide_eq_true_eq]; omega
      simp only [txM, hk, List.append_assoc]
      cases sp with
      | true => rw [if_pos (this.2 rfl)]; rfl
      | false => rw [if_neg (by rw [this]; simp)]; rfl
    simp only [Int.toNat_natCast, e40, e10, e3, w40, wi]
    refine ⟨fun h => ?_, fun h => ?_⟩
    · rw [Bool.and_eq_true, decide_eq_true_eq, decide_eq_true_eq] at h
      refine ⟨by omega, by omega, by omega, fun h2 => ?_, fun h2 => ?_⟩
      · have hk : txI (byN b i) = 40 + byN b i % 10 := by unfold txI; rw [if_pos (by rw [decide_eq_true_eq] at h2; omega)]
        refine ⟨by omega, by omega, by omega, by have := hs (40 + byN b i % 10); omega, by omega, by omega, fun h3 => ⟨?_, ?_⟩, fun h3 => ?_⟩
        · have := hs (40 + byN b i % 10); rw [ByteArray.size_append]; omega
        · refine ⟨60 - (i + 1), _, by omega, ⟨i + 1, rfl, by omega, by omega, ?_⟩, Gc.refl _ _⟩
          rw [step _ true hk h3, ap, ← strB_append]; rfl
        · refine ⟨60 - (i + 1), _, by omega, ⟨i + 1, rfl, by omega, by omega, ?_⟩, Gc.refl _ _⟩
          rw [step _ false hk h3, ap, if_neg (by simp), List.append_nil]; rfl
      · have hk : txI (byN b i) = byN b i % 40 := by unfold txI; rw [if_neg (by rw [decide_eq_false_iff_not] at h2; omega)]
        refine ⟨by omega, by have := hs (byN b i % 40); omega, by omega, by omega, fun h3 => ⟨?_, ?_⟩, fun h3 => ?_⟩
        · have := hs (byN b i % 40); rw [ByteArray.size_append]; omega
        · refine ⟨60 - (i + 1), _, by omega, ⟨i + 1, rfl, by omega, by omega, ?_⟩, Gc.refl _ _⟩
          rw [step _ true hk h3, ap, ← strB_append]; rfl
        · refine ⟨60 - (i + 1), _, by omega, ⟨i + 1, rfl, by omega, by omega, ?_⟩, Gc.refl _ _⟩
          rw [step _ false hk h3, ap, if_neg (by simp), List.append_nil]; rfl
    · rw [Bool.and_eq_false_iff, decide_eq_false_iff_not, decide_eq_false_iff_not] at h
      refine ⟨_, ⟨rfl, ?_⟩, Gc.refl _ _⟩
      have : min n 60 = i := by omega
      rw [this]; rfl
  · rintro e t ⟨rfl, rfl⟩
    exact Sat.of_eq (KMa_eq n b pcs _ _) ⟨rfl⟩

theorem cl_sat {n : Nat} {b : List UInt8} : Sat Tryd.prog (tCl n b) (· = strV (txC (byN b) (min n 60))) := by
  constructor
  rw [LCl_eq]; unfold LCl
  refine code_satS C4_ok D4_ok (n := 200) (n0 := 0) (nx := 0) (roots := []) (keep := [0, 2, 3, 4, 5]) (drop := []) (h := .nil) (c := codeC (sub [] (tCl n b))) (st := codeS (sub [] (tCl n b))) (k := codeK (sub [] (tCl n b))) (body := bodyCl) (by kernel_rfl) (by kernel_rfl)
    (fun q t => ∃ i : Nat, q = 60 - i ∧ i ≤ 60 ∧ i ≤ n ∧ t = invCl n b pcs (txC (byN b) i) i)
    (fun e t => e = .exit 0 ∧ t = invCl n b pcs (txC (byN b) (min n 60)) (min n 60))
    ⟨_, _, ⟨0, rfl, by omega, by omega, rfl⟩, ?_⟩ ?_ ?_
  · exact entA_sound (roots := []) (keep := [0, 2, 3, 4, 5]) (drop := []) (nx := 0) (h := .nil) (by kernel_rfl)
  · rintro q t ⟨i, rfl, hi, hin, rfl⟩
    refine Sat.of_eq (BCl_eq n b pcs _ i) ?_
    constructor
    unfold BCl
    have hb := byN_lt b i
    have e40 : Int.tmod (w64 ((byN b i : Nat) : Int)) 40 = ((byN b i % 40 : Nat) : Int) := by rw [w_by]; exact tm_nat _ 40
    have wi : w64 ((i : Int) + 1) = ((i + 1 : Nat) : Int) := by rw [w64_of (by omega) (by omega)]; omega
    have hl := txC_len (byN b) i
    have hs : ∀ k, (strB (txC (byN b) i)).size + (txT pcs k).size ≤ 609 := fun k => by have := txT_size k; rw [strB_size]; omega
    have ap : ∀ k, strB (txC (byN b) i) ++ txT pcs k = strB (txC (byN b) i ++ pcs.getD k []) := fun k => by unfold txT; rw [strB_append]
    have step : ∀ (c : UInt8), txS (byN b i) = c → txC (byN b) (i + 1) = txC (byN b) i ++ pcs.getD (byN b i % 40) [] ++ [c] := by
      intro c hc
      simp only [txC, hc, List.append_assoc]
    simp only [Int.toNat_natCast, e40, wi]
    refine ⟨fun h => ?_, fun h => ?_⟩
    · rw [Bool.and_eq_true, decide_eq_true_eq, decide_eq_true_eq] at h
      have hss := hs (byN b i % 40)
      refine ⟨by omega, by omega, by omega, by omega, by omega, fun h2 => ⟨by rw [ByteArray.size_append]; omega, ?_⟩, fun h2 => ⟨by rw [ByteArray.size_append]; omega, ?_⟩⟩
      · refine ⟨60 - (i + 1), _, by omega, ⟨i + 1, rfl, by omega, by omega, ?_⟩, Gc.refl _ _⟩
        rw [step 10 (by unfold txS; rw [if_pos (by rw [decide_eq_true_eq] at h2; omega)]), ap, ← strB_append]; rfl
      · refine ⟨60 - (i + 1), _, by omega, ⟨i + 1, rfl, by omega, by omega, ?_⟩, Gc.refl _ _⟩
        rw [step 32 (by unfold txS; rw [if_neg (by rw [decide_eq_false_iff_not] at h2; omega)]), ap, ← strB_append]; rfl
    · rw [Bool.and_eq_false_iff, decide_eq_false_iff_not, decide_eq_false_iff_not] at h
      refine ⟨_, ⟨rfl, ?_⟩, Gc.refl _ _⟩
      have : min n 60 = i := by omega
      rw [this]; rfl
  · rintro e t ⟨rfl, rfl⟩
    exact Sat.of_eq (KCl_eq n b pcs _ _) ⟨rfl⟩

/-! ### white -/
theorem tw_next (p : UInt8 → Bool) : ∀ l : List UInt8, (l.takeWhile p).length < l.length → p (l.getD (l.takeWhile p).length 0) = false
  | [], h => by simp at h
  | b :: l, h => by
    cases hb : p b with
    | false => simp only [List.takeWhile, hb, List.length_nil]; exact hb
    | true =>
      simp only [List.takeWhile, hb, List.length_cons] at h ⊢
      exact tw_next p l (by omega)
theorem skip_sp {l : List UInt8} (h : hd1 isSp l = true) : skipN l = 1 := by unfold skipN; rw [if_pos h]
theorem drop_ne {s : List UInt8} {i : Nat} (h : i < s.length) : s.drop i ≠ [] := by
  intro e
  have := congrArg List.length e
  rw [List.length_drop] at this
  simp at this; omega
theorem wh_sat {s : List UInt8} (hs : s.length ≤ 1000000) : Sat Tryd.prog (tWh s) (· = bv (wh s)) := by
  constructor
  rw [LWh_eq]; unfold LWh
  refine code_satS C4_ok D4_ok (n := 200) (n0 := 0) (nx := 0) (roots := []) (keep := [0, 2, 3]) (drop := []) (h := .nil) (c := codeC (sub [] (tWh s))) (st := codeS (sub [] (tWh s))) (k := codeK (sub [] (tWh s))) (body := bodyWh) (by kernel_rfl) (by kernel_rfl)
    (fun q t => ∃ i : Nat, q = s.length + 1 - i ∧ i ≤ s.length + 1 ∧ wh s = wh (s.drop i) ∧ t = invWh s i)
    (fun e t => (e = .exit 0 ∧ wh s = true ∧ ∃ i, t = invWh s i) ∨ (e = .ret ∧ wh s = false ∧ ∃ i, t = invWh s i))
    ⟨_, _, ⟨0, rfl, by omega, rfl, rfl⟩, ?_⟩ ?_ ?_
  · exact entA_sound (roots := []) (keep := [0, 2, 3]) (drop := []) (nx := 0) (h := .nil) (by kernel_rfl)
  · rintro q t ⟨i, rfl, hi, hw, rfl⟩
    refine Sat.of_eq (BWh_eq s i) ?_
    constructor
    unfold BWh
    have wi : w64 ((i : Int) + 1) = ((i + 1 : Nat) : Int) := by rw [w64_of (by omega) (by omega)]; omega
    simp only [Int.toNat_natCast, wi, strB_at, strB_size, e32, e10]
    refine ⟨fun h => ?_, fun h => ?_⟩
    · have hlt : i < s.length := by rw [decide_eq_true_eq] at h; omega
      refine ⟨by omega, fun _ => by omega, fun h2 => ?_, fun h2 => ?_⟩
      · have hk : skipN (s.drop i) = 1 := by
          unfold skipN
          rw [hdd hlt, if_pos]
          unfold isSp; exact h2
        refine ⟨s.length + 1 - (i + 1), _, by omega, ⟨i + 1, rfl, by omega, ?_, rfl⟩, Gc.refl _ _⟩
        rw [hw, wh_skip (by omega), hk, List.drop_drop]
      · have hsp : hd1 isSp (s.drop i) = false := by rw [hdd hlt]; exact h2
        refine ⟨by omega, fun h3 => ?_, fun h3 => ?_, fun h3 => ?_⟩
        · rw [Bool.or_eq_false_iff] at h3
          have : i + 1 ≠ s.length := by
            have := beq_eq_false_iff_ne.1 h3.2
            omega
          omega
        · refine ⟨_, .inr ⟨rfl, ?_, i, rfl⟩, Gc.refl _ _⟩
          rw [hw]
          refine wh_no (drop_ne hlt) ?_
          unfold skipN cmt
          rw [hsp, pre2d]
          have : (decide (i + 1 < s.length) && (s.getD i 0 == 47 && s.getD (i + 1) 0 == 47)) = false := by
            unfold bne at h3
            rw [e47, e47] at h3
            cases h4 : s.getD i 0 == 47 with
            | false => simp
            | true =>
              cases h5 : s.getD (i + 1) 0 == 47 with
              | false => simp
              | true =>
                rw [h4, h5] at h3
                simp at h3
                rw [decide_eq_false (by omega)]; rfl
          rw [this]; rfl
        · have hc : cmt (s.drop i) = true := by
            unfold cmt
            rw [pre2d]
            unfold bne at h3
            rw [e47, e47] at h3
            rw [Bool.or_eq_false_iff, Bool.or_eq_false_iff] at h3
            obtain ⟨⟨h4, h5⟩, h6⟩ := h3
            rw [beq_eq_false_iff_ne] at h5
            rw [decide_eq_true (by omega)]
            rw [Bool.not_eq_false'] at h4 h6
            rw [h4, h6]; rfl
          have hk : skipN (s.drop i) = ((s.drop i).takeWhile notNl).length := by unfold skipN; rw [hsp, hc]; rfl
          have hwle := tw_le notNl (s.drop i)
          rw [List.length_drop] at hwle
          have hpos : 0 < skipN (s.drop i) := by
            rw [hk]
            have : hd1 notNl (s.drop i) = true := by unfold cmt at hc; exact pre2_hd hc notNl
            exact List.length_pos_iff.2 (tw_hd this)
          refine code_satS C4_ok D4_ok (n := 200) (n0 := 0) (nx := 0) (roots := []) (keep := [0, 2, 3]) (drop := []) (h := .nil) (c := codeC (sub [0, 0, 0, 1, 0, 0, 1] (tBWh s i))) (st := codeS (sub [0, 0, 0, 1, 0, 0, 1] (tBWh s i))) (k := codeK (sub [0, 0, 0, 1, 0, 0, 1] (tBWh s i))) (body := bodyWi) (by kernel_rfl) (by kernel_rfl)
            (fun q t => ∃ w : Nat, q = s.length - (i + w) ∧ i + w ≤ s.length ∧ (∀ j, j < w → notNl ((s.drop i).getD j 0) = true) ∧ t = invWh s (i + w))
            (fun e t => e = .exit 2 ∧ t = invWh s (i + skipN (s.drop i)))
            ⟨_, _, ⟨0, rfl, by omega, fun j hj => by omega, rfl⟩, ?_⟩ ?_ ?_
          · exact entA_sound (roots := []) (keep := [0, 2, 3]) (drop := []) (nx := 0) (h := .nil) (by kernel_rfl)
          · rintro q t ⟨w, rfl, hwl, hall, rfl⟩
            refine Sat.of_eq (BWi_eq s (i + w)) ?_
            constructor
            unfold BWi
            have wi : w64 (((i + w : Nat) : Int) + 1) = ((i + (w + 1) : Nat) : Int) := by rw [w64_of (by omega) (by omega)]; omega
            simp only [Int.toNat_natCast, wi, strB_at, strB_size]
            unfold bne
            rw [e10]
            refine ⟨fun h4 => by rw [decide_eq_true_eq] at h4; omega, fun h4 => ?_, fun h4 => ?_⟩
            · rw [Bool.and_eq_true, decide_eq_true_eq] at h4
              refine ⟨s.length - (i + (w + 1)), _, by omega, ⟨w + 1, rfl, by omega, fun j hj => ?_, rfl⟩, Gc.refl _ _⟩
              rcases Nat.lt_or_ge j w with h5 | h5
              · exact hall j h5
              · obtain rfl : j = w := by omega
                rw [getD_drop]; exact h4.2
            · have e : (s.drop i).takeWhile notNl = (s.drop i).take w := by
                refine tw_at (by rw [List.length_drop]; omega) hall fun h5 => ?_
                rw [List.length_drop] at h5
                rw [getD_drop]
                rw [Bool.and_eq_false_iff, decide_eq_false_iff_not] at h4
                rcases h4 with h4 | h4
                · omega
                · exact h4
              refine ⟨_, ⟨rfl, ?_⟩, Gc.refl _ _⟩
              have : i + w = i + skipN (s.drop i) := by rw [hk, e, List.length_take, List.length_drop]; omega
              rw [← this]; rfl
          · rintro e t ⟨rfl, rfl⟩
            refine Sat.of_eq (KWi_eq s i _) ⟨?_⟩
            unfold KWi
            have wj : w64 (((i + skipN (s.drop i) : Nat) : Int) + 1) = ((i + skipN (s.drop i) + 1 : Nat) : Int) := by rw [w64_of (by omega) (by omega)]; omega
            rw [wj]
            refine ⟨s.length + 1 - (i + skipN (s.drop i) + 1), _, by omega, ⟨i + skipN (s.drop i) + 1, rfl, by omega, ?_, rfl⟩, Gc.refl _ _⟩
            rw [hw, wh_skip hpos, List.drop_drop]
            rcases Nat.lt_or_ge (i + skipN (s.drop i)) s.length with h6 | h6
            · have h7 : skipN (s.drop (i + skipN (s.drop i))) = 1 := by
                have hn := tw_next notNl (s.drop i) (by rw [← hk, List.length_drop]; omega)
                rw [← hk, getD_drop] at hn
                refine skip_sp ?_
                rw [hdd h6]
                generalize s.getD (i + skipN (s.drop i)) 0 = x at hn ⊢
                have : x = 10 := by
                  unfold notNl bne at hn
                  rw [Bool.not_eq_false', beq_iff_eq] at hn; exact hn
                subst this; rfl
              rw [wh_skip (by omega), h7, List.drop_drop]
            · rw [List.drop_eq_nil_of_le h6, List.drop_eq_nil_of_le (by omega)]
    · refine ⟨_, .inl ⟨rfl, ?_, i, rfl⟩, Gc.refl _ _⟩
      rw [decide_eq_false_iff_not] at h
      rw [hw, List.drop_eq_nil_of_le (by omega)]; rfl
  · rintro e t (⟨rfl, h, i, rfl⟩ | ⟨rfl, h, i, rfl⟩)
    · rw [h]; exact Sat.of_eq (KWh_eq s i) ⟨rfl⟩
    · rw [h]; exact Sat.of_eq (KWr_eq s i) ⟨rfl⟩
end Go.Proofs.YtnoodoipghgkgaaDoor

namespace Go.Proofs.YtnoodoipghgkgaaDoor
open Go.Sx
set_option maxRecDepth 100000
set_option maxRecDepth 100000

end Go.Proofs.YtnoodoipghgkgaaDoor
namespace Go.Sx
/-! ### Rows of bytes -/
def byR (n : Nat) (e : Nat → Nat → DV) : List UInt8 := (List.range n).map fun i => match e i 0 with | .x (.int _ v) => UInt8.ofNat v.toNat | _ => 0
/-- The text made of a row of bytes. -/
def mdS (n : Nat) (e : Nat → Nat → DV) : List UInt8 := txM (fun i => ((byR n e).getD i 0).toNat) (min n 60)
/-- The clean text made of a row of bytes. -/
def clS (n : Nat) (e : Nat → Nat → DV) : List UInt8 := txC (fun i => ((byR n e).getD i 0).toNat) (min n 60)
end Go.Sx
namespace Go.Proofs.YtnoodoipghgkgaaDoor
open Go.Sx
set_option maxRecDepth 100000
def ByOK (n : Nat) (e : Nat → Nat → DV) : Prop := ∀ i j, i < n → j < 1 → e i j = byC (byR n e) i j
theorem by_of {n : Nat} {e : Nat → Nat → DV} {b : List UInt8} (hl : b.length = n) (h : ∀ i j, i < n → j < 1 → e i j = byC b i j) : byR n e = b := by
  unfold byR
  refine List.ext_getElem (by simp [hl]) fun i h1 h2 => ?_
  simp only [List.getElem_map, List.getElem_range]
  rw [h i 0 (by simpa using h1) (by omega)]
  unfold byC byN
  show UInt8.ofNat (Int.toNat ((b.getD i 0).toNat : Nat)) = _
  rw [Int.toNat_natCast, UInt8.ofNat_toNat]
  simp [h2]
theorem byOK_C (b : List UInt8) : ByOK b.length (byC b) := fun i j hi hj => by rw [by_of rfl fun i j _ _ => rfl]
theorem by_le {n : Nat} {e : Nat → Nat → DV} (h : ByOK n e) : leSV 0 [] [] (.d (.ro n 1 e)) (byT n (byR n e)) := ⟨rfl, rfl, fun i j hi hj => h i j hi hj⟩

noncomputable def cMa : Ctr := fun ss => match ss with
  | [.d (.ro n 1 e)] => .need (ByOK n e) (.ret (strV (mdS n e)))
  | _ => .fail
theorem cMa_ok : CtrOK Tryd.prog 11 cMa := by
  refine ctrOK_leS C4_ok D4_ok (by kernel_rfl) (by kernel_rfl) fun ss r h => ?_
  unfold cMa at h
  split at h
  · rename_i n e
    obtain ⟨h1, rfl⟩ := h
    exact ⟨[byT n (byR n e)], 200, .nil, ⟨by_le h1, rfl⟩, ma_sat⟩
  · exact h.elim
noncomputable def cCl : Ctr := fun ss => match ss with
  | [.d (.ro n 1 e)] => .need (ByOK n e) (.ret (strV (clS n e)))
  | _ => .fail
theorem cCl_ok : CtrOK Tryd.prog 12 cCl := by
  refine ctrOK_leS C4_ok D4_ok (by kernel_rfl) (by kernel_rfl) fun ss r h => ?_
  unfold cCl at h
  split at h
  · rename_i n e
    obtain ⟨h1, rfl⟩ := h
    exact ⟨[byT n (byR n e)], 200, .nil, ⟨by_le h1, rfl⟩, cl_sat⟩
  · exact h.elim
noncomputable def cWh : Ctr := fun ss => match ss with
  | [.d (.x (.string s))] => .need (s.size ≤ 1000000) (.ret (bv (wh s.data.toList)))
  | _ => .fail
theorem cWh_ok : CtrOK Tryd.prog 22 cWh := by
  refine ctrOK_leS C4_ok D4_ok (by kernel_rfl) (by kernel_rfl) fun ss r h => ?_
  unfold cWh at h
  split at h
  · rename_i s
    obtain ⟨h2, rfl⟩ := h
    rw [size_list] at h2
    exact ⟨[strV s.data.toList], 200, .nil, ⟨str_le s, rfl⟩, wh_sat h2⟩
  · exact h.elim
noncomputable def man5 : FuncId → Option Ctr := fun k => match k with
  | 11 => some cMa
  | 12 => some cCl
  | 22 => some cWh
  | k => man4 k
theorem man5_ok (k : Nat) (c : Ctr) (h : man5 k = some c) : CtrOK Tryd.prog k c ∧ goodF Tryd.prog k = true := by
  unfold man5 at h
  split at h
  · cases h; exact ⟨cMa_ok, by kernel_rfl⟩
  · cases h; exact ⟨cCl_ok, by kernel_rfl⟩
  · cases h; exact ⟨cWh_ok, by kernel_rfl⟩
  · exact man4_ok _ _ h
noncomputable def C5 : Ctx := ctxN Tryd.prog man5 (fun _ => false) 200 .nil 6
theorem C5_ok : CtxOK Tryd.prog C5 := ctxN_ok mixed man5_ok 6
end Go.Proofs.YtnoodoipghgkgaaDoor

