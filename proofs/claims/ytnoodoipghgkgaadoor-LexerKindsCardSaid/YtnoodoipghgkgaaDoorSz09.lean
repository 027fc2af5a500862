/- Part of a proof of the given statements of this seat (SxLxL7, SxLxM7): no conditions beyond those typed here. -/
import Derived.Test.YtnoodoipghgkgaaDoorSz08
set_option linter.unusedVariables false
set_option linter.unusedSimpArgs false
set_option linter.unusedSectionVars false

namespace Go.Proofs.YtnoodoipghgkgaaDoor
open Go.Sx
set_option maxRecDepth 100000

noncomputable def invL7 (L : List Tok) (a e : Int) (i : Nat) : AS := ⟨List.replicate 4 .unk ++ [.ok (bv false), .ok (bv true), .unk, .unk, .ok (.ptr 20 0), .ok (iv i)] ++ List.replicate 92 .unk, List.replicate 20 none ++ [some (.cells [.d (.ro L.length 3 (tkC L)), iv a, iv e]), none], 22, .nil⟩
noncomputable def bodyL7 : Code := loopN (bodyOf Tryd.prog 7) 0
noncomputable def LL7_q1 (s : List UInt8) : Bool :=
  lxE (Array.toList (ByteArray.data (strB s))) == (0 : Int) && (↑(List.length (lxO (Array.toList (ByteArray.data (strB s))))) : Int) == (2 : Int)
noncomputable def LL7_q2 (s : List UInt8) : Bool :=
  LL7_q1 s && strEq (tkT (lxO (Array.toList (ByteArray.data (strB s)))) 0) (strB s)
noncomputable def LL7_q3 (s : List UInt8) : Bool :=
  !((↑(kindL (Array.toList (ByteArray.data (strB s)))) : Int) != (0 : Int)) == LL7_q2 s
noncomputable def LL7_q4 (b : List UInt8) (i : Nat) (j : Nat) : DV :=
  DV.x (.int .u8 (↑(byN b i) : Int))
noncomputable def LL7 (n : Nat) (b s : List UInt8) : Tree SV :=
  .ite (false || decide ((↑(ByteArray.size (strB s)) : Int) > (300 : Int))) (.ret (bv true))
  (.need (ByteArray.size (strB s) ≤ 100000)
   (.need (LL7_q1 s = true → (0 : Int) ≤ (0 : Int) ∧ (0 : Int) < (↑(List.length (lxO (Array.toList (ByteArray.data (strB s))))) : Int))
   (.need (ByteArray.size (strB s) ≤ 100000)
   (.need (LL7_q3 s = false ∧ LL7_q2 s = true → (0 : Int) ≤ (0 : Int) ∧ (0 : Int) < (↑(List.length (lxO (Array.toList (ByteArray.data (strB s))))) : Int))
   (.need (LL7_q3 s = false ∧ LL7_q2 s = true → ByteArray.size (strB s) ≤ 100000)
   (.ite (LL7_q3 s || LL7_q2 s && tkK (lxO (Array.toList (ByteArray.data (strB s)))) 0 != (↑(kindL (Array.toList (ByteArray.data (strB s)))) : Int)) (.ret (bv false))
   (.need (ByOK n (LL7_q4 b))
   (.need (ByteArray.size (strB (clS n (LL7_q4 b))) ≤ 100000)
   (.code (codeC (sub [(1 : Nat), (0 : Nat), (0 : Nat), (0 : Nat), (0 : Nat), (0 : Nat), (1 : Nat), (0 : Nat), (0 : Nat)] (tL7 n b s)))
   (codeS (sub [(1 : Nat), (0 : Nat), (0 : Nat), (0 : Nat), (0 : Nat), (0 : Nat), (1 : Nat), (0 : Nat), (0 : Nat)] (tL7 n b s)))
   (codeK (sub [(1 : Nat), (0 : Nat), (0 : Nat), (0 : Nat), (0 : Nat), (0 : Nat), (1 : Nat), (0 : Nat), (0 : Nat)] (tL7 n b s))))))))))))

theorem LL7_eq (n : Nat) (b s : List UInt8) : tL7 n b s = LL7 n b s := by kernel_rfl

noncomputable def BL7_q1 (L : List Tok) (i : Nat) (j : Nat) : DV :=
  match j with
| (0 : Nat) => DV.x (.int .i64 (tkK L i))
| (1 : Nat) => DV.x (.string (tkT L i))
| x => DV.x (.int .i64 (tkA L i))
noncomputable def BL7 (L : List Tok) (a e : Int) (i : Nat) : Tree (Ex × AS) :=
  .ite (decide (w64 ((↑i : Int) + (1 : Int)) < (↑(List.length L) : Int)))
  (.need ((0 : Int) ≤ (↑i : Int) ∧ (↑i : Int) < (↑(List.length L) : Int))
   (.need (ByteArray.size (tkT L (Int.toNat (↑i : Int))) ≤ 100000)
   (.need ((0 : Int) ≤ (↑i : Int) ∧ (↑i : Int) < (↑(List.length L) : Int))
   (.ite
   ((↑(kindL (Array.toList (ByteArray.data (tkT L (Int.toNat (↑i : Int)))))) : Int) != tkK L (Int.toNat (↑i : Int)) ||
   (↑(kindL (Array.toList (ByteArray.data (tkT L (Int.toNat (↑i : Int)))))) : Int) != (1 : Int) && (↑(kindL (Array.toList (ByteArray.data (tkT L (Int.toNat (↑i : Int)))))) : Int) != (2 : Int) &&
   (↑(kindL (Array.toList (ByteArray.data (tkT L (Int.toNat (↑i : Int)))))) : Int) != (3 : Int))
   (.ret
   (.ret,
   {
   tm :=
   [.unk, .unk, .unk, .unk, .ok (bv false), .ok (bv true), .unk, .unk, .ok (SV.ptr 20 0), .ok (iv (↑i : Int)), .unk, .unk, .unk, .unk, .unk, .unk, .unk, .unk, .unk,
   .unk, .unk, .unk, .unk, .unk, .unk, .unk, .unk, .unk, .unk, .unk, .unk, .unk, .unk, .unk, .unk, .unk, .unk, .unk, .unk, .unk, .unk, .unk, .unk, .unk, .unk, .unk,
   .unk, .unk, .unk, .unk, .unk, .unk, .unk, .unk, .unk, .unk, .unk, .unk, .unk, .unk, .unk, .unk, .unk, .unk, .unk, .unk, .unk, .unk, .unk, .unk, .unk, .unk, .unk,
   .unk, .unk, .unk, .unk, .unk, .unk, .unk, .unk, .unk, .unk, .unk, .unk, .unk, .unk, .unk, .unk, .unk, .unk, .unk, .unk, .unk, .unk, .unk, .unk, .unk, .unk, .unk,
   .unk, .unk],
   hp :=
   [none, none, none, none, none, none, none, none, none, none, none, none, none, none, none, none, none, none, none, none, some (.cells [SV.d (DV.ro (List.length L) 3 (BL7_q1 L)), iv a, iv e]), none],
   next := 22, hint := .nil }))
   (.ret
   (.normal,
   {
   tm :=
   [.unk, .unk, .unk, .unk, .ok (bv false), .ok (bv true), .unk, .unk, .ok (SV.ptr 20 0), .ok (iv (w64 ((↑i : Int) + (1 : Int)))), .unk, .unk, .unk, .unk, .unk, .unk,
   .unk, .unk, .unk, .unk, .unk, .unk, .unk, .unk, .unk, .unk, .unk, .unk, .unk, .unk, .unk, .unk, .unk, .unk, .unk, .unk, .unk, .unk, .unk, .unk, .unk, .unk, .unk,
   .unk, .unk, .unk, .unk, .unk, .unk, .unk, .unk, .unk, .unk, .unk, .unk, .unk, .unk, .unk, .unk, .unk, .unk, .unk, .unk, .unk, .unk, .unk, .unk, .unk, .unk, .unk,
   .unk, .unk, .unk, .unk, .unk, .unk, .unk, .unk, .unk, .unk, .unk, .unk, .unk, .unk, .unk, .unk, .unk, .unk, .unk, .unk, .unk, .unk, .unk, .unk, .unk, .unk, .unk,
   .unk, .unk, .unk, .unk, .unk],
   hp :=
   [none, none, none, none, none, none, none, none, none, none, none, none, none, none, none, none, none, none, none, none, some (.cells [SV.d (DV.ro (List.length L) 3 (BL7_q1 L)), iv a, iv e]), none],
   next := 22, hint := .nil }))))))
  (.ret
   (.exit 0,
   {
   tm :=
   [.unk, .unk, .unk, .unk, .ok (bv false), .ok (bv true), .unk, .unk, .ok (SV.ptr 20 0), .ok (iv (↑i : Int)), .unk, .unk, .unk, .unk, .unk, .unk, .unk, .unk, .unk, .unk,
   .unk, .unk, .unk, .unk, .unk, .unk, .unk, .unk, .unk, .unk, .unk, .unk, .unk, .unk, .unk, .unk, .unk, .unk, .unk, .unk, .unk, .unk, .unk, .unk, .unk, .unk, .unk, .unk,
   .unk, .unk, .unk, .unk, .unk, .unk, .unk, .unk, .unk, .unk, .unk, .unk, .unk, .unk, .unk, .unk, .unk, .unk, .unk, .unk, .unk, .unk, .unk, .unk, .unk, .unk, .unk, .unk,
   .unk, .unk, .unk, .unk, .unk, .unk, .unk, .unk, .unk, .unk, .unk, .unk, .unk, .unk, .unk, .unk, .unk, .unk, .unk, .unk, .unk, .unk, .unk, .unk, .unk, .unk],
   hp := [none, none, none, none, none, none, none, none, none, none, none, none, none, none, none, none, none, none, none, none, some (.cells [SV.d (DV.ro (List.length L) 3 (BL7_q1 L)), iv a, iv e]), none],
   next := 22, hint := .nil }))

theorem BL7_eq (L : List Tok) (a e : Int) (i : Nat) : cutT 22 [] [4, 5, 8, 9] [0, 1, 2, 3, 4, 5, 6, 7, 8, 9, 10, 11, 12, 13, 14, 15, 16, 17, 18, 19, 21] 22 .nil (exec Tryd.prog C6 D6 300 bodyL7 (invL7 L a e i)) = BL7 L a e i := by kernel_rfl

noncomputable def KL7 (n : Nat) (b s : List UInt8) (L : List Tok) (a e : Int) (i : Nat) : Tree SV :=
  .ret (bv (e == (0 : Int) && true))

theorem KL7_eq (n : Nat) (b s : List UInt8) (L : List Tok) (a e : Int) (i : Nat) : codeK (sub [1, 0, 0, 0, 0, 0, 1, 0, 0] (tL7 n b s)) (.exit 0) (invL7 L a e i) = KL7 n b s L a e i := by kernel_rfl


end Go.Proofs.YtnoodoipghgkgaaDoor

namespace Go.Proofs.YtnoodoipghgkgaaDoor
open Go.Sx
set_option maxRecDepth 100000

theorem alone_eq {s : List UInt8} (hs : s.length ≤ 300) : LL7_q2 s = (((kindL s : Nat) : Int) != 0) ∧ (LL7_q2 s = true → tkK (lxO s) 0 = (kindL s : Nat)) ∧ (LL7_q1 s = true → (lxO s).length = 2) := by
  have hc := lxO_cases s (by omega)
  have h1 : LL7_q1 s = true → (lxO s).length = 2 := by
    unfold LL7_q1
    simp only [strB_list]
    intro h
    rw [Bool.and_eq_true, beq_iff_eq, beq_iff_eq] at h
    omega
  by_cases hk : kindL s = 0
  · have : LL7_q2 s = false := by
      cases hq : LL7_q2 s with
      | false => rfl
      | true =>
        exfalso
        unfold LL7_q2 at hq
        rw [Bool.and_eq_true] at hq
        have h2 := h1 hq.1
        have h3 := hq.2
        simp only [strB_list] at h3
        rcases hc with ⟨p, _, _, e1, _⟩ | ⟨hn, ts, e0, e1, _⟩
        · rw [e1] at h2; cases h2
        · rw [e1, List.length_append, List.length_singleton] at h2
          obtain ⟨x, rfl⟩ : ∃ x, ts = [x] := List.length_eq_one_iff.1 (by omega)
          have hL : lexL s 0 = ([x, ⟨4, [], s.length⟩], none) := by
            rw [← hn]
            exact Prod.ext e0 rfl
          have ht : tkT (lxO s) 0 = strB x.t := by rw [e1]; rfl
          rw [ht, strEq_list, beq_iff_eq] at h3
          exact (alone_kind hL h3).1 hk
    rw [this, hk]
    exact ⟨rfl, fun h => (by cases h), h1⟩
  · have ha := kind_alone hk
    have e1 : lxO s = [⟨kindL s, s, 0⟩, ⟨4, [], s.length⟩] := by
      unfold lxO; rw [if_neg (by omega), ha]
    have e2 : lxE s = 0 := by unfold lxE; rw [if_neg (by omega), ha]
    have hq1 : LL7_q1 s = true := by
      unfold LL7_q1
      simp only [strB_list]
      rw [e1, e2]; rfl
    have hq2 : LL7_q2 s = true := by
      unfold LL7_q2
      rw [hq1]
      simp only [strB_list]
      rw [e1]
      show strEq (strB s) (strB s) = true
      exact strEq_self _
    refine ⟨?_, fun _ => ?_, h1⟩
    · rw [hq2]; symm; rw [bne_iff_ne]; omega
    · rw [e1]; rfl
theorem clS_ok (n : Nat) (e : Nat → Nat → DV) : (lexL (clS n e) 0).2 = none := clean_ok _ _ _
theorem law7 {n : Nat} {b s : List UInt8} (hb : b.length = n) : Sat Tryd.prog (tL7 n b s) (· = bv true) := by
  constructor
  rw [LL7_eq]; unfold LL7
  have eq4 : LL7_q4 b = byC b := rfl
  rw [eq4]
  have hok := byOK_l hb
  have hl2 : (clS n (byC b)).length ≤ 600 := clS_len
  have hcl := clS_ok n (byC b)
  generalize hV : clS n (byC b) = V at hl2 hcl ⊢
  refine ⟨fun h => rfl, fun h => ?_⟩
  have hs : s.length ≤ 300 := by rw [Bool.false_or, decide_eq_false_iff_not, strB_size] at h; omega
  obtain ⟨a1, a2, a3⟩ := alone_eq hs
  have hq3 : LL7_q3 s = false := by
    unfold LL7_q3
    rw [a1]
    simp only [strB_list]
    simp
  rw [hq3]
  simp only [strB_size, strB_list]
  rcases lxO_cases V (by omega) with ⟨p, e0, _⟩ | ⟨hn, ts, e0, eO, eE, eA, hg, hsum⟩
  · rw [e0] at hcl; cases hcl
  refine ⟨by omega, fun h1 => ⟨by omega, ?_⟩, by omega, fun h1 => ⟨by omega, ?_⟩, fun _ => by omega, fun hx => ?_, fun _ => ⟨hok, by omega, ?_⟩⟩
  · have := a3 h1; omega
  · have h2 := h1.2
    unfold LL7_q2 at h2
    rw [Bool.and_eq_true] at h2
    have := a3 h2.1; omega
  · exfalso
    rw [Bool.false_or, Bool.and_eq_true, bne_iff_ne] at hx
    exact hx.2 (a2 hx.1)
  refine code_satS C6_ok D6_ok (n := 300) (n0 := 22) (nx := 22) (roots := []) (keep := [4, 5, 8, 9]) (drop := [0, 1, 2, 3, 4, 5, 6, 7, 8, 9, 10, 11, 12, 13, 14, 15, 16, 17, 18, 19, 21]) (h := .nil) (c := codeC (sub [1, 0, 0, 0, 0, 0, 1, 0, 0] (tL7 n b s))) (st := codeS (sub [1, 0, 0, 0, 0, 0, 1, 0, 0] (tL7 n b s))) (k := codeK (sub [1, 0, 0, 0, 0, 0, 1, 0, 0] (tL7 n b s))) (body := bodyL7) (by kernel_rfl) (by kernel_rfl)
    (fun q t => ∃ i : Nat, q = (lxO V).length - i ∧ i ≤ (lxO V).length ∧ t = invL7 (lxO V) (lxA V) (lxE V) i)
    (fun e t => e = .exit 0 ∧ ∃ i, t = invL7 (lxO V) (lxA V) (lxE V) i)
    ⟨_, _, ⟨0, rfl, by omega, rfl⟩, ?_⟩ ?_ ?_
  · subst hV
    exact entA_sound (roots := []) (keep := [4, 5, 8, 9]) (drop := [0, 1, 2, 3, 4, 5, 6, 7, 8, 9, 10, 11, 12, 13, 14, 15, 16, 17, 18, 19, 21]) (nx := 22) (h := .nil) (by kernel_rfl)
  · rintro q t ⟨i, rfl, hi, rfl⟩
    refine Sat.of_eq (BL7_eq (lxO V) (lxA V) (lxE V) i) ?_
    constructor
    unfold BL7
    have hlen := lxO_len V
    have wi : w64 ((i : Int) + 1) = ((i + 1 : Nat) : Int) := by rw [w64_of (by omega) (by omega)]; omega
    simp only [Int.toNat_natCast, wi]
    refine ⟨fun h1 => ?_, fun h1 => ⟨_, ⟨rfl, i, rfl⟩, Gc.refl _ _⟩⟩
    rw [decide_eq_true_eq] at h1
    have hlt : i + 1 < (lxO V).length := by omega
    rw [eO, List.length_append, List.length_singleton] at hlt
    have hi' : i < ts.length := by omega
    have hx : (lxO V).getD i default = ts[i] := by
      rw [eO, List.getD_eq_getElem?_getD, List.getElem?_append_left hi', List.getElem?_eq_getElem hi']; rfl
    have hG := hg _ (List.getElem_mem hi')
    have hmem : ts[i] ∈ (lexL V 0).1 := by rw [e0]; exact List.mem_append_left _ (List.getElem_mem hi')
    have hlt2 := lex_tlen V 0 _ hmem
    have hT : tkT (lxO V) i = strB ts[i].t := by unfold tkT; rw [hx]
    have hK : tkK (lxO V) i = (ts[i].k : Nat) := by unfold tkK; rw [hx]
    have hkd := hG.kind
    have hkk := hG.kk
    rw [hT, hK]
    simp only [strB_size, strB_list, hkd]
    refine ⟨by omega, by omega, by omega, fun h2 => ?_, fun _ => ?_⟩
    · exfalso
      rcases hkk with h3 | h3 | h3 <;> rw [h3] at h2 <;> simp at h2
    · exact ⟨(lxO V).length - (i + 1), _, by omega, ⟨i + 1, rfl, by omega, rfl⟩, Gc.refl _ _⟩
  · rintro e t ⟨rfl, i, rfl⟩
    refine Sat.of_eq (KL7_eq n b s (lxO V) (lxA V) (lxE V) i) ⟨?_⟩
    unfold KL7
    rw [eE]; rfl
theorem lexerKinds_ok : ∃ c : Ctr, CtrOK Tryd.prog 7 c ∧ ∀ ss, okArgs Tryd.prog 6 [22, 9] ss → (c ss).ev (bv true) := by
  refine law_le C6_ok D6_ok (by kernel_rfl) (by kernel_rfl) fun ss h => ?_
  obtain ⟨ds, _, rfl, h1, ds3, _, rfl, h3, rfl⟩ := h
  obtain ⟨n, b, hb, l1⟩ := bytes_arg h1
  obtain ⟨s, l3⟩ := string_arg h3
  exact ⟨[byT n b, strV s], 300, .nil, ⟨l1, l3, rfl⟩, law7 hb⟩
end Go.Proofs.YtnoodoipghgkgaaDoor

