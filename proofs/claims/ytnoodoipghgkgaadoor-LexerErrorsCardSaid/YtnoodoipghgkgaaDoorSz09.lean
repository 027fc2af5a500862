/- Part of a proof of the given statements of this seat (SxLxL8, SxLxM8): no conditions beyond those typed here. -/
import Derived.Test.YtnoodoipghgkgaaDoorSz08
set_option linter.unusedVariables false
set_option linter.unusedSimpArgs false
set_option linter.unusedSectionVars false

namespace Go.Proofs.YtnoodoipghgkgaaDoor
open Go.Sx
set_option maxRecDepth 100000

noncomputable def invL8 (L : List Tok) (a e : Int) (M : List Tok) (c f : Int) (o : List UInt8) : AS := ⟨List.replicate 4 .unk ++ [.ok (bv false), .ok (bv true), .unk, .ok (.ptr 0 0), .ok (.ptr 2 0), .ok (strV o)] ++ List.replicate 72 .unk, [some (.cells [.d (.ro L.length 3 (tkC L)), iv a, iv e]), none, some (.cells [.d (.ro M.length 3 (tkC M)), iv c, iv f]), none], 4, .nil⟩
noncomputable def bodyL8 : Code := loopN (bodyOf Tryd.prog 8) 0
noncomputable def LL8_q1 (b : List UInt8) (i : Nat) (j : Nat) : DV :=
  DV.x (.int .u8 (↑(byN b i) : Int))
noncomputable def LL8_q2 (n : Nat) (b : List UInt8) : Bool :=
  decide ((↑(lxA (Array.toList (ByteArray.data (strB (mdS n (LL8_q1 b)))))) : Int) < (0 : Int)) ||
  decide ((↑(lxA (Array.toList (ByteArray.data (strB (mdS n (LL8_q1 b)))))) : Int) ≥ (↑(ByteArray.size (strB (mdS n (LL8_q1 b)))) : Int))
noncomputable def LL8 (n : Nat) (b s : List UInt8) : Tree SV :=
  .ite (false || decide ((↑(ByteArray.size (strB s)) : Int) > (300 : Int))) (.ret (bv true))
  (.need (ByOK n (LL8_q1 b))
   (.need (ByteArray.size (strB (mdS n (LL8_q1 b))) ≤ 100000)
   (.ite (lxE (Array.toList (ByteArray.data (strB (mdS n (LL8_q1 b))))) == (0 : Int)) (.ret (bv ((↑(lxA (Array.toList (ByteArray.data (strB (mdS n (LL8_q1 b)))))) : Int) == (0 : Int) && true)))
   (.need
   (LL8_q2 n b = false →
   ((0 : Int) ≤ (↑(lxA (Array.toList (ByteArray.data (strB (mdS n (LL8_q1 b)))))) : Int) ∧
   Int.toNat (↑(lxA (Array.toList (ByteArray.data (strB (mdS n (LL8_q1 b)))))) : Int) ≤ ByteArray.size (strB (mdS n (LL8_q1 b)))) ∧
   True)
   (.need
   (LL8_q2 n b = false →
   ByteArray.size (ByteArray.extract (strB (mdS n (LL8_q1 b))) 0 (Int.toNat (↑(lxA (Array.toList (ByteArray.data (strB (mdS n (LL8_q1 b)))))) : Int))) ≤ 100000)
   (.ite
   (LL8_q2 n b ||
   lxE (Array.toList (ByteArray.data (ByteArray.extract (strB (mdS n (LL8_q1 b))) 0 (Int.toNat (↑(lxA (Array.toList (ByteArray.data (strB (mdS n (LL8_q1 b)))))) : Int))))) != (0 : Int))
   (.ret (bv false))
   (.need (ByteArray.size (strB (mdS n (LL8_q1 b))) + 1 ≤ 9223372036854775807)
   (.need (ByteArray.size (strB (mdS n (LL8_q1 b)) ++ strB [(32 : UInt8)]) + ByteArray.size (strB s) ≤ 9223372036854775807)
   (.need (ByteArray.size (strB (mdS n (LL8_q1 b)) ++ strB [(32 : UInt8)] ++ strB s) ≤ 100000)
   (.code (codeC (sub [(1 : Nat), (0 : Nat), (0 : Nat), (1 : Nat), (0 : Nat), (0 : Nat), (1 : Nat), (0 : Nat), (0 : Nat), (0 : Nat)] (tL8 n b s)))
   (codeS (sub [(1 : Nat), (0 : Nat), (0 : Nat), (1 : Nat), (0 : Nat), (0 : Nat), (1 : Nat), (0 : Nat), (0 : Nat), (0 : Nat)] (tL8 n b s)))
   (codeK (sub [(1 : Nat), (0 : Nat), (0 : Nat), (1 : Nat), (0 : Nat), (0 : Nat), (1 : Nat), (0 : Nat), (0 : Nat), (0 : Nat)] (tL8 n b s)))))))))))))

theorem LL8_eq (n : Nat) (b s : List UInt8) : tL8 n b s = LL8 n b s := by kernel_rfl

noncomputable def BL8_q1 (L : List Tok) (i : Nat) (j : Nat) : DV :=
  match j with
| (0 : Nat) => DV.x (.int .i64 (tkK L i))
| (1 : Nat) => DV.x (.string (tkT L i))
| x => DV.x (.int .i64 (tkA L i))
noncomputable def BL8_q2 (M : List Tok) (i : Nat) (j : Nat) : DV :=
  match j with
| (0 : Nat) => DV.x (.int .i64 (tkK M i))
| (1 : Nat) => DV.x (.string (tkT M i))
| x => DV.x (.int .i64 (tkA M i))
noncomputable def BL8 (L : List Tok) (a e : Int) (M : List Tok) (c f : Int) (o : List UInt8) : Tree (Ex × AS) :=
  .ite (decide ((↑(ByteArray.size (strB o)) : Int) ≤ (8000 : Int)))
  (.need (ByteArray.size (strB o) + 85 ≤ 9223372036854775807)
   (.ret
   (.normal,
   {
   tm :=
   [.unk, .unk, .unk, .unk, .ok (bv false), .ok (bv true), .unk, .ok (SV.ptr 0 0), .ok (SV.ptr 2 0),
   .ok
   (SV.d
   (DV.x
   (.string
   (strB o ++
   strB
   [(109 : UInt8), (111 : UInt8), (100 : UInt8), (117 : UInt8), (108 : UInt8), (101 : UInt8), (32 : UInt8), (97 : UInt8), (32 : UInt8), (47 : UInt8), (47 : UInt8), (32 : UInt8), (97 : UInt8), (32 : UInt8),
   (99 : UInt8), (111 : UInt8), (109 : UInt8), (109 : UInt8), (101 : UInt8), (110 : UInt8), (116 : UInt8), (32 : UInt8), (116 : UInt8), (104 : UInt8), (97 : UInt8), (116 : UInt8), (32 : UInt8), (105 : UInt8),
   (115 : UInt8), (32 : UInt8), (114 : UInt8), (97 : UInt8), (116 : UInt8), (104 : UInt8), (101 : UInt8), (114 : UInt8), (32 : UInt8), (108 : UInt8), (111 : UInt8), (110 : UInt8), (103 : UInt8), (44 : UInt8),
   (32 : UInt8), (115 : UInt8), (111 : UInt8), (32 : UInt8), (116 : UInt8), (104 : UInt8), (97 : UInt8), (116 : UInt8), (32 : UInt8), (116 : UInt8), (104 : UInt8), (105 : UInt8), (115 : UInt8), (32 : UInt8),
   (102 : UInt8), (105 : UInt8), (108 : UInt8), (101 : UInt8), (32 : UInt8), (115 : UInt8), (111 : UInt8), (111 : UInt8), (110 : UInt8), (32 : UInt8), (104 : UInt8), (97 : UInt8), (115 : UInt8), (32 : UInt8),
   (116 : UInt8), (111 : UInt8), (111 : UInt8), (32 : UInt8), (109 : UInt8), (97 : UInt8), (110 : UInt8), (121 : UInt8), (32 : UInt8), (98 : UInt8), (121 : UInt8), (116 : UInt8), (101 : UInt8), (115 : UInt8),
   (10 : UInt8)])))),
   .unk, .unk, .unk, .unk, .unk, .unk, .unk, .unk, .unk, .unk, .unk, .unk, .unk, .unk, .unk, .unk, .unk, .unk, .unk, .unk, .unk, .unk, .unk, .unk, .unk, .unk, .unk, .unk,
   .unk, .unk, .unk, .unk, .unk, .unk, .unk, .unk, .unk, .unk, .unk, .unk, .unk, .unk, .unk, .unk, .unk, .unk, .unk, .unk, .unk, .unk, .unk, .unk, .unk, .unk, .unk, .unk,
   .unk, .unk, .unk, .unk, .unk, .unk, .unk, .unk, .unk, .unk, .unk, .unk, .unk, .unk, .unk, .unk],
   hp := [some (.cells [SV.d (DV.ro (List.length L) 3 (BL8_q1 L)), iv a, iv e]), none, some (.cells [SV.d (DV.ro (List.length M) 3 (BL8_q2 M)), iv c, iv f]), none], next := 4,
   hint := .nil })))
  (.ret
   (.exit 0,
   {
   tm :=
   [.unk, .unk, .unk, .unk, .ok (bv false), .ok (bv true), .unk, .ok (SV.ptr 0 0), .ok (SV.ptr 2 0), .ok (SV.d (DV.x (.string (strB o)))), .unk, .unk, .unk,
   .unk, .unk, .unk, .unk, .unk, .unk, .unk, .unk, .unk, .unk, .unk, .unk, .unk, .unk, .unk, .unk, .unk, .unk, .unk, .unk, .unk, .unk, .unk, .unk, .unk, .unk, .unk, .unk,
   .unk, .unk, .unk, .unk, .unk, .unk, .unk, .unk, .unk, .unk, .unk, .unk, .unk, .unk, .unk, .unk, .unk, .unk, .unk, .unk, .unk, .unk, .unk, .unk, .unk, .unk, .unk, .unk,
   .unk, .unk, .unk, .unk, .unk, .unk, .unk, .unk, .unk, .unk, .unk, .unk, .unk],
   hp := [some (.cells [SV.d (DV.ro (List.length L) 3 (BL8_q1 L)), iv a, iv e]), none, some (.cells [SV.d (DV.ro (List.length M) 3 (BL8_q2 M)), iv c, iv f]), none], next := 4,
   hint := .nil }))

theorem BL8_eq (L : List Tok) (a e : Int) (M : List Tok) (c f : Int) (o : List UInt8) : cutT 4 [] [4, 5, 7, 8, 9] [1, 3] 4 .nil (exec Tryd.prog C6 D6 300 bodyL8 (invL8 L a e M c f o)) = BL8 L a e M c f o := by kernel_rfl

noncomputable def KL8 (n : Nat) (b s : List UInt8) (L : List Tok) (a e : Int) (M : List Tok) (c f : Int) (o : List UInt8) : Tree SV :=
  .need ((f == e && c == a) = true → ByteArray.size (strB o) ≤ 100000) (.ret (bv (f == e && c == a && lxE (Array.toList (ByteArray.data (strB o))) == (2 : Int) && true)))

theorem KL8_eq (n : Nat) (b s : List UInt8) (L : List Tok) (a e : Int) (M : List Tok) (c f : Int) (o : List UInt8) : codeK (sub [1, 0, 0, 1, 0, 0, 1, 0, 0, 0] (tL8 n b s)) (.exit 0) (invL8 L a e M c f o) = KL8 n b s L a e M c f o := by kernel_rfl


end Go.Proofs.YtnoodoipghgkgaaDoor

namespace Go.Proofs.YtnoodoipghgkgaaDoor
open Go.Sx
set_option maxRecDepth 100000

theorem law8 {n : Nat} {b s : List UInt8} (hb : b.length = n) : Sat Tryd.prog (tL8 n b s) (· = bv true) := by
  constructor
  rw [LL8_eq]; unfold LL8
  have eq1 : LL8_q1 b = byC b := rfl
  have hok := byOK_l hb
  have hl : (mdS n (byC b)).length ≤ 600 := mdS_len
  refine ⟨fun h => rfl, fun h => ?_⟩
  have hs : s.length ≤ 300 := by rw [Bool.false_or, decide_eq_false_iff_not, strB_size] at h; omega
  have hq2 : LL8_q2 n b = (decide (((lxA (mdS n (byC b)) : Nat) : Int) < 0) || decide (((lxA (mdS n (byC b)) : Nat) : Int) ≥ ((mdS n (byC b)).length : Nat))) := by
    unfold LL8_q2
    rw [eq1]
    simp only [strB_list, strB_size]
  rw [hq2, eq1]
  obtain ⟨Y, hY⟩ : ∃ Y, (strB (mdS n (byC b)) ++ strB [32] ++ strB s).data.toList = Y := ⟨_, rfl⟩
  obtain ⟨U, hU⟩ : ∃ U, mdS n (byC b) = U := ⟨_, rfl⟩
  rw [hU] at hl ⊢
  have hYU : Y = U ++ 32 :: s := by
    rw [← hY, hU, strB_append, strB_append, strB_list, List.append_assoc]; rfl
  simp only [strB_append, strB_size, strB_list, Int.toNat_natCast]
  refine ⟨hok, by omega, fun he => ?_, fun he => ?_⟩
  · rcases lxO_cases U (by omega) with ⟨p, _, _, _, e5, _⟩ | ⟨hn, ts, e0, eO, eE, eA, _⟩
    · rw [e5] at he; cases he
    · rw [eA]; rfl
  have hex : ∃ p, (lexL U 0).2 = some p ∧ p < U.length ∧ lxO U = [] ∧ lxE U = 5 ∧ lxA U = p := by
    rcases lxO_cases U (by omega) with h5 | ⟨hn, ts, e0, eO, eE, eA, _⟩
    · exact h5
    · rw [eE] at he; cases he
  obtain ⟨p, hp, hpl, eO, eE, eA⟩ := hex
  rw [eA]
  have hext : ByteArray.extract (strB U) 0 p = strB (U.take p) := by rw [strB_extract]; rfl
  have hpre : (lexL (U.take p) 0).2 = none := lex_pre U 0 p (by rw [hp, Nat.zero_add])
  have hpE : lxE (U.take p) = 0 := by
    have htl : (U.take p).length ≤ 8000 := by rw [List.length_take]; omega
    rcases lxO_cases (U.take p) htl with ⟨q, hq, _⟩ | ⟨_, _, _, _, e, _⟩
    · rw [hpre] at hq; cases hq
    · exact e
  have htl : (U.take p).length ≤ 100000 := by rw [List.length_take]; omega
  have hYl : Y.length ≤ 8000 := by rw [hYU, List.length_append, List.length_cons]; omega
  have hYp : (lexL Y 0).2 = some p := by rw [hYU]; exact lex_err_app ends32 s U 0 p hp
  have hYE : lxE Y = 5 ∧ lxA Y = p := by
    rcases lxO_cases Y hYl with ⟨q, hq, _, _, e5, e6⟩ | ⟨hn, _⟩
    · rw [hYp] at hq; cases hq; exact ⟨e5, e6⟩
    · rw [hYp] at hn; cases hn
  rw [hext]
  simp only [strB_list, strB_size, List.length_append, List.length_singleton, hpE]
  refine ⟨fun _ => ⟨⟨by omega, by omega⟩, trivial⟩, fun _ => htl, fun h2 => ?_, fun _ => ⟨by omega, by omega, by omega, ?_⟩⟩
  · exfalso
    rw [decide_eq_false (by omega), decide_eq_false (by omega)] at h2
    simp at h2
  refine code_satS C6_ok D6_ok (n := 300) (n0 := 4) (nx := 4) (roots := []) (keep := [4, 5, 7, 8, 9]) (drop := [1, 3]) (h := .nil) (c := codeC (sub [1, 0, 0, 1, 0, 0, 1, 0, 0, 0] (tL8 n b s))) (st := codeS (sub [1, 0, 0, 1, 0, 0, 1, 0, 0, 0] (tL8 n b s))) (k := codeK (sub [1, 0, 0, 1, 0, 0, 1, 0, 0, 0] (tL8 n b s))) (body := bodyL8) (by kernel_rfl) (by kernel_rfl)
    (fun q t => ∃ o : List UInt8, q = 9000 - o.length ∧ o.length ≤ 8100 ∧ t = invL8 (lxO U) (lxA U) (lxE U) (lxO Y) (lxA Y) (lxE Y) o)
    (fun e t => e = .exit 0 ∧ ∃ o : List UInt8, o.length ≤ 8100 ∧ 8000 < o.length ∧ t = invL8 (lxO U) (lxA U) (lxE U) (lxO Y) (lxA Y) (lxE Y) o)
    ⟨_, _, ⟨[], rfl, by simp, rfl⟩, ?_⟩ ?_ ?_
  · clear hYU hYl hYp hYE
    subst hU; subst hY
    exact entA_sound (roots := []) (keep := [4, 5, 7, 8, 9]) (drop := [1, 3]) (nx := 4) (h := .nil) (by kernel_rfl)
  · rintro q t ⟨o, rfl, ho, rfl⟩
    refine Sat.of_eq (BL8_eq (lxO U) (lxA U) (lxE U) (lxO Y) (lxA Y) (lxE Y) o) ?_
    constructor
    unfold BL8
    simp only [strB_append, strB_size]
    refine ⟨fun h1 => ⟨by omega, ?_⟩, fun h1 => ⟨_, ⟨rfl, o, ho, ?_, rfl⟩, Gc.refl _ _⟩⟩
    · rw [decide_eq_true_eq] at h1
      refine ⟨9000 - (o ++ _).length, _, ?_, ⟨o ++ _, rfl, ?_, rfl⟩, Gc.refl _ _⟩
      · rw [List.length_append]; simp only [List.length_cons, List.length_nil]; omega
      · rw [List.length_append]; simp only [List.length_cons, List.length_nil]; omega
    · rw [decide_eq_false_iff_not] at h1; omega
  · rintro e t ⟨rfl, o, ho, ho2, rfl⟩
    refine Sat.of_eq (KL8_eq n b s (lxO U) (lxA U) (lxE U) (lxO Y) (lxA Y) (lxE Y) o) ⟨?_⟩
    unfold KL8
    have ho3 : lxE o = 2 := by unfold lxE; rw [if_pos ho2]
    simp only [strB_size, strB_list]
    rw [ho3, hYE.1, hYE.2, eA, eE]
    refine ⟨fun _ => by omega, ?_⟩
    show bv _ = bv true
    rw [bv_inj]; simp
theorem lexerErrors_ok : ∃ c : Ctr, CtrOK Tryd.prog 8 c ∧ ∀ ss, okArgs Tryd.prog 6 [22, 9] ss → (c ss).ev (bv true) := by
  refine law_le C6_ok D6_ok (by kernel_rfl) (by kernel_rfl) fun ss h => ?_
  obtain ⟨ds, _, rfl, h1, ds3, _, rfl, h3, rfl⟩ := h
  obtain ⟨n, b, hb, l1⟩ := bytes_arg h1
  obtain ⟨s, l3⟩ := string_arg h3
  exact ⟨[byT n b, strV s], 300, .nil, ⟨l1, l3, rfl⟩, law8 hb⟩
end Go.Proofs.YtnoodoipghgkgaaDoor

