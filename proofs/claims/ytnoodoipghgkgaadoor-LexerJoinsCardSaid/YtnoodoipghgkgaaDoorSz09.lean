/- Part of a proof of the given statements of this seat (SxLxL5, SxLxM5): no conditions beyond those typed here. -/
import Derived.Test.YtnoodoipghgkgaaDoorSz08
set_option linter.unusedVariables false
set_option linter.unusedSimpArgs false
set_option linter.unusedSectionVars false

namespace Go.Proofs.YtnoodoipghgkgaaDoor
open Go.Sx
set_option maxRecDepth 100000

noncomputable def jnC (L : List Tok) : List UInt8 := joinL (ktx (tokR L.length (tkC L)) L.length)
noncomputable def LL5h (n : Nat) (b s : List UInt8) (V : ByteArray) (Y : List UInt8) (L : List Tok) (J : List UInt8) (M : List Tok) : Tree SV :=
  .ite (false || decide (((strB s).size : Int) > 300)) (.ret (bv true)) (.need (ByOK n (byC b)) (.need ((strB (mdS n (byC b))).size + (strB s).size ≤ 9223372036854775807) (.need (V.size ≤ 100000)
  (.ite (lxE Y != 0) (.ret (bv true)) (.need (TokOK L.length (tkC L) ∧ L.length ≤ 100000 ∧ J.length ≤ 100000) (.need ((strB J).size ≤ 100000)
  (.need ((lxE J != 0 || (M.length : Int) != (L.length : Int)) = false → TokOK M.length (tkC M) ∧ M.length ≤ 100000 ∧ (jnC M).length ≤ 100000)
  (.ite (lxE J != 0 || (M.length : Int) != (L.length : Int) || !strEq (strB (jnC M)) (strB J)) (.ret (bv false))
  (.code (codeC (sub [1, 0, 0, 0, 1, 0, 0, 0, 1] (tL5 n b s))) (codeS (sub [1, 0, 0, 0, 1, 0, 0, 0, 1] (tL5 n b s))) (codeK (sub [1, 0, 0, 0, 1, 0, 0, 0, 1] (tL5 n b s))))))))))))
noncomputable def LL5 (n : Nat) (b s : List UInt8) : Tree SV :=
  LL5h n b s (strB (mdS n (byC b)) ++ strB s) (strB (mdS n (byC b)) ++ strB s).data.toList (lxO (strB (mdS n (byC b)) ++ strB s).data.toList) (jnC (lxO (strB (mdS n (byC b)) ++ strB s).data.toList)) (lxO (jnC (lxO (strB (mdS n (byC b)) ++ strB s).data.toList)))
theorem LL5_eq (n : Nat) (b s : List UInt8) : tL5 n b s = LL5 n b s := by kernel_rfl
noncomputable def invL5 (L : List Tok) (a e : Int) (M : List Tok) (c f : Int) (i : Nat) : AS := ⟨List.replicate 4 .unk ++ [.ok (bv false), .ok (bv true), .ok (.ptr 0 0), .unk, .ok (.ptr 2 0), .ok (iv i)] ++ List.replicate 78 .unk, [some (.cells [.d (.ro L.length 3 (tkC L)), iv a, iv e]), none, some (.cells [.d (.ro M.length 3 (tkC M)), iv c, iv f]), none], 4, .nil⟩
noncomputable def bodyL5 : Code := loopN (bodyOf Tryd.prog 5) 0
noncomputable def BL5_q1 (L : List Tok) (M : List Tok) (k : Nat) : Bool :=
  tkK L (Int.toNat (↑k : Int)) != tkK M (Int.toNat (↑k : Int))
noncomputable def BL5_q2 (L : List Tok) (i : Nat) (j : Nat) : DV :=
  match j with
| (0 : Nat) => DV.x (.int .i64 (tkK L i))
| (1 : Nat) => DV.x (.string (tkT L i))
| x => DV.x (.int .i64 (tkA L i))
noncomputable def BL5_q3 (M : List Tok) (i : Nat) (j : Nat) : DV :=
  match j with
| (0 : Nat) => DV.x (.int .i64 (tkK M i))
| (1 : Nat) => DV.x (.string (tkT M i))
| x => DV.x (.int .i64 (tkA M i))
noncomputable def BL5 (L : List Tok) (a e : Int) (M : List Tok) (c f : Int) (k : Nat) : Tree (Ex × AS) :=
  .ite (decide ((↑k : Int) < (↑(List.length L) : Int)))
  (.need ((0 : Int) ≤ (↑k : Int) ∧ (↑k : Int) < (↑(List.length L) : Int))
   (.need ((0 : Int) ≤ (↑k : Int) ∧ (↑k : Int) < (↑(List.length M) : Int))
   (.need (BL5_q1 L M k = false → (0 : Int) ≤ (↑k : Int) ∧ (↑k : Int) < (↑(List.length L) : Int))
   (.need (BL5_q1 L M k = false → (0 : Int) ≤ (↑k : Int) ∧ (↑k : Int) < (↑(List.length M) : Int))
   (.ite (BL5_q1 L M k || !strEq (tkT L (Int.toNat (↑k : Int))) (tkT M (Int.toNat (↑k : Int))))
   (.ret
   (.ret,
   {
   tm :=
   [.unk, .unk, .unk, .unk, .ok (bv false), .ok (bv true), .ok (SV.ptr 0 0), .unk, .ok (SV.ptr 2 0), .ok (iv (↑k : Int)), .unk, .unk, .unk, .unk, .unk,
   .unk, .unk, .unk, .unk, .unk, .unk, .unk, .unk, .unk, .unk, .unk, .unk, .unk, .unk, .unk, .unk, .unk, .unk, .unk, .unk, .unk, .unk, .unk, .unk, .unk, .unk, .unk,
   .unk, .unk, .unk, .unk, .unk, .unk, .unk, .unk, .unk, .unk, .unk, .unk, .unk, .unk, .unk, .unk, .unk, .unk, .unk, .unk, .unk, .unk, .unk, .unk, .unk, .unk, .unk,
   .unk, .unk, .unk, .unk, .unk, .unk, .unk, .unk, .unk, .unk, .unk, .unk, .unk, .unk, .unk, .unk, .unk, .unk, .unk],
   hp := [some (.cells [SV.d (DV.ro (List.length L) 3 (BL5_q2 L)), iv a, iv e]), none, some (.cells [SV.d (DV.ro (List.length M) 3 (BL5_q3 M)), iv c, iv f]), none],
   next := 4, hint := .nil }))
   (.ret
   (.normal,
   {
   tm :=
   [.unk, .unk, .unk, .unk, .ok (bv false), .ok (bv true), .ok (SV.ptr 0 0), .unk, .ok (SV.ptr 2 0), .ok (iv (w64 ((↑k : Int) + (1 : Int)))), .unk, .unk,
   .unk, .unk, .unk, .unk, .unk, .unk, .unk, .unk, .unk, .unk, .unk, .unk, .unk, .unk, .unk, .unk, .unk, .unk, .unk, .unk, .unk, .unk, .unk, .unk, .unk, .unk, .unk,
   .unk, .unk, .unk, .unk, .unk, .unk, .unk, .unk, .unk, .unk, .unk, .unk, .unk, .unk, .unk, .unk, .unk, .unk, .unk, .unk, .unk, .unk, .unk, .unk, .unk, .unk, .unk,
   .unk, .unk, .unk, .unk, .unk, .unk, .unk, .unk, .unk, .unk, .unk, .unk, .unk, .unk, .unk, .unk, .unk, .unk, .unk, .unk, .unk, .unk],
   hp := [some (.cells [SV.d (DV.ro (List.length L) 3 (BL5_q2 L)), iv a, iv e]), none, some (.cells [SV.d (DV.ro (List.length M) 3 (BL5_q3 M)), iv c, iv f]), none],
   next := 4, hint := .nil })))))))
  (.ret
   (.exit 0,
   {
   tm :=
   [.unk, .unk, .unk, .unk, .ok (bv false), .ok (bv true), .ok (SV.ptr 0 0), .unk, .ok (SV.ptr 2 0), .ok (iv (↑k : Int)), .unk, .unk, .unk, .unk, .unk, .unk,
   .unk, .unk, .unk, .unk, .unk, .unk, .unk, .unk, .unk, .unk, .unk, .unk, .unk, .unk, .unk, .unk, .unk, .unk, .unk, .unk, .unk, .unk, .unk, .unk, .unk, .unk, .unk, .unk,
   .unk, .unk, .unk, .unk, .unk, .unk, .unk, .unk, .unk, .unk, .unk, .unk, .unk, .unk, .unk, .unk, .unk, .unk, .unk, .unk, .unk, .unk, .unk, .unk, .unk, .unk, .unk, .unk,
   .unk, .unk, .unk, .unk, .unk, .unk, .unk, .unk, .unk, .unk, .unk, .unk, .unk, .unk, .unk, .unk],
   hp := [some (.cells [SV.d (DV.ro (List.length L) 3 (BL5_q2 L)), iv a, iv e]), none, some (.cells [SV.d (DV.ro (List.length M) 3 (BL5_q3 M)), iv c, iv f]), none], next := 4,
   hint := .nil }))

theorem BL5_eq (L : List Tok) (a e : Int) (M : List Tok) (c f : Int) (k : Nat) : cutT 4 [] [4, 5, 6, 8, 9] [1, 3] 4 .nil (exec Tryd.prog C6 D6 300 bodyL5 (invL5 L a e M c f k)) = BL5 L a e M c f k := by kernel_rfl

noncomputable def KL5 (n : Nat) (b s : List UInt8) (L : List Tok) (a e : Int) (M : List Tok) (c f : Int) (k : Nat) : Tree SV :=
  .ret (bv true)

theorem KL5_eq (n : Nat) (b s : List UInt8) (L : List Tok) (a e : Int) (M : List Tok) (c f : Int) (k : Nat) : codeK (sub [1, 0, 0, 0, 1, 0, 0, 0, 1] (tL5 n b s)) (.exit 0) (invL5 L a e M c f k) = KL5 n b s L a e M c f k := by kernel_rfl


end Go.Proofs.YtnoodoipghgkgaaDoor

namespace Go.Proofs.YtnoodoipghgkgaaDoor
open Go.Sx
set_option maxRecDepth 100000

def kt (x : Tok) : Nat × List UInt8 := (x.k, x.t)
theorem kt_at {L M : List Tok} (h : L.map kt = M.map kt) (k : Nat) : tkK L k = tkK M k ∧ tkT L k = tkT M k := by
  have : kt (L.getD k default) = kt (M.getD k default) := by
    have h1 : ∀ N : List Tok, kt (N.getD k default) = (N.map kt).getD k (kt default) := fun N => by
      rw [List.getD_eq_getElem?_getD, List.getD_eq_getElem?_getD, List.getElem?_map]
      cases N[k]? <;> rfl
    rw [h1, h1, h]
  unfold kt at this
  rw [Prod.mk.injEq] at this
  unfold tkK tkT
  rw [this.1, this.2]; exact ⟨rfl, rfl⟩
theorem lx_of {J : List UInt8} {ts : List Tok} (h8 : J.length ≤ 8000) (h : lexL J 0 = (ts, none)) : lxE J = 0 ∧ lxO J = ts := by
  unfold lxE lxO
  rw [if_neg (by omega), if_neg (by omega), h]; exact ⟨rfl, rfl⟩
theorem law5 {n : Nat} {b s : List UInt8} (hb : b.length = n) : Sat Tryd.prog (tL5 n b s) (· = bv true) := by
  constructor
  rw [LL5_eq]; unfold LL5
  have hok := byOK_l hb
  have hl : (mdS n (byC b)).length ≤ 600 := mdS_len
  obtain ⟨Y, hY⟩ : ∃ Y, (strB (mdS n (byC b)) ++ strB s).data.toList = Y := ⟨_, rfl⟩
  rw [hY]
  unfold LL5h
  refine ⟨fun h => rfl, fun h => ?_⟩
  have hs : s.length ≤ 300 := by rw [Bool.false_or, decide_eq_false_iff_not, strB_size] at h; omega
  have hYU : Y = mdS n (byC b) ++ s := by rw [← hY, strB_append, strB_list]
  have hYl : Y.length ≤ 900 := by rw [hYU, List.length_append]; omega
  have hYs : (strB (mdS n (byC b)) ++ strB s).size = Y.length := by rw [strB_append, strB_size, hYU]
  rw [hYs]
  simp only [strB_size]
  refine ⟨hok, by omega, by omega, fun he => rfl, fun he => ?_⟩
  rw [bne_eq_false_iff_eq] at he
  obtain ⟨xs, hL, hg, hsum⟩ : ∃ xs, lxO Y = xs ++ [⟨4, [], Y.length⟩] ∧ (∀ x ∈ xs, GoodT x.k x.t) ∧ (xs.map fun x => x.t.length + 1).sum ≤ 2 * Y.length := by
    rcases lxO_cases Y (by omega) with ⟨p, _, _, _, e5, _⟩ | ⟨_, xs, _, h1, _, _, h2, h3⟩
    · rw [e5] at he; cases he
    · exact ⟨xs, h1, h2, h3⟩
  have hJ : jnC (lxO Y) = joinL (xs.map (·.t)) := by
    unfold jnC
    rw [tokR_C, hL, List.length_append, List.length_singleton, ktx_all hg]
  obtain ⟨us, e, hlj, hkt⟩ := lex_join xs 0 hg
  have hJl : (jnC (lxO Y)).length ≤ 2 * Y.length := by
    rw [hJ]; have := joinL_len xs; omega
  have hJc : lxE (jnC (lxO Y)) = 0 ∧ lxO (jnC (lxO Y)) = us ++ [⟨4, [], e⟩] ∧ (∀ x ∈ us, GoodT x.k x.t) := by
    rw [← hJ] at hlj
    have h9 := lx_of (J := jnC (lxO Y)) (by omega) hlj
    exact ⟨h9.1, h9.2, (lex_good _ _ _ _ hlj).1⟩
  obtain ⟨jE, jO, jg⟩ := hJc
  have hut : us.map (·.t) = xs.map (·.t) := by
    have := congrArg (List.map Prod.snd) hkt
    rw [List.map_map, List.map_map] at this
    exact this
  have hul : us.length = xs.length := by
    have := congrArg List.length hkt
    rwa [List.length_map, List.length_map] at this
  have hMJ : jnC (lxO (jnC (lxO Y))) = jnC (lxO Y) := by
    rw [hJ]
    rw [hJ] at jO
    unfold jnC
    rw [tokR_C, jO, List.length_append, List.length_singleton, ktx_all jg, hut]
  have hMl : (lxO (jnC (lxO Y))).length = (lxO Y).length := by
    rw [jO, hL, List.length_append, List.length_append, hul]; rfl
  have hLM : (lxO Y).map kt = (lxO (jnC (lxO Y))).map kt := by
    rw [jO, hL, List.map_append, List.map_append]
    have : us.map kt = xs.map kt := hkt
    rw [this]; rfl
  have nY := lxO_len Y
  generalize hJJ : jnC (lxO Y) = J at *
  generalize hMM : lxO J = M at *
  have hcond : (lxE J != 0 || (M.length : Int) != ((lxO Y).length : Int)) = false := by
    rw [jE, hMl]; simp
  rw [hcond, hMJ, strEq_self]
  refine ⟨⟨tokOK_C _, by omega, by omega⟩, by omega, fun _ => ⟨tokOK_C _, by omega, by omega⟩, fun h => (by cases h), fun _ => ?_⟩
  refine code_satS C6_ok D6_ok (n := 300) (n0 := 4) (nx := 4) (roots := []) (keep := [4, 5, 6, 8, 9]) (drop := [1, 3]) (h := .nil) (c := codeC (sub [1, 0, 0, 0, 1, 0, 0, 0, 1] (tL5 n b s))) (st := codeS (sub [1, 0, 0, 0, 1, 0, 0, 0, 1] (tL5 n b s))) (k := codeK (sub [1, 0, 0, 0, 1, 0, 0, 0, 1] (tL5 n b s))) (body := bodyL5) (by kernel_rfl) (by kernel_rfl)
    (fun q t => ∃ k : Nat, q = (lxO Y).length - k ∧ k ≤ (lxO Y).length ∧ t = invL5 (lxO Y) (lxA Y) (lxE Y) M (lxA J) (lxE J) k)
    (fun e t => e = .exit 0 ∧ ∃ k, t = invL5 (lxO Y) (lxA Y) (lxE Y) M (lxA J) (lxE J) k)
    ⟨_, _, ⟨0, rfl, by omega, rfl⟩, ?_⟩ ?_ ?_
  · clear hcond nY hLM hMl hMJ hul hut jg jO jE hJl hkt hlj hJ hsum hg hL he hYs hYl hYU
    subst hMM; subst hJJ; subst hY
    exact entA_sound (roots := []) (keep := [4, 5, 6, 8, 9]) (drop := [1, 3]) (nx := 4) (h := .nil) (by kernel_rfl)
  · rintro q t ⟨k, rfl, hk, rfl⟩
    refine Sat.of_eq (BL5_eq (lxO Y) (lxA Y) (lxE Y) M (lxA J) (lxE J) k) ?_
    constructor
    unfold BL5
    have wk : w64 ((k : Int) + 1) = ((k + 1 : Nat) : Int) := by rw [w64_of (by omega) (by omega)]; omega
    obtain ⟨m1, m2⟩ := kt_at hLM k
    have q1 : BL5_q1 (lxO Y) M k = false := by
      unfold BL5_q1
      rw [Int.toNat_natCast, m1]; simp
    rw [q1]
    simp only [Int.toNat_natCast, wk, m2, strEq_self]
    refine ⟨fun h1 => ?_, fun h1 => ⟨_, ⟨rfl, k, rfl⟩, Gc.refl _ _⟩⟩
    rw [decide_eq_true_eq] at h1
    refine ⟨by omega, by omega, fun _ => by omega, fun _ => by omega, fun h2 => (by cases h2), fun _ => ?_⟩
    exact ⟨(lxO Y).length - (k + 1), _, by omega, ⟨k + 1, rfl, by omega, rfl⟩, Gc.refl _ _⟩
  · rintro e t ⟨rfl, k, rfl⟩
    exact Sat.of_eq (KL5_eq n b s (lxO Y) (lxA Y) (lxE Y) M (lxA J) (lxE J) k) ⟨rfl⟩
theorem lexerJoins_ok : ∃ c : Ctr, CtrOK Tryd.prog 5 c ∧ ∀ ss, okArgs Tryd.prog 6 [22, 9] ss → (c ss).ev (bv true) := by
  refine law_le C6_ok D6_ok (by kernel_rfl) (by kernel_rfl) fun ss h => ?_
  obtain ⟨ds, _, rfl, h1, ds3, _, rfl, h3, rfl⟩ := h
  obtain ⟨n, b, hb, l1⟩ := bytes_arg h1
  obtain ⟨s, l3⟩ := string_arg h3
  exact ⟨[byT n b, strV s], 300, .nil, ⟨l1, l3, rfl⟩, law5 hb⟩
end Go.Proofs.YtnoodoipghgkgaaDoor

