/- Part of a proof of the given statements of this seat (SxLxEx, SxLxLa, SxLxAr, SxLxSp, SxLxL9, SxLxM9): no conditions beyond those typed here. -/
import Derived.Test.YtnoodoipghgkgaaDoorSz07
set_option linter.unusedVariables false
set_option linter.unusedSimpArgs false
set_option linter.unusedSectionVars false

namespace Go.Proofs.YtnoodoipghgkgaaDoor
open Go.Sx
set_option maxRecDepth 100000

theorem lex_at : ∀ (l : List UInt8) (a : Nat) (x : Tok), x ∈ (lexL l a).1 → x.a ≤ a + l.length := by
  refine lex_ind ?_ ?_ ?_ ?_
  · intro a x hx
    rw [lexL_nil] at hx
    rw [List.mem_singleton.1 hx]; simp
  · intro l a h0 hs ih x hx
    rw [lexL_skip _ h0 hs] at hx
    have := ih x hx
    have := skipN_le l
    rw [List.length_drop] at *
    omega
  · intro l a h0 hs ht x hx
    rw [lexL_err _ h0 hs ht] at hx
    cases hx
  · intro l a h0 hs ht ih x hx
    rw [lexL_tok _ h0 hs ht] at hx
    rcases List.mem_cons.1 hx with rfl | hx
    · exact Nat.le_add_right _ _
    · have := ih x hx
      have := tokN_le l
      rw [List.length_drop] at *
      omega
theorem lxO_at {s : List UInt8} (x : Tok) (h : x ∈ lxO s) : x.a ≤ s.length := by
  unfold lxO at h
  split at h
  · cases h
  · split at h
    · have := lex_at s 0 x h; omega
    · cases h
theorem tkA_le {L : List Tok} {n : Nat} (h : ∀ x ∈ L, x.a ≤ n) (i : Nat) : tkA L i ≤ n := by
  unfold tkA
  rw [List.getD_eq_getElem?_getD]
  rcases Nat.lt_or_ge i L.length with h5 | h5
  · rw [List.getElem?_eq_getElem h5]
    have := h _ (List.getElem_mem h5)
    simp only [Option.getD_some]; omega
  · rw [List.getElem?_eq_none h5]
    show ((0 : Nat) : Int) ≤ n
    omega

def exS : List UInt8 := [114, 101, 103, 32, 120, 58, 32, 52, 32, 61, 32, 48, 59, 32, 47, 47, 32, 99, 111, 117, 110, 116, 101, 114]
def exW : List Tok := [⟨1, [114, 101, 103], 0⟩, ⟨1, [120], 4⟩, ⟨3, [58], 5⟩, ⟨2, [52], 7⟩, ⟨3, [61], 9⟩, ⟨2, [48], 11⟩, ⟨3, [59], 12⟩, ⟨4, [], 24⟩]
def i64v (n : Int) : DV := .x (.int .i64 n)
def strv (l : List UInt8) : DV := .x (.string (strB l))
def exC (i j : Nat) : DV := dsAt [i64v 1, strv [114, 101, 103], i64v 0, i64v 1, strv [120], i64v 4, i64v 3, strv [58], i64v 5, i64v 2, strv [52], i64v 7, i64v 3, strv [61], i64v 9, i64v 2, strv [48], i64v 11, i64v 3, strv [59], i64v 12, i64v 4, strv [], i64v 24] (0 + (0 + i) * 3 + j)
def eJ : List UInt8 := [97, 61, 61, 98]
noncomputable def XE : Tr SV :=
  .need (24 ≤ 100000) (.need (24 ≤ 24) (.need (TokOK (lxO exS).length (tkC (lxO exS)) ∧ TokOK 8 exC ∧ 8 ≤ 1000000 ∧ ∀ i, tkA (tokR (lxO exS).length (tkC (lxO exS))) i ≤ 1000000000)
  (.need (false = false → 4 ≤ 100000) (.need (false = false → 5 ≤ 100000) (.need (false = false → 4 ≤ 100000) (.need (false = false → TokOK (lxO eJ).length (tkC (lxO eJ)) ∧ 4 ≤ 100000 ∧ 6 ≤ 100000)
  (.ite false (.ret (bv false)) (.need (9 ≤ 100000) (.need (false = false → 2 ≤ 100000) (.need (false = false → 2 ≤ 100000) (.need (false = false → 7 ≤ 100000) (.need (false = false → 1 ≤ 100000) (.need (false = false → 4 ≤ 100000) (.need (false = false → 0 ≤ 100000)
  (.ite false (.ret (bv false)) (.need (2 ≤ 100000) (.need (true = true → 1 ≤ 100000) (.need (true = true → 3 ≤ 100000) (.need (true = true → 0 ≤ 100000) (.need (true = true → 4 ≤ 100000) (.need (true = true → 1 ≤ 100000) (.ret (bv true)))))))))))))))))))))))
theorem XE_eq : autoC Tryd.prog C5 200 10 .nil [] = XE := by kernel_rfl
theorem sat_step {p : Prop} {t : Tr SV} {r : SV} (h1 : p) (h2 : t.ev r) : (Tr.need p t).ev r := ⟨h1, h2⟩
theorem sat_else {a b : Tr SV} {r : SV} (h : b.ev r) : (Tr.ite false a b).ev r := .inr ⟨rfl, h⟩
theorem ex_ok : (autoC Tryd.prog C5 200 10 .nil []).ev (bv true) := by
  rw [XE_eq]; unfold XE
  refine sat_step (by decide) (sat_step (by decide) (sat_step ⟨tokOK_C _, tokOK_of (L := exW) rfl fun i j hi hj => ?_, by decide, fun i => ?_⟩ (sat_step (by decide) (sat_step (by decide) (sat_step (by decide) (sat_step (fun _ => ⟨tokOK_C _, by decide, by decide⟩) ?_))))))
  · have h1 : i = 0 ∨ i = 1 ∨ i = 2 ∨ i = 3 ∨ i = 4 ∨ i = 5 ∨ i = 6 ∨ i = 7 := by omega
    have h2 : j = 0 ∨ j = 1 ∨ j = 2 := by omega
    rcases h1 with rfl | rfl | rfl | rfl | rfl | rfl | rfl | rfl <;> rcases h2 with rfl | rfl | rfl <;> rfl
  · rw [tokR_C]
    have := tkA_le (L := lxO exS) (n := 24) (fun x hx => lxO_at x hx) i
    omega
  repeat' (first | exact rfl | refine sat_step (by decide) ?_ | refine sat_else ?_)
noncomputable def cEx : Ctr := fun ss => match ss with
  | [] => .ret (bv true)
  | _ => .fail
theorem cEx_ok : CtrOK Tryd.prog 10 cEx := (autoC_ok C5_ok mixed 200 10 .nil).mono fun ss r h => by
  unfold cEx at h
  split at h
  · simp only [Tr.ev] at h; subst h; exact ex_ok
  · exact h.elim
end Go.Proofs.YtnoodoipghgkgaaDoor

namespace Go.Proofs.YtnoodoipghgkgaaDoor
open Go.Sx
set_option maxRecDepth 100000

noncomputable def man6 : FuncId → Option Ctr := fun k => match k with
  | 10 => some cEx
  | k => man5 k
theorem man6_ok (k : Nat) (c : Ctr) (h : man6 k = some c) : CtrOK Tryd.prog k c ∧ goodF Tryd.prog k = true := by
  unfold man6 at h
  split at h
  · cases h; exact ⟨cEx_ok, by kernel_rfl⟩
  · exact man5_ok _ _ h
noncomputable def C6 : Ctx := ctxN Tryd.prog man6 (fun _ => false) 200 .nil 6
theorem C6_ok : CtxOK Tryd.prog C6 := ctxN_ok mixed man6_ok 6
noncomputable def D6 : Dr := fun _ => drawn Tryd.prog C6
theorem D6_ok : DrOK Tryd.prog C6 D6 := drawn_ok C6_ok mixed
noncomputable def T6 (h : Hint) (k : Nat) (args : List SV) : Tree SV := fnT Tryd.prog C6 D6 300 (fnOf Tryd.prog k) (bodyOf Tryd.prog k) args h
noncomputable def tL3 (n : Nat) (b s : List UInt8) (a : Int) : Tree SV := T6 .nil 3 [byT n b, strV s, iv a]
noncomputable def tL4 (n : Nat) (b s : List UInt8) : Tree SV := T6 .nil 4 [byT n b, strV s]
noncomputable def tL5 (n : Nat) (b s : List UInt8) : Tree SV := T6 .nil 5 [byT n b, strV s]
noncomputable def tL6 (n : Nat) (a : List UInt8) (m : Nat) (b : List UInt8) (c : Bool) : Tree SV := T6 .nil 6 [byT n a, byT m b, bv c]
noncomputable def tL7 (n : Nat) (b s : List UInt8) : Tree SV := T6 .nil 7 [byT n b, strV s]
noncomputable def tL8 (n : Nat) (b s : List UInt8) : Tree SV := T6 .nil 8 [byT n b, strV s]
noncomputable def tL9 (n : Nat) (b : List UInt8) (a : Int) : Tree SV := T6 .nil 9 [byT n b, iv a]
end Go.Proofs.YtnoodoipghgkgaaDoor

namespace Go.Proofs.YtnoodoipghgkgaaDoor
open Go.Sx
set_option maxRecDepth 100000

/-! ### Arguments -/
theorem u22 : Tryd.prog.underlying 22 = some (.slice 5) := by kernel_rfl
theorem u5 : Tryd.prog.underlying 5 = some (.int .u8) := by kernel_rfl
theorem u9 : Tryd.prog.underlying 9 = some .string := by kernel_rfl
theorem u3 : Tryd.prog.underlying 3 = some (.int .i64) := by kernel_rfl
theorem u4 : Tryd.prog.underlying 4 = some .bool := by kernel_rfl
theorem c5 : Tryd.prog.cellsOf 5 = 1 := by kernel_rfl
theorem byR_at {n i : Nat} {e : Nat → Nat → DV} {v : Int} (hi : i < n) (he : e i 0 = .x (.int .u8 v)) : (byR n e).getD i 0 = UInt8.ofNat v.toNat := by
  unfold byR
  rw [List.getD_eq_getElem?_getD, List.getElem?_map, List.getElem?_range hi]
  simp only [Option.map_some, Option.getD_some, he]
theorem bytes_arg {ds : List DV} (h : okT Tryd.prog 6 22 ds) : ∃ (n : Nat) (b : List UInt8), b.length = n ∧ leSV 0 [] [] (svT Tryd.prog 22 ds) (byT n b) := by
  unfold okT at h
  rw [u22] at h
  obtain ⟨m, cell, hm, rfl, hc⟩ := h
  rw [c5] at hc
  have hs : svT Tryd.prog 22 [.ro m (Tryd.prog.cellsOf 5) cell] = .d (.ro m 1 cell) := by
    unfold svT; rw [u22, c5]; rfl
  rw [hs]
  have hv : ∀ i, i < m → ∃ v : Int, 0 ≤ v ∧ v < 256 ∧ cell i 0 = .x (.int .u8 v) := by
    intro i hi
    obtain ⟨v, hv, he⟩ := okT_int (n := 4) u5 (hc i hi)
    have h0 : IntKind.u8.min = 0 := rfl
    have h1 : IntKind.u8.max = 255 := rfl
    have : cell i 0 = .x (.int .u8 v) := by simpa [List.range, List.range.loop] using he
    exact ⟨v, by omega, by omega, this⟩
  refine ⟨m, byR m cell, by unfold byR; simp, rfl, rfl, fun i j hi hj => ?_⟩
  obtain rfl : j = 0 := by omega
  obtain ⟨v, h0, h1, he⟩ := hv i hi
  rw [he]
  unfold byC byN
  rw [byR_at hi he]
  have e : ((UInt8.ofNat v.toNat).toNat : Int) = v := by
    rw [UInt8.toNat_ofNat', Nat.mod_eq_of_lt (by omega)]; omega
  rw [e]
theorem string_arg {ds : List DV} (h : okT Tryd.prog 6 9 ds) : ∃ s : List UInt8, leSV 0 [] [] (svT Tryd.prog 9 ds) (strV s) := by
  obtain ⟨s, hs, rfl⟩ := okT_string (n := 5) u9 h
  have : svT Tryd.prog 9 [.x (.string s)] = .d (.x (.string s)) := by unfold svT; rw [u9]; rfl
  rw [this]
  exact ⟨s.data.toList, str_le s⟩
theorem int_arg {ds : List DV} (h : okT Tryd.prog 6 3 ds) : ∃ a : Int, leSV 0 [] [] (svT Tryd.prog 3 ds) (iv a) := by
  obtain ⟨i, hi, rfl⟩ := okT_int (n := 5) u3 h
  have : svT Tryd.prog 3 [.x (.int .i64 i)] = iv i := by unfold svT; rw [u3]; rfl
  rw [this]
  exact ⟨i, rfl⟩
theorem bool_arg {ds : List DV} (h : okT Tryd.prog 6 4 ds) : ∃ a : Bool, leSV 0 [] [] (svT Tryd.prog 4 ds) (bv a) := by
  obtain ⟨i, rfl⟩ := okT_bool (n := 5) u4 h
  have : svT Tryd.prog 4 [.x (.bool i)] = bv i := by unfold svT; rw [u4]; rfl
  rw [this]
  exact ⟨i, rfl⟩
theorem law_le {P : Program} {C : Ctx} {dr : Dr} (hC : CtxOK P C) (hD : DrOK P C dr) {k : Nat} {okA : List SV → Prop} (hf : (P.funcs[k]?).isSome = true) (hb : (fnOf P k).body.isSome = true)
    (h : ∀ ss, okA ss → ∃ ss' n hint, leSVs 0 [] [] ss ss' ∧ Sat P (fnT P C dr n (fnOf P k) (bodyOf P k) ss' hint) (· = bv true)) :
    ∃ c : Ctr, CtrOK P k c ∧ ∀ ss, okA ss → (c ss).ev (bv true) := by
  refine ⟨fun ss => .need (okA ss) (.ret (bv true)), ?_, fun ss hs => ⟨hs, rfl⟩⟩
  refine ctrOK_leS hC hD hf hb fun ss r hr => ?_
  obtain ⟨h1, rfl⟩ := hr
  exact h ss h1
end Go.Proofs.YtnoodoipghgkgaaDoor

/- Plain laws: what Lex hands back, told for the laws. -/
namespace Go.Sx
theorem lxO_cases (U : List UInt8) (hU : U.length ≤ 8000) : (∃ p, (lexL U 0).2 = some p ∧ p < U.length ∧ lxO U = [] ∧ lxE U = 5 ∧ lxA U = p) ∨ ((lexL U 0).2 = none ∧ ∃ ts, (lexL U 0).1 = ts ++ [⟨4, [], U.length⟩] ∧ lxO U = ts ++ [⟨4, [], U.length⟩] ∧ lxE U = 0 ∧ lxA U = 0 ∧ (∀ x ∈ ts, GoodT x.k x.t) ∧ (ts.map fun x => x.t.length + 1).sum ≤ 2 * U.length) := by
  have h8 : ¬ 8000 < U.length := by omega
  cases h : (lexL U 0).2 with
  | some p =>
    refine .inl ⟨p, rfl, ?_, ?_, ?_, ?_⟩
    · have := (lex_err_lt U 0 p h).2; omega
    · unfold lxO; rw [if_neg h8, h]
    · unfold lxE; rw [if_neg h8, h]
    · unfold lxA; rw [if_neg h8, h]; rfl
  | none =>
    obtain ⟨ts, hts⟩ := lex_len U 0 h
    rw [Nat.zero_add] at hts
    have hl : lexL U 0 = (ts ++ [⟨4, [], U.length⟩], none) := by
      rw [← hts, ← h]
    have hg := lex_good U 0 ts _ hl
    refine .inr ⟨rfl, ts, hts, ?_, ?_, ?_, hg.1, hg.2⟩
    · unfold lxO; rw [if_neg h8, h]; exact hts
    · unfold lxE; rw [if_neg h8, h]
    · unfold lxA; rw [if_neg h8, h]; rfl
theorem sum_len (ts : List Tok) : ts.length ≤ (ts.map fun x => x.t.length + 1).sum := by
  induction ts with
  | nil => simp
  | cons x ts ih => simp only [List.map_cons, List.sum_cons, List.length_cons]; omega
theorem lxO_len (U : List UInt8) : (lxO U).length ≤ 2 * U.length + 1 := by
  by_cases h : U.length ≤ 8000
  · rcases lxO_cases U h with ⟨p, _, _, h1, _⟩ | ⟨_, ts, _, h1, _, _, _, h2⟩
    · rw [h1]; simp
    · have := sum_len ts
      rw [h1, List.length_append, List.length_singleton]; omega
  · unfold lxO; rw [if_pos (by omega)]; simp
theorem good_k4 {ts : List Tok} (h : ∀ x ∈ ts, GoodT x.k x.t) : ts.filter (fun x => x.k != 4) = ts := by
  rw [List.filter_eq_self]
  intro x hx
  have := (h x hx).kk
  rw [bne_iff_ne]; omega
theorem ktx_all {ts : List Tok} {e : Nat} (h : ∀ x ∈ ts, GoodT x.k x.t) : ktx (ts ++ [⟨4, [], e⟩]) (ts.length + 1) = ts.map (·.t) := by
  unfold ktx
  rw [List.take_of_length_le (by simp), List.filter_append, good_k4 h]
  simp
theorem ktx_nil (n : Nat) : ktx [] n = [] := by unfold ktx; simp
theorem lxJ_len (U : List UInt8) : (joinL (ktx (lxO U) (lxO U).length)).length ≤ 2 * U.length := by
  by_cases h : U.length ≤ 8000
  · rcases lxO_cases U h with ⟨p, _, _, h1, _⟩ | ⟨_, ts, _, h1, _, _, hg, h2⟩
    · rw [h1, ktx_nil]; exact Nat.zero_le _
    · have := joinL_len ts
      rw [h1, List.length_append, List.length_singleton, ktx_all hg]; omega
  · have : lxO U = [] := by unfold lxO; rw [if_pos (by omega)]
    rw [this, ktx_nil]; exact Nat.zero_le _
theorem strEq_self (a : ByteArray) : strEq a a = true := strEq_iff.2 rfl
theorem smB_self (n : Nat) (L : List Tok) : smB n L n L 0 = true := by
  rw [smB_iff]
  refine ⟨rfl, fun i hi => ?_⟩
  unfold smF
  rw [strEq_self, Int.add_zero]; simp
end Go.Sx

namespace Go.Proofs.YtnoodoipghgkgaaDoor
open Go.Sx
set_option maxRecDepth 100000

noncomputable def invL9 (u : List UInt8) (l c : Int) (i : Nat) : AS := ⟨List.replicate 4 .unk ++ [.ok (bv false), .ok (bv true), .ok (strV u), .ok (.ptr 0 0), .ok (iv i)] ++ List.replicate 80 .unk, [some (.cells [iv l, iv c]), none], 2, .nil⟩
noncomputable def bodyL9 : Code := loopN (bodyOf Tryd.prog 9) 0
noncomputable def LL9_q1 (b : List UInt8) (i : Nat) (j : Nat) : DV :=
  DV.x (.int .u8 (↑(byN b i) : Int))
noncomputable def LL9 (n : Nat) (b : List UInt8) (a : Int) : Tree SV :=
  .ite false (.ret (bv false))
  (.need (ByOK n (LL9_q1 b))
   (.need (ByteArray.size (strB (mdS n (LL9_q1 b))) ≤ 100000)
   (.ite
   (!(decide (a < (0 : Int)) || decide (a > (↑(ByteArray.size (strB (mdS n (LL9_q1 b)))) : Int))) ==
   ((↑(Prod.fst (lnO (Array.toList (ByteArray.data (strB (mdS n (LL9_q1 b))))) a)) : Int) == (0 : Int) &&
   ((↑(Prod.snd (lnO (Array.toList (ByteArray.data (strB (mdS n (LL9_q1 b))))) a)) : Int) == (0 : Int) && true)))
   (.ret (bv false))
   (.need (ByteArray.size (strB (mdS n (LL9_q1 b))) ≤ 100000)
   (.ite ((↑1 : Int) != (1 : Int) || (↑1 : Int) != (1 : Int)) (.ret (bv false))
   (.code (codeC (sub [(1 : Nat), (0 : Nat), (0 : Nat), (1 : Nat), (0 : Nat), (1 : Nat)] (tL9 n b a))) (codeS (sub [(1 : Nat), (0 : Nat), (0 : Nat), (1 : Nat), (0 : Nat), (1 : Nat)] (tL9 n b a)))
   (codeK (sub [(1 : Nat), (0 : Nat), (0 : Nat), (1 : Nat), (0 : Nat), (1 : Nat)] (tL9 n b a)))))))))

theorem LL9_eq (n : Nat) (b : List UInt8) (a : Int) : tL9 n b a = LL9 n b a := by kernel_rfl

noncomputable def BL9 (u : List UInt8) (l c : Int) (i : Nat) : Tree (Ex × AS) :=
  .ite (decide ((↑i : Int) < (↑(ByteArray.size (strB u)) : Int))) (.need (ByteArray.size (strB u) ≤ 100000) (.need ((0 : Int) ≤ (↑i : Int) ∧ (↑i : Int) < (↑(ByteArray.size (strB u)) : Int)) (.need (((↑(UInt8.toNat (Array.getD (ByteArray.data (strB u)) (Int.toNat (↑i : Int)) (0 : UInt8))) : Int) == (10 : Int) && ((↑(Prod.fst (lnO (Array.toList (ByteArray.data (strB u))) (w64 ((↑i : Int) + (1 : Int))))) : Int) != w64 (l + (1 : Int)) || (↑(Prod.snd (lnO (Array.toList (ByteArray.data (strB u))) (w64 ((↑i : Int) + (1 : Int))))) : Int) != (1 : Int))) = false → (0 : Int) ≤ (↑i : Int) ∧ (↑i : Int) < (↑(ByteArray.size (strB u)) : Int)) (.ite ((↑(UInt8.toNat (Array.getD (ByteArray.data (strB u)) (Int.toNat (↑i : Int)) (0 : UInt8))) : Int) == (10 : Int) && ((↑(Prod.fst (lnO (Array.toList (ByteArray.data (strB u))) (w64 ((↑i : Int) + (1 : Int))))) : Int) != w64 (l + (1 : Int)) || (↑(Prod.snd (lnO (Array.toList (ByteArray.data (strB u))) (w64 ((↑i : Int) + (1 : Int))))) : Int) != (1 : Int)) || (↑(UInt8.toNat (Array.getD (ByteArray.data (strB u)) (Int.toNat (↑i : Int)) (0 : UInt8))) : Int) != (10 : Int) && ((↑(Prod.fst (lnO (Array.toList (ByteArray.data (strB u))) (w64 ((↑i : Int) + (1 : Int))))) : Int) != l || (↑(Prod.snd (lnO (Array.toList (ByteArray.data (strB u))) (w64 ((↑i : Int) + (1 : Int))))) : Int) != w64 (c + (1 : Int)))) (.ret (.ret, { tm := [.unk, .unk, .unk, .unk, .ok (bv false), .ok (bv true), .ok (SV.d (DV.x (.string (strB u)))), .ok (SV.ptr 0 0), .ok (iv (↑i : Int)), .unk, .unk, .unk, .unk, .unk, .unk, .unk, .unk, .unk, .unk, .unk, .unk, .unk, .unk, .unk, .unk, .unk, .unk, .unk, .unk, .unk, .unk, .unk, .unk, .unk, .unk, .unk, .unk, .unk, .unk, .unk, .unk, .unk, .unk, .unk, .unk, .unk, .unk, .unk, .unk, .unk, .unk, .unk, .unk, .unk, .unk, .unk, .unk, .unk, .unk, .unk, .unk, .unk, .unk, .unk, .unk, .unk, .unk, .unk, .unk, .unk, .unk, .unk, .unk, .unk, .unk, .unk, .unk, .unk, .unk, .unk, .unk, .unk, .unk, .unk, .unk, .unk, .unk, .unk, .unk], hp := [some (.cells [iv l, iv c]), none], next := 2, hint := .nil })) (.ret (.normal, { tm := [.unk, .unk, .unk, .unk, .ok (bv false), .ok (bv true), .ok (SV.d (DV.x (.string (strB u)))), .ok (SV.ptr 0 0), .ok (iv (w64 ((↑i : Int) + (1 : Int)))), .unk, .unk, .unk, .unk, .unk, .unk, .unk, .unk, .unk, .unk, .unk, .unk, .unk, .unk, .unk, .unk, .unk, .unk, .unk, .unk, .unk, .unk, .unk, .unk, .unk, .unk, .unk, .unk, .unk, .unk, .unk, .unk, .unk, .unk, .unk, .unk, .unk, .unk, .unk, .unk, .unk, .unk, .unk, .unk, .unk, .unk, .unk, .unk, .unk, .unk, .unk, .unk, .unk, .unk, .unk, .unk, .unk, .unk, .unk, .unk, .unk, .unk, .unk, .unk, .unk, .unk, .unk, .unk, .unk, .unk, .unk, .unk, .unk, .unk, .unk, .unk, .unk, .unk, .unk, .unk], hp := [some (.cells [iv (↑(Prod.fst (lnO (Array.toList (ByteArray.data (strB u))) (w64 ((↑i : Int) + (1 : Int))))) : Int), iv (↑(Prod.snd (lnO (Array.toList (ByteArray.data (strB u))) (w64 ((↑i : Int) + (1 : Int))))) : Int)]), none], next := 2, hint := .nil })))))) (.ret (.exit 0, { tm := [.unk, .unk, .unk, .unk, .ok (bv false), .ok (bv true), .ok (SV.d (DV.x (.string (strB u)))), .ok (SV.ptr 0 0), .ok (iv (↑i : Int)), .unk, .unk, .unk, .unk, .unk, .unk, .unk, .unk, .unk, .unk, .unk, .unk, .unk, .unk, .unk, .unk, .unk, .unk, .unk, .unk, .unk, .unk, .unk, .unk, .unk, .unk, .unk, .unk, .unk, .unk, .unk, .unk, .unk, .unk, .unk, .unk, .unk, .unk, .unk, .unk, .unk, .unk, .unk, .unk, .unk, .unk, .unk, .unk, .unk, .unk, .unk, .unk, .unk, .unk, .unk, .unk, .unk, .unk, .unk, .unk, .unk, .unk, .unk, .unk, .unk, .unk, .unk, .unk, .unk, .unk, .unk, .unk, .unk, .unk, .unk, .unk, .unk, .unk, .unk, .unk], hp := [some (.cells [iv l, iv c]), none], next := 2, hint := .nil }))

theorem BL9_eq (u : List UInt8) (l c : Int) (i : Nat) : cutT 2 [] [4, 5, 6, 7, 8] [1] 2 .nil (exec Tryd.prog C6 D6 300 bodyL9 (invL9 u l c i)) = BL9 u l c i := by kernel_rfl

noncomputable def KL9 (n : Nat) (b : List UInt8) (a : Int) (u : List UInt8) (l c : Int) (i : Nat) : Tree SV :=
  .ret (bv true)

theorem KL9_eq (n : Nat) (b : List UInt8) (a : Int) (u : List UInt8) (l c : Int) (i : Nat) : codeK (sub [1, 0, 0, 1, 0, 1] (tL9 n b a)) (.exit 0) (invL9 u l c i) = KL9 n b a u l c i := by kernel_rfl

end Go.Proofs.YtnoodoipghgkgaaDoor

namespace Go.Proofs.YtnoodoipghgkgaaDoor
open Go.Sx
set_option maxRecDepth 100000

theorem mdS_len {n : Nat} {e : Nat → Nat → DV} : (mdS n e).length ≤ 600 := by
  unfold mdS
  have := txM_len (fun i => ((byR n e).getD i 0).toNat) (min n 60)
  omega
theorem clS_len {n : Nat} {e : Nat → Nat → DV} : (clS n e).length ≤ 600 := by
  unfold clS
  have := txC_len (fun i => ((byR n e).getD i 0).toNat) (min n 60)
  omega
theorem byOK_l {b : List UInt8} {n : Nat} (h : b.length = n) : ByOK n (byC b) := by subst h; exact byOK_C b
theorem lnS_pos {p : Nat × Nat} {b : UInt8} (h : 0 < p.1 ∧ 0 < p.2) : 0 < (lnS p b).1 ∧ 0 < (lnS p b).2 := by
  unfold lnS; split
  · exact ⟨by show 0 < p.1 + 1; omega, by show 0 < 1; omega⟩
  · exact ⟨h.1, by show 0 < p.2 + 1; omega⟩
theorem lnP_pos (l : List UInt8) : 0 < (lnP l).1 ∧ 0 < (lnP l).2 := snoc_ind (P := fun l => 0 < (lnP l).1 ∧ 0 < (lnP l).2) ⟨by decide, by decide⟩ (fun l a ih => by rw [lnP_snoc]; exact lnS_pos ih) l
theorem law9 {n : Nat} {b : List UInt8} {a : Int} (hb : b.length = n) : Sat Tryd.prog (tL9 n b a) (· = bv true) := by
  constructor
  rw [LL9_eq]; unfold LL9
  have eq1 : LL9_q1 b = byC b := rfl
  rw [eq1]
  have hok := byOK_l hb
  have hl : (mdS n (byC b)).length ≤ 600 := mdS_len
  generalize hU : mdS n (byC b) = U at hl ⊢
  simp only [strB_size, strB_list]
  refine ⟨fun h => (by cases h), fun _ => ⟨hok, by omega, fun h => ?_, fun _ => ⟨by omega, fun h => absurd h (by decide), fun _ => ?_⟩⟩⟩
  · exfalso
    have : (decide (a < 0) || decide (a > (U.length : Int))) = (((lnO U a).1 : Int) == 0 && (((lnO U a).2 : Int) == 0 && true)) := by
      unfold lnO
      have hp := lnP_pos (U.take a.toNat)
      split
      · rename_i h1
        rw [decide_eq_false (by omega), decide_eq_false (by omega), beq_eq_false_iff_ne.2 (by omega)]; rfl
      · rename_i h1
        have : (decide (a < 0) || decide (a > (U.length : Int))) = true := by
          rw [Bool.or_eq_true, decide_eq_true_eq, decide_eq_true_eq]; omega
        rw [this]; rfl
    rw [this] at h
    simp at h
  refine code_satS C6_ok D6_ok (n := 300) (n0 := 2) (nx := 2) (roots := []) (keep := [4, 5, 6, 7, 8]) (drop := [1]) (h := .nil) (c := codeC (sub [1, 0, 0, 1, 0, 1] (tL9 n b a))) (st := codeS (sub [1, 0, 0, 1, 0, 1] (tL9 n b a))) (k := codeK (sub [1, 0, 0, 1, 0, 1] (tL9 n b a))) (body := bodyL9) (by kernel_rfl) (by kernel_rfl)
    (fun q t => ∃ i : Nat, q = U.length - i ∧ i ≤ U.length ∧ t = invL9 U (lnP (U.take i)).1 (lnP (U.take i)).2 i)
    (fun e t => e = .exit 0 ∧ ∃ l c i, t = invL9 U l c i)
    ⟨_, _, ⟨0, rfl, by omega, rfl⟩, ?_⟩ ?_ ?_
  · subst hU
    exact entA_sound (roots := []) (keep := [4, 5, 6, 7, 8]) (drop := [1]) (nx := 2) (h := .nil) (by kernel_rfl)
  · rintro q t ⟨i, rfl, hi, rfl⟩
    refine Sat.of_eq (BL9_eq U _ _ i) ?_
    constructor
    unfold BL9
    have wi : w64 ((i : Int) + 1) = ((i + 1 : Nat) : Int) := by rw [w64_of (by omega) (by omega)]; omega
    simp only [Int.toNat_natCast, wi, strB_at, strB_size, strB_list, e10]
    refine ⟨fun h => ?_, fun h => ?_⟩
    · have hlt : i < U.length := by rw [decide_eq_true_eq] at h; omega
      have e1 : lnO U ((i + 1 : Nat) : Int) = lnS (lnP (U.take i)) (U.getD i 0) := by
        unfold lnO
        rw [if_pos (by omega), Int.toNat_natCast, take_snoc hlt, lnP_snoc]
      have hbd := lnP_bd (U.take i)
      rw [List.length_take] at hbd
      have hw1 : w64 (((lnP (U.take i)).1 : Nat) + 1) = (((lnP (U.take i)).1 + 1 : Nat) : Int) := by rw [w64_of (by omega) (by omega)]; omega
      have hw2 : w64 (((lnP (U.take i)).2 : Nat) + 1) = (((lnP (U.take i)).2 + 1 : Nat) : Int) := by rw [w64_of (by omega) (by omega)]; omega
      rw [e1]
      have key : (U.getD i 0 == 10 && ((((lnS (lnP (U.take i)) (U.getD i 0)).1 : Nat) : Int) != w64 (((lnP (U.take i)).1 : Nat) + 1) || (((lnS (lnP (U.take i)) (U.getD i 0)).2 : Nat) : Int) != 1)
          || (((U.getD i 0).toNat : Nat) : Int) != 10 && ((((lnS (lnP (U.take i)) (U.getD i 0)).1 : Nat) : Int) != ((lnP (U.take i)).1 : Nat) || (((lnS (lnP (U.take i)) (U.getD i 0)).2 : Nat) : Int) != w64 (((lnP (U.take i)).2 : Nat) + 1))) = false := by
        unfold bne
        rw [e10, hw1, hw2]
        unfold lnS
        by_cases hc : U.getD i 0 = 10
        · rw [if_pos hc, hc]; simp
        · rw [if_neg hc, beq_eq_false_iff_ne.2 hc]; simp
      refine ⟨by omega, ⟨by omega, by omega⟩, fun _ => ⟨by omega, by omega⟩, fun h2 => ?_, fun _ => ?_⟩
      · rw [key] at h2; cases h2
      · refine ⟨U.length - (i + 1), _, by omega, ⟨i + 1, rfl, by omega, ?_⟩, Gc.refl _ _⟩
        rw [take_snoc hlt, lnP_snoc]; rfl
    · refine ⟨_, ⟨rfl, _, _, _, rfl⟩, Gc.refl _ _⟩
  · rintro e t ⟨rfl, l, c, i, rfl⟩
    exact Sat.of_eq (KL9_eq n b a U l c i) ⟨rfl⟩
end Go.Proofs.YtnoodoipghgkgaaDoor

