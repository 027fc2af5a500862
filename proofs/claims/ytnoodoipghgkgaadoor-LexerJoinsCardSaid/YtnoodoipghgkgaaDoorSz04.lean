/- Part of a proof of the given statements of this seat (SxLxA, SxLxB, SxLx0, SxLxC): no conditions beyond those typed here. -/
import Derived.Test.YtnoodoipghgkgaaDoorSz03
import Derived.Test.YtnoodoipghgkgaaDoorProg
import Derived.Lib.ItoaNum
set_option linter.unusedVariables false
set_option linter.unusedSimpArgs false
set_option linter.unusedSectionVars false

/- Plain laws of splitting a text into tokens. -/
namespace Go.Sx

def isLet (b : UInt8) : Bool := decide (97 ≤ b.toNat) && decide (b.toNat ≤ 122)
def isDg (b : UInt8) : Bool := decide (48 ≤ b.toNat) && decide (b.toNat ≤ 57)
def isWd (b : UInt8) : Bool := isLet b || isDg b
def isSp (b : UInt8) : Bool := b == 32 || b == 10
def sgL : List UInt8 := [40, 41, 123, 125, 91, 93, 44, 59, 58, 61, 43, 45, 38, 124, 94, 126, 60, 63, 64, 35, 46]
def isSg (b : UInt8) : Bool := sgL.contains b
def notNl (b : UInt8) : Bool := b != 10
structure Tok where
  k : Nat
  t : List UInt8
  a : Nat
instance : Inhabited Tok := ⟨⟨0, [], 0⟩⟩

def pre2 (x y : UInt8) : List UInt8 → Bool
  | a :: b :: _ => a == x && b == y
  | _ => false
def hd1 (p : UInt8 → Bool) : List UInt8 → Bool
  | a :: _ => p a
  | [] => false
/-- What of a word is a number: at most a million, and written as it is written. -/
def dval (l : List UInt8) : Nat := l.foldl (fun n b => 10 * n + (b.toNat - 48)) 0
def numK (l : List UInt8) : Bool := l.all isDg && decide (dval l ≤ 1000000) && (decide (l.length ≤ 1) || !(hd1 (· == 48) l))
def wKind (l : List UInt8) : Nat := if l.isEmpty then 0 else if hd1 isLet l then 1 else if numK l then 2 else 0
def sgLen (l : List UInt8) : Nat := if pre2 45 62 l || pre2 61 61 l then 2 else if hd1 isSg l then 1 else 0
def cmt (l : List UInt8) : Bool := pre2 47 47 l
def skipN (l : List UInt8) : Nat := if hd1 isSp l then 1 else if cmt l then (l.takeWhile notNl).length else 0
def tokK (l : List UInt8) : Nat := if wKind (l.takeWhile isWd) = 0 then 3 else wKind (l.takeWhile isWd)
def tokN (l : List UInt8) : Nat := if wKind (l.takeWhile isWd) = 0 then sgLen l else (l.takeWhile isWd).length
def lexF : Nat → List UInt8 → Nat → List Tok × Option Nat
  | 0, _, a => ([], some a)
  | f + 1, l, a =>
    if l.isEmpty then ([⟨4, [], a⟩], none)
    else if 0 < skipN l then lexF f (l.drop (skipN l)) (a + skipN l)
    else if tokN l = 0 then ([], some a)
    else (⟨tokK l, l.take (tokN l), a⟩ :: (lexF f (l.drop (tokN l)) (a + tokN l)).1, (lexF f (l.drop (tokN l)) (a + tokN l)).2)
def lexL (l : List UInt8) (a : Nat) : List Tok × Option Nat := lexF (l.length + 1) l a

theorem tw_le (p : UInt8 → Bool) : ∀ l : List UInt8, (l.takeWhile p).length ≤ l.length
  | [] => by simp
  | b :: l => by
    simp only [List.takeWhile]
    split
    · simp only [List.length_cons]; have := tw_le p l; omega
    · simp
theorem skipN_le (l : List UInt8) : skipN l ≤ l.length := by
  unfold skipN
  split
  · rename_i h
    match l, h with
    | b :: l, _ => simp
  · split
    · exact tw_le _ _
    · omega
theorem sgLen_le (l : List UInt8) : sgLen l ≤ l.length := by
  unfold sgLen
  split
  · rename_i h
    match l, h with
    | [], h => simp [pre2] at h
    | [a], h => simp [pre2] at h
    | a :: b :: l, _ => simp
  · split
    · rename_i h
      match l, h with
      | b :: l, _ => simp
    · omega
theorem tokN_le (l : List UInt8) : tokN l ≤ l.length := by
  unfold tokN
  split
  · exact sgLen_le l
  · exact tw_le _ _
theorem lexF_enough : ∀ (f g : Nat) (l : List UInt8) (a : Nat), l.length < f → l.length < g → lexF f l a = lexF g l a
  | 0, g, l, a, h, _ => by omega
  | f + 1, 0, l, a, _, h => by omega
  | f + 1, g + 1, l, a, h1, h2 => by
    unfold lexF
    by_cases he : l.isEmpty = true
    · rw [if_pos he, if_pos he]
    · rw [if_neg he, if_neg he]
      have hl : 0 < l.length := by
        cases l with
        | nil => simp at he
        | cons b l => simp
      by_cases hs : 0 < skipN l
      · rw [if_pos hs, if_pos hs]
        have := skipN_le l
        exact lexF_enough f g _ _ (by rw [List.length_drop]; omega) (by rw [List.length_drop]; omega)
      · rw [if_neg hs, if_neg hs]
        by_cases ht : tokN l = 0
        · rw [if_pos ht, if_pos ht]
        · rw [if_neg ht, if_neg ht]
          have := tokN_le l
          rw [lexF_enough f g _ _ (by rw [List.length_drop]; omega) (by rw [List.length_drop]; omega)]
theorem lexL_nil (a : Nat) : lexL [] a = ([⟨4, [], a⟩], none) := rfl
theorem lexL_skip {l : List UInt8} (a : Nat) (h0 : l ≠ []) (hs : 0 < skipN l) : lexL l a = lexL (l.drop (skipN l)) (a + skipN l) := by
  have he : ¬ l.isEmpty = true := by simpa using h0
  have hl : 0 < l.length := List.length_pos_iff.2 h0
  have := skipN_le l
  conv => lhs; unfold lexL lexF
  rw [if_neg he, if_pos hs]
  unfold lexL
  exact lexF_enough _ _ _ _ (by rw [List.length_drop]; omega) (by rw [List.length_drop]; omega)
theorem lexL_err {l : List UInt8} (a : Nat) (h0 : l ≠ []) (hs : skipN l = 0) (ht : tokN l = 0) : lexL l a = ([], some a) := by
  have he : ¬ l.isEmpty = true := by simpa using h0
  unfold lexL lexF
  rw [if_neg he, if_neg (by omega), if_pos ht]
theorem lexL_tok {l : List UInt8} (a : Nat) (h0 : l ≠ []) (hs : skipN l = 0) (ht : 0 < tokN l) :
    lexL l a = (⟨tokK l, l.take (tokN l), a⟩ :: (lexL (l.drop (tokN l)) (a + tokN l)).1, (lexL (l.drop (tokN l)) (a + tokN l)).2) := by
  have he : ¬ l.isEmpty = true := by simpa using h0
  have hl : 0 < l.length := List.length_pos_iff.2 h0
  have := tokN_le l
  conv => lhs; unfold lexL lexF
  rw [if_neg he, if_neg (by omega), if_neg (by omega)]
  unfold lexL
  rw [lexF_enough l.length ((List.drop (tokN l) l).length + 1) _ _ (by rw [List.length_drop]; omega) (by omega)]
/-- Induction along the tokens. -/
theorem lex_ind {P : List UInt8 → Nat → Prop} (h1 : ∀ a, P [] a) (h2 : ∀ l a, l ≠ [] → 0 < skipN l → P (l.drop (skipN l)) (a + skipN l) → P l a)
    (h3 : ∀ l a, l ≠ [] → skipN l = 0 → tokN l = 0 → P l a) (h4 : ∀ l a, l ≠ [] → skipN l = 0 → 0 < tokN l → P (l.drop (tokN l)) (a + tokN l) → P l a) : ∀ (l : List UInt8) (a : Nat), P l a := by
  have key : ∀ (n : Nat) (l : List UInt8) (a : Nat), l.length ≤ n → P l a := by
    intro n
    induction n with
    | zero =>
      intro l a h
      have : l = [] := List.length_eq_zero_iff.1 (by omega)
      subst this; exact h1 a
    | succ n ih =>
      intro l a h
      by_cases h0 : l = []
      · subst h0; exact h1 a
      · have hl : 0 < l.length := List.length_pos_iff.2 h0
        by_cases hs : 0 < skipN l
        · exact h2 l a h0 hs (ih _ _ (by rw [List.length_drop]; omega))
        · by_cases ht : 0 < tokN l
          · exact h4 l a h0 (by omega) ht (ih _ _ (by rw [List.length_drop]; omega))
          · exact h3 l a h0 (by omega) (by omega)
  exact fun l a => key l.length l a (Nat.le_refl _)

/-! ### Offsets -/
def shT (d : Nat) (x : Tok) : Tok := ⟨x.k, x.t, x.a + d⟩
theorem lex_shift (d : Nat) : ∀ (l : List UInt8) (a : Nat), lexL l (a + d) = ((lexL l a).1.map (shT d), (lexL l a).2.map (· + d)) := by
  refine lex_ind ?_ ?_ ?_ ?_
  · intro a; rw [lexL_nil, lexL_nil]; rfl
  · intro l a h0 hs ih
    rw [lexL_skip _ h0 hs, lexL_skip a h0 hs, ← ih]
    congr 1; omega
  · intro l a h0 hs ht
    rw [lexL_err _ h0 hs ht, lexL_err a h0 hs ht]; rfl
  · intro l a h0 hs ht ih
    rw [lexL_tok _ h0 hs ht, lexL_tok a h0 hs ht]
    have e : a + d + tokN l = a + tokN l + d := by omega
    rw [e, ih]; rfl

/-! ### What stands behind -/
theorem tw_app (p : UInt8 → Bool) (c : UInt8) (r : List UInt8) (hc : p c = false) : ∀ l : List UInt8, (l ++ c :: r).takeWhile p = l.takeWhile p
  | [] => by simp [List.takeWhile, hc]
  | b :: l => by
    simp only [List.cons_append, List.takeWhile]
    split
    · rw [tw_app p c r hc l]
    · rfl
theorem tw_app' (p : UInt8 → Bool) (r : List UInt8) : ∀ l : List UInt8, (l.takeWhile p).length < l.length → (l ++ r).takeWhile p = l.takeWhile p
  | [], h => by simp at h
  | b :: l, h => by
    simp only [List.cons_append, List.takeWhile] at h ⊢
    split
    · rename_i hb
      rw [hb] at h
      rw [tw_app' p r l (by simpa using h)]
    · rfl
theorem tw_take (p : UInt8 → Bool) : ∀ (l : List UInt8) (n : Nat), (l.take n).takeWhile p = (l.takeWhile p).take n
  | [], n => by simp
  | b :: l, 0 => by simp
  | b :: l, n + 1 => by
    simp only [List.take_succ_cons, List.takeWhile]
    split
    · rw [List.take_succ_cons, tw_take p l n]
    · simp
theorem tw_eq_nil {p : UInt8 → Bool} {l : List UInt8} (h : hd1 p l = false) : l.takeWhile p = [] := by
  cases l with
  | nil => rfl
  | cons b l => simp only [hd1] at h; simp [List.takeWhile, h]
theorem tw_hd {p : UInt8 → Bool} {l : List UInt8} (h : hd1 p l = true) : l.takeWhile p ≠ [] := by
  cases l with
  | nil => cases h
  | cons b l => simp only [hd1] at h; simp [List.takeWhile, h]
theorem hd_app {p : UInt8 → Bool} {l : List UInt8} (r : List UInt8) (h : l ≠ []) : hd1 p (l ++ r) = hd1 p l := by
  cases l with
  | nil => exact absurd rfl h
  | cons b l => rfl
theorem hd_take {p : UInt8 → Bool} {l : List UInt8} {n : Nat} (h : 0 < n) : hd1 p (l.take n) = hd1 p l := by
  cases l with
  | nil => simp
  | cons b l => obtain ⟨m, rfl⟩ : ∃ m, n = m + 1 := ⟨n - 1, by omega⟩; rfl
theorem pre2_app {x y c : UInt8} (hc : c ≠ y) (r : List UInt8) : ∀ {l : List UInt8}, l ≠ [] → pre2 x y (l ++ c :: r) = pre2 x y l
  | [a], _ => by
    simp only [List.cons_append, List.nil_append, pre2]
    rw [beq_eq_false_iff_ne.2 hc, Bool.and_false]
  | a :: b :: l, _ => rfl
theorem pre2_take {x y : UInt8} {n : Nat} (h : 2 ≤ n) (l : List UInt8) : pre2 x y (l.take n) = pre2 x y l := by
  obtain ⟨m, rfl⟩ : ∃ m, n = m + 2 := ⟨n - 2, by omega⟩
  match l with
  | [] => rfl
  | [a] => rfl
  | a :: b :: l => rfl
theorem pre2_take1 {x y : UInt8} (l : List UInt8) : pre2 x y (l.take 1) = false := by
  match l with
  | [] => rfl
  | [a] => rfl
  | a :: b :: l => rfl
theorem pre2_hd {x y : UInt8} {l : List UInt8} (h : pre2 x y l = true) (p : UInt8 → Bool) : hd1 p l = p x := by
  match l, h with
  | a :: b :: l, h => simp only [pre2, Bool.and_eq_true, beq_iff_eq] at h; rw [hd1, h.1]
/-- A byte that ends each token and each space but a comment. -/
structure Ends (c : UInt8) : Prop where
  wd : isWd c = false
  ne1 : c ≠ 62
  ne2 : c ≠ 61
  ne3 : c ≠ 47
theorem ends10 : Ends 10 := ⟨by decide, by decide, by decide, by decide⟩
theorem ends32 : Ends 32 := ⟨by decide, by decide, by decide, by decide⟩
theorem tokN_app {c : UInt8} (hc : Ends c) (r : List UInt8) {l : List UInt8} (h0 : l ≠ []) : tokN (l ++ c :: r) = tokN l := by
  unfold tokN sgLen
  rw [tw_app _ _ _ hc.wd, pre2_app hc.ne1 r h0, pre2_app hc.ne2 r h0, hd_app _ h0]
theorem tokK_app {c : UInt8} (hc : Ends c) (r : List UInt8) (l : List UInt8) : tokK (l ++ c :: r) = tokK l := by
  unfold tokK
  rw [tw_app _ _ _ hc.wd]
theorem skipN_app {c : UInt8} (hc : Ends c) (r : List UInt8) {l : List UInt8} (h0 : l ≠ []) (hn : c = 10 ∨ skipN l < l.length) : skipN (l ++ c :: r) = skipN l := by
  unfold skipN cmt at *
  rw [hd_app _ h0, pre2_app hc.ne3 r h0]
  by_cases h1 : hd1 isSp l = true
  · rw [if_pos h1, if_pos h1]
  · rw [if_neg h1, if_neg h1]
    rw [if_neg h1] at hn
    by_cases h2 : pre2 47 47 l = true
    · rw [if_pos h2, if_pos h2]
      rw [if_pos h2] at hn
      rcases hn with h | h
      · subst h; rw [tw_app notNl 10 r (by decide)]
      · rw [tw_app' _ _ _ h]
    · rw [if_neg h2, if_neg h2]
theorem lex_len : ∀ (l : List UInt8) (a : Nat), (lexL l a).2 = none → ∃ ts, (lexL l a).1 = ts ++ [⟨4, [], a + l.length⟩] := by
  refine lex_ind ?_ ?_ ?_ ?_
  · intro a _; exact ⟨[], rfl⟩
  · intro l a h0 hs ih h
    rw [lexL_skip _ h0 hs] at h ⊢
    obtain ⟨ts, e⟩ := ih h
    refine ⟨ts, ?_⟩
    rw [e]
    have := skipN_le l
    have e2 : a + skipN l + (List.drop (skipN l) l).length = a + l.length := by rw [List.length_drop]; omega
    rw [e2]
  · intro l a h0 hs ht h
    rw [lexL_err _ h0 hs ht] at h; cases h
  · intro l a h0 hs ht ih h
    rw [lexL_tok _ h0 hs ht] at h ⊢
    obtain ⟨ts, e⟩ := ih h
    refine ⟨⟨tokK l, l.take (tokN l), a⟩ :: ts, ?_⟩
    have := tokN_le l
    have e2 : a + tokN l + (List.drop (tokN l) l).length = a + l.length := by rw [List.length_drop]; omega
    simp only [e, e2, List.cons_append]
/-- A file behind a line feed. -/
theorem lex_cat (r : List UInt8) : ∀ (l : List UInt8) (a : Nat), (lexL l a).2 = none →
    lexL (l ++ 10 :: r) a = ((lexL l a).1.dropLast ++ (lexL r (a + l.length + 1)).1, (lexL r (a + l.length + 1)).2) := by
  refine lex_ind ?_ ?_ ?_ ?_
  · intro a _
    have hs : skipN ([] ++ 10 :: r) = 1 := rfl
    rw [lexL_skip a (by simp) (by rw [hs]; omega), hs]; rfl
  · intro l a h0 hs ih h
    have e := skipN_app ends10 r h0 (.inl rfl)
    rw [lexL_skip _ h0 hs] at h ⊢
    have hle := skipN_le l
    rw [lexL_skip a (by simp) (by rw [e]; exact hs), e, List.drop_append_of_le_length hle, ih h]
    have e2 : a + skipN l + (List.drop (skipN l) l).length + 1 = a + l.length + 1 := by rw [List.length_drop]; omega
    rw [e2]
  · intro l a h0 hs ht h
    rw [lexL_err _ h0 hs ht] at h; cases h
  · intro l a h0 hs ht ih h
    have e := skipN_app ends10 r h0 (.inl rfl)
    have e1 := tokN_app ends10 r h0
    have e3 := tokK_app ends10 r l
    have hle := tokN_le l
    rw [lexL_tok _ h0 hs ht] at h ⊢
    rw [lexL_tok a (by simp) (by rw [e]; exact hs) (by rw [e1]; exact ht), e1, e3, List.drop_append_of_le_length hle, List.take_append_of_le_length hle, ih h]
    have e2 : a + tokN l + (List.drop (tokN l) l).length + 1 = a + l.length + 1 := by rw [List.length_drop]; omega
    rw [e2]
    obtain ⟨ts, e4⟩ := lex_len _ _ h
    rw [e4]
    simp [List.dropLast]
/-- What stands behind an error does not change it. -/
theorem lex_err_app {c : UInt8} (hc : Ends c) (r : List UInt8) : ∀ (l : List UInt8) (a p : Nat), (lexL l a).2 = some p → (lexL (l ++ c :: r) a).2 = some p := by
  refine fun l a => lex_ind (P := fun l a => ∀ p, (lexL l a).2 = some p → (lexL (l ++ c :: r) a).2 = some p) ?_ ?_ ?_ ?_ l a
  · intro a p h; cases h
  · intro l a h0 hs ih p h
    rw [lexL_skip _ h0 hs] at h
    have hle := skipN_le l
    have hlt : skipN l < l.length := by
      rcases Nat.lt_or_ge (skipN l) l.length with h1 | h1
      · exact h1
      · have : l.drop (skipN l) = [] := List.drop_eq_nil_of_le h1
        rw [this, lexL_nil] at h; cases h
    have e := skipN_app hc r h0 (.inr hlt)
    rw [lexL_skip a (by simp) (by rw [e]; exact hs), e, List.drop_append_of_le_length hle]
    exact ih p h
  · intro l a h0 hs ht p h
    have hl : 0 < l.length := List.length_pos_iff.2 h0
    have e := skipN_app hc r h0 (.inr (by omega))
    have e1 := tokN_app hc r h0
    rw [lexL_err _ h0 hs ht] at h
    rw [lexL_err a (by simp) (by rw [e]; exact hs) (by rw [e1]; exact ht)]; exact h
  · intro l a h0 hs ht ih p h
    have hl : 0 < l.length := List.length_pos_iff.2 h0
    have e := skipN_app hc r h0 (.inr (by omega))
    have e1 := tokN_app hc r h0
    have hle := tokN_le l
    rw [lexL_tok _ h0 hs ht] at h
    rw [lexL_tok a (by simp) (by rw [e]; exact hs) (by rw [e1]; exact ht), e1, List.drop_append_of_le_length hle]
    exact ih p h
theorem lex_err_lt : ∀ (l : List UInt8) (a p : Nat), (lexL l a).2 = some p → a ≤ p ∧ p < a + l.length := by
  refine fun l a => lex_ind (P := fun l a => ∀ p, (lexL l a).2 = some p → a ≤ p ∧ p < a + l.length) ?_ ?_ ?_ ?_ l a
  · intro a p h; cases h
  · intro l a h0 hs ih p h
    rw [lexL_skip _ h0 hs] at h
    have := skipN_le l
    have h2 := ih p h
    rw [List.length_drop] at h2; omega
  · intro l a h0 hs ht p h
    rw [lexL_err _ h0 hs ht] at h
    have hl : 0 < l.length := List.length_pos_iff.2 h0
    simp only [Option.some.injEq] at h; omega
  · intro l a h0 hs ht ih p h
    rw [lexL_tok _ h0 hs ht] at h
    have := tokN_le l
    have h2 := ih p h
    rw [List.length_drop] at h2; omega

/-! ### What stands before an error -/
theorem u8_all {P : UInt8 → Prop} (h : ∀ n : Fin 256, P (UInt8.ofNat n)) (b : UInt8) : P b := by
  have := h ⟨b.toNat, b.toNat_lt⟩
  simpa using this
theorem isWd_sg {b : UInt8} (h : isWd b = true) : isSg b = false ∧ b ≠ 45 ∧ b ≠ 61 ∧ isSp b = false ∧ b ≠ 47 := by
  exact u8_all (P := fun b => isWd b = true → isSg b = false ∧ b ≠ 45 ∧ b ≠ 61 ∧ isSp b = false ∧ b ≠ 47) (by decide +kernel) b h
theorem sgLen_wd {l : List UInt8} (h : hd1 isWd l = true) : sgLen l = 0 := by
  cases l with
  | nil => cases h
  | cons b l =>
    obtain ⟨h1, h2, h3, h4⟩ := isWd_sg h
    unfold sgLen
    have e1 : pre2 45 62 (b :: l) = false := by
      cases l with
      | nil => rfl
      | cons c l => simp [pre2, h2]
    have e2 : pre2 61 61 (b :: l) = false := by
      cases l with
      | nil => rfl
      | cons c l => simp [pre2, h3]
    rw [e1, e2]
    simp [hd1, h1]
/-- The two ways of a token. -/
theorem tok_cases {l : List UInt8} (ht : 0 < tokN l) : (hd1 isWd l = true ∧ wKind (l.takeWhile isWd) ≠ 0 ∧ tokN l = (l.takeWhile isWd).length ∧ tokK l = wKind (l.takeWhile isWd)) ∨ (hd1 isWd l = false ∧ tokN l = sgLen l ∧ tokK l = 3) := by
  cases hw : hd1 isWd l with
  | false =>
    refine .inr ⟨rfl, ?_⟩
    have e := tw_eq_nil hw
    unfold tokN tokK
    rw [e]; exact ⟨rfl, rfl⟩
  | true =>
    refine .inl ⟨rfl, ?_⟩
    unfold tokN tokK at *
    by_cases hk : wKind (l.takeWhile isWd) = 0
    · rw [if_pos hk, sgLen_wd hw] at ht; omega
    · rw [if_neg hk, if_neg hk]; exact ⟨hk, rfl, rfl⟩
theorem tok_take {l : List UInt8} {p : Nat} (ht : 0 < tokN l) (hp : tokN l ≤ p) : tokN (l.take p) = tokN l ∧ tokK (l.take p) = tokK l := by
  rcases tok_cases ht with ⟨hw, hk, e1, e2⟩ | ⟨hw, e1, e2⟩
  · have e : (l.take p).takeWhile isWd = l.takeWhile isWd := by
      rw [tw_take, List.take_of_length_le (by omega)]
    unfold tokN tokK
    rw [e]
    rw [if_neg hk, if_neg hk]; exact ⟨rfl, rfl⟩
  · have e : (l.take p).takeWhile isWd = [] := by
      rw [tw_take, tw_eq_nil hw]; simp
    have e' : l.takeWhile isWd = [] := tw_eq_nil hw
    have e3 : wKind [] = 0 := rfl
    unfold tokN tokK
    rw [e, e', if_pos e3, if_pos e3]
    refine ⟨?_, rfl⟩
    rw [e1] at hp ht
    unfold sgLen at *
    by_cases h2 : 2 ≤ p
    · rw [pre2_take h2, pre2_take h2, hd_take (by omega)]
    · by_cases h3 : (pre2 45 62 l || pre2 61 61 l) = true
      · rw [if_pos h3] at hp; omega
      · rw [if_neg h3] at hp ht ⊢
        have : p = 1 := by
          by_cases h4 : hd1 isSg l = true
          · rw [if_pos h4] at hp; omega
          · rw [if_neg h4] at ht; omega
        subst this
        rw [pre2_take1, pre2_take1, hd_take (by omega)]; simp
theorem skip_take {l : List UInt8} {p : Nat} (hs : 0 < skipN l) (hp : skipN l ≤ p) : skipN (l.take p) = skipN l := by
  unfold skipN cmt at *
  rw [hd_take (by omega)]
  by_cases h1 : hd1 isSp l = true
  · rw [if_pos h1, if_pos h1]
  · rw [if_neg h1] at hs hp
    rw [if_neg h1, if_neg h1]
    by_cases h2 : pre2 47 47 l = true
    · rw [if_pos h2] at hs hp
      have h3 : 2 ≤ (l.takeWhile notNl).length := by
        match l, h2 with
        | a :: b :: l, h2 =>
          simp only [pre2, Bool.and_eq_true, beq_iff_eq] at h2
          rw [h2.1, h2.2]
          have e1 : notNl 47 = true := by decide
          simp only [List.takeWhile, e1, List.length_cons]; omega
      rw [pre2_take (by omega), if_pos h2, if_pos h2, tw_take, List.take_of_length_le (by omega)]
    · rw [if_neg h2] at hs; omega
theorem skip_take0 {l : List UInt8} {p : Nat} (hs : skipN l = 0) (hp : 0 < p) : skipN (l.take p) = 0 := by
  unfold skipN cmt at *
  rw [hd_take (by omega)]
  by_cases h1 : hd1 isSp l = true
  · rw [if_pos h1] at hs; omega
  · rw [if_neg h1] at hs
    rw [if_neg h1]
    by_cases h2 : pre2 47 47 l = true
    · rw [if_pos h2] at hs
      match l, h2 with
      | a :: b :: l, h2 =>
        simp only [pre2, Bool.and_eq_true, beq_iff_eq] at h2
        rw [h2.1] at hs
        have e1 : notNl 47 = true := by decide
        simp [List.takeWhile, e1] at hs
    · rw [if_neg]
      by_cases h3 : 2 ≤ p
      · rw [pre2_take h3]; exact h2
      · have : p = 1 := by omega
        subst this; rw [pre2_take1]; simp
theorem lex_pre : ∀ (l : List UInt8) (a p : Nat), (lexL l a).2 = some (a + p) → (lexL (l.take p) a).2 = none := by
  refine fun l a => lex_ind (P := fun l a => ∀ p, (lexL l a).2 = some (a + p) → (lexL (l.take p) a).2 = none) ?_ ?_ ?_ ?_ l a
  · intro a p h; cases h
  · intro l a h0 hs ih p h
    rw [lexL_skip _ h0 hs] at h
    have hle := skipN_le l
    have hb := lex_err_lt _ _ _ h
    rw [List.length_drop] at hb
    have e := skip_take (p := p) hs (by omega)
    have h1 : l.take p ≠ [] := by
      intro h2
      have h3 : (l.take p).length = 0 := by rw [h2]; rfl
      rw [List.length_take] at h3; omega
    rw [lexL_skip a h1 (by rw [e]; exact hs), e, List.drop_take]
    refine ih (p - skipN l) ?_
    rw [h]; congr 1; omega
  · intro l a h0 hs ht p h
    rw [lexL_err _ h0 hs ht] at h
    have : p = 0 := by simp only [Option.some.injEq] at h; omega
    subst this; rfl
  · intro l a h0 hs ht ih p h
    rw [lexL_tok _ h0 hs ht] at h
    have hle := tokN_le l
    have hb := lex_err_lt _ _ _ h
    rw [List.length_drop] at hb
    have hp : tokN l ≤ p := by omega
    obtain ⟨e, e1⟩ := tok_take ht hp
    have h1 : l.take p ≠ [] := by
      intro h2
      have h3 : (l.take p).length = 0 := by rw [h2]; rfl
      rw [List.length_take] at h3; omega
    rw [lexL_tok a h1 (skip_take0 hs (by omega)) (by rw [e]; exact ht), e, List.drop_take]
    refine ih (p - tokN l) ?_
    rw [h]; congr 1; omega
end Go.Sx

/- Plain laws of splitting a text into tokens: joined tokens, white space, kinds, lines, generated texts. -/
namespace Go.Sx

/-! ### Tokens put together -/
def tailJ : List (List UInt8) → List UInt8
  | [] => []
  | t :: r => 32 :: (t ++ tailJ r)
def joinL : List (List UInt8) → List UInt8
  | [] => []
  | t :: r => t ++ tailJ r
/-- A token, whatever blank follows it. -/
structure GoodT (k : Nat) (t : List UInt8) : Prop where
  ne : t ≠ []
  sk : skipN t = 0
  n : tokN t = t.length
  k : tokK t = k
theorem tok_skip {l : List UInt8} (ht : 0 < tokN l) : skipN l = 0 := by
  have key : ∀ b : UInt8, (isWd b = true ∨ isSg b = true) → isSp b = false ∧ b ≠ 47 := u8_all (by decide +kernel)
  have hh : hd1 (fun b => isWd b || isSg b) l = true := by
    rcases tok_cases ht with ⟨hw, _⟩ | ⟨hw, e, _⟩
    · cases l with
      | nil => cases hw
      | cons b l => simp only [hd1] at hw ⊢; rw [hw]; rfl
    · rw [e] at ht
      unfold sgLen at ht
      by_cases h1 : (pre2 45 62 l || pre2 61 61 l) = true
      · rw [Bool.or_eq_true] at h1
        rcases h1 with h1 | h1
        · rw [pre2_hd h1]; decide
        · rw [pre2_hd h1]; decide
      · rw [if_neg h1] at ht
        by_cases h2 : hd1 isSg l = true
        · cases l with
          | nil => cases h2
          | cons b l => simp only [hd1] at h2 ⊢; rw [h2, Bool.or_true]
        · rw [if_neg h2] at ht; omega
  cases l with
  | nil => rfl
  | cons b l =>
    simp only [hd1, Bool.or_eq_true] at hh
    obtain ⟨h1, h2⟩ := key b hh
    unfold skipN cmt
    have e1 : hd1 isSp (b :: l) = false := h1
    have e2 : pre2 47 47 (b :: l) = false := by
      cases l with
      | nil => rfl
      | cons c l => simp [pre2, h2]
    rw [e1, e2]; rfl
theorem goodT_of {l : List UInt8} (ht : 0 < tokN l) : GoodT (tokK l) (l.take (tokN l)) := by
  have hs := tok_skip ht
  have hle := tokN_le l
  obtain ⟨e1, e2⟩ := tok_take (p := tokN l) ht (Nat.le_refl _)
  refine ⟨?_, skip_take0 hs ht, ?_, e2⟩
  · intro h
    have : (l.take (tokN l)).length = 0 := by rw [h]; rfl
    rw [List.length_take] at this; omega
  · rw [e1, List.length_take]; omega
theorem GoodT.app {k : Nat} {t : List UInt8} (h : GoodT k t) (r : List (List UInt8)) : skipN (t ++ tailJ r) = 0 ∧ tokN (t ++ tailJ r) = t.length ∧ tokK (t ++ tailJ r) = k := by
  have hl : 0 < t.length := List.length_pos_iff.2 h.ne
  cases r with
  | nil => simp only [tailJ, List.append_nil]; exact ⟨h.sk, h.n, h.k⟩
  | cons u r =>
    simp only [tailJ]
    rw [skipN_app ends32 _ h.ne (.inr (by rw [h.sk]; exact hl)), tokN_app ends32 _ h.ne, tokK_app ends32]
    exact ⟨h.sk, h.n, h.k⟩
theorem lex_join : ∀ (ts : List Tok) (a : Nat), (∀ x ∈ ts, GoodT x.k x.t) →
    ∃ us : List Tok, ∃ e, lexL (joinL (ts.map (·.t))) a = (us ++ [⟨4, [], e⟩], none) ∧ us.map (fun x => (x.k, x.t)) = ts.map fun x => (x.k, x.t)
  | [], a, _ => ⟨[], a, rfl, rfl⟩
  | x :: r, a, h => by
    have g := h x (List.mem_cons_self ..)
    have hl : 0 < x.t.length := List.length_pos_iff.2 g.ne
    obtain ⟨e1, e2, e3⟩ := g.app (r.map (·.t))
    have hne : x.t ++ tailJ (r.map (·.t)) ≠ [] := by simp [g.ne]
    have step : lexL (joinL ((x :: r).map (·.t))) a = (⟨x.k, x.t, a⟩ :: (lexL (tailJ (r.map (·.t))) (a + x.t.length)).1, (lexL (tailJ (r.map (·.t))) (a + x.t.length)).2) := by
      simp only [List.map_cons, joinL]
      rw [lexL_tok a hne e1 (by rw [e2]; exact hl), e2, e3, List.take_left, List.drop_left]
    cases r with
    | nil =>
      refine ⟨[⟨x.k, x.t, a⟩], a + x.t.length, ?_, rfl⟩
      rw [step]; rfl
    | cons y r =>
      have hs : skipN (tailJ ((y :: r).map (·.t))) = 1 := rfl
      obtain ⟨us, e, h1, h2⟩ := lex_join (y :: r) (a + x.t.length + 1) (fun z hz => h z (List.mem_cons_of_mem _ hz))
      refine ⟨⟨x.k, x.t, a⟩ :: us, e, ?_, ?_⟩
      · rw [step, lexL_skip _ (by simp [tailJ]) (by rw [hs]; omega), hs]
        have : (tailJ ((y :: r).map (·.t))).drop 1 = joinL ((y :: r).map (·.t)) := rfl
        rw [this, h1]; rfl
      · rw [List.map_cons, h2]; rfl
/-- The tokens of a file, without the last. -/
theorem lex_good : ∀ (l : List UInt8) (a : Nat) (ts : List Tok) (e : Nat), lexL l a = (ts ++ [⟨4, [], e⟩], none) → (∀ x ∈ ts, GoodT x.k x.t) ∧ (ts.map fun x => x.t.length + 1).sum ≤ 2 * l.length := by
  refine fun l a => lex_ind (P := fun l a => ∀ ts e, lexL l a = (ts ++ [⟨4, [], e⟩], none) → (∀ x ∈ ts, GoodT x.k x.t) ∧ (ts.map fun x => x.t.length + 1).sum ≤ 2 * l.length) ?_ ?_ ?_ ?_ l a
  · intro a ts e h
    rw [lexL_nil] at h
    have h1 := congrArg (fun x => x.1.length) h
    simp only [List.length_append, List.length_cons, List.length_nil] at h1
    have : ts = [] := List.length_eq_zero_iff.1 (by omega)
    subst this; simp
  · intro l a h0 hs ih ts e h
    rw [lexL_skip _ h0 hs] at h
    obtain ⟨h1, h2⟩ := ih ts e h
    rw [List.length_drop] at h2
    exact ⟨h1, by omega⟩
  · intro l a h0 hs ht ts e h
    rw [lexL_err _ h0 hs ht] at h
    cases (Prod.mk.inj h).2
  · intro l a h0 hs ht ih ts e h
    rw [lexL_tok _ h0 hs ht] at h
    obtain ⟨p1, p2⟩ := Prod.mk.inj h
    obtain ⟨us, hu⟩ := lex_len _ _ p2
    have hle := tokN_le l
    cases ts with
    | nil =>
      have h1 := congrArg List.length p1
      rw [hu] at h1; simp at h1
    | cons x ts =>
      rw [List.cons_append] at p1
      obtain ⟨q1, q2⟩ := List.cons.inj p1
      obtain ⟨h1, h2⟩ := ih ts e (Prod.ext q2 p2)
      rw [List.length_drop] at h2
      refine ⟨?_, ?_⟩
      · intro y hy
        rcases List.mem_cons.1 hy with rfl | hy
        · rw [← q1]; exact goodT_of ht
        · exact h1 y hy
      · rw [List.map_cons, List.sum_cons, ← q1]
        simp only [List.length_take]
        omega
theorem tailJ_len : ∀ ts : List Tok, (tailJ (ts.map (·.t))).length = (ts.map fun x => x.t.length + 1).sum
  | [] => rfl
  | x :: r => by
    simp only [List.map_cons, tailJ, List.length_cons, List.length_append, List.sum_cons]
    rw [tailJ_len r]; omega
theorem joinL_len (ts : List Tok) : (joinL (ts.map (·.t))).length ≤ (ts.map fun x => x.t.length + 1).sum := by
  cases ts with
  | nil => exact Nat.le_refl _
  | cons x r =>
    simp only [List.map_cons, joinL, List.length_append, List.sum_cons]
    rw [tailJ_len r]; omega
theorem wKind_cases (l : List UInt8) : wKind l = 0 ∨ wKind l = 1 ∨ wKind l = 2 := by
  unfold wKind
  (repeat' split) <;> simp
theorem tokK_ne {l : List UInt8} : tokK l = 1 ∨ tokK l = 2 ∨ tokK l = 3 := by
  unfold tokK
  rcases wKind_cases (l.takeWhile isWd) with h | h | h <;> simp [h]
theorem GoodT.kk {k : Nat} {t : List UInt8} (h : GoodT k t) : k = 1 ∨ k = 2 ∨ k = 3 := by
  rw [← h.k]; exact tokK_ne

/-! ### White space -/
def whF : Nat → List UInt8 → Bool
  | 0, _ => false
  | f + 1, l => if l.isEmpty then true else if 0 < skipN l then whF f (l.drop (skipN l)) else false
def wh (l : List UInt8) : Bool := whF (l.length + 1) l
theorem whF_enough : ∀ (f g : Nat) (l : List UInt8), l.length < f → l.length < g → whF f l = whF g l
  | 0, g, l, h, _ => by omega
  | f + 1, 0, l, _, h => by omega
  | f + 1, g + 1, l, h1, h2 => by
    unfold whF
    by_cases he : l.isEmpty = true
    · rw [if_pos he, if_pos he]
    · rw [if_neg he, if_neg he]
      by_cases hs : 0 < skipN l
      · rw [if_pos hs, if_pos hs]
        have := skipN_le l
        have hl : 0 < l.length := by
          cases l with
          | nil => simp at he
          | cons b l => simp
        exact whF_enough f g _ (by rw [List.length_drop]; omega) (by rw [List.length_drop]; omega)
      · rw [if_neg hs, if_neg hs]
theorem wh_skip {l : List UInt8} (hs : 0 < skipN l) : wh l = wh (l.drop (skipN l)) := by
  have hle := skipN_le l
  have he : ¬ l.isEmpty = true := by
    intro h
    have : l = [] := by simpa using h
    subst this; simp at hle; omega
  conv => lhs; unfold wh whF
  rw [if_neg he, if_pos hs]
  exact whF_enough _ _ _ (by rw [List.length_drop]; omega) (by rw [List.length_drop]; omega)
theorem wh_no {l : List UInt8} (h0 : l ≠ []) (hs : skipN l = 0) : wh l = false := by
  have he : ¬ l.isEmpty = true := by simpa using h0
  unfold wh whF
  rw [if_neg he, if_neg (by omega)]
/-- Tokens that stand where they say, with white space between them. -/
def Cov (S : List UInt8) : Nat → List Tok → Prop
  | n, [] => n = S.length
  | n, x :: r => n ≤ x.a ∧ x.a + x.t.length ≤ S.length ∧ (S.take (x.a + x.t.length)).drop x.a = x.t ∧ wh ((S.take x.a).drop n) = true ∧ ((x.k = 4) ↔ r = []) ∧ ((x.t = []) ↔ r = []) ∧ Cov S (x.a + x.t.length) r
theorem take_drop_mid {S g l : List UInt8} {n : Nat} (h : S.drop n = g ++ l) : (S.take (n + g.length)).drop n = g := by
  rw [List.drop_take, h]
  have : n + g.length - n = g.length := by omega
  rw [this, List.take_left]
theorem lex_cov (S : List UInt8) : ∀ (l : List UInt8) (a : Nat), (lexL l a).2 = none → ∀ (n : Nat) (g : List UInt8), n ≤ S.length → S.drop n = g ++ l → a = n + g.length → (∀ m, wh (g ++ l.take m) = wh (l.take m)) → Cov S n (lexL l a).1 := by
  refine lex_ind ?_ ?_ ?_ ?_
  · intro a _ n g hn hg ha hw
    have hl := congrArg List.length hg
    rw [List.length_drop, List.length_append, List.length_nil] at hl
    rw [lexL_nil]
    have e : a = S.length := by omega
    refine ⟨by simp only; omega, by simp only [List.length_nil]; omega, ?_, ?_, by simp, by simp, ?_⟩
    · simp only [List.length_nil, Nat.add_zero]
      rw [List.drop_take]; simp
    · simp only
      rw [ha, take_drop_mid hg]
      have := hw 0
      rw [List.take_zero, List.append_nil] at this
      rw [this]; rfl
    · simp only [Cov, List.length_nil]; omega
  · intro l a h0 hs ih h n g hn hg ha hw
    rw [lexL_skip _ h0 hs] at h ⊢
    have hle := skipN_le l
    refine ih h n (g ++ l.take (skipN l)) hn ?_ ?_ ?_
    · rw [hg, List.append_assoc, List.take_append_drop]
    · rw [List.length_append, List.length_take]; omega
    · intro m
      have e1 : l.take (skipN l) ++ (l.drop (skipN l)).take m = l.take (skipN l + m) := by rw [List.take_add]
      rw [List.append_assoc, e1, hw]
      have e2 := skip_take (p := skipN l + m) hs (by omega)
      rw [wh_skip (by rw [e2]; exact hs), e2, List.drop_take]
      congr 2; omega
  · intro l a h0 hs ht h
    rw [lexL_err _ h0 hs ht] at h; cases h
  · intro l a h0 hs ht ih h n g hn hg ha hw
    rw [lexL_tok _ h0 hs ht] at h ⊢
    have hle := tokN_le l
    have hl := congrArg List.length hg
    rw [List.length_drop, List.length_append] at hl
    have hlen : (l.take (tokN l)).length = tokN l := by rw [List.length_take]; omega
    obtain ⟨us, hu⟩ := lex_len _ _ h
    have hS : S.drop a = l := by
      rw [ha, ← List.drop_drop, hg, List.drop_left]
    have hne : ¬ (lexL (l.drop (tokN l)) (a + tokN l)).1 = [] := by rw [hu]; simp
    refine ⟨by simp only; omega, by simp only [hlen]; omega, ?_, ?_, ?_, ?_, ?_⟩
    · simp only [hlen]
      rw [List.drop_take, hS]
      congr 1; omega
    · simp only
      rw [ha, take_drop_mid hg]
      have := hw 0
      rw [List.take_zero, List.append_nil] at this
      rw [this]; rfl
    · simp only [hne, iff_false]
      rcases tokK_ne (l := l) with h1 | h1 | h1 <;> omega
    · simp only [hne, iff_false]
      intro h1
      rw [h1] at hlen; simp at hlen; omega
    · simp only [hlen]
      refine ih h (a + tokN l) [] (by omega) ?_ ?_ ?_
      · rw [← List.drop_drop, hS]; rfl
      · rfl
      · intro m; rfl
theorem lex_covers {l : List UInt8} (h : (lexL l 0).2 = none) : Cov l 0 (lexL l 0).1 := lex_cov l l 0 h 0 [] (by omega) rfl rfl (fun m => rfl)

/-! ### Kinds -/
def kindL (l : List UInt8) : Nat := if 0 < tokN l ∧ tokN l = l.length then tokK l else 0
theorem GoodT.kind {k : Nat} {t : List UInt8} (h : GoodT k t) : kindL t = k := by
  have hl : 0 < t.length := List.length_pos_iff.2 h.ne
  unfold kindL
  rw [if_pos ⟨by rw [h.n]; exact hl, h.n⟩, h.k]
theorem kind_alone {l : List UInt8} (h : kindL l ≠ 0) : lexL l 0 = ([⟨kindL l, l, 0⟩, ⟨4, [], l.length⟩], none) := by
  unfold kindL at *
  by_cases h1 : 0 < tokN l ∧ tokN l = l.length
  · rw [if_pos h1]
    obtain ⟨h2, h3⟩ := h1
    have h0 : l ≠ [] := by intro h; subst h; simp at h3; omega
    rw [lexL_tok 0 h0 (tok_skip h2) h2, h3, List.take_length, List.drop_length, lexL_nil]
    simp
  · rw [if_neg h1] at h; exact absurd rfl h
theorem lex_tlen : ∀ (l : List UInt8) (a : Nat) (x : Tok), x ∈ (lexL l a).1 → x.t.length ≤ l.length := by
  refine fun l a => lex_ind (P := fun l a => ∀ x : Tok, x ∈ (lexL l a).1 → x.t.length ≤ l.length) ?_ ?_ ?_ ?_ l a
  · intro a x hx
    rw [lexL_nil] at hx
    simp only [List.mem_singleton] at hx; subst hx; simp
  · intro l a h0 hs ih x hx
    rw [lexL_skip _ h0 hs] at hx
    have := ih x hx
    rw [List.length_drop] at this; omega
  · intro l a h0 hs ht x hx
    rw [lexL_err _ h0 hs ht] at hx; simp at hx
  · intro l a h0 hs ht ih x hx
    rw [lexL_tok _ h0 hs ht] at hx
    rcases List.mem_cons.1 hx with rfl | hx
    · simp only [List.length_take]; omega
    · have := ih x hx
      rw [List.length_drop] at this; omega
theorem alone_kind {l : List UInt8} {x y : Tok} (h : lexL l 0 = ([x, y], none)) (hx : x.t = l) : kindL l ≠ 0 ∧ x.k = kindL l := by
  by_cases h0 : l = []
  · subst h0; rw [lexL_nil] at h; simp at h
  · have hl : 0 < l.length := List.length_pos_iff.2 h0
    by_cases hs : 0 < skipN l
    · rw [lexL_skip _ h0 hs] at h
      have := lex_tlen _ _ x (by rw [h]; exact List.mem_cons_self ..)
      rw [hx, List.length_drop] at this
      have := skipN_le l; omega
    · by_cases ht : 0 < tokN l
      · rw [lexL_tok 0 h0 (by omega) ht] at h
        have h1 := (List.cons.inj (Prod.mk.inj h).1).1
        have hle := tokN_le l
        have h2 : (l.take (tokN l)).length = l.length := by
          have : x.t = l.take (tokN l) := by rw [← h1]
          rw [← this, hx]
        rw [List.length_take] at h2
        have hn : tokN l = l.length := by omega
        have hk : kindL l = tokK l := by unfold kindL; rw [if_pos ⟨ht, hn⟩]
        refine ⟨?_, by rw [hk, ← h1]⟩
        rw [hk]
        rcases tokK_ne (l := l) with h3 | h3 | h3 <;> omega
      · rw [lexL_err 0 h0 (by omega) (by omega)] at h
        simp at h

/-! ### Lines -/
def lnS (p : Nat × Nat) (b : UInt8) : Nat × Nat := if b = 10 then (p.1 + 1, 1) else (p.1, p.2 + 1)
def lnP (l : List UInt8) : Nat × Nat := l.foldl lnS (1, 1)
theorem lnP_snoc (l : List UInt8) (b : UInt8) : lnP (l ++ [b]) = lnS (lnP l) b := by unfold lnP; rw [List.foldl_append]; rfl

/-! ### Generated texts -/
def pcs : List (List UInt8) := [[97], [120], [114, 101, 103], [109, 111, 100, 117, 108, 101], [98, 50], [105, 110], [99, 104, 97, 110], [122, 122, 57], [48], [49], [55], [52, 50], [49, 48, 48, 48, 48, 48, 48], [40], [41], [123], [125], [91], [93], [44], [59], [58], [61], [43], [45], [38], [124], [94], [126], [60], [63], [64], [35], [46], [45, 62], [61, 61], [32], [10], [32, 47, 47, 32, 110, 111, 116, 101, 10], [47, 47], [48, 49], [49, 48, 48, 48, 48, 48, 49], [50, 120], [65], [47], [33], [42], [9], [13], [0]]
def txI (b : Nat) : Nat := if 240 ≤ b then 40 + b % 10 else b % 40
def txM (c : Nat → Nat) : Nat → List UInt8
  | 0 => []
  | k + 1 => txM c k ++ (pcs.getD (txI (c k)) [] ++ if 0 < c k % 3 then [32] else [])
def txS (b : Nat) : UInt8 := if 200 ≤ b then 10 else 32
def txC (c : Nat → Nat) : Nat → List UInt8
  | 0 => []
  | k + 1 => txC c k ++ (pcs.getD (c k % 40) [] ++ [txS (c k)])
theorem pcs_len : ∀ i, (pcs.getD i []).length ≤ 9 := by
  intro i
  rcases Nat.lt_or_ge i 50 with h | h
  · have : ∀ i : Fin 50, (pcs.getD i []).length ≤ 9 := by decide +kernel
    exact this ⟨i, h⟩
  · have : pcs.getD i [] = [] := by
      rw [List.getD_eq_getElem?_getD, List.getElem?_eq_none (by simpa [pcs] using h)]; rfl
    rw [this]; simp
theorem txM_len (c : Nat → Nat) : ∀ k, (txM c k).length ≤ 10 * k
  | 0 => by simp [txM]
  | k + 1 => by
    have := txM_len c k
    have := pcs_len (txI (c k))
    simp only [txM, List.length_append]
    split
    · simp only [List.length_singleton]; omega
    · simp only [List.length_nil]; omega
theorem txC_len (c : Nat → Nat) : ∀ k, (txC c k).length ≤ 10 * k
  | 0 => by simp [txC]
  | k + 1 => by
    have := txC_len c k
    have := pcs_len (c k % 40)
    simp only [txC, List.length_append, List.length_singleton]; omega
def txG (c : Nat → Nat) : Nat → Nat → List UInt8
  | _, 0 => []
  | i, m + 1 => (pcs.getD (c i % 40) [] ++ [txS (c i)]) ++ txG c (i + 1) m
theorem txG_snoc (c : Nat → Nat) : ∀ (m i : Nat), txG c i (m + 1) = txG c i m ++ (pcs.getD (c (i + m) % 40) [] ++ [txS (c (i + m))])
  | 0, i => by simp [txG]
  | m + 1, i => by
    conv => lhs; unfold txG
    rw [txG_snoc c m (i + 1)]
    conv => rhs; unfold txG
    have e : i + 1 + m = i + (m + 1) := by omega
    rw [e]
    simp only [List.append_assoc]
theorem txC_G (c : Nat → Nat) : ∀ k, txC c k = txG c 0 k
  | 0 => rfl
  | k + 1 => by rw [txG_snoc, txC, txC_G c k, Nat.zero_add]
def dnl (l : List UInt8) : List UInt8 := l.drop (l.takeWhile notNl).length
theorem dnl_nl (l : List UInt8) : dnl (10 :: l) = 10 :: l := rfl
theorem dnl_app : ∀ (p l : List UInt8), p.all notNl = true → dnl (p ++ l) = dnl l
  | [], l, _ => rfl
  | b :: p, l, h => by
    simp only [List.all_cons, Bool.and_eq_true] at h
    have := dnl_app p l h.2
    unfold dnl at *
    simp only [List.cons_append, List.takeWhile, h.1, List.length_cons, List.drop_succ_cons]
    exact this
theorem dnl_stop : ∀ (p l : List UInt8), p.all notNl = true → dnl (p ++ 10 :: l) = 10 :: l := fun p l h => by rw [dnl_app p _ h]; rfl
def OKl (l : List UInt8) : Prop := ∀ a, (lexL l a).2 = none
theorem OKl.skip {l : List UInt8} (hs : 0 < skipN l) (h : OKl (l.drop (skipN l))) : OKl l := by
  intro a
  have h0 : l ≠ [] := by rintro rfl; simp [skipN, hd1, cmt, pre2] at hs
  rw [lexL_skip a h0 hs]; exact h _
theorem OKl.sp {c : UInt8} {l : List UInt8} (hc : isSp c = true) (h : OKl l) : OKl (c :: l) := by
  have hs : skipN (c :: l) = 1 := by unfold skipN hd1; rw [if_pos hc]
  exact OKl.skip (by rw [hs]; omega) (by rw [hs]; exact h)
theorem OKl.tok {l : List UInt8} (ht : 0 < tokN l) (h : OKl (l.drop (tokN l))) : OKl l := by
  intro a
  have h0 : l ≠ [] := by rintro rfl; have := tokN_le []; simp at this; omega
  rw [lexL_tok a h0 (tok_skip ht) ht]; exact h _
structure OK2 (l : List UInt8) : Prop where
  a : OKl l
  b : OKl (dnl l)
theorem txS_sp (b : Nat) : isSp (txS b) = true := by unfold txS; split <;> rfl
theorem txS_ends (b : Nat) : Ends (txS b) := by
  unfold txS; split
  · exact ends10
  · exact ends32
theorem dnl_sp {c : UInt8} {l : List UInt8} (hc : isSp c = true) (h : OK2 l) : OKl (dnl (c :: l)) := by
  have : c = 32 ∨ c = 10 := by simpa [isSp] using hc
  rcases this with rfl | rfl
  · have : dnl (32 :: l) = dnl l := dnl_app [32] l (by decide)
    rw [this]; exact h.b
  · rw [dnl_nl]; exact h.a.sp (by decide)
theorem ok2_piece {i b : Nat} {l : List UInt8} (hi : i < 40) (h : OK2 l) : OK2 ((pcs.getD i [] ++ [txS b]) ++ l) := by
  have hc := txS_sp b
  have h1 : OKl (txS b :: l) := h.a.sp hc
  have h2 : OKl (dnl (txS b :: l)) := dnl_sp hc h
  have e : (pcs.getD i [] ++ [txS b]) ++ l = pcs.getD i [] ++ txS b :: l := by simp
  rw [e]
  rcases Nat.lt_or_ge i 36 with hi2 | hi2
  · have key : ∀ i : Fin 36, 0 < tokN (pcs.getD i []) ∧ tokN (pcs.getD i []) = (pcs.getD i []).length ∧ (pcs.getD i []).all notNl = true ∧ pcs.getD i [] ≠ [] := by decide +kernel
    obtain ⟨k1, k2, k3, k4⟩ := key ⟨i, hi2⟩
    simp only at k1 k2 k3 k4
    have e1 := tokN_app (txS_ends b) l k4
    refine ⟨OKl.tok (by rw [e1]; exact k1) ?_, ?_⟩
    · rw [e1, k2, List.drop_left]; exact h1
    · rw [dnl_app _ _ k3]; exact h2
  · have : i = 36 ∨ i = 37 ∨ i = 38 ∨ i = 39 := by omega
    rcases this with rfl | rfl | rfl | rfl
    · have e1 : pcs.getD 36 [] = [32] := rfl
      rw [e1]
      exact ⟨h1.sp (by decide), by rw [dnl_app [32] _ (by decide)]; exact h2⟩
    · have e1 : pcs.getD 37 [] = [10] := rfl
      rw [e1]
      have h3 : OKl (10 :: txS b :: l) := h1.sp (by decide)
      exact ⟨h3, by rw [List.singleton_append, dnl_nl]; exact h3⟩
    · have e1 : pcs.getD 38 [] = [32, 47, 47, 32, 110, 111, 116, 101, 10] := rfl
      rw [e1]
      have h3 : OKl (10 :: txS b :: l) := h1.sp (by decide)
      have e2 : [32, 47, 47, 32, 110, 111, 116, 101, 10] ++ txS b :: l = 32 :: ([47, 47, 32, 110, 111, 116, 101] ++ 10 :: txS b :: l) := rfl
      have e3 : skipN ([47, 47, 32, 110, 111, 116, 101] ++ 10 :: txS b :: l) = 7 := by
        unfold skipN cmt
        have : ([47, 47, 32, 110, 111, 116, 101] ++ 10 :: txS b :: l).takeWhile notNl = [47, 47, 32, 110, 111, 116, 101] := by
          rw [tw_app notNl 10 _ (by decide)]; decide
        rw [this]; rfl
      refine ⟨?_, ?_⟩
      · rw [e2]
        refine OKl.sp (by decide) (OKl.skip (by rw [e3]; omega) ?_)
        rw [e3]; exact h3
      · have : [32, 47, 47, 32, 110, 111, 116, 101, 10] ++ txS b :: l = [32, 47, 47, 32, 110, 111, 116, 101] ++ 10 :: txS b :: l := rfl
        rw [this, dnl_stop _ _ (by decide)]; exact h3
    · have e1 : pcs.getD 39 [] = [47, 47] := rfl
      rw [e1]
      have e3 : skipN ([47, 47] ++ txS b :: l) = (([47, 47] ++ txS b :: l).takeWhile notNl).length := rfl
      have hd : dnl ([47, 47] ++ txS b :: l) = dnl (txS b :: l) := dnl_app [47, 47] _ (by decide)
      refine ⟨OKl.skip ?_ ?_, ?_⟩
      · rw [e3]
        have e4 : notNl 47 = true := by decide
        simp only [List.cons_append, List.takeWhile, e4, List.length_cons]; omega
      · rw [e3]; show OKl (dnl ([47, 47] ++ txS b :: l))
        rw [hd]; exact h2
      · rw [hd]; exact h2
theorem ok2_txG (c : Nat → Nat) : ∀ (m i : Nat), OK2 (txG c i m)
  | 0, i => ⟨fun a => rfl, fun a => rfl⟩
  | m + 1, i => by
    unfold txG
    exact ok2_piece (Nat.mod_lt _ (by omega)) (ok2_txG c m (i + 1))
/-- A clean text is well-formed. -/
theorem clean_ok (c : Nat → Nat) (k a : Nat) : (lexL (txC c k) a).2 = none := by
  rw [txC_G]; exact (ok2_txG c k 0).a a

/-! ### Two programs' words for one thing -/
/-- The string of a cell. -/
def strAt (c : Nat → Nat → DV) (i : Nat) : List UInt8 := match c i 0 with
  | .x (.string s) => s.data.toList
  | _ => []
def cellsT (n : Nat) (c : Nat → Nat → DV) : List (List UInt8) := (List.range n).map (strAt c)
end Go.Sx

namespace Go.Proofs.YtnoodoipghgkgaaDoor
open Go.Sx
set_option maxRecDepth 100000

/-- The library's variables: the powers of ten; a number; two errors. -/
noncomputable instance globs : Globs := ⟨fun _ => none, fun g => match g with
  | 3 => some (okTab Lib.pow10Tab)
  | 0 => some okInt
  | 1 => some okErr
  | 2 => some okErr
  | _ => none⟩

theorem mixed : Tryd.prog.follows .mixedOrders = true := by kernel_rfl
noncomputable def C0 : Ctx := ctxN Tryd.prog (fun _ => none) (fun _ => false) 200 .nil 6
theorem C0_ok : CtxOK Tryd.prog C0 := ctxN_ok mixed (fun k c h => by cases h) 6
noncomputable def D0 : Dr := fun _ => drawn Tryd.prog C0
theorem D0_ok : DrOK Tryd.prog C0 D0 := drawn_ok C0_ok mixed
noncomputable def T0 (h : Hint) (k : Nat) (args : List SV) : Tree SV := fnT Tryd.prog C0 D0 200 (fnOf Tryd.prog k) (bodyOf Tryd.prog k) args h

theorem w64_of {n : Int} (h1 : -9223372036854775808 ≤ n) (h2 : n ≤ 9223372036854775807) : w64 n = n := by
  unfold w64 IntKind.wrap
  simp [IntKind.signed, IntKind.bits]
  omega

end Go.Proofs.YtnoodoipghgkgaaDoor

namespace Go.Proofs.YtnoodoipghgkgaaDoor
open Go.Sx
set_option maxRecDepth 100000

/-! ### The classes of bytes -/
noncomputable def tCls : Tree SV := T0 .nil 33 []
noncomputable def clsB (c : Nat → Int) : Blk := .row 256 1 fun i _ => .x (.int .u8 (c i))
noncomputable def clsIt (k : Nat) : Blk := .iter ⟨#[40, 41, 123, 125, 91, 93, 44, 59, 58, 61, 43, 45, 38, 124, 94, 126, 60, 63, 64, 35, 46]⟩ k
noncomputable def inv1 (b : Int) (c : Nat → Int) : AS := ⟨[.ok (.ptr 0 0), .ok (.ptr 1 0), .ok (.d (.x (.int .i32 b)))] ++ List.replicate 24 .unk, [some (clsB fun _ => 0), some (clsB c)], 2, .nil⟩
noncomputable def inv2 (b : Int) (c : Nat → Int) : AS := ⟨[.ok (.ptr 0 0), .ok (.ptr 1 0), .unk, .ok (.d (.x (.int .i32 b)))] ++ List.replicate 23 .unk, [some (clsB fun _ => 0), some (clsB c)], 2, .nil⟩
noncomputable def inv3 (k : Nat) (c : Nat → Int) : AS := ⟨[.ok (.ptr 0 0), .ok (.ptr 1 0)] ++ List.replicate 16 .unk ++ [.ok (.ptr 2 0)] ++ List.replicate 8 .unk, [some (clsB fun _ => 0), some (clsB c), some (clsIt k)], 3, .nil⟩
noncomputable def body1 : Code := loopN (bodyOf Tryd.prog 33) 0
noncomputable def body2 : Code := loopN (bodyOf Tryd.prog 33) 1
noncomputable def body3 : Code := loopN (bodyOf Tryd.prog 33) 2
noncomputable def t2 (b : Int) (c : Nat → Int) : Tree SV := codeK (sub [] tCls) (.exit 0) (inv1 b c)
noncomputable def t3 (b : Int) (c : Nat → Int) : Tree SV := codeK (sub [] (t2 b c)) (.exit 2) (inv2 b c)
noncomputable def LC1  : Tree SV :=
  .code (codeC (sub [] tCls)) (codeS (sub [] tCls)) (codeK (sub [] tCls))

theorem LC1_eq  : tCls = LC1  := by kernel_rfl

noncomputable def BC1 (b : Int) (c : Nat → Int) : Tree (Ex × AS) :=
  .ite (decide (b ≤ (122 : Int)))
  (.need ((0 : Int) ≤ b ∧ b < (256 : Int))
   (.need (Int.toNat b < 256)
   (.ret
   (.normal,
   {
   tm :=
   [.ok (SV.ptr 0 0), .ok (SV.ptr 1 0), .ok (SV.d (DV.x (.int .i32 (IntKind.wrap .i32 (b + (1 : Int)))))), .unk, .unk, .unk, .unk, .unk, .unk, .unk,
   .unk, .unk, .unk, .unk, .unk, .unk, .unk, .unk, .unk, .unk, .unk, .unk, .unk, .unk, .unk, .unk, .unk],
   hp :=
   [some (.row 256 1 fun i x => DV.x (.int .u8 (0 : Int))),
   some
   (.row 256 1 fun a b_1 =>
   if 0 ≤ b_1 ∧ b_1 < 1 then
   selD (decide (a = Int.toNat b))
   (match [DV.x (.int .u8 (1 : Int))][b_1 - 0]? with
   | some x => x
   | none => DV.x (.tuple { toList := [] }))
   (DV.x (.int .u8 (c a)))
   else DV.x (.int .u8 (c a)))],
   next := 2, hint := .nil }))))
  (.ret
   (.exit 0,
   {
   tm :=
   [.ok (SV.ptr 0 0), .ok (SV.ptr 1 0), .ok (SV.d (DV.x (.int .i32 b))), .unk, .unk, .unk, .unk, .unk, .unk, .unk, .unk, .unk, .unk, .unk, .unk,
   .unk, .unk, .unk, .unk, .unk, .unk, .unk, .unk, .unk, .unk, .unk, .unk],
   hp := [some (.row 256 1 fun i x => DV.x (.int .u8 (0 : Int))), some (.row 256 1 fun i x => DV.x (.int .u8 (c i)))], next := 2, hint := .nil }))

theorem BC1_eq (b : Int) (c : Nat → Int) : cutT 2 [] [0, 1, 2] [] 2 .nil (exec Tryd.prog C0 D0 200 body1 (inv1 b c)) = BC1 b c := by kernel_rfl

noncomputable def LC2 (b : Int) (c : Nat → Int) : Tree SV :=
  .code (codeC (sub [] (t2 b c))) (codeS (sub [] (t2 b c))) (codeK (sub [] (t2 b c)))

theorem LC2_eq (b : Int) (c : Nat → Int) : t2 b c = LC2 b c := by kernel_rfl

noncomputable def BC2 (b : Int) (c : Nat → Int) : Tree (Ex × AS) :=
  .ite (decide (b ≤ (57 : Int)))
  (.need ((0 : Int) ≤ b ∧ b < (256 : Int))
   (.need (Int.toNat b < 256)
   (.ret
   (.normal,
   {
   tm :=
   [.ok (SV.ptr 0 0), .ok (SV.ptr 1 0), .unk, .ok (SV.d (DV.x (.int .i32 (IntKind.wrap .i32 (b + (1 : Int)))))), .unk, .unk, .unk, .unk, .unk, .unk,
   .unk, .unk, .unk, .unk, .unk, .unk, .unk, .unk, .unk, .unk, .unk, .unk, .unk, .unk, .unk, .unk, .unk],
   hp :=
   [some (.row 256 1 fun i x => DV.x (.int .u8 (0 : Int))),
   some
   (.row 256 1 fun a b_1 =>
   if 0 ≤ b_1 ∧ b_1 < 1 then
   selD (decide (a = Int.toNat b))
   (match [DV.x (.int .u8 (2 : Int))][b_1 - 0]? with
   | some x => x
   | none => DV.x (.tuple { toList := [] }))
   (DV.x (.int .u8 (c a)))
   else DV.x (.int .u8 (c a)))],
   next := 2, hint := .nil }))))
  (.ret
   (.exit 2,
   {
   tm :=
   [.ok (SV.ptr 0 0), .ok (SV.ptr 1 0), .unk, .ok (SV.d (DV.x (.int .i32 b))), .unk, .unk, .unk, .unk, .unk, .unk, .unk, .unk, .unk, .unk, .unk,
   .unk, .unk, .unk, .unk, .unk, .unk, .unk, .unk, .unk, .unk, .unk, .unk],
   hp := [some (.row 256 1 fun i x => DV.x (.int .u8 (0 : Int))), some (.row 256 1 fun i x => DV.x (.int .u8 (c i)))], next := 2, hint := .nil }))

theorem BC2_eq (b : Int) (c : Nat → Int) : cutT 2 [] [0, 1, 3] [] 2 .nil (exec Tryd.prog C0 D0 200 body2 (inv2 b c)) = BC2 b c := by kernel_rfl

noncomputable def LC3 (b : Int) (c : Nat → Int) : Tree SV :=
  .code (codeC (sub [] (t3 b c))) (codeS (sub [] (t3 b c))) (codeK (sub [] (t3 b c)))

theorem LC3_eq (b : Int) (c : Nat → Int) : t3 b c = LC3 b c := by kernel_rfl

noncomputable def BC3 (k : Nat) (c : Nat → Int) : Tree (Ex × AS) :=
  .ite (decide (k < 21))
  (.ite true
   (.need
   ((0 : Int) ≤
   (↑(Prod.fst
   (Utf8.decode
   (strB
   [(40 : UInt8), (41 : UInt8), (123 : UInt8), (125 : UInt8), (91 : UInt8), (93 : UInt8), (44 : UInt8), (59 : UInt8), (58 : UInt8), (61 : UInt8), (43 : UInt8), (45 : UInt8), (38 : UInt8), (124 : UInt8), (94 : UInt8),
   (126 : UInt8), (60 : UInt8), (63 : UInt8), (64 : UInt8), (35 : UInt8), (46 : UInt8)])
   k)) :
   Int) ∧
   (↑(Prod.fst
   (Utf8.decode
   (strB
   [(40 : UInt8), (41 : UInt8), (123 : UInt8), (125 : UInt8), (91 : UInt8), (93 : UInt8), (44 : UInt8), (59 : UInt8), (58 : UInt8), (61 : UInt8), (43 : UInt8), (45 : UInt8), (38 : UInt8), (124 : UInt8), (94 : UInt8),
   (126 : UInt8), (60 : UInt8), (63 : UInt8), (64 : UInt8), (35 : UInt8), (46 : UInt8)])
   k)) :
   Int) <
   (256 : Int))
   (.need
   (Int.toNat
   (↑(Prod.fst
   (Utf8.decode
   (strB
   [(40 : UInt8), (41 : UInt8), (123 : UInt8), (125 : UInt8), (91 : UInt8), (93 : UInt8), (44 : UInt8), (59 : UInt8), (58 : UInt8), (61 : UInt8), (43 : UInt8), (45 : UInt8), (38 : UInt8), (124 : UInt8), (94 : UInt8),
   (126 : UInt8), (60 : UInt8), (63 : UInt8), (64 : UInt8), (35 : UInt8), (46 : UInt8)])
   k)) :
   Int) <
   256)
   (.ret
   (.normal,
   {
   tm :=
   [.ok (SV.ptr 0 0), .ok (SV.ptr 1 0), .unk, .unk, .unk, .unk, .unk, .unk, .unk, .unk, .unk, .unk, .unk, .unk, .unk, .unk, .unk, .unk,
   .ok (SV.ptr 2 0), .unk, .unk, .unk, .unk, .unk, .unk, .unk, .unk],
   hp :=
   [some (.row 256 1 fun i x => DV.x (.int .u8 (0 : Int))),
   some
   (.row 256 1 fun a b =>
   if 0 ≤ b ∧ b < 1 then
   selD
   (decide
   (a =
   Int.toNat
   (↑(Prod.fst
   (Utf8.decode
   (strB
   [(40 : UInt8), (41 : UInt8), (123 : UInt8), (125 : UInt8), (91 : UInt8), (93 : UInt8), (44 : UInt8), (59 : UInt8), (58 : UInt8), (61 : UInt8), (43 : UInt8), (45 : UInt8), (38 : UInt8),
   (124 : UInt8), (94 : UInt8), (126 : UInt8), (60 : UInt8), (63 : UInt8), (64 : UInt8), (35 : UInt8), (46 : UInt8)])
   k)) :
   Int)))
   (match [DV.x (.int .u8 (4 : Int))][b - 0]? with
   | some x => x
   | none => DV.x (.tuple { toList := [] }))
   (DV.x (.int .u8 (c a)))
   else DV.x (.int .u8 (c a))),
   some
   (.iter
   (strB
   [(40 : UInt8), (41 : UInt8), (123 : UInt8), (125 : UInt8), (91 : UInt8), (93 : UInt8), (44 : UInt8), (59 : UInt8), (58 : UInt8), (61 : UInt8), (43 : UInt8), (45 : UInt8), (38 : UInt8), (124 : UInt8), (94 : UInt8),
   (126 : UInt8), (60 : UInt8), (63 : UInt8), (64 : UInt8), (35 : UInt8), (46 : UInt8)])
   (k +
   Prod.snd
   (Utf8.decode
   (strB
   [(40 : UInt8), (41 : UInt8), (123 : UInt8), (125 : UInt8), (91 : UInt8), (93 : UInt8), (44 : UInt8), (59 : UInt8), (58 : UInt8), (61 : UInt8), (43 : UInt8), (45 : UInt8), (38 : UInt8), (124 : UInt8),
   (94 : UInt8), (126 : UInt8), (60 : UInt8), (63 : UInt8), (64 : UInt8), (35 : UInt8), (46 : UInt8)])
   k)))],
   next := 3, hint := .nil }))))
   (.ret
   (.exit 4,
   {
   tm :=
   [.ok (SV.ptr 0 0), .ok (SV.ptr 1 0), .unk, .unk, .unk, .unk, .unk, .unk, .unk, .unk, .unk, .unk, .unk, .unk, .unk, .unk, .unk, .unk,
   .ok (SV.ptr 2 0), .unk, .unk, .unk, .unk, .unk, .unk, .unk, .unk],
   hp :=
   [some (.row 256 1 fun i x => DV.x (.int .u8 (0 : Int))), some (.row 256 1 fun i x => DV.x (.int .u8 (c i))),
   some
   (.iter
   (strB
   [(40 : UInt8), (41 : UInt8), (123 : UInt8), (125 : UInt8), (91 : UInt8), (93 : UInt8), (44 : UInt8), (59 : UInt8), (58 : UInt8), (61 : UInt8), (43 : UInt8), (45 : UInt8), (38 : UInt8), (124 : UInt8), (94 : UInt8),
   (126 : UInt8), (60 : UInt8), (63 : UInt8), (64 : UInt8), (35 : UInt8), (46 : UInt8)])
   (k +
   Prod.snd
   (Utf8.decode
   (strB
   [(40 : UInt8), (41 : UInt8), (123 : UInt8), (125 : UInt8), (91 : UInt8), (93 : UInt8), (44 : UInt8), (59 : UInt8), (58 : UInt8), (61 : UInt8), (43 : UInt8), (45 : UInt8), (38 : UInt8), (124 : UInt8), (94 : UInt8),
   (126 : UInt8), (60 : UInt8), (63 : UInt8), (64 : UInt8), (35 : UInt8), (46 : UInt8)])
   k)))],
   next := 3, hint := .nil })))
  (.ite false .fail
   (.ret
   (.exit 4,
   {
   tm :=
   [.ok (SV.ptr 0 0), .ok (SV.ptr 1 0), .unk, .unk, .unk, .unk, .unk, .unk, .unk, .unk, .unk, .unk, .unk, .unk, .unk, .unk, .unk, .unk,
   .ok (SV.ptr 2 0), .unk, .unk, .unk, .unk, .unk, .unk, .unk, .unk],
   hp :=
   [some (.row 256 1 fun i x => DV.x (.int .u8 (0 : Int))), some (.row 256 1 fun i x => DV.x (.int .u8 (c i))),
   some
   (.iter
   (strB
   [(40 : UInt8), (41 : UInt8), (123 : UInt8), (125 : UInt8), (91 : UInt8), (93 : UInt8), (44 : UInt8), (59 : UInt8), (58 : UInt8), (61 : UInt8), (43 : UInt8), (45 : UInt8), (38 : UInt8), (124 : UInt8), (94 : UInt8),
   (126 : UInt8), (60 : UInt8), (63 : UInt8), (64 : UInt8), (35 : UInt8), (46 : UInt8)])
   k)],
   next := 3, hint := .nil })))

theorem BC3_eq (k : Nat) (c : Nat → Int) : cutT 3 [] [0, 1, 18] [] 3 .nil (exec Tryd.prog C0 D0 200 body3 (inv3 k c)) = BC3 k c := by kernel_rfl

noncomputable def clsX (c : Nat → Int) : SV := .agg ((List.range 256).map fun i => .d (.x (.int .u8 (bif decide (i = 10) then 3 else bif decide (i = 32) then 3 else c i))))
noncomputable def KC3 (c : Nat → Int) : Tree SV := .need ((0 : Int) ≤ 32 ∧ (32 : Int) < 256) (.need (32 < 256) (.need ((0 : Int) ≤ 10 ∧ (10 : Int) < 256) (.need (10 < 256) (.ret (clsX c)))))
theorem KC3_eq (k : Nat) (b : Int) (c d : Nat → Int) : codeK (sub [] (t3 b d)) (.exit 4) (inv3 k c) = KC3 c := by kernel_rfl

end Go.Proofs.YtnoodoipghgkgaaDoor

