/- Part of a proof of the given statements of this seat (SxMdE): no conditions beyond those typed here. -/
import Derived.Test.YtcbjclmjkilphaaSxMdD
set_option linter.unusedVariables false
set_option linter.unusedSimpArgs false
namespace Go.Proofs.Ytcbjclmjkilphaa
open Go.Sx
set_option maxRecDepth 100000

noncomputable def T1 (k : Nat) (args : List SV) : Tree SV := fnT Try.prog C1 D1 200 (fnOf Try.prog k) (bodyOf Try.prog k) args .nil

structure okM (lo hi st er le mo : Int) : Prop where
  le : 1 ≤ le ∧ le ≤ mo ∧ mo ≤ 1000000
  lo : 1 ≤ lo ∧ lo ≤ hi ∧ hi ≤ 1000000
  st : 0 ≤ st ∧ st ≤ 1000000
  er : 0 ≤ er ∧ er ≤ 1000000

def okB (lo hi st er le mo : Int) : Bool := decide ((1 ≤ le ∧ le ≤ mo ∧ mo ≤ 1000000) ∧ (1 ≤ lo ∧ lo ≤ hi ∧ hi ≤ 1000000) ∧ (0 ≤ st ∧ st ≤ 1000000) ∧ 0 ≤ er ∧ er ≤ 1000000)
theorem okB_iff {lo hi st er le mo : Int} : okB lo hi st er le mo = true ↔ okM lo hi st er le mo := by
  unfold okB; rw [decide_eq_true_eq]
  exact ⟨fun ⟨a, b, c, d⟩ => ⟨a, b, c, d⟩, fun ⟨a, b, c, d⟩ => ⟨a, b, c, d⟩⟩

def vB (lo hi st er le mo : Int) (sp : Bool) : Bool := okB lo hi st er le mo && (sp || inR lo hi st le mo)

def okV (lo hi st er le mo : Int) (sp : Bool) : Prop := vB lo hi st er le mo sp = true
theorem okV.m {lo hi st er le mo : Int} {sp : Bool} (h : okV lo hi st er le mo sp) : okM lo hi st er le mo := by
  unfold okV vB at h; rw [Bool.and_eq_true] at h; exact okB_iff.1 h.1
theorem inR_iff {lo hi st le mo : Int} : inR lo hi st le mo = true ↔ le ≤ oLo lo st ∧ hi + st ≤ mo := by simp [inR]
theorem okV.r {lo hi st er le mo : Int} (h : okV lo hi st er le mo false) : le ≤ oLo lo st ∧ hi + st ≤ mo := by
  unfold okV vB at h; rw [Bool.and_eq_true] at h; exact inR_iff.1 (by simpa using h.2)

/-- Whether a reading agrees, and what a reading and a missing one make. -/
def gB (lo hi st er r : Int) : Bool := decide (-4000000 ≤ r ∧ r ≤ 4000000 ∧ max (oLo lo st) (r - er) ≤ min (hi + st) (r + er))
def vLo (lo hi st er : Int) (sp : Bool) (r : Int) : Int := if sp = false ∧ gB lo hi st er r = true then max (oLo lo st) (r - er) else lo
def vHi (lo hi st er : Int) (sp : Bool) (r : Int) : Int := if sp = false ∧ gB lo hi st er r = true then min (hi + st) (r + er) else hi
def vSp (lo hi st er le mo : Int) (sp : Bool) (r : Int) : Bool := sp || !gB lo hi st er r || !inR (max (oLo lo st) (r - er)) (min (hi + st) (r + er)) st le mo
def uLo (lo st : Int) (sp : Bool) : Int := if sp = false then oLo lo st else lo
def uHi (hi st : Int) (sp : Bool) : Int := if sp = false then hi + st else hi
def uSp (lo hi st le mo : Int) (sp : Bool) : Bool := sp || !inR (oLo lo st) (hi + st) st le mo

theorem mon_ext {a b c d e f a' b' : Int} {g g' : Bool} (h1 : a = a') (h2 : b = b') (h3 : g = g') : mon a b c d e f g = mon a' b' c d e f g' := by rw [h1, h2, h3]

noncomputable def X11 (lo hi st er le mo : Int) (sp : Bool) : Tree SV :=
  .ret
  (bv
    (decide (1 ≤ le) && decide (le ≤ mo) && decide (mo ≤ 1000000) && decide (1 ≤ lo) && decide (lo ≤ hi) && decide (hi ≤ 1000000) && (decide (0 ≤ st) && decide (st ≤ 1000000) && decide (0 ≤ er) && decide (er ≤ 1000000)) &&
      (sp || decide ((if w64 (lo - st) > 1 then w64 (lo - st) else 1) ≥ le) && decide (w64 (hi + st) ≤ mo))))

theorem X11_eq (lo hi st er le mo : Int) (sp : Bool) : T1 16 [mon lo hi st er le mo sp] = X11 lo hi st er le mo sp := by kernel_rfl

noncomputable def X12 (lo hi st er le mo : Int) (sp : Bool) : Tree SV :=
  .ite (decide (le < 1) || decide (mo < le) || decide (mo > 1000000) || decide (lo < 1) || decide (hi < lo) || decide (hi > 1000000)) (.ret (bv false))
  (.ite (decide (st < 0) || decide (st > 1000000) || decide (er < 0) || decide (er > 1000000)) (.ret (bv false)) (.ret (bv (sp || decide ((if w64 (lo - st) > 1 then w64 (lo - st) else 1) ≥ le) && decide (w64 (hi + st) ≤ mo)))))

theorem X12_eq (lo hi st er le mo : Int) (sp : Bool) : T1 17 [mon lo hi st er le mo sp] = X12 lo hi st er le mo sp := by kernel_rfl

noncomputable def X13 (lo hi st er le mo : Int) (sp : Bool) : Tree SV :=
  .ite
  (!(decide (1 ≤ le) && decide (le ≤ mo) && decide (mo ≤ 1000000) && decide (1 ≤ lo) && decide (lo ≤ hi) && decide (hi ≤ 1000000) && (decide (0 ≤ st) && decide (st ≤ 1000000) && decide (0 ≤ er) && decide (er ≤ 1000000)) &&
      (true || decide ((if w64 (lo - st) > 1 then w64 (lo - st) else 1) ≥ le) && decide (w64 (hi + st) ≤ mo))))
  (.ret (.agg [iv 0, iv 0, iv 0, iv 0, iv 0, iv 0, bv false, iv 1]))
  (.ret (.agg [iv lo, iv hi, iv st, iv er, iv le, iv mo, bv !(decide ((if w64 (lo - st) > 1 then w64 (lo - st) else 1) ≥ le) && decide (w64 (hi + st) ≤ mo)), iv 0]))

theorem X13_eq (lo hi st er le mo : Int) (sp : Bool) : T1 18 [mon lo hi st er le mo sp] = X13 lo hi st er le mo sp := by kernel_rfl

noncomputable def X14 (lo hi st er le mo : Int) (sp : Bool) : Tree SV :=
  .ite (decide (le < 1) || decide (mo < le) || decide (mo > 1000000) || decide (lo < 1) || decide (hi < lo) || decide (hi > 1000000))
  (.ite true (.ret (.agg [iv 0, iv 0, iv 0, iv 0, iv 0, iv 0, bv false, iv 1]))
    (.ret (.agg [iv lo, iv hi, iv st, iv er, iv le, iv mo, bv !(decide ((if w64 (lo - st) > 1 then w64 (lo - st) else 1) ≥ le) && decide (w64 (hi + st) ≤ mo)), iv 0])))
  (.ite (decide (st < 0) || decide (st > 1000000) || decide (er < 0) || decide (er > 1000000))
    (.ite true (.ret (.agg [iv 0, iv 0, iv 0, iv 0, iv 0, iv 0, bv false, iv 1]))
      (.ret (.agg [iv lo, iv hi, iv st, iv er, iv le, iv mo, bv !(decide ((if w64 (lo - st) > 1 then w64 (lo - st) else 1) ≥ le) && decide (w64 (hi + st) ≤ mo)), iv 0])))
    (.ite (!(true || decide ((if w64 (lo - st) > 1 then w64 (lo - st) else 1) ≥ le) && decide (w64 (hi + st) ≤ mo))) (.ret (.agg [iv 0, iv 0, iv 0, iv 0, iv 0, iv 0, bv false, iv 1]))
      (.ret (.agg [iv lo, iv hi, iv st, iv er, iv le, iv mo, bv !(decide ((if w64 (lo - st) > 1 then w64 (lo - st) else 1) ≥ le) && decide (w64 (hi + st) ≤ mo)), iv 0]))))

theorem X14_eq (lo hi st er le mo : Int) (sp : Bool) : T1 19 [mon lo hi st er le mo sp] = X14 lo hi st er le mo sp := by kernel_rfl

noncomputable def X16 (lo hi st er le mo : Int) (sp : Bool) : Tree SV :=
  .ite sp (.ret (.agg [iv lo, iv hi, iv st, iv er, iv le, iv mo, bv sp]))
  (.ret
    (.agg
      [iv (if w64 (lo - st) > 1 then w64 (lo - st) else 1), iv (w64 (hi + st)), iv st, iv er, iv le, iv mo,
        bv !(decide ((if w64 ((if w64 (lo - st) > 1 then w64 (lo - st) else 1) - st) > 1 then w64 ((if w64 (lo - st) > 1 then w64 (lo - st) else 1) - st) else 1) ≥ le) && decide (w64 (w64 (hi + st) + st) ≤ mo))]))

theorem X16_eq (lo hi st er le mo : Int) (sp : Bool) : T1 21 [mon lo hi st er le mo sp] = X16 lo hi st er le mo sp := by kernel_rfl

noncomputable def X17 (lo hi st er le mo : Int) (sp : Bool) : Tree SV :=
  .ret (.agg [iv (if w64 (lo - st) > 1 then w64 (lo - st) else 1), iv (w64 (hi + st))])

theorem X17_eq (lo hi st er le mo : Int) (sp : Bool) : T1 22 [mon lo hi st er le mo sp] = X17 lo hi st er le mo sp := by kernel_rfl

noncomputable def X18 (lo hi st er le mo : Int) (sp : Bool) : Tree SV :=
  .ret (.agg [iv (if w64 (lo - st) > 1 then w64 (lo - st) else 1), iv (w64 (hi + st))])

theorem X18_eq (lo hi st er le mo : Int) (sp : Bool) : T1 23 [mon lo hi st er le mo sp] = X18 lo hi st er le mo sp := by kernel_rfl

noncomputable def X22 (lo hi st er le mo : Int) (sp : Bool) : Tree SV :=
  .ite sp (.ret (.agg [iv lo, iv hi, iv st, iv er, iv le, iv mo, bv sp]))
  (.ite (decide ((if w64 (lo - st) > 1 then w64 (lo - st) else 1) > w64 (hi + st))) (.ret (.agg [iv lo, iv hi, iv st, iv er, iv le, iv mo, bv true]))
    (.ret
      (.agg
        [iv (if w64 (lo - st) > 1 then w64 (lo - st) else 1), iv (w64 (hi + st)), iv st, iv er, iv le, iv mo,
          bv !(decide ((if w64 ((if w64 (lo - st) > 1 then w64 (lo - st) else 1) - st) > 1 then w64 ((if w64 (lo - st) > 1 then w64 (lo - st) else 1) - st) else 1) ≥ le) && decide (w64 (w64 (hi + st) + st) ≤ mo))])))

theorem X22_eq (lo hi st er le mo : Int) (sp : Bool) : T1 27 [mon lo hi st er le mo sp] = X22 lo hi st er le mo sp := by kernel_rfl

noncomputable def X15 (lo hi st er le mo : Int) (sp : Bool) (r : Int) : Tree SV :=
  .ite sp (.ret (.agg [iv lo, iv hi, iv st, iv er, iv le, iv mo, bv sp]))
  (.ite (decide (r < -4000000) || decide (r > 4000000))
    (.ite true (.ret (.agg [iv lo, iv hi, iv st, iv er, iv le, iv mo, bv true]))
      (.ret (.agg [iv 0, iv 0, iv st, iv er, iv le, iv mo, bv !(decide ((if w64 (0 - st) > 1 then w64 (0 - st) else 1) ≥ le) && decide (w64 (0 + st) ≤ mo))])))
    (.ite (!decide ((if w64 (r - er) > if w64 (lo - st) > 1 then w64 (lo - st) else 1 then w64 (r - er) else if w64 (lo - st) > 1 then w64 (lo - st) else 1) ≤ if w64 (r + er) < w64 (hi + st) then w64 (r + er) else w64 (hi + st)))
      (.ret (.agg [iv lo, iv hi, iv st, iv er, iv le, iv mo, bv true]))
      (.ret
        (.agg
          [iv (if w64 (r - er) > if w64 (lo - st) > 1 then w64 (lo - st) else 1 then w64 (r - er) else if w64 (lo - st) > 1 then w64 (lo - st) else 1), iv (if w64 (r + er) < w64 (hi + st) then w64 (r + er) else w64 (hi + st)), iv st, iv er,
            iv le, iv mo,
            bv
              !(decide
                    ((if w64 ((if w64 (r - er) > if w64 (lo - st) > 1 then w64 (lo - st) else 1 then w64 (r - er) else if w64 (lo - st) > 1 then w64 (lo - st) else 1) - st) > 1 then
                        w64 ((if w64 (r - er) > if w64 (lo - st) > 1 then w64 (lo - st) else 1 then w64 (r - er) else if w64 (lo - st) > 1 then w64 (lo - st) else 1) - st)
                      else 1) ≥
                      le) &&
                  decide (w64 ((if w64 (r + er) < w64 (hi + st) then w64 (r + er) else w64 (hi + st)) + st) ≤ mo))]))))

theorem X15_eq (lo hi st er le mo : Int) (sp : Bool) (r : Int) : T1 20 [mon lo hi st er le mo sp, iv r] = X15 lo hi st er le mo sp r := by kernel_rfl

noncomputable def X19 (lo hi st er le mo : Int) (sp : Bool) (r : Int) : Tree SV :=
  .ite (decide (r < -4000000) || decide (r > 4000000)) (.ret (bv false))
  (.ret
    (bv
      (!((if w64 (r - er) > if w64 (lo - st) > 1 then w64 (lo - st) else 1 then w64 (r - er) else if w64 (lo - st) > 1 then w64 (lo - st) else 1) == 1 &&
            ((if w64 (r + er) < w64 (hi + st) then w64 (r + er) else w64 (hi + st)) == 0 && true)) &&
        decide ((if w64 (r - er) > if w64 (lo - st) > 1 then w64 (lo - st) else 1 then w64 (r - er) else if w64 (lo - st) > 1 then w64 (lo - st) else 1) ≤ if w64 (r + er) < w64 (hi + st) then w64 (r + er) else w64 (hi + st)))))

theorem X19_eq (lo hi st er le mo : Int) (sp : Bool) (r : Int) : T1 24 [mon lo hi st er le mo sp, iv r] = X19 lo hi st er le mo sp r := by kernel_rfl

noncomputable def X20 (lo hi st er le mo : Int) (sp : Bool) (r : Int) : Tree SV :=
  .ite (decide (r < -4000000) || decide (r > 4000000)) (.ret (bv false))
  (.ret (bv (decide ((if w64 (r - er) > if w64 (lo - st) > 1 then w64 (lo - st) else 1 then w64 (r - er) else if w64 (lo - st) > 1 then w64 (lo - st) else 1) ≤ if w64 (r + er) < w64 (hi + st) then w64 (r + er) else w64 (hi + st)))))

theorem X20_eq (lo hi st er le mo : Int) (sp : Bool) (r : Int) : T1 25 [mon lo hi st er le mo sp, iv r] = X20 lo hi st er le mo sp r := by kernel_rfl

noncomputable def X21 (lo hi st er le mo : Int) (sp : Bool) (r : Int) : Tree SV :=
  .ite sp (.ret (.agg [iv lo, iv hi, iv st, iv er, iv le, iv mo, bv sp]))
  (.ite (decide (r < -4000000) || decide (r > 4000000))
    (.ite true (.ret (.agg [iv lo, iv hi, iv st, iv er, iv le, iv mo, bv true]))
      (.ret (.agg [iv 1, iv 0, iv st, iv er, iv le, iv mo, bv !(decide ((if w64 (1 - st) > 1 then w64 (1 - st) else 1) ≥ le) && decide (w64 (0 + st) ≤ mo))])))
    (.ite (decide ((if w64 (r - er) > if w64 (lo - st) > 1 then w64 (lo - st) else 1 then w64 (r - er) else if w64 (lo - st) > 1 then w64 (lo - st) else 1) > if w64 (r + er) < w64 (hi + st) then w64 (r + er) else w64 (hi + st)))
      (.ret (.agg [iv lo, iv hi, iv st, iv er, iv le, iv mo, bv true]))
      (.ret
        (.agg
          [iv (if w64 (r - er) > if w64 (lo - st) > 1 then w64 (lo - st) else 1 then w64 (r - er) else if w64 (lo - st) > 1 then w64 (lo - st) else 1), iv (if w64 (r + er) < w64 (hi + st) then w64 (r + er) else w64 (hi + st)), iv st, iv er,
            iv le, iv mo,
            bv
              !(decide
                    ((if w64 ((if w64 (r - er) > if w64 (lo - st) > 1 then w64 (lo - st) else 1 then w64 (r - er) else if w64 (lo - st) > 1 then w64 (lo - st) else 1) - st) > 1 then
                        w64 ((if w64 (r - er) > if w64 (lo - st) > 1 then w64 (lo - st) else 1 then w64 (r - er) else if w64 (lo - st) > 1 then w64 (lo - st) else 1) - st)
                      else 1) ≥
                      le) &&
                  decide (w64 ((if w64 (r + er) < w64 (hi + st) then w64 (r + er) else w64 (hi + st)) + st) ≤ mo))]))))

theorem X21_eq (lo hi st er le mo : Int) (sp : Bool) (r : Int) : T1 26 [mon lo hi st er le mo sp, iv r] = X21 lo hi st er le mo sp r := by kernel_rfl


end Go.Proofs.Ytcbjclmjkilphaa
