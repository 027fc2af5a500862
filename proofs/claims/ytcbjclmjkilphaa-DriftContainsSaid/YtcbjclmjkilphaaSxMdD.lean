/- Part of a proof of the given statements of this seat (SxMdD): no conditions beyond those typed here. -/
import Derived.Test.YtcbjclmjkilphaaSxMdC
set_option linter.unusedVariables false
set_option linter.unusedSimpArgs false
namespace Go.Proofs.Ytcbjclmjkilphaa
open Go.Sx
set_option maxRecDepth 100000

noncomputable def mon (lo hi st er le mo : Int) (sp : Bool) : SV := .agg [iv lo, iv hi, iv st, iv er, iv le, iv mo, bv sp]

/-! ### examples -/

noncomputable def cEx : Ctr := fun ss => match ss with
  | [] => .ret (bv true)
  | _ => .fail

noncomputable def CX : Ctx := ctxN Try.prog (fun _ => none) (fun _ => false) 200 .run 6
theorem CX_ok : CtxOK Try.prog CX := ctxN_ok mixed (fun k c h => by cases h) 6

theorem ex_run : autoC Try.prog CX 200 14 .run [] = .ret (bv true) := by kernel_rfl

theorem cEx_ok : CtrOK Try.prog 14 cEx := by
  refine (autoC_ok CX_ok mixed 200 14 .run).mono fun ss r h => ?_
  unfold cEx at h
  split at h
  · rw [ex_run]; exact h
  · exact h.elim

/-! ### R45.Made -/

noncomputable def man1 : FuncId → Option Ctr := fun k => if k = 28 then some cMade else none
noncomputable def C1 : Ctx := ctxN Try.prog man1 (fun _ => false) 200 .nil 6
theorem C1_ok : CtxOK Try.prog C1 := ctxN_ok mixed (fun k c h => by
  unfold man1 at h
  split at h
  · rename_i e; cases h; subst e; exact ⟨cMade_ok, by kernel_rfl⟩
  · cases h) 6
noncomputable def D1 : Dr := fun _ => drawn Try.prog C1
theorem D1_ok : DrOK Try.prog C1 D1 := drawn_ok C1_ok mixed

def oLo (lo st : Int) : Int := max 1 (lo - st)
def inR (lo hi st le mo : Int) : Bool := decide (le ≤ oLo lo st) && decide (hi + st ≤ mo)
noncomputable def mLe (lo be : Int) : Int := max 1 (sLo lo - be % 30)
noncomputable def mMo (lo wi ov : Int) : Int := sHi lo wi + ov % 30
noncomputable def monR (lo wi st er be ov : Int) : SV := mon (sLo lo) (sHi lo wi) (st % 6) (er % 6) (mLe lo be) (mMo lo wi ov) (!inR (sLo lo) (sHi lo wi) (st % 6) (mLe lo be) (mMo lo wi ov))

noncomputable def m5T (lo wi st er be ov : Int) (n : Nat) (cell : Nat → Nat → DV) : Tree SV := fnT Try.prog C1 D1 200 (fnOf Try.prog 15) (bodyOf Try.prog 15) [.agg [u8 lo, u8 wi, u8 st, u8 er, .d (.ro n 1 cell), u8 be, u8 ov]] .nil

noncomputable def m5X (lo wi st er be ov : Int) (n : Nat) (cell : Nat → Nat → DV) : Tree SV :=
  .need ((0 ≤ lo ∧ lo < 256) ∧ (0 ≤ wi ∧ wi < 256) ∧ (0 ≤ st ∧ st < 256) ∧ (0 ≤ er ∧ er < 256) ∧ n ≤ 9223372036854775807 ∧ ∀ (i : Nat), i < n → ∃ b, cell i 0 = .x (Value.int IntKind.u8 b) ∧ 0 ≤ b ∧ b < 256)
  (.need (30 ≠ (0 : Int))
    (.need (30 ≠ (0 : Int))
      (.ite
        (decide ((if w64 (sLo lo - w64 (Int.tmod be 30)) > 1 then w64 (sLo lo - w64 (Int.tmod be 30)) else 1) < 1) ||
                  decide (w64 (sHi lo wi + w64 (Int.tmod ov 30)) < if w64 (sLo lo - w64 (Int.tmod be 30)) > 1 then w64 (sLo lo - w64 (Int.tmod be 30)) else 1) ||
                decide (w64 (sHi lo wi + w64 (Int.tmod ov 30)) > 1000000) ||
              decide (sLo lo < 1) ||
            decide (sHi lo wi < sLo lo) ||
          decide (sHi lo wi > 1000000))
        (.ite true (.ret (.agg [iv 0, iv 0, iv 0, iv 0, iv 0, iv 0, bv false]))
          (.ret
            (.agg
              [iv (sLo lo), iv (sHi lo wi), iv (st % 6), iv (er % 6), iv (if w64 (sLo lo - w64 (Int.tmod be 30)) > 1 then w64 (sLo lo - w64 (Int.tmod be 30)) else 1), iv (w64 (sHi lo wi + w64 (Int.tmod ov 30))),
                bv
                  !(decide ((if w64 (sLo lo - st % 6) > 1 then w64 (sLo lo - st % 6) else 1) ≥ if w64 (sLo lo - w64 (Int.tmod be 30)) > 1 then w64 (sLo lo - w64 (Int.tmod be 30)) else 1) &&
                      decide (w64 (sHi lo wi + st % 6) ≤ w64 (sHi lo wi + w64 (Int.tmod ov 30))))])))
        (.ite (decide (st % 6 < 0) || decide (st % 6 > 1000000) || decide (er % 6 < 0) || decide (er % 6 > 1000000))
          (.ite true (.ret (.agg [iv 0, iv 0, iv 0, iv 0, iv 0, iv 0, bv false]))
            (.ret
              (.agg
                [iv (sLo lo), iv (sHi lo wi), iv (st % 6), iv (er % 6), iv (if w64 (sLo lo - w64 (Int.tmod be 30)) > 1 then w64 (sLo lo - w64 (Int.tmod be 30)) else 1), iv (w64 (sHi lo wi + w64 (Int.tmod ov 30))),
                  bv
                    !(decide ((if w64 (sLo lo - st % 6) > 1 then w64 (sLo lo - st % 6) else 1) ≥ if w64 (sLo lo - w64 (Int.tmod be 30)) > 1 then w64 (sLo lo - w64 (Int.tmod be 30)) else 1) &&
                        decide (w64 (sHi lo wi + st % 6) ≤ w64 (sHi lo wi + w64 (Int.tmod ov 30))))])))
          (.ite
            (!(true ||
                decide ((if w64 (sLo lo - st % 6) > 1 then w64 (sLo lo - st % 6) else 1) ≥ if w64 (sLo lo - w64 (Int.tmod be 30)) > 1 then w64 (sLo lo - w64 (Int.tmod be 30)) else 1) &&
                  decide (w64 (sHi lo wi + st % 6) ≤ w64 (sHi lo wi + w64 (Int.tmod ov 30)))))
            (.ret (.agg [iv 0, iv 0, iv 0, iv 0, iv 0, iv 0, bv false]))
            (.ret
              (.agg
                [iv (sLo lo), iv (sHi lo wi), iv (st % 6), iv (er % 6), iv (if w64 (sLo lo - w64 (Int.tmod be 30)) > 1 then w64 (sLo lo - w64 (Int.tmod be 30)) else 1), iv (w64 (sHi lo wi + w64 (Int.tmod ov 30))),
                  bv
                    !(decide ((if w64 (sLo lo - st % 6) > 1 then w64 (sLo lo - st % 6) else 1) ≥ if w64 (sLo lo - w64 (Int.tmod be 30)) > 1 then w64 (sLo lo - w64 (Int.tmod be 30)) else 1) &&
                        decide (w64 (sHi lo wi + st % 6) ≤ w64 (sHi lo wi + w64 (Int.tmod ov 30))))])))))))

theorem m5X_eq (lo wi st er be ov : Int) (n : Nat) (cell : Nat → Nat → DV) : m5T lo wi st er be ov n cell = m5X lo wi st er be ov n cell := by kernel_rfl

theorem mx {a : Int} : (if a > 1 then a else 1) = max 1 a := by omega

theorem m5_sat {lo wi st er be ov : Int} {n : Nat} {cell : Nat → Nat → DV} (h1 : 0 ≤ lo ∧ lo < 256) (h2 : 0 ≤ wi ∧ wi < 256) (h3 : 0 ≤ st ∧ st < 256) (h4 : 0 ≤ er ∧ er < 256) (hn : n ≤ maxLen) (hB : ∀ i, i < n → ∃ b, cell i 0 = .x (.int .u8 b) ∧ 0 ≤ b ∧ b < 256)
    (h5 : 0 ≤ be ∧ be < 256) (h6 : 0 ≤ ov ∧ ov < 256) :
    (m5T lo wi st er be ov n cell).sat Try.prog (· = monR lo wi st er be ov) := by
  have a1 : 1 ≤ sLo lo ∧ sLo lo ≤ 40 := by unfold sLo; omega
  have a2 : sLo lo ≤ sHi lo wi ∧ sHi lo wi ≤ 47 := by unfold sHi; omega
  have e1 : w64 (Int.tmod be 30) = be % 30 := by rw [tmod_lit h5.1, w64_of (by omega) (by omega)]
  have e2 : w64 (Int.tmod ov 30) = ov % 30 := by rw [tmod_lit h6.1, w64_of (by omega) (by omega)]
  have e3 : w64 (sLo lo - be % 30) = sLo lo - be % 30 := w64_of (by omega) (by omega)
  have e4 : w64 (sHi lo wi + ov % 30) = sHi lo wi + ov % 30 := w64_of (by omega) (by omega)
  have e5 : w64 (sLo lo - st % 6) = sLo lo - st % 6 := w64_of (by omega) (by omega)
  have e6 : w64 (sHi lo wi + st % 6) = sHi lo wi + st % 6 := w64_of (by omega) (by omega)
  rw [m5X_eq]
  unfold m5X
  simp only [e1, e2, e3, e4, e5, e6, mx]
  refine ⟨⟨h1, h2, h3, h4, hn, hB⟩, by decide, by decide, ?_⟩
  rw [show (decide (max 1 (sLo lo - be % 30) < 1) || decide (sHi lo wi + ov % 30 < max 1 (sLo lo - be % 30)) || decide (sHi lo wi + ov % 30 > 1000000) || decide (sLo lo < 1) || decide (sHi lo wi < sLo lo) || decide (sHi lo wi > 1000000)) = false by simp; omega,
    show (decide (st % 6 < 0) || decide (st % 6 > 1000000) || decide (er % 6 < 0) || decide (er % 6 > 1000000)) = false by simp; omega]
  simp [Tree.sat, monR, mon, mLe, mMo, inR, oLo]
  rfl

/-- R45.Made. -/
noncomputable def cM45 : Ctr := fun ss => match ss with
  | [.agg [.d (.x (.int .u8 lo)), .d (.x (.int .u8 wi)), .d (.x (.int .u8 st)), .d (.x (.int .u8 er)), .d (.ro n 1 cell), .d (.x (.int .u8 be)), .d (.x (.int .u8 ov))]] =>
    .need ((0 ≤ lo ∧ lo < 256) ∧ (0 ≤ wi ∧ wi < 256) ∧ (0 ≤ st ∧ st < 256) ∧ (0 ≤ er ∧ er < 256) ∧ n ≤ maxLen ∧ (∀ i, i < n → ∃ b, cell i 0 = .x (.int .u8 b) ∧ 0 ≤ b ∧ b < 256) ∧ (0 ≤ be ∧ be < 256) ∧ (0 ≤ ov ∧ ov < 256)) (.ret (monR lo wi st er be ov))
  | _ => .fail

theorem cM45_ok : CtrOK Try.prog 15 cM45 := by
  refine ctrOK_of C1_ok D1_ok (fn := fnOf Try.prog 15) (body := bodyOf Try.prog 15) (by kernel_rfl) (by kernel_rfl) fun ss r h => ?_
  unfold cM45 at h
  split at h
  · rename_i lo wi st er n cell be ov
    obtain ⟨⟨h1, h2, h3, h4, hn, hb, h5, h6⟩, rfl⟩ := h
    exact ⟨200, .nil, m5_sat h1 h2 h3 h4 hn hb h5 h6⟩
  · exact h.elim

end Go.Proofs.Ytcbjclmjkilphaa
