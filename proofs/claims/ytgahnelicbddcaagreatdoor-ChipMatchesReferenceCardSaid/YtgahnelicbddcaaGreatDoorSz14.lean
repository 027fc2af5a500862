/- Part of a proof of the given statements of this seat (SxChU, SxChV, SxChW, SxChX, SxChY, SxChPa, SxChPb, SxChZa, SxChZb, SxChZc, SxChZ): no conditions beyond those typed here. -/
import Derived.Test.YtgahnelicbddcaaGreatDoorSz12
import Derived.Test.YtgahnelicbddcaaGreatDoorSz13
set_option linter.unusedVariables false
set_option linter.unusedSimpArgs false
set_option linter.unusedSectionVars false

namespace Go.Proofs.YtgahnelicbddcaaGreatDoor
open Go.Sx Go.Sort Go.RowKit
set_option maxRecDepth 100000

def srtL (L : List Int) : List Int := L.mergeSort fun x y => decide (x ≤ y)
noncomputable def mSort : MCtr := fun args hp nx => match args, hp, nx with
  | [.row 0 0 0 n 1], [some (.row n' 1 f)], 1 => .need (n = n' ∧ n ≤ 1000000 ∧ IntRow n f) (.ret (.tup [], [some (.row (srtL (lsOf n f)).length 1 (cellL (srtL (lsOf n f))))], 1))
  | _, _, _ => .fail
theorem reps1 {w : World} {μ : Mu} {F : Nat → Prop} {vs : Array Value} {a : SV} (h : Reps w μ F vs [a]) : ∃ v, vs = #[v] ∧ Rep w μ F v a := by
  obtain ⟨h1, h2⟩ := h
  have hs : vs.size = 1 := h1
  refine ⟨vs.getD 0 undef, ?_, h2 0 (by simp)⟩
  apply Array.ext
  · simpa using hs
  · intro i hi hi2
    obtain rfl : i = 0 := by omega
    simp [Array.getD, hs]
theorem hpLe_hs {p : Par} {μ : Mu} {F : Nat → Prop} {hp hp' : Heap} {w : World} (hh : hpLe hp hp') (hs : HS p μ F hp w) : HS p μ F hp' w := by
  refine ⟨hs.ext, hs.sub, hs.fin, fun l y hy => ?_, fun l l' y y' b o b' o' hne hy hy' => ?_⟩
  · obtain ⟨x, hx, hle⟩ := hpLe_get hh l y hy
    obtain ⟨q, k1, k2, k3⟩ := hs.blk l x hx
    exact ⟨q, k1, k2, hle _ _ _ _ k3⟩
  · obtain ⟨x, hx, hle⟩ := hpLe_get hh l y hy
    obtain ⟨x', hx', hle'⟩ := hpLe_get hh l' y' hy'
    exact hs.inj l l' x x' b o b' o' hne hx hx'
theorem mSort_ok : MuOK Tryz.prog 79 mSort := by
  intro args hp nx r hr
  unfold mSort at hr
  split at hr
  · rename_i n n' f
    obtain ⟨⟨rfl, hn, hI⟩, rfl⟩ := hr
    intro μ F w vs hl hgl hf hrs
    obtain ⟨v, rfl, hv⟩ := reps1 hrs
    have hlen : (srtL (lsOf n f)).length = n := by unfold srtL; rw [List.length_mergeSort, lsOf_len]
    rcases rowArg hv with ⟨b, o, cap, rfl, hm, hcap, hz⟩ | ⟨rfl, a, q, rfl, hm, _⟩
    · have hg : hget [some (Blk.row n 1 f)] 0 = some (.row n 1 f) := rfl
      have hH := row_holds hl hg hm hI
      obtain ⟨c, e, h1, _⟩ := row_cells hl hg hm hI
      have hb : b < w.heap.size := (Array.getElem?_eq_some_iff.1 h1).1
      have hc := Tryz.slices_Sort_int b o cap (lsOf n f) w hH hb (by rw [lsOf_len]; omega)
      rw [lsOf_len] at hc
      refine hc.mono ?_
      rintro e w' ⟨rfl, k, os, rfl⟩
      refine ⟨_, _, _, _, μ, F, rfl, rfl, ?_, ?_, fun l q h => h, hf⟩
      · have := row_after (zs := srtL (lsOf n f)) (zm := srtL (lsOf n f)) (q := k) (os := os) hl hg hm hI hlen (by rw [hlen]; exact Nat.le_refl _) (fun i _ => rfl)
        exact this
      · exact .tup _ _ rfl (fun i hi => absurd hi (Nat.not_lt_zero _))
    · refine (Tryz.slices_Sort_int_none a 0 w).mono ?_
      rintro e w' ⟨rfl, rfl⟩
      refine ⟨_, _, _, _, μ, F, rfl, rfl, ?_, .tup _ _ rfl (fun i hi => absurd hi (Nat.not_lt_zero _)), fun l q h => h, hf⟩
      refine (hpLe_hs ?_ hl)
      exact ⟨.inr ⟨_, _, rfl, rfl, by rw [hlen]; exact .row fun i j hi => absurd hi (Nat.not_lt_zero _)⟩, trivial⟩
  · exact hr.elim
def cmpL (L : List Int) : List Int := Lib.compact L
theorem cmpL_len (L : List Int) : (cmpL L).length ≤ L.length := by
  unfold cmpL Lib.compact Lib.compactUpTo
  rw [List.length_map]
  refine Nat.le_trans (List.length_filter_le _ _) ?_
  simp
noncomputable def mCmp : MCtr := fun args hp nx => match args, hp, nx with
  | [.row 0 0 0 n 1], [some (.row n' 1 f)], 1 => .need (n = n' ∧ n ≤ 1000000 ∧ IntRow n f) (.ret (.row 0 0 0 (cmpL (lsOf n f)).length 1, [some (.row (cmpL (lsOf n f)).length 1 (cellL (cmpL (lsOf n f))))], 1))
  | _, _, _ => .fail
theorem row_short {w : World} {μ : Mu} {F : Nat → Prop} {b o cap n : Nat} (hm : μ 0 = some (.pl b o)) (hcap : n ≤ cap) (hz : o + cap ≤ bsz w b) {m : Nat} (hle : m ≤ n) : Rep w μ F (.slice (some ⟨b, o, none⟩) m cap) (.row 0 0 0 m 1) := by
  have := Rep.row (w := w) (μ := μ) (F := F) 0 0 0 m 1 b o cap hm (by omega) (by omega)
  simpa using this
theorem mCmp_ok : MuOK Tryz.prog 80 mCmp := by
  intro args hp nx r hr
  unfold mCmp at hr
  split at hr
  · rename_i n n' f
    obtain ⟨⟨rfl, hn, hI⟩, rfl⟩ := hr
    intro μ F w vs hl hgl hf hrs
    obtain ⟨v, rfl, hv⟩ := reps1 hrs
    have hle := cmpL_len (lsOf n f)
    rw [lsOf_len] at hle
    rcases rowArg hv with ⟨b, o, cap, rfl, hm, hcap, hz⟩ | ⟨rfl, a, q, rfl, hm, ha⟩
    · have hg : hget [some (Blk.row n 1 f)] 0 = some (.row n 1 f) := rfl
      have hH := row_holds hl hg hm hI
      have hc := Tryz.slices_Compact_int b o cap (lsOf n f) w hH (by rw [lsOf_len]; omega) (by rw [lsOf_len]; exact hcap)
      rw [lsOf_len] at hc
      refine hc.mono ?_
      rintro e w' ⟨rfl, k, rfl⟩
      have hs := row_after (zs := cmpL (lsOf n f) ++ List.replicate (n - (cmpL (lsOf n f)).length) 0) (zm := cmpL (lsOf n f)) (q := k) (os := #[]) hl hg hm hI (by rw [List.length_append, List.length_replicate]; omega) hle (fun i hi => by
        rw [List.getD_eq_getElem?_getD, List.getElem?_append_left hi, ← List.getD_eq_getElem?_getD])
      rw [grow_empty] at hs
      refine ⟨_, _, _, _, μ, F, rfl, rfl, hs, row_short hm hcap (Nat.le_trans hz (hs.ext.bsz b)) hle, fun l q h => h, hf⟩
    · refine (Tryz.slices_Compact_int_empty a 0 w).mono ?_
      rintro e w' ⟨rfl, rfl⟩
      have h0 : (cmpL (lsOf 0 f)).length = 0 := by omega
      refine ⟨_, _, _, _, μ, F, rfl, rfl, hpLe_hs (hp := [some (.row 0 1 f)]) ⟨.inr ⟨_, _, rfl, rfl, by rw [h0]; exact .row fun i j hi => absurd hi (Nat.not_lt_zero _)⟩, trivial⟩ hl, ?_, fun l q h => h, hf⟩
      rw [h0]
      rcases ha with ⟨rfl, rfl⟩ | ⟨b, o, rfl⟩
      · exact .rnil _ _ _ _ hm
      · exact .rz _ _ _ _ _ _ _ hm
  · exact hr.elim
theorem gives82 (but x : Int) (B o : Nat) (W : World) (hc : W.cell? ⟨B, o, none⟩ = some (.int .i64 but)) :
    FnGives Tryz.prog 82 #[.pointer (some ⟨B, o, none⟩)] #[.int .i64 x] (.bool (x == but)) W := by
  show Calls Tryz.prog 82 #[.int .i64 x, .pointer (some ⟨B, o, none⟩)] W _
  go_enter Tryz.func82, Tryz.ntmps82
  go_wp2
  all_goals (go_ret; exact ⟨by simp_all, 0, rfl⟩)
end Go.Proofs.YtgahnelicbddcaaGreatDoor

namespace Go.Proofs.YtgahnelicbddcaaGreatDoor
open Go.Sx
set_option maxRecDepth 100000
def inlD (k : Nat) : Bool := match k with
  | 78 | 81 | 82 => true
  | _ => false
noncomputable def CD : Ctx := ctxN Tryz.prog (fun _ => none) inlD 200 .nil 2
theorem CD_ok : CtxOK Tryz.prog CD := ctxN_ok mixed (fun k c h => by cases h) 2
noncomputable def DD : Dr := fun _ => drawn Tryz.prog CD
theorem DD_ok : DrOK Tryz.prog CD DD := drawn_ok CD_ok mixed
noncomputable def LDel (f : Nat → Nat → DV) (q : Int) : Tree (SV × AS) :=
  .ret
  (SV.row 0 0 0 0 1,
   {
   tm :=
   [.ok (SV.row 0 0 0 0 1), .ok (SV.fn (Fn.func 82) [] [SV.ptr 1 0]), .unk, .unk,
   .ok (SV.row 0 0 0 0 1), .ok (iv (-1 : Int)), .unk, .unk, .ok (SV.row 0 0 0 0 1),
   .ok (SV.fn (Fn.func 82) [] [SV.ptr 1 0]), .ok (iv (-1 : Int)), .ok (iv (-1 : Int)), .ok (bv true), .ok (SV.row 0 0 0 0 1), .unk, .unk,
   .unk, .unk, .unk, .unk, .unk, .unk, .unk, .unk, .unk, .unk, .unk, .unk, .unk, .unk, .unk, .unk, .unk, .unk, .unk, .unk, .unk, .unk, .unk, .unk, .unk, .unk],
   hp := [some (.row 0 1 f), some (.cells [iv q])], next := 2, hint := .run })

theorem LDel_eq (f : Nat → Nat → DV) (q : Int) : inlT Tryz.prog CD DD 200 81 [.row 0 0 0 0 1, .fn (.func 82) [] [.ptr 1 0]] ⟨[], [some (.row 0 1 f), some (.cells [iv q])], 2, .run⟩ = LDel f q := by kernel_rfl


end Go.Proofs.YtgahnelicbddcaaGreatDoor

namespace Go.Proofs.YtgahnelicbddcaaGreatDoor
open Go.Sx Go.Sort Go.RowKit
set_option maxRecDepth 100000

def delL (q : Int) (L : List Int) : List Int := L.filter fun x => !(x == q)
theorem delL_len (q : Int) (L : List Int) : (delL q L).length ≤ L.length := List.length_filter_le _ _
noncomputable def mDel : MCtr := fun args hp nx => match args, hp, nx with
  | [.row 0 0 0 n 1, .fn (.func 82) [] [.ptr 1 0]], [some (.row n' 1 f), some (.cells [.d (.x (.int .i64 q))])], 2 => .need (n = n' ∧ n ≤ 1000000 ∧ IntRow n f) (.ret (.row 0 0 0 (delL q (lsOf n f)).length 1, [some (.row (delL q (lsOf n f)).length 1 (cellL (delL q (lsOf n f)))), some (.cells [iv q])], 2))
  | _, _, _ => .fail
theorem reps2 {w : World} {μ : Mu} {F : Nat → Prop} {vs : Array Value} {a b : SV} (h : Reps w μ F vs [a, b]) : ∃ v u, vs = #[v, u] ∧ Rep w μ F v a ∧ Rep w μ F u b := by
  obtain ⟨h1, h2⟩ := h
  have hs : vs.size = 2 := h1
  refine ⟨vs.getD 0 undef, vs.getD 1 undef, ?_, h2 0 (by simp), h2 1 (by simp)⟩
  apply Array.ext
  · simpa using hs
  · intro i hi hi2
    have : i = 0 ∨ i = 1 := by omega
    rcases this with rfl | rfl <;> simp [Array.getD, hs]
theorem fnArg {w : World} {μ : Mu} {F : Nat → Prop} {v : Value} {g l : Nat} (h : Rep w μ F v (.fn (.func g) [] [.ptr l 0])) : ∃ b o, v = .func (.func g) #[] #[.pointer (some ⟨b, o, none⟩)] ∧ μ l = some (.pl b o) := by
  generalize hs : SV.fn (.func g) [] [.ptr l 0] = s at h
  cases h with
  | fn f fs cs ss ts h1 h2 h3 h4 =>
    cases hs
    have e1 : fs = #[] := by apply Array.eq_empty_of_size_eq_zero; simpa using h1
    have hc : cs.size = 1 := h2
    have h5 := h4 0 (by simp)
    have e2 : cs = #[cs.getD 0 undef] := by
      apply Array.ext
      · simpa using hc
      · intro i hi hi2
        obtain rfl : i = 0 := by omega
        simp [Array.getD, hc]
    generalize cs.getD 0 undef = u at e2 h5
    subst e1 e2
    have h5 : Rep w μ F u (.ptr l 0) := h5
    generalize hq : SV.ptr l 0 = z at h5
    cases h5 with
    | ptr l' off b o hm => cases hq; exact ⟨b, o, rfl, hm⟩
    | _ => cases hq
  | _ => cases hs
theorem mDel_ok : MuOK Tryz.prog 81 mDel := by
  intro args hp nx r hr
  unfold mDel at hr
  split at hr
  · rename_i n n' f q
    obtain ⟨⟨rfl, hn, hI⟩, rfl⟩ := hr
    by_cases h0 : n = 0
    · subst h0
      have kk : Sat Tryz.prog (inlT Tryz.prog CD DD 200 81 [.row 0 0 0 0 1, .fn (.func 82) [] [.ptr 1 0]] ⟨[], [some (.row 0 1 f), some (.cells [iv q])], 2, .run⟩) fun st => st.1 = .row 0 0 0 0 1 ∧ st.2.hp = [some (.row 0 1 f), some (.cells [iv q])] ∧ st.2.next = 2 := by
        refine Sat.of_eq (LDel_eq f q) ⟨?_⟩
        exact ⟨rfl, rfl, rfl⟩
      have hz : (delL q (lsOf 0 f)).length = 0 := by have := delL_len q (lsOf 0 f); rw [lsOf_len] at this; omega
      rw [hz]
      intro μ F w vs hl hgl hf hrs
      have kc := inlT_soundS CD_ok DD_ok kk
      refine (kc μ F w vs hl hgl hf hrs).mono ?_
      rintro e w' ⟨v, s, hp', nx', μ', F', rfl, ⟨st', ⟨rfl, e2, e3⟩, rfl, rfl⟩, k1, k2, k3, k4⟩
      rw [e2] at k1
      rw [e3] at k4
      refine ⟨v, _, _, _, μ', F', rfl, rfl, hpLe_hs (hp := [some (.row 0 1 f), some (.cells [iv q])]) ⟨.inr ⟨_, _, rfl, rfl, .row fun i j hi => absurd hi (Nat.not_lt_zero _)⟩, .inr ⟨_, _, rfl, rfl, .refl _⟩, trivial⟩ k1, k2, k3, k4⟩
    · intro μ F w vs hl hgl hf hrs
      obtain ⟨v, u, rfl, hv, hu⟩ := reps2 hrs
      have hle := delL_len q (lsOf n f)
      rw [lsOf_len] at hle
      obtain ⟨b1, o1, rfl, hm1⟩ := fnArg hu
      rcases rowArg hv with ⟨b, o, cap, rfl, hm, hcap, hz⟩ | ⟨rfl, _⟩
      · have hg : hget [some (Blk.row n 1 f), some (.cells [iv q])] 0 = some (.row n 1 f) := rfl
        have hg1 : hget [some (Blk.row n 1 f), some (.cells [iv q])] 1 = some (.cells [iv q]) := rfl
        have hH := row_holds hl hg hm hI
        obtain ⟨c1, e1, g1, g2, g3, g4⟩ := (hl.blkAt hg1 hm1).1
        have hlt : b1 < w.heap.size := (Array.getElem?_eq_some_iff.1 g1).1
        have hcell : w.cell? ⟨b1, o1, none⟩ = some (.int .i64 q) := by
          have g2 : o1 + 1 ≤ c1.size := g2
          rw [cell_of_heap g1 (by omega)]
          have := g3 0 (by simp)
          exact congrArg some (rep_x (this : Rep w μ F (c1.getD (o1 + 0) undef) (.d (.x (.int .i64 q)))))
        have hne : b1 ≠ b := hl.inj 1 0 _ _ b1 o1 b o (by omega) hg1 hg hm1 hm
        have eg : ∀ args w, (callFunc 82 args).run Tryz.prog w = .ok (.enter 82 args) w := enters_of Tryz.func82 (by kernel_rfl) rfl
        have hp1 : PredAt Tryz.prog 82 #[.pointer (some ⟨b1, o1, none⟩)] (Value.int .i64) (fun x => x == q) w := fun W x hb => gives82 q x b1 o1 W ((hb.cell (p := ⟨b1, o1, none⟩) hlt).trans hcell)
        have hp2 : PredOver Tryz.prog 82 #[.pointer (some ⟨b1, o1, none⟩)] (Value.int .i64) (fun x => x == q) b o (lsOf n f).toArray.size w := fun k os dk x _ => gives82 q x b1 o1 _ (by
          unfold sortWorld
          rw [cell?_grow _ _ _ (by show b1 < (putRow _ _ _ _ _).heap.size; rw [size_putRow]; exact hlt), cell?_putRow_other _ _ b o _ _ (Or.inl hne)]
          exact hcell)
        have hc := Tryz.slices_DeleteFunc (Value.int .i64) (fun _ => rfl) (fun x => x == q) 82 #[.pointer (some ⟨b1, o1, none⟩)] eg 0 Tryz.zeroValue3 b o cap (lsOf n f).toArray w hp1 hp2 hH (by simp [lsOf_len]; omega) (by simp [lsOf_len]; exact hcap)
        have esz : (lsOf n f).toArray.size = n := by simp [lsOf_len]
        rw [esz] at hc
        refine hc.mono ?_
        rintro e w' ⟨rfl, k, rfl⟩
        have ed : ((lsOf n f).toArray.toList.filter fun x => !(x == q)) = delL q (lsOf n f) := rfl
        rw [ed]
        have hs := row_after (zs := delL q (lsOf n f) ++ List.replicate (n - (delL q (lsOf n f)).length) 0) (zm := delL q (lsOf n f)) (q := k) (os := #[]) hl hg hm hI (by rw [List.length_append, List.length_replicate]; omega) hle (fun i hi => by
          rw [List.getD_eq_getElem?_getD, List.getElem?_append_left hi, ← List.getD_eq_getElem?_getD])
        rw [grow_empty] at hs
        exact ⟨_, _, _, _, μ, F, rfl, rfl, hs, row_short hm hcap (Nat.le_trans hz (hs.ext.bsz b)) hle, fun l q h => h, hf⟩
      · exact absurd rfl h0
  · exact hr.elim
noncomputable def selRow : List SV → Heap → Option (List Nat) := fun args hp => match args with
  | [.row l _ _ _ _] => some [l]
  | [.row l _ _ _ _, .fn _ [] [.ptr l2 _]] => some [l, l2]
  | _ => none
noncomputable def mSortC : MCtr := mcB selRow mSort
noncomputable def mCmpC : MCtr := mcB selRow mCmp
noncomputable def mDelC : MCtr := mcB selRow mDel
noncomputable def mu8 : FuncId → Option MCtr := fun k => match k with
  | 59 => some mAllC
  | 60 => some mAddC
  | 63 => some mWirC
  | 79 => some mSortC
  | 80 => some mCmpC
  | 81 => some mDelC
  | _ => none
theorem mu8_ok (k : FuncId) (m : MCtr) (h : mu8 k = some m) : MuOK Tryz.prog k m := by
  unfold mu8 at h
  split at h
  · cases h; exact mAllC_ok
  · cases h; exact mAddC_ok
  · cases h; exact mWirC_ok
  · cases h; exact mcB_ok mSort_ok
  · cases h; exact mcB_ok mCmp_ok
  · cases h; exact mcB_ok mDel_ok
  · cases h
noncomputable def C8 : Ctx := withMu Tryz.prog CB mu8
theorem C8_ok : CtxOK Tryz.prog C8 := withMu_ok CB_ok mu8_ok
noncomputable def D8 : Dr := fun _ => drawn Tryz.prog C8
theorem D8_ok : DrOK Tryz.prog C8 D8 := drawn_ok C8_ok mixed
end Go.Proofs.YtgahnelicbddcaaGreatDoor

namespace Go.Proofs.YtgahnelicbddcaaGreatDoor
open Go.Sx
set_option maxRecDepth 100000
noncomputable def LSrt_q1 (n : Nat) (f : Nat → Nat → DV) (a : Nat) (b : Nat) : DV :=
  DV.x (.int .i64 (List.getD (srtL (lsOf n f)) a (0 : Int)))
noncomputable def LSrt_q2 (n : Nat) (f : Nat → Nat → DV) (a : Nat) (b : Nat) : DV :=
  DV.x (.int .i64 (List.getD (cmpL (lsOf n (LSrt_q1 n f))) a (0 : Int)))
noncomputable def LSrt_q3 (n : Nat) (f : Nat → Nat → DV) (q : Int) (a : Nat) (b : Nat) : DV :=
  DV.x (.int .i64 (List.getD (delL q (lsOf (List.length (cmpL (lsOf n (LSrt_q1 n f)))) (LSrt_q2 n f))) a (0 : Int)))
noncomputable def LSrt (w h t p : Int) (m : Nat) (c : Nat → Nat → DV) (n : Nat) (f : Nat → Nat → DV) (q : Int) : Tree (SV × AS) :=
 .need (n = n ∧ n ≤ 1000000 ∧ IntRow n f)
 (.need (n = List.length (srtL (lsOf n f)) ∧ n ≤ 1000000 ∧ IntRow n (LSrt_q1 n f))
 (.need
 (List.length (cmpL (lsOf n (LSrt_q1 n f))) = List.length (cmpL (lsOf n (LSrt_q1 n f))) ∧
 List.length (cmpL (lsOf n (LSrt_q1 n f))) ≤ 1000000 ∧ IntRow (List.length (cmpL (lsOf n (LSrt_q1 n f)))) (LSrt_q2 n f))
 (.ret
 (SV.row 1 0 0 (List.length (delL q (lsOf (List.length (cmpL (lsOf n (LSrt_q1 n f)))) (LSrt_q2 n f)))) 1,
 {
 tm :=
 [.ok (SV.ptr 0 0), .ok (iv q), .unk, .ok (SV.ptr 2 0),
 .ok (SV.row 1 0 0 (List.length (delL q (lsOf (List.length (cmpL (lsOf n (LSrt_q1 n f)))) (LSrt_q2 n f)))) 1), .ok (SV.ptr 0 0),
 .ok (SV.ptr 0 0), .ok (SV.ptr 0 5), .ok (SV.row 1 0 0 n 1), .ok (SV.tup []), .ok (SV.ptr 0 0),
 .ok (SV.ptr 0 0), .ok (SV.ptr 0 0), .ok (SV.ptr 0 5), .ok (SV.row 1 0 0 n 1),
 .ok (SV.row 1 0 0 (List.length (cmpL (lsOf n (LSrt_q1 n f)))) 1), .ok (SV.ptr 0 0), .ok (SV.ptr 0 5),
 .ok (SV.ptr 0 0), .ok (SV.ptr 0 0), .ok (SV.ptr 0 5),
 .ok (SV.row 1 0 0 (List.length (cmpL (lsOf n (LSrt_q1 n f)))) 1), .ok (SV.fn (Fn.func 82) [] [SV.ptr 2 0]),
 .ok (SV.row 1 0 0 (List.length (delL q (lsOf (List.length (cmpL (lsOf n (LSrt_q1 n f)))) (LSrt_q2 n f)))) 1)],
 hp :=
 [some (.cells [iv w, iv h, iv t, iv p, SV.d (DV.ro m 1 c), SV.row 1 0 0 (List.length (cmpL (lsOf n (LSrt_q1 n f)))) 1]),
 some (.row (List.length (delL q (lsOf (List.length (cmpL (lsOf n (LSrt_q1 n f)))) (LSrt_q2 n f)))) 1 (LSrt_q3 n f q)), some (.cells [iv q]), none, none, none],
 next := 4, hint := .nil }))))

theorem LSrt_eq (w h t p : Int) (m : Nat) (c : Nat → Nat → DV) (n : Nat) (f : Nat → Nat → DV) (q : Int) : inlT Tryz.prog C8 D8 200 64 [.ptr 0 0, iv q] ⟨[], colH w h t p m c n f, 2, .nil⟩ = LSrt w h t p m c n f q := by kernel_rfl


end Go.Proofs.YtgahnelicbddcaaGreatDoor

namespace Go.Proofs.YtgahnelicbddcaaGreatDoor
open Go.Sx
set_option maxRecDepth 100000

def sbL (q : Int) (L : List Int) : List Int := delL q (cmpL (srtL L))
theorem LSrt_e1 (n : Nat) (f : Nat → Nat → DV) : LSrt_q1 n f = cellL (srtL (lsOf n f)) := rfl
theorem lsOf_srt (n : Nat) (f : Nat → Nat → DV) : lsOf n (LSrt_q1 n f) = srtL (lsOf n f) := by
  rw [LSrt_e1]
  have e : n = (srtL (lsOf n f)).length := by unfold srtL; rw [List.length_mergeSort, lsOf_len]
  conv => lhs; arg 1; rw [e]
  exact lsOf_cellL _
theorem LSrt_e2 (n : Nat) (f : Nat → Nat → DV) : LSrt_q2 n f = cellL (cmpL (srtL (lsOf n f))) := by
  have : LSrt_q2 n f = cellL (cmpL (lsOf n (LSrt_q1 n f))) := rfl
  rw [this, lsOf_srt]
theorem LSrt_e3 (n : Nat) (f : Nat → Nat → DV) (q : Int) : LSrt_q3 n f q = cellL (sbL q (lsOf n f)) := by
  have : LSrt_q3 n f q = cellL (delL q (lsOf (cmpL (lsOf n (LSrt_q1 n f))).length (LSrt_q2 n f))) := rfl
  rw [this, LSrt_e2, lsOf_srt, lsOf_cellL]; rfl
noncomputable def mSrt : MCtr := fun args hp nx => match args, hp, nx with
  | [.ptr 0 0, .d (.x (.int .i64 q))], [some (.cells [.d (.x (.int .i64 w)), .d (.x (.int .i64 h)), .d (.x (.int .i64 t)), .d (.x (.int .i64 p)), .d (.ro m 1 c), .row 1 0 0 n 1]), some (.row n' 1 f)], 2 =>
    .need (n = n' ∧ n ≤ 100000 ∧ IntRow n f) (.ret (.row 2 0 0 (sbL q (lsOf n f)).length 1, [none, none, some (.row (sbL q (lsOf n f)).length 1 (cellL (sbL q (lsOf n f))))], 3))
  | _, _, _ => .fail
theorem mSrt_ok : MuOK Tryz.prog 64 mSrt := by
  refine muOK_walk C8_ok D8_ok fun args hp nx r hr => ?_
  unfold mSrt at hr
  split at hr
  · rename_i q w h t p m c n n' f
    obtain ⟨⟨rfl, hn, hI⟩, rfl⟩ := hr
    refine ⟨_, _, 200, .nil, hpLe_refl _, fun _ _ _ _ h => h, ?_⟩
    have kk : Sat Tryz.prog (inlT Tryz.prog C8 D8 200 64 [.ptr 0 0, iv q] ⟨[], colH w h t p m c n f, 2, .nil⟩) fun s => Gc 2 ⟨[.ok s.1], s.2.hp, s.2.next, .nil⟩ ⟨[.ok (.row 2 0 0 (sbL q (lsOf n f)).length 1)], [none, none, some (.row (sbL q (lsOf n f)).length 1 (cellL (sbL q (lsOf n f))))], 3, .nil⟩ := by
      refine Sat.of_eq (LSrt_eq w h t p m c n f q) ?_
      constructor; unfold LSrt
      have e1 : (srtL (lsOf n f)).length = n := by unfold srtL; rw [List.length_mergeSort, lsOf_len]
      have e2 := cmpL_len (srtL (lsOf n f))
      rw [LSrt_e3, LSrt_e2, lsOf_srt, lsOf_cellL]
      refine ⟨⟨rfl, by omega, hI⟩, ⟨e1.symm, by omega, fun i hi => rfl⟩, ⟨rfl, by omega, intRow_cellL _ _⟩, ?_⟩
      exact gcA_sound (n0 := 2) (roots := [(.slot 0, 2)]) (keep := [0]) (drop := [0, 1]) (nx := 3) (h := .nil)
          (s' := ⟨[.ok (.row 2 0 0 (sbL q (lsOf n f)).length 1)], [none, none, some (.row (sbL q (lsOf n f)).length 1 (cellL (sbL q (lsOf n f))))], 3, .nil⟩) (by kernel_rfl)
    exact kk
  · exact hr.elim
noncomputable def mSrtC : MCtr := mcB selCol (nilM mSrt)
theorem mSrtC_ok : MuOK Tryz.prog 64 mSrtC := mcB_ok (nilM_ok mSrt_ok)
noncomputable def mu9 : FuncId → Option MCtr := fun k => match k with
  | 59 => some mAllC
  | 60 => some mAddC
  | 63 => some mWirC
  | 64 => some mSrtC
  | _ => none
theorem mu9_ok (k : FuncId) (m : MCtr) (h : mu9 k = some m) : MuOK Tryz.prog k m := by
  unfold mu9 at h
  split at h
  · cases h; exact mAllC_ok
  · cases h; exact mAddC_ok
  · cases h; exact mWirC_ok
  · cases h; exact mSrtC_ok
  · cases h
noncomputable def C9 : Ctx := withMu Tryz.prog CB mu9
theorem C9_ok : CtxOK Tryz.prog C9 := withMu_ok CB_ok mu9_ok
noncomputable def D9 : Dr := fun _ => drawn Tryz.prog C9
theorem D9_ok : DrOK Tryz.prog C9 D9 := drawn_ok C9_ok mixed
end Go.Proofs.YtgahnelicbddcaaGreatDoor

namespace Go.Proofs.YtgahnelicbddcaaGreatDoor
open Go.Sx Go.Lib
set_option maxRecDepth 100000

abbrev Inc (L : List Int) : Prop := L.Pairwise (· < ·)
theorem inc_ext : ∀ {A B : List Int}, Inc A → Inc B → (∀ x, x ∈ A ↔ x ∈ B) → A = B
  | [], [], _, _, _ => rfl
  | [], b :: B, _, _, h => absurd ((h b).2 (List.mem_cons_self)) (by simp)
  | a :: A, [], _, _, h => absurd ((h a).1 (List.mem_cons_self)) (by simp)
  | a :: A, b :: B, hA, hB, h => by
    rw [Inc, List.pairwise_cons] at hA hB
    have h1 : a = b := by
      rcases List.mem_cons.1 ((h a).1 List.mem_cons_self) with h1 | h1
      · exact h1
      · rcases List.mem_cons.1 ((h b).2 List.mem_cons_self) with h2 | h2
        · exact h2.symm
        · have := hA.1 b h2; have := hB.1 a h1; omega
    subst h1
    rw [inc_ext hA.2 hB.2 fun x => ⟨fun hx => ?_, fun hx => ?_⟩]
    · rcases List.mem_cons.1 ((h x).1 (List.mem_cons_of_mem _ hx)) with h2 | h2
      · have := hA.1 x hx; omega
      · exact h2
    · rcases List.mem_cons.1 ((h x).2 (List.mem_cons_of_mem _ hx)) with h2 | h2
      · have := hB.1 x hx; omega
      · exact h2
theorem cmp_upTo {d : Array Int} (hs : ∀ i j, i ≤ j → j < d.size → d[i]! ≤ d[j]!) : ∀ m, m ≤ d.size → Inc (compactUpTo d m) ∧ (∀ x, x ∈ compactUpTo d m ↔ ∃ i, i < m ∧ d[i]! = x)
  | 0, _ => by simp [compactUpTo, Inc]
  | m + 1, hm => by
    obtain ⟨h1, h2⟩ := cmp_upTo hs m (by omega)
    rw [compactUpTo_succ]
    by_cases hk : keeps d m = true
    · rw [if_pos hk]
      refine ⟨?_, fun x => ?_⟩
      · rw [Inc, List.pairwise_append]
        refine ⟨h1, List.pairwise_singleton _ _, fun a ha b hb => ?_⟩
        rw [List.mem_singleton] at hb; subst hb
        obtain ⟨i, hi, rfl⟩ := (h2 a).1 ha
        simp only [keeps, decide_eq_true_eq] at hk
        rcases hk with hk | hk
        · omega
        · have e1 := hs i (m - 1) (by omega) (by omega)
          have e2 := hs (m - 1) m (by omega) (by omega)
          omega
      · rw [List.mem_append, h2, List.mem_singleton]
        constructor
        · rintro (⟨i, hi, e⟩ | rfl)
          · exact ⟨i, by omega, e⟩
          · exact ⟨m, by omega, rfl⟩
        · rintro ⟨i, hi, e⟩
          by_cases him : i = m
          · subst him; exact .inr e.symm
          · exact .inl ⟨i, by omega, e⟩
    · rw [if_neg hk, List.append_nil]
      refine ⟨h1, fun x => ?_⟩
      rw [h2]
      simp only [keeps, decide_eq_true_eq, not_or, Classical.not_not] at hk
      constructor
      · rintro ⟨i, hi, e⟩; exact ⟨i, by omega, e⟩
      · rintro ⟨i, hi, e⟩
        by_cases him : i = m
        · subst him; exact ⟨i - 1, by omega, by rw [← hk.2]; exact e⟩
        · exact ⟨i, by omega, e⟩
theorem srt_get (L : List Int) : ∀ i j, i ≤ j → j < (srtL L).toArray.size → (srtL L).toArray[i]! ≤ (srtL L).toArray[j]! := by
  intro i j hij hj
  have hp : (srtL L).Pairwise (fun a b => decide (a ≤ b) = true) := List.pairwise_mergeSort (fun a b c h1 h2 => by simp at *; omega) (fun a b => by simp; omega) L
  have hj' : j < (srtL L).length := by simpa using hj
  rw [getElem!_pos _ i (by simp; omega), getElem!_pos _ j hj]
  simp only [List.getElem_toArray]
  rcases Nat.lt_or_ge i j with h | h
  · have := List.pairwise_iff_getElem.1 hp i j (by omega) hj' h
    simpa using this
  · obtain rfl : i = j := by omega
    exact Int.le_refl _
theorem sb_spec (q : Int) (L : List Int) : Inc (sbL q L) ∧ ∀ x, x ∈ sbL q L ↔ x ∈ L ∧ x ≠ q := by
  have hl : (srtL L).toArray.size = (srtL L).length := by simp
  obtain ⟨h1, h2⟩ := cmp_upTo (srt_get L) (srtL L).length (by rw [hl]; exact Nat.le_refl _)
  have hm : ∀ x, x ∈ cmpL (srtL L) ↔ x ∈ L := by
    intro x
    have : cmpL (srtL L) = compactUpTo (srtL L).toArray (srtL L).length := rfl
    rw [this, h2]
    have hms : x ∈ srtL L ↔ x ∈ L := by unfold srtL; exact List.mem_mergeSort
    rw [← hms, List.mem_iff_getElem]
    constructor
    · rintro ⟨i, hi, e⟩
      rw [getElem!_pos _ i (by simpa using hi)] at e
      exact ⟨i, hi, by simpa using e⟩
    · rintro ⟨i, hi, e⟩
      exact ⟨i, hi, by rw [getElem!_pos _ i (by simpa using hi)]; simpa using e⟩
  unfold sbL delL
  refine ⟨List.Pairwise.filter _ h1, fun x => ?_⟩
  rw [List.mem_filter, hm]
  simp
theorem inc_upTo (n : Nat) : Inc (upTo n) := by
  unfold upTo
  rw [Inc, List.pairwise_map]
  refine List.Pairwise.imp ?_ (List.pairwise_lt_range)
  intro a b h; omega
theorem mem_upTo {n : Nat} {x : Int} : x ∈ upTo n ↔ 0 ≤ x ∧ x < n := by
  unfold upTo
  rw [List.mem_map]
  constructor
  · rintro ⟨k, hk, rfl⟩
    have := List.mem_range.1 hk; omega
  · intro h
    exact ⟨x.toNat, List.mem_range.2 (by omega), by omega⟩

structure NdF (w h t p a : Int) : Prop where
  ok : (gK w h t p a = 6 ∧ gX w h t p a = -1 ∧ 0 ≤ gI w h t p a ∧ gI w h t p a < p ∧ gY w h t p a = gI w h t p a % h) ∨
    (gK w h t p a = 7 ∧ gX w h t p a = w ∧ 0 ≤ gI w h t p a ∧ gI w h t p a < p ∧ gY w h t p a = gI w h t p a % h) ∨
    ((0 ≤ gX w h t p a ∧ gX w h t p a < w ∧ 0 ≤ gY w h t p a ∧ gY w h t p a < h) ∧ (((gK w h t p a = 1 ∨ gK w h t p a = 2) ∧ gI w h t p a = 0) ∨ (gK w h t p a = 3 ∧ 0 ≤ gI w h t p a ∧ gI w h t p a < 4) ∨ ((gK w h t p a = 4 ∨ gK w h t p a = 5) ∧ 0 ≤ gI w h t p a ∧ gI w h t p a < t)))
theorem gr_c {w h t p : Int} (hg : okG w h t p) : ((gr w h t p).W : Int) = w ∧ ((gr w h t p).H : Int) = h ∧ ((gr w h t p).T : Int) = t ∧ ((gr w h t p).P : Int) = p := by
  obtain ⟨⟨a1, a2⟩, ⟨b1, b2⟩, ⟨c1, c2⟩, d1, d2⟩ := hg
  unfold gr; simp only; omega
theorem ndF {w h t p a : Int} (hg : okG w h t p) (h0 : 0 ≤ a) (h1 : a < (gr w h t p).cnt) : NdF w h t p a := by
  obtain ⟨e1, e2⟩ := dsc_ok hg.gr h0 h1
  obtain ⟨g1, g2, g3, g4⟩ := gr_c hg
  unfold OkS at e1
  rw [g1, g2, g3, g4] at e1
  exact ⟨e1⟩
theorem ndL_rng {w h t p k x y i a : Int} (hg : okG w h t p) (hm : a ∈ ndL w h t p k x y i) : 0 ≤ a ∧ a < (gr w h t p).cnt := by
  unfold ndL gF ndE gM ndN at hm
  by_cases ho : OkS (gr w h t p) ⟨k, x, y, i⟩
  · rw [if_pos ho, if_pos rfl, if_pos ho, List.mem_singleton] at hm
    subst hm
    exact (num_ok hg.gr ho).1
  · rw [if_neg ho, if_neg (by omega)] at hm; cases hm
theorem mem_nd {w h t p k x y i a : Int} (hg : okG w h t p) (h0 : 0 ≤ a) (h1 : a < (gr w h t p).cnt) : a ∈ ndL w h t p k x y i ↔ gK w h t p a = k ∧ gX w h t p a = x ∧ gY w h t p a = y ∧ gI w h t p a = i := by
  obtain ⟨e1, e2⟩ := dsc_ok hg.gr h0 h1
  unfold ndL gF ndE gM ndN gK gX gY gI
  constructor
  · intro hm
    by_cases ho : OkS (gr w h t p) ⟨k, x, y, i⟩
    · rw [if_pos ho, if_pos rfl, if_pos ho, List.mem_singleton] at hm
      have := (num_ok hg.gr ho).2
      rw [← hm] at this
      rw [this]; exact ⟨rfl, rfl, rfl, rfl⟩
    · rw [if_neg ho, if_neg (by omega)] at hm; cases hm
  · rintro ⟨rfl, rfl, rfl, rfl⟩
    have : (⟨(dsc (gr w h t p) a).k, (dsc (gr w h t p) a).x, (dsc (gr w h t p) a).y, (dsc (gr w h t p) a).i⟩ : Spt) = dsc (gr w h t p) a := rfl
    rw [this, if_pos e1, if_pos rfl, if_pos e1, e2]
    exact List.mem_singleton_self a
theorem wirL_rng {w h t p x y r a : Int} (hg : okG w h t p) (hm : a ∈ wirL w h t p x y r) : 0 ≤ a ∧ a < (gr w h t p).cnt := by
  unfold wirL at hm
  split at hm
  · cases hm
  · simp only [List.mem_append] at hm
    rcases hm with ((hm | hm) | hm) | hm <;> exact ndL_rng hg hm
theorem mem_wir {w h t p x y r a : Int} (hg : okG w h t p) (h0 : 0 ≤ a) (h1 : a < (gr w h t p).cnt) : a ∈ wirL w h t p x y r ↔ (0 ≤ x ∧ x < w ∧ 0 ≤ y ∧ y < h) ∧ gI w h t p a = r ∧
    ((gK w h t p a = 4 ∧ gX w h t p a = x ∧ gY w h t p a = y) ∨ (gK w h t p a = 5 ∧ gX w h t p a = x ∧ gY w h t p a = y) ∨ (gK w h t p a = 4 ∧ gX w h t p a = x - 1 ∧ gY w h t p a = y) ∨ (gK w h t p a = 5 ∧ gX w h t p a = x ∧ gY w h t p a = y - 1)) := by
  unfold wirL
  split
  · rename_i h2
    constructor
    · intro h; cases h
    · rintro ⟨h3, _⟩; omega
  · rename_i h2
    simp only [List.mem_append, mem_nd hg h0 h1]
    omega
theorem allL_rng {w h t p x y a : Int} (hg : okG w h t p) {j : Nat} (hm : a ∈ allL w h t p x y j) : 0 ≤ a ∧ a < (gr w h t p).cnt := by
  unfold allL at hm
  obtain ⟨r, _, hm⟩ := List.mem_flatMap.1 hm
  exact wirL_rng hg hm
theorem mem_all {w h t p x y a : Int} (hg : okG w h t p) (h0 : 0 ≤ a) (h1 : a < (gr w h t p).cnt) : a ∈ allL w h t p x y t.toNat ↔ (0 ≤ x ∧ x < w ∧ 0 ≤ y ∧ y < h) ∧
    ((gK w h t p a = 4 ∧ gX w h t p a = x ∧ gY w h t p a = y) ∨ (gK w h t p a = 5 ∧ gX w h t p a = x ∧ gY w h t p a = y) ∨ (gK w h t p a = 4 ∧ gX w h t p a = x - 1 ∧ gY w h t p a = y) ∨ (gK w h t p a = 5 ∧ gX w h t p a = x ∧ gY w h t p a = y - 1)) := by
  unfold allL
  rw [List.mem_flatMap]
  have hf := (ndF hg h0 h1).ok
  constructor
  · rintro ⟨r, _, h⟩
    have := (mem_wir hg h0 h1).1 h
    exact ⟨this.1, this.2.2⟩
  · rintro ⟨h2, h3⟩
    refine ⟨(gI w h t p a).toNat, List.mem_range.2 ?_, (mem_wir hg h0 h1).2 ⟨h2, ?_, h3⟩⟩
    · omega
    · omega
theorem padF_rng {w h t p kd X y a : Int} (hg : okG w h t p) : ∀ {f : Nat} {k : Int}, a ∈ padF w h t p kd X y f k → 0 ≤ a ∧ a < (gr w h t p).cnt
  | 0, _, hm => by cases hm
  | f + 1, k, hm => by
    unfold padF at hm
    split at hm
    · rcases List.mem_append.1 hm with hm | hm
      · exact ndL_rng hg hm
      · exact padF_rng hg hm
    · cases hm
theorem mem_padF {w h t p kd X y a : Int} (hg : okG w h t p) (h0 : 0 ≤ a) (h1 : a < (gr w h t p).cnt) : ∀ {f : Nat} {k : Int}, p ≤ k + f → (a ∈ padF w h t p kd X y f k ↔ gK w h t p a = kd ∧ gX w h t p a = X ∧ gY w h t p a = y ∧ gI w h t p a < p ∧ ∃ r : Nat, gI w h t p a = k + r * h)
  | 0, k, hk => by
    constructor
    · intro h; cases h
    · rintro ⟨_, _, _, h2, r, h3⟩
      have hh : 1 ≤ h := hg.2.1.1
      have : 0 ≤ (r : Int) * h := Int.mul_nonneg (by omega) (by omega)
      omega
  | f + 1, k, hk => by
    have hh : 1 ≤ h := hg.2.1.1
    unfold padF
    split
    · rename_i h2
      rw [List.mem_append, mem_nd hg h0 h1, mem_padF hg h0 h1 (f := f) (k := k + h) (by omega)]
      constructor
      · rintro (⟨a1, a2, a3, a4⟩ | ⟨a1, a2, a3, a4, r, a5⟩)
        · exact ⟨a1, a2, a3, by omega, 0, by simp [a4]⟩
        · exact ⟨a1, a2, a3, a4, r + 1, by rw [a5, Int.natCast_add, Int.add_mul]; omega⟩
      · rintro ⟨a1, a2, a3, a4, r, a5⟩
        cases r with
        | zero => exact .inl ⟨a1, a2, a3, by simpa using a5⟩
        | succ r => exact .inr ⟨a1, a2, a3, a4, r, by rw [a5, Int.natCast_add, Int.add_mul]; omega⟩
    · rename_i h2
      constructor
      · intro h; cases h
      · rintro ⟨_, _, _, h3, r, h4⟩
        have : 0 ≤ (r : Int) * h := Int.mul_nonneg (by omega) (by omega)
        omega
theorem mem_pad {w h t p kd X y a : Int} (hg : okG w h t p) (h0 : 0 ≤ a) (h1 : a < (gr w h t p).cnt) (hy : 0 ≤ y ∧ y < h) (hk : kd = 6 ∨ kd = 7) {b : Bool} : a ∈ padL w h t p kd X y b ↔ b = true ∧ gK w h t p a = kd ∧ gX w h t p a = X ∧ gY w h t p a = y := by
  have hp : p ≤ 64 := hg.2.2.2.2
  have hf := (ndF hg h0 h1).ok
  unfold padL
  cases b with
  | false => simp
  | true =>
    simp only [if_true, true_and]
    rw [mem_padF hg h0 h1 (f := 65) (k := y) (by omega)]
    constructor
    · rintro ⟨a1, a2, a3, _⟩; exact ⟨a1, a2, a3⟩
    · rintro ⟨a1, a2, a3⟩
      have h5 : gI w h t p a < p ∧ 0 ≤ gI w h t p a ∧ gY w h t p a = gI w h t p a % h := by omega
      refine ⟨a1, a2, a3, h5.1, (gI w h t p a / h).toNat, ?_⟩
      have e1 := Int.emod_add_mul_ediv (gI w h t p a) h
      have e2 : 0 ≤ gI w h t p a / h := Int.ediv_nonneg h5.2.1 (by omega)
      rw [Int.toNat_of_nonneg e2, ← a3, h5.2.2, Int.mul_comm]; omega
theorem padL_rng {w h t p kd X y a : Int} (hg : okG w h t p) {b : Bool} (hm : a ∈ padL w h t p kd X y b) : 0 ≤ a ∧ a < (gr w h t p).cnt := by
  unfold padL at hm
  split at hm
  · exact padF_rng hg hm
  · cases hm
end Go.Proofs.YtgahnelicbddcaaGreatDoor

namespace Go.Proofs.YtgahnelicbddcaaGreatDoor
open Go.Sx
set_option maxRecDepth 100000

def adjP (w h k x y u v : Int) : Prop := (0 ≤ u ∧ u < w ∧ 0 ≤ v ∧ v < h) ∧ (((k = 4 ∨ k = 5) ∧ x = u ∧ y = v) ∨ (k = 4 ∧ x + 1 = u ∧ y = v) ∨ (k = 5 ∧ x = u ∧ y + 1 = v))
theorem adjB_iff (w h k x y u v : Int) : adjB w h k x y u v = true ↔ adjP w h k x y u v := by
  unfold adjB adjP
  simp only [Bool.and_eq_true, Bool.or_eq_true, Bool.not_eq_true', Bool.or_eq_false_iff, decide_eq_false_iff_not, beq_iff_eq]
  omega
def canP (w h k x y i k' x' y' i' : Int) : Prop :=
  (k = 1 ∧ (adjP w h k' x' y' x y ∨ (k' = 3 ∧ i' = 3 ∧ x' = x ∧ y' = y + 1))) ∨ (k = 2 ∧ adjP w h k' x' y' x y) ∨ (k = 6 ∧ adjP w h k' x' y' 0 y) ∨
  ((k = 4 ∨ k = 5) ∧ (((k' = 4 ∨ k' = 5) ∧ ¬ (k = k' ∧ x = x' ∧ y = y' ∧ i = i') ∧ i = i' ∧ (adjP w h k' x' y' x y ∨ (k = 4 ∧ adjP w h k' x' y' (x + 1) y) ∨ (k = 5 ∧ adjP w h k' x' y' x (y + 1)))) ∨
    (¬ (k' = 4 ∨ k' = 5) ∧ ((k' = 3 ∧ adjP w h k x y x' y') ∨ (k' = 7 ∧ adjP w h k x y (w - 1) y')))))
theorem canB_iff (w h k x y i k' x' y' i' : Int) : canB w h k x y i k' x' y' i' = true ↔ canP w h k x y i k' x' y' i' := by
  unfold canB canP
  by_cases k1 : k = 1
  · subst k1
    simp only [if_true, Bool.or_eq_true, Bool.and_eq_true, beq_iff_eq, adjB_iff]
    generalize adjP w h k' x' y' x y = A
    constructor
    · rintro (h | ⟨⟨⟨h1, h2⟩, h3⟩, h4⟩)
      · exact .inl ⟨trivial, .inl h⟩
      · exact .inl ⟨trivial, .inr ⟨h1, h2, h3, h4⟩⟩
    · rintro (⟨_, h | ⟨h1, h2, h3, h4⟩⟩ | ⟨h, _⟩ | ⟨h, _⟩ | ⟨h, _⟩)
      · exact .inl h
      · exact .inr ⟨⟨⟨h1, h2⟩, h3⟩, h4⟩
      all_goals exact absurd h (by omega)
  by_cases k2 : k = 2
  · subst k2
    simp [adjB_iff]
  by_cases k6 : k = 6
  · subst k6
    simp [adjB_iff]
  by_cases k4 : k = 4 ∨ k = 5
  · rw [if_neg k1, if_neg k2, if_neg k6, if_pos k4]
    by_cases j4 : k' = 4 ∨ k' = 5
    · rw [if_pos j4]
      simp only [Bool.or_eq_true, Bool.and_eq_true, Bool.not_eq_true', Bool.and_true, beq_iff_eq, adjB_iff, ← Bool.not_eq_true, k1, k2, k6, k4, j4, false_and, false_or, true_and, not_true, or_false]
      generalize adjP w h k' x' y' x y = A
      generalize adjP w h k' x' y' (x + 1) y = B
      generalize adjP w h k' x' y' x (y + 1) = C
      constructor
      · rintro ⟨⟨h1, h2⟩, (h3 | h3) | h3⟩
        · exact ⟨h1, h2, .inl h3⟩
        · exact ⟨h1, h2, .inr (.inl h3)⟩
        · exact ⟨h1, h2, .inr (.inr h3)⟩
      · rintro ⟨h1, h2, h3 | h3 | h3⟩
        · exact ⟨⟨h1, h2⟩, .inl (.inl h3)⟩
        · exact ⟨⟨h1, h2⟩, .inl (.inr h3)⟩
        · exact ⟨⟨h1, h2⟩, .inr h3⟩
    · rw [if_neg j4]
      simp only [Bool.or_eq_true, Bool.and_eq_true, beq_iff_eq, adjB_iff, k1, k2, k6, k4, j4, false_and, false_or, true_and, not_false_eq_true]
  · rw [if_neg k1, if_neg k2, if_neg k6, if_neg k4]
    simp only [k1, k2, k6, k4, false_and, or_self, Bool.false_eq_true]
def drvL (w h t p n : Int) : List Int :=
  if gK w h t p n = 3 then allL w h t p (gX w h t p n) (gY w h t p n) t.toNat ++ (if gI w h t p n = 3 then ndL w h t p 1 (gX w h t p n) (gY w h t p n - 1) 0 else [])
  else if gK w h t p n = 7 then allL w h t p (w - 1) (gY w h t p n) t.toNat
  else if gK w h t p n = 4 then cloD w h t p (gI w h t p n) (gX w h t p n) (gY w h t p n) ++ (if gX w h t p n + 1 < w ∧ gY w h t p n < h then cloD w h t p (gI w h t p n) (gX w h t p n + 1) (gY w h t p n) else [])
  else if gK w h t p n = 5 then cloD w h t p (gI w h t p n) (gX w h t p n) (gY w h t p n) ++ (if gX w h t p n < w ∧ gY w h t p n + 1 < h then cloD w h t p (gI w h t p n) (gX w h t p n) (gY w h t p n + 1) else [])
  else []
def dvnL (w h t p n : Int) : List Int :=
  if gK w h t p n = 1 then allL w h t p (gX w h t p n) (gY w h t p n) t.toNat ++ ndL w h t p 3 (gX w h t p n) (gY w h t p n + 1) 3
  else if gK w h t p n = 2 then allL w h t p (gX w h t p n) (gY w h t p n) t.toNat
  else if gK w h t p n = 6 then allL w h t p 0 (gY w h t p n) t.toNat
  else if gK w h t p n = 4 then cloN w h t p (gI w h t p n) (gX w h t p n) (gY w h t p n) ++ (if gX w h t p n + 1 < w ∧ gY w h t p n < h then cloN w h t p (gI w h t p n) (gX w h t p n + 1) (gY w h t p n) else [])
  else if gK w h t p n = 5 then cloN w h t p (gI w h t p n) (gX w h t p n) (gY w h t p n) ++ (if gX w h t p n < w ∧ gY w h t p n + 1 < h then cloN w h t p (gI w h t p n) (gX w h t p n) (gY w h t p n + 1) else [])
  else []
theorem cloD_rng {w h t p i x y a : Int} (hg : okG w h t p) (hm : a ∈ cloD w h t p i x y) : 0 ≤ a ∧ a < (gr w h t p).cnt := by
  unfold cloD at hm
  simp only [List.mem_append] at hm
  rcases hm with ((hm | hm) | hm) | hm
  · exact ndL_rng hg hm
  · exact ndL_rng hg hm
  · exact wirL_rng hg hm
  · exact padL_rng hg hm
theorem pinL_rng {w h t p x y a : Int} (hg : okG w h t p) : ∀ {j : Nat}, a ∈ pinL w h t p x y j → 0 ≤ a ∧ a < (gr w h t p).cnt
  | 0, hm => by cases hm
  | j + 1, hm => by
    unfold pinL at hm
    rcases List.mem_append.1 hm with hm | hm
    · exact pinL_rng hg hm
    · exact ndL_rng hg hm
theorem cloN_rng {w h t p i x y a : Int} (hg : okG w h t p) (hm : a ∈ cloN w h t p i x y) : 0 ≤ a ∧ a < (gr w h t p).cnt := by
  unfold cloN at hm
  simp only [List.mem_append] at hm
  rcases hm with (hm | hm) | hm
  · exact pinL_rng hg hm
  · exact wirL_rng hg hm
  · exact padL_rng hg hm
theorem mem_pin {w h t p x y a : Int} (hg : okG w h t p) (h0 : 0 ≤ a) (h1 : a < (gr w h t p).cnt) : ∀ {j : Nat}, a ∈ pinL w h t p x y j ↔ gK w h t p a = 3 ∧ gX w h t p a = x ∧ gY w h t p a = y ∧ 0 ≤ gI w h t p a ∧ gI w h t p a < j
  | 0 => by
    constructor
    · intro hm; cases hm
    · rintro ⟨_, _, _, _, _⟩; omega
  | j + 1 => by
    unfold pinL
    rw [List.mem_append, mem_pin hg h0 h1 (j := j), mem_nd hg h0 h1]
    omega
theorem ite_rng {P : Prop} [Decidable P] {A : List Int} {a : Int} {Q : Prop} (hA : a ∈ A → Q) (hm : a ∈ (if P then A else [])) : Q := by
  split at hm
  · exact hA hm
  · cases hm
theorem drvL_rng {w h t p n a : Int} (hg : okG w h t p) (hm : a ∈ drvL w h t p n) : 0 ≤ a ∧ a < (gr w h t p).cnt := by
  unfold drvL at hm
  split at hm
  · rcases List.mem_append.1 hm with hm | hm
    · exact allL_rng hg hm
    · exact ite_rng (ndL_rng hg) hm
  split at hm
  · exact allL_rng hg hm
  split at hm
  · rcases List.mem_append.1 hm with hm | hm
    · exact cloD_rng hg hm
    · exact ite_rng (cloD_rng hg) hm
  split at hm
  · rcases List.mem_append.1 hm with hm | hm
    · exact cloD_rng hg hm
    · exact ite_rng (cloD_rng hg) hm
  · cases hm
theorem dvnL_rng {w h t p n a : Int} (hg : okG w h t p) (hm : a ∈ dvnL w h t p n) : 0 ≤ a ∧ a < (gr w h t p).cnt := by
  unfold dvnL at hm
  split at hm
  · rcases List.mem_append.1 hm with hm | hm
    · exact allL_rng hg hm
    · exact ndL_rng hg hm
  split at hm
  · exact allL_rng hg hm
  split at hm
  · exact allL_rng hg hm
  split at hm
  · rcases List.mem_append.1 hm with hm | hm
    · exact cloN_rng hg hm
    · exact ite_rng (cloN_rng hg) hm
  split at hm
  · rcases List.mem_append.1 hm with hm | hm
    · exact cloN_rng hg hm
    · exact ite_rng (cloN_rng hg) hm
  · cases hm
theorem mem_ite {P : Prop} [Decidable P] {A : List Int} {a : Int} : a ∈ (if P then A else []) ↔ P ∧ a ∈ A := by
  split
  · rename_i hp; simp [hp]
  · rename_i hp; simp [hp]
theorem mem_cloD {w h t p i x y a : Int} (hg : okG w h t p) (h0 : 0 ≤ a) (h1 : a < (gr w h t p).cnt) (hy : 0 ≤ y ∧ y < h) : a ∈ cloD w h t p i x y ↔
    (gK w h t p a = 1 ∧ gX w h t p a = x ∧ gY w h t p a = y ∧ gI w h t p a = 0) ∨ (gK w h t p a = 2 ∧ gX w h t p a = x ∧ gY w h t p a = y ∧ gI w h t p a = 0) ∨
    ((0 ≤ x ∧ x < w ∧ 0 ≤ y ∧ y < h) ∧ gI w h t p a = i ∧
    ((gK w h t p a = 4 ∧ gX w h t p a = x ∧ gY w h t p a = y) ∨ (gK w h t p a = 5 ∧ gX w h t p a = x ∧ gY w h t p a = y) ∨ (gK w h t p a = 4 ∧ gX w h t p a = x - 1 ∧ gY w h t p a = y) ∨ (gK w h t p a = 5 ∧ gX w h t p a = x ∧ gY w h t p a = y - 1))) ∨
    (x = 0 ∧ gK w h t p a = 6 ∧ gX w h t p a = -1 ∧ gY w h t p a = y) := by
  unfold cloD
  simp only [List.mem_append, mem_nd hg h0 h1, mem_wir hg h0 h1, mem_pad hg h0 h1 hy (.inl rfl), beq_iff_eq, or_assoc]
theorem mem_cloN {w h t p i x y a : Int} (hg : okG w h t p) (h0 : 0 ≤ a) (h1 : a < (gr w h t p).cnt) (hy : 0 ≤ y ∧ y < h) : a ∈ cloN w h t p i x y ↔
    (gK w h t p a = 3 ∧ gX w h t p a = x ∧ gY w h t p a = y ∧ 0 ≤ gI w h t p a ∧ gI w h t p a < (4 : Nat)) ∨
    ((0 ≤ x ∧ x < w ∧ 0 ≤ y ∧ y < h) ∧ gI w h t p a = i ∧
    ((gK w h t p a = 4 ∧ gX w h t p a = x ∧ gY w h t p a = y) ∨ (gK w h t p a = 5 ∧ gX w h t p a = x ∧ gY w h t p a = y) ∨ (gK w h t p a = 4 ∧ gX w h t p a = x - 1 ∧ gY w h t p a = y) ∨ (gK w h t p a = 5 ∧ gX w h t p a = x ∧ gY w h t p a = y - 1))) ∨
    (x = w - 1 ∧ gK w h t p a = 7 ∧ gX w h t p a = w ∧ gY w h t p a = y) := by
  unfold cloN
  simp only [List.mem_append, mem_pin hg h0 h1, mem_wir hg h0 h1, mem_pad hg h0 h1 hy (.inr rfl), beq_iff_eq, or_assoc]
theorem emod_B {h i : Int} (hh : 1 ≤ h) : 0 ≤ i % h ∧ i % h < h := ⟨Int.emod_nonneg _ (by omega), Int.emod_lt_of_pos _ (by omega)⟩
theorem node_ne {w h t p a n : Int} (hg : okG w h t p) (h0 : 0 ≤ a) (h1 : a < (gr w h t p).cnt) (h2 : 0 ≤ n) (h3 : n < (gr w h t p).cnt) : a ≠ n ↔ ¬ (gK w h t p a = gK w h t p n ∧ gX w h t p a = gX w h t p n ∧ gY w h t p a = gY w h t p n ∧ gI w h t p a = gI w h t p n) := by
  constructor
  · rintro hne ⟨e1, e2, e3, e4⟩
    exact hne (dsc_inj hg.gr h0 h1 h2 h3 (Spt.ext' e1 e2 e3 e4))
  · rintro hne rfl; exact hne ⟨rfl, rfl, rfl, rfl⟩
theorem fin_split {w h t p ak ax ay ai : Int} {G : Prop} (fa : (ak = 6 ∧ ax = -1 ∧ 0 ≤ ai ∧ ai < p ∧ ay = ai % h) ∨ (ak = 7 ∧ ax = w ∧ 0 ≤ ai ∧ ai < p ∧ ay = ai % h) ∨
    ((0 ≤ ax ∧ ax < w ∧ 0 ≤ ay ∧ ay < h) ∧ (((ak = 1 ∨ ak = 2) ∧ ai = 0) ∨ (ak = 3 ∧ 0 ≤ ai ∧ ai < 4) ∨ ((ak = 4 ∨ ak = 5) ∧ 0 ≤ ai ∧ ai < t)))) (hh : 1 ≤ h)
    (h6 : ak = 6 → ax = -1 → 0 ≤ ay → ay < h → G) (h7 : ak = 7 → ax = w → 0 ≤ ay → ay < h → G) (hi : (0 ≤ ax ∧ ax < w ∧ 0 ≤ ay ∧ ay < h) → (ak = 1 → ai = 0 → G) ∧ (ak = 2 → ai = 0 → G) ∧ (ak = 3 → 0 ≤ ai → ai < 4 → G) ∧ (ak = 4 → 0 ≤ ai → ai < t → G) ∧ (ak = 5 → 0 ≤ ai → ai < t → G)) : G := by
  have hm := emod_B (i := ai) hh
  rcases fa with ⟨a1, a2, a3, a4, a5⟩ | ⟨a1, a2, a3, a4, a5⟩ | ⟨a1, (⟨a2 | a2, a3⟩ | ⟨a2, a3, a4⟩ | ⟨a2 | a2, a3, a4⟩)⟩
  · exact h6 a1 a2 (by omega) (by omega)
  · exact h7 a1 a2 (by omega) (by omega)
  · exact (hi a1).1 a2 a3
  · exact (hi a1).2.1 a2 a3
  · exact (hi a1).2.2.1 a2 a3 a4
  · exact (hi a1).2.2.2.1 a2 a3 a4
  · exact (hi a1).2.2.2.2 a2 a3 a4
theorem mem_drv {w h t p a n : Int} (hg : okG w h t p) (h0 : 0 ≤ a) (h1 : a < (gr w h t p).cnt) (h2 : 0 ≤ n) (h3 : n < (gr w h t p).cnt) : (a ∈ drvL w h t p n ∧ a ≠ n) ↔ canN w h t p a n = true := by
  unfold canN
  rw [canB_iff, node_ne hg h0 h1 h2 h3]
  have fa := (ndF hg h0 h1).ok
  have fn := (ndF hg h2 h3).ok
  have hh : 1 ≤ h := hg.2.1.1
  have hw := hg.1
  unfold drvL canP adjP
  refine fin_split fn hh (fun k1 k2 k3 k4 => ?_) (fun k1 k2 k3 k4 => ?_) (fun k0 => ⟨fun k1 k2 => ?_, fun k1 k2 => ?_, fun k1 k2 k3 => ?_, fun k1 k2 k3 => ?_, fun k1 k2 k3 => ?_⟩)
  · simp only [k1, Int.reduceEq, if_false, List.not_mem_nil, false_and, and_false, or_false, false_or, false_iff]
  · simp only [k1, Int.reduceEq, if_false, if_true, mem_all hg h0 h1]
    generalize gK w h t p a = ak, gX w h t p a = ax, gY w h t p a = ay, gI w h t p a = ai, gX w h t p n = nx, gY w h t p n = ny, gI w h t p n = ni at *
    refine fin_split fa hh (fun j1 j2 j3 j4 => ?_) (fun j1 j2 j3 j4 => ?_) (fun j0 => ⟨fun j1 j2 => ?_, fun j1 j2 => ?_, fun j1 j2 j3 => ?_, fun j1 j2 j3 => ?_, fun j1 j2 j3 => ?_⟩) <;> simp only [j1, Int.reduceEq, true_and, and_true, false_and, and_false, or_false, false_or, true_or, or_true, not_true, not_false_eq_true] <;> omega
  · simp only [k1, Int.reduceEq, if_false, List.not_mem_nil, false_and, and_false, or_false, false_or, false_iff]
  · simp only [k1, Int.reduceEq, if_false, List.not_mem_nil, false_and, and_false, or_false, false_or, false_iff]
  · simp only [k1, Int.reduceEq, if_false, if_true, List.mem_append, mem_all hg h0 h1, mem_ite, mem_nd hg h0 h1]
    generalize gK w h t p a = ak, gX w h t p a = ax, gY w h t p a = ay, gI w h t p a = ai, gX w h t p n = nx, gY w h t p n = ny, gI w h t p n = ni at *
    refine fin_split fa hh (fun j1 j2 j3 j4 => ?_) (fun j1 j2 j3 j4 => ?_) (fun j0 => ⟨fun j1 j2 => ?_, fun j1 j2 => ?_, fun j1 j2 j3 => ?_, fun j1 j2 j3 => ?_, fun j1 j2 j3 => ?_⟩) <;> simp only [j1, Int.reduceEq, true_and, and_true, false_and, and_false, or_false, false_or, true_or, or_true, not_true, not_false_eq_true] <;> omega
  · simp only [k1, Int.reduceEq, if_false, if_true]
    rw [List.mem_append, mem_ite, mem_cloD hg h0 h1 ⟨k0.2.2.1, k0.2.2.2⟩, mem_cloD hg h0 h1 ⟨k0.2.2.1, k0.2.2.2⟩]
    generalize gK w h t p a = ak, gX w h t p a = ax, gY w h t p a = ay, gI w h t p a = ai, gX w h t p n = nx, gY w h t p n = ny, gI w h t p n = ni at *
    refine fin_split fa hh (fun j1 j2 j3 j4 => ?_) (fun j1 j2 j3 j4 => ?_) (fun j0 => ⟨fun j1 j2 => ?_, fun j1 j2 => ?_, fun j1 j2 j3 => ?_, fun j1 j2 j3 => ?_, fun j1 j2 j3 => ?_⟩) <;> simp only [j1, Int.reduceEq, true_and, and_true, false_and, and_false, or_false, false_or, true_or, or_true, not_true, not_false_eq_true] <;> omega
  · simp only [k1, Int.reduceEq, if_false, if_true]
    have e : (gX w h t p n < w ∧ gY w h t p n + 1 < h) ∧ a ∈ cloD w h t p (gI w h t p n) (gX w h t p n) (gY w h t p n + 1) ↔ _ := and_congr_right fun hx => mem_cloD hg h0 h1 (y := gY w h t p n + 1) ⟨by omega, hx.2⟩
    rw [List.mem_append, mem_ite, mem_cloD hg h0 h1 ⟨k0.2.2.1, k0.2.2.2⟩, e]
    generalize gK w h t p a = ak, gX w h t p a = ax, gY w h t p a = ay, gI w h t p a = ai, gX w h t p n = nx, gY w h t p n = ny, gI w h t p n = ni at *
    refine fin_split fa hh (fun j1 j2 j3 j4 => ?_) (fun j1 j2 j3 j4 => ?_) (fun j0 => ⟨fun j1 j2 => ?_, fun j1 j2 => ?_, fun j1 j2 j3 => ?_, fun j1 j2 j3 => ?_, fun j1 j2 j3 => ?_⟩) <;> simp only [j1, Int.reduceEq, true_and, and_true, false_and, and_false, or_false, false_or, true_or, or_true, not_true, not_false_eq_true] <;> omega
theorem mem_dvn {w h t p a n : Int} (hg : okG w h t p) (h0 : 0 ≤ a) (h1 : a < (gr w h t p).cnt) (h2 : 0 ≤ n) (h3 : n < (gr w h t p).cnt) : (a ∈ dvnL w h t p n ∧ a ≠ n) ↔ canN w h t p n a = true := by
  unfold canN
  rw [canB_iff, node_ne hg h0 h1 h2 h3]
  have fa := (ndF hg h0 h1).ok
  have fn := (ndF hg h2 h3).ok
  have hh : 1 ≤ h := hg.2.1.1
  have hw := hg.1
  unfold dvnL canP adjP
  refine fin_split fn hh (fun k1 k2 k3 k4 => ?_) (fun k1 k2 k3 k4 => ?_) (fun k0 => ⟨fun k1 k2 => ?_, fun k1 k2 => ?_, fun k1 k2 k3 => ?_, fun k1 k2 k3 => ?_, fun k1 k2 k3 => ?_⟩)
  · simp only [k1, Int.reduceEq, if_false, if_true, mem_all hg h0 h1]
    generalize gK w h t p a = ak, gX w h t p a = ax, gY w h t p a = ay, gI w h t p a = ai, gX w h t p n = nx, gY w h t p n = ny, gI w h t p n = ni at *
    refine fin_split fa hh (fun j1 j2 j3 j4 => ?_) (fun j1 j2 j3 j4 => ?_) (fun j0 => ⟨fun j1 j2 => ?_, fun j1 j2 => ?_, fun j1 j2 j3 => ?_, fun j1 j2 j3 => ?_, fun j1 j2 j3 => ?_⟩) <;> simp only [j1, Int.reduceEq, true_and, and_true, false_and, and_false, or_false, false_or, true_or, or_true, not_true, not_false_eq_true] <;> omega
  · simp only [k1, Int.reduceEq, if_false, List.not_mem_nil, true_and, false_and, and_false, or_false, false_or, false_iff]
  · simp only [k1, Int.reduceEq, if_false, if_true, List.mem_append, mem_all hg h0 h1, mem_nd hg h0 h1]
    generalize gK w h t p a = ak, gX w h t p a = ax, gY w h t p a = ay, gI w h t p a = ai, gX w h t p n = nx, gY w h t p n = ny, gI w h t p n = ni at *
    refine fin_split fa hh (fun j1 j2 j3 j4 => ?_) (fun j1 j2 j3 j4 => ?_) (fun j0 => ⟨fun j1 j2 => ?_, fun j1 j2 => ?_, fun j1 j2 j3 => ?_, fun j1 j2 j3 => ?_, fun j1 j2 j3 => ?_⟩) <;> simp only [j1, Int.reduceEq, true_and, and_true, false_and, and_false, or_false, false_or, true_or, or_true, not_true, not_false_eq_true] <;> omega
  · simp only [k1, Int.reduceEq, if_false, if_true, mem_all hg h0 h1]
    generalize gK w h t p a = ak, gX w h t p a = ax, gY w h t p a = ay, gI w h t p a = ai, gX w h t p n = nx, gY w h t p n = ny, gI w h t p n = ni at *
    refine fin_split fa hh (fun j1 j2 j3 j4 => ?_) (fun j1 j2 j3 j4 => ?_) (fun j0 => ⟨fun j1 j2 => ?_, fun j1 j2 => ?_, fun j1 j2 j3 => ?_, fun j1 j2 j3 => ?_, fun j1 j2 j3 => ?_⟩) <;> simp only [j1, Int.reduceEq, true_and, and_true, false_and, and_false, or_false, false_or, true_or, or_true, not_true, not_false_eq_true] <;> omega
  · simp only [k1, Int.reduceEq, if_false, List.not_mem_nil, true_and, false_and, and_false, or_false, false_or, false_iff]
  · simp only [k1, Int.reduceEq, if_false, if_true]
    rw [List.mem_append, mem_ite, mem_cloN hg h0 h1 ⟨k0.2.2.1, k0.2.2.2⟩, mem_cloN hg h0 h1 ⟨k0.2.2.1, k0.2.2.2⟩]
    generalize gK w h t p a = ak, gX w h t p a = ax, gY w h t p a = ay, gI w h t p a = ai, gX w h t p n = nx, gY w h t p n = ny, gI w h t p n = ni at *
    refine fin_split fa hh (fun j1 j2 j3 j4 => ?_) (fun j1 j2 j3 j4 => ?_) (fun j0 => ⟨fun j1 j2 => ?_, fun j1 j2 => ?_, fun j1 j2 j3 => ?_, fun j1 j2 j3 => ?_, fun j1 j2 j3 => ?_⟩) <;> simp only [j1, Int.reduceEq, true_and, and_true, false_and, and_false, or_false, false_or, true_or, or_true, not_true, not_false_eq_true] <;> omega
  · simp only [k1, Int.reduceEq, if_false, if_true]
    have e : (gX w h t p n < w ∧ gY w h t p n + 1 < h) ∧ a ∈ cloN w h t p (gI w h t p n) (gX w h t p n) (gY w h t p n + 1) ↔ _ := and_congr_right fun hx => mem_cloN hg h0 h1 (y := gY w h t p n + 1) ⟨by omega, hx.2⟩
    rw [List.mem_append, mem_ite, mem_cloN hg h0 h1 ⟨k0.2.2.1, k0.2.2.2⟩, e]
    generalize gK w h t p a = ak, gX w h t p a = ax, gY w h t p a = ay, gI w h t p a = ai, gX w h t p n = nx, gY w h t p n = ny, gI w h t p n = ni at *
    refine fin_split fa hh (fun j1 j2 j3 j4 => ?_) (fun j1 j2 j3 j4 => ?_) (fun j0 => ⟨fun j1 j2 => ?_, fun j1 j2 => ?_, fun j1 j2 j3 => ?_, fun j1 j2 j3 => ?_, fun j1 j2 j3 => ?_⟩) <;> simp only [j1, Int.reduceEq, true_and, and_true, false_and, and_false, or_false, false_or, true_or, or_true, not_true, not_false_eq_true] <;> omega
theorem gE_0 {w h t p n : Int} : gE w h t p n = 0 ↔ 0 ≤ n ∧ n < (gr w h t p).cnt := by unfold gE; exact dscE_ok
theorem drv_law {w h t p n : Int} (hg : okG w h t p) (hE : gE w h t p n = 0) : sbL n (drvL w h t p n) = refD w h t p n := by
  obtain ⟨h2, h3⟩ := gE_0.1 hE
  obtain ⟨s1, s2⟩ := sb_spec n (drvL w h t p n)
  unfold refD
  rw [if_pos hE]
  refine inc_ext s1 (List.Pairwise.filter _ (inc_upTo _)) fun a => ?_
  rw [s2, List.mem_filter, mem_upTo]
  constructor
  · rintro ⟨hm, hne⟩
    obtain ⟨h0, h1⟩ := drvL_rng hg hm
    exact ⟨⟨h0, h1⟩, (mem_drv hg h0 h1 h2 h3).1 ⟨hm, hne⟩⟩
  · rintro ⟨⟨h0, h1⟩, hc⟩
    exact (mem_drv hg h0 h1 h2 h3).2 hc
theorem dvn_law {w h t p n : Int} (hg : okG w h t p) (hE : gE w h t p n = 0) : sbL n (dvnL w h t p n) = refN w h t p n := by
  obtain ⟨h2, h3⟩ := gE_0.1 hE
  obtain ⟨s1, s2⟩ := sb_spec n (dvnL w h t p n)
  unfold refN
  rw [if_pos hE]
  refine inc_ext s1 (List.Pairwise.filter _ (inc_upTo _)) fun a => ?_
  rw [s2, List.mem_filter, mem_upTo]
  constructor
  · rintro ⟨hm, hne⟩
    obtain ⟨h0, h1⟩ := dvnL_rng hg hm
    exact ⟨⟨h0, h1⟩, (mem_dvn hg h0 h1 h2 h3).1 ⟨hm, hne⟩⟩
  · rintro ⟨⟨h0, h1⟩, hc⟩
    exact (mem_dvn hg h0 h1 h2 h3).2 hc
end Go.Proofs.YtgahnelicbddcaaGreatDoor

namespace Go.Proofs.YtgahnelicbddcaaGreatDoor
open Go.Sx
set_option maxRecDepth 100000
noncomputable def cloH (w h t p : Int) (m : Nat) (c : Nat → Nat → DV) (kd sx sy si : Int) (l n : Nat) : List (Option Blk) := [some (.cells [.ptr 3 0]), some (.cells [iv kd, iv sx, iv sy, iv si]), some (.cells [iv w, iv h, iv t, iv p, .d (.ro m 1 c)]), some (.cells [iv w, iv h, iv t, iv p, .d (.ro m 1 c), .row l 0 0 n 1])]
noncomputable def tCd (w h t p : Int) (m : Nat) (c : Nat → Nat → DV) (kd sx sy si : Int) (n : Nat) (f : Nat → Nat → DV) (u v : Int) : Tree (SV × AS) := inlT Tryz.prog C9 D9 200 62 [iv u, iv v, .ptr 0 0, .ptr 1 0, .ptr 2 0] ⟨[], cloH w h t p m c kd sx sy si 4 n ++ [some (.row n 1 f)], 5, .nil⟩
noncomputable def tCn (w h t p : Int) (m : Nat) (c : Nat → Nat → DV) (kd sx sy si : Int) (n : Nat) (f : Nat → Nat → DV) (u v : Int) : Tree (SV × AS) := inlT Tryz.prog C9 D9 200 66 [iv u, iv v, .ptr 0 0, .ptr 1 0, .ptr 2 0] ⟨[], cloH w h t p m c kd sx sy si 4 n ++ [some (.row n 1 f)], 5, .nil⟩
noncomputable def LCd_q1 (w : Int) (h : Int) (t : Int) (p : Int) (n : Nat) (f : Nat → Nat → DV) (u : Int) (v : Int) (a : Nat) (b : Nat) : DV :=
  DV.x (.int .i64 (List.getD (addL w h t p (1 : Int) u v (0 : Int) n f) a (0 : Int)))
noncomputable def LCd_q2 (w : Int) (h : Int) (t : Int) (p : Int) (n : Nat) (f : Nat → Nat → DV) (u : Int) (v : Int) (a : Nat) (b : Nat) : DV :=
  DV.x (.int .i64 (List.getD (addL w h t p (2 : Int) u v (0 : Int) (List.length (addL w h t p (1 : Int) u v (0 : Int) n f)) (LCd_q1 w h t p n f u v)) a (0 : Int)))
noncomputable def LCd (w h t p : Int) (m : Nat) (c : Nat → Nat → DV) (kd sx sy si : Int) (n : Nat) (f : Nat → Nat → DV) (u v : Int) : Tree (SV × AS) :=
 .need (okG w h t p)
 (.need (n = n ∧ n ≤ 100000 ∧ IntRow n f)
 (.need (okG w h t p)
 (.need
 (List.length (addL w h t p (1 : Int) u v (0 : Int) n f) = List.length (addL w h t p (1 : Int) u v (0 : Int) n f) ∧
 List.length (addL w h t p (1 : Int) u v (0 : Int) n f) ≤ 100000 ∧ IntRow (List.length (addL w h t p (1 : Int) u v (0 : Int) n f)) (LCd_q1 w h t p n f u v))
 (.need (okG w h t p ∧ smS u v)
 (.need
 (List.length (addL w h t p (2 : Int) u v (0 : Int) (List.length (addL w h t p (1 : Int) u v (0 : Int) n f)) (LCd_q1 w h t p n f u v)) =
 List.length (addL w h t p (2 : Int) u v (0 : Int) (List.length (addL w h t p (1 : Int) u v (0 : Int) n f)) (LCd_q1 w h t p n f u v)) ∧
 List.length (addL w h t p (2 : Int) u v (0 : Int) (List.length (addL w h t p (1 : Int) u v (0 : Int) n f)) (LCd_q1 w h t p n f u v)) ≤ 99000 ∧
 IntRow (List.length (addL w h t p (2 : Int) u v (0 : Int) (List.length (addL w h t p (1 : Int) u v (0 : Int) n f)) (LCd_q1 w h t p n f u v))) (LCd_q2 w h t p n f u v))
 (.code (codeC (sub [(0 : Nat), (0 : Nat), (0 : Nat), (0 : Nat), (0 : Nat), (0 : Nat)] (tCd w h t p m c kd sx sy si n f u v)))
 (codeS (sub [(0 : Nat), (0 : Nat), (0 : Nat), (0 : Nat), (0 : Nat), (0 : Nat)] (tCd w h t p m c kd sx sy si n f u v)))
 (codeK (sub [(0 : Nat), (0 : Nat), (0 : Nat), (0 : Nat), (0 : Nat), (0 : Nat)] (tCd w h t p m c kd sx sy si n f u v)))))))))

theorem LCd_eq (w h t p : Int) (m : Nat) (c : Nat → Nat → DV) (kd sx sy si : Int) (n : Nat) (f : Nat → Nat → DV) (u v : Int) : tCd w h t p m c kd sx sy si n f u v = LCd w h t p m c kd sx sy si n f u v := by kernel_rfl

noncomputable def LCn (w h t p : Int) (m : Nat) (c : Nat → Nat → DV) (kd sx sy si : Int) (n : Nat) (f : Nat → Nat → DV) (u v : Int) : Tree (SV × AS) :=
  .code (codeC (sub [] (tCn w h t p m c kd sx sy si n f u v))) (codeS (sub [] (tCn w h t p m c kd sx sy si n f u v))) (codeK (sub [] (tCn w h t p m c kd sx sy si n f u v)))

theorem LCn_eq (w h t p : Int) (m : Nat) (c : Nat → Nat → DV) (kd sx sy si : Int) (n : Nat) (f : Nat → Nat → DV) (u v : Int) : tCn w h t p m c kd sx sy si n f u v = LCn w h t p m c kd sx sy si n f u v := by kernel_rfl

noncomputable def invCd (w h t p : Int) (m : Nat) (c : Nat → Nat → DV) (kd sx sy si : Int) (u v : Int) (L : List Int) (k : Int) : AS := ⟨[.ok (iv u), .ok (iv v), .ok (.ptr 0 0), .ok (.ptr 1 0), .ok (.ptr 2 0), .unk, .unk, .ok (iv k)] ++ List.replicate 31 .unk, cloH w h t p m c kd sx sy si 8 L.length ++ [none, none, none, none, some (.row L.length 1 (cellL L))], 9, .nil⟩
noncomputable def bodyCd : Code := loopN (bodyOf Tryz.prog 62) 0
noncomputable def BCd_q1 (L : List Int) (a : Nat) (b : Nat) : DV :=
  DV.x (.int .i64 (List.getD L a (0 : Int)))
noncomputable def BCd_q2 (w : Int) (h : Int) (t : Int) (p : Int) (v : Int) (L : List Int) (k : Int) (a : Nat) (b : Nat) : DV :=
  DV.x (.int .i64 (List.getD (addL w h t p (6 : Int) (-1 : Int) v k (List.length L) (BCd_q1 L)) a (0 : Int)))
noncomputable def BCd (w h t p : Int) (m : Nat) (c : Nat → Nat → DV) (kd sx sy si : Int) (u v : Int) (L : List Int) (k : Int) : Tree (Ex × AS) :=
 .ite (u == (0 : Int) && decide (k < p))
 (.need (okG w h t p)
 (.need (List.length L = List.length L ∧ List.length L ≤ 100000 ∧ IntRow (List.length L) (BCd_q1 L))
 (.ret
 (.normal,
 {
 tm :=
 [.ok (iv u), .ok (iv v), .ok (SV.ptr 0 0), .ok (SV.ptr 1 0), .ok (SV.ptr 2 0), .unk, .unk, .ok (iv (w64 (k + h))), .unk, .unk, .unk, .unk,
 .unk, .unk, .unk, .unk, .unk, .unk, .unk, .unk, .unk, .unk, .unk, .unk, .unk, .unk, .unk, .unk, .unk, .unk, .unk, .unk, .unk, .unk, .unk, .unk, .unk, .unk, .unk],
 hp :=
 [some (.cells [SV.ptr 3 0]), some (.cells [iv kd, iv sx, iv sy, iv si]), some (.cells [iv w, iv h, iv t, iv p, SV.d (DV.ro m 1 c)]),
 some (.cells [iv w, iv h, iv t, iv p, SV.d (DV.ro m 1 c), SV.row 8 0 0 (List.length (addL w h t p (6 : Int) (-1 : Int) v k (List.length L) (BCd_q1 L))) 1]),
 none, none, none, none, some (.row (List.length (addL w h t p (6 : Int) (-1 : Int) v k (List.length L) (BCd_q1 L))) 1 (BCd_q2 w h t p v L k))],
 next := 9, hint := .nil }))))
 (.ret
 (.exit 0,
 {
 tm :=
 [.ok (iv u), .ok (iv v), .ok (SV.ptr 0 0), .ok (SV.ptr 1 0), .ok (SV.ptr 2 0), .unk, .unk, .ok (iv k), .unk, .unk, .unk, .unk, .unk, .unk,
 .unk, .unk, .unk, .unk, .unk, .unk, .unk, .unk, .unk, .unk, .unk, .unk, .unk, .unk, .unk, .unk, .unk, .unk, .unk, .unk, .unk, .unk, .unk, .unk, .unk],
 hp :=
 [some (.cells [SV.ptr 3 0]), some (.cells [iv kd, iv sx, iv sy, iv si]), some (.cells [iv w, iv h, iv t, iv p, SV.d (DV.ro m 1 c)]),
 some (.cells [iv w, iv h, iv t, iv p, SV.d (DV.ro m 1 c), SV.row 8 0 0 (List.length L) 1]), none, none, none, none,
 some (.row (List.length L) 1 (BCd_q1 L))],
 next := 9, hint := .nil }))

theorem BCd_eq (w h t p : Int) (m : Nat) (c : Nat → Nat → DV) (kd sx sy si : Int) (u v : Int) (L : List Int) (k : Int) : cutT 8 [(.cell (.base 3) 5, 8)] [0, 1, 2, 3, 4, 7] [] 9 .nil (exec Tryz.prog C9 D9 200 bodyCd (invCd w h t p m c kd sx sy si u v L k)) = BCd w h t p m c kd sx sy si u v L k := by kernel_rfl

noncomputable def KCd_q1 (L : List Int) (a : Nat) (b : Nat) : DV :=
  DV.x (.int .i64 (List.getD L a (0 : Int)))
noncomputable def KCd (w h t p : Int) (m : Nat) (c : Nat → Nat → DV) (kd sx sy si : Int) (n : Nat) (f : Nat → Nat → DV) (u v : Int) (L : List Int) (k : Int) : Tree (SV × AS) :=
  .ret
  (SV.tup [],
   {
   tm :=
   [.ok (iv u), .ok (iv v), .ok (SV.ptr 0 0), .ok (SV.ptr 1 0), .ok (SV.ptr 2 0), .unk, .unk, .ok (iv k), .unk, .unk, .unk, .unk, .unk, .unk,
   .unk, .unk, .unk, .unk, .unk, .unk, .unk, .unk, .unk, .unk, .unk, .unk, .unk, .unk, .unk, .unk, .unk, .unk, .unk, .unk, .unk, .unk, .unk, .unk, .unk],
   hp :=
   [some (.cells [SV.ptr 3 0]), some (.cells [iv kd, iv sx, iv sy, iv si]), some (.cells [iv w, iv h, iv t, iv p, SV.d (DV.ro m 1 c)]),
   some (.cells [iv w, iv h, iv t, iv p, SV.d (DV.ro m 1 c), SV.row 8 0 0 (List.length L) 1]), none, none, none, none,
   some (.row (List.length L) 1 (KCd_q1 L))],
   next := 9, hint := .nil })

theorem KCd_eq (w h t p : Int) (m : Nat) (c : Nat → Nat → DV) (kd sx sy si : Int) (n : Nat) (f : Nat → Nat → DV) (u v : Int) (L : List Int) (k : Int) : codeK (sub [0, 0, 0, 0, 0, 0] (tCd w h t p m c kd sx sy si n f u v)) (.exit 0) (invCd w h t p m c kd sx sy si u v L k) = KCd w h t p m c kd sx sy si n f u v L k := by kernel_rfl

noncomputable def invCm (w h t p : Int) (m : Nat) (c : Nat → Nat → DV) (kd sx sy si : Int) (u v : Int) (L : List Int) (k : Int) : AS := ⟨[.ok (iv u), .ok (iv v), .ok (.ptr 0 0), .ok (.ptr 1 0), .ok (.ptr 2 0), .unk, .unk, .unk, .unk, .ok (iv k)] ++ List.replicate 36 .unk, cloH w h t p m c kd sx sy si 5 L.length ++ [none, some (.row L.length 1 (cellL L))], 6, .nil⟩
noncomputable def bodyCm : Code := loopN (bodyOf Tryz.prog 66) 0
noncomputable def bodyCn : Code := loopN (bodyOf Tryz.prog 66) 1
noncomputable def BCm_q1 (L : List Int) (a : Nat) (b : Nat) : DV :=
  DV.x (.int .i64 (List.getD L a (0 : Int)))
noncomputable def BCm_q2 (w : Int) (h : Int) (t : Int) (p : Int) (u : Int) (v : Int) (L : List Int) (k : Int) (a : Nat) (b : Nat) : DV :=
  DV.x (.int .i64 (List.getD (addL w h t p (3 : Int) u v k (List.length L) (BCm_q1 L)) a (0 : Int)))
noncomputable def BCm (w h t p : Int) (m : Nat) (c : Nat → Nat → DV) (kd sx sy si : Int) (u v : Int) (L : List Int) (k : Int) : Tree (Ex × AS) :=
 .ite (decide (k < (4 : Int)))
 (.need (okG w h t p)
 (.need (List.length L = List.length L ∧ List.length L ≤ 100000 ∧ IntRow (List.length L) (BCm_q1 L))
 (.ret
 (.normal,
 {
 tm :=
 [.ok (iv u), .ok (iv v), .ok (SV.ptr 0 0), .ok (SV.ptr 1 0), .ok (SV.ptr 2 0), .unk, .unk, .unk, .unk, .ok (iv (w64 (k + (1 : Int)))), .unk,
 .unk, .unk, .unk, .unk, .unk, .unk, .unk, .unk, .unk, .unk, .unk, .unk, .unk, .unk, .unk, .unk, .unk, .unk, .unk, .unk, .unk, .unk, .unk, .unk, .unk, .unk, .unk, .unk,
 .unk, .unk, .unk, .unk, .unk, .unk, .unk],
 hp :=
 [some (.cells [SV.ptr 3 0]), some (.cells [iv kd, iv sx, iv sy, iv si]), some (.cells [iv w, iv h, iv t, iv p, SV.d (DV.ro m 1 c)]),
 some (.cells [iv w, iv h, iv t, iv p, SV.d (DV.ro m 1 c), SV.row 5 0 0 (List.length (addL w h t p (3 : Int) u v k (List.length L) (BCm_q1 L))) 1]), none,
 some (.row (List.length (addL w h t p (3 : Int) u v k (List.length L) (BCm_q1 L))) 1 (BCm_q2 w h t p u v L k))],
 next := 6, hint := .nil }))))
 (.ret
 (.exit 0,
 {
 tm :=
 [.ok (iv u), .ok (iv v), .ok (SV.ptr 0 0), .ok (SV.ptr 1 0), .ok (SV.ptr 2 0), .unk, .unk, .unk, .unk, .ok (iv k), .unk, .unk, .unk, .unk,
 .unk, .unk, .unk, .unk, .unk, .unk, .unk, .unk, .unk, .unk, .unk, .unk, .unk, .unk, .unk, .unk, .unk, .unk, .unk, .unk, .unk, .unk, .unk, .unk, .unk, .unk, .unk, .unk,
 .unk, .unk, .unk, .unk],
 hp :=
 [some (.cells [SV.ptr 3 0]), some (.cells [iv kd, iv sx, iv sy, iv si]), some (.cells [iv w, iv h, iv t, iv p, SV.d (DV.ro m 1 c)]),
 some (.cells [iv w, iv h, iv t, iv p, SV.d (DV.ro m 1 c), SV.row 5 0 0 (List.length L) 1]), none, some (.row (List.length L) 1 (BCm_q1 L))],
 next := 6, hint := .nil }))

theorem BCm_eq (w h t p : Int) (m : Nat) (c : Nat → Nat → DV) (kd sx sy si : Int) (u v : Int) (L : List Int) (k : Int) : cutT 5 [(.cell (.base 3) 5, 5)] [0, 1, 2, 3, 4, 9] [] 6 .nil (exec Tryz.prog C9 D9 200 bodyCm (invCm w h t p m c kd sx sy si u v L k)) = BCm w h t p m c kd sx sy si u v L k := by kernel_rfl

noncomputable def tCm (w h t p : Int) (m : Nat) (c : Nat → Nat → DV) (kd sx sy si : Int) (n : Nat) (f : Nat → Nat → DV) (u v : Int) (L : List Int) (k : Int) : Tree (SV × AS) := codeK (sub [] (tCn w h t p m c kd sx sy si n f u v)) (.exit 0) (invCm w h t p m c kd sx sy si u v L k)
noncomputable def KCm_q1 (L : List Int) (a : Nat) (b : Nat) : DV :=
  DV.x (.int .i64 (List.getD L a (0 : Int)))
noncomputable def KCm (w h t p : Int) (m : Nat) (c : Nat → Nat → DV) (kd sx sy si : Int) (n : Nat) (f : Nat → Nat → DV) (u v : Int) (L : List Int) (k : Int) : Tree (SV × AS) :=
  .need (okG w h t p ∧ smS u v)
  (.need (List.length L = List.length L ∧ List.length L ≤ 99000 ∧ IntRow (List.length L) (KCm_q1 L))
   (.code (codeC (sub [(0 : Nat), (0 : Nat)] (tCm w h t p m c kd sx sy si n f u v L k))) (codeS (sub [(0 : Nat), (0 : Nat)] (tCm w h t p m c kd sx sy si n f u v L k)))
   (codeK (sub [(0 : Nat), (0 : Nat)] (tCm w h t p m c kd sx sy si n f u v L k)))))

theorem KCm_eq (w h t p : Int) (m : Nat) (c : Nat → Nat → DV) (kd sx sy si : Int) (n : Nat) (f : Nat → Nat → DV) (u v : Int) (L : List Int) (k : Int) : tCm w h t p m c kd sx sy si n f u v L k = KCm w h t p m c kd sx sy si n f u v L k := by kernel_rfl

noncomputable def invCn (w h t p : Int) (m : Nat) (c : Nat → Nat → DV) (kd sx sy si : Int) (u v : Int) (L : List Int) (k : Int) : AS := ⟨[.ok (iv u), .ok (iv v), .ok (.ptr 0 0), .ok (.ptr 1 0), .ok (.ptr 2 0), .unk, .unk, .unk, .ok (iv k)] ++ List.replicate 37 .unk, cloH w h t p m c kd sx sy si 7 L.length ++ [none, none, none, some (.row L.length 1 (cellL L))], 8, .nil⟩
noncomputable def BCn_q1 (L : List Int) (a : Nat) (b : Nat) : DV :=
  DV.x (.int .i64 (List.getD L a (0 : Int)))
noncomputable def BCn_q2 (w : Int) (h : Int) (t : Int) (p : Int) (v : Int) (L : List Int) (k : Int) (a : Nat) (b : Nat) : DV :=
  DV.x (.int .i64 (List.getD (addL w h t p (7 : Int) w v k (List.length L) (BCn_q1 L)) a (0 : Int)))
noncomputable def BCn (w h t p : Int) (m : Nat) (c : Nat → Nat → DV) (kd sx sy si : Int) (u v : Int) (L : List Int) (k : Int) : Tree (Ex × AS) :=
 .ite (u == w64 (w - (1 : Int)) && decide (k < p))
 (.need (okG w h t p)
 (.need (List.length L = List.length L ∧ List.length L ≤ 100000 ∧ IntRow (List.length L) (BCn_q1 L))
 (.ret
 (.normal,
 {
 tm :=
 [.ok (iv u), .ok (iv v), .ok (SV.ptr 0 0), .ok (SV.ptr 1 0), .ok (SV.ptr 2 0), .unk, .unk, .unk, .ok (iv (w64 (k + h))), .unk, .unk, .unk,
 .unk, .unk, .unk, .unk, .unk, .unk, .unk, .unk, .unk, .unk, .unk, .unk, .unk, .unk, .unk, .unk, .unk, .unk, .unk, .unk, .unk, .unk, .unk, .unk, .unk, .unk, .unk, .unk,
 .unk, .unk, .unk, .unk, .unk, .unk],
 hp :=
 [some (.cells [SV.ptr 3 0]), some (.cells [iv kd, iv sx, iv sy, iv si]), some (.cells [iv w, iv h, iv t, iv p, SV.d (DV.ro m 1 c)]),
 some (.cells [iv w, iv h, iv t, iv p, SV.d (DV.ro m 1 c), SV.row 7 0 0 (List.length (addL w h t p (7 : Int) w v k (List.length L) (BCn_q1 L))) 1]), none, none,
 none, some (.row (List.length (addL w h t p (7 : Int) w v k (List.length L) (BCn_q1 L))) 1 (BCn_q2 w h t p v L k))],
 next := 8, hint := .nil }))))
 (.ret
 (.exit 2,
 {
 tm :=
 [.ok (iv u), .ok (iv v), .ok (SV.ptr 0 0), .ok (SV.ptr 1 0), .ok (SV.ptr 2 0), .unk, .unk, .unk, .ok (iv k), .unk, .unk, .unk, .unk, .unk,
 .unk, .unk, .unk, .unk, .unk, .unk, .unk, .unk, .unk, .unk, .unk, .unk, .unk, .unk, .unk, .unk, .unk, .unk, .unk, .unk, .unk, .unk, .unk, .unk, .unk, .unk, .unk, .unk,
 .unk, .unk, .unk, .unk],
 hp :=
 [some (.cells [SV.ptr 3 0]), some (.cells [iv kd, iv sx, iv sy, iv si]), some (.cells [iv w, iv h, iv t, iv p, SV.d (DV.ro m 1 c)]),
 some (.cells [iv w, iv h, iv t, iv p, SV.d (DV.ro m 1 c), SV.row 7 0 0 (List.length L) 1]), none, none, none,
 some (.row (List.length L) 1 (BCn_q1 L))],
 next := 8, hint := .nil }))

theorem BCn_eq (w h t p : Int) (m : Nat) (c : Nat → Nat → DV) (kd sx sy si : Int) (u v : Int) (L : List Int) (k : Int) : cutT 7 [(.cell (.base 3) 5, 7)] [0, 1, 2, 3, 4, 8] [] 8 .nil (exec Tryz.prog C9 D9 200 bodyCn (invCn w h t p m c kd sx sy si u v L k)) = BCn w h t p m c kd sx sy si u v L k := by kernel_rfl

noncomputable def KCn_q1 (M : List Int) (a : Nat) (b : Nat) : DV :=
  DV.x (.int .i64 (List.getD M a (0 : Int)))
noncomputable def KCn (w h t p : Int) (m : Nat) (c : Nat → Nat → DV) (kd sx sy si : Int) (n : Nat) (f : Nat → Nat → DV) (u v : Int) (L : List Int) (k : Int) (M : List Int) (j : Int) : Tree (SV × AS) :=
  .ret
  (SV.tup [],
   {
   tm :=
   [.ok (iv u), .ok (iv v), .ok (SV.ptr 0 0), .ok (SV.ptr 1 0), .ok (SV.ptr 2 0), .unk, .unk, .unk, .ok (iv j), .unk, .unk, .unk, .unk, .unk,
   .unk, .unk, .unk, .unk, .unk, .unk, .unk, .unk, .unk, .unk, .unk, .unk, .unk, .unk, .unk, .unk, .unk, .unk, .unk, .unk, .unk, .unk, .unk, .unk, .unk, .unk, .unk, .unk,
   .unk, .unk, .unk, .unk],
   hp :=
   [some (.cells [SV.ptr 3 0]), some (.cells [iv kd, iv sx, iv sy, iv si]), some (.cells [iv w, iv h, iv t, iv p, SV.d (DV.ro m 1 c)]),
   some (.cells [iv w, iv h, iv t, iv p, SV.d (DV.ro m 1 c), SV.row 7 0 0 (List.length M) 1]), none, none, none, some (.row (List.length M) 1 (KCn_q1 M))],
   next := 8, hint := .nil })

theorem KCn_eq (w h t p : Int) (m : Nat) (c : Nat → Nat → DV) (kd sx sy si : Int) (n : Nat) (f : Nat → Nat → DV) (u v : Int) (L : List Int) (k : Int) (M : List Int) (j : Int) : codeK (sub [0, 0] (tCm w h t p m c kd sx sy si n f u v L k)) (.exit 2) (invCn w h t p m c kd sx sy si u v M j) = KCn w h t p m c kd sx sy si n f u v L k M j := by kernel_rfl


end Go.Proofs.YtgahnelicbddcaaGreatDoor

namespace Go.Proofs.YtgahnelicbddcaaGreatDoor
open Go.Sx
set_option maxRecDepth 100000

noncomputable def cloR (w h t p : Int) (m : Nat) (c : Nat → Nat → DV) (kd sx sy si : Int) (L : List Int) : SV × Heap × Nat := (.tup [], cloH w h t p m c kd sx sy si 5 L.length ++ [none, some (.row L.length 1 (cellL L))], 6)
def _root_.Go.Proofs.tilB (u v : Int) : Prop := (0 ≤ u ∧ u ≤ 8) ∧ (0 ≤ v ∧ v ≤ 8)
instance (u v : Int) : Decidable (Go.Proofs.tilB u v) := by unfold Go.Proofs.tilB; exact inferInstance
noncomputable def mCd : MCtr := fun args hp nx => match args, hp, nx with
  | [.d (.x (.int .i64 u)), .d (.x (.int .i64 v)), .ptr 0 0, .ptr 1 0, .ptr 2 0], [some (.cells [.ptr 3 0]), some (.cells [.d (.x (.int .i64 kd)), .d (.x (.int .i64 sx)), .d (.x (.int .i64 sy)), .d (.x (.int .i64 si))]), some (.cells [.d (.x (.int .i64 w)), .d (.x (.int .i64 h)), .d (.x (.int .i64 t)), .d (.x (.int .i64 p)), .d (.ro m 1 c)]),
      some (.cells [.d (.x (.int .i64 w')), .d (.x (.int .i64 h')), .d (.x (.int .i64 t')), .d (.x (.int .i64 p')), .d (.ro m' 1 c'), .row 4 0 0 n 1]), some (.row n' 1 f)], 5 =>
    .nd (okG w h t p ∧ tilB u v) (.need ((w = w' ∧ h = h' ∧ t = t' ∧ p = p' ∧ m = m' ∧ c = c') ∧ n = n' ∧ n ≤ 90000 ∧ IntRow n f) (.ret (cloR w h t p m c kd sx sy si (cloDA w h t p si u v n f))))
  | _, _, _ => .fail
noncomputable def mCn : MCtr := fun args hp nx => match args, hp, nx with
  | [.d (.x (.int .i64 u)), .d (.x (.int .i64 v)), .ptr 0 0, .ptr 1 0, .ptr 2 0], [some (.cells [.ptr 3 0]), some (.cells [.d (.x (.int .i64 kd)), .d (.x (.int .i64 sx)), .d (.x (.int .i64 sy)), .d (.x (.int .i64 si))]), some (.cells [.d (.x (.int .i64 w)), .d (.x (.int .i64 h)), .d (.x (.int .i64 t)), .d (.x (.int .i64 p)), .d (.ro m 1 c)]),
      some (.cells [.d (.x (.int .i64 w')), .d (.x (.int .i64 h')), .d (.x (.int .i64 t')), .d (.x (.int .i64 p')), .d (.ro m' 1 c'), .row 4 0 0 n 1]), some (.row n' 1 f)], 5 =>
    .nd (okG w h t p ∧ tilB u v) (.need ((w = w' ∧ h = h' ∧ t = t' ∧ p = p' ∧ m = m' ∧ c = c') ∧ n = n' ∧ n ≤ 90000 ∧ IntRow n f) (.ret (cloR w h t p m c kd sx sy si (cloNA w h t p si u v n f))))
  | _, _, _ => .fail
theorem clo_gc {w h t p : Int} {m : Nat} {c : Nat → Nat → DV} {kd sx sy si : Int} {L : List Int} {hp : Heap} {nx : Nat}
    (h1 : gcA 5 [(.cell (.base 3) 5, 5)] [0] [] 6 .nil ⟨[.ok (.tup [])], hp, nx, .nil⟩ = some ⟨[.ok (.tup [])], cloH w h t p m c kd sx sy si 5 L.length ++ [none, some (.row L.length 1 (cellL L))], 6, .nil⟩) :
    Gc 5 ⟨[.ok (.tup [])], hp, nx, .nil⟩ ⟨[.ok (cloR w h t p m c kd sx sy si L).1], (cloR w h t p m c kd sx sy si L).2.1, (cloR w h t p m c kd sx sy si L).2.2, .nil⟩ := gcA_sound h1
theorem padF_no {w h t p kd X y : Int} {f : Nat} {k : Int} (h0 : ¬ k < p) : padF w h t p kd X y f k = [] := by
  cases f with
  | zero => rfl
  | succ f => unfold padF; rw [if_neg h0]
theorem cloD_len (w h t p i x y : Int) : (cloD w h t p i x y).length ≤ 71 := by
  unfold cloD padL
  have h1 := ndL_len w h t p 1 x y 0
  have h2 := ndL_len w h t p 2 x y 0
  have h3 := wirL_len w h t p x y i
  have h4 := padF_len w h t p 6 (-1) y 65 y
  simp only [List.length_append]
  split
  · omega
  · simp only [List.length_nil]; omega
theorem cloN_len (w h t p i x y : Int) : (cloN w h t p i x y).length ≤ 73 := by
  unfold cloN padL
  have h1 := pinL_len w h t p x y 4
  have h3 := wirL_len w h t p x y i
  have h4 := padF_len w h t p 7 w y 65 y
  simp only [List.length_append]
  split
  · omega
  · simp only [List.length_nil]; omega
theorem mCd_ok : MuOK Tryz.prog 62 mCd := by
  refine muOK_walk C9_ok D9_ok fun args hp nx r hr => ?_
  unfold mCd at hr
  split at hr
  · rename_i u v kd sx sy si w h t p m c w' h' t' p' m' c' n n' f
    obtain ⟨⟨hg, hB⟩, ⟨⟨rfl, rfl, rfl, rfl, rfl, rfl⟩, rfl, hn, hI⟩, rfl⟩ := hr
    refine ⟨_, _, 200, .nil, hpLe_refl _, fun _ _ _ _ h => h, ?_⟩
    have hs : smS u v := by obtain ⟨⟨a1, a2⟩, a3, a4⟩ := hB; unfold smS; omega
    have hgb := hg
    obtain ⟨⟨a1, a2⟩, ⟨b1, b2⟩, ⟨c1, c2⟩, d1, d2⟩ := hgb
    have kk : Sat Tryz.prog (tCd w h t p m c kd sx sy si n f u v) fun q => Gc 5 ⟨[.ok q.1], q.2.hp, q.2.next, .nil⟩ ⟨[.ok (cloR w h t p m c kd sx sy si (cloDA w h t p si u v n f)).1], (cloR w h t p m c kd sx sy si (cloDA w h t p si u v n f)).2.1, (cloR w h t p m c kd sx sy si (cloDA w h t p si u v n f)).2.2, .nil⟩ := by
      refine Sat.of_eq (LCd_eq w h t p m c kd sx sy si n f u v) ?_
      constructor; unfold LCd
      have e1 : LCd_q1 w h t p n f u v = cellL (addL w h t p 1 u v 0 n f) := rfl
      have e2 : LCd_q2 w h t p n f u v = cellL (addL w h t p 2 u v 0 (addL w h t p 1 u v 0 n f).length (LCd_q1 w h t p n f u v)) := rfl
      have l0 := addL_len w h t p 1 u v 0 n f
      have l1 := ndL_len w h t p 2 u v 0
      obtain ⟨T, hT⟩ : ∃ T, T = cloDA w h t p si u v n f := ⟨_, rfl⟩
      have hTl : T.length ≤ 90071 := by rw [hT]; unfold cloDA; rw [List.length_append, lsOf_len]; have := cloD_len w h t p si u v; omega
      refine ⟨hg, ⟨rfl, by omega, hI⟩, hg, ⟨rfl, by omega, fun i hi => rfl⟩, ⟨hg, hs⟩, ⟨rfl, by rw [e1, addL_cell, List.length_append]; omega, fun i hi => rfl⟩, ?_⟩
      refine code_satS C9_ok D9_ok (n := 200) (n0 := 8) (nx := 9) (roots := [(.cell (.base 3) 5, 8)]) (keep := [0, 1, 2, 3, 4, 7]) (drop := []) (h := .nil) (c := codeC (sub [0, 0, 0, 0, 0, 0] (tCd w h t p m c kd sx sy si n f u v))) (st := codeS (sub [0, 0, 0, 0, 0, 0] (tCd w h t p m c kd sx sy si n f u v))) (k := codeK (sub [0, 0, 0, 0, 0, 0] (tCd w h t p m c kd sx sy si n f u v))) (body := bodyCd) (by kernel_rfl) (by kernel_rfl)
        (fun q s => ∃ (f' : Nat) (k : Int) (L : List Int), q = f' ∧ f' ≤ 65 ∧ 65 - (f' : Int) ≤ k ∧ k ≤ 100 ∧ L ++ (if u == 0 then padF w h t p 6 (-1) v f' k else []) = T ∧ s = invCd w h t p m c kd sx sy si u v L k)
        (fun e s => e = .exit 0 ∧ ∃ k : Int, s = invCd w h t p m c kd sx sy si u v T k)
        ⟨65, invCd w h t p m c kd sx sy si u v (lsOf n f ++ ndL w h t p 1 u v 0 ++ ndL w h t p 2 u v 0 ++ wirL w h t p u v si) v, ⟨65, v, _, rfl, by omega, by obtain ⟨_, x1, x2⟩ := hB; omega, by obtain ⟨_, x1, x2⟩ := hB; omega, ?_, rfl⟩, ?_⟩ ?_ ?_
      · rw [hT]; unfold cloDA cloD padL
        simp only [List.append_assoc]
      · have e3 : wirA w h t p u v si (addL w h t p 2 u v 0 (addL w h t p 1 u v 0 n f).length (LCd_q1 w h t p n f u v)).length (LCd_q2 w h t p n f u v) = lsOf n f ++ ndL w h t p 1 u v 0 ++ ndL w h t p 2 u v 0 ++ wirL w h t p u v si := by
          rw [e2, wirA_cell, e1, addL_cell]; unfold addL; rfl
        rw [← e3]
        exact entA_sound (roots := [(.cell (.base 3) 5, 8)]) (keep := [0, 1, 2, 3, 4, 7]) (drop := []) (nx := 9) (h := .nil) (by kernel_rfl)
      · rintro q s ⟨f', k, L, rfl, hf, hk, hk2, hL, rfl⟩
        refine Sat.of_eq (BCd_eq w h t p m c kd sx sy si u v L k) ?_
        constructor; unfold BCd
        have hLl : L.length ≤ 90071 := by rw [← hL, List.length_append] at hTl; omega
        refine ⟨fun h1 => ⟨hg, ⟨rfl, by omega, fun i hi => rfl⟩, ?_⟩, fun h1 => ?_⟩
        · simp only [Bool.and_eq_true, beq_iff_eq, decide_eq_true_eq] at h1
          obtain ⟨h1, h2⟩ := h1
          obtain ⟨g, rfl⟩ : ∃ g, q = g + 1 := ⟨q - 1, by omega⟩
          have e : addL w h t p 6 (-1) v k L.length (BCd_q1 L) = L ++ ndL w h t p 6 (-1) v k := addL_cell _ _ _ _ _ _ _ _ L
          rw [w64_of (n := k + h) (by omega) (by omega)]
          refine ⟨g, _, by omega, ⟨g, k + h, L ++ ndL w h t p 6 (-1) v k, rfl, by omega, by omega, by omega, ?_, rfl⟩, ?_⟩
          · rw [← hL, h1]
            simp only [beq_self_eq_true, if_true]
            conv => rhs; unfold padF
            rw [if_pos h2, List.append_assoc]
          · rw [← e]; exact Gc.refl _ _
        · refine ⟨_, ⟨rfl, k, ?_⟩, Gc.refl _ _⟩
          have e : T = L := by
            rw [← hL]
            by_cases h2 : u = 0
            · rw [h2] at h1 ⊢
              have : ¬ k < p := by simpa using h1
              rw [padF_no this]; simp
            · have : (u == 0) = false := by simpa using h2
              rw [this]; simp
          rw [e]; rfl
      · rintro e s ⟨rfl, k, rfl⟩
        refine Sat.of_eq (KCd_eq w h t p m c kd sx sy si n f u v T k) ⟨?_⟩
        rw [← hT]
        exact clo_gc (by kernel_rfl)
    exact kk
  · exact hr.elim
theorem mCn_ok : MuOK Tryz.prog 66 mCn := by
  refine muOK_walk C9_ok D9_ok fun args hp nx r hr => ?_
  unfold mCn at hr
  split at hr
  · rename_i u v kd sx sy si w h t p m c w' h' t' p' m' c' n n' f
    obtain ⟨⟨hg, hB⟩, ⟨⟨rfl, rfl, rfl, rfl, rfl, rfl⟩, rfl, hn, hI⟩, rfl⟩ := hr
    refine ⟨_, _, 200, .nil, hpLe_refl _, fun _ _ _ _ h => h, ?_⟩
    have hs : smS u v := by obtain ⟨⟨a1, a2⟩, a3, a4⟩ := hB; unfold smS; omega
    have hgb := hg
    obtain ⟨⟨a1, a2⟩, ⟨b1, b2⟩, ⟨c1, c2⟩, d1, d2⟩ := hgb
    have kk : Sat Tryz.prog (tCn w h t p m c kd sx sy si n f u v) fun q => Gc 5 ⟨[.ok q.1], q.2.hp, q.2.next, .nil⟩ ⟨[.ok (cloR w h t p m c kd sx sy si (cloNA w h t p si u v n f)).1], (cloR w h t p m c kd sx sy si (cloNA w h t p si u v n f)).2.1, (cloR w h t p m c kd sx sy si (cloNA w h t p si u v n f)).2.2, .nil⟩ := by
      refine Sat.of_eq (LCn_eq w h t p m c kd sx sy si n f u v) ?_
      constructor; unfold LCn
      obtain ⟨T, hT⟩ : ∃ T, T = cloNA w h t p si u v n f := ⟨_, rfl⟩
      have hTl : T.length ≤ 90073 := by rw [hT]; unfold cloNA; rw [List.length_append, lsOf_len]; have := cloN_len w h t p si u v; omega
      refine code_satS C9_ok D9_ok (n := 200) (n0 := 5) (nx := 6) (roots := [(.cell (.base 3) 5, 5)]) (keep := [0, 1, 2, 3, 4, 9]) (drop := []) (h := .nil) (c := codeC (sub [] (tCn w h t p m c kd sx sy si n f u v))) (st := codeS (sub [] (tCn w h t p m c kd sx sy si n f u v))) (k := codeK (sub [] (tCn w h t p m c kd sx sy si n f u v))) (body := bodyCm) (by kernel_rfl) (by kernel_rfl)
        (fun q s => ∃ j : Nat, q = 4 - j ∧ j ≤ 4 ∧ s = invCm w h t p m c kd sx sy si u v (lsOf n f ++ pinL w h t p u v j) j)
        (fun e s => e = .exit 0 ∧ ∃ k : Int, s = invCm w h t p m c kd sx sy si u v (lsOf n f ++ pinL w h t p u v 4) k)
        ⟨_, _, ⟨0, rfl, by omega, rfl⟩, ?_⟩ ?_ ?_
      · refine (entA_sound (s' := ⟨[.ok (iv u), .ok (iv v), .ok (.ptr 0 0), .ok (.ptr 1 0), .ok (.ptr 2 0), .unk, .unk, .unk, .unk, .ok (iv 0)] ++ List.replicate 36 .unk, cloH w h t p m c kd sx sy si 5 n ++ [none, some (.row n 1 f)], 6, .nil⟩) (roots := [(.cell (.base 3) 5, 5)]) (keep := [0, 1, 2, 3, 4, 9]) (drop := []) (nx := 6) (h := .nil) (by kernel_rfl)).trans ?_
        have e : lsOf n f ++ pinL w h t p u v 0 = lsOf n f := by unfold pinL; simp
        unfold invCm
        rw [e]
        refine gc_hp rfl rfl ⟨.inr ⟨_, _, rfl, rfl, .refl _⟩, .inr ⟨_, _, rfl, rfl, .refl _⟩, .inr ⟨_, _, rfl, rfl, .refl _⟩, .inr ⟨_, _, rfl, by rw [lsOf_len], .refl _⟩, .inl rfl, .inr ⟨_, _, rfl, rfl, row_lsOf hI⟩, trivial⟩
      · rintro q s ⟨j, rfl, hj, rfl⟩
        refine Sat.of_eq (BCm_eq w h t p m c kd sx sy si u v _ j) ?_
        constructor; unfold BCm
        have hl := pinL_len w h t p u v j
        have hll : (lsOf n f ++ pinL w h t p u v j).length ≤ 90004 := by rw [List.length_append, lsOf_len]; omega
        refine ⟨fun h1 => ⟨hg, ⟨rfl, by omega, intRow_cellL _ _⟩, ?_⟩, fun h1 => ?_⟩
        · simp only [decide_eq_true_eq] at h1
          refine ⟨4 - (j + 1), _, by omega, ⟨j + 1, rfl, by omega, rfl⟩, ?_⟩
          rw [w64_of (n := (j : Int) + 1) (by omega) (by omega)]
          have e : addL w h t p 3 u v j (lsOf n f ++ pinL w h t p u v j).length (BCm_q1 (lsOf n f ++ pinL w h t p u v j)) = lsOf n f ++ pinL w h t p u v (j + 1) := by
            have := addL_cell w h t p 3 u v j (lsOf n f ++ pinL w h t p u v j)
            rw [show BCm_q1 (lsOf n f ++ pinL w h t p u v j) = cellL (lsOf n f ++ pinL w h t p u v j) from rfl, this, List.append_assoc]; rfl
          rw [← e]; exact Gc.refl _ _
        · simp only [decide_eq_false_iff_not] at h1
          obtain rfl : j = 4 := by omega
          exact ⟨_, ⟨rfl, _, rfl⟩, Gc.refl _ _⟩
      rintro e s ⟨rfl, j, rfl⟩
      refine Sat.of_eq (KCm_eq w h t p m c kd sx sy si n f u v _ j) ⟨?_⟩
      have hl := pinL_len w h t p u v 4
      have hll : (lsOf n f ++ pinL w h t p u v 4).length ≤ 90004 := by rw [List.length_append, lsOf_len]; omega
      unfold KCm
      refine ⟨⟨hg, hs⟩, ⟨rfl, by omega, fun i hi => rfl⟩, ?_⟩
      obtain ⟨L0, hL0⟩ : ∃ L0, L0 = lsOf n f ++ pinL w h t p u v 4 := ⟨_, rfl⟩
      rw [← hL0]
      refine code_satS C9_ok D9_ok (n := 200) (n0 := 7) (nx := 8) (roots := [(.cell (.base 3) 5, 7)]) (keep := [0, 1, 2, 3, 4, 8]) (drop := []) (h := .nil) (c := codeC (sub [0, 0] (tCm w h t p m c kd sx sy si n f u v L0 j))) (st := codeS (sub [0, 0] (tCm w h t p m c kd sx sy si n f u v L0 j))) (k := codeK (sub [0, 0] (tCm w h t p m c kd sx sy si n f u v L0 j))) (body := bodyCn) (by kernel_rfl) (by kernel_rfl)
        (fun q s => ∃ (f' : Nat) (k : Int) (L : List Int), q = f' ∧ f' ≤ 65 ∧ 65 - (f' : Int) ≤ k ∧ k ≤ 100 ∧ L ++ (if u == w - 1 then padF w h t p 7 w v f' k else []) = T ∧ s = invCn w h t p m c kd sx sy si u v L k)
        (fun e s => e = .exit 2 ∧ ∃ k : Int, s = invCn w h t p m c kd sx sy si u v T k)
        ⟨65, invCn w h t p m c kd sx sy si u v (L0 ++ wirL w h t p u v si) v, ⟨65, v, _, rfl, by omega, by obtain ⟨_, x1, x2⟩ := hB; omega, by obtain ⟨_, x1, x2⟩ := hB; omega, ?_, rfl⟩, ?_⟩ ?_ ?_
      · rw [hT, hL0]; unfold cloNA cloN padL
        simp only [List.append_assoc]
      · rw [← wirA_cell]
        exact entA_sound (roots := [(.cell (.base 3) 5, 7)]) (keep := [0, 1, 2, 3, 4, 8]) (drop := []) (nx := 8) (h := .nil) (by kernel_rfl)
      · rintro q s ⟨f', k, L, rfl, hf, hk, hk2, hL, rfl⟩
        refine Sat.of_eq (BCn_eq w h t p m c kd sx sy si u v L k) ?_
        constructor; unfold BCn
        have hLl : L.length ≤ 90073 := by rw [← hL, List.length_append] at hTl; omega
        rw [w64_of (n := w - 1) (by omega) (by omega)]
        refine ⟨fun h1 => ⟨hg, ⟨rfl, by omega, fun i hi => rfl⟩, ?_⟩, fun h1 => ?_⟩
        · simp only [Bool.and_eq_true, decide_eq_true_eq] at h1
          obtain ⟨h1, h2⟩ := h1
          obtain ⟨g, rfl⟩ : ∃ g, q = g + 1 := ⟨q - 1, by omega⟩
          have e : addL w h t p 7 w v k L.length (BCn_q1 L) = L ++ ndL w h t p 7 w v k := addL_cell _ _ _ _ _ _ _ _ L
          rw [w64_of (n := k + h) (by omega) (by omega)]
          refine ⟨g, _, by omega, ⟨g, k + h, L ++ ndL w h t p 7 w v k, rfl, by omega, by omega, by omega, ?_, rfl⟩, ?_⟩
          · rw [← hL, h1]
            simp only [if_true]
            conv => rhs; unfold padF
            rw [if_pos h2, List.append_assoc]
          · rw [← e]; exact Gc.refl _ _
        · refine ⟨_, ⟨rfl, k, ?_⟩, Gc.refl _ _⟩
          have e : T = L := by
            rw [← hL]
            rcases Bool.and_eq_false_iff.1 h1 with h2 | h2
            · rw [h2]; simp
            · have : ¬ k < p := by simpa using h2
              rw [padF_no this]; simp
          rw [e]; rfl
      · rintro e s ⟨rfl, k, rfl⟩
        refine Sat.of_eq (KCn_eq w h t p m c kd sx sy si n f u v L0 j T k) ⟨?_⟩
        rw [← hT]
        exact clo_gc (by kernel_rfl)
    exact kk
  · exact hr.elim
end Go.Proofs.YtgahnelicbddcaaGreatDoor

namespace Go.Proofs.YtgahnelicbddcaaGreatDoor
open Go.Sx
set_option maxRecDepth 100000

noncomputable def selClo : List SV → Heap → Option (List Nat) := fun args hp => match args with
  | [_, _, .ptr a 0, .ptr b 0, .ptr g 0] => (match hget hp a with
    | some (.cells [.ptr l 0]) => (match hget hp l with
      | some (.cells [_, _, _, _, _, .row l1 _ _ _ _]) => some [a, b, g, l, l1]
      | some (.cells [_, _, _, _, _, .d (.x (.slice none 0 0))]) => some [a, b, g, l]
      | _ => none)
    | _ => none)
  | _ => none
noncomputable def nilC (m : MCtr) : MCtr := fun args hp nx => match hp, nx with
  | [some (.cells [.ptr 3 0]), some (.cells [.d (.x (.int .i64 kd)), .d (.x (.int .i64 sx)), .d (.x (.int .i64 sy)), .d (.x (.int .i64 si))]), some (.cells [.d (.x (.int .i64 w)), .d (.x (.int .i64 h)), .d (.x (.int .i64 t)), .d (.x (.int .i64 p)), .d (.ro k 1 c)]),
      some (.cells [.d (.x (.int .i64 w')), .d (.x (.int .i64 h')), .d (.x (.int .i64 t')), .d (.x (.int .i64 p')), .d (.ro k' 1 c'), .d (.x (.slice none 0 0))])], 4 => (match args with
    | [.d (.x (.int .i64 u)), .d (.x (.int .i64 v)), .ptr 0 0, .ptr 1 0, .ptr 2 0] => m [iv u, iv v, .ptr 0 0, .ptr 1 0, .ptr 2 0]
        [some (.cells [.ptr 3 0]), some (.cells [iv kd, iv sx, iv sy, iv si]), some (.cells [iv w, iv h, iv t, iv p, .d (.ro k 1 c)]), some (.cells [iv w', iv h', iv t', iv p', .d (.ro k' 1 c'), .row 4 0 0 0 1]), some (.row 0 1 (cellL []))] 5
    | _ => .fail)
  | _, _ => m args hp nx
theorem nilC_ok {k : FuncId} {m : MCtr} (h : MuOK Tryz.prog k m) : MuOK Tryz.prog k (nilC m) := by
  intro args hp nx r hr
  unfold nilC at hr
  split at hr
  · rename_i kd sx sy si w h' t p k1 c w' h2 t' p' k2 c'
    split at hr
    · rename_i u v
      refine CallsTo.pre (hp1 := [some (.cells [.ptr 3 0]), some (.cells [iv kd, iv sx, iv sy, iv si]), some (.cells [iv w, iv h', iv t, iv p, .d (.ro k1 1 c)]), some (.cells [iv w', iv h2, iv t', iv p', .d (.ro k2 1 c'), .row 4 0 0 0 1]), some (.row 0 1 (cellL []))]) (nx1 := 5) (args1 := [iv u, iv v, .ptr 0 0, .ptr 1 0, .ptr 2 0]) ?_ rfl (h _ _ _ _ hr)
      refine gc_sound [] [4] rfl ?_ ?_
      · simp [leTm, leTV, leSV, rn, iv, leD]
      · simp [leHp, leBlk, leSVs, leSV, rn, iv, leD, srcOf, hget]
    · exact hr.elim
  · exact h _ _ _ _ hr
noncomputable def mCdC : MCtr := mcB selClo (nilC mCd)
noncomputable def mCnC : MCtr := mcB selClo (nilC mCn)
noncomputable def muA : FuncId → Option MCtr := fun k => match k with
  | 62 => some mCdC
  | 66 => some mCnC
  | k => mu9 k
theorem muA_ok (k : FuncId) (m : MCtr) (h : muA k = some m) : MuOK Tryz.prog k m := by
  unfold muA at h
  split at h
  · cases h; exact mcB_ok (nilC_ok mCd_ok)
  · cases h; exact mcB_ok (nilC_ok mCn_ok)
  · exact mu9_ok _ _ h
noncomputable def CE : Ctx := withMu Tryz.prog CB muA
theorem CE_ok : CtxOK Tryz.prog CE := withMu_ok CB_ok muA_ok
noncomputable def DE : Dr := fun _ => drawn Tryz.prog CE
theorem DE_ok : DrOK Tryz.prog CE DE := drawn_ok CE_ok mixed
noncomputable def TE (h : Hint) (k : Nat) (args : List SV) : Tree SV := fnT Tryz.prog CE DE 200 (fnOf Tryz.prog k) (bodyOf Tryz.prog k) args h
end Go.Proofs.YtgahnelicbddcaaGreatDoor

namespace Go.Proofs.YtgahnelicbddcaaGreatDoor
open Go.Sx
set_option maxRecDepth 100000
noncomputable def LDr_q1 (w : Int) (h : Int) (t : Int) (p : Int) (n : Int) (a : Nat) (b : Nat) : DV :=
  DV.x (.int .i64 (List.getD (allA w h t p (gX w h t p n) (gY w h t p n) 0 fun a b => DV.x (.int .i64 (List.getD [] a (0 : Int)))) a (0 : Int)))
noncomputable def LDr_q2 (w : Int) (h : Int) (t : Int) (p : Int) (n : Int) (a : Nat) (b : Nat) : DV :=
  DV.x
  (.int .i64
   (List.getD
   (addL w h t p (1 : Int) (gX w h t p n) (w64 (gY w h t p n - (1 : Int))) (0 : Int) (List.length (allA w h t p (gX w h t p n) (gY w h t p n) 0 fun a b => DV.x (.int .i64 (List.getD [] a (0 : Int)))))
   (LDr_q1 w h t p n))
   a (0 : Int)))
noncomputable def LDr_q3 (w : Int) (h : Int) (t : Int) (p : Int) (n : Int) (i : Nat) (j : Nat) : DV :=
  DV.x
  (.int .i64
   (List.getD
   (sbL n
   (lsOf
   (List.length
   (addL w h t p (1 : Int) (gX w h t p n) (w64 (gY w h t p n - (1 : Int))) (0 : Int) (List.length (allA w h t p (gX w h t p n) (gY w h t p n) 0 fun a b => DV.x (.int .i64 (List.getD [] a (0 : Int)))))
   (LDr_q1 w h t p n)))
   (LDr_q2 w h t p n)))
   (0 + i) (0 : Int)))
noncomputable def LDr_q4 (w : Int) (h : Int) (t : Int) (p : Int) (n : Int) (i : Nat) (j : Nat) : DV :=
  DV.x
  (.int .i64
   (List.getD (sbL n (lsOf (List.length (allA w h t p (gX w h t p n) (gY w h t p n) 0 fun a b => DV.x (.int .i64 (List.getD [] a (0 : Int))))) (LDr_q1 w h t p n))) (0 + i) (0 : Int)))
noncomputable def LDr_q5 (w : Int) (h : Int) (t : Int) (p : Int) (n : Int) (a : Nat) (b : Nat) : DV :=
  DV.x (.int .i64 (List.getD (allA w h t p (w64 (w - (1 : Int))) (gY w h t p n) 0 fun a b => DV.x (.int .i64 (List.getD [] a (0 : Int)))) a (0 : Int)))
noncomputable def LDr_q6 (w : Int) (h : Int) (t : Int) (p : Int) (n : Int) (i : Nat) (j : Nat) : DV :=
  DV.x
  (.int .i64
   (List.getD (sbL n (lsOf (List.length (allA w h t p (w64 (w - (1 : Int))) (gY w h t p n) 0 fun a b => DV.x (.int .i64 (List.getD [] a (0 : Int))))) (LDr_q5 w h t p n))) (0 + i) (0 : Int)))
noncomputable def LDr_q7 (w : Int) (h : Int) (t : Int) (p : Int) (n : Int) : Bool :=
  gK w h t p n == (4 : Int)
noncomputable def LDr_q8 (w : Int) (h : Int) (t : Int) (p : Int) (n : Int) (a : Nat) (b : Nat) : DV :=
  DV.x (.int .i64 (List.getD (cloDA w h t p (gI w h t p n) (gX w h t p n) (gY w h t p n) 0 fun a b => DV.x (.int .i64 (List.getD [] a (0 : Int)))) a (0 : Int)))
noncomputable def LDr_q9 (w : Int) (h : Int) (t : Int) (p : Int) (n : Int) (a : Nat) (b : Nat) : DV :=
  DV.x
  (.int .i64
   (List.getD
   (cloDA w h t p (gI w h t p n) (w64 (gX w h t p n + (1 : Int))) (gY w h t p n) (List.length (cloDA w h t p (gI w h t p n) (gX w h t p n) (gY w h t p n) 0 fun a b => DV.x (.int .i64 (List.getD [] a (0 : Int)))))
   (LDr_q8 w h t p n))
   a (0 : Int)))
noncomputable def LDr_q10 (w : Int) (h : Int) (t : Int) (p : Int) (n : Int) (i : Nat) (j : Nat) : DV :=
  DV.x
  (.int .i64
   (List.getD
   (sbL n
   (lsOf
   (List.length
   (cloDA w h t p (gI w h t p n) (w64 (gX w h t p n + (1 : Int))) (gY w h t p n)
   (List.length (cloDA w h t p (gI w h t p n) (gX w h t p n) (gY w h t p n) 0 fun a b => DV.x (.int .i64 (List.getD [] a (0 : Int))))) (LDr_q8 w h t p n)))
   (LDr_q9 w h t p n)))
   (0 + i) (0 : Int)))
noncomputable def LDr_q11 (w : Int) (h : Int) (t : Int) (p : Int) (n : Int) (i : Nat) (j : Nat) : DV :=
  DV.x
  (.int .i64
   (List.getD (sbL n (lsOf (List.length (cloDA w h t p (gI w h t p n) (gX w h t p n) (gY w h t p n) 0 fun a b => DV.x (.int .i64 (List.getD [] a (0 : Int))))) (LDr_q8 w h t p n))) (0 + i)
   (0 : Int)))
noncomputable def LDr_q12 (w : Int) (h : Int) (t : Int) (p : Int) (n : Int) (a : Nat) (b : Nat) : DV :=
  DV.x
  (.int .i64
   (List.getD
   (cloDA w h t p (gI w h t p n) (gX w h t p n) (w64 (gY w h t p n + (1 : Int))) (List.length (cloDA w h t p (gI w h t p n) (gX w h t p n) (gY w h t p n) 0 fun a b => DV.x (.int .i64 (List.getD [] a (0 : Int)))))
   (LDr_q8 w h t p n))
   a (0 : Int)))
noncomputable def LDr_q13 (w : Int) (h : Int) (t : Int) (p : Int) (n : Int) (i : Nat) (j : Nat) : DV :=
  DV.x
  (.int .i64
   (List.getD
   (sbL n
   (lsOf
   (List.length
   (cloDA w h t p (gI w h t p n) (gX w h t p n) (w64 (gY w h t p n + (1 : Int)))
   (List.length (cloDA w h t p (gI w h t p n) (gX w h t p n) (gY w h t p n) 0 fun a b => DV.x (.int .i64 (List.getD [] a (0 : Int))))) (LDr_q8 w h t p n)))
   (LDr_q12 w h t p n)))
   (0 + i) (0 : Int)))
noncomputable def LDr (w h t p : Int) (m : Nat) (c : Nat → Nat → DV) (n : Int) : Tree SV :=
 .need (okG w h t p)
 (.need (i64B n)
 (.ite (gE w h t p n != (0 : Int)) (.ret (SV.d (DV.x (.slice none 0 0))))
 (.ite (gK w h t p n == (3 : Int))
 (.need (okG w h t p ∧ smS (gX w h t p n) (gY w h t p n))
 (.need (0 = 0 ∧ 0 ≤ 98000 ∧ IntRow 0 fun a b => DV.x (.int .i64 (List.getD [] a (0 : Int))))
 (.ite (gI w h t p n == (3 : Int))
 (.need (okG w h t p)
 (.need
 (List.length (allA w h t p (gX w h t p n) (gY w h t p n) 0 fun a b => DV.x (.int .i64 (List.getD [] a (0 : Int)))) =
 List.length (allA w h t p (gX w h t p n) (gY w h t p n) 0 fun a b => DV.x (.int .i64 (List.getD [] a (0 : Int)))) ∧
 List.length (allA w h t p (gX w h t p n) (gY w h t p n) 0 fun a b => DV.x (.int .i64 (List.getD [] a (0 : Int)))) ≤ 100000 ∧
 IntRow (List.length (allA w h t p (gX w h t p n) (gY w h t p n) 0 fun a b => DV.x (.int .i64 (List.getD [] a (0 : Int))))) (LDr_q1 w h t p n))
 (.need
 (List.length
 (addL w h t p (1 : Int) (gX w h t p n) (w64 (gY w h t p n - (1 : Int))) (0 : Int)
 (List.length (allA w h t p (gX w h t p n) (gY w h t p n) 0 fun a b => DV.x (.int .i64 (List.getD [] a (0 : Int))))) (LDr_q1 w h t p n)) =
 List.length
 (addL w h t p (1 : Int) (gX w h t p n) (w64 (gY w h t p n - (1 : Int))) (0 : Int)
 (List.length (allA w h t p (gX w h t p n) (gY w h t p n) 0 fun a b => DV.x (.int .i64 (List.getD [] a (0 : Int))))) (LDr_q1 w h t p n)) ∧
 List.length
 (addL w h t p (1 : Int) (gX w h t p n) (w64 (gY w h t p n - (1 : Int))) (0 : Int)
 (List.length (allA w h t p (gX w h t p n) (gY w h t p n) 0 fun a b => DV.x (.int .i64 (List.getD [] a (0 : Int))))) (LDr_q1 w h t p n)) ≤
 100000 ∧
 IntRow
 (List.length
 (addL w h t p (1 : Int) (gX w h t p n) (w64 (gY w h t p n - (1 : Int))) (0 : Int)
 (List.length (allA w h t p (gX w h t p n) (gY w h t p n) 0 fun a b => DV.x (.int .i64 (List.getD [] a (0 : Int))))) (LDr_q1 w h t p n)))
 (LDr_q2 w h t p n))
 (.need
 (0 +
 List.length
 (sbL n
 (lsOf
 (List.length
 (addL w h t p (1 : Int) (gX w h t p n) (w64 (gY w h t p n - (1 : Int))) (0 : Int)
 (List.length (allA w h t p (gX w h t p n) (gY w h t p n) 0 fun a b => DV.x (.int .i64 (List.getD [] a (0 : Int))))) (LDr_q1 w h t p n)))
 (LDr_q2 w h t p n))) ≤
 List.length
 (sbL n
 (lsOf
 (List.length
 (addL w h t p (1 : Int) (gX w h t p n) (w64 (gY w h t p n - (1 : Int))) (0 : Int)
 (List.length (allA w h t p (gX w h t p n) (gY w h t p n) 0 fun a b => DV.x (.int .i64 (List.getD [] a (0 : Int))))) (LDr_q1 w h t p n)))
 (LDr_q2 w h t p n))))
 (.ret
 (SV.d
 (DV.ro
 (List.length
 (sbL n
 (lsOf
 (List.length
 (addL w h t p (1 : Int) (gX w h t p n) (w64 (gY w h t p n - (1 : Int))) (0 : Int)
 (List.length (allA w h t p (gX w h t p n) (gY w h t p n) 0 fun a b => DV.x (.int .i64 (List.getD [] a (0 : Int))))) (LDr_q1 w h t p n)))
 (LDr_q2 w h t p n))))
 1 (LDr_q3 w h t p n))))))))
 (.need
 (List.length (allA w h t p (gX w h t p n) (gY w h t p n) 0 fun a b => DV.x (.int .i64 (List.getD [] a (0 : Int)))) =
 List.length (allA w h t p (gX w h t p n) (gY w h t p n) 0 fun a b => DV.x (.int .i64 (List.getD [] a (0 : Int)))) ∧
 List.length (allA w h t p (gX w h t p n) (gY w h t p n) 0 fun a b => DV.x (.int .i64 (List.getD [] a (0 : Int)))) ≤ 100000 ∧
 IntRow (List.length (allA w h t p (gX w h t p n) (gY w h t p n) 0 fun a b => DV.x (.int .i64 (List.getD [] a (0 : Int))))) (LDr_q1 w h t p n))
 (.need
 (0 + List.length (sbL n (lsOf (List.length (allA w h t p (gX w h t p n) (gY w h t p n) 0 fun a b => DV.x (.int .i64 (List.getD [] a (0 : Int))))) (LDr_q1 w h t p n))) ≤
 List.length (sbL n (lsOf (List.length (allA w h t p (gX w h t p n) (gY w h t p n) 0 fun a b => DV.x (.int .i64 (List.getD [] a (0 : Int))))) (LDr_q1 w h t p n))))
 (.ret
 (SV.d
 (DV.ro (List.length (sbL n (lsOf (List.length (allA w h t p (gX w h t p n) (gY w h t p n) 0 fun a b => DV.x (.int .i64 (List.getD [] a (0 : Int))))) (LDr_q1 w h t p n)))) 1
 (LDr_q4 w h t p n)))))))))
 (.ite (gK w h t p n == (7 : Int))
 (.need (okG w h t p ∧ smS (w64 (w - (1 : Int))) (gY w h t p n))
 (.need (0 = 0 ∧ 0 ≤ 98000 ∧ IntRow 0 fun a b => DV.x (.int .i64 (List.getD [] a (0 : Int))))
 (.need
 (List.length (allA w h t p (w64 (w - (1 : Int))) (gY w h t p n) 0 fun a b => DV.x (.int .i64 (List.getD [] a (0 : Int)))) =
 List.length (allA w h t p (w64 (w - (1 : Int))) (gY w h t p n) 0 fun a b => DV.x (.int .i64 (List.getD [] a (0 : Int)))) ∧
 List.length (allA w h t p (w64 (w - (1 : Int))) (gY w h t p n) 0 fun a b => DV.x (.int .i64 (List.getD [] a (0 : Int)))) ≤ 100000 ∧
 IntRow (List.length (allA w h t p (w64 (w - (1 : Int))) (gY w h t p n) 0 fun a b => DV.x (.int .i64 (List.getD [] a (0 : Int))))) (LDr_q5 w h t p n))
 (.need
 (0 + List.length (sbL n (lsOf (List.length (allA w h t p (w64 (w - (1 : Int))) (gY w h t p n) 0 fun a b => DV.x (.int .i64 (List.getD [] a (0 : Int))))) (LDr_q5 w h t p n))) ≤
 List.length (sbL n (lsOf (List.length (allA w h t p (w64 (w - (1 : Int))) (gY w h t p n) 0 fun a b => DV.x (.int .i64 (List.getD [] a (0 : Int))))) (LDr_q5 w h t p n))))
 (.ret
 (SV.d
 (DV.ro (List.length (sbL n (lsOf (List.length (allA w h t p (w64 (w - (1 : Int))) (gY w h t p n) 0 fun a b => DV.x (.int .i64 (List.getD [] a (0 : Int))))) (LDr_q5 w h t p n))))
 1 (LDr_q6 w h t p n))))))))
 (.ite (LDr_q7 w h t p n)
 (.ite (LDr_q7 w h t p n)
 (.need (okG w h t p ∧ tilB (gX w h t p n) (gY w h t p n))
 (.need ((w = w ∧ h = h ∧ t = t ∧ p = p ∧ m = m ∧ c = c) ∧ 0 = 0 ∧ 0 ≤ 90000 ∧ IntRow 0 fun a b => DV.x (.int .i64 (List.getD [] a (0 : Int))))
 (.ite (LDr_q7 w h t p n)
 (.ite (decide (w64 (gX w h t p n + (1 : Int)) < w) && decide (gY w h t p n < h))
 (.need (okG w h t p ∧ tilB (w64 (gX w h t p n + (1 : Int))) (gY w h t p n))
 (.need
 ((w = w ∧ h = h ∧ t = t ∧ p = p ∧ m = m ∧ c = c) ∧
 List.length (cloDA w h t p (gI w h t p n) (gX w h t p n) (gY w h t p n) 0 fun a b => DV.x (.int .i64 (List.getD [] a (0 : Int)))) =
 List.length (cloDA w h t p (gI w h t p n) (gX w h t p n) (gY w h t p n) 0 fun a b => DV.x (.int .i64 (List.getD [] a (0 : Int)))) ∧
 List.length (cloDA w h t p (gI w h t p n) (gX w h t p n) (gY w h t p n) 0 fun a b => DV.x (.int .i64 (List.getD [] a (0 : Int)))) ≤ 90000 ∧
 IntRow (List.length (cloDA w h t p (gI w h t p n) (gX w h t p n) (gY w h t p n) 0 fun a b => DV.x (.int .i64 (List.getD [] a (0 : Int))))) (LDr_q8 w h t p n))
 (.need
 (List.length
 (cloDA w h t p (gI w h t p n) (w64 (gX w h t p n + (1 : Int))) (gY w h t p n)
 (List.length (cloDA w h t p (gI w h t p n) (gX w h t p n) (gY w h t p n) 0 fun a b => DV.x (.int .i64 (List.getD [] a (0 : Int))))) (LDr_q8 w h t p n)) =
 List.length
 (cloDA w h t p (gI w h t p n) (w64 (gX w h t p n + (1 : Int))) (gY w h t p n)
 (List.length (cloDA w h t p (gI w h t p n) (gX w h t p n) (gY w h t p n) 0 fun a b => DV.x (.int .i64 (List.getD [] a (0 : Int))))) (LDr_q8 w h t p n)) ∧
 List.length
 (cloDA w h t p (gI w h t p n) (w64 (gX w h t p n + (1 : Int))) (gY w h t p n)
 (List.length (cloDA w h t p (gI w h t p n) (gX w h t p n) (gY w h t p n) 0 fun a b => DV.x (.int .i64 (List.getD [] a (0 : Int))))) (LDr_q8 w h t p n)) ≤
 100000 ∧
 IntRow
 (List.length
 (cloDA w h t p (gI w h t p n) (w64 (gX w h t p n + (1 : Int))) (gY w h t p n)
 (List.length (cloDA w h t p (gI w h t p n) (gX w h t p n) (gY w h t p n) 0 fun a b => DV.x (.int .i64 (List.getD [] a (0 : Int))))) (LDr_q8 w h t p n)))
 (LDr_q9 w h t p n))
 (.need
 (0 +
 List.length
 (sbL n
 (lsOf
 (List.length
 (cloDA w h t p (gI w h t p n) (w64 (gX w h t p n + (1 : Int))) (gY w h t p n)
 (List.length (cloDA w h t p (gI w h t p n) (gX w h t p n) (gY w h t p n) 0 fun a b => DV.x (.int .i64 (List.getD [] a (0 : Int))))) (LDr_q8 w h t p n)))
 (LDr_q9 w h t p n))) ≤
 List.length
 (sbL n
 (lsOf
 (List.length
 (cloDA w h t p (gI w h t p n) (w64 (gX w h t p n + (1 : Int))) (gY w h t p n)
 (List.length (cloDA w h t p (gI w h t p n) (gX w h t p n) (gY w h t p n) 0 fun a b => DV.x (.int .i64 (List.getD [] a (0 : Int))))) (LDr_q8 w h t p n)))
 (LDr_q9 w h t p n))))
 (.ret
 (SV.d
 (DV.ro
 (List.length
 (sbL n
 (lsOf
 (List.length
 (cloDA w h t p (gI w h t p n) (w64 (gX w h t p n + (1 : Int))) (gY w h t p n)
 (List.length (cloDA w h t p (gI w h t p n) (gX w h t p n) (gY w h t p n) 0 fun a b => DV.x (.int .i64 (List.getD [] a (0 : Int))))) (LDr_q8 w h t p n)))
 (LDr_q9 w h t p n))))
 1 (LDr_q10 w h t p n))))))))
 (.need
 (List.length (cloDA w h t p (gI w h t p n) (gX w h t p n) (gY w h t p n) 0 fun a b => DV.x (.int .i64 (List.getD [] a (0 : Int)))) =
 List.length (cloDA w h t p (gI w h t p n) (gX w h t p n) (gY w h t p n) 0 fun a b => DV.x (.int .i64 (List.getD [] a (0 : Int)))) ∧
 List.length (cloDA w h t p (gI w h t p n) (gX w h t p n) (gY w h t p n) 0 fun a b => DV.x (.int .i64 (List.getD [] a (0 : Int)))) ≤ 100000 ∧
 IntRow (List.length (cloDA w h t p (gI w h t p n) (gX w h t p n) (gY w h t p n) 0 fun a b => DV.x (.int .i64 (List.getD [] a (0 : Int))))) (LDr_q8 w h t p n))
 (.need
 (0 +
 List.length
 (sbL n (lsOf (List.length (cloDA w h t p (gI w h t p n) (gX w h t p n) (gY w h t p n) 0 fun a b => DV.x (.int .i64 (List.getD [] a (0 : Int))))) (LDr_q8 w h t p n))) ≤
 List.length (sbL n (lsOf (List.length (cloDA w h t p (gI w h t p n) (gX w h t p n) (gY w h t p n) 0 fun a b => DV.x (.int .i64 (List.getD [] a (0 : Int))))) (LDr_q8 w h t p n))))
 (.ret
 (SV.d
 (DV.ro
 (List.length
 (sbL n (lsOf (List.length (cloDA w h t p (gI w h t p n) (gX w h t p n) (gY w h t p n) 0 fun a b => DV.x (.int .i64 (List.getD [] a (0 : Int))))) (LDr_q8 w h t p n))))
 1 (LDr_q11 w h t p n)))))))
 (.ite (decide (gX w h t p n < w) && decide (w64 (gY w h t p n + (1 : Int)) < h))
 (.need (okG w h t p ∧ tilB (gX w h t p n) (w64 (gY w h t p n + (1 : Int))))
 (.need
 ((w = w ∧ h = h ∧ t = t ∧ p = p ∧ m = m ∧ c = c) ∧
 List.length (cloDA w h t p (gI w h t p n) (gX w h t p n) (gY w h t p n) 0 fun a b => DV.x (.int .i64 (List.getD [] a (0 : Int)))) =
 List.length (cloDA w h t p (gI w h t p n) (gX w h t p n) (gY w h t p n) 0 fun a b => DV.x (.int .i64 (List.getD [] a (0 : Int)))) ∧
 List.length (cloDA w h t p (gI w h t p n) (gX w h t p n) (gY w h t p n) 0 fun a b => DV.x (.int .i64 (List.getD [] a (0 : Int)))) ≤ 90000 ∧
 IntRow (List.length (cloDA w h t p (gI w h t p n) (gX w h t p n) (gY w h t p n) 0 fun a b => DV.x (.int .i64 (List.getD [] a (0 : Int))))) (LDr_q8 w h t p n))
 (.need
 (List.length
 (cloDA w h t p (gI w h t p n) (gX w h t p n) (w64 (gY w h t p n + (1 : Int)))
 (List.length (cloDA w h t p (gI w h t p n) (gX w h t p n) (gY w h t p n) 0 fun a b => DV.x (.int .i64 (List.getD [] a (0 : Int))))) (LDr_q8 w h t p n)) =
 List.length
 (cloDA w h t p (gI w h t p n) (gX w h t p n) (w64 (gY w h t p n + (1 : Int)))
 (List.length (cloDA w h t p (gI w h t p n) (gX w h t p n) (gY w h t p n) 0 fun a b => DV.x (.int .i64 (List.getD [] a (0 : Int))))) (LDr_q8 w h t p n)) ∧
 List.length
 (cloDA w h t p (gI w h t p n) (gX w h t p n) (w64 (gY w h t p n + (1 : Int)))
 (List.length (cloDA w h t p (gI w h t p n) (gX w h t p n) (gY w h t p n) 0 fun a b => DV.x (.int .i64 (List.getD [] a (0 : Int))))) (LDr_q8 w h t p n)) ≤
 100000 ∧
 IntRow
 (List.length
 (cloDA w h t p (gI w h t p n) (gX w h t p n) (w64 (gY w h t p n + (1 : Int)))
 (List.length (cloDA w h t p (gI w h t p n) (gX w h t p n) (gY w h t p n) 0 fun a b => DV.x (.int .i64 (List.getD [] a (0 : Int))))) (LDr_q8 w h t p n)))
 (LDr_q12 w h t p n))
 (.need
 (0 +
 List.length
 (sbL n
 (lsOf
 (List.length
 (cloDA w h t p (gI w h t p n) (gX w h t p n) (w64 (gY w h t p n + (1 : Int)))
 (List.length (cloDA w h t p (gI w h t p n) (gX w h t p n) (gY w h t p n) 0 fun a b => DV.x (.int .i64 (List.getD [] a (0 : Int))))) (LDr_q8 w h t p n)))
 (LDr_q12 w h t p n))) ≤
 List.length
 (sbL n
 (lsOf
 (List.length
 (cloDA w h t p (gI w h t p n) (gX w h t p n) (w64 (gY w h t p n + (1 : Int)))
 (List.length (cloDA w h t p (gI w h t p n) (gX w h t p n) (gY w h t p n) 0 fun a b => DV.x (.int .i64 (List.getD [] a (0 : Int))))) (LDr_q8 w h t p n)))
 (LDr_q12 w h t p n))))
 (.ret
 (SV.d
 (DV.ro
 (List.length
 (sbL n
 (lsOf
 (List.length
 (cloDA w h t p (gI w h t p n) (gX w h t p n) (w64 (gY w h t p n + (1 : Int)))
 (List.length (cloDA w h t p (gI w h t p n) (gX w h t p n) (gY w h t p n) 0 fun a b => DV.x (.int .i64 (List.getD [] a (0 : Int))))) (LDr_q8 w h t p n)))
 (LDr_q12 w h t p n))))
 1 (LDr_q13 w h t p n))))))))
 (.need
 (List.length (cloDA w h t p (gI w h t p n) (gX w h t p n) (gY w h t p n) 0 fun a b => DV.x (.int .i64 (List.getD [] a (0 : Int)))) =
 List.length (cloDA w h t p (gI w h t p n) (gX w h t p n) (gY w h t p n) 0 fun a b => DV.x (.int .i64 (List.getD [] a (0 : Int)))) ∧
 List.length (cloDA w h t p (gI w h t p n) (gX w h t p n) (gY w h t p n) 0 fun a b => DV.x (.int .i64 (List.getD [] a (0 : Int)))) ≤ 100000 ∧
 IntRow (List.length (cloDA w h t p (gI w h t p n) (gX w h t p n) (gY w h t p n) 0 fun a b => DV.x (.int .i64 (List.getD [] a (0 : Int))))) (LDr_q8 w h t p n))
 (.need
 (0 +
 List.length
 (sbL n (lsOf (List.length (cloDA w h t p (gI w h t p n) (gX w h t p n) (gY w h t p n) 0 fun a b => DV.x (.int .i64 (List.getD [] a (0 : Int))))) (LDr_q8 w h t p n))) ≤
 List.length (sbL n (lsOf (List.length (cloDA w h t p (gI w h t p n) (gX w h t p n) (gY w h t p n) 0 fun a b => DV.x (.int .i64 (List.getD [] a (0 : Int))))) (LDr_q8 w h t p n))))
 (.ret
 (SV.d
 (DV.ro
 (List.length
 (sbL n (lsOf (List.length (cloDA w h t p (gI w h t p n) (gX w h t p n) (gY w h t p n) 0 fun a b => DV.x (.int .i64 (List.getD [] a (0 : Int))))) (LDr_q8 w h t p n))))
 1 (LDr_q11 w h t p n))))))))))
 (.need (0 = 0 ∧ 0 ≤ 100000 ∧ IntRow 0 fun a b => DV.x (.int .i64 (List.getD [] a (0 : Int))))
 (.need (0 ≤ 0) (.ret (SV.d (DV.ro 0 1 fun i j => DV.x (.int .i64 (List.getD [] (0 + i) (0 : Int)))))))))
 (.ite (gK w h t p n == (5 : Int))
 (.need (okG w h t p ∧ tilB (gX w h t p n) (gY w h t p n))
 (.need ((w = w ∧ h = h ∧ t = t ∧ p = p ∧ m = m ∧ c = c) ∧ 0 = 0 ∧ 0 ≤ 90000 ∧ IntRow 0 fun a b => DV.x (.int .i64 (List.getD [] a (0 : Int))))
 (.ite (LDr_q7 w h t p n)
 (.ite (decide (w64 (gX w h t p n + (1 : Int)) < w) && decide (gY w h t p n < h))
 (.need (okG w h t p ∧ tilB (w64 (gX w h t p n + (1 : Int))) (gY w h t p n))
 (.need
 ((w = w ∧ h = h ∧ t = t ∧ p = p ∧ m = m ∧ c = c) ∧
 List.length (cloDA w h t p (gI w h t p n) (gX w h t p n) (gY w h t p n) 0 fun a b => DV.x (.int .i64 (List.getD [] a (0 : Int)))) =
 List.length (cloDA w h t p (gI w h t p n) (gX w h t p n) (gY w h t p n) 0 fun a b => DV.x (.int .i64 (List.getD [] a (0 : Int)))) ∧
 List.length (cloDA w h t p (gI w h t p n) (gX w h t p n) (gY w h t p n) 0 fun a b => DV.x (.int .i64 (List.getD [] a (0 : Int)))) ≤ 90000 ∧
 IntRow (List.length (cloDA w h t p (gI w h t p n) (gX w h t p n) (gY w h t p n) 0 fun a b => DV.x (.int .i64 (List.getD [] a (0 : Int))))) (LDr_q8 w h t p n))
 (.need
 (List.length
 (cloDA w h t p (gI w h t p n) (w64 (gX w h t p n + (1 : Int))) (gY w h t p n)
 (List.length (cloDA w h t p (gI w h t p n) (gX w h t p n) (gY w h t p n) 0 fun a b => DV.x (.int .i64 (List.getD [] a (0 : Int))))) (LDr_q8 w h t p n)) =
 List.length
 (cloDA w h t p (gI w h t p n) (w64 (gX w h t p n + (1 : Int))) (gY w h t p n)
 (List.length (cloDA w h t p (gI w h t p n) (gX w h t p n) (gY w h t p n) 0 fun a b => DV.x (.int .i64 (List.getD [] a (0 : Int))))) (LDr_q8 w h t p n)) ∧
 List.length
 (cloDA w h t p (gI w h t p n) (w64 (gX w h t p n + (1 : Int))) (gY w h t p n)
 (List.length (cloDA w h t p (gI w h t p n) (gX w h t p n) (gY w h t p n) 0 fun a b => DV.x (.int .i64 (List.getD [] a (0 : Int))))) (LDr_q8 w h t p n)) ≤
 100000 ∧
 IntRow
 (List.length
 (cloDA w h t p (gI w h t p n) (w64 (gX w h t p n + (1 : Int))) (gY w h t p n)
 (List.length (cloDA w h t p (gI w h t p n) (gX w h t p n) (gY w h t p n) 0 fun a b => DV.x (.int .i64 (List.getD [] a (0 : Int))))) (LDr_q8 w h t p n)))
 (LDr_q9 w h t p n))
 (.need
 (0 +
 List.length
 (sbL n
 (lsOf
 (List.length
 (cloDA w h t p (gI w h t p n) (w64 (gX w h t p n + (1 : Int))) (gY w h t p n)
 (List.length (cloDA w h t p (gI w h t p n) (gX w h t p n) (gY w h t p n) 0 fun a b => DV.x (.int .i64 (List.getD [] a (0 : Int))))) (LDr_q8 w h t p n)))
 (LDr_q9 w h t p n))) ≤
 List.length
 (sbL n
 (lsOf
 (List.length
 (cloDA w h t p (gI w h t p n) (w64 (gX w h t p n + (1 : Int))) (gY w h t p n)
 (List.length (cloDA w h t p (gI w h t p n) (gX w h t p n) (gY w h t p n) 0 fun a b => DV.x (.int .i64 (List.getD [] a (0 : Int))))) (LDr_q8 w h t p n)))
 (LDr_q9 w h t p n))))
 (.ret
 (SV.d
 (DV.ro
 (List.length
 (sbL n
 (lsOf
 (List.length
 (cloDA w h t p (gI w h t p n) (w64 (gX w h t p n + (1 : Int))) (gY w h t p n)
 (List.length (cloDA w h t p (gI w h t p n) (gX w h t p n) (gY w h t p n) 0 fun a b => DV.x (.int .i64 (List.getD [] a (0 : Int))))) (LDr_q8 w h t p n)))
 (LDr_q9 w h t p n))))
 1 (LDr_q10 w h t p n))))))))
 (.need
 (List.length (cloDA w h t p (gI w h t p n) (gX w h t p n) (gY w h t p n) 0 fun a b => DV.x (.int .i64 (List.getD [] a (0 : Int)))) =
 List.length (cloDA w h t p (gI w h t p n) (gX w h t p n) (gY w h t p n) 0 fun a b => DV.x (.int .i64 (List.getD [] a (0 : Int)))) ∧
 List.length (cloDA w h t p (gI w h t p n) (gX w h t p n) (gY w h t p n) 0 fun a b => DV.x (.int .i64 (List.getD [] a (0 : Int)))) ≤ 100000 ∧
 IntRow (List.length (cloDA w h t p (gI w h t p n) (gX w h t p n) (gY w h t p n) 0 fun a b => DV.x (.int .i64 (List.getD [] a (0 : Int))))) (LDr_q8 w h t p n))
 (.need
 (0 +
 List.length
 (sbL n (lsOf (List.length (cloDA w h t p (gI w h t p n) (gX w h t p n) (gY w h t p n) 0 fun a b => DV.x (.int .i64 (List.getD [] a (0 : Int))))) (LDr_q8 w h t p n))) ≤
 List.length (sbL n (lsOf (List.length (cloDA w h t p (gI w h t p n) (gX w h t p n) (gY w h t p n) 0 fun a b => DV.x (.int .i64 (List.getD [] a (0 : Int))))) (LDr_q8 w h t p n))))
 (.ret
 (SV.d
 (DV.ro
 (List.length
 (sbL n (lsOf (List.length (cloDA w h t p (gI w h t p n) (gX w h t p n) (gY w h t p n) 0 fun a b => DV.x (.int .i64 (List.getD [] a (0 : Int))))) (LDr_q8 w h t p n))))
 1 (LDr_q11 w h t p n)))))))
 (.ite (decide (gX w h t p n < w) && decide (w64 (gY w h t p n + (1 : Int)) < h))
 (.need (okG w h t p ∧ tilB (gX w h t p n) (w64 (gY w h t p n + (1 : Int))))
 (.need
 ((w = w ∧ h = h ∧ t = t ∧ p = p ∧ m = m ∧ c = c) ∧
 List.length (cloDA w h t p (gI w h t p n) (gX w h t p n) (gY w h t p n) 0 fun a b => DV.x (.int .i64 (List.getD [] a (0 : Int)))) =
 List.length (cloDA w h t p (gI w h t p n) (gX w h t p n) (gY w h t p n) 0 fun a b => DV.x (.int .i64 (List.getD [] a (0 : Int)))) ∧
 List.length (cloDA w h t p (gI w h t p n) (gX w h t p n) (gY w h t p n) 0 fun a b => DV.x (.int .i64 (List.getD [] a (0 : Int)))) ≤ 90000 ∧
 IntRow (List.length (cloDA w h t p (gI w h t p n) (gX w h t p n) (gY w h t p n) 0 fun a b => DV.x (.int .i64 (List.getD [] a (0 : Int))))) (LDr_q8 w h t p n))
 (.need
 (List.length
 (cloDA w h t p (gI w h t p n) (gX w h t p n) (w64 (gY w h t p n + (1 : Int)))
 (List.length (cloDA w h t p (gI w h t p n) (gX w h t p n) (gY w h t p n) 0 fun a b => DV.x (.int .i64 (List.getD [] a (0 : Int))))) (LDr_q8 w h t p n)) =
 List.length
 (cloDA w h t p (gI w h t p n) (gX w h t p n) (w64 (gY w h t p n + (1 : Int)))
 (List.length (cloDA w h t p (gI w h t p n) (gX w h t p n) (gY w h t p n) 0 fun a b => DV.x (.int .i64 (List.getD [] a (0 : Int))))) (LDr_q8 w h t p n)) ∧
 List.length
 (cloDA w h t p (gI w h t p n) (gX w h t p n) (w64 (gY w h t p n + (1 : Int)))
 (List.length (cloDA w h t p (gI w h t p n) (gX w h t p n) (gY w h t p n) 0 fun a b => DV.x (.int .i64 (List.getD [] a (0 : Int))))) (LDr_q8 w h t p n)) ≤
 100000 ∧
 IntRow
 (List.length
 (cloDA w h t p (gI w h t p n) (gX w h t p n) (w64 (gY w h t p n + (1 : Int)))
 (List.length (cloDA w h t p (gI w h t p n) (gX w h t p n) (gY w h t p n) 0 fun a b => DV.x (.int .i64 (List.getD [] a (0 : Int))))) (LDr_q8 w h t p n)))
 (LDr_q12 w h t p n))
 (.need
 (0 +
 List.length
 (sbL n
 (lsOf
 (List.length
 (cloDA w h t p (gI w h t p n) (gX w h t p n) (w64 (gY w h t p n + (1 : Int)))
 (List.length (cloDA w h t p (gI w h t p n) (gX w h t p n) (gY w h t p n) 0 fun a b => DV.x (.int .i64 (List.getD [] a (0 : Int))))) (LDr_q8 w h t p n)))
 (LDr_q12 w h t p n))) ≤
 List.length
 (sbL n
 (lsOf
 (List.length
 (cloDA w h t p (gI w h t p n) (gX w h t p n) (w64 (gY w h t p n + (1 : Int)))
 (List.length (cloDA w h t p (gI w h t p n) (gX w h t p n) (gY w h t p n) 0 fun a b => DV.x (.int .i64 (List.getD [] a (0 : Int))))) (LDr_q8 w h t p n)))
 (LDr_q12 w h t p n))))
 (.ret
 (SV.d
 (DV.ro
 (List.length
 (sbL n
 (lsOf
 (List.length
 (cloDA w h t p (gI w h t p n) (gX w h t p n) (w64 (gY w h t p n + (1 : Int)))
 (List.length (cloDA w h t p (gI w h t p n) (gX w h t p n) (gY w h t p n) 0 fun a b => DV.x (.int .i64 (List.getD [] a (0 : Int))))) (LDr_q8 w h t p n)))
 (LDr_q12 w h t p n))))
 1 (LDr_q13 w h t p n))))))))
 (.need
 (List.length (cloDA w h t p (gI w h t p n) (gX w h t p n) (gY w h t p n) 0 fun a b => DV.x (.int .i64 (List.getD [] a (0 : Int)))) =
 List.length (cloDA w h t p (gI w h t p n) (gX w h t p n) (gY w h t p n) 0 fun a b => DV.x (.int .i64 (List.getD [] a (0 : Int)))) ∧
 List.length (cloDA w h t p (gI w h t p n) (gX w h t p n) (gY w h t p n) 0 fun a b => DV.x (.int .i64 (List.getD [] a (0 : Int)))) ≤ 100000 ∧
 IntRow (List.length (cloDA w h t p (gI w h t p n) (gX w h t p n) (gY w h t p n) 0 fun a b => DV.x (.int .i64 (List.getD [] a (0 : Int))))) (LDr_q8 w h t p n))
 (.need
 (0 +
 List.length
 (sbL n (lsOf (List.length (cloDA w h t p (gI w h t p n) (gX w h t p n) (gY w h t p n) 0 fun a b => DV.x (.int .i64 (List.getD [] a (0 : Int))))) (LDr_q8 w h t p n))) ≤
 List.length (sbL n (lsOf (List.length (cloDA w h t p (gI w h t p n) (gX w h t p n) (gY w h t p n) 0 fun a b => DV.x (.int .i64 (List.getD [] a (0 : Int))))) (LDr_q8 w h t p n))))
 (.ret
 (SV.d
 (DV.ro
 (List.length
 (sbL n (lsOf (List.length (cloDA w h t p (gI w h t p n) (gX w h t p n) (gY w h t p n) 0 fun a b => DV.x (.int .i64 (List.getD [] a (0 : Int))))) (LDr_q8 w h t p n))))
 1 (LDr_q11 w h t p n))))))))))
 (.need (0 = 0 ∧ 0 ≤ 100000 ∧ IntRow 0 fun a b => DV.x (.int .i64 (List.getD [] a (0 : Int))))
 (.need (0 ≤ 0) (.ret (SV.d (DV.ro 0 1 fun i j => DV.x (.int .i64 (List.getD [] (0 + i) (0 : Int))))))))))))))

theorem LDr_eq (w h t p : Int) (m : Nat) (c : Nat → Nat → DV) (n : Int) : TE .nil 29 [gridV w h t p (.d (.ro m 1 c)), iv n] = LDr w h t p m c n := by kernel_rfl

noncomputable def LDv_q1 (w : Int) (h : Int) (t : Int) (p : Int) (n : Int) (a : Nat) (b : Nat) : DV :=
  DV.x (.int .i64 (List.getD (allA w h t p (gX w h t p n) (gY w h t p n) 0 fun a b => DV.x (.int .i64 (List.getD [] a (0 : Int)))) a (0 : Int)))
noncomputable def LDv_q2 (w : Int) (h : Int) (t : Int) (p : Int) (n : Int) (a : Nat) (b : Nat) : DV :=
  DV.x
  (.int .i64
   (List.getD
   (addL w h t p (3 : Int) (gX w h t p n) (w64 (gY w h t p n + (1 : Int))) (3 : Int) (List.length (allA w h t p (gX w h t p n) (gY w h t p n) 0 fun a b => DV.x (.int .i64 (List.getD [] a (0 : Int)))))
   (LDv_q1 w h t p n))
   a (0 : Int)))
noncomputable def LDv_q3 (w : Int) (h : Int) (t : Int) (p : Int) (n : Int) (i : Nat) (j : Nat) : DV :=
  DV.x
  (.int .i64
   (List.getD
   (sbL n
   (lsOf
   (List.length
   (addL w h t p (3 : Int) (gX w h t p n) (w64 (gY w h t p n + (1 : Int))) (3 : Int) (List.length (allA w h t p (gX w h t p n) (gY w h t p n) 0 fun a b => DV.x (.int .i64 (List.getD [] a (0 : Int)))))
   (LDv_q1 w h t p n)))
   (LDv_q2 w h t p n)))
   (0 + i) (0 : Int)))
noncomputable def LDv_q4 (w : Int) (h : Int) (t : Int) (p : Int) (n : Int) (i : Nat) (j : Nat) : DV :=
  DV.x
  (.int .i64
   (List.getD (sbL n (lsOf (List.length (allA w h t p (gX w h t p n) (gY w h t p n) 0 fun a b => DV.x (.int .i64 (List.getD [] a (0 : Int))))) (LDv_q1 w h t p n))) (0 + i) (0 : Int)))
noncomputable def LDv_q5 (w : Int) (h : Int) (t : Int) (p : Int) (n : Int) (a : Nat) (b : Nat) : DV :=
  DV.x (.int .i64 (List.getD (allA w h t p (0 : Int) (gY w h t p n) 0 fun a b => DV.x (.int .i64 (List.getD [] a (0 : Int)))) a (0 : Int)))
noncomputable def LDv_q6 (w : Int) (h : Int) (t : Int) (p : Int) (n : Int) (i : Nat) (j : Nat) : DV :=
  DV.x
  (.int .i64
   (List.getD (sbL n (lsOf (List.length (allA w h t p (0 : Int) (gY w h t p n) 0 fun a b => DV.x (.int .i64 (List.getD [] a (0 : Int))))) (LDv_q5 w h t p n))) (0 + i) (0 : Int)))
noncomputable def LDv_q7 (w : Int) (h : Int) (t : Int) (p : Int) (n : Int) : Bool :=
  gK w h t p n == (4 : Int)
noncomputable def LDv_q8 (w : Int) (h : Int) (t : Int) (p : Int) (n : Int) (a : Nat) (b : Nat) : DV :=
  DV.x (.int .i64 (List.getD (cloNA w h t p (gI w h t p n) (gX w h t p n) (gY w h t p n) 0 fun a b => DV.x (.int .i64 (List.getD [] a (0 : Int)))) a (0 : Int)))
noncomputable def LDv_q9 (w : Int) (h : Int) (t : Int) (p : Int) (n : Int) (a : Nat) (b : Nat) : DV :=
  DV.x
  (.int .i64
   (List.getD
   (cloNA w h t p (gI w h t p n) (w64 (gX w h t p n + (1 : Int))) (gY w h t p n) (List.length (cloNA w h t p (gI w h t p n) (gX w h t p n) (gY w h t p n) 0 fun a b => DV.x (.int .i64 (List.getD [] a (0 : Int)))))
   (LDv_q8 w h t p n))
   a (0 : Int)))
noncomputable def LDv_q10 (w : Int) (h : Int) (t : Int) (p : Int) (n : Int) (i : Nat) (j : Nat) : DV :=
  DV.x
  (.int .i64
   (List.getD
   (sbL n
   (lsOf
   (List.length
   (cloNA w h t p (gI w h t p n) (w64 (gX w h t p n + (1 : Int))) (gY w h t p n)
   (List.length (cloNA w h t p (gI w h t p n) (gX w h t p n) (gY w h t p n) 0 fun a b => DV.x (.int .i64 (List.getD [] a (0 : Int))))) (LDv_q8 w h t p n)))
   (LDv_q9 w h t p n)))
   (0 + i) (0 : Int)))
noncomputable def LDv_q11 (w : Int) (h : Int) (t : Int) (p : Int) (n : Int) (i : Nat) (j : Nat) : DV :=
  DV.x
  (.int .i64
   (List.getD (sbL n (lsOf (List.length (cloNA w h t p (gI w h t p n) (gX w h t p n) (gY w h t p n) 0 fun a b => DV.x (.int .i64 (List.getD [] a (0 : Int))))) (LDv_q8 w h t p n))) (0 + i)
   (0 : Int)))
noncomputable def LDv_q12 (w : Int) (h : Int) (t : Int) (p : Int) (n : Int) (a : Nat) (b : Nat) : DV :=
  DV.x
  (.int .i64
   (List.getD
   (cloNA w h t p (gI w h t p n) (gX w h t p n) (w64 (gY w h t p n + (1 : Int))) (List.length (cloNA w h t p (gI w h t p n) (gX w h t p n) (gY w h t p n) 0 fun a b => DV.x (.int .i64 (List.getD [] a (0 : Int)))))
   (LDv_q8 w h t p n))
   a (0 : Int)))
noncomputable def LDv_q13 (w : Int) (h : Int) (t : Int) (p : Int) (n : Int) (i : Nat) (j : Nat) : DV :=
  DV.x
  (.int .i64
   (List.getD
   (sbL n
   (lsOf
   (List.length
   (cloNA w h t p (gI w h t p n) (gX w h t p n) (w64 (gY w h t p n + (1 : Int)))
   (List.length (cloNA w h t p (gI w h t p n) (gX w h t p n) (gY w h t p n) 0 fun a b => DV.x (.int .i64 (List.getD [] a (0 : Int))))) (LDv_q8 w h t p n)))
   (LDv_q12 w h t p n)))
   (0 + i) (0 : Int)))
noncomputable def LDv (w h t p : Int) (m : Nat) (c : Nat → Nat → DV) (n : Int) : Tree SV :=
 .need (okG w h t p)
 (.need (i64B n)
 (.ite (gE w h t p n != (0 : Int)) (.ret (SV.d (DV.x (.slice none 0 0))))
 (.ite (gK w h t p n == (1 : Int))
 (.need (okG w h t p ∧ smS (gX w h t p n) (gY w h t p n))
 (.need (0 = 0 ∧ 0 ≤ 98000 ∧ IntRow 0 fun a b => DV.x (.int .i64 (List.getD [] a (0 : Int))))
 (.need (okG w h t p)
 (.need
 (List.length (allA w h t p (gX w h t p n) (gY w h t p n) 0 fun a b => DV.x (.int .i64 (List.getD [] a (0 : Int)))) =
 List.length (allA w h t p (gX w h t p n) (gY w h t p n) 0 fun a b => DV.x (.int .i64 (List.getD [] a (0 : Int)))) ∧
 List.length (allA w h t p (gX w h t p n) (gY w h t p n) 0 fun a b => DV.x (.int .i64 (List.getD [] a (0 : Int)))) ≤ 100000 ∧
 IntRow (List.length (allA w h t p (gX w h t p n) (gY w h t p n) 0 fun a b => DV.x (.int .i64 (List.getD [] a (0 : Int))))) (LDv_q1 w h t p n))
 (.need
 (List.length
 (addL w h t p (3 : Int) (gX w h t p n) (w64 (gY w h t p n + (1 : Int))) (3 : Int)
 (List.length (allA w h t p (gX w h t p n) (gY w h t p n) 0 fun a b => DV.x (.int .i64 (List.getD [] a (0 : Int))))) (LDv_q1 w h t p n)) =
 List.length
 (addL w h t p (3 : Int) (gX w h t p n) (w64 (gY w h t p n + (1 : Int))) (3 : Int)
 (List.length (allA w h t p (gX w h t p n) (gY w h t p n) 0 fun a b => DV.x (.int .i64 (List.getD [] a (0 : Int))))) (LDv_q1 w h t p n)) ∧
 List.length
 (addL w h t p (3 : Int) (gX w h t p n) (w64 (gY w h t p n + (1 : Int))) (3 : Int)
 (List.length (allA w h t p (gX w h t p n) (gY w h t p n) 0 fun a b => DV.x (.int .i64 (List.getD [] a (0 : Int))))) (LDv_q1 w h t p n)) ≤
 100000 ∧
 IntRow
 (List.length
 (addL w h t p (3 : Int) (gX w h t p n) (w64 (gY w h t p n + (1 : Int))) (3 : Int)
 (List.length (allA w h t p (gX w h t p n) (gY w h t p n) 0 fun a b => DV.x (.int .i64 (List.getD [] a (0 : Int))))) (LDv_q1 w h t p n)))
 (LDv_q2 w h t p n))
 (.need
 (0 +
 List.length
 (sbL n
 (lsOf
 (List.length
 (addL w h t p (3 : Int) (gX w h t p n) (w64 (gY w h t p n + (1 : Int))) (3 : Int)
 (List.length (allA w h t p (gX w h t p n) (gY w h t p n) 0 fun a b => DV.x (.int .i64 (List.getD [] a (0 : Int))))) (LDv_q1 w h t p n)))
 (LDv_q2 w h t p n))) ≤
 List.length
 (sbL n
 (lsOf
 (List.length
 (addL w h t p (3 : Int) (gX w h t p n) (w64 (gY w h t p n + (1 : Int))) (3 : Int)
 (List.length (allA w h t p (gX w h t p n) (gY w h t p n) 0 fun a b => DV.x (.int .i64 (List.getD [] a (0 : Int))))) (LDv_q1 w h t p n)))
 (LDv_q2 w h t p n))))
 (.ret
 (SV.d
 (DV.ro
 (List.length
 (sbL n
 (lsOf
 (List.length
 (addL w h t p (3 : Int) (gX w h t p n) (w64 (gY w h t p n + (1 : Int))) (3 : Int)
 (List.length (allA w h t p (gX w h t p n) (gY w h t p n) 0 fun a b => DV.x (.int .i64 (List.getD [] a (0 : Int))))) (LDv_q1 w h t p n)))
 (LDv_q2 w h t p n))))
 1 (LDv_q3 w h t p n))))))))))
 (.ite (gK w h t p n == (2 : Int))
 (.need (okG w h t p ∧ smS (gX w h t p n) (gY w h t p n))
 (.need (0 = 0 ∧ 0 ≤ 98000 ∧ IntRow 0 fun a b => DV.x (.int .i64 (List.getD [] a (0 : Int))))
 (.need
 (List.length (allA w h t p (gX w h t p n) (gY w h t p n) 0 fun a b => DV.x (.int .i64 (List.getD [] a (0 : Int)))) =
 List.length (allA w h t p (gX w h t p n) (gY w h t p n) 0 fun a b => DV.x (.int .i64 (List.getD [] a (0 : Int)))) ∧
 List.length (allA w h t p (gX w h t p n) (gY w h t p n) 0 fun a b => DV.x (.int .i64 (List.getD [] a (0 : Int)))) ≤ 100000 ∧
 IntRow (List.length (allA w h t p (gX w h t p n) (gY w h t p n) 0 fun a b => DV.x (.int .i64 (List.getD [] a (0 : Int))))) (LDv_q1 w h t p n))
 (.need
 (0 + List.length (sbL n (lsOf (List.length (allA w h t p (gX w h t p n) (gY w h t p n) 0 fun a b => DV.x (.int .i64 (List.getD [] a (0 : Int))))) (LDv_q1 w h t p n))) ≤
 List.length (sbL n (lsOf (List.length (allA w h t p (gX w h t p n) (gY w h t p n) 0 fun a b => DV.x (.int .i64 (List.getD [] a (0 : Int))))) (LDv_q1 w h t p n))))
 (.ret
 (SV.d
 (DV.ro (List.length (sbL n (lsOf (List.length (allA w h t p (gX w h t p n) (gY w h t p n) 0 fun a b => DV.x (.int .i64 (List.getD [] a (0 : Int))))) (LDv_q1 w h t p n)))) 1
 (LDv_q4 w h t p n))))))))
 (.ite (gK w h t p n == (6 : Int))
 (.need (okG w h t p ∧ smS (0 : Int) (gY w h t p n))
 (.need (0 = 0 ∧ 0 ≤ 98000 ∧ IntRow 0 fun a b => DV.x (.int .i64 (List.getD [] a (0 : Int))))
 (.need
 (List.length (allA w h t p (0 : Int) (gY w h t p n) 0 fun a b => DV.x (.int .i64 (List.getD [] a (0 : Int)))) =
 List.length (allA w h t p (0 : Int) (gY w h t p n) 0 fun a b => DV.x (.int .i64 (List.getD [] a (0 : Int)))) ∧
 List.length (allA w h t p (0 : Int) (gY w h t p n) 0 fun a b => DV.x (.int .i64 (List.getD [] a (0 : Int)))) ≤ 100000 ∧
 IntRow (List.length (allA w h t p (0 : Int) (gY w h t p n) 0 fun a b => DV.x (.int .i64 (List.getD [] a (0 : Int))))) (LDv_q5 w h t p n))
 (.need
 (0 + List.length (sbL n (lsOf (List.length (allA w h t p (0 : Int) (gY w h t p n) 0 fun a b => DV.x (.int .i64 (List.getD [] a (0 : Int))))) (LDv_q5 w h t p n))) ≤
 List.length (sbL n (lsOf (List.length (allA w h t p (0 : Int) (gY w h t p n) 0 fun a b => DV.x (.int .i64 (List.getD [] a (0 : Int))))) (LDv_q5 w h t p n))))
 (.ret
 (SV.d
 (DV.ro (List.length (sbL n (lsOf (List.length (allA w h t p (0 : Int) (gY w h t p n) 0 fun a b => DV.x (.int .i64 (List.getD [] a (0 : Int))))) (LDv_q5 w h t p n)))) 1
 (LDv_q6 w h t p n))))))))
 (.ite (LDv_q7 w h t p n)
 (.ite (LDv_q7 w h t p n)
 (.need (okG w h t p ∧ tilB (gX w h t p n) (gY w h t p n))
 (.need ((w = w ∧ h = h ∧ t = t ∧ p = p ∧ m = m ∧ c = c) ∧ 0 = 0 ∧ 0 ≤ 90000 ∧ IntRow 0 fun a b => DV.x (.int .i64 (List.getD [] a (0 : Int))))
 (.ite (LDv_q7 w h t p n)
 (.ite (decide (w64 (gX w h t p n + (1 : Int)) < w) && decide (gY w h t p n < h))
 (.need (okG w h t p ∧ tilB (w64 (gX w h t p n + (1 : Int))) (gY w h t p n))
 (.need
 ((w = w ∧ h = h ∧ t = t ∧ p = p ∧ m = m ∧ c = c) ∧
 List.length (cloNA w h t p (gI w h t p n) (gX w h t p n) (gY w h t p n) 0 fun a b => DV.x (.int .i64 (List.getD [] a (0 : Int)))) =
 List.length (cloNA w h t p (gI w h t p n) (gX w h t p n) (gY w h t p n) 0 fun a b => DV.x (.int .i64 (List.getD [] a (0 : Int)))) ∧
 List.length (cloNA w h t p (gI w h t p n) (gX w h t p n) (gY w h t p n) 0 fun a b => DV.x (.int .i64 (List.getD [] a (0 : Int)))) ≤ 90000 ∧
 IntRow (List.length (cloNA w h t p (gI w h t p n) (gX w h t p n) (gY w h t p n) 0 fun a b => DV.x (.int .i64 (List.getD [] a (0 : Int))))) (LDv_q8 w h t p n))
 (.need
 (List.length
 (cloNA w h t p (gI w h t p n) (w64 (gX w h t p n + (1 : Int))) (gY w h t p n)
 (List.length (cloNA w h t p (gI w h t p n) (gX w h t p n) (gY w h t p n) 0 fun a b => DV.x (.int .i64 (List.getD [] a (0 : Int))))) (LDv_q8 w h t p n)) =
 List.length
 (cloNA w h t p (gI w h t p n) (w64 (gX w h t p n + (1 : Int))) (gY w h t p n)
 (List.length (cloNA w h t p (gI w h t p n) (gX w h t p n) (gY w h t p n) 0 fun a b => DV.x (.int .i64 (List.getD [] a (0 : Int))))) (LDv_q8 w h t p n)) ∧
 List.length
 (cloNA w h t p (gI w h t p n) (w64 (gX w h t p n + (1 : Int))) (gY w h t p n)
 (List.length (cloNA w h t p (gI w h t p n) (gX w h t p n) (gY w h t p n) 0 fun a b => DV.x (.int .i64 (List.getD [] a (0 : Int))))) (LDv_q8 w h t p n)) ≤
 100000 ∧
 IntRow
 (List.length
 (cloNA w h t p (gI w h t p n) (w64 (gX w h t p n + (1 : Int))) (gY w h t p n)
 (List.length (cloNA w h t p (gI w h t p n) (gX w h t p n) (gY w h t p n) 0 fun a b => DV.x (.int .i64 (List.getD [] a (0 : Int))))) (LDv_q8 w h t p n)))
 (LDv_q9 w h t p n))
 (.need
 (0 +
 List.length
 (sbL n
 (lsOf
 (List.length
 (cloNA w h t p (gI w h t p n) (w64 (gX w h t p n + (1 : Int))) (gY w h t p n)
 (List.length (cloNA w h t p (gI w h t p n) (gX w h t p n) (gY w h t p n) 0 fun a b => DV.x (.int .i64 (List.getD [] a (0 : Int))))) (LDv_q8 w h t p n)))
 (LDv_q9 w h t p n))) ≤
 List.length
 (sbL n
 (lsOf
 (List.length
 (cloNA w h t p (gI w h t p n) (w64 (gX w h t p n + (1 : Int))) (gY w h t p n)
 (List.length (cloNA w h t p (gI w h t p n) (gX w h t p n) (gY w h t p n) 0 fun a b => DV.x (.int .i64 (List.getD [] a (0 : Int))))) (LDv_q8 w h t p n)))
 (LDv_q9 w h t p n))))
 (.ret
 (SV.d
 (DV.ro
 (List.length
 (sbL n
 (lsOf
 (List.length
 (cloNA w h t p (gI w h t p n) (w64 (gX w h t p n + (1 : Int))) (gY w h t p n)
 (List.length (cloNA w h t p (gI w h t p n) (gX w h t p n) (gY w h t p n) 0 fun a b => DV.x (.int .i64 (List.getD [] a (0 : Int))))) (LDv_q8 w h t p n)))
 (LDv_q9 w h t p n))))
 1 (LDv_q10 w h t p n))))))))
 (.need
 (List.length (cloNA w h t p (gI w h t p n) (gX w h t p n) (gY w h t p n) 0 fun a b => DV.x (.int .i64 (List.getD [] a (0 : Int)))) =
 List.length (cloNA w h t p (gI w h t p n) (gX w h t p n) (gY w h t p n) 0 fun a b => DV.x (.int .i64 (List.getD [] a (0 : Int)))) ∧
 List.length (cloNA w h t p (gI w h t p n) (gX w h t p n) (gY w h t p n) 0 fun a b => DV.x (.int .i64 (List.getD [] a (0 : Int)))) ≤ 100000 ∧
 IntRow (List.length (cloNA w h t p (gI w h t p n) (gX w h t p n) (gY w h t p n) 0 fun a b => DV.x (.int .i64 (List.getD [] a (0 : Int))))) (LDv_q8 w h t p n))
 (.need
 (0 +
 List.length
 (sbL n (lsOf (List.length (cloNA w h t p (gI w h t p n) (gX w h t p n) (gY w h t p n) 0 fun a b => DV.x (.int .i64 (List.getD [] a (0 : Int))))) (LDv_q8 w h t p n))) ≤
 List.length
 (sbL n (lsOf (List.length (cloNA w h t p (gI w h t p n) (gX w h t p n) (gY w h t p n) 0 fun a b => DV.x (.int .i64 (List.getD [] a (0 : Int))))) (LDv_q8 w h t p n))))
 (.ret
 (SV.d
 (DV.ro
 (List.length
 (sbL n (lsOf (List.length (cloNA w h t p (gI w h t p n) (gX w h t p n) (gY w h t p n) 0 fun a b => DV.x (.int .i64 (List.getD [] a (0 : Int))))) (LDv_q8 w h t p n))))
 1 (LDv_q11 w h t p n)))))))
 (.ite (decide (gX w h t p n < w) && decide (w64 (gY w h t p n + (1 : Int)) < h))
 (.need (okG w h t p ∧ tilB (gX w h t p n) (w64 (gY w h t p n + (1 : Int))))
 (.need
 ((w = w ∧ h = h ∧ t = t ∧ p = p ∧ m = m ∧ c = c) ∧
 List.length (cloNA w h t p (gI w h t p n) (gX w h t p n) (gY w h t p n) 0 fun a b => DV.x (.int .i64 (List.getD [] a (0 : Int)))) =
 List.length (cloNA w h t p (gI w h t p n) (gX w h t p n) (gY w h t p n) 0 fun a b => DV.x (.int .i64 (List.getD [] a (0 : Int)))) ∧
 List.length (cloNA w h t p (gI w h t p n) (gX w h t p n) (gY w h t p n) 0 fun a b => DV.x (.int .i64 (List.getD [] a (0 : Int)))) ≤ 90000 ∧
 IntRow (List.length (cloNA w h t p (gI w h t p n) (gX w h t p n) (gY w h t p n) 0 fun a b => DV.x (.int .i64 (List.getD [] a (0 : Int))))) (LDv_q8 w h t p n))
 (.need
 (List.length
 (cloNA w h t p (gI w h t p n) (gX w h t p n) (w64 (gY w h t p n + (1 : Int)))
 (List.length (cloNA w h t p (gI w h t p n) (gX w h t p n) (gY w h t p n) 0 fun a b => DV.x (.int .i64 (List.getD [] a (0 : Int))))) (LDv_q8 w h t p n)) =
 List.length
 (cloNA w h t p (gI w h t p n) (gX w h t p n) (w64 (gY w h t p n + (1 : Int)))
 (List.length (cloNA w h t p (gI w h t p n) (gX w h t p n) (gY w h t p n) 0 fun a b => DV.x (.int .i64 (List.getD [] a (0 : Int))))) (LDv_q8 w h t p n)) ∧
 List.length
 (cloNA w h t p (gI w h t p n) (gX w h t p n) (w64 (gY w h t p n + (1 : Int)))
 (List.length (cloNA w h t p (gI w h t p n) (gX w h t p n) (gY w h t p n) 0 fun a b => DV.x (.int .i64 (List.getD [] a (0 : Int))))) (LDv_q8 w h t p n)) ≤
 100000 ∧
 IntRow
 (List.length
 (cloNA w h t p (gI w h t p n) (gX w h t p n) (w64 (gY w h t p n + (1 : Int)))
 (List.length (cloNA w h t p (gI w h t p n) (gX w h t p n) (gY w h t p n) 0 fun a b => DV.x (.int .i64 (List.getD [] a (0 : Int))))) (LDv_q8 w h t p n)))
 (LDv_q12 w h t p n))
 (.need
 (0 +
 List.length
 (sbL n
 (lsOf
 (List.length
 (cloNA w h t p (gI w h t p n) (gX w h t p n) (w64 (gY w h t p n + (1 : Int)))
 (List.length (cloNA w h t p (gI w h t p n) (gX w h t p n) (gY w h t p n) 0 fun a b => DV.x (.int .i64 (List.getD [] a (0 : Int))))) (LDv_q8 w h t p n)))
 (LDv_q12 w h t p n))) ≤
 List.length
 (sbL n
 (lsOf
 (List.length
 (cloNA w h t p (gI w h t p n) (gX w h t p n) (w64 (gY w h t p n + (1 : Int)))
 (List.length (cloNA w h t p (gI w h t p n) (gX w h t p n) (gY w h t p n) 0 fun a b => DV.x (.int .i64 (List.getD [] a (0 : Int))))) (LDv_q8 w h t p n)))
 (LDv_q12 w h t p n))))
 (.ret
 (SV.d
 (DV.ro
 (List.length
 (sbL n
 (lsOf
 (List.length
 (cloNA w h t p (gI w h t p n) (gX w h t p n) (w64 (gY w h t p n + (1 : Int)))
 (List.length (cloNA w h t p (gI w h t p n) (gX w h t p n) (gY w h t p n) 0 fun a b => DV.x (.int .i64 (List.getD [] a (0 : Int))))) (LDv_q8 w h t p n)))
 (LDv_q12 w h t p n))))
 1 (LDv_q13 w h t p n))))))))
 (.need
 (List.length (cloNA w h t p (gI w h t p n) (gX w h t p n) (gY w h t p n) 0 fun a b => DV.x (.int .i64 (List.getD [] a (0 : Int)))) =
 List.length (cloNA w h t p (gI w h t p n) (gX w h t p n) (gY w h t p n) 0 fun a b => DV.x (.int .i64 (List.getD [] a (0 : Int)))) ∧
 List.length (cloNA w h t p (gI w h t p n) (gX w h t p n) (gY w h t p n) 0 fun a b => DV.x (.int .i64 (List.getD [] a (0 : Int)))) ≤ 100000 ∧
 IntRow (List.length (cloNA w h t p (gI w h t p n) (gX w h t p n) (gY w h t p n) 0 fun a b => DV.x (.int .i64 (List.getD [] a (0 : Int))))) (LDv_q8 w h t p n))
 (.need
 (0 +
 List.length
 (sbL n (lsOf (List.length (cloNA w h t p (gI w h t p n) (gX w h t p n) (gY w h t p n) 0 fun a b => DV.x (.int .i64 (List.getD [] a (0 : Int))))) (LDv_q8 w h t p n))) ≤
 List.length
 (sbL n (lsOf (List.length (cloNA w h t p (gI w h t p n) (gX w h t p n) (gY w h t p n) 0 fun a b => DV.x (.int .i64 (List.getD [] a (0 : Int))))) (LDv_q8 w h t p n))))
 (.ret
 (SV.d
 (DV.ro
 (List.length
 (sbL n (lsOf (List.length (cloNA w h t p (gI w h t p n) (gX w h t p n) (gY w h t p n) 0 fun a b => DV.x (.int .i64 (List.getD [] a (0 : Int))))) (LDv_q8 w h t p n))))
 1 (LDv_q11 w h t p n))))))))))
 (.need (0 = 0 ∧ 0 ≤ 100000 ∧ IntRow 0 fun a b => DV.x (.int .i64 (List.getD [] a (0 : Int))))
 (.need (0 ≤ 0) (.ret (SV.d (DV.ro 0 1 fun i j => DV.x (.int .i64 (List.getD [] (0 + i) (0 : Int)))))))))
 (.ite (gK w h t p n == (5 : Int))
 (.need (okG w h t p ∧ tilB (gX w h t p n) (gY w h t p n))
 (.need ((w = w ∧ h = h ∧ t = t ∧ p = p ∧ m = m ∧ c = c) ∧ 0 = 0 ∧ 0 ≤ 90000 ∧ IntRow 0 fun a b => DV.x (.int .i64 (List.getD [] a (0 : Int))))
 (.ite (LDv_q7 w h t p n)
 (.ite (decide (w64 (gX w h t p n + (1 : Int)) < w) && decide (gY w h t p n < h))
 (.need (okG w h t p ∧ tilB (w64 (gX w h t p n + (1 : Int))) (gY w h t p n))
 (.need
 ((w = w ∧ h = h ∧ t = t ∧ p = p ∧ m = m ∧ c = c) ∧
 List.length (cloNA w h t p (gI w h t p n) (gX w h t p n) (gY w h t p n) 0 fun a b => DV.x (.int .i64 (List.getD [] a (0 : Int)))) =
 List.length (cloNA w h t p (gI w h t p n) (gX w h t p n) (gY w h t p n) 0 fun a b => DV.x (.int .i64 (List.getD [] a (0 : Int)))) ∧
 List.length (cloNA w h t p (gI w h t p n) (gX w h t p n) (gY w h t p n) 0 fun a b => DV.x (.int .i64 (List.getD [] a (0 : Int)))) ≤ 90000 ∧
 IntRow (List.length (cloNA w h t p (gI w h t p n) (gX w h t p n) (gY w h t p n) 0 fun a b => DV.x (.int .i64 (List.getD [] a (0 : Int))))) (LDv_q8 w h t p n))
 (.need
 (List.length
 (cloNA w h t p (gI w h t p n) (w64 (gX w h t p n + (1 : Int))) (gY w h t p n)
 (List.length (cloNA w h t p (gI w h t p n) (gX w h t p n) (gY w h t p n) 0 fun a b => DV.x (.int .i64 (List.getD [] a (0 : Int))))) (LDv_q8 w h t p n)) =
 List.length
 (cloNA w h t p (gI w h t p n) (w64 (gX w h t p n + (1 : Int))) (gY w h t p n)
 (List.length (cloNA w h t p (gI w h t p n) (gX w h t p n) (gY w h t p n) 0 fun a b => DV.x (.int .i64 (List.getD [] a (0 : Int))))) (LDv_q8 w h t p n)) ∧
 List.length
 (cloNA w h t p (gI w h t p n) (w64 (gX w h t p n + (1 : Int))) (gY w h t p n)
 (List.length (cloNA w h t p (gI w h t p n) (gX w h t p n) (gY w h t p n) 0 fun a b => DV.x (.int .i64 (List.getD [] a (0 : Int))))) (LDv_q8 w h t p n)) ≤
 100000 ∧
 IntRow
 (List.length
 (cloNA w h t p (gI w h t p n) (w64 (gX w h t p n + (1 : Int))) (gY w h t p n)
 (List.length (cloNA w h t p (gI w h t p n) (gX w h t p n) (gY w h t p n) 0 fun a b => DV.x (.int .i64 (List.getD [] a (0 : Int))))) (LDv_q8 w h t p n)))
 (LDv_q9 w h t p n))
 (.need
 (0 +
 List.length
 (sbL n
 (lsOf
 (List.length
 (cloNA w h t p (gI w h t p n) (w64 (gX w h t p n + (1 : Int))) (gY w h t p n)
 (List.length (cloNA w h t p (gI w h t p n) (gX w h t p n) (gY w h t p n) 0 fun a b => DV.x (.int .i64 (List.getD [] a (0 : Int))))) (LDv_q8 w h t p n)))
 (LDv_q9 w h t p n))) ≤
 List.length
 (sbL n
 (lsOf
 (List.length
 (cloNA w h t p (gI w h t p n) (w64 (gX w h t p n + (1 : Int))) (gY w h t p n)
 (List.length (cloNA w h t p (gI w h t p n) (gX w h t p n) (gY w h t p n) 0 fun a b => DV.x (.int .i64 (List.getD [] a (0 : Int))))) (LDv_q8 w h t p n)))
 (LDv_q9 w h t p n))))
 (.ret
 (SV.d
 (DV.ro
 (List.length
 (sbL n
 (lsOf
 (List.length
 (cloNA w h t p (gI w h t p n) (w64 (gX w h t p n + (1 : Int))) (gY w h t p n)
 (List.length (cloNA w h t p (gI w h t p n) (gX w h t p n) (gY w h t p n) 0 fun a b => DV.x (.int .i64 (List.getD [] a (0 : Int))))) (LDv_q8 w h t p n)))
 (LDv_q9 w h t p n))))
 1 (LDv_q10 w h t p n))))))))
 (.need
 (List.length (cloNA w h t p (gI w h t p n) (gX w h t p n) (gY w h t p n) 0 fun a b => DV.x (.int .i64 (List.getD [] a (0 : Int)))) =
 List.length (cloNA w h t p (gI w h t p n) (gX w h t p n) (gY w h t p n) 0 fun a b => DV.x (.int .i64 (List.getD [] a (0 : Int)))) ∧
 List.length (cloNA w h t p (gI w h t p n) (gX w h t p n) (gY w h t p n) 0 fun a b => DV.x (.int .i64 (List.getD [] a (0 : Int)))) ≤ 100000 ∧
 IntRow (List.length (cloNA w h t p (gI w h t p n) (gX w h t p n) (gY w h t p n) 0 fun a b => DV.x (.int .i64 (List.getD [] a (0 : Int))))) (LDv_q8 w h t p n))
 (.need
 (0 +
 List.length
 (sbL n (lsOf (List.length (cloNA w h t p (gI w h t p n) (gX w h t p n) (gY w h t p n) 0 fun a b => DV.x (.int .i64 (List.getD [] a (0 : Int))))) (LDv_q8 w h t p n))) ≤
 List.length
 (sbL n (lsOf (List.length (cloNA w h t p (gI w h t p n) (gX w h t p n) (gY w h t p n) 0 fun a b => DV.x (.int .i64 (List.getD [] a (0 : Int))))) (LDv_q8 w h t p n))))
 (.ret
 (SV.d
 (DV.ro
 (List.length
 (sbL n (lsOf (List.length (cloNA w h t p (gI w h t p n) (gX w h t p n) (gY w h t p n) 0 fun a b => DV.x (.int .i64 (List.getD [] a (0 : Int))))) (LDv_q8 w h t p n))))
 1 (LDv_q11 w h t p n)))))))
 (.ite (decide (gX w h t p n < w) && decide (w64 (gY w h t p n + (1 : Int)) < h))
 (.need (okG w h t p ∧ tilB (gX w h t p n) (w64 (gY w h t p n + (1 : Int))))
 (.need
 ((w = w ∧ h = h ∧ t = t ∧ p = p ∧ m = m ∧ c = c) ∧
 List.length (cloNA w h t p (gI w h t p n) (gX w h t p n) (gY w h t p n) 0 fun a b => DV.x (.int .i64 (List.getD [] a (0 : Int)))) =
 List.length (cloNA w h t p (gI w h t p n) (gX w h t p n) (gY w h t p n) 0 fun a b => DV.x (.int .i64 (List.getD [] a (0 : Int)))) ∧
 List.length (cloNA w h t p (gI w h t p n) (gX w h t p n) (gY w h t p n) 0 fun a b => DV.x (.int .i64 (List.getD [] a (0 : Int)))) ≤ 90000 ∧
 IntRow (List.length (cloNA w h t p (gI w h t p n) (gX w h t p n) (gY w h t p n) 0 fun a b => DV.x (.int .i64 (List.getD [] a (0 : Int))))) (LDv_q8 w h t p n))
 (.need
 (List.length
 (cloNA w h t p (gI w h t p n) (gX w h t p n) (w64 (gY w h t p n + (1 : Int)))
 (List.length (cloNA w h t p (gI w h t p n) (gX w h t p n) (gY w h t p n) 0 fun a b => DV.x (.int .i64 (List.getD [] a (0 : Int))))) (LDv_q8 w h t p n)) =
 List.length
 (cloNA w h t p (gI w h t p n) (gX w h t p n) (w64 (gY w h t p n + (1 : Int)))
 (List.length (cloNA w h t p (gI w h t p n) (gX w h t p n) (gY w h t p n) 0 fun a b => DV.x (.int .i64 (List.getD [] a (0 : Int))))) (LDv_q8 w h t p n)) ∧
 List.length
 (cloNA w h t p (gI w h t p n) (gX w h t p n) (w64 (gY w h t p n + (1 : Int)))
 (List.length (cloNA w h t p (gI w h t p n) (gX w h t p n) (gY w h t p n) 0 fun a b => DV.x (.int .i64 (List.getD [] a (0 : Int))))) (LDv_q8 w h t p n)) ≤
 100000 ∧
 IntRow
 (List.length
 (cloNA w h t p (gI w h t p n) (gX w h t p n) (w64 (gY w h t p n + (1 : Int)))
 (List.length (cloNA w h t p (gI w h t p n) (gX w h t p n) (gY w h t p n) 0 fun a b => DV.x (.int .i64 (List.getD [] a (0 : Int))))) (LDv_q8 w h t p n)))
 (LDv_q12 w h t p n))
 (.need
 (0 +
 List.length
 (sbL n
 (lsOf
 (List.length
 (cloNA w h t p (gI w h t p n) (gX w h t p n) (w64 (gY w h t p n + (1 : Int)))
 (List.length (cloNA w h t p (gI w h t p n) (gX w h t p n) (gY w h t p n) 0 fun a b => DV.x (.int .i64 (List.getD [] a (0 : Int))))) (LDv_q8 w h t p n)))
 (LDv_q12 w h t p n))) ≤
 List.length
 (sbL n
 (lsOf
 (List.length
 (cloNA w h t p (gI w h t p n) (gX w h t p n) (w64 (gY w h t p n + (1 : Int)))
 (List.length (cloNA w h t p (gI w h t p n) (gX w h t p n) (gY w h t p n) 0 fun a b => DV.x (.int .i64 (List.getD [] a (0 : Int))))) (LDv_q8 w h t p n)))
 (LDv_q12 w h t p n))))
 (.ret
 (SV.d
 (DV.ro
 (List.length
 (sbL n
 (lsOf
 (List.length
 (cloNA w h t p (gI w h t p n) (gX w h t p n) (w64 (gY w h t p n + (1 : Int)))
 (List.length (cloNA w h t p (gI w h t p n) (gX w h t p n) (gY w h t p n) 0 fun a b => DV.x (.int .i64 (List.getD [] a (0 : Int))))) (LDv_q8 w h t p n)))
 (LDv_q12 w h t p n))))
 1 (LDv_q13 w h t p n))))))))
 (.need
 (List.length (cloNA w h t p (gI w h t p n) (gX w h t p n) (gY w h t p n) 0 fun a b => DV.x (.int .i64 (List.getD [] a (0 : Int)))) =
 List.length (cloNA w h t p (gI w h t p n) (gX w h t p n) (gY w h t p n) 0 fun a b => DV.x (.int .i64 (List.getD [] a (0 : Int)))) ∧
 List.length (cloNA w h t p (gI w h t p n) (gX w h t p n) (gY w h t p n) 0 fun a b => DV.x (.int .i64 (List.getD [] a (0 : Int)))) ≤ 100000 ∧
 IntRow (List.length (cloNA w h t p (gI w h t p n) (gX w h t p n) (gY w h t p n) 0 fun a b => DV.x (.int .i64 (List.getD [] a (0 : Int))))) (LDv_q8 w h t p n))
 (.need
 (0 +
 List.length
 (sbL n (lsOf (List.length (cloNA w h t p (gI w h t p n) (gX w h t p n) (gY w h t p n) 0 fun a b => DV.x (.int .i64 (List.getD [] a (0 : Int))))) (LDv_q8 w h t p n))) ≤
 List.length
 (sbL n (lsOf (List.length (cloNA w h t p (gI w h t p n) (gX w h t p n) (gY w h t p n) 0 fun a b => DV.x (.int .i64 (List.getD [] a (0 : Int))))) (LDv_q8 w h t p n))))
 (.ret
 (SV.d
 (DV.ro
 (List.length
 (sbL n (lsOf (List.length (cloNA w h t p (gI w h t p n) (gX w h t p n) (gY w h t p n) 0 fun a b => DV.x (.int .i64 (List.getD [] a (0 : Int))))) (LDv_q8 w h t p n))))
 1 (LDv_q11 w h t p n))))))))))
 (.need (0 = 0 ∧ 0 ≤ 100000 ∧ IntRow 0 fun a b => DV.x (.int .i64 (List.getD [] a (0 : Int))))
 (.need (0 ≤ 0) (.ret (SV.d (DV.ro 0 1 fun i j => DV.x (.int .i64 (List.getD [] (0 + i) (0 : Int)))))))))))))))

theorem LDv_eq (w h t p : Int) (m : Nat) (c : Nat → Nat → DV) (n : Int) : TE .nil 31 [gridV w h t p (.d (.ro m 1 c)), iv n] = LDv w h t p m c n := by kernel_rfl


end Go.Proofs.YtgahnelicbddcaaGreatDoor

