/- Part of a proof of the given statements of this seat (SyRo): no conditions beyond those typed here. -/
import Derived.Test.YtgahnelicbddcaaGreatDoorSz11
import Derived.Test.YtgahnelicbddcaaGreatDoorSz03
import Derived.Test.YtgahnelicbddcaaGreatDoorSz08
import Derived.Sort.Grow
import Derived.Lib.Builder
set_option linter.unusedVariables false
set_option linter.unusedSimpArgs false
set_option linter.unusedSectionVars false

namespace Go.Sx
open Go.Sort Go.RowKit Proofs
noncomputable section
variable [Globs]

theorem hs_grow {p : Par} {μ : Mu} {F : Nat → Prop} {hp : Heap} {w1 w2 : World} (h : HS p μ F hp w1) (hb : Go.RowKit.Below w1.heap.size w1 w2) : HS p μ F hp w2 := by
  have hz : ∀ b, bsz w1 b ≤ bsz w2 b := by
    intro b
    by_cases hlt : b < w1.heap.size
    · unfold bsz; rw [hb.block b hlt]; exact Nat.le_refl _
    · have : w1.heap[b]? = none := by simp; omega
      simp [bsz, this]
  have he : ∀ G : Nat → Prop, (∀ b, G b → b < w1.heap.size) → Ext G w1 w2 := fun G hG => ⟨hb.os, hb.tape, hb.output, hb.size, fun b hG' => hb.block b (hG b hG'), hz⟩
  have hx := h.ext
  refine ⟨⟨hb.os.trans hx.os, hb.tape.trans hx.tape, hb.output.trans hx.output, Nat.le_trans hx.size hb.size, fun b hb' => (hb.block b (Nat.lt_of_lt_of_le hb'.1 hx.size)).trans (hx.keep b hb'), fun b => Nat.le_trans (hx.bsz b) (hz b)⟩,
    h.sub, fun b hF => ⟨Nat.lt_of_lt_of_le (h.fin b hF).1 hb.size, (h.fin b hF).2⟩, fun l blk hg => ?_, h.inj⟩
  obtain ⟨q, k1, k2, k3⟩ := h.blk l blk hg
  refine ⟨q, k1, k2, k3.mono (he F fun b hF => (h.fin b hF).1) (fun _ h => h) (fun _ _ h => h) ?_⟩
  intro b o hq; subst hq
  exact hb.block b k3.lt

theorem rowArg {w : World} {μ : Mu} {F : Nat → Prop} {v : Value} {l n : Nat} (h : Rep w μ F v (.row l 0 0 n 1)) :
    (∃ b o cap, v = .slice (some ⟨b, o, none⟩) n cap ∧ μ l = some (.pl b o) ∧ n ≤ cap ∧ o + cap ≤ bsz w b) ∨ (n = 0 ∧ ∃ a q, v = .slice a 0 0 ∧ μ l = some q ∧ ((a = none ∧ q = .nil) ∨ ∃ b o, a = some ⟨b, o, none⟩)) := by
  generalize hs : SV.row l 0 0 n 1 = s at h
  cases h with
  | rnil l' base off esz hm => cases hs; exact .inr ⟨rfl, _, _, rfl, hm, .inl ⟨rfl, rfl⟩⟩
  | rz l' base off esz b o q hm => cases hs; exact .inr ⟨rfl, _, _, rfl, hm, .inr ⟨_, _, rfl⟩⟩
  | row l' base off len esz b o cap hm hc hz =>
    cases hs
    refine .inl ⟨b, o, cap, ?_, hm, hc, by omega⟩
    rw [show o + 0 + 0 * 1 = o by omega]
  | _ => cases hs

theorem row_cells {w : World} {μ : Mu} {F : Nat → Prop} {hp : Heap} {l b o n : Nat} {f : Nat → Nat → DV} (hl : LH w μ F hp) (hg : hget hp l = some (.row n 1 f)) (hm : μ l = some (.pl b o)) (hI : IntRow n f) :
    ∃ c e, w.heap[b]? = some (.cells c e (0, 0)) ∧ o + n ≤ c.size ∧ (∀ i, i < n → c.getD (o + i) undef = .int .i64 ((lsOf n f).getD i 0)) := by
  obtain ⟨hat, _⟩ := hl.blkAt hg hm
  obtain ⟨c, e, h1, h2, h3, h4⟩ := hat
  refine ⟨c, e, h1, by omega, fun i hi => ?_⟩
  have := h3 i 0 hi (by omega)
  rw [Nat.mul_one, Nat.add_zero, cell_lsOf hI hi] at this
  exact repd_x this
theorem getD_arr {zs : List Int} {j : Nat} (h : j < zs.length) : zs.toArray[j]! = zs.getD j 0 := by
  rw [getElem!_pos _ j (by simpa using h)]
  simp [List.getD_eq_getElem?_getD, h]
theorem row_holds {w : World} {μ : Mu} {F : Nat → Prop} {hp : Heap} {l b o n : Nat} {f : Nat → Nat → DV} (hl : LH w μ F hp) (hg : hget hp l = some (.row n 1 f)) (hm : μ l = some (.pl b o)) (hI : IntRow n f) :
    Holds (Value.int .i64) w b o (lsOf n f).toArray := by
  obtain ⟨c, e, h1, h2, h3⟩ := row_cells hl hg hm hI
  intro j hj
  have hj : j < n := by simpa [lsOf_len] using hj
  refine ⟨?_, Lib.frozen_of_heap h1 _⟩
  rw [cell_of_heap h1 (by omega), h3 j hj, getD_arr (by rw [lsOf_len]; exact hj)]
theorem row_after {w : World} {μ : Mu} {F : Nat → Prop} {hp : Heap} {l b o n : Nat} {f : Nat → Nat → DV} {zs zm : List Int} {q : Nat} {os : Array Obj} (hl : LH w μ F hp) (hg : hget hp l = some (.row n 1 f)) (hm : μ l = some (.pl b o)) (hI : IntRow n f)
    (hlen : zs.length = n) (hle : zm.length ≤ n) (hz : ∀ i, i < zm.length → zs.getD i 0 = zm.getD i 0) :
    HS ⟨w, Tk hp μ, F⟩ μ F (hset hp l (some (.row zm.length 1 (cellL zm)))) (grow (putRow (Value.int .i64) (Sort.ahead w q) b o zs.toArray) os) := by
  obtain ⟨c, e, h1, h2, h3⟩ := row_cells hl hg hm hI
  have hpc : ∀ k, k < c.size → (putCells (Value.int .i64) o zs.toArray c).getD k undef = if o ≤ k ∧ k < o + n then .int .i64 (zs.getD (k - o) 0) else c.getD k undef := by
    intro k hk
    unfold putCells
    simp only [List.size_toArray, hlen, Array.getD_eq_getD_getElem?, Array.getElem?_mapIdx, Array.getElem?_eq_getElem hk, Option.map_some, Option.getD_some]
    split
    · rw [getD_arr (by omega)]
    · rfl
  have hsz : (putCells (Value.int .i64) o zs.toArray c).size = c.size := by unfold putCells; simp
  have hb : b < w.heap.size := (Array.getElem?_eq_some_iff.1 h1).1
  refine hs_grow (w1 := w.setRow b (putCells (Value.int .i64) o zs.toArray c)) (hs_update hl hg hm h1 hsz ?_) ?_
  · have h4 := (hl.blkAt hg hm).1
    obtain ⟨c', e', g1, g2, g3, g4⟩ := h4
    rw [h1] at g1
    simp only [Option.some.injEq, Obj.cells.injEq] at g1
    obtain ⟨rfl, rfl, -⟩ := g1
    refine ⟨_, _, setRow_heap_same w b c e _ _ h1, by rw [hsz]; omega, fun i j hi hj => ?_, fun i j hi hj => ?_⟩
    · obtain rfl : j = 0 := by omega
      rw [Nat.mul_one, Nat.add_zero, hpc _ (by omega), if_pos ⟨by omega, by omega⟩, Nat.add_sub_cancel_left, hz i hi]
      exact .x _
    · obtain rfl : j = 0 := by omega
      rw [Nat.mul_one, Nat.add_zero, hpc _ (by omega), if_pos ⟨by omega, by omega⟩]; rfl
  · have hh : ∀ k : Nat, k < w.heap.size → (grow (putRow (Value.int .i64) (Sort.ahead w q) b o zs.toArray) os).heap[k]? = (w.setRow b (putCells (Value.int .i64) o zs.toArray c)).heap[k]? := by
      intro k hk
      have e1 : (grow (putRow (Value.int .i64) (Sort.ahead w q) b o zs.toArray) os).heap = (w.heap.modify b (onCells (putCells (Value.int .i64) o zs.toArray))) ++ os := rfl
      rw [e1, Array.getElem?_append_left (by simpa using hk)]
      by_cases hkb : k = b
      · subst hkb
        rw [setRow_heap_same w k c e _ _ h1, Array.getElem?_modify, if_pos rfl, h1]; rfl
      · rw [setRow_heap_other w b k _ hkb, Array.getElem?_modify, if_neg (fun h => hkb h.symm)]
    have hs0 : (w.setRow b (putCells (Value.int .i64) o zs.toArray c)).heap.size = w.heap.size := by simp [World.setRow]
    refine ⟨rfl, rfl, rfl, ?_, fun k hk => hh k (by rw [hs0] at hk; exact hk)⟩
    rw [hs0]
    show w.heap.size ≤ ((w.heap.modify b (onCells (putCells (Value.int .i64) o zs.toArray))) ++ os).size
    simp
theorem inlT_soundS {P : Program} {C : Ctx} {dr : Dr} (hC : CtxOK P C) (hD : DrOK P C dr) {n : Nat} {k : FuncId} {args : List SV} {hp0 : Heap} {nx0 : Nat} {h : Hint} {R : SV × AS → Prop} (hs : Sat P (inlT P C dr n k args ⟨[], hp0, nx0, h⟩) R) :
    CallsTo P k hp0 nx0 args fun s hp' nx' => ∃ st' : AS, R (s, st') ∧ st'.hp = hp' ∧ st'.next = nx' := inlT_sound hC hD hs.ok
end
end Go.Sx

