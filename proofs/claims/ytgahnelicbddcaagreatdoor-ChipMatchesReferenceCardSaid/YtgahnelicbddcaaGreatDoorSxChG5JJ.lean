/- Part of a proof of the given statements of this seat (SxChVr, SxChLt4, SxChLt5, SxChGl, SxChG5J): no conditions beyond those typed here. -/
import Derived.Test.YtgahnelicbddcaaGreatDoorSz19
import Derived.Test.YtgahnelicbddcaaGreatDoorSz16
import Derived.Test.YtgahnelicbddcaaGreatDoorSz04
import Derived.Lib.LaidTab
import Derived.Stop.LaidErr
import Derived.Shelf.Vars
import Derived.MakeChecks
import Derived.Test.YtgahnelicbddcaaGreatDoorRows
import Derived.Test.YtgahnelicbddcaaGreatDoorChecked
import Derived.Test.YtgahnelicbddcaaGreatDoorCards
import Derived.Test.YtgahnelicbddcaaGreatDoorTie
import Derived.SevenTiedAt
import Derived.Lay
set_option linter.unusedVariables false
set_option linter.unusedSimpArgs false
set_option linter.unusedSectionVars false

namespace Go.Proofs.YtgahnelicbddcaaGreatDoor
open Go.Sx
set_option maxRecDepth 100000
theorem chro_any (O : ByteArray) : ChRO (PD.gk (bL O)).length (g4 PD O) (PD.gn (bL O)) (PD.gs (bL O)) := by
  by_cases h : okP (bL O)
  · exact chro_okP h
  · refine ⟨⟨rfl, fun i hi => rfl⟩, badsD_ok _, ?_⟩
    rw [g4_ints, g4_bads]
    have e1 : pK (bL O) = [] := if_neg h
    have e2 : pS (bL O) = [] := if_neg h
    rw [e1, e2]
    exact ⟨by simp, by simp, fun s hs => absurd hs (by simp)⟩
theorem sme_refl (w h t p : Int) (m : Nat) (c : Nat → Nat → DV) (k : Nat) (s : Nat → Nat → DV) : smeR w h t p m c k s w h t p m c k s = true := by
  unfold smeR smeD smeB
  exact decide_eq_true ⟨⟨rfl, rfl, rfl, rfl⟩, rfl, rfl⟩
theorem any_okG {w h t p : Int} : okG (anN 1 8 w) (anN 1 8 h) (anN 1 8 t) (anN 0 65 p) := by
  have h1 := anN_ok (a := 1) (b := 8) (x := w) (by omega)
  have h2 := anN_ok (a := 1) (b := 8) (x := h) (by omega)
  have h3 := anN_ok (a := 1) (b := 8) (x := t) (by omega)
  have h4 := anN_ok (a := 0) (b := 65) (x := p) (by omega)
  refine ⟨⟨?_, ?_⟩, ⟨?_, ?_⟩, ⟨?_, ?_⟩, ?_, ?_⟩ <;> omega
theorem any_vld {w h t p : Int} {m : Nat} {f : Nat → Nat → DV} : vldP (anN 1 8 w) (anN 1 8 h) (anN 1 8 t) (anN 0 65 p) (anK 1 8 w h m f) := by
  have hg := any_okG (w := w) (h := h) (t := t) (p := p)
  have h3 := anM_ok (a := 1) (b := 8) (w := w) (h := h) (by omega) (by omega) (by omega)
  obtain ⟨a1, a2, a3, a4⟩ := hg
  refine ⟨⟨a1, a2, a3, a4⟩, ?_, fun i hi => ?_⟩
  · unfold anK; rw [kiL_len]; omega
  · rw [List.getD_eq_getElem?_getD, List.getElem?_eq_getElem hi]
    exact kiL_ok (List.getElem_mem hi)
theorem risP_nil (n : Int) : risP [] n := fun i hi => absurd hi (Nat.not_lt_zero _)
theorem q17_q4 (n0 : Nat) (c0 : Nat → Nat → DV) (n1 : Nat) (c1 : Nat → Nat → DV) : L5T_q17 n0 c0 n1 c1 = L5T_q4 n0 c0 n1 c1 := by kernel_rfl
theorem eqI_refl (m : Nat) (f : Nat → Nat → DV) : eqI m f m f = true := decide_eq_true rfl
theorem ref_rows {w h t p : Int} (hg : okG w h t p) (n : Int) : RowOK (refD w h t p n).length (fun i _ => .x (.int .i64 ((refD w h t p n).getD i 0))) ∧ RowOK (refN w h t p n).length (fun i _ => .x (.int .i64 ((refN w h t p n).getD i 0))) := by
  have h1 := (cnt_le hg.gr).2
  have h2 : (refD w h t p n).length ≤ (gr w h t p).cnt := by
    unfold refD; split
    · exact flt_le w h t p _ _
    · simp
  have h3 : (refN w h t p n).length ≤ (gr w h t p).cnt := by
    unfold refN; split
    · exact flt_le w h t p _ _
    · simp
  exact ⟨rowOK_cell (by omega), rowOK_cell (by omega)⟩
theorem law5_sat {w h t p : Int} {m : Nat} {f : Nat → Nat → DV} {cw ch ct cp : Int} {m2 : Nat} {c2 : Nat → Nat → DV} {k2 : Nat} {s2 : Nat → Nat → DV} {nd sk sx sy si : Int} {s : List UInt8} {k : Nat} {b : Nat → Nat → DV}
    (hr : RawOK w h t p m f) (hc : RowOK m2 c2) (hcs : ChRO m2 c2 k2 s2) (hb : ByteRow k b) (hn : i64B nd) :
    ∃ C dr, CtxOK Tryz.prog C ∧ DrOK Tryz.prog C dr ∧ ∃ n hint, Sat Tryz.prog (fnT Tryz.prog C dr n (fnOf Tryz.prog 5) (bodyOf Tryz.prog 5) [rawF w h t p m f, oddF cw ch ct cp m2 c2 k2 s2 nd sk sx sy si s k b] hint) (· = bv true) := by
  have hg := any_okG (w := w) (h := h) (t := t) (p := p)
  have hv := any_vld (w := w) (h := h) (t := t) (p := p) (m := m) (f := f)
  have hB := bd_ris (k := k) (f := b) hg
  have hB6 := bdSt_le (anN 1 8 w) (anN 1 8 h) (anN 1 8 t) (anN 0 65 p) k b
  obtain ⟨W, eW⟩ : ∃ W, anN 1 8 w = W := ⟨_, rfl⟩
  obtain ⟨H, eH⟩ : ∃ H, anN 1 8 h = H := ⟨_, rfl⟩
  obtain ⟨T, eT⟩ : ∃ T, anN 1 8 t = T := ⟨_, rfl⟩
  obtain ⟨Q, eQ⟩ : ∃ Q, anN 0 65 p = Q := ⟨_, rfl⟩
  obtain ⟨kl, eK⟩ : ∃ kl, anK 1 8 w h m f = kl := ⟨_, rfl⟩
  obtain ⟨b0, e0⟩ : ∃ b0, bdT W H T Q k b = b0 := ⟨_, rfl⟩
  obtain ⟨b1, e1⟩ : ∃ b1, bdNd W H T Q k b = b1 := ⟨_, rfl⟩
  have hM : AnIs w h t p m f W H T Q kl.length (fun i _ => .x (.int .i64 (kl.getD i 0))) := ⟨hr, eW, eH, eT, eQ, by rw [eK], by rw [eK]⟩
  rw [eW, eH, eT, eQ] at hg hv hB hB6
  rw [eK] at hv
  have hD : BdIs W H T Q k b b0.length (fun i _ => .x (.int .i64 (b0.getD i 0))) b1.length (fun i _ => .x (.int .i64 (b1.getD i 0))) := ⟨hg, hb, by rw [e0], by rw [e0], by rw [e1], by rw [e1]⟩
  rw [e0, e1] at hB hB6
  have i0 : ∀ L : List Int, IntsD (.ro L.length 1 fun i _ => .x (.int .i64 (L.getD i 0))) := fun L => ⟨rfl, fun i hi => rfl⟩
  have i1 : ∀ L : List Int, intsD (.ro L.length 1 fun i _ => .x (.int .i64 (L.getD i 0))) = L := fun L => lsOf_cellL L
  refine ⟨_, _, CZ5_ok W H T Q kl.length (fun i _ => .x (.int .i64 (kl.getD i 0))) b0.length (fun i _ => .x (.int .i64 (b0.getD i 0))) b1.length (fun i _ => .x (.int .i64 (b1.getD i 0))) (gD W H T Q), DZ5_ok W H T Q kl.length (fun i _ => .x (.int .i64 (kl.getD i 0))) b0.length (fun i _ => .x (.int .i64 (b0.getD i 0))) b1.length (fun i _ => .x (.int .i64 (b1.getD i 0))) (gD W H T Q), 200, ?_⟩
  cases hsm : (!(decide ((m2 : Int) ≤ 100) && decide ((k2 : Int) ≤ 20) && decide (((strB s).size : Int) ≤ 400) && decide ((k : Int) ≤ 40))) with
  | true => exact ⟨_, Sat.of_eq (L5F_eq w h t p m f cw ch ct cp m2 c2 k2 s2 nd sk sx sy si s k b W H T Q _ _ _ _ _ _ txD PD (gD W H T Q)) ⟨rfl, hsm, rfl⟩⟩
  | false =>
    refine ⟨_, Sat.of_eq (L5T_eq w h t p m f cw ch ct cp m2 c2 k2 s2 nd sk sx sy si s k b W H T Q _ _ _ _ _ _ txD PD (gD W H T Q)) ⟨?_⟩⟩
    have hs4 : (strB s).size ≤ 400 := by
      simp only [Bool.not_eq_false', Bool.and_eq_true, decide_eq_true_eq] at hsm
      omega
    obtain ⟨ck, eck⟩ : ∃ ck : Nat → Nat → DV, (fun (i _ : Nat) => DV.x (.int .i64 (kl.getD i 0))) = ck := ⟨_, rfl⟩
    obtain ⟨c0, ec0⟩ : ∃ c0 : Nat → Nat → DV, (fun (i _ : Nat) => DV.x (.int .i64 (b0.getD i 0))) = c0 := ⟨_, rfl⟩
    obtain ⟨c1, ec1⟩ : ∃ c1 : Nat → Nat → DV, (fun (i _ : Nat) => DV.x (.int .i64 (b1.getD i 0))) = c1 := ⟨_, rfl⟩
    have iK := i0 kl
    have jK := i1 kl
    have iA := i0 b0
    have jA := i1 b0
    have iB := i0 b1
    have jB := i1 b1
    rw [eck] at hM iK jK
    rw [ec0] at hD iA jA
    rw [ec1] at hD iB jB
    rw [eck, ec0, ec1]
    obtain ⟨mk, emk⟩ : ∃ mk, kl.length = mk := ⟨_, rfl⟩
    obtain ⟨n0, en0⟩ : ∃ n0, b0.length = n0 := ⟨_, rfl⟩
    obtain ⟨n1, en1⟩ : ∃ n1, b1.length = n1 := ⟨_, rfl⟩
    rw [emk] at hM iK jK
    rw [en0] at hD iA jA
    rw [en1] at hD iB jB
    rw [emk, en0, en1]
    have hkl : mk ≤ 64 := by
      have h2 : W * H ≤ 8 * 8 := Int.mul_le_mul (by have := hg.1; omega) (by have := hg.2.1; omega) (by have := hg.2.1; omega) (by omega)
      have := hv.2.1; omega
    have hbs : BadsD (.ro 2 2 (L5T_q4 n0 c0 n1 c1)) := ⟨rfl, fun i hi => by
      match i, hi with
      | 0, _ => exact ⟨iA, iB⟩
      | 1, _ => exact ⟨rfl, rfl⟩⟩
    have ebs : badsD (.ro 2 2 (L5T_q4 n0 c0 n1 c1)) = [(b0, b1), ([], [])] := by
      show [(intsD (.ro n0 1 c0), intsD (.ro n1 1 c1)), ([], [])] = _
      rw [jA, jB]
    have hvc : vchP W H T Q kl [(b0, b1), ([], [])] := ⟨hv, by simp, fun s hs => by
      simp only [List.mem_cons, List.not_mem_nil, or_false] at hs
      rcases hs with rfl | rfl
      · exact hB
      · exact ⟨risP_nil _, risP_nil _⟩⟩
    have hrow : RowOK mk ck := ⟨by omega, iK.2⟩
    have hC2 : ChRO mk ck 2 (L5T_q4 n0 c0 n1 c1) := ⟨iK, hbs, by rw [jK, ebs]; exact vch_len hvc⟩
    have hTx : TxtRO W H T Q mk ck 2 (L5T_q4 n0 c0 n1 c1) := ⟨iK, hbs, by rw [jK, ebs]; exact vch_txt hvc⟩
    have hVc : VcRO W H T Q mk ck 2 (L5T_q4 n0 c0 n1 c1) := ⟨iK, hbs, by rw [jK, ebs]; exact hvc⟩
    have hG : GrIs W H T Q (gD W H T Q) := ⟨hg, rfl⟩
    have hP := chro_any (strB s)
    have hR := ref_rows hg
    have v1 : vldR W H T Q mk ck = 0 := by
      unfold vldR vldE
      rw [show lsOf mk ck = kl from jK, if_pos hv]
    have v2 : vchR W H T Q mk ck 2 (L5T_q4 n0 c0 n1 c1) = 0 := by
      unfold vchR vchD vchE
      rw [jK, ebs, if_pos hvc]
    have q1 : L5T_q1 W H T Q mk ck = false := by unfold L5T_q1; rw [v1]; rfl
    have ne : ∀ x : Int, (x != x) = false := fun x => by simp
    have q2 : L5T_q2 cw ch ct cp m2 c2 W H T Q mk ck = false := by unfold L5T_q2; rw [q1, ne]; rfl
    have q3 : L5T_q3 cw ch ct cp m2 c2 k2 s2 W H T Q mk ck = false := by unfold L5T_q3; rw [q2, ne]; rfl
    have q5 : L5T_q5 cw ch ct cp m2 c2 k2 s2 W H T Q mk ck n0 c0 n1 c1 = false := by unfold L5T_q5; rw [q3, v2]; rfl
    have q6 : L5T_q6 cw ch ct cp m2 c2 k2 s2 s W H T Q mk ck n0 c0 n1 c1 PD (gD W H T Q) = false := by unfold L5T_q6; rw [q5, ne, ne]; rfl
    have hcn := cnt_pos hg
    have hu : IntKind.wrap .u64 (w64 ((gD W H T Q).cn + 1)) ≠ 0 := by
      have e : (gD W H T Q).cn = gN W H T Q := rfl
      rw [e, w64_of (by omega) (by omega)]
      have : IntKind.wrap .u64 (gN W H T Q + 1) = (gN W H T Q + 1) % 18446744073709551616 := by unfold IntKind.wrap; rfl
      rw [this]; omega
    have q16 : L5T_q16 nd sk sx sy si (gD W H T Q) = true := by
      unfold L5T_q16 L5T_q14 L5T_q12 L5T_q10 L5T_q9 L5T_q8
      simp only [beq_self_eq_true, Bool.and_self, eqI_refl]
    have eT1 : txD W H T Q (.ro mk 1 ck) (.ro 2 2 (L5T_q17 n0 c0 n1 c1)) = txR W H T Q mk ck 2 (L5T_q4 n0 c0 n1 c1) := by rw [q17_q4]; rfl
    unfold L5T
    rw [eT1, q16, q1, q2, q3, q5, q6]
    refine ⟨rfl, hsm, hM, hD, by omega, by omega, hrow, fun _ => hc, fun _ => hc, fun _ => hcs, fun _ => hcs, fun _ => Nat.le_refl _, fun _ => hC2, fun _ => hG, fun _ => hG, fun _ => ⟨hP, hP⟩, ?_, hG, hu, hG, w64_B _, hG, w64_B _, fun _ => hG, fun _ => hn, fun _ => hG, fun _ => hn, fun _ => hG, fun _ => hG, fun _ => hG, fun _ => w64_B _, fun _ => hG, fun _ => w64_B _, fun _ => ⟨(hR _).1, (hR _).1⟩, fun _ => hG, fun _ => w64_B _, fun _ => hG, fun _ => w64_B _, fun _ => ⟨(hR _).2, (hR _).2⟩, fun _ => hG, fun _ => hn, fun _ => hG, fun _ => hn, fun _ => ⟨(hR _).1, (hR _).1⟩, fun _ => Nat.le_refl _, fun _ => hTx, fun _ => Nat.le_refl _, fun _ => hVc, ?_⟩
    · rw [sme_refl]; rfl
    · rw [strEq_list, beq_self_eq_true]; rfl
end Go.Proofs.YtgahnelicbddcaaGreatDoor

namespace Go.Proofs.YtgahnelicbddcaaGreatDoor
open Go.Sx
set_option maxRecDepth 100000
theorem law_each {P : Program} {k : FuncId} {okA : List SV → Prop} (hf : (P.funcs[k]?).isSome = true) (hb : (fnOf P k).body.isSome = true)
    (h : ∀ ss, okA ss → ∃ C dr, CtxOK P C ∧ DrOK P C dr ∧ ∃ n hint, Sat P (fnT P C dr n (fnOf P k) (bodyOf P k) ss hint) (· = bv true)) :
    ∃ c : Ctr, CtrOK P k c ∧ ∀ ss, okA ss → (c ss).ev (bv true) := by
  refine ⟨fun ss => .need (okA ss) (.ret (bv true)), ?_, fun ss hs => ⟨hs, rfl⟩⟩
  intro ss vs w F r hF hgl hr hev
  obtain ⟨h1, rfl⟩ := hev
  obtain ⟨C, dr, hC, hD, n, hint, h2⟩ := h ss h1
  have h3 : CtrOK P k (fun s => .need (s = ss) (.ret (bv true))) := ctrOK_S hC hD hf hb fun s r' hr' => by
    obtain ⟨rfl, rfl⟩ := hr'
    exact ⟨n, hint, h2⟩
  exact h3 ss vs w F _ hF hgl hr ⟨rfl, rfl⟩
end Go.Proofs.YtgahnelicbddcaaGreatDoor

namespace Go.Sx
def fldT (P : Program) (t : TypeId) : Option (List TypeId) := match P.underlying t with | some (.struct fs) => some (fs.toList.map (·.type)) | _ => none
def okTs (P : Program) (n : Nat) : List TypeId → List DV → Prop
  | [], ds => ds = []
  | t :: ts, ds => ∃ a b, ds = a ++ b ∧ okT P n t a ∧ okTs P n ts b
theorem okFs_Ts {P : Program} {n : Nat} : ∀ {fs : List Field} {ds : List DV}, okFs (okT P n) fs ds → okTs P n (fs.map (·.type)) ds
  | [], ds, h => h
  | f :: fs, ds, h => by
    obtain ⟨a, b, e, h1, h2⟩ := h
    exact ⟨a, b, e, h1, okFs_Ts h2⟩
theorem okT_struct {P : Program} {n : Nat} {t : TypeId} {ts : List TypeId} {ds : List DV} (h : fldT P t = some ts) (k : okT P (n + 1) t ds) : okTs P n ts ds ∧ svT P t ds = .agg (ds.map .d) := by
  unfold fldT at h
  split at h
  · rename_i fs hu
    unfold okT at k
    rw [hu] at k
    simp only [Option.some.injEq] at h
    subst h
    refine ⟨okFs_Ts k, ?_⟩
    unfold svT; rw [hu]
  · cases h
end Go.Sx
namespace Go.Proofs.YtgahnelicbddcaaGreatDoor
open Go.Sx
set_option maxRecDepth 100000
theorem u27 : Tryz.prog.underlying 27 = some (.slice 3) := by kernel_rfl
theorem u47 : Tryz.prog.underlying 47 = some (.slice 45) := by kernel_rfl
theorem u9 : Tryz.prog.underlying 9 = some .string := by kernel_rfl
theorem u3 : Tryz.prog.underlying 3 = some (.int .i64) := by kernel_rfl
theorem c45 : Tryz.prog.cellsOf 45 = 2 := by kernel_rfl
theorem c3 : Tryz.prog.cellsOf 3 = 1 := by kernel_rfl
theorem int_arg {n : Nat} {ds : List DV} (h : okT Tryz.prog (n + 1) 3 ds) : ∃ v : Int, i64B v ∧ ds = [.x (.int .i64 v)] := by
  obtain ⟨v, hv, he⟩ := okT_int u3 h
  have h0 : IntKind.i64.min = -9223372036854775808 := rfl
  have h1 : IntKind.i64.max = 9223372036854775807 := rfl
  exact ⟨v, ⟨by omega, by omega⟩, he⟩
theorem ints_arg {n : Nat} {ds : List DV} (h : okT Tryz.prog (n + 2) 27 ds) : ∃ (m : Nat) (f : Nat → Nat → DV), ds = [.ro m 1 f] ∧ RowOK m f := by
  unfold okT at h
  rw [u27] at h
  obtain ⟨m, cell, hm, rfl, hc⟩ := h
  rw [c3] at hc ⊢
  have hm : m ≤ 9223372036854775807 := hm
  refine ⟨m, cell, rfl, hm, fun a ha => ?_⟩
  obtain ⟨v, hv, he⟩ := int_arg (hc a ha)
  have : cell a 0 = .x (.int .i64 v) := by simpa [List.range, List.range.loop] using he
  rw [this]; rfl
theorem bads_arg {n : Nat} {ds : List DV} (h : okT Tryz.prog (n + 4) 47 ds) : ∃ (m : Nat) (f : Nat → Nat → DV), ds = [.ro m 2 f] ∧ m ≤ 9223372036854775807 ∧ ∀ i, i < m → ∃ n0 c0 n1 c1, f i 0 = .ro n0 1 c0 ∧ f i 1 = .ro n1 1 c1 ∧ RowOK n0 c0 ∧ RowOK n1 c1 := by
  unfold okT at h
  rw [u47] at h
  obtain ⟨m, cell, hm, rfl, hc⟩ := h
  rw [c45] at hc ⊢
  have hm : m ≤ 9223372036854775807 := hm
  refine ⟨m, cell, rfl, hm, fun a ha => ?_⟩
  obtain ⟨⟨a1, r1, e1, k1, a2, r2, e2, k2, e3⟩, -⟩ := okT_struct (ts := [27, 27]) (by kernel_rfl) (hc a ha)
  obtain ⟨n0, c0, rfl, h0⟩ := ints_arg k1
  obtain ⟨n1, c1, rfl, h1⟩ := ints_arg k2
  subst e3
  subst e2
  have e4 : [cell a 0, cell a 1] = [.ro n0 1 c0, .ro n1 1 c1] := e1
  simp only [List.cons.injEq, and_true] at e4
  exact ⟨n0, c0, n1, c1, e4.1, e4.2, h0, h1⟩
theorem bads_ch {m2 : Nat} {c2 : Nat → Nat → DV} {k2 : Nat} {s2 : Nat → Nat → DV} (hc : RowOK m2 c2) (hk : k2 ≤ 9223372036854775807) (hs : ∀ i, i < k2 → ∃ n0 c0 n1 c1, s2 i 0 = .ro n0 1 c0 ∧ s2 i 1 = .ro n1 1 c1 ∧ RowOK n0 c0 ∧ RowOK n1 c1) : ChRO m2 c2 k2 s2 := by
  refine ⟨⟨rfl, hc.2⟩, ⟨rfl, fun i hi => ?_⟩, ?_, ?_, ?_⟩
  · obtain ⟨n0, c0, n1, c1, e0, e1, h0, h1⟩ := hs i hi
    rw [e0, e1]; exact ⟨⟨rfl, h0.2⟩, rfl, h1.2⟩
  · show (lsOf m2 c2).length ≤ _
    rw [lsOf_len]; exact hc.1
  · show ((List.range k2).map _).length ≤ _
    simp only [List.length_map, List.length_range]; exact hk
  · intro x hx
    obtain ⟨i, hi, rfl⟩ := List.mem_map.1 hx
    obtain ⟨n0, c0, n1, c1, e0, e1, h0, h1⟩ := hs i (List.mem_range.1 hi)
    rw [e0, e1]
    show (lsOf n0 c0).length ≤ _ ∧ (lsOf n1 c1).length ≤ _
    rw [lsOf_len, lsOf_len]; exact ⟨h0.1, h1.1⟩
theorem odd_arg {ds : List DV} (h : okT Tryz.prog 6 58 ds) : ∃ (cw ch ct cp : Int) (m2 : Nat) (c2 : Nat → Nat → DV) (k2 : Nat) (s2 : Nat → Nat → DV) (nd sk sx sy si : Int) (s : List UInt8) (k : Nat) (b : Nat → Nat → DV),
    svT Tryz.prog 58 ds = oddF cw ch ct cp m2 c2 k2 s2 nd sk sx sy si s k b ∧ RowOK m2 c2 ∧ ChRO m2 c2 k2 s2 ∧ ByteRow k b ∧ i64B nd := by
  obtain ⟨⟨d1, r1, rfl, k1, d2, r2, rfl, k2, d3, r3, rfl, k3, d4, r4, rfl, k4, d5, r5, rfl, k5, rfl⟩, e⟩ := okT_struct (ts := [49, 3, 33, 9, 22]) (by kernel_rfl) h
  rw [e]
  obtain ⟨⟨g1, t1, rfl, l1, g2, t2, rfl, l2, rfl⟩, -⟩ := okT_struct (ts := [29, 47]) (by kernel_rfl) k1
  obtain ⟨⟨a1, t1, rfl, q1, a2, t2, rfl, q2, a3, t3, rfl, q3, a4, t4, rfl, q4, a5, t5, rfl, q5, rfl⟩, -⟩ := okT_struct (ts := [3, 3, 3, 3, 27]) (by kernel_rfl) l1
  obtain ⟨⟨b1, t1, rfl, p1, b2, t2, rfl, p2, b3, t3, rfl, p3, b4, t4, rfl, p4, rfl⟩, -⟩ := okT_struct (ts := [3, 3, 3, 3]) (by kernel_rfl) k3
  obtain ⟨v1, -, rfl⟩ := int_arg q1
  obtain ⟨v2, -, rfl⟩ := int_arg q2
  obtain ⟨v3, -, rfl⟩ := int_arg q3
  obtain ⟨v4, -, rfl⟩ := int_arg q4
  obtain ⟨m2, c2, rfl, hc⟩ := ints_arg q5
  obtain ⟨kk, s2, rfl, hk, hs⟩ := bads_arg l2
  obtain ⟨nd, hn, rfl⟩ := int_arg k2
  obtain ⟨x1, -, rfl⟩ := int_arg p1
  obtain ⟨x2, -, rfl⟩ := int_arg p2
  obtain ⟨x3, -, rfl⟩ := int_arg p3
  obtain ⟨x4, -, rfl⟩ := int_arg p4
  obtain ⟨s, -, rfl⟩ := okT_string u9 k4
  obtain ⟨k, b, rfl, hb⟩ := bytes_arg k5
  exact ⟨v1, v2, v3, v4, m2, c2, kk, s2, nd, x1, x2, x3, x4, s.data.toList, k, b, rfl, hc, bads_ch hc hk hs, hb, hn⟩
theorem chipMatchesReference_ok : ∃ c : Ctr, CtrOK Tryz.prog 5 c ∧ ∀ ss, okArgs Tryz.prog 6 [24, 58] ss → (c ss).ev (bv true) := by
  refine law_each (by kernel_rfl) (by kernel_rfl) fun ss h => ?_
  obtain ⟨d1, r1, rfl, k1, d2, r2, rfl, k2, rfl⟩ := h
  obtain ⟨w, h, t, p, m, f, hr, e1⟩ := raw_arg k1
  obtain ⟨cw, ch, ct, cp, m2, c2, k2, s2, nd, sk, sx, sy, si, s, k, b, e2, hc, hcs, hb, hn⟩ := odd_arg k2
  rw [e1, e2]
  exact law5_sat hr hc hcs hb hn
end Go.Proofs.YtgahnelicbddcaaGreatDoor

namespace Go.Proofs.YtgahnelicbddcaaGreatDoor
open Go.Sx
set_option maxRecDepth 100000


def laid5 : List (String × DataW Unit) := [("math/bits.deBruijn32tab", Rows.laid_math_bits_deBruijn32tab), ("math/bits.deBruijn64tab", Rows.laid_math_bits_deBruijn64tab), ("internal/strconv.uint64pow10", Rows.laid_internal_strconv_uint64pow10), ("unicode/utf8.acceptRanges", Rows.laid_unicode_utf8_acceptRanges), ("strconv.ErrRange", Rows.laid_strconv_ErrRange), ("strconv.ErrSyntax", Rows.laid_strconv_ErrSyntax), ("unicode/utf8.first", Rows.laid_unicode_utf8_first)]
theorem glPow : Tryz.prog.globalNamed "internal/strconv.uint64pow10" = some 1 := by kernel_rfl
theorem glSyn : Tryz.prog.globalNamed "strconv.ErrSyntax" = some 2 := by kernel_rfl
theorem glRng : Tryz.prog.globalNamed "strconv.ErrRange" = some 3 := by kernel_rfl
theorem plain5 : (laid5.all fun x => x.2.handleName?.isNone) = true := by kernel_rfl
theorem var_obj {w : World} {name : String} {g : Nat} {cs : Array Value} (hg : Tryz.prog.globalNamed name = some g) (h : w.var? Tryz.prog name = some cs) : ∃ e fr, w.heap[g]? = some (.cells cs e fr) := by
  unfold World.var? at h
  rw [hg] at h
  simp only [Option.bind_some] at h
  split at h
  · rename_i c e fr heq
    simp only [Option.some.injEq] at h; subst h
    exact ⟨e, fr, heq⟩
  · cases h
theorem typePow : (Tryz.prog.globals[1]?).map (·.type) = some 168 := by kernel_rfl
theorem typeSyn : (Tryz.prog.globals[2]?).map (·.type) = some 82 := by kernel_rfl
theorem typeRng : (Tryz.prog.globals[3]?).map (·.type) = some 82 := by kernel_rfl
theorem star : "*" ++ "errors.errorString" = "*errors.errorString" := by decide
theorem rowErr (u : TypeId) (h : Tryz.prog.typeName? 3 u = some "*errors.errorString") : u = 187 :=
  typeName_ptr_named (nm := "errors.errorString") (by rw [star]; kernel_rfl) (by kernel_rfl) (by decide) u (by rw [star]; exact h)

theorem glob_of {W : World} (h : laidMetH Tryz.prog laid5 W) (hs : W.ShapedOpen Tryz.prog) : GlobOK W (fun b => b < W.heap.size) := by
  rw [MakeChecks.laidMetH_plain _ _ _ plain5] at h
  have h2 : laidMet Tryz.prog [("internal/strconv.uint64pow10", Lib.tabData .u64 Lib.pow10Tab), ("unicode/utf8.acceptRanges", Rows.laid_unicode_utf8_acceptRanges), ("strconv.ErrRange", Rows.laid_strconv_ErrRange), ("strconv.ErrSyntax", Rows.laid_strconv_ErrSyntax), ("unicode/utf8.first", Rows.laid_unicode_utf8_first)] W := h.tail.tail
  have ht := Lib.tabIs_of_head glPow typePow Tryz.underlying168 Tryz.underlying147 (by kernel_rfl) (by kernel_rfl) h2
  obtain ⟨a0, s0, hv0, -, -, -⟩ := laid_sentinel h2.tail.tail glRng typeRng Tryz.underlying82 rowErr Tryz.underlying187 Tryz.underlying189 rfl rfl Tryz.underlying9 (by kernel_rfl) (by kernel_rfl)
  obtain ⟨a1, s1, hv1, -, -, -⟩ := laid_sentinel h2.tail.tail.tail glSyn typeSyn Tryz.underlying82 rowErr Tryz.underlying187 Tryz.underlying189 rfl rfl Tryz.underlying9 (by kernel_rfl) (by kernel_rfl)
  obtain ⟨m, hm⟩ := cell_of_shapedOpen_int (g := 0) (t := 3) (zero := #[.int .i64 0]) (k := .i64) hs (of_decide_eq_true (by kernel_rfl)) (by kernel_rfl) rfl (by kernel_rfl) (by kernel_rfl) Tryz.underlying3
  have k1 : okTab Lib.pow10Tab W.heap[1]? := by
    obtain ⟨e, fr, hh⟩ := var_obj glPow ht
    exact ⟨e, fr, hh⟩
  have k2 : okErr W.heap[2]? := by
    obtain ⟨e, fr, hh⟩ := var_obj glSyn hv1
    exact ⟨_, e, fr, _, _, hh, rfl⟩
  have k3 : okErr W.heap[3]? := by
    obtain ⟨e, fr, hh⟩ := var_obj glRng hv0
    exact ⟨_, e, fr, _, _, hh, rfl⟩
  have k4 : okInt W.heap[0]? := cell_okInt hm
  have lt : ∀ {g : Nat} {o : Obj}, W.heap[g]? = some o → g < W.heap.size := fun hh => (Array.getElem?_eq_some_iff.1 hh).1
  refine ⟨fun g n cell hg => (by cases hg), fun g Q hg => ?_⟩
  match g, hg with
  | 1, hg => cases hg; exact ⟨by obtain ⟨e, fr, hh⟩ := k1; exact lt hh, k1⟩
  | 0, hg => cases hg; exact ⟨by obtain ⟨c, e, fr, m, hh, _⟩ := k4; exact lt hh, k4⟩
  | 2, hg => cases hg; exact ⟨by obtain ⟨c, e, fr, t, p, hh, _⟩ := k2; exact lt hh, k2⟩
  | 3, hg => cases hg; exact ⟨by obtain ⟨c, e, fr, t, p, hh, _⟩ := k3; exact lt hh, k3⟩

end Go.Proofs.YtgahnelicbddcaaGreatDoor

namespace Go.Proofs.YtgahnelicbddcaaGreatDoor
open Go.ChangeShapes Go.WideShapes Go.ChangeAt Go.RowKit Go.Sx

theorem own : ownKnob Tryz.prog.godebug = none := by kernel_rfl
theorem laidOut : laidOutB Tryz.prog = true := by kernel_rfl

set_option maxRecDepth 100000 in
theorem lifted (os : Os) (started : os.Started) (H : Type) (enc : TypeId × Value → H) :
    ReturnsInHanded {} Tryz.checked os 5 .any (fun w args => (Rows.chipMatchesReferenceSpec.pre enc Tryz.prog Tryz.f5 Rows.chipMatchesReferenceRow.domain false w args ∧ laidMetH Tryz.prog laid5 w) ∧ sizedMet enc Tryz.prog Tryz.f5 (OpenSpec.ofChange Rows.chipMatchesReferenceSpec) false w args)
      (Rows.chipMatchesReferenceSpec.post enc Tryz.prog Tryz.f5 false true false false) := by
  refine returnsInHanded_of_change_ands (C := Tryz.checked) (X := fun w _ => laidMetH Tryz.prog laid5 w) (fun _ _ _ hh h => h.of_heap hh) own started (by kernel_rfl) Tryz.func5
    (ChangeSpec.witness_shaped (enc := enc) (C := Tryz.checked) (os := os) (X := fun w _ => laidMetH Tryz.prog laid5 w) false (World.laidAll Tryz.prog os laid5) #[.agg #[.int .u8 0, .int .u8 0, .int .u8 0, .int .u8 0, .slice none 0 0], .agg #[.int .i64 0, .int .i64 0, .int .i64 0, .int .i64 0, .slice none 0 0, .slice none 0 0, .int .i64 0, .int .i64 0, .int .i64 0, .int .i64 0, .int .i64 0, .string ⟨#[]⟩, .slice none 0 0]] 8 (World.laidAll_os _ _ _) (World.shaped_of_ZipB (by kernel_rfl) (by kernel_rfl)) (by kernel_rfl) (by kernel_rfl) (by kernel_rfl) (by rw [MakeChecks.laidMetH_plain _ _ _ (by kernel_rfl)]; exact laidMet_laidAll _ (by kernel_rfl) (by kernel_rfl))) ?_
  intro W base args ds gs before hval0 hW hcnd _ hL hsh _
  have hval : ∀ (j : Nat) t v, Tryz.f5.params[j]? = some t → args[j]? = some v → Value.okWide Tryz.prog W .any base t v := hval0
  have hW' := hW
  obtain ⟨p, q, hA0, hV, rfl, hfz, hnd⟩ := hW
  have hA : DataW.TrodAll enc Tryz.prog W 0 (fun _ => true) true Tryz.f5.params.toList args.toList ds p := hA0
  rw [Tryz.params5] at hA hval
  obtain ⟨rfl, rfl⟩ := trodVars_none hV
  obtain ⟨v0, vs0, d0, ds0, p0, q0, hargs, rfl, e0, h0, r0⟩ := trodAll_cons hA
  obtain ⟨v1, vs1, d1, ds1, p1, q1, e1_1, rfl, e2_1, h1, r1⟩ := trodAll_cons r0
  obtain ⟨e3, rfl, e4⟩ := trodAll_nil r1
  obtain ⟨c, hc, hev⟩ := chipMatchesReference_ok
  have hlt := trodAll_lt hA
  obtain ⟨ss, o1, o2, o3⟩ := open_args (F := fun b => b < W.heap.size) (n := 6) (r := .any) (base := base) (by kernel_rfl) hA (fun j t v a b => hval j t v (by simpa using a) (by simpa using b)) (fun q hq => hlt q hq)
  refine (law_of hc (F := fun b => b < W.heap.size) (fun b hb => hb) (glob_of hL hsh) (ss := ss) ⟨by simpa using o2, fun i hi => by simpa [List.getD, Array.getD_eq_getD_getElem?] using o3 i hi⟩ (hev ss o1)).mono fun e W' ⟨he, bel⟩ => ?_
  subst he
  have hback := trodAll_below laidOut bel (by kernel_rfl) hA
  exact ⟨_, rfl, _, _, _, [], _, [], hW', trodAll_mk1 (shut_bool Tryz.underlying4 _), hback, rfl, bel.frame _, fun h => by cases h⟩

theorem over : Rows.chipMatchesReferenceRow.holds Tryz.pinned (OpenSpec.ofChange Rows.chipMatchesReferenceSpec) :=
  OpenClaim.holds_of_wide 5 Tryz.f5 rfl rfl rfl rfl rfl rfl rfl ⟨rfl, rfl, rfl, rfl, rfl⟩ rfl rfl rfl rfl rfl (by kernel_rfl) Tryz.func5 (by kernel_rfl)
    (of_decide_eq_true (by kernel_rfl)) (by unfold Func.isWrapper; first | (rw [if_pos (by decide +kernel)]; kernel_rfl) | (rw [if_neg (by decide +kernel)]; exact ⟨rfl, rfl⟩))
    (fun os started H enc _ => lifted os started H enc)

theorem chipMatchesReference_holds : Rows.ChipMatchesReferenceCardSaid :=
  Claim7.holds_tied_plain_at .later [] [.data, .data, .data, .data, .sentinel, .sentinel, .pinned] true (true, "852957a0fd3a95ff81f08367dbb2fe76ca4ada6cce9636746d3b1b7e667c6a4c") true
    over (fun _ h => by cases h) (by kernel_rfl) (fun _ h => by cases h) chipMatchesReference_row_tie rfl ⟨rfl, rfl⟩ (by kernel_rfl) rfl
    (fun f fn hf hfn => by
      obtain rfl : f = 5 := Option.some.inj ((show Tryz.prog.funcNamed "wireloom/wireloomlaw28.ChipMatchesReference" = some 5 by kernel_rfl).symm.trans hf) |>.symm
      obtain rfl : fn = Tryz.f5 := (Option.some.inj (Tryz.func5.symm.trans hfn)).symm
      exact ⟨by kernel_rfl, fun j t ht => by
        rw [Tryz.params5] at ht
        have hm : t ∈ [24, 58] := by simpa using Array.mem_of_getElem? ht
        have hall : ([24, 58].all fun u => !Tryz.prog.wantsStandIn u) = true := by kernel_rfl
        exact (show Tryz.prog.wantsStandIn t = false by simpa using List.all_eq_true.1 hall t hm)⟩)
    (by kernel_rfl)
#print axioms chipMatchesReference_holds
end Go.Proofs.YtgahnelicbddcaaGreatDoor

