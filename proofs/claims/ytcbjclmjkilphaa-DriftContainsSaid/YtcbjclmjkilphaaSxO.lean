/- The symbolic executor: code, and that it is sound. -/
import Derived.Test.YtcbjclmjkilphaaSxN
set_option linter.unusedVariables false
set_option linter.unusedSimpArgs false
namespace Go.Sx
noncomputable section

/-- What holds behind a region. -/
def postR (Q : AS → Prop) : Ex → AS → Prop := fun e st => e = .normal ∧ Q st

theorem wanted_step {P : Program} {ops : Array Oper} {o : Oper} {rest : List Oper} {a : Act} {w : World} {Q : Exit → Act → World → Prop} {r : Option Nat}
    (h : if Region.wanted o (yielded ops a.tmps) then o.wpIn (FW r) 0 P a w (wpListIn (FW r) 0 P ops Q rest) Q else wpListIn (FW r) 0 P ops Q rest (a.put o.dst undef) w) : wpListIn (FW r) 0 P ops Q (o :: rest) a w := by
  unfold wpListIn
  split
  · rename_i hw; rw [if_pos hw] at h; exact h
  · rename_i hw; rw [if_neg hw] at h; exact ⟨fun _ _ => trivial, h⟩

theorem newId_lt {o : Oper} {n : Nat} : ∀ l, NewId n o l → l < nextOf o n := by
  rintro l ⟨rfl, hq⟩
  simp [nextOf, hq]

theorem le_nextOf (o : Oper) (n : Nat) : n ≤ nextOf o n := by unfold nextOf; split <;> omega

theorem isInl_spec {C : Ctx} {tm : List TV} {o : Oper} {k : FuncId} {args : List SV} (h : isInl C tm o = some (k, args)) : ∃ c, o.op = .call c ∧ callee (rhoR tm none (opSlots o)) c = some (k, args) ∧ C.inl k = true := by
  unfold isInl at h
  split at h
  · rename_i c hop
    split at h
    · rename_i k' args' hc
      split at h
      · rename_i hk
        simp only [Option.some.injEq, Prod.mk.injEq] at h
        obtain ⟨rfl, rfl⟩ := h
        simp only [Bool.and_eq_true] at hk
        exact ⟨c, hop, hc, hk.2⟩
      · cases h
    · cases h
  · cases h

section
variable {P : Program} {C : Ctx} {inl : Inl} {ops : Array Oper} {p : Par} {μ0 : Mu} {Q : AS → Prop} {r : Option Nat}

theorem doOp_sound (hC : CtxOK P C) {o : Oper} {st : AS} {k : AS → Tree AS} {a : Act} {w : World} {K : Act → World → Prop} {Qx : Exit → Act → World → Prop} (hs : Sim p μ0 st a w) (hk : (doOp P C o st k).sat P Q)
    (hK : ∀ st' a' w', (k st').sat P Q → Sim p μ0 st' a' w' → K a' w') : o.wpIn (FW r) 0 P a w K Qx := by
  obtain ⟨μ, F, hh, hf, h0, ht, hsz, hd⟩ := hs
  unfold doOp at hk
  have hk := Tree.sat_bind hk
  obtain ⟨r0, h1, h2⟩ := sat_ofTrH hk
  rw [putF_eq (fun hq => opAll_quiet (s := r0.1) (hp' := r0.2) hq h1)] at h2
  split at h2
  · rename_i tm' hpd
    refine opAll_sound hC (hs_seq1 hh) (hf _ (Nat.le_refl _)) ht (fun g b e => by cases e) h1 fun v w' ho => hK _ _ _ h2 ?_
    obtain ⟨μ', F', e1, e2, e3, e4⟩ := ho
    exact sim_put (tv := .ok r0.1) hh hf h0 ht hsz hd ⟨μ', F', e1, e2, e3, e4⟩ newId_lt (le_nextOf _ _) hpd (fun g b s e => by cases e)
  · exact h2.elim

theorem doFree_sound (hC : CtxOK P C) (hI : InlOK P C inl) {o : Oper} {st : AS} {k : AS → Tree AS} {a : Act} {w : World} {K : Act → World → Prop} {Qx : Exit → Act → World → Prop} (hs : Sim p μ0 st a w) (hk : (doFree P C inl o st k).sat P Q)
    (hK : ∀ st' a' w', (k st').sat P Q → Sim p μ0 st' a' w' → K a' w') : o.wpIn (FW r) 0 P a w K Qx := by
  obtain ⟨μ, F, hh, hf, h0, ht, hsz, hd⟩ := hs
  unfold doFree at hk
  split at hk
  · rename_i f args hin
    obtain ⟨c, hop, hcal, hif⟩ := isInl_spec hin
    obtain ⟨hn, hk⟩ := needT_sat hk
    have hk := Tree.sat_bind hk
    obtain ⟨vs, h1, h2⟩ := callee_run (rhoR_sound ht (fun g b e => by cases e) hn) hop (hC.inl f hif) hcal
    refine ⟨fun _ _ => trivial, ?_⟩
    rw [semAt_eq (fun c h => by rw [hop] at h; cases h), h1]
    refine ⟨(fun h => by cases h), callsW r _ ((hI f args st _ hif hk μ F w vs (hs_seq1 hh) hf h2).mono ?_)⟩
    rintro e w' ⟨v, s, st', μ', F', rfl, hR, e1, e2, e3, e4⟩
    rw [putF_eq (fun h => by cases h)] at hR
    split at hR
    · rename_i tm' hpd
      refine hK _ _ _ hR ?_
      have hext := ext_F (hs_seq1 hh) e1
      refine ⟨μ', F', hs_seq2 hh e1, e4, fun l q hq => e3 l q (h0 l q hq), ?_, ?_, by rw [Act.put_defers]; exact hd.step (hs_seq1 hh) e1⟩
      · cases hdst : o.dst with
        | none =>
          rw [hdst] at hpd
          simp only [putD, Option.some.injEq] at hpd; subst hpd
          exact fun t => (ht t).mono hext e1.sub e3
        | some d =>
          rw [hdst] at hpd
          simp only [putD] at hpd
          split at hpd
          · rename_i hk2
            simp only [Option.some.injEq] at hpd; subst hpd
            exact tmOK_put ht hext e1.sub e3 (by omega) hk2.1 hk2.2 e2
          · cases hpd
      · cases hdst : o.dst with
        | none => rw [hdst] at hpd; simp only [putD, Option.some.injEq] at hpd; subst hpd; exact hsz
        | some d =>
          rw [hdst] at hpd
          simp only [putD] at hpd
          split at hpd
          · simp only [Option.some.injEq] at hpd; subst hpd; simp [Act.put]; exact hsz
          · cases hpd
    · exact hR.elim
  · split at hk
    · exact doOp_sound hC ⟨μ, F, hh, hf, h0, ht, hsz, hd⟩ hk hK
    · rename_i l r' _
      obtain ⟨hps, hk⟩ := needT_sat hk
      rw [frcS_eq] at hk
      exact doOp_sound hC (frz_sim P ⟨μ, F, hh, hf, h0, ht, hsz, hd⟩ hps) hk hK

theorem doSkip_sound {o : Oper} {st : AS} {k : AS → Tree AS} {a : Act} {w : World} {K : Act → World → Prop} (hs : Sim p μ0 st a w) (hk : (doSkip o st k).sat P Q) (hK : ∀ st' a' w', (k st').sat P Q → Sim p μ0 st' a' w' → K a' w') : K (a.put o.dst undef) w := by
  obtain ⟨μ, F, hh, hf, h0, ht, hsz, hd⟩ := hs
  unfold doSkip at hk
  rw [putF_eq (fun _ => rfl)] at hk
  split at hk
  · rename_i tm' hpd
    refine hK _ _ _ hk ?_
    exact sim_put (N := fun _ => False) (tv := .ok uv) hh hf h0 ht hsz hd ⟨μ, F, hs_seq1 hh, .d (.x _), fun _ _ h => h, fun _ _ => rfl⟩ (fun l h => h.elim) (Nat.le_refl _) hpd (fun g b s e => by cases e)
  · exact hk.elim

theorem doSpec_sound (hC : CtxOK P C) {o : Oper} {st : AS} {k : AS → Tree AS} {a : Act} {w : World} {K : Act → World → Prop} {Qx : Exit → Act → World → Prop} (hs : Sim p μ0 st a w) (hk : (doSpec P C ops o st k).sat P Q) (hK : ∀ st' a' w', (k st').sat P Q → Sim p μ0 st' a' w' → K a' w') :
    if Region.wanted o (yielded ops a.tmps) then o.wpIn (FW r) 0 P a w K Qx else K (a.put o.dst undef) w := by
  obtain ⟨μ, F, hh, hf, h0, ht, hsz, hd⟩ := hs
  unfold doSpec at hk
  split at hk
  · rename_i hq
    have hk := Tree.sat_bind hk
    obtain ⟨r0, h1, h2⟩ := sat_ofTrH hk
    rw [putF_eq (fun h => by cases h)] at h2
    split at h2
    · rename_i tm' hpd
      refine stepTr_sound hC (hs_seq1 hh) (hf _ (Nat.le_refl _)) ht h1 fun v w' ho => hK _ _ _ h2 ?_
      refine sim_put hh hf h0 ht hsz hd ho (fun l hl => by rw [NewId, hq] at hl; cases hl.2) (Nat.le_refl _) hpd (fun g b s e => ?_)
      unfold stepTr at h1
      split at h1
      · split at h1
        · simp only [Tr.ev] at h1; rw [h1] at e; cases e
        obtain ⟨r', h3, h4⟩ := Tr.ev_bind h1
        obtain ⟨tv, hp'⟩ := r0
        simp only at e
        obtain ⟨_, h5 | ⟨_, h5, _⟩⟩ := litOf_ev h4 <;> (rw [h5] at e; cases e)
      · simp only [Tr.ev] at h1; rw [h1] at e; cases e
      · split at h1
        · rename_i hq2
          simp only [Bool.and_eq_true, bne_iff_ne, ne_eq] at hq2
          obtain ⟨tv, hp'⟩ := r0
          obtain ⟨_, s', h4, _⟩ := specT_ev h1
          simp only at e
          rw [h4] at e
          cases e
          exact hq2.2
        · exact h1.elim
      · exact h1.elim
    · exact h2.elim
  · exact hk.elim

theorem runOps_sound (hC : CtxOK P C) (hI : InlOK P C inl) : ∀ (l : List Oper) (st : AS) (a : Act) (w : World), Sim p μ0 st a w → (runOps P C inl ops l st).sat P Q → wpListIn (FW r) 0 P ops (conc p μ0 (postR Q)) l a w
  | [], st, a, w, hs, hq => ⟨st, ⟨rfl, hq⟩, hs⟩
  | o :: rest, st, a, w, hs, hq => by
    have ih : ∀ st' a' w', (runOps P C inl ops rest st').sat P Q → Sim p μ0 st' a' w' → wpListIn (FW r) 0 P ops (conc p μ0 (postR Q)) rest a' w' := fun st' a' w' h1 h2 => runOps_sound hC hI rest st' a' w' h2 h1
    have hs0 := hs
    obtain ⟨μ, F, hh, hf, h0, ht, hsz, hd⟩ := hs
    apply wanted_step
    unfold runOps at hq
    split at hq
    · rename_i hgs
      rw [if_pos (gstat_free ht hgs)]
      exact doFree_sound hC hI hs0 hq ih
    · rename_i hgs
      rw [if_neg (gstat_skip ht hgs)]
      exact doSkip_sound hs0 hq ih
    · rename_i g w0 b hgs
      split at hq
      · exact doSpec_sound hC hs0 hq ih
      · obtain ⟨j, e1, e2, e3⟩ := gstat_tagd hgs
        have hg := e3 b rfl
        have hval : a.tmps.getD g undef = .bool b := by have := ht g; rw [hg] at this; exact rep_x this
        have hwant := wanted_iff (tmps := a.tmps) e1 e2
        obtain ⟨h', ⟨rfl, hq2⟩ | ⟨rfl, hq2⟩⟩ := branchB_sat hq
        · have hs1 : Sim p μ0 { st with tm := st.tm.set g (.lit true), hint := h' } a w := ⟨μ, F, hh, hf, h0, ht.lit hg, by simpa using hsz, hd⟩
          cases w0 with
          | true =>
            rw [if_pos (hwant.2 hval)]
            exact doFree_sound hC hI hs1 hq2 ih
          | false =>
            rw [if_neg (fun h => by have := hwant.1 h; rw [hval] at this; cases this)]
            exact doSkip_sound hs1 hq2 ih
        · have hs1 : Sim p μ0 { st with tm := st.tm.set g (.lit false), hint := h' } a w := ⟨μ, F, hh, hf, h0, ht.lit hg, by simpa using hsz, hd⟩
          cases w0 with
          | true =>
            rw [if_neg (fun h => by have := hwant.1 h; rw [hval] at this; cases this)]
            exact doSkip_sound hs1 hq2 ih
          | false =>
            rw [if_pos (hwant.2 hval)]
            exact doFree_sound hC hI hs1 hq2 ih
    · exact doSpec_sound hC hs0 hq ih
    · exact hq.elim
end

/-! ### Results -/

def absRes (P : Program) (st : AS) : ResultVar → Tr SV
  | .tmp t => Tr.ofOpt (tvStrict none (tget st.tm t))
  | .cell t ty => match tvStrict none (tget st.tm t) with
    | some p => absLoad P st.hp ty p
    | none => .fail

def absResults (P : Program) (rs : Array ResultVar) (st : AS) : Tr SV :=
  match rs.toList with
  | [] => .ret (.tup [])
  | [x] => absRes P st x
  | [x, y] => (absRes P st x).bind fun a => (absRes P st y).bind fun b => .ret (.tup [a, b])
  | [x, y, z] => (absRes P st x).bind fun a => (absRes P st y).bind fun b => (absRes P st z).bind fun c => .ret (.tup [a, b, c])
  | _ => .fail

def resOne (tmps : Array Value) : ResultVar → Sem Value
  | .tmp t => pure (tmps.getD t undef)
  | .cell a t => do loadVar t (← asAddr (tmps.getD a undef))

theorem absRes_sound {P : Program} {w : World} {μ : Mu} {F : Nat → Prop} {st : AS} {tmps : Array Value} {x : ResultVar} {s : SV} (hl : LH w μ F st.hp) (ht : TmOK w μ F st.tm tmps) (he : (absRes P st x).ev s) : ∃ v, (resOne tmps x).run P w = .ok v w ∧ Rep w μ F v s := by
  unfold absRes at he
  split at he
  · rename_i t
    exact ⟨_, rfl, tvStrict_sound (ht t) (fun g b e => by cases e) (Tr.ev_ofOpt he)⟩
  · rename_i t ty
    split at he
    · rename_i q hq
      have hr := tvStrict_sound (ht t) (fun g b e => by cases e) hq
      obtain ⟨u, h1, h2⟩ := absLoad_sound hl hr he
      refine ⟨u, ?_, h2⟩
      unfold resOne
      unfold Instr.loadAt at h1
      have key : ∀ v, (∃ ad, v = .pointer (some ad)) → (Instr.sureAddr v >>= loadVar ty : Sem Value).run P w = (asAddr v >>= loadVar ty : Sem Value).run P w := by
        rintro v ⟨ad, rfl⟩; rfl
      have hp : ∃ ad, tmps.getD t undef = .pointer (some ad) := by
        generalize tmps.getD t undef = v at hr
        cases hr with
        | ptr => exact ⟨_, rfl⟩
        | pix => exact ⟨_, rfl⟩
        | rop => exact ⟨_, rfl⟩
        | d hd => unfold absLoad at he; split at he <;> exact he.elim
        | _ => unfold absLoad at he; split at he <;> exact he.elim
      have := key _ hp
      simp only [bind, Sem.bind] at this h1 ⊢
      exact this.symm.trans h1
    · exact he.elim

def retV : List Value → Value
  | [v] => v
  | vs => .tuple vs.toArray

theorem results_run {P : Program} {fn : Func} {tmps : Array Value} {w : World} {rs : List ResultVar} (h : fn.results = rs.toArray) {vs : List Value} (hvs : ∀ i (hi : i < rs.length), ∃ v, vs[i]? = some v ∧ (resOne tmps rs[i]).run P w = .ok v w) (hlen : vs.length = rs.length) (hn : rs.length ≤ 3) :
    (results fn tmps).run P w = .ok (retV vs) w := by
  have hres : results fn tmps = (do let vs ← fn.results.mapM (resOne tmps); pure (if h : vs.size = 1 then vs[0] else .tuple vs) : Sem Value) := rfl
  rw [hres, h]
  clear h
  match rs, vs, hlen, hn, hvs with
  | [], [], _, _, hvs => simp [retV]
  | [x], [a], _, _, hvs =>
    obtain ⟨v, e1, e2⟩ := hvs 0 (by simp)
    simp at e1 e2; subst e1
    simp [e2, retV]
  | [x, y], [a, b], _, _, hvs =>
    obtain ⟨v, e1, e2⟩ := hvs 0 (by simp)
    simp at e1 e2; subst e1
    obtain ⟨v, e3, e4⟩ := hvs 1 (by simp)
    simp at e3 e4; subst e3
    simp [e2, e4, retV]
  | [x, y, z], [a, b, c], _, _, hvs =>
    obtain ⟨v, e1, e2⟩ := hvs 0 (by simp)
    simp at e1 e2; subst e1
    obtain ⟨v, e3, e4⟩ := hvs 1 (by simp)
    simp at e3 e4; subst e3
    obtain ⟨v, e5, e6⟩ := hvs 2 (by simp)
    simp at e5 e6; subst e5
    simp [e2, e4, e6, retV]

end
end Go.Sx
