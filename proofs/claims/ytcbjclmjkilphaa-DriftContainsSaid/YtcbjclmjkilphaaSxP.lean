/- The symbolic executor: code, functions, loops. -/
import Derived.Test.YtcbjclmjkilphaaSxO
import Derived.LoopN
set_option linter.unusedVariables false
set_option linter.unusedSimpArgs false
namespace Go.Sx
noncomputable section

theorem absResults_sound {P : Program} {fn : Func} {w : World} {μ : Mu} {F : Nat → Prop} {st : AS} {tmps : Array Value} {s : SV} (hl : LH w μ F st.hp) (ht : TmOK w μ F st.tm tmps) (he : (absResults P fn.results st).ev s) : ∃ v, (results fn tmps).run P w = .ok v w ∧ Rep w μ F v s := by
  have hrs : fn.results = fn.results.toList.toArray := by simp
  unfold absResults at he
  split at he
  · rename_i h
    simp only [Tr.ev] at he; subst he
    rw [h] at hrs
    exact ⟨_, results_run hrs (vs := []) (fun i hi => by simp at hi) rfl (by simp), .tup _ _ rfl fun i hi => by simp at hi⟩
  · rename_i x h
    obtain ⟨v, h1, h2⟩ := absRes_sound hl ht he
    rw [h] at hrs
    refine ⟨_, results_run hrs (vs := [v]) (fun i hi => ?_) rfl (by simp), h2⟩
    obtain rfl : i = 0 := by simpa using hi
    exact ⟨v, rfl, h1⟩
  · rename_i x y h
    obtain ⟨a, h1, h2⟩ := Tr.ev_bind he
    obtain ⟨b, h3, h4⟩ := Tr.ev_bind h2
    simp only [Tr.ev] at h4; subst h4
    obtain ⟨u, e1, e2⟩ := absRes_sound hl ht h1
    obtain ⟨v, e3, e4⟩ := absRes_sound hl ht h3
    rw [h] at hrs
    refine ⟨_, results_run hrs (vs := [u, v]) (fun i hi => ?_) rfl (by simp), .tup _ _ rfl fun i hi => ?_⟩
    · match i, hi with
      | 0, _ => exact ⟨u, rfl, e1⟩
      | 1, _ => exact ⟨v, rfl, e3⟩
    · match i, hi with
      | 0, _ => exact e2
      | 1, _ => exact e4
  · rename_i x y z h
    obtain ⟨a, h1, h2⟩ := Tr.ev_bind he
    obtain ⟨b, h3, h4⟩ := Tr.ev_bind h2
    obtain ⟨c, h5, h6⟩ := Tr.ev_bind h4
    simp only [Tr.ev] at h6; subst h6
    obtain ⟨u, e1, e2⟩ := absRes_sound hl ht h1
    obtain ⟨v, e3, e4⟩ := absRes_sound hl ht h3
    obtain ⟨t, e5, e6⟩ := absRes_sound hl ht h5
    rw [h] at hrs
    refine ⟨_, results_run hrs (vs := [u, v, t]) (fun i hi => ?_) rfl (by simp), .tup _ _ rfl fun i hi => ?_⟩
    · match i, hi with
      | 0, _ => exact ⟨u, rfl, e1⟩
      | 1, _ => exact ⟨v, rfl, e3⟩
      | 2, _ => exact ⟨t, rfl, e5⟩
    · match i, hi with
      | 0, _ => exact e2
      | 1, _ => exact e4
      | 2, _ => exact e6
  · exact he.elim

def untag (tm : List TV) : List TV := tm.map fun | .tag _ _ _ => .unk | tv => tv

def untagF {β : Type} (tm : List TV) : (List TV → β) → β :=
  List.rec (motive := fun _ => (List TV → β) → β) (fun k => k []) (fun a _ ih k => TV.rec (motive := fun _ => β) (ih fun r => k (.unk :: r)) (fun b => ih fun r => k (.lit b :: r)) (fun s => ih fun r => k (.ok s :: r)) (fun p s => ih fun r => k (.cnd p s :: r)) (fun _ _ _ => ih fun r => k (.unk :: r)) a) tm

theorem untagF_eq {β : Type} (tm : List TV) (k : List TV → β) : untagF tm k = k (untag tm) := by
  induction tm generalizing k with
  | nil => rfl
  | cons a r ih => cases a <;> exact ih _

theorem tget_untag (tm : List TV) (t : Nat) : tget (untag tm) t = (match tget tm t with | .tag _ _ _ => .unk | tv => tv) := by
  simp only [tget_def, untag]
  simp only [List.getD, List.getElem?_map]
  cases tm[t]? <;> rfl

theorem TmOK.untag {w : World} {μ : Mu} {F : Nat → Prop} {tm : List TV} {tmps : Array Value} (h : TmOK w μ F tm tmps) : TmOK w μ F (Sx.untag tm) tmps := by
  intro t
  rw [tget_untag]
  have := h t
  split
  · trivial
  · exact this

theorem Sim.untag {p : Par} {μ0 : Mu} {st : AS} {a : Act} {w : World} (h : Sim p μ0 st a w) : Sim p μ0 { st with tm := Sx.untag st.tm } a w := by
  obtain ⟨μ, F, hh, hf, h0, ht, hsz, hd⟩ := h
  exact ⟨μ, F, hh, hf, h0, ht.untag, by simpa [Sx.untag] using hsz, hd⟩

/-- Where a call's body begins. -/
def startTm (fn : Func) (args : List SV) : List TV := args.map .ok ++ List.replicate (fn.ntmps - args.length) .unk

def rhoC (tm : List TV) : Operand → Option SV
  | .tmp t => tvStrict none (tget tm t)
  | x => rho tm none x

def exec (P : Program) (C : Ctx) (dr : (FuncId → List SV → AS → Tree (SV × AS)) → Array Oper → AS → Tree AS) : Nat → Code → AS → Tree (Ex × AS)
  | 0, _, _ => .fail
  | n + 1, c, st =>
    let inl : FuncId → List SV → AS → Tree (SV × AS) := fun k args st =>
      match P.funcs[k]? with
      | none => .fail
      | some fn => match fn.body with
        | none => .fail
        | some body => (exec P C dr n body { st with tm := startTm fn args }).bind fun r => match r.1 with
          | .normal => (Tree.ofTr (absResults P fn.results r.2)).bind fun s => .ret (s, r.2)
          | .ret => (Tree.ofTr (absResults P fn.results r.2)).bind fun s => .ret (s, r.2)
          | _ => .fail
    match c with
    | .skip => .ret (.normal, st)
    | .label _ => .ret (.normal, st)
    | .ret => .ret (.ret, st)
    | .exit id => .ret (.exit id, st)
    | .region _ ops false => untagF st.tm fun tm => (runOps P C inl ops ops.toList { st with tm := tm }).bind fun s => .ret (.normal, s)
    | .region _ ops true => untagF st.tm fun tm => (dr inl ops { st with tm := tm }).bind fun s => .ret (.normal, s)
    | .seq x y => (exec P C dr n x st).bind fun r => match r.1 with
      | .normal => exec P C dr n y r.2
      | e => .ret (e, r.2)
    | .cond x y z => match rhoC st.tm x with
      | some (.d (.x (.bool b))) => branchB st.hint b (fun h => exec P C dr n y { st with hint := h }) (fun h => exec P C dr n z { st with hint := h })
      | _ => .fail
    | .block id x => (exec P C dr n x st).bind fun r => match r.1 with
      | .exit id' => if id' = id then .ret (.normal, r.2) else .ret (.exit id', r.2)
      | e => .ret (e, r.2)
    | .loop x => match st.hint with
      | .u h => (exec P C dr n x { st with hint := h }).bind fun r => match r.1 with
        | .normal => exec P C dr n (.loop x) r.2
        | e => .ret (e, r.2)
      | .run => (exec P C dr n x st).bind fun r => match r.1 with
        | .normal => exec P C dr n (.loop x) r.2
        | e => .ret (e, r.2)
      | _ => .code (.loop x) st fun e s => .ret (e, s)
    | c => .code c st fun e s => .ret (e, s)

/-- The regions that draw their order are walked soundly. -/
def DrOK (P : Program) (C : Ctx) (dr : (FuncId → List SV → AS → Tree (SV × AS)) → Array Oper → AS → Tree AS) : Prop :=
  ∀ inl, InlOK P C inl → ∀ (id : Nat) (ops : Array Oper) (st : AS) (Q : AS → Prop), (dr inl ops st).sat P Q → Triple P (.region id ops true) st (postR Q)

theorem conc_mono {p : Par} {μ0 : Mu} {Q R : Ex → AS → Prop} (h : ∀ e s, Q e s → R e s) : ∀ e a w, conc p μ0 Q e a w → conc p μ0 R e a w := by
  intro e a w hc
  cases e <;> first | exact hc.elim | (obtain ⟨s, h1, h2⟩ := hc; exact ⟨s, h _ _ h1, h2⟩)

theorem Triple.mono {P : Program} {c : Code} {st : AS} {Q R : Ex → AS → Prop} (h : Triple P c st Q) (hq : ∀ e s, Q e s → R e s) : Triple P c st R :=
  fun p μ0 a w hs => WP.mono (conc_mono hq) (h p μ0 a w hs)

theorem exec_sound {P : Program} {C : Ctx} {dr : (FuncId → List SV → AS → Tree (SV × AS)) → Array Oper → AS → Tree AS} (hC : CtxOK P C) (hD : DrOK P C dr) :
    ∀ (n : Nat) (c : Code) (st : AS) (Q : Ex × AS → Prop), (exec P C dr n c st).sat P Q → Triple P c st fun e s => Q (e, s)
  | 0, c, st, Q, h => h.elim
  | n + 1, c, st, Q, h => by
    have ih := exec_sound hC hD n
    unfold exec at h
    generalize hinl : (fun (k : FuncId) (args : List SV) (st : AS) => (match P.funcs[k]? with
      | none => Tree.fail
      | some fn => match fn.body with
        | none => .fail
        | some body => (exec P C dr n body { st with tm := startTm fn args }).bind fun r => match r.1 with
          | .normal => (Tree.ofTr (absResults P fn.results r.2)).bind fun s => .ret (s, r.2)
          | .ret => (Tree.ofTr (absResults P fn.results r.2)).bind fun s => .ret (s, r.2)
          | _ => .fail : Tree (SV × AS))) = inl at h
    have hI : InlOK P C inl := by
      subst hinl
      intro k args st0 R hk hs μ F w vs hl hf hr
      simp only at hs
      split at hs
      · exact hs.elim
      · rename_i fn hfn
        split at hs
        · exact hs.elim
        · rename_i body hbody
          have hs := Tree.sat_bind hs
          refine callsIn_wide.1 (callsIn_of_wp_marks (F := Fence.wide) (n := 0) hfn hbody trivial ?_ rfl)
          have hsim : Sim ⟨w, Tk st0.hp μ, F⟩ μ { st0 with tm := startTm fn args } { tmps := vs ++ Array.replicate (fn.ntmps - vs.size) undef, defers := [] } w := by
            refine ⟨μ, F, hl, hf, fun _ _ h => h, ?_, ?_, Marks.nil _ _ _⟩
            · intro t
              simp only [startTm, tget_def]
              simp only [List.getD, List.getElem?_append, List.length_map]
              split
              · rename_i hlt
                have hlt' : t < vs.size := by rw [hr.1]; exact hlt
                have := hr.2 t hlt
                simp only [List.getElem?_map, List.getElem?_eq_getElem hlt, Option.map_some, Option.getD_some]
                simp only [RepT]
                simpa [Array.getD_eq_getD_getElem?, Array.getElem?_append, hlt', List.getD, hlt] using this
              · by_cases h2 : t - args.length < fn.ntmps - args.length
                · simp [List.getElem?_replicate, h2, RepT]
                · simp [List.getElem?_replicate, h2, RepT]
            · simp [startTm, hr.1]
          refine Go.wpIn_mono (ih body _ _ hs _ _ _ _ hsim).wp ?_
          intro e a' w' hc
          have key : ∀ s' : AS, Tree.sat P ((Tree.ofTr (absResults P fn.results s')).bind fun s => Tree.ret (s, s')) R → Sim ⟨w, Tk st0.hp μ, F⟩ μ s' a' w' → LeavesInM Fence.wide 0 P fn a'.tmps
              (fun e w' => ∃ u s st' μ' F', e = .returned u ∧ R (s, st') ∧ HS ⟨w, Tk st0.hp μ, F⟩ μ' F' st'.hp w' ∧ Rep w' μ' F' u s ∧ (∀ l q, μ l = some q → μ' l = some q) ∧ Fresh st'.next μ') a'.defers .returning w' := by
            intro s' hq ⟨μ', F', e1, e2, e3, e4, e5, e6⟩
            have hq := Tree.sat_bind hq
            obtain ⟨s, h1, h2⟩ := Tree.sat_ofTr hq
            obtain ⟨Ds, d1, d2, d3⟩ := e6
            rw [d1]
            refine leaves_marks (tm := s'.tm) (fun w2 k1 k2 => ?_) Ds w' d2 d3 e1 e4
            obtain ⟨v, h3, h4⟩ := absResults_sound (hs_seq1 k1) k2 h1
            exact ⟨v, h3, v, s, s', μ', F', rfl, h2, k1, h4, e3, e2⟩
          cases e with
          | normal => obtain ⟨s', h1, h2⟩ := hc; exact key s' h1 h2
          | ret => obtain ⟨s', h1, h2⟩ := hc; exact key s' h1 h2
          | exit id => obtain ⟨s', h1, h2⟩ := hc; exact h1.elim
          | goto l => exact hc.elim
          | panic ch => exact hc.elim
          | outgrown => exact hc.elim
    simp only at h
    split at h
    · exact fun p μ0 a w hs => WP_skip ⟨_, h, hs⟩
    · exact fun p μ0 a w hs => WP_label ⟨_, h, hs⟩
    · exact fun p μ0 a w hs => WP_ret ⟨_, h, hs⟩
    · exact fun p μ0 a w hs => WP_exit ⟨_, h, hs⟩
    · rename_i id ops
      rw [untagF_eq] at h
      intro p μ0 a w hs
      refine WP.mono ?_ (fun r _ => wpIn_region_list (runOps_sound hC hI ops.toList _ a w hs.untag (Tree.sat_bind h)))
      refine conc_mono ?_
      rintro e s ⟨rfl, hq⟩; exact hq
    · rename_i id ops
      rw [untagF_eq] at h
      intro p μ0 a w hs
      refine WP.mono ?_ (hD inl hI id ops _ _ (Tree.sat_bind h) p μ0 a w hs.untag)
      refine conc_mono ?_
      rintro e s ⟨rfl, hq⟩; exact hq
    · rename_i x y
      intro p μ0 a w hs
      refine WP_seq (WP.mono ?_ (ih x st _ (Tree.sat_bind h) p μ0 a w hs))
      intro e a' w' hc
      cases e with
      | normal => obtain ⟨s, h1, h2⟩ := hc; exact ih y s _ h1 p μ0 a' w' h2
      | exit id => obtain ⟨s, h1, h2⟩ := hc; exact ⟨s, h1, h2⟩
      | ret => obtain ⟨s, h1, h2⟩ := hc; exact ⟨s, h1, h2⟩
      | _ => exact hc.elim
    · rename_i x y z
      split at h
      · rename_i b hb
        intro p μ0 a w hs
        have hs0 := hs
        obtain ⟨μ, F, hh, hf, h0, ht, hsz, hd⟩ := hs
        have hval : a.eval x = .bool b := by
          cases x with
          | tmp t =>
            exact rep_x (tvStrict_sound (ht t) (fun g b e => by cases e) hb)
          | const v =>
            have hb' : some (ofValue v) = some (.d (.x (.bool b))) := hb
            simp only [Option.some.injEq] at hb'
            have := rep_ofValue w μ F v
            rw [hb'] at this
            exact rep_x this
          | func f => simp [rhoC, rho] at hb
          | global g => simp [rhoC, rho] at hb
        obtain ⟨h', ⟨rfl, hq2⟩ | ⟨rfl, hq2⟩⟩ := branchB_sat h
        · exact WP_cond_true hval (ih y _ _ hq2 p μ0 a w ⟨μ, F, hh, hf, h0, ht, hsz, hd⟩)
        · exact WP_cond_false hval (ih z _ _ hq2 p μ0 a w ⟨μ, F, hh, hf, h0, ht, hsz, hd⟩)
      · exact h.elim
    · rename_i id x
      intro p μ0 a w hs
      refine WP_block (WP.mono ?_ (ih x st _ (Tree.sat_bind h) p μ0 a w hs))
      intro e a' w' hc
      cases e with
      | normal => obtain ⟨s, h1, h2⟩ := hc; exact ⟨s, h1, h2⟩
      | exit id' =>
        obtain ⟨s, h1, h2⟩ := hc
        simp only [Exit.inBlock]
        simp only at h1
        split at h1
        · rename_i e; rw [if_pos e]; exact ⟨s, h1, h2⟩
        · rename_i e; rw [if_neg e]; exact ⟨s, h1, h2⟩
      | ret => obtain ⟨s, h1, h2⟩ := hc; exact ⟨s, h1, h2⟩
      | _ => exact hc.elim
    · rename_i x
      split at h
      · rename_i h' _
        intro p μ0 a w hs
        have hs1 : Sim p μ0 { st with hint := h' } a w := hs
        refine WP_loop_unroll (fun _ _ _ h => h) (fun _ _ h => h) (WP.mono ?_ (ih x _ _ (Tree.sat_bind h) p μ0 a w hs1))
        intro e a' w' hc
        cases e with
        | normal => obtain ⟨s, h1, h2⟩ := hc; exact ih (.loop x) s _ h1 p μ0 a' w' h2
        | exit id => obtain ⟨s, h1, h2⟩ := hc; exact ⟨s, h1, h2⟩
        | ret => obtain ⟨s, h1, h2⟩ := hc; exact ⟨s, h1, h2⟩
        | _ => exact hc.elim
      · intro p μ0 a w hs1
        refine WP_loop_unroll (fun _ _ _ h => h) (fun _ _ h => h) (WP.mono ?_ (ih x _ _ (Tree.sat_bind h) p μ0 a w hs1))
        intro e a' w' hc
        cases e with
        | normal => obtain ⟨s, h1, h2⟩ := hc; exact ih (.loop x) s _ h1 p μ0 a' w' h2
        | exit id => obtain ⟨s, h1, h2⟩ := hc; exact ⟨s, h1, h2⟩
        | ret => obtain ⟨s, h1, h2⟩ := hc; exact ⟨s, h1, h2⟩
        | _ => exact hc.elim
      · obtain ⟨post, h1, h2⟩ := h
        exact h1.mono h2
    · obtain ⟨post, h1, h2⟩ := h
      exact h1.mono h2

end
end Go.Sx
