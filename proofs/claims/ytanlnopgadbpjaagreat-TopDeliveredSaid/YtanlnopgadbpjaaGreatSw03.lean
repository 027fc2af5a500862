/- Part of a proof of the given statements of this seat (SyTs, SyTt, SyNe): no conditions beyond those typed here. -/
import Derived.Test.YtanlnopgadbpjaaGreatSw01
import Derived.Test.YtanlnopgadbpjaaGreatSw02
set_option linter.unusedVariables false
set_option linter.unusedSimpArgs false
set_option linter.unusedSectionVars false
set_option linter.constructorNameAsVariable false
set_option maxRecDepth 100000
noncomputable section
namespace Go.Sx
noncomputable section
variable [Globs]
structure EvOKs(pl:Par)(P:Program)(C:Ctx)(ops:Array Oper)(o:Oper)(tm:List TV)(hp:Heap)(e:Ev):Prop where
 dst:e.dst=o.dst
 ts:∀t∈opSlots o,t∈e.ts
 tag:∀g b s,e.tv=.tag g b s->g∈e.ts/\o.dst≠some g
 len:∀d,o.dst=some d->d<tm.length
 run:(∃rn hp',(stepTr rn P C ops e.id (restrictT tm.length tm e.ts) (restrictH hp e.L) o).ev (e.tv,hp')/\e.W=if quietC C o.op then [] else(e.id::e.L).map fun l=>(l,hget hp' l)) \/
  (e.L=[]/\e.W=[]/\∀μ F h (a:Act) (w:World),HS pl μ F h w->TmOK w μ F (restrictT tm.length tm e.ts) a.tmps->∃v d,e.tv=.ok d/\o.guard=none/\(∀c,o.op≠.defer c)/\(execOp a.eval o).run P w=.ok (.value v) w/\Rep w μ F v d)
theorem EvOK.s{pl:Par}{P:Program}{C:Ctx}{ops:Array Oper}{o:Oper}{tm:List TV}{hp:Heap}{e:Ev}(h:EvOK P C ops o tm hp e):EvOKs pl P C ops o tm hp e:=⟨h.dst,h.ts,h.tag,h.len,.inl h.run⟩
section
variable {P : Program} {C : Ctx} {ops : Array Oper} {evs : List Ev} {s0 : St} {n0 : Nat}
structure WalkedS(pl:Par)(P:Program)(C:Ctx)(ops:Array Oper)(evs:List Ev)(s0:St)(n0:Nat):Prop where
 len:evs.length<=ops.size
 ev:∀j o e,ops[j]?=some o->evs[j]?=some e->EvOKs pl P C ops o (foldE (fun i=>decide (i<j)) 0 evs s0).tm (foldE (fun i=>decide (i<j)) 0 evs s0).hp e/\e.id=n0+j
 pair:∀i k a e,i<k->evs[i]?=some a->evs[k]?=some e->(Bef ops i k\/clash a e=false)/\tagNot a.tv e.dst=true/\sameDst a e=false
 edge:∀j o e,ops[j]?=some o->e∈o.after->binding e=true->e.on<j
 tags:∀t g b s,tget s0.tm t≠.tag g b s
theorem inv_stepS{p:Par}{μ0:Mu}{S:Nat->Bool}{a:Act}{w:World}{K:Act->World->Prop}{Q:Exit->Act->World->Prop}{r:Option Nat}(hC:CtxOK P C)(hW:WalkedS p P C ops evs s0 n0)(hI:Inv p μ0 ops evs s0 n0 S a w){k:Nat}{o:Oper}(ho:ops[k]?=some o)(hklt:k<evs.length)(hk:S k=false)
  (hready:∀e∈o.after,binding e=true->S e.on=true) (hK:∀a' w',Inv p μ0 ops evs s0 n0 (fun i=>decide (i=k)||S i) a' w'->K a' w') :
  if Region.wanted o (yielded ops a.tmps) then o.wpIn (FW r) 0 P a w K Q else K (a.put o.dst undef) w:=by
 obtain⟨hcl,μ,F,hh,hfr,h0,ht,hsz,hd⟩:=hI
 obtain⟨e,he⟩:∃e,evs[k]?=some e:=⟨_,List.getElem?_eq_getElem hklt⟩
 obtain⟨hev,hid⟩:=hW.ev k o e ho he
 -- closed with k
 have hcl':Closed ops (fun i=>decide (i=k)||S i):=by
  intro j o' e' hj ho' he' hb
  simp only[Bool.or_eq_true,decide_eq_true_eq] at hj ⊢
  rcases hj with rfl|hj
  ·rw[ho] at ho';cases ho'
   exact .inr (hready e' he' hb)
  ·exact .inr (hcl j o' e' hj ho' he' hb)
 have hbef:∀i,i<k->Bef ops i k->S i=true:=by
  intro i hi hb
  have:=hcl'.bef hb (by simp)
  simp only[Bool.or_eq_true,decide_eq_true_eq] at this
  rcases this with h|h
  ·omega
  ·exact h
 have haft:∀i,k<i->Bef ops k i->S i=false:=by
  intro i hi hb
  cases hs:S i with
  |false=>rfl
  |true=>have:=hcl.bef hb hs;rw[hk] at this;cases this
 -- who clashes
 have hlow:∀i x,i<k->evs[i]?=some x->clash x e=true->S i=true:=by
  intro i x hi hx hc
  rcases (hW.pair i k x e hi hx he).1 with h|h
  ·exact hbef i hi h
  ·rw[hc] at h;cases h
 have hhigh:∀i x,k<i->evs[i]?=some x->clash e x=true->S i=false:=by
  intro i x hi hx hc
  rcases (hW.pair k i e x hi he hx).1 with h|h
  ·exact haft i hi h
  ·rw[hc] at h;cases h
 have hlen1:(foldE S 0 evs s0).tm.length=s0.tm.length:=length_foldE ..
 have hlen2:(foldE (fun i=>decide (i<k)) 0 evs s0).tm.length=s0.tm.length:=length_foldE ..
 -- the part that it reads is as in the text's order
 have htm:restrictT (foldE S 0 evs s0).tm.length (foldE S 0 evs s0).tm e.ts=restrictT (foldE (fun i=>decide (i<k)) 0 evs s0).tm.length (foldE (fun i=>decide (i<k)) 0 evs s0).tm e.ts:=by
  rw[hlen1,hlen2]
  refine restrictT_congr fun t hte=>foldE_tm _ _ t evs 0 s0 s0 rfl rfl fun j x hx hdx=>?_
  simp only[Nat.zero_add]
  rcases Nat.lt_trichotomy j k with h|h|h
  ·rw[hlow j x h hx (clash_dst_ts hdx hte)];simp[h]
  ·subst h;rw[hk];simp
  ·rw[hhigh j x h hx (clash_ts_dst hdx hte)];simp;omega
 have hhp:restrictH (foldE S 0 evs s0).hp e.L=restrictH (foldE (fun i=>decide (i<k)) 0 evs s0).hp e.L:=by
  refine restrictH_congr fun l hle=>foldE_hp _ _ l evs 0 s0 s0 rfl fun j x hx hdx=>?_
  simp only[Nat.zero_add]
  rcases Nat.lt_trichotomy j k with h|h|h
  ·rw[hlow j x h hx (clash_W_L hdx hle)];simp[h]
  ·subst h;rw[hk];simp
  ·rw[hhigh j x h hx (clash_L_W hdx hle)];simp;omega
 have hidn:μ e.id=none:=by
  cases hm:μ e.id with
  |none=>rfl
  |some q =>
   obtain⟨i,x,h1,h2,h3⟩:=hfr e.id (by omega) (by rw[hm];simp)
   have hi:i<ops.size:=Nat.lt_of_lt_of_le (List.getElem?_eq_some_iff.1 h2).1 hW.len
   have:=(hW.ev i _ x (Array.getElem?_eq_getElem hi) h2).2
   have:i=k:=by omega
   subst this
   rw[hk] at h1;cases h1
 have hgone:hget (foldE S 0 evs s0).hp e.id=none:=by
  cases hg:hget (foldE S 0 evs s0).hp e.id with
  |none=>rfl
  |some blk=>obtain⟨q,h1,_⟩:=hh.blk _ _ hg;rw[hidn] at h1;cases h1
 obtain⟨hp',hWe,hstep⟩:∃hp',((e.W=[]/\hp'=restrictH (foldE S 0 evs s0).hp e.L)\/e.W=(e.id::e.L).map fun l=>(l,hget hp' l)) /\
   ((∀v w',OutT w μ F (restrictH (foldE S 0 evs s0).hp e.L) (NewIdC C e.id o) hp' a.tmps v e.tv w'->K (a.put o.dst v) w')->if Region.wanted o (yielded ops a.tmps) then o.wpIn (FW r) 0 P a w K Q else K (a.put o.dst undef) w):=by
  rcases hev.run with⟨rn,hp',hrun,hWe⟩|⟨hL,hW0,hsp⟩
  ·rw[<- htm,<- hhp] at hrun
   refine⟨hp',?_,fun hK'=>stepTr_sound hC (lh_restrict hh e.L) hd.1 hidn (ht.restrict _ _) hrun hK'⟩
   cases hq:quietC C o.op with
   |true=>rw[hq] at hWe;exact .inl ⟨hWe,stepTr_quiet hq hrun⟩
   |false=>rw[hq] at hWe;exact .inr hWe
  ·refine⟨_,.inl ⟨hW0,rfl⟩,fun hK'=>?_⟩
   have hr:=ht.restrict (foldE S 0 evs s0).tm.length e.ts
   rw[htm] at hr
   obtain⟨v,d,h1,h2,h3,h4,h5⟩:=hsp μ F _ a w hh hr
   have hw:Region.wanted o (yielded ops a.tmps)=true:=by unfold Region.wanted;rw[h2]
   rw[if_pos hw]
   refine⟨fun _ _=>trivial,?_⟩
   rw[semAt_eq h3,h4]
   refine hK' v w ⟨μ,F,lh_restrict hh e.L,?_,fun l q h=>h,fun l _=>rfl⟩
   rw[h1];exact h5
 refine hstep fun v w' hout=>hK _ _ ⟨hcl',?_⟩
 obtain⟨μ',F',e1,e2,e3,e4⟩:=hout
 have hN:∀l,l≠e.id->μ' l=μ l:=fun l hl=>e4 l fun hn=>hl hn.1
 -- the state behind it
 have hG:∀l,hget (ap (foldE S 0 evs s0) e).hp l=if l∈e.L\/l=e.id then hget hp' l else hget (foldE S 0 evs s0).hp l:=by
  intro l
  unfold ap
  rcases hWe with⟨hW0,hs⟩|hWe
  ·subst hs
   simp only[hW0,happ,List.foldl_nil,hget_restrict]
   by_cases h1:l∈e.L
   ·simp[h1]
   ·by_cases h2:l=e.id
    ·subst h2;simp[h1,hgone]
    ·simp[h1,h2]
  ·simp only[hWe]
   rw[happ_map]
   simp only[List.mem_cons]
   by_cases h1:l∈e.L
   ·simp[h1]
   ·by_cases h2:l=e.id
    ·simp[h2]
    ·simp[h1,h2]
 have hs1:=hs_lift hh e1 e3 hN hG
 have hkey:∀l,wkey e.W l=true->l∈e.L\/l=e.id:=by
  intro l hl
  obtain⟨x,h1,h2⟩:=wkey_mem hl
  rcases hWe with⟨hW0,_⟩|hWe
  ·rw[hW0] at h1;cases h1
  ·rw[hWe] at h1
   simp only[List.mem_map,List.mem_cons] at h1
   obtain⟨y,h3,rfl⟩:=h1
   simp only at h2;subst h2
   exact h3.elim .inr .inl
 have hhpEq:∀l,hget (foldE (fun i=>decide (i=k)||S i) 0 evs s0).hp l=hget (ap (foldE S 0 evs s0) e).hp l:=by
  intro l
  cases hw:wkey e.W l with
  |true =>
   refine foldE_hp_last _ l hw evs k 0 s0 _ he (by simp) fun j' x hj hx hS=>?_
   simp only[Nat.zero_add,Bool.or_eq_true,decide_eq_true_eq] at hS
   cases hwx:wkey x.W l with
   |false=>rfl
   |true =>
    have:=hhigh j' x hj hx (clash_W_W hw hwx)
    rcases hS with h|h
    ·omega
    ·rw[this] at h;cases h
  |false =>
   have h1:hget (ap (foldE S 0 evs s0) e).hp l=hget (foldE S 0 evs s0).hp l:=(happ_get e.W _ [] l).1 hw
   rw[h1]
   refine foldE_hp _ _ l evs 0 s0 s0 rfl fun j x hx hwx=>?_
   simp only[Nat.zero_add]
   by_cases hjk:j=k
   ·subst hjk;rw[he] at hx;cases hx;rw[hw] at hwx;cases hwx
   ·simp[hjk]
 have htmEq:∀t,tget (foldE (fun i=>decide (i=k)||S i) 0 evs s0).tm t=tget (ap (foldE S 0 evs s0) e).tm t:=by
  intro t
  by_cases hd':e.dst=some t
  ·refine foldE_tm_last _ t hd' evs k 0 s0 _ he (by simp) (fun j' x hj hx hS hdx=>?_) hlen1.symm
   have:=(hW.pair k j' e x hj he hx).2.2
   unfold sameDst at this
   simp[hd',hdx] at this
  ·rw[tget_ap _ _ _ hd']
   refine foldE_tm _ _ t evs 0 s0 s0 rfl rfl fun j x hx hdx=>?_
   simp only[Nat.zero_add]
   by_cases hjk:j=k
   ·subst hjk;rw[he] at hx;cases hx;exact(hd' hdx).elim
   ·simp[hjk]
 have hext:Ext F w w':=ext_F (lh_restrict hh e.L) e1
 refine⟨μ',F',hs_congr hs1 hhpEq,?_,fun l q hq=>e3 l q (h0 l q hq),tmOK_congr ?_ htmEq,?_,by rw[Act.put_defers];exact hd.step (lh_restrict hh e.L) e1⟩
 ·intro l hl hm
  by_cases hle:l=e.id
  ·exact⟨k,e,by simp,he,hle.symm⟩
  ·rw[hN l hle] at hm
   obtain⟨i,x,h1,h2,h3⟩:=hfr l hl hm
   exact⟨i,x,by simp[h1],h2,h3⟩
 ·cases hdst:o.dst with
  |none =>
   have:(ap (foldE S 0 evs s0) e).tm=(foldE S 0 evs s0).tm:=by unfold ap;rw[hev.dst,hdst]
   rw[this]
   exact fun t=>(ht t).mono hext e1.sub e3
  |some d =>
   have hdl:=hev.len d hdst
   rw[hlen2] at hdl
   have:(ap (foldE S 0 evs s0) e).tm=(foldE S 0 evs s0).tm.set d e.tv:=by unfold ap;rw[hev.dst,hdst]
   rw[this]
   have hd1:d<a.tmps.size:=Nat.lt_of_lt_of_le hdl hsz
   have hd2:d<(foldE S 0 evs s0).tm.length:=by rw[hlen1];exact hdl
   refine tmOK_put ht hext e1.sub e3 hd1 hd2 (noTag_of fun t g b s htag=>?_) (RepT_put e2 (fun g b s hg=>?_) hd1)
   ·rcases foldE_tag S t evs 0 s0 htag with h1|⟨j,x,h1,h2,h3,h4⟩
    ·exact(hW.tags t g b s h1).elim
    ·simp only[Nat.zero_add] at h2
     intro hgd;subst hgd
     rcases Nat.lt_trichotomy j k with h|h|h
     ·have:=(hW.pair j k x e h h1 he).2.1
      unfold tagNot at this
      simp[h3,hev.dst,hdst] at this
     ·subst h;rw[hk] at h2;cases h2
     ·have hjl:j<ops.size:=Nat.lt_of_lt_of_le (List.getElem?_eq_some_iff.1 h1).1 hW.len
      have hx:=(hW.ev j _ x (Array.getElem?_eq_getElem hjl) h1).1
      have hgt:=(hx.tag g b s h3).1
      have:=hhigh j x h h1 (clash_dst_ts (by rw[hev.dst,hdst]) hgt)
      rw[this] at h2;cases h2
   ·have hne:=(hev.tag g b s hg).2
    intro hgd;subst hgd
    exact hne hdst
 ·cases hdst:o.dst with
  |none=>exact hsz
  |some d=>simp[Act.put];exact hsz
theorem any_soundLS{p:Par}{μ0:Mu}{Qx:Exit->Act->World->Prop}{r:Option Nat}(hC:CtxOK P C)(hW:WalkedS p P C ops evs s0 n0)(hn:evs.length+1=ops.size)(hb:∀i,i<evs.length->Bef ops i evs.length)
  (hQ:∀a w,Inv p μ0 ops evs s0 n0 (fun i=>decide (i<evs.length)) a w->wpOpIn (FW r) 0 P ops Qx evs.length (Qx .normal) a w) :
  ∀(fuel:Nat) (listed:Array Bool) (a:Act) (w:World),listed.size=ops.size->(List.range ops.size).countP (fun i=>!asSet listed i)<=fuel->asSet listed evs.length=false->Inv p μ0 ops evs s0 n0 (asSet listed) a w->wpAnyIn (FW r) 0 P .any ops Qx fuel listed a w:=by
 intro fuel
 induction fuel with
 |zero =>
  intro listed a w hsz hc hl hI
  have h0:(List.range ops.size).countP (fun i=>!asSet listed i)=0:=by omega
  rw[List.countP_eq_zero] at h0
  have:=h0 evs.length (List.mem_range.2 (by omega))
  rw[hl] at this;simp at this
 |succ fuel ih =>
  intro listed a w hsz hc hl hI
  refine⟨fun hr=>?_,fun k hk=>?_⟩
  ·have:=ready_nil hr hsz hW.edge evs.length (by omega)
   rw[hl] at this;cases this
  obtain⟨o,h1,h2,h3⟩:=ready_spec hk hsz
  have hklt:k<ops.size:=(Array.getElem?_eq_some_iff.1 h1).1
  have hset:∀i,asSet (listed.setIfInBounds k true) i=(decide (i=k)||asSet listed i):=asSet_set (by omega)
  by_cases hkl:k=evs.length
  ·have hcl:Closed ops (fun i=>decide (i=k)||asSet listed i):=by
    intro j o' e' hj ho' he' hbd
    simp only[Bool.or_eq_true,decide_eq_true_eq] at hj ⊢
    rcases hj with rfl|hj
    ·rw[h1] at ho';cases ho'
     exact .inr (h3 e' he' hbd)
    ·exact .inr (hI.closed j o' e' hj ho' he' hbd)
   have hall:∀i,i<evs.length->asSet listed i=true:=by
    intro i hi
    have:=hcl.bef (hb i hi) (by simp[hkl])
    simp only[Bool.or_eq_true,decide_eq_true_eq] at this
    rcases this with h|h
    ·omega
    ·exact h
   have hS:asSet listed=fun i=>decide (i<evs.length):=by
    funext i
    by_cases h:i<evs.length
    ·simp[h,hall i h]
    ·by_cases h':i=evs.length
     ·subst h';simp[hl]
     ·unfold asSet
      have:¬i<listed.size:=by omega
      simp[h,Array.getD,this]
   rw[hS] at hI
   have hq:=hQ a w hI
   have hfin:∀a' w',Qx .normal a' w'->wpAnyIn (FW r) 0 P .any ops Qx fuel (listed.setIfInBounds k true) a' w':=by
    intro a' w' hx
    have hr:Region.ready .any ops (listed.setIfInBounds k true)=[]:=by
     rw[List.eq_nil_iff_forall_not_mem]
     intro i hi
     obtain⟨o',g1,g2,_⟩:=ready_spec hi (by simpa using hsz)
     have hil:i<ops.size:=(Array.getElem?_eq_some_iff.1 g1).1
     rw[hset,Bool.or_eq_false_iff] at g2
     have g3:=of_decide_eq_false g2.1
     have:=hall i (by omega)
     rw[this] at g2;cases g2.2
    cases fuel with
    |zero=>exact⟨hr,hx⟩
    |succ f=>exact⟨fun _=>hx,fun i hi=>by rw[hr] at hi;cases hi⟩
   rw[<- hkl] at hq
   unfold wpOpIn at hq ⊢
   rw[h1] at hq ⊢
   simp only[] at hq ⊢
   split at hq
   ·rename_i hw;rw[if_pos hw];exact Oper.wpIn_mono hfin hq
   ·rename_i hw;rw[if_neg hw];exact⟨hq.1,hfin _ _ hq.2⟩
  ·unfold wpOpIn
   rw[h1]
   simp only[]
   have hstep:=inv_stepS (r:=r) (Q:=Qx) (K:=wpAnyIn (FW r) 0 P .any ops Qx fuel (listed.setIfInBounds k true)) hC hW hI h1 (by omega) h2 h3 fun a' w' hI'=>ih _ a' w' (by simpa using hsz) ?_ ?_ ?_
   ·split
    ·rename_i hw;rw[if_pos hw] at hstep;exact hstep
    ·rename_i hw;rw[if_neg hw] at hstep;exact⟨fun _ _=>trivial,hstep⟩
   ·have hlt:(List.range ops.size).countP (fun i=>!asSet (listed.setIfInBounds k true) i)<(List.range ops.size).countP (fun i=>!asSet listed i):=by
     refine countP_lt (fun x _ hx=>?_) (List.mem_range.2 hklt) (by simp[h2]) (by rw[hset];simp)
     rw[hset] at hx
     simp only[Bool.not_or,Bool.and_eq_true] at hx
     exact hx.2
    omega
   ·rw[hset,hl];simp;omega
   ·have:asSet (listed.setIfInBounds k true)=fun i=>decide (i=k)||asSet listed i:=funext hset
    rw[this];exact hI'
end
end
noncomputable section
variable [Globs]
abbrev Told:=List TV->Option (Prop×SV)
structure ToldOK(pl:Par)(P:Program)(o:Oper)(f:Told):Prop where
 g:o.guard=none
 nd:∀c,o.op≠.defer c
 run:∀tm q d,f tm=some (q,d)->q->∀μ F h (a:Act) (w:World),HS pl μ F h w->TmOK w μ F tm a.tmps->∃v,(execOp a.eval o).run P w=.ok (.value v) w/\Rep w μ F v d
def evOpS(P:Program)(C:Ctx)(ops:Array Oper)(o:Oper)(f:Option Told)(st:AS):Tr (Ev×AS) :=
 match f with
 |none=>evOp P C ops o st
 |some f=>fNats (opSlots o) fun ts=>restrictK st.tm ts (List.replicate st.tm.length .unk) fun rt =>
  match f rt with
  |some (q,d)=>.need q (putG st.tm o.dst (.ok d) (fun tm=>fNat (st.next+1) fun nx=>.ret (⟨o.dst,.ok d,ts,[],[],st.next,false⟩,⟨tm,st.hp,nx,st.hint⟩)) .fail)
  |none=>.fail
theorem evOpS_spec{pl:Par}{P:Program}{C:Ctx}{ops:Array Oper}{o:Oper}{f:Option Told}{st st':AS}{e:Ev}(hf:∀g,f=some g->ToldOK pl P o g)(h:(evOpS P C ops o f st).ev (e,st')) :
  EvOKs pl P C ops o st.tm st.hp e/\⟨st'.tm,st'.hp⟩=ap ⟨st.tm,st.hp⟩ e/\e.id=st.next/\st'.next=st.next+1:=by
 cases f with
 |none =>
  obtain⟨h1,h2⟩:=evOp_spec h
  exact⟨h1.s,h2⟩
 |some f =>
  have hok:=hf f rfl
  simp only[evOpS,fNats_eq,restrictK_eq,putG_eq,fNat_eq] at h
  split at h
  ·rename_i q d hd
   obtain⟨hq,h⟩:=h
   split at h
   ·rename_i tm' hpd
    simp only[Tr.ev,Prod.mk.injEq] at h
    obtain⟨rfl,rfl⟩:=h
    refine⟨⟨rfl,fun t ht=>ht,fun g b s htv=>(by cases htv),?_,.inr ⟨rfl,rfl,fun μ F h a w hs ht=>?_⟩⟩,?_,rfl,rfl⟩
    ·intro d' hd'
     rw[hd'] at hpd
     simp only[putD] at hpd
     split at hpd
     ·rename_i hk;exact hk.1
     ·cases hpd
    ·obtain⟨v,h1,h2⟩:=hok.run _ q d hd hq μ F h a w hs ht
     exact⟨v,d,rfl,hok.g,hok.nd,h1,h2⟩
    ·cases hd':o.dst with
     |none=>rw[hd'] at hpd;simp only[putD,Option.some.injEq] at hpd;subst hpd;simp[ap,hd',happ]
     |some d' =>
      rw[hd'] at hpd
      simp only[putD] at hpd
      split at hpd
      ·simp only[Option.some.injEq] at hpd;subst hpd;simp[ap,hd',happ]
      ·cases hpd
   ·exact h.elim
  ·exact h.elim
def evOpsS(P:Program)(C:Ctx)(ops:Array Oper):List (Oper×Option Told)->AS->Tr (List Ev×AS)
 |[],st=>.ret ([],st)
 |o::r,st=>(evOpS P C ops o.1 o.2 st).bind fun x=>(evOpsS P C ops r x.2).bind fun y=>.ret (x.1::y.1,y.2)
theorem evOpsS_spec{pl:Par}{P:Program}{C:Ctx}{ops:Array Oper}:∀(l:List (Oper×Option Told)) (st stF:AS) (evs:List Ev),(∀x∈l,∀g,x.2=some g->ToldOK pl P x.1 g)->(evOpsS P C ops l st).ev (evs,stF) ->
  evs.length=l.length/\⟨stF.tm,stF.hp⟩=foldE (fun _=>true) 0 evs ⟨st.tm,st.hp⟩/\stF.next=st.next+l.length /\
  ∀j o e,l[j]?=some o->evs[j]?=some e->EvOKs pl P C ops o.1 (foldE (fun i=>decide (i<j)) 0 evs ⟨st.tm,st.hp⟩).tm (foldE (fun i=>decide (i<j)) 0 evs ⟨st.tm,st.hp⟩).hp e/\e.id=st.next+j
 |[],st,stF,evs,_,h=>by
  simp only[evOpsS,Tr.ev,Prod.mk.injEq] at h
  obtain⟨rfl,rfl⟩:=h
  exact⟨rfl,rfl,rfl,fun j o e hj=>by simp at hj⟩
 |o::r,st,stF,evs,hT,h=>by
  simp only[evOpsS] at h
  obtain⟨⟨e,st1⟩,h1,h2⟩:=Tr.ev_bind h
  obtain⟨⟨es,st2⟩,h3,h4⟩:=Tr.ev_bind h2
  simp only[Tr.ev,Prod.mk.injEq] at h4
  obtain⟨rfl,rfl⟩:=h4
  obtain⟨e1,e2,e3,e4⟩:=evOpS_spec (hT o (List.mem_cons_self ..)) h1
  obtain⟨f1,f2,f3,f4⟩:=evOpsS_spec r st1 stF es (fun x hx=>hT x (List.mem_cons_of_mem _ hx)) h3
  refine⟨by simp[f1],?_,by rw[f3,e4];simp;omega,?_⟩
  ·rw[f2,e2,foldE_cons,foldE_shift]
   rfl
  ·intro j o' e' hj he
   cases j with
   |zero =>
    simp only[List.getElem?_cons_zero,Option.some.injEq] at hj he
    subst hj;subst he
    have:foldE (fun i=>decide (i<0)) 0 (e::es) ⟨st.tm,st.hp⟩=⟨st.tm,st.hp⟩:=by
     have hf:(fun i:Nat=>decide (i<0))=fun _=>false:=by funext i;simp
     rw[hf];exact foldE_false _ _ _
    rw[this]
    exact⟨e1,e3⟩
   |succ j =>
    obtain⟨g1,g2⟩:=f4 j o' e' (by simpa using hj) (by simpa using he)
    have:foldE (fun i=>decide (i<j+1)) 0 (e::es) ⟨st.tm,st.hp⟩=foldE (fun i=>decide (i<j)) 0 es ⟨st1.tm,st1.hp⟩:=by
     rw[e2]
     rw[foldE_cons,foldE_shift,if_pos (by simp)]
     exact foldE_congr _ _ _ fun i _=>by simp
    rw[this]
    exact⟨g1,by rw[g2,e4];omega⟩
def dKs(P:Program)(C:Ctx)(ops:Array Oper):List (Oper×Option Told)->List Nat->List Ev->AS->Tree AS
 |[],_,_,st=>.ret st
 |o::r,acc,done,st =>
  fNat (bmOne acc o.1) fun b=>(ofTrH st.hint (evOpS P C ops o.1 o.2 st)).bind fun x =>
   match rowOK b x.1 0 done&&(x.1.W.all fun e=>x.1.L.contains e.1||(x.1.nq&&e.1==x.1.id)) with
   |true=>fNats (acc++[b]) fun acc=>fSp (done++[x.1]) fun done=>dKs P C ops r acc done x.2
   |false=>.fail
theorem dKs_sat{P:Program}{C:Ctx}{ops:Array Oper}{Q:AS->Prop}:∀(l:List (Oper×Option Told)) (acc:List Nat) (done:List Ev) (st:AS),(dKs P C ops l acc done st).sat P Q ->
  ∃evs st',(evOpsS P C ops l st).ev (evs,st')/\allOK ((bms (l.map (·.1)) acc).drop acc.length) done evs=true/\Q st'
 |[],acc,done,st,h=>⟨[],st,rfl,rfl,h⟩
 |o::r,acc,done,st,h=>by
  simp only[dKs,fNat_eq,fNats_eq,fSp_eq] at h
  obtain⟨x,h1,h2⟩:=sat_ofTrH (Tree.sat_bind h)
  split at h2
  ·rename_i hb
   obtain⟨evs,st',h3,h4,h5⟩:=dKs_sat r _ _ _ h2
   refine⟨x.1::evs,st',?_,?_,h5⟩
   ·simp only[evOpsS]
    exact Tr.bind_ev h1 (Tr.bind_ev h3 rfl)
   ·obtain⟨t,ht⟩:=bms_pre (r.map (·.1)) (acc++[bmOne acc o.1])
    simp only[List.map_cons,bms,ht,List.append_assoc,List.drop_left] at h4 ⊢
    rw[show(acc++[bmOne acc o.1]).length=acc.length+1 by simp,<- List.drop_drop,List.drop_left] at h4
    simp only[Bool.and_eq_true] at hb
    simp only[List.singleton_append,List.drop_succ_cons,List.drop_zero] at h4
    simp only[List.singleton_append,allOK,List.headD_cons,List.tail_cons,Bool.and_eq_true]
    exact⟨hb,h4⟩
  ·exact h2.elim
theorem drawn_lastS{P:Program}{C:Ctx}(hC:CtxOK P C)(hm:P.follows .mixedOrders=true){id:Nat}{ops:Array Oper}{pre:List Oper}{sp:List (Oper×Option Told)}{o:Oper}(hops:ops.toList=pre++[o])(hsp:sp.map (·.1)=pre)(hlast:lastAll pre o=true)(hedge:edgesOK 0 ops.toList=true)
  {p:Par} {μ0:Mu} {st:AS} {a:Act} {w:World} {Q:AS->Prop} {K:Exit->Act->World->Prop} (hs:Sim p μ0 st a w) (hT:∀x∈sp,∀g,x.2=some g->ToldOK p P x.1 g) (hq:(dKs P C ops sp [] [] { st with tm:=Sx.untag st.tm }).sat P Q)
  (hk:∀r s a' w',Q s->Sim p μ0 s a' w'->wpListIn (FW r) 0 P ops K [o] a' w'):WP P (.region id ops true) K a w:=by
 obtain⟨μ,F,hh,hf,h0,ht,hsz,hd⟩:=hs.untag
 have hsize:ops.size=pre.length+1:=by
  have:=congrArg List.length hops
  simpa using this
 have hpo:∀j x,pre[j]?=some x->ops[j]?=some x:=fun j x hx=>by
  have hj:j<pre.length:=(List.getElem?_eq_some_iff.1 hx).1
  rw[<- Array.getElem?_toList,hops,List.getElem?_append_left hj];exact hx
 have hop:∀j x,j<pre.length->ops[j]?=some x->pre[j]?=some x:=fun j x hj hx=>by
  rw[<- Array.getElem?_toList,hops,List.getElem?_append_left hj] at hx;exact hx
 have hoL:ops[pre.length]?=some o:=by
  rw[<- Array.getElem?_toList,hops,List.getElem?_append_right (Nat.le_refl _),Nat.sub_self];rfl
 obtain⟨evs,stF,h1,hall,h2⟩:=dKs_sat _ _ _ _ hq
 rw[hsp] at hall
 simp only[List.length_nil,List.drop_zero] at hall
 obtain⟨f1,f2,f3,f4⟩:=evOpsS_spec (pl:=p) _ _ _ _ hT h1
 have hlen:sp.length=pre.length:=by rw[<- hsp];simp
 rw[hlen] at f1 f3
 have f4:∀j o e,pre[j]?=some o->evs[j]?=some e->EvOKs p P C ops o (foldE (fun i=>decide (i<j)) 0 evs ⟨Sx.untag st.tm,st.hp⟩).tm (foldE (fun i=>decide (i<j)) 0 evs ⟨Sx.untag st.tm,st.hp⟩).hp e/\e.id=st.next+j:=fun j o' e hj he=>by
  rw[<- hsp,List.getElem?_map] at hj
  cases hx:sp[j]? with
  |none=>rw[hx] at hj;cases hj
  |some x =>
   rw[hx] at hj
   simp only[Option.map_some,Option.some.injEq] at hj
   subst hj
   exact f4 j x e hx he
 have f3:stF.next=st.next+pre.length:=f3
 have hbm:=bms_bef (ops:=ops) pre [] (fun j x h=>by simpa using hpo j x h) (fun j i h=>by simp at h)
 have hbl:∀i,i<evs.length->Bef ops i evs.length:=by
  intro i hi
  have h3:=hlast
  unfold lastAll at h3
  rw[fNat_eq,List.all_eq_true] at h3
  have h4:=h3 i (List.mem_range.2 (by omega))
  rw[f1]
  exact bmOne_bef hoL hbm i h4
 have hW:WalkedS p P C ops evs ⟨Sx.untag st.tm,st.hp⟩ st.next:=by
  refine⟨by omega,fun j x e hj he=>f4 j x e (hop j x (by have:=(List.getElem?_eq_some_iff.1 he).1;omega) hj) he,fun i k x e hik hx he=>?_,fun j x e hj he hb=>?_,fun t g b s htag=>?_⟩
  ·have:=allOK_spec hall k e he i x (by simpa using hx) (by simpa using hik)
   unfold pairOK at this
   simp only[Bool.and_eq_true,Bool.or_eq_true,Bool.not_eq_true'] at this
   exact⟨this.1.1.imp (hbm k i) (fun h=>h),this.1.2,this.2⟩
  ·have:=edgesOK_spec hedge j x e (by simpa using hj) he hb
   omega
  ·rw[tget_untag] at htag
   split at htag
   ·cases htag
   ·rename_i h;exact h _ _ _ htag
 refine fun r _=>wpIn_region_any hm (any_soundLS (p:=p) (μ0:=μ0) hC hW (by omega) hbl (fun a' w' hI'=>?_) ops.size _ a _ (by simp) ?_ ?_ ?_)
 ·obtain⟨_,μ',F',e1,e2,e3,e4,e5,e6⟩:=hI'
  have hfe:foldE (fun i=>decide (i<evs.length)) 0 evs ⟨Sx.untag st.tm,st.hp⟩=⟨stF.tm,stF.hp⟩:=by
   rw[f2];exact foldE_congr _ _ _ fun j hj=>by simp;omega
  rw[hfe] at e1 e4
  have hsim:Sim p μ0 stF a' w':=by
   refine⟨μ',F',e1,fun l hl=>?_,e3,e4,?_,e6⟩
   ·cases hm':μ' l with
    |none=>rfl
    |some q =>
     obtain⟨i,e,g1,g2,g3⟩:=e2 l (show st.next<=l by omega) (by rw[hm'];simp)
     have hi:i<pre.length:=by rw[<- f1];exact(List.getElem?_eq_some_iff.1 g2).1
     have h9:e.id=st.next+i:=(f4 i _ e (List.getElem?_eq_getElem hi) g2).2
     omega
   ·have:=congrArg (fun s=>s.tm.length) hfe
    simp only[length_foldE] at this
    simp only at e5
    omega
  have hl:=hk r stF a' w' h2 hsim
  unfold wpListIn at hl
  unfold wpOpIn
  rw[f1,hoL]
  exact hl
 ·refine Nat.le_trans List.countP_le_length ?_
  simp
 ·unfold asSet
  simp[Array.getD_eq_getD_getElem?,Array.getElem?_replicate]
  split<;>rfl
 ·have hS:asSet (Array.replicate ops.size false)=fun _=>false:=by
   funext i;unfold asSet;simp[Array.getD_eq_getD_getElem?,Array.getElem?_replicate]
   split<;>rfl
  rw[hS]
  refine⟨(fun k o e h=>by cases h),μ,F,?_,fun l hl hm'=>(hm' (hf l hl)).elim,h0,?_,hsz,hd.drew⟩
  ·rw[foldE_false];exact hs_drew hh
  ·rw[foldE_false];exact fun t=>(ht t).mono (Ext.drew F w) (fun _ h=>h) (fun _ _ h=>h)
theorem simG_open2{p:Par}{μ0:Mu}{st:AS}{B:Gh}{a:Act}{w:World}(h:SimG p μ0 st B a w):∃p',Sim p' μ0 st a w/\(∀s a' w',Sim p' μ0 s a' w'->SimG p μ0 s B a' w')/\∀b c,B b=some c->∀μ F h w',HS p' μ F h w'->w'.heap[b]?=some (gObj c):=by
 obtain⟨μ,F,hh,hf,h0,ht,hsz,⟨hgl,Ds,d1,d2,d3⟩,hB⟩:=h
 have hsize:=hh.ext.size
 have touch:∀b,(Tk st.hp μ b\/b∈Ds)->p.T b\/p.w0.heap.size<=b:=fun b hb=>hb.elim (tk_par hh) fun hb=>(d3 b hb).1.symm
 refine⟨⟨w,fun b=>Tk st.hp μ b\/b∈Ds,F⟩,⟨μ,F,⟨Ext.refl _ _,fun b hb=>hb,fun b hb=>⟨(hh.fin b hb).1,.inl hb⟩,fun l blk hg=>?_,hh.inj⟩,hf,h0,ht,hsz,hgl,Ds,d1,d2,fun D hD=>⟨.inr (.inr hD),(d3 D hD).2⟩⟩,?_,?_⟩
 ·obtain⟨q,h1,h2,h3⟩:=hh.blk l blk hg
  refine⟨q,h1,?_,h3⟩
  cases q with
  |nil=>trivial
  |pl b o=>exact⟨h2.1,.inl (.inl ⟨l,blk,o,hg,h1⟩)⟩
 ·rintro s a' w' ⟨μ',F',k,kf,k0,kt,ksz,⟨kgl,Es,e1,e2,e3⟩⟩
  have plc:∀b,((Tk st.hp μ b\/b∈Ds)\/w.heap.size<=b)->p.T b\/p.w0.heap.size<=b:=fun b hb=>hb.elim (touch b) fun hb=>.inr (by omega)
  refine⟨μ',F',⟨hh.ext.trans (k.ext.mono fun b hb=>⟨by have:=hb.1;simp only;omega,fun ht=>?_⟩),fun b hb=>k.sub b (hh.sub b hb),fun b hb=>⟨(k.fin b hb).1,?_⟩,fun l blk hg=>?_,k.inj⟩,kf,k0,kt,ksz,⟨kgl,Es,e1,e2,fun D hD=>⟨?_,(e3 D hD).2⟩⟩,fun b c hb=>?_⟩
  ·rcases touch b ht with h1|h1
   ·exact hb.2 h1
   ·have:=hb.1;omega
  ·rcases (k.fin b hb).2 with h1|h1|h1
   ·exact(hh.fin b h1).2
   ·exact .inr (touch b h1)
   ·simp only at h1;exact .inr (.inr (by omega))
  ·obtain⟨q,h1,h2,h3⟩:=k.blk l blk hg
   refine⟨q,h1,?_,h3⟩
   cases q with
   |nil=>trivial
   |pl b o=>exact⟨h2.1,plc b h2.2⟩
  ·rcases (e3 D hD).1 with h1|h1
   ·exact(plc D (.inr h1)).symm
   ·exact(plc D (.inl h1)).symm
  ·obtain⟨g1,g2,g3,g4⟩:=hB b c hb
   have hlt:b<w.heap.size:=(Array.getElem?_eq_some_iff.1 g1).1
   have hnT:¬(Tk st.hp μ b\/b∈Ds):=by
    rintro(h|h)
    ·exact g3 h
    ·have:=(d3 b h).2.1
     rw[g1] at this;cases c<;>cases this
   refine⟨(k.ext.keep b ⟨hlt,hnT⟩).trans g1,fun hf=>?_,?_,g4⟩
   ·rcases (k.fin b hf).2 with h1|h1|h1
    ·exact g2 h1
    ·exact hnT h1
    ·simp only at h1;omega
   ·rintro⟨l,blk,o,hg,hm⟩
    obtain⟨q,h1,h2,h3⟩:=k.blk l blk hg
    rw[hm,Option.some.injEq] at h1;subst h1
    rcases h2.2 with h4|h4
    ·exact hnT h4
    ·simp only at h4;omega
 ·intro b c hb μ' F' h' w' k
  obtain⟨g1,g2,g3,g4⟩:=hB b c hb
  have hlt:b<w.heap.size:=(Array.getElem?_eq_some_iff.1 g1).1
  have hnT:¬(Tk st.hp μ b\/b∈Ds):=by
   rintro(h|h)
   ·exact g3 h
   ·have:=(d3 b h).2.1
    rw[g1] at this;cases c<;>cases this
  exact(k.ext.keep b ⟨hlt,hnT⟩).trans g1
end
noncomputable section
variable [Globs]
def ghUn(B B':Gh):Gh:=fun b=>match B b with|some c=>some c|none=>B' b
theorem ghUn_no(B:Gh):ghUn B noGh=B:=by
 funext b;unfold ghUn;cases h:B b<;>rfl
theorem ghUn_set{B:Gh}{b:Nat}{z:GO}(h:B b=none):ghUn B (ghSet noGh b z)=ghSet B b z:=by
 funext k;unfold ghUn ghSet noGh
 by_cases hk:k=b
 ·subst hk;rw[h]
 ·simp only[if_neg hk];cases h:B k<;>rfl
theorem gcall_op2{P:Program}{k:FuncId}{p:Par}{μ0:Mu}{st:AS}{B:Gh}{a:Act}{w:World}{o:Oper}{c:Call}{args:List SV}{post:DV->Gh->Prop}{ops:Array Oper}{r:Option Nat}{Qx:Exit->Act->World->Prop}{l2:List Oper}{t:Nat}(hs:SimG p μ0 st B a w)
  (hop:o.op=.call c) (hg:o.guard=none) (hd:o.dst=some t) (ht:t<st.tm.length) (hnt:noTag st.tm t=true) (hgood:goodF P k=true) (hcnd:∀q∈cndsT st.tm (opSlots o),q) (hcal:callee (rhoR st.tm none (opSlots o)) c=some (k,args)) (hno:args.all noId=true) (hctr:GCtr P k args post)
  (hK:∀d B' v w',post d B'->(∀b,B' b≠none->B b=none)->SimG p μ0 { st with tm:=st.tm.set t (.ok (.d d)) } (ghUn B B') (a.put o.dst v) w'->wpListIn (FW r) 0 P ops Qx l2 (a.put o.dst v) w'):wpListIn (FW r) 0 P ops Qx (o::l2) a w:=by
 have hw:Region.wanted o (yielded ops a.tmps)=true:=by unfold Region.wanted;rw[hg]
 obtain⟨μ,F,hh,hf,h0,htm,hsz,hdm,hB⟩:=hs
 have hl:=hs_seq1 hh
 obtain⟨vs,h5,h6⟩:=callee_run (rhoR_sound hdm.1 htm (fun g b e=>by cases e) hcnd) hop hgood hcal
 have hF:∀b,F b->b<w.heap.size:=fun b hb=>(hh.fin b hb).1
 have hr:Reps w emp F vs args:=by
  rw[List.all_eq_true] at hno
  exact⟨h6.1,fun i hi=>rep_noId (h6.2 i hi) (hno _ (getD_mem hi))⟩
 apply wanted_step
 rw[if_pos hw]
 refine⟨fun _ _=>trivial,?_⟩
 rw[semAt_eq (fun c h=>by rw[hop] at h;cases h),h5]
 refine⟨(fun h=>by cases h),callsW r _ ((hctr vs w F hF hdm.1 hr).mono ?_)⟩
 rintro e w' ⟨v,d,B',F',rfl,hp,hs',hrep,hB'⟩
 have hdis:∀b,B' b≠none->B b=none:=fun b hb=>by
  cases h1:B b with
  |none=>rfl
  |some c =>
   cases h2:B' b with
   |none=>exact(hb h2).elim
   |some c' =>
    have h3:=(Array.getElem?_eq_some_iff.1 (hB b c h1).1).1
    have h4:=(hB' b c' h2).2.2.2.elim id fun h=>(tk_nil h).elim
    simp only at h4
    omega
 refine hK d B' v w' hp hdis ?_
 have hold:∀b,b<w.heap.size->w'.heap[b]?=w.heap[b]?:=fun b hb=>hs'.ext.keep b ⟨hb,tk_nil⟩
 have hF':∀b,F' b->b<w.heap.size->F b:=by
  intro b hb hlt
  rcases (hs'.fin b hb).2 with h|h|h
  ·exact h
  ·exact(tk_nil h).elim
  ·simp only at h;omega
 have e1:HS ⟨w,Tk st.hp μ,F⟩ μ F' st.hp w':=by
  refine⟨hs'.ext.mono fun b hb=>⟨hb.1,tk_nil⟩,hs'.sub,fun b hb=>⟨(hs'.fin b hb).1,?_⟩,fun l blk hg=>?_,hh.inj⟩
  ·rcases Nat.lt_or_ge b w.heap.size with h|h
   ·exact .inl (hF' b hb h)
   ·exact .inr (.inr h)
  ·obtain⟨q,k1,k2,k3⟩:=hl.blk l blk hg
   refine⟨q,k1,?_,k3.mono (hs'.ext.mono fun b hb=>⟨hF b hb,tk_nil⟩) hs'.sub (fun _ _ h=>h) ?_⟩
   ·cases q with
    |nil=>trivial
    |pl b o=>exact⟨fun h=>k2.1 (hF' b h k3.lt),k2.2⟩
   ·intro b o hq;subst hq;exact hold b k3.lt
 have hext:=ext_F hl e1
 have hsz0:=hh.ext.size
 refine⟨μ,F',hs_seq2 hh e1,hf,h0,?_,?_,by rw[Act.put_defers];exact hdm.step hl e1,fun b x hb=>?_⟩
 ·rw[hd]
  exact tmOK_put htm hext e1.sub (fun _ _ h=>h) (by omega) ht hnt (.d hrep)
 ·rw[hd];simp[Act.put];exact hsz
 ·unfold ghUn at hb
  split at hb
  ·rename_i c hc
   obtain rfl:=Option.some.inj hb
   obtain⟨g1,g2,g3,g4⟩:=hB b c hc
   have hlt:=(Array.getElem?_eq_some_iff.1 g1).1
   exact⟨(hold b hlt).trans g1,fun h=>g2 (hF' b h hlt),g3,g4⟩
  ·obtain⟨g1,g2,g3,g4⟩:=hB' b x hb
   have hnew:w.heap.size<=b:=g4.elim id fun h=>(tk_nil h).elim
   refine⟨g1,g2,?_,.inl (by omega)⟩
   rintro⟨l,blk,o,hg,hm⟩
   have:=(hl.blkAt hg hm).1.lt
   omega
def ghAt(B:Gh)(a:Addr):Value:=match B a.block with
 |some (.inl c)=>c.1.getD a.off undef
 |_=>undef
def _root_.Go.Proofs.GhIn(B:Gh)(a:Addr):Prop:=a.spot=none/\∃cs e,B a.block=some (.inl (cs,e))/\a.off<cs.size
def ghNum(B:Gh)(o:Option Addr):Int:=match o with
 |some a=>(match ghAt B a with|.int _ z=>z|_=>0)
 |none=>0
def _root_.Go.Proofs.GhN(B:Gh)(o:Option Addr):Prop:=∃a,o=some a/\Proofs.GhIn B a/\ghAt B a=.int .u64 (ghNum B o)
def toldLd(B:Gh)(s:Nat):Told:=fun tm=>match tget tm s with
 |.ok (.d (.x (.pointer o)))=>some (Proofs.GhN B o,.d (.x (.int .u64 (ghNum B o))))
 |_=>none
theorem toldLd_ok{pl:Par}{P:Program}{B:Gh}{o:Oper}{t:TypeId}{s:Nat}(hop:o.op=.load t (.tmp s))(hg:o.guard=none)(hsh:shapeT P t=some (false,1))(hB:∀b c,B b=some c->∀μ F h w',HS pl μ F h w'->w'.heap[b]?=some (gObj c)):ToldOK pl P o (toldLd B s):=by
 refine⟨hg,(fun c h=>by rw[hop] at h;cases h),fun tm q d hf hq μ F h a w hs ht=>?_⟩
 unfold toldLd at hf
 split at hf
 ·rename_i oa htm
  simp only[Option.some.injEq,Prod.mk.injEq] at hf
  obtain⟨rfl,rfl⟩:=hf
  obtain⟨ad,rfl,⟨h1,cs,e,h2,h3⟩,h4⟩:=hq
  have hv:=ht s
  rw[htm] at hv
  have hv:a.eval (.tmp s)=.pointer (some ad):=rep_x hv
  have hobj:=hB _ _ h2 μ F h w hs
  generalize ghNum B (some ad)=z at h4
  obtain⟨b,off,sp⟩:=ad
  simp only at h1 h2 h3 hobj
  subst h1
  have e1:ghAt B ⟨b,off,none⟩=cs.getD off undef:=by unfold ghAt;simp only[h2]
  rw[e1] at h4
  refine⟨.int .u64 z,?_,.d (.x _)⟩
  unfold execOp
  rw[hop]
  have hl:(Instr.loadAt t (.pointer (some ⟨b,off,none⟩))).run P w=.ok (cs.getD off undef) w:=by
   unfold Instr.loadAt
   simp only[Instr.sureAddr,Sem.run_bind,Sem.run_pure,Result.andThen]
   exact run_loadVar hsh b off (fun j=>cs.getD (off+j) undef) (fun j hj=>cell_of_heap hobj (by simp only at hj;show off+j<cs.size;omega))
  rw[h4] at hl
  simp only[hv,Sem.run_bind,hl,Result.andThen,Sem.run_pure]
 ·cases hf
theorem BlkLe.map{kk n:Nat}{has has':List Int->Bool}{val val':List Int->DV}(h:∀l,has l=has' l)(hv:∀l,has l=true->val l=val' l):BlkLe (.map kk n has val) (.map kk n has' val'):=by
 intro w μ F q hb
 cases q with
 |nil=>exact hb
 |pl b o =>
  obtain⟨h1,es,clk,h2,h3⟩:=hb
  refine⟨h1,es,clk,h2,h3.size,fun e he=>?_,fun l hl=>?_,h3.stamp⟩
  ·obtain⟨l,k1,k2,k3,k4⟩:=h3.ent e he
   exact⟨l,k1,k2,by rw[<- h];exact k3,by rw[<- hv l k3];exact k4⟩
  ·exact h3.has l (by rw[h];exact hl)
end
end Go.Sx
