/- Part of a proof of the given statements of this seat (SyK, SyKF, SyKW, SyL, SyM, SyN, SyO, SyP, SyQ, SyR, SyS, SyT, SyTl, SyU): no conditions beyond those typed here. -/
import Derived.Test.YtanlnopgadbpjaaGreatSw00
import Derived.OrdersIn
import Derived.TacticsIn
import Derived.RangeFuncLeaves
import Derived.RangeFuncWrites
import Derived.Laws.Externs
import Derived.LoopN
import Derived.Orders
import Derived.Below
set_option linter.unusedVariables false
set_option linter.unusedSimpArgs false
set_option linter.unusedSectionVars false
set_option linter.constructorNameAsVariable false
set_option maxRecDepth 100000
noncomputable section
namespace Go.Sx
noncomputable section
variable [Globs]
theorem rep_noId1{w:World}{μ μ':Mu}{F:Nat->Prop}{v:Value}{s:SV}(h:Rep w μ F v s)(hn:noId1 s=true):Rep w μ' F v s:=by
 cases h with
 |d hd=>exact .d hd
 |rop b o n cell f a1 a2 a3 a4=>exact .rop b o n cell f a1 a2 a3 a4
 |ifc t v s h =>
  cases h with
  |d hd=>exact .ifc _ _ _ (.d hd)
  |rop b o n cell f a1 a2 a3 a4=>exact .ifc _ _ _ (.rop b o n cell f a1 a2 a3 a4)
  |_=>cases hn
 |_=>cases hn
theorem getD_mem{α:Type}{l:List α}{i:Nat}{d:α}(h:i<l.length):l.getD i d∈l:=by simp[List.getD,h]
theorem rep_noId{w:World}{μ μ':Mu}{F:Nat->Prop}{v:Value}{s:SV}(h:Rep w μ F v s)(hn:noId s=true):Rep w μ' F v s:=by
 cases h with
 |d hd=>exact .d hd
 |agg cs ss hl hi =>
  simp only[noId,List.all_eq_true] at hn
  exact .agg cs ss hl fun i h=>rep_noId1 (hi i h) (hn _ (getD_mem h))
 |tup cs ss hl hi =>
  simp only[noId,List.all_eq_true] at hn
  refine .tup cs ss hl fun i h=>?_
  have h1:=hi i h
  have h2:=hn _ (getD_mem (d:=uv) h)
  generalize ss.getD i uv=s at h1 h2 ⊢
  generalize cs.getD i undef=v at h1 ⊢
  cases h1 with
  |agg cs' ss' hl' hi' =>
   simp only[List.all_eq_true] at h2
   exact .agg cs' ss' hl' fun j hj=>rep_noId1 (hi' j hj) (h2 _ (getD_mem hj))
  |d hd=>exact .d hd
  |rop b o n cell f a1 a2 a3 a4=>exact .rop b o n cell f a1 a2 a3 a4
  |ifc t v s h=>exact rep_noId1 (.ifc t v s h) h2
  |_=>cases h2
 |rop b o n cell f a1 a2 a3 a4=>exact .rop b o n cell f a1 a2 a3 a4
 |ifc t v s h=>exact rep_noId1 (.ifc t v s h) hn
 |fn f fs cs ss ts h1 h2 h3 h4 =>
  simp only[noId,Bool.and_eq_true,List.all_eq_true] at hn
  exact .fn f fs cs ss ts h1 h2 (fun i hi=>rep_noId1 (h3 i hi) (hn.1 _ (getD_mem hi))) fun i hi=>rep_noId1 (h4 i hi) (hn.2 _ (getD_mem hi))
 |_=>cases hn
theorem rep_flat1{w w':World}{μ μ':Mu}{F F':Nat->Prop}{v:Value}{s:SV}(h:Rep w μ F v s)(hn:flat1 s=true):Rep w' μ' F' v s:=by
 cases h with
 |d hd=>cases hd with
  |x v=>exact .d (.x v)
  |_=>cases hn
 |_=>cases hn
theorem rep_flat{w w':World}{μ μ':Mu}{F F':Nat->Prop}{v:Value}{s:SV}(h:Rep w μ F v s)(hn:flat s=true):Rep w' μ' F' v s:=by
 cases h with
 |d hd=>cases hd with
  |x v=>exact .d (.x v)
  |_=>cases hn
 |agg cs ss hl hi =>
  simp only[flat,List.all_eq_true] at hn
  exact .agg cs ss hl fun i h=>rep_flat1 (hi i h) (hn _ (getD_mem h))
 |tup cs ss hl hi =>
  simp only[flat,List.all_eq_true] at hn
  refine .tup cs ss hl fun i h=>?_
  have h1:=hi i h
  have h2:=hn _ (getD_mem (d:=uv) h)
  generalize ss.getD i uv=s at h1 h2 ⊢
  generalize cs.getD i undef=v at h1 ⊢
  cases h1 with
  |agg cs' ss' hl' hi' =>
   simp only[List.all_eq_true] at h2
   exact .agg cs' ss' hl' fun j hj=>rep_flat1 (hi' j hj) (h2 _ (getD_mem hj))
  |d hd=>cases hd with
   |x v=>exact .d (.x v)
   |_=>cases h2
  |_=>cases h2
 |_=>cases hn
def Opens(hp:Heap)(μ:Mu)(ls:List Nat)(b:Nat):Prop:=∃l∈ls,∃blk o,hget hp l=some blk/\μ l=some (.pl b o)
def isCB:Blk->Bool
 |.cells _=>true
 |.row _ _ _=>true
 |_=>false
theorem absSrc_row{hp:Heap}{l base off len esz esz' n:Nat}{cell:Nat->Nat->DV}{p:Prop}(h:absSrc hp (.row l base off len esz) esz'=some (n,cell,p)):n=len/\∃blk,hget hp l=some blk/\isCB blk=true:=by
 simp only[absSrc] at h
 split at h
 ·rename_i hg
  split at h
  ·simp only[Option.some.injEq,Prod.mk.injEq] at h;exact⟨h.1.symm,_,hg,rfl⟩
  ·cases h
 ·rename_i hg
  split at h
  ·split at h
   ·simp only[Option.some.injEq,Prod.mk.injEq] at h;exact⟨h.1.symm,_,hg,rfl⟩
   ·cases h
  ·cases h
 ·cases h
theorem row_sound{P:Program}{w:World}{μ:Mu}{F:Nat->Prop}{hp:Heap}{v:Value}{l base off len esz n:Nat}{cell:Nat->Nat->DV}{p:Prop}(hl:LH w μ F hp)(hs:Rep w μ F v (.row l base off len esz))(hsrc:absSrc hp (.row l base off len esz) esz=some (n,cell,p))(hp0:p){G:Nat->Prop}(hFG:∀b,F b->G b)
  (hG:∀b,Opens hp μ [l] b->G b):Rep w emp G v (.d (.ro n esz cell)):=by
 obtain⟨hn,blk,hg,hni⟩:=absSrc_row hsrc
 subst hn
 have hsrc':=absSrc_sound (P:=P) hl hs hsrc hp0
 obtain⟨news,h1,h2,h3,h4⟩:=hsrc'
 have hrun:=(h2 w fun _=>rfl).2
 cases hs with
 |rnil=>exact .d (.nil _ _)
 |rz _ _ _ _ b o=>exact .d (.ro b o 0 0 esz cell (fun _ _=>undef) (fun h=>by omega) (Nat.le_refl _) (fun i j hi=>by omega) (fun i j hi=>by omega) (fun i j hi=>by omega))
 |row _ _ _ _ _ b o cap hm hc hz =>
  have hGb:G b:=hG b ⟨l,List.mem_singleton.2 rfl,blk,o,hg,hm⟩
  obtain⟨hat,_⟩:=hl.blkAt hg hm
  have hobj:∃c e,w.heap[b]?=some (.cells c e (0,0)):=by
   cases blk with
   |cells cs=>obtain⟨c,e,hh,_⟩:=hat;exact⟨c,e,hh⟩
   |row _ _ _=>obtain⟨c,e,hh,_⟩:=hat;exact⟨c,e,hh⟩
   |_=>cases hni
  obtain⟨c,e,hh⟩:=hobj
  have hsz:o+base+(off+cap)*esz<=c.size:=by unfold bsz at hz;rw[hh] at hz;exact hz
  have hle:o+base+off*esz+n*esz<=c.size:=by
   have:n*esz<=cap*esz:=Nat.mul_le_mul_right _ hc
   rw[Nat.add_mul] at hsz;omega
  have hdet:=firstCells_det hh hle hrun
  have hidx:∀i j,i<n->j<esz->i*esz+j<n*esz:=by
   intro i j hi hj
   have:(i+1)*esz<=n*esz:=Nat.mul_le_mul_right _ hi
   rw[Nat.add_mul] at this;omega
  refine .d (.ro b _ n cap esz cell (fun i j=>news.getD (i*esz+j) undef) (fun _=>hGb) hc (fun i j hi hj=>?_) (fun i j hi hj=>?_) (fun i j hi hj=>(h3 i j hi hj).mono (Ext.refl _ _) hFG))
  ·rw[hdet _ (hidx i j hi hj)]
   exact cell_of_heap hh (by have:=hidx i j hi hj;omega)
  ·have hlt:=hidx i j hi hj
   refine h4 _ ?_
   rw[<- h1] at hlt
   exact getD_mem hlt
theorem view0_sound{P:Program}{w:World}{μ:Mu}{F:Nat->Prop}{hp:Heap}{v:Value}{s:SV}{d:DV}{ps:List Prop}{ls:List Nat}(hl:LH w μ F hp)(hs:Rep w μ F v s)(he:view0 hp s=some (d,ps,ls))(hps:∀p∈ps,p){G:Nat->Prop}(hFG:∀b,F b->G b)
  (hG:∀b,Opens hp μ ls b->G b):RepD w G v d:=by
 unfold view0 at he
 split at he
 ·simp only[Option.some.injEq,Prod.mk.injEq] at he
  obtain⟨rfl,rfl,rfl⟩:=he
  exact(rep_d hs).mono (Ext.refl _ _) hFG
 ·split at he
  ·rename_i n cell p hsrc
   simp only[Option.some.injEq,Prod.mk.injEq] at he
   obtain⟨rfl,rfl,rfl⟩:=he
   exact rep_d (row_sound (P:=P) hl hs hsrc (hps p (List.mem_singleton.2 rfl)) hFG hG)
  ·cases he
 ·cases he
theorem deep0_sound{P:Program}{w:World}{μ:Mu}{F:Nat->Prop}{hp:Heap}{G:Nat->Prop}(hl:LH w μ F hp)(hFG:∀b,F b->G b):∀{cs:List SV} {ds:List DV} {ps:List Prop} {ls:List Nat},deep0 hp cs=some (ds,ps,ls)->(∀p∈ps,p)->(∀b,Opens hp μ ls b->G b) ->
  ds.length=cs.length/\∀i v,i<cs.length->Rep w μ F v (cs.getD i uv)->RepD w G v (ds.getD i (.x undef))
 |[],ds,ps,ls,he,_,_=>by
  simp only[deep0,Option.some.injEq,Prod.mk.injEq] at he
  obtain⟨rfl,rfl,rfl⟩:=he
  exact⟨rfl,fun i v hi=>by simp at hi⟩
 |s::r,ds,ps,ls,he,hps,hG=>by
  simp only[deep0] at he
  split at he
  ·rename_i a p l ds' ps' ls' h1 h2
   simp only[Option.some.injEq,Prod.mk.injEq] at he
   obtain⟨rfl,rfl,rfl⟩:=he
   obtain⟨k1,k2⟩:=deep0_sound (P:=P) hl hFG (cs:=r) h2 (fun q hq=>hps q (List.mem_append.2 (.inr hq))) (fun b ⟨l',hl',x⟩=>hG b ⟨l',List.mem_append.2 (.inr hl'),x⟩)
   refine⟨by simp[k1],fun i v hi hr=>?_⟩
   cases i with
   |zero=>exact view0_sound (P:=P) hl (by simpa using hr) h1 (fun q hq=>hps q (List.mem_append.2 (.inl hq))) hFG (fun b ⟨l',hl',x⟩=>hG b ⟨l',List.mem_append.2 (.inl hl'),x⟩)
   |succ i=>simpa using k2 i v (by simpa using hi) (by simpa using hr)
  ·cases he
theorem dSrc_sound{P:Program}{w:World}{μ:Mu}{F:Nat->Prop}{hp:Heap}{v:Value}{l base off len esz:Nat}{a:SV}{ps:List Prop}{ls:List Nat}(hl:LH w μ F hp)(hs:Rep w μ F v (.row l base off len esz))(he:dSrc hp l base off len esz=some (a,ps,ls))(hps:∀p∈ps,p){G:Nat->Prop}(hFG:∀b,F b->G b)
  (hG:∀b,Opens hp μ ls b->G b):Rep w emp G v a:=by
 unfold dSrc at he
 split at he
 ·rename_i cs hg
  split at he
  ·rename_i hk
   split at he
   ·rename_i ds ps' ls' hd
    simp only[Option.some.injEq,Prod.mk.injEq] at he
    obtain⟨rfl,rfl,rfl⟩:=he
    cases hs with
    |rnil=>exact .d (.nil _ _)
    |rz _ _ _ _ b o=>exact .d (.ro b o 0 0 esz _ (fun _ _=>undef) (fun h=>by omega) (Nat.le_refl _) (fun i j hi=>by omega) (fun i j hi=>by omega) (fun i j hi=>by omega))
    |row _ _ _ _ _ b o cap hm hc hz =>
     have hGb:G b:=hG b ⟨l,List.mem_cons_self,_,o,hg,hm⟩
     obtain⟨⟨c,e,hh,hsz,hrep,hone⟩,_⟩:=hl.blkAt hg hm
     obtain⟨k1,k2⟩:=deep0_sound (P:=P) hl hFG hd hps (fun b ⟨l',hl',x⟩=>hG b ⟨l',List.mem_cons_of_mem _ hl',x⟩)
     rw[Nat.add_mul,<- Nat.add_assoc] at hk
     have hlen:((cs.drop (base+off*esz)).take (len*esz)).length=len*esz:=by rw[List.length_take,List.length_drop];omega
     have hidx:∀i j,i<len->j<esz->i*esz+j<len*esz:=by
      intro i j hi hj
      have:(i+1)*esz<=len*esz:=Nat.mul_le_mul_right _ hi
      rw[Nat.add_mul] at this;omega
     refine .d (.ro b _ len cap esz _ (fun i j=>c.getD (o+(base+off*esz+(i*esz+j))) undef) (fun _=>hGb) hc (fun i j hi hj=>?_) (fun i j hi hj=>?_) (fun i j hi hj=>?_))
     ·have:=hidx i j hi hj
      rw[show o+base+off*esz+(i*esz+j)=o+(base+off*esz+(i*esz+j)) by omega]
      exact cell_of_heap hh (by omega)
     ·have:=hidx i j hi hj
      exact hone _ (by omega)
     ·have h3:=hidx i j hi hj
      have h4:=k2 (i*esz+j) (c.getD (o+(base+off*esz+(i*esz+j))) undef) (by rw[hlen];exact h3) (by
       have h5:=hrep (base+off*esz+(i*esz+j)) (by omega)
       have e1:((cs.drop (base+off*esz)).take (len*esz)).getD (i*esz+j) uv=cs.getD (base+off*esz+(i*esz+j)) uv:=by
        rw[List.getD_eq_getElem?_getD,List.getElem?_take_of_lt h3,List.getElem?_drop,List.getD_eq_getElem?_getD]
       rw[e1];exact h5)
      rw[dsAt_eq (by rw[k1,hlen];exact h3)]
      exact h4
   ·cases he
  ·cases he
 ·cases he
theorem view0b_sound{P:Program}{w:World}{μ:Mu}{F:Nat->Prop}{hp:Heap}{v:Value}{s:SV}{d:DV}{ps:List Prop}{ls:List Nat}(hl:LH w μ F hp)(hs:Rep w μ F v s)(he:view0b hp s=some (d,ps,ls))(hps:∀p∈ps,p){G:Nat->Prop}(hFG:∀b,F b->G b)
  (hG:∀b,Opens hp μ ls b->G b):RepD w G v d:=by
 unfold view0b at he
 split at he
 ·rename_i r hr
  simp only[Option.some.injEq] at he
  subst he
  exact view0_sound (P:=P) hl hs hr hps hFG hG
 ·split at he
  ·split at he
   ·rename_i d' ps' ls' hd
    simp only[Option.some.injEq,Prod.mk.injEq] at he
    obtain⟨rfl,rfl,rfl⟩:=he
    exact rep_d (dSrc_sound (P:=P) hl hs hd hps hFG hG)
   ·cases he
  ·cases he
theorem deep1_sound{P:Program}{w:World}{μ:Mu}{F:Nat->Prop}{hp:Heap}{G:Nat->Prop}(hl:LH w μ F hp)(hFG:∀b,F b->G b):∀{cs:List SV} {ds:List DV} {ps:List Prop} {ls:List Nat},deep1 hp cs=some (ds,ps,ls)->(∀p∈ps,p)->(∀b,Opens hp μ ls b->G b) ->
  ds.length=cs.length/\∀i v,i<cs.length->Rep w μ F v (cs.getD i uv)->RepD w G v (ds.getD i (.x undef))
 |[],ds,ps,ls,he,_,_=>by
  simp only[deep1,Option.some.injEq,Prod.mk.injEq] at he
  obtain⟨rfl,rfl,rfl⟩:=he
  exact⟨rfl,fun i v hi=>by simp at hi⟩
 |s::r,ds,ps,ls,he,hps,hG=>by
  simp only[deep1] at he
  split at he
  ·rename_i a p l ds' ps' ls' h1 h2
   simp only[Option.some.injEq,Prod.mk.injEq] at he
   obtain⟨rfl,rfl,rfl⟩:=he
   obtain⟨k1,k2⟩:=deep1_sound (P:=P) hl hFG (cs:=r) h2 (fun q hq=>hps q (List.mem_append.2 (.inr hq))) (fun b ⟨l',hl',x⟩=>hG b ⟨l',List.mem_append.2 (.inr hl'),x⟩)
   refine⟨by simp[k1],fun i v hi hr=>?_⟩
   cases i with
   |zero=>exact view0b_sound (P:=P) hl (by simpa using hr) h1 (fun q hq=>hps q (List.mem_append.2 (.inl hq))) hFG (fun b ⟨l',hl',x⟩=>hG b ⟨l',List.mem_append.2 (.inl hl'),x⟩)
   |succ i=>simpa using k2 i v (by simpa using hi) (by simpa using hr)
  ·cases he
theorem dSrc1_sound{P:Program}{w:World}{μ:Mu}{F:Nat->Prop}{hp:Heap}{v:Value}{l base off len esz:Nat}{a:SV}{ps:List Prop}{ls:List Nat}(hl:LH w μ F hp)(hs:Rep w μ F v (.row l base off len esz))(he:dSrc1 hp l base off len esz=some (a,ps,ls))(hps:∀p∈ps,p){G:Nat->Prop}(hFG:∀b,F b->G b)
  (hG:∀b,Opens hp μ ls b->G b):Rep w emp G v a:=by
 unfold dSrc1 at he
 split at he
 ·rename_i cs hg
  split at he
  ·rename_i hk
   split at he
   ·rename_i ds ps' ls' hd
    simp only[Option.some.injEq,Prod.mk.injEq] at he
    obtain⟨rfl,rfl,rfl⟩:=he
    cases hs with
    |rnil=>exact .d (.nil _ _)
    |rz _ _ _ _ b o=>exact .d (.ro b o 0 0 esz _ (fun _ _=>undef) (fun h=>by omega) (Nat.le_refl _) (fun i j hi=>by omega) (fun i j hi=>by omega) (fun i j hi=>by omega))
    |row _ _ _ _ _ b o cap hm hc hz =>
     have hGb:G b:=hG b ⟨l,List.mem_cons_self,_,o,hg,hm⟩
     obtain⟨⟨c,e,hh,hsz,hrep,hone⟩,_⟩:=hl.blkAt hg hm
     obtain⟨k1,k2⟩:=deep1_sound (P:=P) hl hFG hd hps (fun b ⟨l',hl',x⟩=>hG b ⟨l',List.mem_cons_of_mem _ hl',x⟩)
     rw[Nat.add_mul,<- Nat.add_assoc] at hk
     have hlen:((cs.drop (base+off*esz)).take (len*esz)).length=len*esz:=by rw[List.length_take,List.length_drop];omega
     have hidx:∀i j,i<len->j<esz->i*esz+j<len*esz:=by
      intro i j hi hj
      have:(i+1)*esz<=len*esz:=Nat.mul_le_mul_right _ hi
      rw[Nat.add_mul] at this;omega
     refine .d (.ro b _ len cap esz _ (fun i j=>c.getD (o+(base+off*esz+(i*esz+j))) undef) (fun _=>hGb) hc (fun i j hi hj=>?_) (fun i j hi hj=>?_) (fun i j hi hj=>?_))
     ·have:=hidx i j hi hj
      rw[show o+base+off*esz+(i*esz+j)=o+(base+off*esz+(i*esz+j)) by omega]
      exact cell_of_heap hh (by omega)
     ·have:=hidx i j hi hj
      exact hone _ (by omega)
     ·have h3:=hidx i j hi hj
      have h4:=k2 (i*esz+j) (c.getD (o+(base+off*esz+(i*esz+j))) undef) (by rw[hlen];exact h3) (by
       have h5:=hrep (base+off*esz+(i*esz+j)) (by omega)
       have e1:((cs.drop (base+off*esz)).take (len*esz)).getD (i*esz+j) uv=cs.getD (base+off*esz+(i*esz+j)) uv:=by
        rw[List.getD_eq_getElem?_getD,List.getElem?_take_of_lt h3,List.getElem?_drop,List.getD_eq_getElem?_getD]
       rw[e1];exact h5)
      rw[dsAt_eq (by rw[k1,hlen];exact h3)]
      exact h4
   ·cases he
  ·cases he
 ·cases he
theorem dSrcs_sound{P:Program}{w:World}{μ:Mu}{F:Nat->Prop}{hp:Heap}{v:Value}{l base off len esz:Nat}{a:SV}{ps:List Prop}{ls:List Nat}(hl:LH w μ F hp)(hs:Rep w μ F v (.row l base off len esz))(he:dSrcs hp l base off len esz=some (a,ps,ls))(hps:∀p∈ps,p){G:Nat->Prop}(hFG:∀b,F b->G b)
  (hG:∀b,Opens hp μ ls b->G b):Rep w emp G v a:=by
 unfold dSrcs at he
 split at he
 ·rename_i r hr
  simp only[Option.some.injEq] at he
  subst he
  exact dSrc_sound (P:=P) hl hs hr hps hFG hG
 ·exact dSrc1_sound (P:=P) hl hs he hps hFG hG
theorem view1_sound{P:Program}{w:World}{μ:Mu}{F:Nat->Prop}{hp:Heap}{v:Value}{s a:SV}{ps:List Prop}{ls:List Nat}(hl:LH w μ F hp)(hs:Rep w μ F v s)(he:view1 hp s=some (a,ps,ls))(hps:∀p∈ps,p){G:Nat->Prop}(hFG:∀b,F b->G b)
  (hG:∀b,Opens hp μ ls b->G b):Rep w emp G v a:=by
 unfold view1 at he
 split at he
 ·simp only[Option.some.injEq,Prod.mk.injEq] at he
  obtain⟨rfl,rfl,rfl⟩:=he
  exact .d ((rep_d hs).mono (Ext.refl _ _) hFG)
 ·rename_i n c
  simp only[Option.some.injEq,Prod.mk.injEq] at he
  obtain⟨rfl,rfl,rfl⟩:=he
  cases hs with
  |rop b o _ _ f hF h1 h2 h3=>exact .rop b o n c f (fun h=>hFG _ (hF h)) h1 h2 fun j hj=>(h3 j hj).mono (Ext.refl _ _) hFG
 ·rename_i l base off len esz
  split at he
  ·rename_i n cell p hsrc
   simp only[Option.some.injEq,Prod.mk.injEq] at he
   obtain⟨rfl,rfl,rfl⟩:=he
   exact row_sound (P:=P) hl hs hsrc (hps p (List.mem_singleton.2 rfl)) hFG hG
  ·exact dSrcs_sound (P:=P) hl hs he hps hFG hG
 ·split at he
  ·rename_i hk
   simp only[Option.some.injEq,Prod.mk.injEq] at he
   obtain⟨rfl,rfl,rfl⟩:=he
   simp only[List.all_eq_true] at hk
   cases hs with
   |fn _ fs cs _ _ h1 h2 h3 h4 =>
    exact .fn _ fs cs _ _ h1 h2 (fun i hi=>(rep_noId (μ':=emp) (h3 i hi) (hk.1 _ (getD_mem hi))).mono (Ext.refl _ _) hFG (fun _ _ h=>h)) (fun i hi=>(rep_noId (μ':=emp) (h4 i hi) (hk.2 _ (getD_mem hi))).mono (Ext.refl _ _) hFG (fun _ _ h=>h))
  ·cases he
 ·rename_i l off
  split at he
  ·rename_i cs hg
   split at he
   ·rename_i hk
    simp only[Option.some.injEq,Prod.mk.injEq] at he
    obtain⟨rfl,rfl,rfl⟩:=he
    have hoff:=hk
    have hpl:=preD_le (cs.drop off)
    rw[List.length_drop] at hpl
    cases hs with
    |ptr _ _ b o hm =>
     have hGb:G b:=hG b ⟨l,List.mem_singleton.2 rfl,_,o,hg,hm⟩
     obtain⟨⟨c,e,hh,hsz,hrep,hone⟩,_⟩:=hl.blkAt hg hm
     refine .rop b (o+off) _ _ (fun j=>c.getD (o+(off+j)) undef) (fun _=>hGb) (fun j hj=>?_) (fun j hj=>hone _ (by omega)) (fun j hj=>?_)
     ·rw[Nat.add_assoc]
      exact cell_of_heap hh (by omega)
     ·have h1:=hrep (off+j) (by omega)
      have h2:∃d,cs.getD (off+j) uv=.d d:=by
       have:=preD_spec (cs.drop off) j hj
       rw[show(cs.drop off).getD j uv=cs.getD (off+j) uv by simp[List.getD,List.getElem?_drop]] at this
       cases hd:cs.getD (off+j) uv with
       |d d=>exact⟨d,rfl⟩
       |_=>rw[hd] at this;cases this
      obtain⟨d,hd⟩:=h2
      rw[hd] at h1 ⊢
      exact(rep_d h1).mono (Ext.refl _ _) hFG
   ·cases he
  ·cases he
 ·cases he
theorem viewL_sound{P:Program}{w:World}{μ:Mu}{F:Nat->Prop}{hp:Heap}{G:Nat->Prop}(hl:LH w μ F hp)(hFG:∀b,F b->G b):∀{cs as:List SV} {ps:List Prop} {ls:List Nat},viewL hp cs=some (as,ps,ls)->(∀p∈ps,p)->(∀b,Opens hp μ ls b->G b) ->
  as.length=cs.length/\∀i v,i<cs.length->Rep w μ F v (cs.getD i uv)->Rep w emp G v (as.getD i uv)
 |[],as,ps,ls,he,_,_=>by
  simp only[viewL,Option.some.injEq,Prod.mk.injEq] at he
  obtain⟨rfl,rfl,rfl⟩:=he
  exact⟨rfl,fun i v hi=>by simp at hi⟩
 |s::r,as,ps,ls,he,hps,hG=>by
  simp only[viewL] at he
  split at he
  ·rename_i a p l as' ps' ls' h1 h2
   simp only[Option.some.injEq,Prod.mk.injEq] at he
   obtain⟨rfl,rfl,rfl⟩:=he
   obtain⟨h3,h4⟩:=viewL_sound (P:=P) hl hFG h2 (fun q hq=>hps q (List.mem_append.2 (.inr hq))) (fun b ⟨l',hl',x⟩=>hG b ⟨l',List.mem_append.2 (.inr hl'),x⟩)
   refine⟨by simp[h3],fun i v hi hr=>?_⟩
   cases i with
   |zero=>exact view1_sound (P:=P) hl (by simpa using hr) h1 (fun q hq=>hps q (List.mem_append.2 (.inl hq))) hFG (fun b ⟨l',hl',x⟩=>hG b ⟨l',List.mem_append.2 (.inl hl'),x⟩)
   |succ i=>simpa using h4 i v (by simpa using hi) (by simpa using hr)
  ·cases he
theorem view_sound{P:Program}{w:World}{μ:Mu}{F:Nat->Prop}{hp:Heap}{v:Value}{s a:SV}{ps:List Prop}{ls:List Nat}(hl:LH w μ F hp)(hs:Rep w μ F v s)(he:view hp s=some (a,ps,ls))(hps:∀p∈ps,p){G:Nat->Prop}(hFG:∀b,F b->G b)
  (hG:∀b,Opens hp μ ls b->G b):Rep w emp G v a:=by
 unfold view at he
 split at he
 ·rename_i cs
  rw[Option.map_eq_some_iff] at he
  obtain⟨⟨as,p,l⟩,h1,h2⟩:=he
  simp only[Prod.mk.injEq] at h2
  obtain⟨rfl,rfl,rfl⟩:=h2
  obtain⟨h3,h4⟩:=viewL_sound (P:=P) hl hFG h1 hps hG
  cases hs with
  |agg vs _ hlen hi=>exact .agg vs as (by omega) fun i hi'=>h4 i _ (by omega) (hi i (by omega))
 ·split at he
  ·rename_i h1
   simp only[Option.some.injEq] at he
   subst he
   exact view1_sound (P:=P) hl hs h1 hps hFG hG
  ·split at he
   ·rename_i f xs ys _ _ _ _ a p l b q m h1 h2
    simp only[Option.some.injEq,Prod.mk.injEq] at he
    obtain⟨rfl,rfl,rfl⟩:=he
    obtain⟨h3,h4⟩:=viewL_sound (P:=P) hl hFG h1 (fun r hr=>hps r (List.mem_append.2 (.inl hr))) fun b' ⟨l',hl',x⟩=>hG b' ⟨l',List.mem_append.2 (.inl hl'),x⟩
    obtain⟨h5,h6⟩:=viewL_sound (P:=P) hl hFG h2 (fun r hr=>hps r (List.mem_append.2 (.inr hr))) fun b' ⟨l',hl',x⟩=>hG b' ⟨l',List.mem_append.2 (.inr hl'),x⟩
    cases hs with
    |fn _ fs cs _ _ e1 e2 e3 e4 =>
     exact .fn _ fs cs _ _ (by omega) (by omega) (fun i hi=>h4 i _ (by omega) (e3 i (by omega))) (fun i hi=>h6 i _ (by omega) (e4 i (by omega)))
   ·cases he
 ·exact view1_sound (P:=P) hl hs he hps hFG hG
theorem views_sound{P:Program}{w:World}{μ:Mu}{F:Nat->Prop}{hp:Heap}{G:Nat->Prop}(hl:LH w μ F hp)(hFG:∀b,F b->G b):∀{cs as:List SV} {ps:List Prop} {ls:List Nat},views hp cs=some (as,ps,ls)->(∀p∈ps,p)->(∀b,Opens hp μ ls b->G b) ->
  as.length=cs.length/\∀i v,i<cs.length->Rep w μ F v (cs.getD i uv)->Rep w emp G v (as.getD i uv)
 |[],as,ps,ls,he,_,_=>by
  simp only[views,Option.some.injEq,Prod.mk.injEq] at he
  obtain⟨rfl,rfl,rfl⟩:=he
  exact⟨rfl,fun i v hi=>by simp at hi⟩
 |s::r,as,ps,ls,he,hps,hG=>by
  simp only[views] at he
  split at he
  ·rename_i a p l as' ps' ls' h1 h2
   simp only[Option.some.injEq,Prod.mk.injEq] at he
   obtain⟨rfl,rfl,rfl⟩:=he
   obtain⟨h3,h4⟩:=views_sound (P:=P) hl hFG h2 (fun q hq=>hps q (List.mem_append.2 (.inr hq))) (fun b ⟨l',hl',x⟩=>hG b ⟨l',List.mem_append.2 (.inr hl'),x⟩)
   refine⟨by simp[h3],fun i v hi hr=>?_⟩
   cases i with
   |zero=>exact view_sound (P:=P) hl (by simpa using hr) h1 (fun q hq=>hps q (List.mem_append.2 (.inl hq))) hFG (fun b ⟨l',hl',x⟩=>hG b ⟨l',List.mem_append.2 (.inl hl'),x⟩)
   |succ i=>simpa using h4 i v (by simpa using hi) (by simpa using hr)
  ·cases he
theorem ctrCall_sound{P:Program}{w:World}{μ:Mu}{F:Nat->Prop}{hp:Heap}{N:Nat->Prop}{k:FuncId}{c:Ctr}{args:List SV}{vs:Array Value}{r:SV}(hl:LH w μ F hp)(hgl:GlobOK w F)(hc:CtrOK P k c)(ha:Reps w μ F vs args)(he:(ctrCall hp c args).ev r) :
  Calls P k vs w fun e w'=>∃v,e=.returned v/\Out w μ F hp N hp v r w':=by
 unfold ctrCall at he
 split at he
 ·exact he.elim
 ·rename_i as ps ls hv
  obtain⟨hps,he⟩:=needAll_ev he
  obtain⟨r',h1,h2⟩:=Tr.ev_bind he
  split at h2
  ·rename_i hk
   simp only[Tr.ev] at h2;subst h2
   simp only[Bool.and_eq_true,Bool.or_eq_true] at hk
   obtain⟨hno,hfl⟩:=hk
   obtain⟨h3,h4⟩:=views_sound (P:=P) (G:=fun b=>F b\/Opens hp μ ls b) hl (fun b hb=>.inl hb) hv hps (fun b hb=>.inr hb)
   have hG:∀b,(F b\/Opens hp μ ls b)->b<w.heap.size:=by
    intro b hb
    rcases hb with hb|⟨l,_,blk,o,hg,hm⟩
    ·exact(hl.fin b hb).1
    ·exact(hl.blkAt hg hm).1.lt
   refine(hc as vs w _ r hG (hgl.mono (Ext.refl _ _) fun b hb=>.inl hb) ⟨by rw[h3];exact ha.1,fun i hi=>h4 i _ (by omega) (ha.2 i (by omega))⟩ h1).mono ?_
   rintro e w' ⟨v,rfl,μ',F',hs,hr,_,_⟩
   refine⟨v,rfl,?_⟩
   have hold:∀b,b<w.heap.size->w'.heap[b]?=w.heap[b]?:=fun b hb=>hs.ext.keep b ⟨hb,fun⟨l,blk,o,hg,_⟩=>by simp[hget_def] at hg⟩
   have hextF:Ext F w w':=⟨hs.ext.os,hs.ext.tape,hs.ext.output,hs.ext.size,fun b hb=>hold b (hl.fin b hb).1,hs.ext.bsz⟩
   have hblk:∀(F2:Nat->Prop),(∀b,F b->F2 b)->(∀b,F2 b->b<w.heap.size->F b)->∀l blk,hget hp l=some blk->∃q,μ l=some q/\PlcOK ⟨w,Tk hp μ,F⟩ F2 q/\BlkAt w' μ F2 q blk:=by
    intro F2 hF2 hF2' l blk hg
    obtain⟨q,e1,e2,e3⟩:=hl.blk l blk hg
    refine⟨q,e1,?_,e3.mono hextF hF2 (fun _ _ h=>h) ?_⟩
    ·cases q with
     |nil=>trivial
     |pl b o=>exact⟨fun h=>e2.1 (hF2' b h e3.lt),e2.2⟩
    ·intro b o hq;subst hq;exact hold b e3.lt
   have hext:Ext (fun b=>b<w.heap.size/\¬Tk hp μ b) w w':=⟨hs.ext.os,hs.ext.tape,hs.ext.output,hs.ext.size,fun b hb=>hold b hb.1,hs.ext.bsz⟩
   rcases hfl with hemp|hflat
   ·have hls:ls=[]:=by simpa using hemp
    subst hls
    have hF':∀b,F' b->b<w.heap.size->F b:=by
     intro b hb hlt
     rcases (hs.fin b hb).2 with h|⟨l,blk,o,hg,_⟩|h
     ·rcases h with h|⟨l,hl',_⟩
      ·exact h
      ·cases hl'
     ·simp[hget_def] at hg
     ·simp only at h;omega
    refine⟨μ,F',⟨hext,fun b hb=>hs.sub b (.inl hb),fun b hb=>⟨(hs.fin b hb).1,?_⟩,hblk F' (fun b hb=>hs.sub b (.inl hb)) hF',hl.inj⟩,rep_noId hr hno,fun _ _ h=>h,fun _ _=>rfl⟩
    rcases Nat.lt_or_ge b w.heap.size with h|h
    ·exact .inl (hF' b hb h)
    ·exact .inr (.inr h)
   ·exact⟨μ,F,⟨hext,fun b hb=>hb,fun b hb=>⟨by have:=(hl.fin b hb).1;have:=hs.ext.size;simp only at this;omega,.inl hb⟩,hblk F (fun b hb=>hb) (fun b hb _=>hb),hl.inj⟩,rep_flat hr hflat,fun _ _ h=>h,fun _ _=>rfl⟩
  ·exact h2.elim
abbrev Octr:=List SV->Tr (Nat×Nat×(Nat->Nat->DV))
def OwnOK(P:Program)(k:FuncId)(oc:Octr):Prop :=
 ∀(ss:List SV) (vs:Array Value) (w:World) (F:Nat->Prop) (n esz:Nat) (cell:Nat->Nat->DV),(∀b,F b->b<w.heap.size)->GlobOK w F->Reps w emp F vs ss->(oc ss).ev (n,esz,cell) ->
  Calls P k vs w fun e w'=>∃v,e=.returned v/\Out w emp F [] (fun l=>l=0) [some (.row n esz cell)] v (.row 0 0 0 n esz) w'
def ownCall(id:Nat)(hp:Heap)(oc:Octr)(args:List SV):Tr (SV×Heap) :=
 match views hp args with
 |some (as,ps,ls)=>match ls with
  |[]=>needAll ps ((oc as).bind fun r=>match r with
   |(n,esz,cell)=>.ret (.row id 0 0 n esz,hset hp id (some (.row n esz cell))))
  |_::_=>.fail
 |none=>.fail
theorem ownCall_sound{P:Program}{w:World}{μ:Mu}{F:Nat->Prop}{hp hp':Heap}{id:Nat}{k:FuncId}{oc:Octr}{args:List SV}{vs:Array Value}{r:SV}(hl:LH w μ F hp)(hgl:GlobOK w F)(hid:μ id=none)(hc:OwnOK P k oc)(ha:Reps w μ F vs args)(he:(ownCall id hp oc args).ev (r,hp')) :
  Calls P k vs w fun e w'=>∃v,e=.returned v/\Out w μ F hp (·=id) hp' v r w':=by
 unfold ownCall at he
 split at he
 ·rename_i as ps ls hv
  split at he
  ·obtain⟨hps,he⟩:=needAll_ev he
   obtain⟨⟨n,esz,cell⟩,h1,h2⟩:=Tr.ev_bind he
   simp only[Tr.ev,Prod.mk.injEq] at h2
   obtain⟨rfl,rfl⟩:=h2
   obtain⟨h3,h4⟩:=views_sound (P:=P) (G:=F) hl (fun b hb=>hb) hv hps (fun b ⟨l,hl',_⟩=>by cases hl')
   refine(hc as vs w F n esz cell (fun b hb=>(hl.fin b hb).1) hgl ⟨by rw[h3];exact ha.1,fun i hi=>h4 i _ (by omega) (ha.2 i (by omega))⟩ h1).mono ?_
   rintro e w' ⟨v,rfl,μ0,F',hs,hr,_,_⟩
   refine⟨v,rfl,?_⟩
   have hnT:∀b,¬Tk [] emp b:=fun b ⟨l,blk,o,hg,_⟩=>by simp[hget_def] at hg
   have hold:∀b,b<w.heap.size->w'.heap[b]?=w.heap[b]?:=fun b hb=>hs.ext.keep b ⟨hb,hnT b⟩
   have hextF:Ext F w w':=⟨hs.ext.os,hs.ext.tape,hs.ext.output,hs.ext.size,fun b hb=>hold b (hl.fin b hb).1,hs.ext.bsz⟩
   have hext:Ext (fun b=>b<w.heap.size/\¬Tk hp μ b) w w':=⟨hs.ext.os,hs.ext.tape,hs.ext.output,hs.ext.size,fun b hb=>hold b hb.1,hs.ext.bsz⟩
   have hF':∀b,F' b->b<w.heap.size->F b:=by
    intro b hb hlt
    rcases (hs.fin b hb).2 with h|h|h
    ·exact h
    ·exact(hnT b h).elim
    ·simp only at h;omega
   obtain⟨q,e1,e2,e3⟩:=hs.blk 0 _ rfl
   have hq:∀b o,q=.pl b o->w.heap.size<=b:=by
    intro b o hq;subst hq
    rcases e2.2 with h|h
    ·exact(hnT b h).elim
    ·exact h
   have hself:upd μ id q id=some q:=by simp[upd]
   refine⟨upd μ id q,F',⟨hext,fun b hb=>hs.sub b hb,fun b hb=>⟨(hs.fin b hb).1,?_⟩,?_,?_⟩,?_,upd_ext hid,fun l hl'=>by unfold upd;rw[if_neg hl']⟩
   ·rcases Nat.lt_or_ge b w.heap.size with h|h
    ·exact .inl (hF' b hb h)
    ·exact .inr (.inr h)
   ·intro l blk hg
    rw[hget_hset] at hg
    split at hg
    ·rename_i hli;subst hli
     simp only[Option.some.injEq] at hg;subst hg
     refine⟨q,hself,?_,?_⟩
     ·cases q with
      |nil=>trivial
      |pl b o=>exact⟨e2.1,.inr (hq b o rfl)⟩
     ·cases q with
      |nil=>exact e3
      |pl b o=>exact e3
    ·obtain⟨p,m1,m2,m3⟩:=hl.blk l blk hg
     refine⟨p,upd_ext hid _ _ m1,?_,m3.mono hextF (fun b hb=>hs.sub b hb) (upd_ext hid) ?_⟩
     ·cases p with
      |nil=>trivial
      |pl b o=>exact⟨fun h=>m2.1 (hF' b h m3.lt),m2.2⟩
     ·intro b o hp';subst hp';exact hold b m3.lt
   ·intro l l' blk1 blk2 b o b' o' hne g1 g2 m1 m2
    rw[hget_hset] at g1 g2
    have old:∀k bb bo bk,k≠id->hget hp k=some bk->upd μ id q k=some (.pl bb bo)->bb<w.heap.size/\μ k=some (.pl bb bo):=by
     intro k bb bo bk hk hg hm
     have hm':μ k=some (.pl bb bo):=by simpa [upd,hk] using hm
     exact⟨(hl.blkAt hg hm').1.lt,hm'⟩
    by_cases c1:l=id
    ·have c2:l'≠id:=fun h=>hne (c1.trans h.symm)
     rw[if_neg c2] at g2
     obtain⟨hlt,_⟩:=old l' b' o' blk2 c2 g2 m2
     rw[c1,hself] at m1
     simp only[Option.some.injEq] at m1
     have:=hq b o m1
     omega
    ·rw[if_neg c1] at g1
     obtain⟨hlt,hm1⟩:=old l b o blk1 c1 g1 m1
     by_cases c2:l'=id
     ·rw[c2,hself] at m2
      simp only[Option.some.injEq] at m2
      have:=hq b' o' m2
      omega
     ·rw[if_neg c2] at g2
      obtain⟨_,hm2⟩:=old l' b' o' blk2 c2 g2 m2
      exact hl.inj l l' blk1 blk2 b o b' o' hne g1 g2 hm1 hm2
   ·generalize hsv:SV.row 0 0 0 n esz=sv at hr
    cases hr with
    |rnil l base off e h =>
     cases hsv
     rw[e1] at h;simp only[Option.some.injEq] at h;subst h
     exact .rnil _ _ _ _ hself
    |rz l base off e b o p h =>
     cases hsv
     exact .rz _ _ _ _ _ _ _ hself
    |row l base off len e b o cap h hcap hz =>
     cases hsv
     rw[e1] at h;simp only[Option.some.injEq] at h;subst h
     exact .row _ _ _ _ _ _ _ _ hself hcap hz
    |_=>cases hsv
  ·exact he.elim
 ·exact he.elim
end
noncomputable section
variable [Globs]
def hdropL(hp:Heap)(ls:List Nat):Heap:=ls.foldl (fun h l=>hset h l none) hp
theorem hget_hdropL(ls:List Nat):∀(hp:Heap) (k:Nat),hget (hdropL hp ls) k=if k∈ls then none else hget hp k:=by
 induction ls with
 |nil=>intro hp k;simp[hdropL]
 |cons l r ih =>
  intro hp k
  show hget (hdropL (hset hp l none) r) k=_
  rw[ih,hget_hset]
  by_cases h1:k∈r
  ·simp[h1]
  ·by_cases h2:k=l
   ·simp[h2]
   ·simp[h1,h2]
def frzB(hp:Heap)(l:Nat):Option (Heap×List Prop) :=
 match hget hp l with
 |some (.cells cs)=>match dvsOf cs with
  |some _=>none
  |none=>match viewL hp cs with
   |some (as,ps,ls)=>if ls.contains l then none else some (hset (hdropL hp ls) l (some (.cells as)),ps)
   |none=>none
 |_=>none
def FrzF(F:Nat->Prop)(hp:Heap)(μ:Mu)(ls:List Nat):Nat->Prop:=fun b=>F b\/Opens hp μ ls b
theorem lh_frz{w:World}{μ:Mu}{F:Nat->Prop}{hp hp2:Heap}{ls:List Nat}(hl:LH w μ F hp)(hsub:∀k blk,hget hp2 k=some blk->k∉ls/\∃blk0,hget hp k=some blk0/\∀q,μ k=some q->BlkAt w μ F q blk0->BlkAt w μ (FrzF F hp μ ls) q blk) :
  LH w μ (FrzF F hp μ ls) hp2:=by
 have hfin:∀b,FrzF F hp μ ls b->b<w.heap.size:=by
  rintro b (hb|⟨l,_,blk,o,hg,hm⟩)
  ·exact(hl.fin b hb).1
  ·exact(hl.blkAt hg hm).1.lt
 refine⟨Ext.refl _ _,fun b hb=>hb,fun b hb=>⟨hfin b hb,.inl hb⟩,?_,?_⟩
 ·intro k blk hg
  obtain⟨hk,blk0,hg0,himp⟩:=hsub k blk hg
  obtain⟨q,h1,h2,h3⟩:=hl.blk k blk0 hg0
  refine⟨q,h1,?_,himp q h1 h3⟩
  cases q with
  |nil=>trivial
  |pl b o =>
   refine⟨?_,.inl ⟨k,blk,o,hg,h1⟩⟩
   rintro(hb|⟨l,hl',blk1,o1,hg1,hm1⟩)
   ·exact h2.1 hb
   ·by_cases e:k=l
    ·subst e;exact hk hl'
    ·exact hl.inj k l blk0 blk1 b o b o1 e hg0 hg1 h1 hm1 rfl
 ·intro l l' blk blk' b o b' o' hne h1 h2 m1 m2
  obtain⟨_,blk0,hg0,_⟩:=hsub l blk h1
  obtain⟨_,blk1,hg1,_⟩:=hsub l' blk' h2
  exact hl.inj l l' blk0 blk1 b o b' o' hne hg0 hg1 m1 m2
theorem tk_sub{μ:Mu}{hp hp2:Heap}(h:∀k blk,hget hp2 k=some blk->∃blk0,hget hp k=some blk0){b:Nat}(hb:Tk hp2 μ b):Tk hp μ b:=by
 obtain⟨l,blk,o,hg,hm⟩:=hb
 obtain⟨blk0,hg0⟩:=h l blk hg
 exact⟨l,blk0,o,hg0,hm⟩
theorem hs_widen{w w':World}{μ μ':Mu}{F F1 F':Nat->Prop}{hp hp1 hp':Heap}(hT:∀b,Tk hp1 μ b->Tk hp μ b)(hF:∀b,F b->F1 b)(hF1:∀b,F1 b->F b\/Tk hp μ b)(h:HS ⟨w,Tk hp1 μ,F1⟩ μ' F' hp' w'):HS ⟨w,Tk hp μ,F⟩ μ' F' hp' w':=by
 refine⟨h.ext.mono fun b hb=>⟨hb.1,fun hh=>hb.2 (hT b hh)⟩,fun b hb=>h.sub b (hF b hb),fun b hb=>⟨(h.fin b hb).1,?_⟩,fun l blk hg=>?_,h.inj⟩
 ·rcases (h.fin b hb).2 with h1|h1|h1
  ·rcases hF1 b h1 with h2|h2
   ·exact .inl h2
   ·exact .inr (.inl h2)
  ·exact .inr (.inl (hT b h1))
  ·exact .inr (.inr h1)
 ·obtain⟨q,h1,h2,h3⟩:=h.blk l blk hg
  refine⟨q,h1,?_,h3⟩
  cases q with
  |nil=>trivial
  |pl b o=>exact⟨h2.1,h2.2.imp (hT b) id⟩
theorem out_widen{w w':World}{μ:Mu}{F F1:Nat->Prop}{hp hp1 hp':Heap}{N:Nat->Prop}{v:Value}{s:SV}(hT:∀b,Tk hp1 μ b->Tk hp μ b)(hF:∀b,F b->F1 b)(hF1:∀b,F1 b->F b\/Tk hp μ b)(h:Out w μ F1 hp1 N hp' v s w'):Out w μ F hp N hp' v s w':=by
 obtain⟨μ',F',h1,h2,h3,h4⟩:=h
 exact⟨μ',F',hs_widen hT hF hF1 h1,h2,h3,h4⟩
theorem opOut_widen{P:Program}{w:World}{μ:Mu}{F F1:Nat->Prop}{hp hp1 hp':Heap}{N:Nat->Prop}{s:SV}{r:Result Next}(hT:∀b,Tk hp1 μ b->Tk hp μ b)(hF:∀b,F b->F1 b)(hF1:∀b,F1 b->F b\/Tk hp μ b)(h:OpOut P w μ F1 hp1 N hp' s r):OpOut P w μ F hp N hp' s r:=by
 obtain⟨w',⟨v,h1,h2⟩|⟨h1,h2⟩⟩:=h
 ·exact⟨w',.inl ⟨v,h1,out_widen hT hF hF1 h2⟩⟩
 ·exact⟨w',.inr ⟨h1,out_widen hT hF hF1 h2⟩⟩
structure Frz(w:World)(μ:Mu)(F F1:Nat->Prop)(hp hp1:Heap):Prop where
 lh:LH w μ F1 hp1
 tk:∀b,Tk hp1 μ b->Tk hp μ b
 up:∀b,F b->F1 b
 dn:∀b,F1 b->F b\/Tk hp μ b
theorem Frz.trans{w:World}{μ:Mu}{F F1 F2:Nat->Prop}{hp hp1 hp2:Heap}(h:Frz w μ F F1 hp hp1)(k:Frz w μ F1 F2 hp1 hp2):Frz w μ F F2 hp hp2 :=
 ⟨k.lh,fun b hb=>h.tk b (k.tk b hb),fun b hb=>k.up b (h.up b hb),fun b hb=>by
  rcases k.dn b hb with h1|h1
  ·exact h.dn b h1
  ·exact .inr (h.tk b h1)⟩
theorem Frz.out{P:Program}{w:World}{μ:Mu}{F F1:Nat->Prop}{hp hp1 hp':Heap}{N:Nat->Prop}{s:SV}{r:Result Next}(f:Frz w μ F F1 hp hp1)(h:OpOut P w μ F1 hp1 N hp' s r):OpOut P w μ F hp N hp' s r:=opOut_widen f.tk f.up f.dn h
theorem Frz.rep{w:World}{μ:Mu}{F F1:Nat->Prop}{hp hp1:Heap}(f:Frz w μ F F1 hp hp1){v:Value}{s:SV}(h:Rep w μ F v s):Rep w μ F1 v s:=h.mono (Ext.refl _ _) f.up (fun _ _ h=>h)
theorem frzF_tk{w:World}{μ:Mu}{F:Nat->Prop}{hp:Heap}{ls:List Nat}:∀b,FrzF F hp μ ls b->F b\/Tk hp μ b:=by
 rintro b (h|⟨l,_,blk,o,hg,hm⟩)
 ·exact .inl h
 ·exact .inr ⟨l,blk,o,hg,hm⟩
theorem frz_drop{w:World}{μ:Mu}{F:Nat->Prop}{hp:Heap}(hl:LH w μ F hp)(ls:List Nat):Frz w μ F (FrzF F hp μ ls) hp (hdropL hp ls):=by
 have hsub:∀k blk,hget (hdropL hp ls) k=some blk->k∉ls/\hget hp k=some blk:=by
  intro k blk hg
  rw[hget_hdropL] at hg
  split at hg
  ·cases hg
  ·rename_i h;exact⟨h,hg⟩
 refine⟨lh_frz hl fun k blk hg=>?_,fun b hb=>tk_sub (fun k blk hg=>⟨blk,(hsub k blk hg).2⟩) hb,fun b hb=>.inl hb,frzF_tk (w:=w)⟩
 obtain⟨h1,h2⟩:=hsub k blk hg
 exact⟨h1,blk,h2,fun q _ hb=>hb.mono (Ext.refl _ _) (fun b h=>.inl h) (fun _ _ h=>h) (fun _ _ _=>rfl)⟩
theorem frzB_sound(P:Program){w:World}{μ:Mu}{F:Nat->Prop}{hp hp1:Heap}{l:Nat}{ps:List Prop}(hl:LH w μ F hp)(he:frzB hp l=some (hp1,ps))(hps:∀p∈ps,p):∃F1,Frz w μ F F1 hp hp1:=by
 unfold frzB at he
 split at he
 ·rename_i cs hg
  split at he
  ·cases he
  ·split at he
   ·rename_i as ps' ls hv
    split at he
    ·cases he
    ·rename_i hc
     simp only[Option.some.injEq,Prod.mk.injEq] at he
     obtain⟨rfl,rfl⟩:=he
     have hnl:l∉ls:=by simpa using hc
     obtain⟨h3,h4⟩:=viewL_sound (P:=P) (G:=FrzF F hp μ ls) hl (fun b hb=>.inl hb) hv hps (fun b hb=>.inr hb)
     have hsub:∀k blk,hget (hset (hdropL hp ls) l (some (.cells as))) k=some blk->(k=l/\blk=.cells as)\/(k≠l/\k∉ls/\hget hp k=some blk):=by
      intro k blk hk
      rw[hget_hset] at hk
      split at hk
      ·rename_i e;simp only[Option.some.injEq] at hk;exact .inl ⟨e,hk.symm⟩
      ·rename_i e
       rw[hget_hdropL] at hk
       split at hk
       ·cases hk
       ·rename_i h;exact .inr ⟨e,h,hk⟩
     refine⟨FrzF F hp μ ls,lh_frz hl fun k blk hk=>?_,fun b hb=>tk_sub (fun k blk hk=>?_) hb,fun b hb=>.inl hb,frzF_tk (w:=w)⟩
     ·rcases hsub k blk hk with⟨rfl,rfl⟩|⟨h1,h2,h5⟩
      ·refine⟨hnl,_,hg,fun q hq hb=>?_⟩
       cases q with
       |nil=>exact hb
       |pl b o =>
        obtain⟨c,e,hh,hsz,hc1,hc2⟩:=hb
        refine⟨c,e,hh,by omega,fun i hi=>?_,fun i hi=>hc2 i (by omega)⟩
        exact(h4 i _ (by omega) (hc1 i (by omega))).mono (Ext.refl _ _) (fun _ h=>h) (fun l q h=>by simp[emp] at h)
      ·exact⟨h2,blk,h5,fun q _ hb=>hb.mono (Ext.refl _ _) (fun b h=>.inl h) (fun _ _ h=>h) (fun _ _ _=>rfl)⟩
     ·rcases hsub k blk hk with⟨rfl,rfl⟩|⟨h1,h2,h5⟩
      ·exact⟨_,hg⟩
      ·exact⟨_,h5⟩
   ·cases he
 ·cases he
def frzS(hp:Heap)(s:Option SV):Option (Heap×List Prop):=match s with
 |some (.row l _ _ _ _)=>frzB hp l
 |_=>none
theorem frzS_sound(P:Program){w:World}{μ:Mu}{F:Nat->Prop}{hp hp1:Heap}{s:Option SV}{ps:List Prop}(hl:LH w μ F hp)(he:frzS hp s=some (hp1,ps))(hps:∀p∈ps,p):∃F1,Frz w μ F F1 hp hp1:=by
 unfold frzS at he
 split at he
 ·exact frzB_sound P hl he hps
 ·cases he
def absApp(P:Program)(id:Nat)(hp:Heap)(ρ:Operand->Option SV)(o:Oper)(x y:Operand):Tr (SV×Heap) :=
 match frzS hp (ρ y) with
 |some (hp1,ps)=>needAll ps (match frzS hp1 (ρ x) with
  |some (hp2,ps2)=>needAll ps2 (absOp P id hp2 ρ o)
  |none=>absOp P id hp1 ρ o)
 |none=>match frzS hp (ρ x) with
  |some (hp2,ps2)=>needAll ps2 (absOp P id hp2 ρ o)
  |none=>absOp P id hp ρ o
def frzV(hp:Heap)(p s:SV):Option (SV×List Prop×List Nat) :=
 match p with
 |.pix l _ _ _ _ _=>match hget hp l with
  |some (.row _ _ _)=>match dvsOf (svcells s) with
   |some _=>none
   |none=>match view hp s with
    |some (s',ps,ls)=>if ls.contains l then none else some (s',ps,ls)
    |none=>none
  |_=>none
 |_=>none
def absOpF(P:Program)(id:Nat)(hp:Heap)(ρ:Operand->Option SV)(o:Oper):Tr (SV×Heap) :=
 match o.op with
 |.call c=>match c.callee,c.args.toList with
  |.builtin .append,[x,y]=>absApp P id hp ρ o x y
  |_,_=>absOp P id hp ρ o
 |.store t a x=>match ρ a,ρ x with
  |some p,some s=>match frzV hp p s with
   |some (s',ps,ls)=>needAll ps ((absStore P (hdropL hp ls) t p s').bind fun h=>.ret (uv,h))
   |none=>absOp P id hp ρ o
  |_,_=>.fail
 |_=>absOp P id hp ρ o
theorem absOpF_sound{P:Program}{w:World}{μ:Mu}{F:Nat->Prop}{hp hp':Heap}{id:Nat}{ρ:Operand->Option SV}{σ:Operand->Value}{o:Oper}{s:SV}(hl:LH w μ F hp)(hid:μ id=none)
  (hρ:∀x s,ρ x=some s->Rep w μ F (σ x) s) (he:(absOpF P id hp ρ o).ev (s,hp')):OpOut P w μ F hp (NewId id o) hp' s ((execOp σ o).run P w):=by
 unfold absOpF at he
 split at he
 ·split at he
  ·unfold absApp at he
   split at he
   ·rename_i hp1 ps h1
    obtain⟨hps,he⟩:=needAll_ev he
    obtain⟨F1,f1⟩:=frzS_sound P hl h1 hps
    split at he
    ·rename_i hp2 ps2 h2
     obtain⟨hps2,he⟩:=needAll_ev he
     obtain⟨F2,f2⟩:=frzS_sound P f1.lh h2 hps2
     have f:=f1.trans f2
     exact f.out (absOp_sound f.lh hid (fun x s h=>f.rep (hρ x s h)) he)
    ·exact f1.out (absOp_sound f1.lh hid (fun x s h=>f1.rep (hρ x s h)) he)
   ·split at he
    ·rename_i hp2 ps2 h2
     obtain⟨hps2,he⟩:=needAll_ev he
     obtain⟨F2,f2⟩:=frzS_sound P hl h2 hps2
     exact f2.out (absOp_sound f2.lh hid (fun x s h=>f2.rep (hρ x s h)) he)
    ·exact absOp_sound hl hid hρ he
  ·exact absOp_sound hl hid hρ he
 ·rename_i t a x hop
  split at he
  ·rename_i p sx hp1 hp2
   split at he
   ·rename_i s' ps ls hv
    obtain⟨hps,hst⟩:=needAll_ev he
    clear he
    unfold frzV at hv
    split at hv
    ·split at hv
     ·split at hv
      ·cases hv
      ·split at hv
       ·rename_i s2 ps2 ls2 hview
        split at hv
        ·cases hv
        ·simp only[Option.some.injEq,Prod.mk.injEq] at hv
         obtain⟨rfl,rfl,rfl⟩:=hv
         have f:=frz_drop hl ls2
         have hx:Rep w μ (FrzF F hp μ ls2) (σ x) s2:=(view_sound (P:=P) (G:=FrzF F hp μ ls2) hl (hρ x _ hp2) hview hps (fun b hb=>.inl hb) (fun b hb=>.inr hb)).mono (Ext.refl _ _) (fun _ h=>h) (fun l q h=>by simp[emp] at h)
         refine f.out ?_
         have hq:quietOp o.op=false:=by rw[hop];rfl
         obtain⟨h',e1,e2⟩:=Tr.ev_bind hst
         simp only[Tr.ev,Prod.mk.injEq] at e2
         obtain⟨rfl,rfl⟩:=e2
         obtain⟨w',e3,e4⟩:=absStore_sound f.lh (f.rep (hρ a _ hp1)) hx e1
         unfold execOp
         rw[hop]
         exact⟨w',.inr ⟨by simp only[Sem.run_bind,e3,Result.andThen,Sem.run_pure],μ,_,e4,.d (.x _),fun _ _ h=>h,fun _ _=>rfl⟩⟩
       ·cases hv
     ·cases hv
    ·cases hv
   ·exact absOp_sound hl hid hρ he
  ·exact he.elim
 ·exact absOp_sound hl hid hρ he
end
noncomputable section
variable [Globs]
def FW(r:Option Nat):Fence:={ Fence.wide with round:=r }
theorem callsW{P:Program}{k:FuncId}{vs:Array Value}{w:World}{R:Ending->World->Prop}(r:Option Nat)(n:Nat)(h:Calls P k vs w R):CallsIn (FW r) n P k vs w R:=by
 have h2:CallsIn Fence.wide n P k vs w R:=callsIn_wide.2 h
 exact h2
theorem semAt_eq{r:Option Nat}{ρ:Operand->Value}{o:Oper}(h:∀c,o.op≠.defer c):o.semAt r ρ=execOp ρ o:=by
 cases r with
 |none=>exact Oper.semAt_none ρ o
 |some l=>exact Oper.semAt_some l ρ o h
def noRange:Code->Bool
 |.rangeFunc _ _ _ _=>false
 |.seq a b=>noRange a&&noRange b
 |.cond _ a b=>noRange a&&noRange b
 |.block _ a=>noRange a
 |.loop a=>noRange a
 |.scope a=>noRange a
 |_=>true
def rOK(r:Option Nat)(c:Code):Prop:=r=none\/noRange c=true
def WP(P:Program)(c:Code)(Q:Exit->Act->World->Prop)(a:Act)(w:World):Prop:=∀r,rOK r c->c.wpIn (FW r) 0 P Q a w
section
variable {P : Program} {Q Q' : Exit → Act → World → Prop} {a : Act} {w : World}
theorem WP.mono{c:Code}(hq:∀e a w,Q e a w->Q' e a w)(h:WP P c Q a w):WP P c Q' a w:=fun r hr=>Go.wpIn_mono (h r hr) hq
theorem WP.wp{c:Code}(h:WP P c Q a w):c.wpIn Fence.wide 0 P Q a w:=h none (.inl rfl)
theorem WP_skip(h:Q .normal a w):WP P .skip Q a w:=fun r _=>wpIn_skip h
theorem WP_label{l:Nat}(h:Q .normal a w):WP P (.label l) Q a w:=fun r _=>wpIn_label h
theorem WP_exit{id:Nat}(h:Q (.exit id) a w):WP P (.exit id) Q a w:=fun r _=>wpIn_exit h
theorem WP_ret(h:Q .ret a w):WP P .ret Q a w:=fun r _=>wpIn_ret h
theorem WP_seq{x y:Code}(h:WP P x (Exit.then (fun a w=>WP P y Q a w) Q) a w):WP P (.seq x y) Q a w:=fun r hr=>by
 have h1:rOK r x:=hr.imp id fun h=>by simp only[noRange,Bool.and_eq_true] at h;exact h.1
 have h2:rOK r y:=hr.imp id fun h=>by simp only[noRange,Bool.and_eq_true] at h;exact h.2
 refine wpIn_seq (Go.wpIn_mono (h r h1) fun e a w hq=>?_)
 cases e<;>first|exact hq r h2|exact hq
theorem WP_cond_true{c:Operand}{x y:Code}(hc:a.eval c=.bool true)(h:WP P x Q a w):WP P (.cond c x y) Q a w:=fun r hr =>
 wpIn_cond_true hc (h r (hr.imp id fun h=>by simp only[noRange,Bool.and_eq_true] at h;exact h.1))
theorem WP_cond_false{c:Operand}{x y:Code}(hc:a.eval c=.bool false)(h:WP P y Q a w):WP P (.cond c x y) Q a w:=fun r hr =>
 wpIn_cond_false hc (h r (hr.imp id fun h=>by simp only[noRange,Bool.and_eq_true] at h;exact h.2))
theorem WP_block{id:Nat}{x:Code}(h:WP P x (Exit.inBlock id Q) a w):WP P (.block id x) Q a w:=fun r hr=>wpIn_block (h r hr)
theorem stepR_scope{P:Program}{b:Frame}{a:Act}{k:List Item}{cs:List Frame}{w:World}{c:Code}:step P (lone (b.atR a (.code (.scope c)::k)) cs w)=.next (lone (b.atR a (.code c::.inScope c::k)) cs w) :=
 step_lone_go (by simp[stepG,stepG.exec,Frame.atR])
theorem stepR_inScope{P:Program}{b:Frame}{a:Act}{k:List Item}{cs:List Frame}{w:World}{c:Code}:step P (lone (b.atR a (.inScope c::k)) cs w)=.next (lone (b.atR a k) cs w) :=
 step_lone_go (by simp[stepG,stepG.exec,Frame.atR])
def noGoto(Q:Exit->Act->World->Prop):Exit->Act->World->Prop
 |.goto _,_,_=>False
 |e,a,w=>Q e a w
theorem wpIn_scope{F:Fence}{n:Nat}{c:Code}(h:c.wpIn F n P (noGoto Q) a w):(Code.scope c).wpIn F n P Q a w:=by
 intro b k cs hro hb hr
 have h0:(lone (b.atR a (.code (.scope c)::k)) cs w).fenced P F:=fenced_calm hb hr rfl
 obtain⟨e,a₁,w₁,hq,harr⟩:=h b (.inScope c::k) cs hro hb hr
 cases e with
 |normal=>exact⟨.normal,a₁,w₁,hq,.head h0 stepR_scope (StepsIn.trans harr (.one (fenced_calm hb hr rfl) stepR_inScope))⟩
 |exit id' =>
  have hx:exitTo id' (.inScope c::k)=exitTo id' k:=by simp[exitTo]
  exact⟨.exit id',a₁,w₁,hq,fun k' hk=>.head h0 stepR_scope (harr.1 k' (by rw[hx];exact hk)),
   fun hr' hk=>let ⟨k₁,h1,h2⟩:=harr.2 hr' (by rw[hx];exact hk);⟨k₁,h1,.head h0 stepR_scope h2⟩⟩
 |goto l=>exact hq.elim
 |ret=>exact⟨_,a₁,w₁,hq,.of_steps (.one h0 stepR_scope) harr⟩
 |panic ch=>exact⟨_,a₁,w₁,hq,.of_steps (.one h0 stepR_scope) harr⟩
 |outgrown=>exact⟨_,a₁,w₁,hq,.of_steps (.one h0 stepR_scope) harr⟩
theorem WP_scope{x:Code}(h:WP P x (noGoto Q) a w):WP P (.scope x) Q a w:=fun r hr=>wpIn_scope (h r (hr.imp id fun h=>h))
theorem exitTo_len{id:Nat}:∀{k k':List Item},exitTo id k=some k'->k'.length<=k.length
 |[],k',h=>by simp[exitTo] at h
 |x::k,k',h=>by
  unfold exitTo at h
  split at h
  ·rename_i heq
   cases heq
   split at h
   ·cases h;simp
   ·have:=exitTo_len h;simp;omega
  ·rename_i heq
   cases heq
   have:=exitTo_len h;simp;omega
  ·cases h
theorem stepsInW_tail{r:Option Nat}{m m1 m':Machine}(h1:step P m=.next m1)(hne:m≠m')(h:StepsIn (Machine.fenced P (FW r)) P m m'):StepsIn (Machine.fenced P (FW r)) P m1 m':=by
 have h:Steps P m m':=h.steps
 have:Steps P m1 m':=by
  obtain⟨n,hn⟩:=h
  cases n with
  |zero=>simp only[runN,Stepped.next.injEq] at hn;exact(hne hn).elim
  |succ n=>exact⟨n,by simpa [runN,h1] using hn⟩
 have h2:StepsIn (Machine.fenced P Fence.wide) P m1 m':=stepsIn_wide.2 this
 exact h2
theorem oneW{r:Option Nat}{m m1:Machine}(h1:step P m=.next m1):StepsIn (Machine.fenced P (FW r)) P m m1:=by
 have h2:StepsIn (Machine.fenced P Fence.wide) P m m1:=stepsIn_wide.2 (.one h1)
 exact h2
theorem wpIn_loop_unroll{r:Option Nat}{c:Code}(hgo:∀l a w,¬Q (.goto l) a w)(hout:∀a w,¬Q .outgrown a w)(h:c.wpIn (FW r) 0 P (Exit.then (fun a w=>(Code.loop c).wpIn (FW r) 0 P Q a w) Q) a w):(Code.loop c).wpIn (FW r) 0 P Q a w:=by
 intro b k cs hro hb hroom
 obtain⟨e,a₁,w₁,hq,harr⟩:=h b (.inLoop c::k) cs hro hb hroom
 cases e with
 |normal =>
  obtain⟨e₂,a₂,w₂,hq₂,harr₂⟩:=hq b k cs hro hb hroom
  refine⟨e₂,a₂,w₂,hq₂,.of_steps (oneW stepR_loop) (.of_steps harr ?_)⟩
  have hs1:step P (lone (b.atR a₁ (.inLoop c::k)) cs w₁)=.next (lone (b.atR a₁ (.code c::.inLoop c::k)) cs w₁):=stepR_inLoop
  have hs2:step P (lone (b.atR a₁ (.code (.loop c)::k)) cs w₁)=.next (lone (b.atR a₁ (.code c::.inLoop c::k)) cs w₁):=stepR_loop
  have hne:∀a' k' w',k'.length<=k.length->lone (b.atR a₁ (.code (.loop c)::k)) cs w₁≠lone (b.atR a' k') cs w':=by
   intro a' k' w' hk he
   have:=congrArg (fun m=>(m.gs[0]?).map fun g=>g.frame.todo.length) he
   simp[lone,Frame.atR] at this
   omega
  have hnc:∀a' x k1 w',(∀c,x≠.loop c)->lone (b.atR a₁ (.code (.loop c)::k)) cs w₁≠lone (b.atR a' (.code x::k1)) cs w':=by
   intro a' x k1 w' hx he
   have:=congrArg (fun m=>(m.gs[0]?).map fun g=>g.frame.todo) he
   simp[lone,Frame.atR] at this
   exact hx c this.1.symm
  have hd:∀m',StepsIn (Machine.fenced P (FW r)) P (lone (b.atR a₁ (.code c::.inLoop c::k)) cs w₁) m'->StepsIn (Machine.fenced P (FW r)) P (lone (b.atR a₁ (.inLoop c::k)) cs w₁) m':=fun m' h=>(oneW hs1).trans h
  cases e₂ with
  |normal=>exact hd _ (stepsInW_tail hs2 (hne _ _ _ (Nat.le_refl _)) harr₂)
  |exit id=>exact⟨fun k' hk'=>hd _ (stepsInW_tail hs2 (hne _ _ _ (exitTo_len hk')) (harr₂.1 k' hk')),fun hr hk'=>by
    obtain⟨k1,h1,h2⟩:=harr₂.2 hr hk'
    exact⟨k1,h1,hd _ (stepsInW_tail hs2 (hnc _ _ _ _ fun c h=>by cases h) h2)⟩⟩
  |goto l=>exact(hgo _ _ _ hq₂).elim
  |ret =>
   refine⟨fun hr=>?_,fun hr=>?_⟩
   ·obtain⟨todo,hst⟩:=harr₂.1 hr
    refine⟨todo,hd _ (stepsInW_tail hs2 ?_ hst)⟩
    intro he
    have:=congrArg (fun m=>(m.gs[0]?).map fun g=>(match g.frame.mode with|.run=>true|_=>false)) he
    simp[lone,Frame.atR] at this
   ·obtain⟨k1,h2⟩:=harr₂.2 hr
    exact⟨k1,hd _ (stepsInW_tail hs2 (hnc _ _ _ _ fun c h=>by cases h) h2)⟩
  |panic ch =>
   obtain⟨todo,hst⟩:=harr₂
   refine⟨todo,hd _ (stepsInW_tail hs2 ?_ hst)⟩
   intro he
   have:=congrArg (fun m=>(m.gs[0]?).map fun g=>(match g.frame.mode with|.run=>true|_=>false)) he
   simp[lone,Frame.atR] at this
  |outgrown=>exact(hout _ _ hq₂).elim
 |exit id=>exact⟨_,a₁,w₁,hq,.of_steps (oneW stepR_loop) (.pass (x:=.inLoop c) rfl (fun _ _=>.inl (by simp)) harr)⟩
 |goto l=>exact⟨_,a₁,w₁,hq,.of_steps (oneW stepR_loop) (.pass (x:=.inLoop c) rfl (fun _ _=>.inl (by simp)) harr)⟩
 |ret=>exact⟨_,a₁,w₁,hq,.of_steps (oneW stepR_loop) (.pass (x:=.inLoop c) rfl (fun _ _=>.inl (by simp)) harr)⟩
 |panic ch=>exact⟨_,a₁,w₁,hq,.of_steps (oneW stepR_loop) (.pass (x:=.inLoop c) rfl (fun _ _=>.inl (by simp)) harr)⟩
 |outgrown=>exact⟨_,a₁,w₁,hq,.of_steps (b:=b) (k:=k) (cs:=cs) (e:=.outgrown) (oneW stepR_loop) (.pass (x:=.inLoop c) rfl (fun _ _=>.inl (by simp)) harr)⟩
theorem WP_loop_unroll{c:Code}(hgo:∀l a w,¬Q (.goto l) a w)(hout:∀a w,¬Q .outgrown a w)(h:WP P c (Exit.then (fun a w=>WP P (.loop c) Q a w) Q) a w):WP P (.loop c) Q a w:=fun r hr =>
 wpIn_loop_unroll hgo hout (Go.wpIn_mono (h r hr) fun e a w hq=>by cases e<;>first|exact hq r hr|exact hq)
end
def isIter:Obj->Bool
 |.stringIter _ _=>true
 |.map _ _=>true
 |_=>false
structure Turn(D:Nat)(w w':World):Prop where
 os:w'.os=w.os
 tape:w'.tape=w.tape
 output:w'.output=w.output
 size:w.heap.size<=w'.heap.size
 other:∀b,b≠D->b<w.heap.size->w'.heap[b]?=w.heap[b]?
 nc:∀c e fr,w.heap[D]?≠some (.cells c e fr)
 ni:∀o,w.heap[D]?=some o->isIter o=false
variable {w w' : World} {D : Nat}
theorem Turn.cells(h:Turn D w w'){b:Nat}{c:Array Value}{e:TypeId}{fr:Nat×Nat}(hb:w.heap[b]?=some (.cells c e fr)):w'.heap[b]?=some (.cells c e fr):=by
 by_cases hD:b=D
 ·subst hD;exact(h.nc c e fr hb).elim
 ·rw[h.other b hD (Array.getElem?_eq_some_iff.1 hb).1];exact hb
theorem Turn.iter(h:Turn D w w'){b:Nat}{o:Obj}(hb:w.heap[b]?=some o)(ho:isIter o=true):w'.heap[b]?=some o:=by
 by_cases hD:b=D
 ·subst hD;rw[h.ni _ hb] at ho;cases ho
 ·rw[h.other b hD (Array.getElem?_eq_some_iff.1 hb).1];exact hb
theorem Turn.cell(h:Turn D w w'){a:Addr}{v:Value}(hb:w.cell? a=some v):w'.cell? a=some v:=by
 unfold World.cell? at hb ⊢
 split at hb
 ·rename_i c e fr heq
  rw[h.cells heq];exact hb
 ·cases hb
theorem Turn.bsz(h:Turn D w w')(b:Nat):bsz w b<=bsz w' b:=by
 unfold Sx.bsz
 split
 ·rename_i c e fr heq
  rw[h.cells heq];exact Nat.le_refl _
 ·exact Nat.zero_le _
theorem RepD.turn{F:Nat->Prop}{v:Value}{s:DV}(ht:Turn D w w')(h:RepD w F v s):RepD w' F v s:=by
 induction h with
 |x v=>exact .x v
 |nil esz cell=>exact .nil esz cell
 |z a cap esz cell=>exact .z a cap esz cell
 |rf v len esz cell _ hc ih=>exact .rf v len esz cell ih hc
 |ro b o len cap esz cell f hb hc hcell hone _ ih=>exact .ro b o len cap esz cell f hb hc (fun i j hi hj=>ht.cell (hcell i j hi hj)) hone ih
theorem Rep.turn{μ:Mu}{F:Nat->Prop}{v:Value}{s:SV}(ht:Turn D w w')(h:Rep w μ F v s):Rep w' μ F v s:=by
 induction h with
 |d h=>exact .d (h.turn ht)
 |ptr l off b o h=>exact .ptr l off b o h
 |pix l base n esz i j b o h=>exact .pix l base n esz i j b o h
 |rnil l base off esz h=>exact .rnil l base off esz h
 |rz l base off esz b o q h=>exact .rz l base off esz b o q h
 |row l base off len esz b o cap h hc hz=>exact .row l base off len esz b o cap h hc (Nat.le_trans hz (ht.bsz b))
 |rop b o n cell f hb hcell hone hrep=>exact .rop b o n cell f hb (fun j hj=>ht.cell (hcell j hj)) hone (fun j hj=>(hrep j hj).turn ht)
 |agg cs ss hl _ ih=>exact .agg cs ss hl ih
 |fn f fs cs ss ts h1 h2 _ _ ih1 ih2=>exact .fn f fs cs ss ts h1 h2 ih1 ih2
 |tup cs ss hl _ ih=>exact .tup cs ss hl ih
 |ifc t v s _ ih=>exact .ifc t v s ih
 |mp l b h=>exact .mp l b h
theorem BlkAt.turn{μ:Mu}{F:Nat->Prop}{q:Plc}{blk:Blk}(ht:Turn D w w')(h:BlkAt w μ F q blk):BlkAt w' μ F q blk:=by
 cases q with
 |nil=>cases blk<;>exact h
 |pl b o =>
  cases blk with
  |cells cs =>
   obtain⟨c,e,hg,hs,hc,h1⟩:=h
   exact⟨c,e,ht.cells hg,hs,fun i hi=>(hc i hi).turn ht,h1⟩
  |row n esz cell =>
   obtain⟨c,e,hg,hs,hc,h1⟩:=h
   exact⟨c,e,ht.cells hg,hs,fun i j hi hj=>(hc i j hi hj).turn ht,h1⟩
  |iter s q=>exact⟨h.1,ht.iter h.2 rfl⟩
  |map kk n has val =>
   obtain⟨h0,es,clk,hg,hm⟩:=h
   exact⟨h0,es,clk,ht.iter hg rfl,hm.mono fun v d hr=>hr.turn ht⟩
theorem HS.turn{p:Par}{μ:Mu}{F:Nat->Prop}{hp:Heap}(ht:Turn D w w')(hD:p.w0.heap.size<=D\/p.T D)(h:HS p μ F hp w):HS p μ F hp w':=by
 refine⟨⟨ht.os.trans h.ext.os,ht.tape.trans h.ext.tape,ht.output.trans h.ext.output,Nat.le_trans h.ext.size ht.size,fun b hb=>?_,fun b=>Nat.le_trans (h.ext.bsz b) (ht.bsz b)⟩,h.sub,fun b hb=>⟨?_,(h.fin b hb).2⟩,fun l blk hg=>?_,h.inj⟩
 ·rw[ht.other b (fun e=>by subst e;rcases hD with h1|h1;exact absurd hb.1 (by omega);exact hb.2 h1) (by have:=hb.1;have:=h.ext.size;omega)];exact h.ext.keep b hb
 ·have:=(h.fin b hb).1;have:=ht.size;omega
 ·obtain⟨q,h1,h2,h3⟩:=h.blk l blk hg
  exact⟨q,h1,h2,h3.turn ht⟩
theorem RepT.turn{μ:Mu}{F:Nat->Prop}{tmps:Array Value}{v:Value}{tv:TV}(ht:Turn D w w')(h:RepT w μ F tmps v tv):RepT w' μ F tmps v tv:=by
 cases tv with
 |unk=>trivial
 |lit b=>exact h
 |ok s=>exact Rep.turn ht h
 |cnd p s=>exact fun hp=>Rep.turn ht (h hp)
 |tag t want s=>exact⟨fun hb=>Rep.turn ht (h.1 hb),h.2⟩
theorem TmOK.turn{μ:Mu}{F:Nat->Prop}{tm:List TV}{tmps:Array Value}(ht:Turn D w w')(h:TmOK w μ F tm tmps):TmOK w' μ F tm tmps:=fun t=>(h t).turn ht
def markOf(D:Nat):Deferred:={ target:=.collected D,args:=#[] }
def Marks(p:Par)(F:Nat->Prop)(w:World)(ds:List Deferred):Prop :=
 GlobOK w F/\∃Ds:List Nat,ds=Ds.map markOf/\Ds.Nodup/\∀D∈Ds,(p.w0.heap.size<=D\/p.T D)/\w.heap[D]?=some (.deferred (some []))/\¬F D
theorem Marks.nil(p:Par)(F:Nat->Prop)(w:World)(h:GlobOK w F):Marks p F w []:=⟨h,[],rfl,List.nodup_nil,fun D h=>by cases h⟩
theorem tk_cells{μ:Mu}{F:Nat->Prop}{hp:Heap}(h:LH w μ F hp){b:Nat}(hb:Tk hp μ b):(∃c e fr,w.heap[b]?=some (.cells c e fr))\/∃o,w.heap[b]?=some o/\isIter o=true:=by
 obtain⟨l,blk,o,hg,hm⟩:=hb
 obtain⟨hat,_⟩:=h.blkAt hg hm
 cases blk with
 |cells cs=>obtain⟨c,e,hh,_⟩:=hat;exact .inl ⟨c,e,_,hh⟩
 |row n esz cell=>obtain⟨c,e,hh,_⟩:=hat;exact .inl ⟨c,e,_,hh⟩
 |iter s q=>exact .inr ⟨_,hat.2,rfl⟩
 |map kk n has val=>obtain⟨_,es,clk,hg,_⟩:=hat;exact .inr ⟨_,hg,rfl⟩
theorem mark_step{p:Par}{μ μ':Mu}{F F':Nat->Prop}{hp hp':Heap}{D:Nat}{o:Obj}(hl:LH w μ F hp)(hs:HS ⟨w,Tk hp μ,F⟩ μ' F' hp' w')(h:w.heap[D]?=some o)(ho:o.isCells=false)(hoi:isIter o=false)(hF:¬F D):w'.heap[D]?=some o/\¬F' D:=by
 have hlt:D<w.heap.size:=(Array.getElem?_eq_some_iff.1 h).1
 have hnt:¬Tk hp μ D:=fun ht=>by
  rcases tk_cells hl ht with⟨c,e,fr,hc⟩|⟨o',hc,hi⟩
  ·rw[hc] at h;cases h;simp[Obj.isCells] at ho
  ·rw[hc] at h;cases h;rw[hoi] at hi;cases hi
 refine⟨(hs.ext.keep D ⟨hlt,hnt⟩).trans h,fun hf=>?_⟩
 rcases (hs.fin D hf).2 with h1|h1|h1
 ·exact hF h1
 ·exact hnt h1
 ·simp only at h1;omega
theorem Marks.step{p:Par}{μ μ':Mu}{F F':Nat->Prop}{hp hp':Heap}{ds:List Deferred}(h:Marks p F w ds)(hl:LH w μ F hp)(hs:HS ⟨w,Tk hp μ,F⟩ μ' F' hp' w'):Marks p F' w' ds:=by
 obtain⟨h0,Ds,h1,h2,h3⟩:=h
 refine⟨h0.mono (hs.ext.mono fun b hb=>⟨(hl.fin b hb).1,fun⟨l,blk,o,hg,hm⟩=>(hl.blkAt hg hm).2 hb⟩) hs.sub,Ds,h1,h2,fun D hD=>?_⟩
 obtain⟨h4,h5,h6⟩:=h3 D hD
 exact⟨h4,mark_step (p:=p) hl hs h5 rfl rfl h6⟩
theorem turn_shut{D:Nat}(h:w.heap[D]?=some (.deferred (some []))):Turn D w (w.putObj D (.deferred none)):=by
 refine⟨rfl,rfl,rfl,by simp,fun b hb _=>World.putObj_heap_other hb,fun c e fr hc=>?_,fun o hc=>?_⟩
 ·rw[hc] at h;cases h
 ·rw[hc] at h;cases h;rfl
theorem leaves_marks{P:Program}{fn:Func}{tmps:Array Value}{R:Ending->World->Prop}{p:Par}{μ:Mu}{F:Nat->Prop}{hp:Heap}{tm:List TV}(hR:∀w2,HS p μ F hp w2->TmOK w2 μ F tm tmps->∃v,(results fn tmps).run P w2=.ok v w2/\R (.returned v) w2) :
  ∀(Ds:List Nat) (w:World),Ds.Nodup->(∀D∈Ds,(p.w0.heap.size<=D\/p.T D)/\w.heap[D]?=some (.deferred (some []))/\¬F D)->HS p μ F hp w->TmOK w μ F tm tmps->LeavesInM Fence.wide 0 P fn tmps R (Ds.map markOf) .returning w
 |[],w,_,_,h,ht=>hR w h ht
 |D::Ds,w,hn,hD,h,ht=>by
  have h1:=hD D (List.mem_cons_self ..)
  have htn:=turn_shut h1.2.1
  simp only[List.nodup_cons] at hn
  refine⟨by simp,.inl ⟨D,_,rfl,run_takeDeferred h1.2.1,leaves_marks hR Ds _ hn.2 (fun E hE=>?_) (h.turn htn h1.1) (ht.turn htn)⟩⟩
  have h2:=hD E (List.mem_cons_of_mem _ hE)
  refine⟨h2.1,?_⟩
  have hne:E≠D:=fun e=>hn.1 (e▸hE)
  rw[World.putObj_heap_other hne]
  exact h2.2
end
noncomputable section
variable [Globs]
def Fresh(n:Nat)(μ:Mu):Prop:=∀l,n<=l->μ l=none
def CallsTo(P:Program)(k:FuncId)(hp:Heap)(nx:Nat)(args:List SV)(R:SV->Heap->Nat->Prop):Prop :=
 ∀(μ:Mu) (F:Nat->Prop) (w:World) (vs:Array Value),LH w μ F hp->GlobOK w F->Fresh nx μ->Reps w μ F vs args ->
  Calls P k vs w fun e w'=>∃v s hp' nx' μ' F',e=.returned v/\R s hp' nx'/\HS ⟨w,Tk hp μ,F⟩ μ' F' hp' w'/\Rep w' μ' F' v s/\(∀l q,μ l=some q->μ' l=some q)/\Fresh nx' μ'
abbrev MCtr:=List SV->Heap->Nat->Tr (SV×Heap×Nat)
def MuOK(P:Program)(k:FuncId)(m:MCtr):Prop:=∀args hp nx r,(m args hp nx).ev r->CallsTo P k hp nx args fun s hp' nx'=>(s,hp',nx')=r
structure Ctx where
 ctr:FuncId->Option Ctr
 inl:FuncId->Bool
 own:FuncId->Option Octr
 mu:FuncId->Option MCtr
def goodF(P:Program)(k:FuncId):Bool:=match P.funcs[k]? with|some fn=>fn.name != "runtime.NumGoroutine"&&fn.body.isSome|none=>false
structure CtxOK(P:Program)(C:Ctx):Prop where
 ctr:∀k c,C.ctr k=some c->CtrOK P k c/\goodF P k=true
 inl:∀k,C.inl k=true->goodF P k=true
 own:∀k oc,C.own k=some oc->OwnOK P k oc/\goodF P k=true
 mu:∀k m,C.mu k=some m->MuOK P k m
def ownK(C:Ctx):Op->Option Octr
 |.call c=>(match c.callee with
  |.value (.func k)=>C.own k
  |_=>none)
 |_=>none
def muK(C:Ctx):Op->Option MCtr
 |.call c=>(match c.callee with
  |.value (.func k)=>(match C.ctr k with
   |some _=>none
   |none=>C.mu k)
  |_=>none)
 |_=>none
def quietC(C:Ctx)(op:Op):Bool:=match quietOp op with
 |true=>(match ownK C op with|some _=>false|none=>(match muK C op with|some _=>false|none=>true))
 |false=>false
theorem quietC_op{C:Ctx}{op:Op}(h:quietC C op=true):quietOp op=true/\ownK C op=none/\muK C op=none:=by
 unfold quietC at h
 split at h
 ·rename_i h1
  split at h
  ·cases h
  ·rename_i h2
   split at h
   ·cases h
   ·rename_i h3;exact⟨h1,h2,h3⟩
 ·cases h
def NewIdC(C:Ctx)(id:Nat)(o:Oper)(l:Nat):Prop:=l=id/\quietC C o.op=false
theorem NewId.c{C:Ctx}{id l:Nat}{o:Oper}(h:NewId id o l):NewIdC C id o l:=⟨h.1,by unfold quietC;rw[h.2]⟩
theorem Out.c{C:Ctx}{w:World}{μ:Mu}{F:Nat->Prop}{hp hp':Heap}{id:Nat}{o:Oper}{v:Value}{s:SV}{w':World}(h:Out w μ F hp (NewId id o) hp' v s w'):Out w μ F hp (NewIdC C id o) hp' v s w':=by
 obtain⟨μ',F',h1,h2,h3,h4⟩:=h
 exact⟨μ',F',h1,h2,h3,fun l hl=>h4 l fun e=>hl e.c⟩
def callee(rho:Operand->Option SV)(c:Call):Option (FuncId×List SV) :=
 match c.callee with
 |.value f=>match rho f,evalAll rho c.args.toList with
  |some (.fn (.func k) fs cs),some as=>some (k,fs++as++cs)
  |_,_=>none
 |_=>none
theorem getD_append_sv(xs ys:List SV)(i:Nat):(xs++ys).getD i uv=if i<xs.length then xs.getD i uv else ys.getD (i-xs.length) uv:=by
 simp only[List.getD,List.getElem?_append];split<;>rfl
theorem getD_append_v(xs ys:Array Value)(i:Nat):(xs++ys).getD i undef=if i<xs.size then xs.getD i undef else ys.getD (i-xs.size) undef:=by
 simp only[Array.getD_eq_getD_getElem?,Array.getElem?_append];split<;>rfl
theorem Reps.append{w:World}{μ:Mu}{F:Nat->Prop}{xs ys:Array Value}{as bs:List SV}(h1:Reps w μ F xs as)(h2:Reps w μ F ys bs):Reps w μ F (xs++ys) (as++bs):=by
 refine⟨by simp[h1.1,h2.1],fun i hi=>?_⟩
 rw[getD_append_sv,getD_append_v,h1.1]
 split
 ·rename_i h;exact h1.2 i h
 ·rename_i h;exact h2.2 _ (by simp at hi;omega)
theorem callee_run{P:Program}{w:World}{μ:Mu}{F:Nat->Prop}{ρ:Operand->Option SV}{σ:Operand->Value}{o:Oper}{c:Call}{k:FuncId}{args:List SV}(hρ:∀x s,ρ x=some s->Rep w μ F (σ x) s)(ho:o.op=.call c)
  (hg:goodF P k=true) (he:callee ρ c=some (k,args)):∃vs,(execOp σ o).run P w=.ok (.enter k vs) w/\Reps w μ F vs args:=by
 unfold callee at he
 split at he
 ·rename_i f hcal
  split at he
  ·rename_i k' fs cs as hf has
   simp only[Option.some.injEq,Prod.mk.injEq] at he
   obtain⟨rfl,rfl⟩:=he
   have hfr:=hρ f _ hf
   obtain⟨h1,h2⟩:=evalAll_spec hρ has
   have harg:Reps w μ F (c.args.map σ) as:=by
    refine⟨by simpa using h1,fun i hi=>?_⟩
    have:=h2 i hi
    simpa [Array.getD_eq_getD_getElem?,List.getD] using this
   generalize hv:σ f=v at hfr
   cases hfr with
   |fn _ vf vc _ _ e1 e2 e3 e4 =>
    refine⟨vf++c.args.map σ++vc,?_,Reps.append (Reps.append ⟨e1,e3⟩ harg) ⟨e2,e4⟩⟩
    unfold execOp
    rw[ho]
    simp only[]
    have hr:(resolve σ c o.type).run P w=.ok { target:=.fn (.func k') vc,args:=vf++c.args.map σ } w:=by
     unfold resolve;rw[hcal];simp only[hv,Deferred.ofValue,Sem.run_pure]
    rw[run_andThen_ok hr]
    unfold goodF at hg
    split at hg
    ·rename_i fn hfn
     simp only[Bool.and_eq_true,bne_iff_ne,ne_eq] at hg
     simp only[invoke,callFunc,Sem.run_bind,run_program,Result.andThen,hfn]
     rw[if_neg (by simpa using hg.1)]
     have:fn.body.isNone=false:=by cases hb:fn.body<;>simp[hb] at hg ⊢
     simp only[this,Bool.false_eq_true,if_false,Sem.run_pure]
    ·cases hg
  ·cases he
 ·cases he
def u64v(n:Int):SV:=.d (.x (.int .u64 n))
def isExt(P:Program)(k:FuncId)(n:String):Bool:=match P.funcs[k]? with
 |some fn=>fn.body.isNone&&fn.name==n&&fn.origin==""
 |none=>false
def absExt(P:Program)(k:FuncId)(args:List SV):Tr SV:=match args with
 |[.d (.x (.int .u64 x)),.d (.x (.int .u64 y)),.d (.x (.int .u64 c))] =>
  if isExt P k "math/bits.Add64"=true then .nd (0<=x/\0<=y/\0<=c/\c<=1) (.ret (.tup [u64v ((x+y+c)%18446744073709551616),u64v ((x+y+c) / 18446744073709551616)]))
  else if isExt P k "math/bits.Sub64"=true then .nd (0<=x/\0<=y/\y<18446744073709551616/\0<=c/\c<=1) (.ret (.tup [u64v ((x+18446744073709551616-y-c)%18446744073709551616),u64v (if x<y+c then 1 else 0)]))
  else .fail
 |_=>.fail
theorem isExt_spec{P:Program}{k:FuncId}{n:String}(h:isExt P k n=true):∃fn,P.funcs[k]?=some fn/\fn.body.isNone=true/\fn.name=n/\fn.origin="":=by
 unfold isExt at h
 split at h
 ·rename_i fn hf
  simp only[Bool.and_eq_true,beq_iff_eq] at h
  exact⟨fn,hf,h.1.1,h.1.2,h.2⟩
 ·cases h
def sub64Entry:Array Value->Sem Value:=fun args=>do
 let (x,y,b) <- Extern.MathBitsCarry.three "Sub64" args
 pure (Extern.MathBitsCarry.pair ((x+Extern.MathBitsCarry.m64-y-b)%Extern.MathBitsCarry.m64) (if x<y+b then 1 else 0))
theorem run_sub64{P:Program}(x y b:Nat)(hb:b<=1)(w:World) :
  (sub64Entry #[.int .u64 x,.int .u64 y,.int .u64 b]).run P w =
   .ok (.tuple #[.int .u64 (((x+18446744073709551616-y-b)%18446744073709551616:Nat):Int),.int .u64 ((if x<y+b then 1 else 0:Nat):Int)]) w:=by
 have:b=0\/b=1:=by omega
 rcases this with rfl|rfl<;>rfl
theorem find_add(fn:Func)(h:fn.name="math/bits.Add64"):Extern.find fn=some add64Entry:=by
 obtain⟨⟩:=fn;simp only at h;subst h;kernel_rfl
theorem find_sub(fn:Func)(h:fn.name="math/bits.Sub64"):Extern.find fn=some sub64Entry:=by
 obtain⟨⟩:=fn;simp only at h;subst h;kernel_rfl
theorem findNext_add(fn:Func)(h:fn.name="math/bits.Add64")(h2:fn.origin=""):Extern.findNext fn=none:=by
 obtain⟨⟩:=fn;simp only at h h2;subst h;subst h2;kernel_rfl
theorem findNext_sub(fn:Func)(h:fn.name="math/bits.Sub64")(h2:fn.origin=""):Extern.findNext fn=none:=by
 obtain⟨⟩:=fn;simp only at h h2;subst h;subst h2;kernel_rfl
theorem rep_tup2{w:World}{μ:Mu}{F:Nat->Prop}(a b:Int):Rep w μ F (.tuple #[.int .u64 a,.int .u64 b]) (.tup [u64v a,u64v b]):=by
 refine .tup _ _ rfl fun i hi=>?_
 match i,hi with
 |0,_=>exact .d (.x _)
 |1,_=>exact .d (.x _)
theorem absExt_sound{P:Program}{w:World}{μ:Mu}{F:Nat->Prop}{k:FuncId}{vs:Array Value}{args:List SV}{r:SV}(hr:Reps w μ F vs args)(he:(absExt P k args).ev r):∃v,(callFunc k vs).run P w=.ok (.value v) w/\Rep w μ F v r:=by
 unfold absExt at he
 split at he
 ·rename_i x y c
  have hvs:vs=#[.int .u64 x,.int .u64 y,.int .u64 c]:=by
   have h0:=rep_x (hr.2 0 (by simp))
   have h1:=rep_x (hr.2 1 (by simp))
   have h2:=rep_x (hr.2 2 (by simp))
   have hs:vs.size=3:=hr.1
   apply Array.ext
   ·simpa using hs
   ·intro i hi _
    have hi3:i<3:=by omega
    match i,hi3 with
    |0,_=>simpa [Array.getD,hs] using h0
    |1,_=>simpa [Array.getD,hs] using h1
    |2,_=>simpa [Array.getD,hs] using h2
  subst hvs
  split at he
  ·rename_i hx
   obtain⟨fn,e1,e2,e3,e4⟩:=isExt_spec hx
   obtain⟨⟨g1,g2,g3,g4⟩,rfl⟩:=he
   refine⟨_,?_,rep_tup2 _ _⟩
   rw[run_callFunc_extern e1 (by rw[e3];kernel_rfl) e2 (findNext_add fn e3 e4) (find_add fn e3),run_add64 x y c g1 g2 g3 g4]
   rfl
  split at he
  ·rename_i hx
   obtain⟨fn,e1,e2,e3,e4⟩:=isExt_spec hx
   obtain⟨⟨g1,g2,g3,g4,g5⟩,rfl⟩:=he
   refine⟨_,?_,rep_tup2 _ _⟩
   obtain⟨X,rfl⟩:=Int.eq_ofNat_of_zero_le g1
   obtain⟨Y,rfl⟩:=Int.eq_ofNat_of_zero_le g2
   obtain⟨B,rfl⟩:=Int.eq_ofNat_of_zero_le g4
   rw[run_callFunc_extern e1 (by rw[e3];kernel_rfl) e2 (findNext_sub fn e3 e4) (find_sub fn e3),run_sub64 X Y B (by omega)]
   simp only[Result.andThen]
   have a1:(((X+18446744073709551616-Y-B)%18446744073709551616:Nat):Int)=((X:Int)+18446744073709551616-Y-B)%18446744073709551616:=by omega
   have a2:((if X<Y+B then 1 else 0:Nat):Int)=if(X:Int)<Y+B then 1 else 0:=by split<;>split<;>omega
   rw[a1,a2]
  ·exact he.elim
 ·exact he.elim
theorem callee_ext{P:Program}{w:World}{μ:Mu}{F:Nat->Prop}{ρ:Operand->Option SV}{σ:Operand->Value}{o:Oper}{c:Call}{k:FuncId}{args:List SV}{r:SV}(hρ:∀x s,ρ x=some s->Rep w μ F (σ x) s)(ho:o.op=.call c)
  (he:callee ρ c=some (k,args)) (hx:(absExt P k args).ev r):∃v,(execOp σ o).run P w=.ok (.value v) w/\Rep w μ F v r:=by
 unfold callee at he
 split at he
 ·rename_i f hcal
  split at he
  ·rename_i k' fs cs as hf has
   simp only[Option.some.injEq,Prod.mk.injEq] at he
   obtain⟨rfl,rfl⟩:=he
   have hfr:=hρ f _ hf
   obtain⟨h1,h2⟩:=evalAll_spec hρ has
   have harg:Reps w μ F (c.args.map σ) as:=by
    refine⟨by simpa using h1,fun i hi=>?_⟩
    have:=h2 i hi
    simpa [Array.getD_eq_getD_getElem?,List.getD] using this
   generalize hv:σ f=v at hfr
   cases hfr with
   |fn _ vf vc _ _ e1 e2 e3 e4 =>
    obtain⟨u,hu1,hu2⟩:=absExt_sound (Reps.append (Reps.append ⟨e1,e3⟩ harg) ⟨e2,e4⟩) hx
    refine⟨u,?_,hu2⟩
    unfold execOp
    rw[ho]
    simp only[]
    have hr:(resolve σ c o.type).run P w=.ok { target:=.fn (.func k') vc,args:=vf++c.args.map σ } w:=by
     unfold resolve;rw[hcal];simp only[hv,Deferred.ofValue,Sem.run_pure]
    rw[run_andThen_ok hr]
    simp only[invoke]
    exact hu1
  ·cases he
 ·cases he
def rowLast:List SV->Option (List SV×Nat×Nat×Nat)
 |[]=>none
 |a::r=>match r,a with
  |[],.row l 0 0 n e=>some ([],l,n,e)
  |[],_=>none
  |r,a=>match noId a,rowLast r with
   |true,some (as,x)=>some (a::as,x)
   |_,_=>none
theorem rowLast_spec:∀{args as:List SV} {l n e:Nat},rowLast args=some (as,l,n,e)->args=as++[.row l 0 0 n e]/\as.all noId=true
 |[],as,l,n,e,h=>by cases h
 |a::r,as,l,n,e,h=>by
  unfold rowLast at h
  split at h
  ·simp only[Option.some.injEq,Prod.mk.injEq] at h
   obtain⟨rfl,rfl,rfl,rfl⟩:=h
   exact⟨rfl,rfl⟩
  ·cases h
  ·split at h
   ·rename_i as' x hn hr
    obtain⟨l',n',e'⟩:=x
    simp only[Option.some.injEq,Prod.mk.injEq] at h
    obtain⟨rfl,rfl,rfl,rfl⟩:=h
    obtain⟨h1,h2⟩:=rowLast_spec hr
    exact⟨by rw[h1];rfl,by rw[List.all_cons,hn,h2];rfl⟩
   ·cases h
def muCall(hp:Heap)(m:MCtr)(args:List SV):Tr (SV×Heap):=match rowLast args with
 |some (as,l,n,e)=>(match hget hp l with
  |some (.cells cs)=>(match cs.all noId with
   |true=>(m (as++[.row 0 0 0 n e]) [some (.cells cs)] 1).bind fun r=>(match noId r.1 with
    |true=>.ret (r.1,hset hp l none)
    |false=>.fail)
   |false=>.fail)
  |_=>.fail)
 |none=>.fail
theorem muCall_sound{P:Program}{w:World}{μ:Mu}{F:Nat->Prop}{hp:Heap}{N:Nat->Prop}{k:FuncId}{m:MCtr}{args:List SV}{vs:Array Value}{r:SV×Heap}(hl:LH w μ F hp)(hgl:GlobOK w F)(hm:MuOK P k m)(ha:Reps w μ F vs args)(he:(muCall hp m args).ev r) :
  Calls P k vs w fun e w'=>∃v,e=.returned v/\Out w μ F hp N r.2 v r.1 w':=by
 unfold muCall at he
 split at he
 ·rename_i as l n e hrl
  obtain⟨rfl,hno⟩:=rowLast_spec hrl
  split at he
  ·rename_i cs hg
   split at he
   ·rename_i hcs
    obtain⟨r',h1,h2⟩:=Tr.ev_bind he
    split at h2
    ·rename_i hnr
     simp only[Tr.ev] at h2
     subst h2
     obtain⟨q,q1,q2,q3⟩:=hl.blk l _ hg
     let μ1:Mu:=fun j=>if j=0 then μ l else none
     have hμ1:μ1 0=μ l:=rfl
     rw[List.all_eq_true] at hno hcs
     have hl1:LH w μ1 F [some (.cells cs)]:=by
      refine⟨Ext.refl _ _,fun b hb=>hb,fun b hb=>⟨(hl.fin b hb).1,.inl hb⟩,fun j blk hj=>?_,fun j j' blk blk' b o b' o' hne hj hj'=>?_⟩
      ·cases j with
       |zero =>
        simp only[hget_def,List.getD_cons_zero,Option.some.injEq] at hj
        subst hj
        refine⟨q,by rw[hμ1,q1],?_,?_⟩
        ·cases q with
         |nil=>trivial
         |pl b o=>exact⟨q2.1,.inl ⟨0,.cells cs,o,rfl,by rw[hμ1,q1]⟩⟩
        ·cases q with
         |nil=>exact q3
         |pl b o =>
          obtain⟨x,t,g1,g2,g3,g4⟩:=q3
          exact⟨x,t,g1,g2,fun i hi=>rep_noId (g3 i hi) (hcs _ (getD_mem hi)),g4⟩
       |succ j=>simp[hget_def] at hj
      ·cases j with
       |zero=>cases j' with
        |zero=>exact(hne rfl).elim
        |succ j'=>simp[hget_def] at hj'
       |succ j=>simp[hget_def] at hj
     have hf1:Fresh 1 μ1:=fun j hj=>by show(if j=0 then μ l else none)=none;rw[if_neg (by omega)]
     have ha1:Reps w μ1 F vs (as++[.row 0 0 0 n e]):=by
      refine⟨by rw[ha.1];simp,fun i hi=>?_⟩
      have h3:=ha.2 i (by simpa using hi)
      rw[List.length_append,List.length_singleton] at hi
      rcases Nat.lt_or_ge i as.length with h4|h4
      ·have e1:(as++[SV.row l 0 0 n e]).getD i uv=as.getD i uv:=by simp[List.getD_eq_getElem?_getD,List.getElem?_append,h4]
       have e2:(as++[SV.row 0 0 0 n e]).getD i uv=as.getD i uv:=by simp[List.getD_eq_getElem?_getD,List.getElem?_append,h4]
       rw[e2];rw[e1] at h3
       exact rep_noId h3 (hno _ (getD_mem h4))
      ·obtain rfl:i=as.length:=by omega
       have e1:(as++[SV.row l 0 0 n e]).getD as.length uv=.row l 0 0 n e:=by simp[List.getD_eq_getElem?_getD]
       have e2:(as++[SV.row 0 0 0 n e]).getD as.length uv=.row 0 0 0 n e:=by simp[List.getD_eq_getElem?_getD]
       rw[e2];rw[e1] at h3
       generalize vs.getD as.length undef=v at h3 ⊢
       generalize hs:SV.row l 0 0 n e=s at h3
       cases h3 with
       |rnil l' base off esz h=>cases hs;exact .rnil 0 0 0 e (by rw[hμ1];exact h)
       |rz l' base off esz b o q' h=>cases hs;exact .rz 0 0 0 e b o q' (by rw[hμ1];exact h)
       |row l' base off len esz b o cap h hc hz=>cases hs;exact .row 0 0 0 n e b o cap (by rw[hμ1];exact h) hc hz
       |_=>cases hs
     refine(hm _ _ _ _ h1 μ1 F w vs hl1 hgl hf1 ha1).mono ?_
     rintro ex w' ⟨v,s,hp',nx',μ',F',rfl,hr,hs,hrep,hμ',hf'⟩
     have hs0:r'.1=s:=by rw[<- hr]
     have hT:∀b,Tk [some (.cells cs)] μ1 b->∃o,μ l=some (.pl b o):=by
      rintro b ⟨j,blk,o,hj,hj2⟩
      cases j with
      |zero=>exact⟨o,by rw[<- hμ1];exact hj2⟩
      |succ j=>simp[hget_def] at hj
     have hT2:∀b,Tk [some (.cells cs)] μ1 b->Tk hp μ b:=fun b hb=>by
      obtain⟨o,ho⟩:=hT b hb
      exact⟨l,_,o,hg,ho⟩
     refine⟨v,rfl,μ,F',⟨hs.ext.mono fun b hb=>⟨hb.1,fun h=>hb.2 (hT2 b h)⟩,hs.sub,fun b hb=>⟨(hs.fin b hb).1,?_⟩,fun j blk hj=>?_,fun j j' blk blk' b o b' o' hne hj hj'=>?_⟩,?_,fun _ _ h=>h,fun _ _=>rfl⟩
     ·rcases (hs.fin b hb).2 with h|h|h
      ·exact .inl h
      ·exact .inr (.inl (hT2 b h))
      ·exact .inr (.inr h)
     ·rw[hget_hset] at hj
      split at hj
      ·cases hj
      ·rename_i hne
       obtain⟨q',k1,k2,k3⟩:=hl.blk j blk hj
       have hnT:∀b o,q'=.pl b o->¬Tk [some (.cells cs)] μ1 b:=fun b o hq h=>by
        obtain⟨o',ho'⟩:=hT b h
        subst hq
        exact hl.inj j l _ _ b o b o' hne hj hg k1 ho' rfl
       refine⟨q',k1,?_,k3.mono (hs.ext.mono fun b hb=>⟨(hl.fin b hb).1,fun h=>?_⟩) hs.sub (fun _ _ h=>h) ?_⟩
       ·cases q' with
        |nil=>trivial
        |pl b o =>
         refine⟨fun h=>?_,k2.2⟩
         rcases (hs.fin b h).2 with h|h|h
         ·exact k2.1 h
         ·exact hnT b o rfl h
         ·have:=k3.lt;simp only at h;omega
       ·obtain⟨o,ho⟩:=hT b h
        exact(hl.blkAt hg ho).2 hb
       ·intro b o hq
        have hk3:=k3
        rw[hq] at hk3
        exact hs.ext.keep b ⟨hk3.lt,hnT b o hq⟩
     ·rw[hget_hset] at hj hj'
      split at hj
      ·cases hj
      split at hj'
      ·cases hj'
      exact hl.inj j j' blk blk' b o b' o' hne hj hj'
     ·show Rep w' μ F' v r'.1
      rw[hs0] at hnr ⊢
      exact rep_noId hrep hnr
    ·exact h2.elim
   ·exact he.elim
  ·exact he.elim
 ·exact he.elim
def opTr(P:Program)(C:Ctx)(id:Nat)(hp:Heap)(ρ:Operand->Option SV)(o:Oper):Tr (SV×Heap) :=
 match o.op with
 |.call c=>match callee ρ c with
  |some (k,args)=>match C.ctr k with
   |some ct=>still hp (ctrCall hp ct args)
   |none=>match ownK C o.op with
    |some oc=>ownCall id hp oc args
    |none=>(match muK C o.op with
     |some m=>(match goodF P k with
      |true=>muCall hp m args
      |false=>.fail)
     |none=>still hp (absExt P k args))
  |none=>absOpF P id hp ρ o
 |_=>absOpF P id hp ρ o
theorem wp_of_out{P:Program}{w:World}{μ:Mu}{F:Nat->Prop}{hp hp':Heap}{N:Nat->Prop}{s:SV}{o:Oper}{a:Act}{K:Act->World->Prop}{Q:Exit->Act->World->Prop}{r:Option Nat}(hnd:∀c,o.op≠.defer c)(h:OpOut P w μ F hp N hp' s ((execOp a.eval o).run P w))
  (hK:∀v w',Out w μ F hp N hp' v s w'->K (a.put o.dst v) w'):o.wpIn (FW r) 0 P a w K Q:=by
 refine⟨fun _ _=>trivial,?_⟩
 rw[semAt_eq hnd]
 obtain⟨w',⟨v,h1,h2⟩|⟨h1,h2⟩⟩:=h
 ·rw[h1];exact hK v w' h2
 ·rw[h1];exact hK undef w' h2
theorem opTr_nd{P:Program}{C:Ctx}{id:Nat}{hp:Heap}{ρ:Operand->Option SV}{o:Oper}{r:SV×Heap}(he:(opTr P C id hp ρ o).ev r):∀c,o.op≠.defer c:=by
 intro c hc
 unfold opTr at he
 rw[hc] at he
 unfold absOpF at he
 rw[hc] at he
 unfold absOp at he
 rw[hc] at he
 exact he
theorem opTr_sound{P:Program}{C:Ctx}{w:World}{μ:Mu}{F:Nat->Prop}{hp hp':Heap}{id:Nat}{ρ:Operand->Option SV}{o:Oper}{a:Act}{s:SV}{K:Act->World->Prop}{Q:Exit->Act->World->Prop}{r:Option Nat}(hC:CtxOK P C)(hl:LH w μ F hp)(hgl:GlobOK w F)(hid:μ id=none)
  (hρ:∀x s,ρ x=some s->Rep w μ F (a.eval x) s) (he:(opTr P C id hp ρ o).ev (s,hp')) (hK:∀v w',Out w μ F hp (NewIdC C id o) hp' v s w'->K (a.put o.dst v) w'):o.wpIn (FW r) 0 P a w K Q:=by
 have hnd:=opTr_nd he
 unfold opTr at he
 split at he
 ·rename_i c hop
  split at he
  ·rename_i k args hcal
   split at he
   ·rename_i ct hct
    obtain⟨h1,h2⟩:=hC.ctr k ct hct
    obtain⟨r0,h3,h4⟩:=Tr.ev_bind he
    simp only[Tr.ev,Prod.mk.injEq] at h4
    obtain⟨rfl,rfl⟩:=h4
    obtain⟨vs,h5,h6⟩:=callee_run hρ hop h2 hcal
    refine⟨fun _ _=>trivial,?_⟩
    rw[semAt_eq hnd,h5]
    refine⟨(fun h=>by cases h),callsW r _ ((ctrCall_sound (N:=NewIdC C id o) hl hgl h1 h6 h3).mono ?_)⟩
    rintro e w' ⟨v,rfl,ho⟩
    exact hK v w' ho
   ·split at he
    ·rename_i oc hoc
     have hq:quietC C o.op=false:=by unfold quietC;rw[hoc];cases quietOp o.op<;>rfl
     have hk:∃f,c.callee=.value (.func f)/\C.own f=some oc:=by
      rw[hop] at hoc
      unfold ownK at hoc
      simp only at hoc
      split at hoc
      ·rename_i f hf;exact⟨f,hf,hoc⟩
      ·cases hoc
     obtain⟨f,hf,hof⟩:=hk
     have hkf:k=f:=by
      unfold callee at hcal
      rw[hf] at hcal
      simp only at hcal
      split at hcal
      ·rename_i k' fs cs as h5 h6
       simp only[Option.some.injEq,Prod.mk.injEq] at hcal
       obtain⟨rfl,_⟩:=hcal
       have h7:=hρ _ _ h5
       have h8:a.eval (.func f)=.func (.func f) #[] #[]:=rfl
       rw[h8] at h7
       generalize hsv:SV.fn (.func k') fs cs=sv at h7
       cases h7 with
       |fn=>cases hsv;rfl
       |d=>cases hsv
      ·cases hcal
     subst hkf
     obtain⟨h1,h2⟩:=hC.own k oc hof
     obtain⟨vs,h5,h6⟩:=callee_run hρ hop h2 hcal
     refine⟨fun _ _=>trivial,?_⟩
     rw[semAt_eq hnd,h5]
     refine⟨(fun h=>by cases h),callsW r _ ((ownCall_sound hl hgl hid h1 h6 he).mono ?_)⟩
     rintro e w' ⟨v,rfl,μ',F',o1,o2,o3,o4⟩
     exact hK v w' ⟨μ',F',o1,o2,o3,fun l hl'=>o4 l fun e=>hl' ⟨e,hq⟩⟩
    ·split at he
     ·rename_i m hmk
      split at he
      ·rename_i hgood
       have hk:∃f,c.callee=.value (.func f)/\C.mu f=some m:=by
        rw[hop] at hmk
        unfold muK at hmk
        simp only at hmk
        split at hmk
        ·rename_i f hf
         split at hmk
         ·cases hmk
         ·exact⟨f,hf,hmk⟩
        ·cases hmk
       obtain⟨f,hf,hof⟩:=hk
       have hkf:k=f:=by
        unfold callee at hcal
        rw[hf] at hcal
        simp only at hcal
        split at hcal
        ·rename_i k' fs cs as h5 h6
         simp only[Option.some.injEq,Prod.mk.injEq] at hcal
         obtain⟨rfl,_⟩:=hcal
         have h7:=hρ _ _ h5
         have h8:a.eval (.func f)=.func (.func f) #[] #[]:=rfl
         rw[h8] at h7
         generalize hsv:SV.fn (.func k') fs cs=sv at h7
         cases h7 with
         |fn=>cases hsv;rfl
         |d=>cases hsv
        ·cases hcal
       subst hkf
       obtain⟨vs,h5,h6⟩:=callee_run hρ hop hgood hcal
       refine⟨fun _ _=>trivial,?_⟩
       rw[semAt_eq hnd,h5]
       refine⟨(fun h=>by cases h),callsW r _ ((muCall_sound (N:=NewIdC C id o) hl hgl (hC.mu k m hof) h6 he).mono ?_)⟩
       rintro e w' ⟨v,rfl,ho⟩
       exact hK v w' ho
      ·exact he.elim
     ·obtain⟨r0,h3,h4⟩:=Tr.ev_bind he
      simp only[Tr.ev,Prod.mk.injEq] at h4
      obtain⟨rfl,rfl⟩:=h4
      obtain⟨v,h5,h6⟩:=callee_ext hρ hop hcal h3
      exact wp_of_out hnd ⟨w,.inl ⟨v,h5,out_same hl h6⟩⟩ hK
  ·exact wp_of_out hnd (absOpF_sound hl hid hρ he) fun v w' h=>hK v w' h.c
 ·exact wp_of_out hnd (absOpF_sound hl hid hρ he) fun v w' h=>hK v w' h.c
inductive GS where
 |free
 |skip
 |tagd (g:Nat) (w:Bool) (b:Option Bool)
 |bad
def gstat(ops:Array Oper)(tm:List TV)(o:Oper):GS :=
 match o.guard with
 |none=>.free
 |some (j,w)=>match(ops[j]?).bind (·.dst) with
  |none=>.bad
  |some g=>match tget tm g with
   |.lit b=>if b=w then .free else .skip
   |.ok (.d (.x (.bool b)))=>.tagd g w (some b)
   |.tag _ _ (.d (.x (.bool _)))=>.tagd g w none
   |.ok (.d (.x (.tuple _)))=>.skip
   |_=>.bad
def gcond:Nat->List TV->Nat->Bool->Prop
 |0,_,_,_=>True
 |n+1,tm,g,w=>match tget tm g with
  |.ok (.d (.x (.bool b)))=>b=w
  |.tag g2 w2 (.d (.x (.bool b)))=>gcond n tm g2 w2/\b=w
  |_=>True
theorem gcond_sound{w:World}{μ:Mu}{F:Nat->Prop}{tm:List TV}{tmps:Array Value}(h:TmOK w μ F tm tmps):∀(n g:Nat) (b:Bool),tmps.getD g undef=.bool b->gcond n tm g b
 |0,_,_,_=>trivial
 |n+1,g,b,hv=>by
  unfold gcond
  have:=h g
  split
  ·rename_i b' ht
   rw[ht] at this
   have:=rep_x this
   rw[hv] at this
   simp only[Value.bool.injEq] at this
   exact this.symm
  ·rename_i g2 w2 b' ht
   rw[ht] at this
   by_cases hg2:tmps.getD g2 undef=.bool w2
   ·have h3:=rep_x (this.1 hg2)
    rw[hv] at h3
    simp only[Value.bool.injEq] at h3
    exact⟨gcond_sound h n g2 w2 hg2,h3.symm⟩
   ·have:=this.2 hg2
    rw[hv] at this
    cases this
  ·trivial
theorem wanted_iff{ops:Array Oper}{o:Oper}{tmps:Array Value}{j g:Nat}{b:Bool}(hg:o.guard=some (j,b))(hd:(ops[j]?).bind (·.dst)=some g):Region.wanted o (yielded ops tmps)=true ↔ tmps.getD g undef=.bool b:=by
 unfold Region.wanted yielded
 rw[hg]
 simp only[hd,Option.bind_some,Array.getD_eq_getD_getElem?]
 cases h:tmps[g]? with
 |none=>simp[undef]
 |some v=>cases v<;>simp[undef]
def tvStrict(gt:Option (Nat×Bool)):TV->Option SV
 |.cnd _ _=>none
 |tv=>tvVal gt tv
def pickArg(tm:List TV)(gt:Option (Nat×Bool))(tc:Nat)(want:Bool):Operand->Option SV
 |.tmp t=>match tget tm t with
  |.tag g w s=>if g=tc/\w=want then some s else tvStrict gt (.tag g w s)
  |tv=>tvStrict gt tv
 |.const v=>some (ofValue v)
 |_=>none
def isB(b:Bool):Operand->Bool
 |.const (.bool c)=>b==c
 |_=>false
def mkPick(a b:Operand)(g p q:Bool):Bool:=if isB true a then g||q else if isB false b then g&&p else bif g then p else q
def absPick(tm:List TV)(gt:Option (Nat×Bool))(c a b:Operand):Tr SV :=
  match c with
  |.tmp tc=>match tget tm tc with
   |.lit true=>Tr.ofOpt (pickArg tm gt tc true a)
   |.lit false=>Tr.ofOpt (pickArg tm gt tc false b)
   |_=>match tvStrict gt (tget tm tc),pickArg tm gt tc true a,pickArg tm gt tc false b with
    |some (.d (.x (.bool g))),some (.d (.x (.bool p))),some (.d (.x (.bool q)))=>.ret (.d (.x (.bool (mkPick a b g p q))))
    |_,_,_=>.fail
  |_=>.fail
theorem tvStrict_sound{w:World}{μ:Mu}{F:Nat->Prop}{tmps:Array Value}{v:Value}{tv:TV}{gt:Option (Nat×Bool)}{s:SV}(h:RepT w μ F tmps v tv)(hg:∀g b,gt=some (g,b)->tmps.getD g undef=.bool b)
  (he:tvStrict gt tv=some s):Rep w μ F v s:=by
 unfold tvStrict at he
 split at he
 ·cases he
 ·rename_i h'
  refine tvVal_sound h hg (fun p hp=>?_) he
  cases tv with
  |cnd q s'=>exact(h' q s' rfl).elim
  |_=>cases hp
theorem pickArg_sound{w:World}{μ:Mu}{F:Nat->Prop}{tm:List TV}{a:Act}{gt:Option (Nat×Bool)}{tc:Nat}{want:Bool}{x:Operand}{s:SV}(h:TmOK w μ F tm a.tmps)(hg:∀g b,gt=some (g,b)->a.tmps.getD g undef=.bool b)
  (hc:a.tmps.getD tc undef=.bool want) (he:pickArg tm gt tc want x=some s):Rep w μ F (a.eval x) s:=by
 unfold pickArg at he
 split at he
 ·rename_i t
  have:=h t
  simp only[Act.eval]
  split at he
  ·rename_i g w0 s0 ht
   rw[ht] at this
   split at he
   ·rename_i e
    obtain⟨rfl,rfl⟩:=e
    cases he
    exact this.1 hc
   ·exact tvStrict_sound (tv:=.tag g w0 s0) this hg he
  ·exact tvStrict_sound this hg he
 ·simp only[Option.some.injEq] at he;subst he;exact rep_ofValue w μ F _
 ·cases he
theorem absPick_sound{P:Program}{w:World}{μ:Mu}{F:Nat->Prop}{hp:Heap}{N:Nat->Prop}{tm:List TV}{act:Act}{gt:Option (Nat×Bool)}{c a b:Operand}{o:Oper}{s:SV}(hl:LH w μ F hp)(h:TmOK w μ F tm act.tmps)(hg:∀g b,gt=some (g,b)->act.tmps.getD g undef=.bool b)
  (ho:o.op=.pick c a b) (he:(absPick tm gt c a b).ev s):OpOut P w μ F hp N hp s ((execOp act.eval o).run P w):=by
 unfold absPick at he
 split at he
 ·rename_i tc
  split at he
  ·rename_i hl1
   have hc:act.tmps.getD tc undef=.bool true:=by have:=h tc;rw[hl1] at this;exact this
   have hc':act.eval (.tmp tc)=.bool true:=hc
   have hr:=pickArg_sound h hg hc (Tr.ev_ofOpt he)
   unfold execOp
   rw[ho]
   simp only[hc',asBool,Sem.run_bind,Sem.run_pure,Result.andThen]
   exact⟨w,.inl ⟨_,rfl,out_same hl hr⟩⟩
  ·rename_i hl1
   have hc:act.tmps.getD tc undef=.bool false:=by have:=h tc;rw[hl1] at this;exact this
   have hc':act.eval (.tmp tc)=.bool false:=hc
   have hr:=pickArg_sound h hg hc (Tr.ev_ofOpt he)
   unfold execOp
   rw[ho]
   simp only[hc',asBool,Sem.run_bind,Sem.run_pure,Result.andThen]
   exact⟨w,.inl ⟨_,rfl,out_same hl hr⟩⟩
  split at he
  ·rename_i g p q h1 h2 h3
   simp only[Tr.ev] at he;subst he
   have hc:=rep_x (tvStrict_sound (h tc) hg h1)
   have hc':act.eval (.tmp tc)=.bool g:=hc
   unfold execOp
   rw[ho]
   simp only[hc',asBool,Sem.run_bind,Sem.run_pure,Result.andThen]
   refine⟨w,.inl ⟨_,rfl,out_same hl ?_⟩⟩
   cases g with
   |true =>
    have:=rep_x (pickArg_sound h hg hc h2)
    simp only[if_true]
    rw[this]
    unfold mkPick
    split
    ·rename_i hb
     have:p=true:=by
      unfold isB at hb
      split at hb
      ·rename_i c'
       simp only[pickArg,ofValue,Option.some.injEq,SV.d.injEq,DV.x.injEq,Value.bool.injEq] at h2
       rw[<- h2];simpa using hb.symm
      ·cases hb
     subst this
     exact .d (.x _)
    ·split
     ·exact .d (.x _)
     ·exact .d (.x _)
   |false =>
    have:=rep_x (pickArg_sound h hg hc h3)
    simp only[Bool.false_eq_true,if_false]
    rw[this]
    unfold mkPick
    split
    ·exact .d (.x _)
    ·split
     ·rename_i hb
      have:q=false:=by
       unfold isB at hb
       split at hb
       ·rename_i c'
        simp only[pickArg,ofValue,Option.some.injEq,SV.d.injEq,DV.x.injEq,Value.bool.injEq] at h3
        rw[<- h3];simpa using hb.symm
       ·cases hb
      subst this
      exact .d (.x _)
     ·exact .d (.x _)
  ·exact he.elim
 ·exact he.elim
end
noncomputable section
variable [Globs]
theorem still_hp{hp hp':Heap}{t:Tr SV}{s:SV}(h:(still hp t).ev (s,hp')):hp'=hp:=by
 obtain⟨r,_,h2⟩:=Tr.ev_bind h
 simp only[Tr.ev,Prod.mk.injEq] at h2
 exact h2.2
theorem absOp_quiet{P:Program}{id:Nat}{hp hp':Heap}{ρ:Operand->Option SV}{o:Oper}{s:SV}(hq:quietOp o.op=true)(he:(absOp P id hp ρ o).ev (s,hp')):hp'=hp:=by
 unfold absOp at he
 split at he
 all_goals first|(rename_i hop;rw[hop] at hq;first|(cases hq;done)|skip)|exact he.elim
 all_goals repeat' (first
  |exact still_hp he
  |exact absConv_quiet he
  |exact he.elim
  |(simp only[Tr.ev,Prod.mk.injEq] at he;exact he.2)
  |(have:=he.2;simp only[Tr.ev,Prod.mk.injEq] at this;exact this.2)
  |(simp only[quietOp, *] at hq;cases hq;done)
  |split at he)
theorem absOpF_quiet{P:Program}{id:Nat}{hp hp':Heap}{ρ:Operand->Option SV}{o:Oper}{s:SV}(hq:quietOp o.op=true)(he:(absOpF P id hp ρ o).ev (s,hp')):hp'=hp:=by
 unfold absOpF at he
 split at he
 ·split at he
  ·rename_i hop _ _ _ _ h1 h2
   rw[hop] at hq
   simp only[quietOp,h1] at hq
   cases hq
  ·exact absOp_quiet hq he
 ·rename_i hop
  rw[hop] at hq;cases hq
 ·exact absOp_quiet hq he
theorem opTr_quiet{P:Program}{C:Ctx}{id:Nat}{hp hp':Heap}{ρ:Operand->Option SV}{o:Oper}{s:SV}(hq:quietC C o.op=true)(he:(opTr P C id hp ρ o).ev (s,hp')):hp'=hp:=by
 obtain⟨hq,ho,hmu⟩:=quietC_op hq
 unfold opTr at he
 split at he
 ·split at he
  ·split at he
   ·exact still_hp he
   ·rw[ho,hmu] at he
    exact still_hp he
  ·exact absOpF_quiet hq he
 ·exact absOpF_quiet hq he
def opSlots(o:Oper):List Nat:=o.op.operands.toList.filterMap fun|.tmp t=>some t|_=>none
def rhoR(tm:List TV)(gt:Option (Nat×Bool))(ts:List Nat):Operand->Option SV
 |.tmp t=>if ts.contains t then tvVal gt (tget tm t) else none
 |x=>rho tm gt x
def cndsT(tm:List TV):List Nat->List Prop
 |[]=>[]
 |t::r=>tvCnd (tget tm t)++cndsT tm r
theorem cndsT_spec{tm:List TV}:∀{ts:List Nat},(∀p∈cndsT tm ts,p)->∀t∈ts,∀p∈tvCnd (tget tm t),p
 |[],_,t,hm=>by cases hm
 |u::r,h,t,hm=>by
  rcases List.mem_cons.1 hm with e|hm'
  ·subst e;exact fun p hp=>h p (List.mem_append.2 (.inl hp))
  ·exact cndsT_spec (ts:=r) (fun q hq=>h q (List.mem_append.2 (.inr hq))) t hm'
theorem rhoR_sound{w:World}{μ:Mu}{F:Nat->Prop}{tm:List TV}{a:Act}{gt:Option (Nat×Bool)}{ts:List Nat}(hG:GlobOK w F)(h:TmOK w μ F tm a.tmps)(hg:∀g b,gt=some (g,b)->a.tmps.getD g undef=.bool b)(hc:∀p∈cndsT tm ts,p) :
  ∀x s,rhoR tm gt ts x=some s->Rep w μ F (a.eval x) s:=by
 intro x s he
 cases x with
 |tmp t =>
  simp only[rhoR] at he
  split at he
  ·rename_i hm
   exact tvVal_sound (h t) hg (cndsT_spec hc t (by simpa using hm)) he
  ·cases he
 |const v=>simp only[rhoR,rho,Option.some.injEq] at he;subst he;exact rep_ofValue w μ F v
 |func f=>simp only[rhoR,rho,Option.some.injEq] at he;subst he;exact .fn _ _ _ _ _ rfl rfl (fun i hi=>by simp at hi) (fun i hi=>by simp at hi)
 |global g =>
  simp only[rhoR,rho] at he
  split at he
  ·rename_i n cell hg'
   simp only[Option.some.injEq] at he;subst he
   exact hG.rep hg'
  ·cases he
def opAll(P:Program)(C:Ctx)(id:Nat)(tm:List TV)(hp:Heap)(gt:Option (Nat×Bool))(o:Oper):Tr (SV×Heap) :=
 match o.op with
 |.pick c a b=>still hp (absPick tm gt c a b)
 |_=>needAll (cndsT tm (opSlots o)) (opTr P C id hp (rhoR tm gt (opSlots o)) o)
theorem opAll_sound{P:Program}{C:Ctx}{w:World}{μ:Mu}{F:Nat->Prop}{hp hp':Heap}{id:Nat}{tm:List TV}{gt:Option (Nat×Bool)}{o:Oper}{a:Act}{s:SV}{K:Act->World->Prop}{Q:Exit->Act->World->Prop}{r:Option Nat}(hC:CtxOK P C)(hl:LH w μ F hp)(hgl:GlobOK w F)(hid:μ id=none)
  (ht:TmOK w μ F tm a.tmps) (hg:∀g b,gt=some (g,b)->a.tmps.getD g undef=.bool b) (he:(opAll P C id tm hp gt o).ev (s,hp')) (hK:∀v w',Out w μ F hp (NewIdC C id o) hp' v s w'->K (a.put o.dst v) w'):o.wpIn (FW r) 0 P a w K Q:=by
 unfold opAll at he
 split at he
 ·rename_i c x y hop
  obtain⟨r0,h1,h2⟩:=Tr.ev_bind he
  simp only[Tr.ev,Prod.mk.injEq] at h2
  obtain⟨rfl,rfl⟩:=h2
  exact wp_of_out (fun c h=>by rw[hop] at h;cases h) (absPick_sound hl ht hg hop h1) hK
 ·obtain⟨h1,h2⟩:=needAll_ev he
  exact opTr_sound hC hl hgl hid (rhoR_sound hgl ht hg h1) h2 hK
theorem opAll_quiet{P:Program}{C:Ctx}{id:Nat}{tm:List TV}{hp hp':Heap}{gt:Option (Nat×Bool)}{o:Oper}{s:SV}(hq:quietC C o.op=true)(he:(opAll P C id tm hp gt o).ev (s,hp')):hp'=hp:=by
 unfold opAll at he
 split at he
 ·exact still_hp he
 ·exact opTr_quiet hq (needAll_ev he).2
def specT(tm:List TV)(g:Nat)(w:Bool)(hp:Heap):Tr (SV×Heap)->Tr (TV×Heap)
 |.ret (s,_)=>.ret (.tag g w s,hp)
 |.need p t=>.need (gcond 8 tm g w->p) (specT tm g w hp t)
 |.dneed p _ t=>.need (gcond 8 tm g w->p) (specT tm g w hp t)
 |_=>.fail
theorem specT_ev{tm:List TV}{g:Nat}{w:Bool}{hp hp':Heap}{tv:TV}:∀{t:Tr (SV×Heap)},(specT tm g w hp t).ev (tv,hp')->hp'=hp/\∃s,tv=.tag g w s/\(gcond 8 tm g w->∃h,t.ev (s,h))
 |.ret (s,h0),h=>by
  simp only[specT,Tr.ev,Prod.mk.injEq] at h
  exact⟨h.2,s,h.1,fun _=>⟨h0,rfl⟩⟩
 |.need p t,h=>by
  obtain⟨h1,h2⟩:=h
  obtain⟨h3,s,h4,h5⟩:=specT_ev h2
  refine⟨h3,s,h4,fun hg=>?_⟩
  obtain⟨h0,h6⟩:=h5 hg
  exact⟨h0,h1 hg,h6⟩
 |.dneed p _ t,h=>by
  obtain⟨h1,h2⟩:=h
  obtain⟨h3,s,h4,h5⟩:=specT_ev h2
  refine⟨h3,s,h4,fun hg=>?_⟩
  obtain⟨h0,h6⟩:=h5 hg
  exact⟨h0,h1 hg,h6⟩
 |.ite ..,h=>h.elim
 |.fail,h=>h.elim
def gNeedN(ops:Array Oper):Nat->Nat->Bool
 |0,_=>false
 |n+1,g=>ops.toList.any fun p=>(match p.guard with|some (j,_)=>(ops[j]?).bind (·.dst)==some g|none=>false)&&(!quietOp p.op||(match p.dst with|some d=>gNeedN ops n d|none=>false))
def gNeed(ops:Array Oper)(g:Nat):Bool:=gNeedN ops 8 g
def litArg(tm:List TV):Operand->Option Bool
 |.const (.bool c)=>some c
 |.tmp t=>match tget tm t with
  |.lit c=>some c
  |_=>none
 |_=>none
def pickLit(tm:List TV)(o:Oper):Option Bool:=match o.op with
 |.pick (.tmp tc) a b=>match tget tm tc with
  |.lit true=>litArg tm a
  |.lit false=>litArg tm b
  |_=>none
 |_=>none
def litOf(rn:Bool)(ops:Array Oper)(d:Option Nat)(s:SV)(hp:Heap):Tr (TV×Heap):=match d,s with
 |some g,.d (.x (.bool b))=>if(rn||gNeed ops g)=true then .ite b (.ret (.lit true,hp)) (.ret (.lit false,hp)) else .ret (.ok s,hp)
 |_,s=>.ret (.ok s,hp)
theorem litOf_ev{rn:Bool}{ops:Array Oper}{d:Option Nat}{s:SV}{hp hp':Heap}{tv:TV}(h:(litOf rn ops d s hp).ev (tv,hp')):hp'=hp/\(tv=.ok s\/∃b,tv=.lit b/\s=.d (.x (.bool b))):=by
 unfold litOf at h
 split at h
 ·rename_i g b
  split at h
  ·rcases h with⟨rfl,h⟩|⟨rfl,h⟩
   ·simp only[Tr.ev,Prod.mk.injEq] at h;exact⟨h.2,.inr ⟨true,h.1,rfl⟩⟩
   ·simp only[Tr.ev,Prod.mk.injEq] at h;exact⟨h.2,.inr ⟨false,h.1,rfl⟩⟩
  ·simp only[Tr.ev,Prod.mk.injEq] at h;exact⟨h.2,.inl h.1⟩
 ·simp only[Tr.ev,Prod.mk.injEq] at h;exact⟨h.2,.inl h.1⟩
def gInl(C:Ctx)(ops:Array Oper):Option Nat->Bool
 |none=>false
 |some g=>ops.toList.any fun p=>(match p.guard with|some (j,_)=>(ops[j]?).bind (·.dst)==some g|none=>false)&&(match p.op with
  |.call c=>(match c.callee with
   |.value (.func k)=>C.inl k
   |_=>false)
  |_=>false)
def stepTr(rn:Bool)(P:Program)(C:Ctx)(ops:Array Oper)(id:Nat)(tm:List TV)(hp:Heap)(o:Oper):Tr (TV×Heap) :=
 match gstat ops tm o with
 |.free=>match pickLit tm o with
  |some b=>.ret (.lit b,hp)
  |none=>(opAll P C id tm hp none o).bind fun r=>litOf rn ops o.dst r.1 r.2
 |.skip=>.ret (.ok uv,hp)
 |.tagd g w _=>if quietC C o.op&&o.dst != some g then specT tm g w hp (opAll P C id tm hp (some (g,w)) o) else .fail
 |.bad=>.fail
def OutT(w:World)(μ:Mu)(F:Nat->Prop)(hp:Heap)(N:Nat->Prop)(hp':Heap)(tmps:Array Value)(v:Value)(tv:TV)(w':World):Prop :=
 ∃μ' F',HS ⟨w,Tk hp μ,F⟩ μ' F' hp' w'/\RepT w' μ' F' tmps v tv/\(∀l q,μ l=some q->μ' l=some q)/\(∀l,¬N l->μ' l=μ l)
theorem Act.put_defers(a:Act)(d:Option Nat)(v:Value):(a.put d v).defers=a.defers:=by cases d<;>rfl
theorem gstat_free{ops:Array Oper}{tm:List TV}{o:Oper}{w:World}{μ:Mu}{F:Nat->Prop}{tmps:Array Value}(h:TmOK w μ F tm tmps)(hg:gstat ops tm o=.free):Region.wanted o (yielded ops tmps)=true:=by
 unfold gstat at hg
 split at hg
 ·rename_i h0;simp[Region.wanted,h0]
 ·rename_i j b h0
  split at hg
  ·cases hg
  ·rename_i g hd
   split at hg
   ·rename_i c ht
    split at hg
    ·rename_i e;subst e
     have:=h g
     rw[ht] at this
     exact(wanted_iff h0 hd).2 this
    ·cases hg
   ·cases hg
   ·cases hg
   ·cases hg
   ·cases hg
theorem gstat_skip{ops:Array Oper}{tm:List TV}{o:Oper}{w:World}{μ:Mu}{F:Nat->Prop}{tmps:Array Value}(h:TmOK w μ F tm tmps)(hg:gstat ops tm o=.skip):¬Region.wanted o (yielded ops tmps)=true:=by
 unfold gstat at hg
 split at hg
 ·cases hg
 ·rename_i j b h0
  split at hg
  ·cases hg
  ·rename_i g hd
   split at hg
   ·rename_i c ht
    split at hg
    ·cases hg
    ·rename_i e
     have:=h g
     rw[ht] at this
     intro hw
     have h2:=(wanted_iff h0 hd).1 hw
     rw[show tmps.getD g undef=.bool c from this] at h2
     simp only[Value.bool.injEq] at h2
     exact e h2
   ·cases hg
   ·cases hg
   ·rename_i vs ht
    have:=h g
    rw[ht] at this
    intro hw
    have h2:=(wanted_iff h0 hd).1 hw
    rw[rep_x this] at h2
    cases h2
   ·cases hg
theorem gstat_tagd{ops:Array Oper}{tm:List TV}{o:Oper}{g:Nat}{b:Bool}{c:Option Bool}(hg:gstat ops tm o=.tagd g b c):∃j,o.guard=some (j,b)/\(ops[j]?).bind (·.dst)=some g/\(∀x,c=some x->tget tm g=.ok (.d (.x (.bool x)))):=by
 unfold gstat at hg
 split at hg
 ·cases hg
 ·rename_i j b' h0
  split at hg
  ·cases hg
  ·rename_i g' hd
   split at hg
   ·split at hg<;>cases hg
   ·rename_i x ht
    cases hg
    exact⟨j,h0,hd,fun y hy=>by cases hy;exact ht⟩
   ·cases hg
    exact⟨j,h0,hd,fun y hy=>by cases hy⟩
   ·cases hg
   ·cases hg
theorem litArg_sound{w:World}{μ:Mu}{F:Nat->Prop}{tm:List TV}{a:Act}{x:Operand}{b:Bool}(ht:TmOK w μ F tm a.tmps)(h:litArg tm x=some b):a.eval x=.bool b:=by
 unfold litArg at h
 split at h
 ·simp only[Option.some.injEq] at h;subst h;rfl
 ·rename_i t
  split at h
  ·rename_i c hc
   simp only[Option.some.injEq] at h;subst h
   have:=ht t
   rw[hc] at this
   exact this
  ·cases h
 ·cases h
theorem pickLit_sound{P:Program}{C:Ctx}{w:World}{μ:Mu}{F:Nat->Prop}{hp:Heap}{id:Nat}{tm:List TV}{o:Oper}{a:Act}{b:Bool}{K:Act->World->Prop}{Q:Exit->Act->World->Prop}{r:Option Nat}(hl:LH w μ F hp)
  (ht:TmOK w μ F tm a.tmps) (h:pickLit tm o=some b) (hK:∀v w',OutT w μ F hp (NewIdC C id o) hp a.tmps v (.lit b) w'->K (a.put o.dst v) w'):o.wpIn (FW r) 0 P a w K Q:=by
 unfold pickLit at h
 split at h
 ·rename_i tc x y hop
  have key:∀c z,a.tmps.getD tc undef=.bool c->(if c then x else y)=z->litArg tm z=some b->o.wpIn (FW r) 0 P a w K Q:=by
   intro c z hc hz hla
   have hv:=litArg_sound ht hla
   refine wp_of_out (N:=NewIdC C id o) (s:=.d (.x (.bool b))) (hp:=hp) (hp':=hp) (μ:=μ) (F:=F) (fun c h=>by rw[hop] at h;cases h) ?_ fun v w' ho=>?_
   ·have hc':a.eval (.tmp tc)=.bool c:=hc
    unfold execOp
    rw[hop]
    simp only[hc',asBool,Sem.run_bind,Sem.run_pure,Result.andThen]
    refine⟨w,.inl ⟨.bool b,?_,out_same hl (.d (.x _))⟩⟩
    cases c<;>simp at hz<;>subst hz<;>simp[hv]
   ·obtain⟨μ',F',e1,e2,e3,e4⟩:=ho
    exact hK v w' ⟨μ',F',e1,rep_x e2,e3,e4⟩
  split at h
  ·rename_i hc;exact key true x (by have:=ht tc;rw[hc] at this;exact this) rfl h
  ·rename_i hc;exact key false y (by have:=ht tc;rw[hc] at this;exact this) rfl h
  ·cases h
 ·cases h
theorem stepTr_sound{rn:Bool}{P:Program}{C:Ctx}{w:World}{μ:Mu}{F:Nat->Prop}{hp hp':Heap}{id:Nat}{ops:Array Oper}{tm:List TV}{o:Oper}{a:Act}{tv:TV}{K:Act->World->Prop}{Q:Exit->Act->World->Prop}{r:Option Nat}(hC:CtxOK P C)(hl:LH w μ F hp)(hgl:GlobOK w F)(hid:μ id=none)
  (ht:TmOK w μ F tm a.tmps) (he:(stepTr rn P C ops id tm hp o).ev (tv,hp')) (hK:∀v w',OutT w μ F hp (NewIdC C id o) hp' a.tmps v tv w'->K (a.put o.dst v) w') :
  if Region.wanted o (yielded ops a.tmps) then o.wpIn (FW r) 0 P a w K Q else K (a.put o.dst undef) w:=by
 unfold stepTr at he
 split at he
 ·rename_i hgs
  rw[if_pos (gstat_free ht hgs)]
  split at he
  ·rename_i b hpl
   simp only[Tr.ev,Prod.mk.injEq] at he
   obtain⟨rfl,rfl⟩:=he
   exact pickLit_sound hl ht hpl hK
  obtain⟨r0,h1,h2⟩:=Tr.ev_bind he
  obtain⟨rfl,h3⟩:=litOf_ev h2
  refine opAll_sound hC hl hgl hid ht (fun g b e=>by cases e) h1 fun v w' ho=>hK v w' ?_
  obtain⟨μ',F',e1,e2,e3,e4⟩:=ho
  refine⟨μ',F',e1,?_,e3,e4⟩
  rcases h3 with rfl|⟨b,rfl,hs⟩
  ·exact e2
  ·rw[hs] at e2;exact rep_x e2
 ·rename_i hgs
  rw[if_neg (gstat_skip ht hgs)]
  simp only[Tr.ev,Prod.mk.injEq] at he
  obtain⟨rfl,rfl⟩:=he
  exact hK _ _ ⟨μ,F,hl,.d (.x _),fun _ _ h=>h,fun _ _=>rfl⟩
 ·rename_i g b c hgs
  split at he
  ·rename_i hq
   simp only[Bool.and_eq_true,bne_iff_ne,ne_eq] at hq
   obtain⟨rfl,s,rfl,h1⟩:=specT_ev he
   obtain⟨j,h0,hd,_⟩:=gstat_tagd hgs
   split
   ·rename_i hw
    have hb:=(wanted_iff h0 hd).1 hw
    obtain⟨h2,h3⟩:=h1 (gcond_sound ht _ _ _ hb)
    have:=opAll_quiet hq.1 h3;subst this
    refine opAll_sound hC hl hgl hid ht (fun g' b' e=>by cases e;exact hb) h3 fun v w' ho=>hK v w' ?_
    obtain⟨μ',F',e1,e2,e3,e4⟩:=ho
    exact⟨μ',F',e1,⟨fun _=>e2,fun hne=>(hne hb).elim⟩,e3,e4⟩
   ·rename_i hw
    have hb:a.tmps.getD g undef≠.bool b:=fun h=>hw ((wanted_iff h0 hd).2 h)
    exact hK _ _ ⟨μ,F,hl,⟨fun h=>(hb h).elim,fun _=>rfl⟩,fun _ _ h=>h,fun _ _=>rfl⟩
  ·exact he.elim
 ·exact he.elim
end
noncomputable section
variable [Globs]
inductive Ex where
 |normal
 |exit (id:Nat)
 |goto (l:Nat)
 |ret
inductive Tree(α:Type) where
 |ret (a:α)
 |ite (b:Bool) (t e:Tree α)
 |need (p:Prop) (t:Tree α)
 |fail
 |code (c:Code) (st:AS) (k:Ex->AS->Tree α)
def Tree.bind{α β:Type}:Tree α->(α->Tree β)->Tree β
 |.ret a,f=>f a
 |.ite b t e,f=>.ite b (t.bind f) (e.bind f)
 |.need p t,f=>.need p (t.bind f)
 |.fail,_=>.fail
 |.code c st k,f=>.code c st fun e s=>(k e s).bind f
def Tree.ofTr{α:Type}:Tr α->Tree α
 |.ret a=>.ret a
 |.ite b t e=>.ite b (ofTr t) (ofTr e)
 |.need p t=>.need p (ofTr t)
 |.dneed p _ t=>.need p (ofTr t)
 |.fail=>.fail
def Sim(p:Par)(μ0:Mu)(st:AS)(a:Act)(w:World):Prop :=
 ∃μ F,HS p μ F st.hp w/\Fresh st.next μ/\(∀l q,μ0 l=some q->μ l=some q)/\TmOK w μ F st.tm a.tmps/\st.tm.length<=a.tmps.size/\Marks p F w a.defers
def conc(p:Par)(μ0:Mu)(Q:Ex->AS->Prop):Exit->Act->World->Prop
 |.normal,a,w=>∃st,Q .normal st/\Sim p μ0 st a w
 |.exit id,a,w=>∃st,Q (.exit id) st/\Sim p μ0 st a w
 |.ret,a,w=>∃st,Q .ret st/\Sim p μ0 st a w
 |_,_,_=>False
def Triple(P:Program)(c:Code)(st:AS)(Q:Ex->AS->Prop):Prop:=∀p μ0 a w,Sim p μ0 st a w->WP P c (conc p μ0 Q) a w
def Tree.sat{α:Type}(P:Program):Tree α->(α->Prop)->Prop
 |.ret a,Q=>Q a
 |.ite b t e,Q=>(b=true->t.sat P Q)/\(b=false->e.sat P Q)
 |.need p t,Q=>p/\t.sat P Q
 |.fail,_=>False
 |.code c st k,Q=>∃post:Ex->AS->Prop,Triple P c st post/\∀e s,post e s->(k e s).sat P Q
theorem Tree.sat_mono{α:Type}{P:Program}{Q R:α->Prop}(h:∀a,Q a->R a):∀{t:Tree α},t.sat P Q->t.sat P R
 |.ret a,x=>h a x
 |.ite b t e,x=>⟨fun hb=>Tree.sat_mono h (x.1 hb),fun hb=>Tree.sat_mono h (x.2 hb)⟩
 |.need p t,x=>⟨x.1,Tree.sat_mono h x.2⟩
 |.fail,x=>x
 |.code c st k,⟨post,h1,h2⟩=>⟨post,h1,fun e s hp=>Tree.sat_mono h (h2 e s hp)⟩
theorem Tree.sat_bind{α β:Type}{P:Program}{f:α->Tree β}{Q:β->Prop}:∀{t:Tree α},(t.bind f).sat P Q->t.sat P fun a=>(f a).sat P Q
 |.ret a,x=>x
 |.ite b t e,x=>⟨fun hb=>Tree.sat_bind (x.1 hb),fun hb=>Tree.sat_bind (x.2 hb)⟩
 |.need p t,x=>⟨x.1,Tree.sat_bind x.2⟩
 |.fail,x=>x
 |.code c st k,⟨post,h1,h2⟩=>⟨post,h1,fun e s hp=>Tree.sat_bind (h2 e s hp)⟩
theorem Tree.sat_ofTr{α:Type}{P:Program}{Q:α->Prop}:∀{t:Tr α},(Tree.ofTr t).sat P Q->∃a,t.ev a/\Q a
 |.ret a,x=>⟨a,rfl,x⟩
 |.ite b t e,x=>by
  cases b
  ·obtain⟨a,h1,h2⟩:=Tree.sat_ofTr (x.2 rfl);exact⟨a,.inr ⟨rfl,h1⟩,h2⟩
  ·obtain⟨a,h1,h2⟩:=Tree.sat_ofTr (x.1 rfl);exact⟨a,.inl ⟨rfl,h1⟩,h2⟩
 |.need p t,x=>by obtain⟨a,h1,h2⟩:=Tree.sat_ofTr x.2;exact⟨a,⟨x.1,h1⟩,h2⟩
 |.dneed p _ t,x=>by obtain⟨a,h1,h2⟩:=Tree.sat_ofTr (t:=t) x.2;exact⟨a,⟨x.1,h1⟩,h2⟩
 |.fail,x=>x.elim
def decTr{α:Type}:Tr α->Tree α
 |.ret a=>.ret a
 |.ite b t e=>(match b with|true=>decTr t|false=>decTr e)
 |.need p t=>.need p (decTr t)
 |.dneed p d t=>(match d with|.isTrue _=>decTr t|.isFalse _=>.fail)
 |.fail=>.fail
def ofTrH{α:Type}(h:Hint)(t:Tr α):Tree α:=match h with
 |.run=>decTr t
 |_=>Tree.ofTr t
theorem sat_decTr{α:Type}{P:Program}{Q:α->Prop}:∀{t:Tr α},(decTr t).sat P Q->∃a,t.ev a/\Q a
 |.ret a,x=>⟨a,rfl,x⟩
 |.ite b t e,x=>by
  cases b
  ·obtain⟨a,h1,h2⟩:=sat_decTr (t:=e) x;exact⟨a,.inr ⟨rfl,h1⟩,h2⟩
  ·obtain⟨a,h1,h2⟩:=sat_decTr (t:=t) x;exact⟨a,.inl ⟨rfl,h1⟩,h2⟩
 |.need p t,x=>by obtain⟨a,h1,h2⟩:=sat_decTr (t:=t) x.2;exact⟨a,⟨x.1,h1⟩,h2⟩
 |.dneed p d t,x=>by
  cases d with
  |isTrue hp=>obtain⟨a,h1,h2⟩:=sat_decTr (t:=t) x;exact⟨a,⟨hp,h1⟩,h2⟩
  |isFalse hp=>exact x.elim
 |.fail,x=>x.elim
theorem sat_ofTrH{α:Type}{P:Program}{Q:α->Prop}{h:Hint}{t:Tr α}(x:(ofTrH h t).sat P Q):∃a,t.ev a/\Q a:=by
 unfold ofTrH at x
 split at x
 ·exact sat_decTr x
 ·exact Tree.sat_ofTr x
theorem hs_seq1{p:Par}{μ:Mu}{F:Nat->Prop}{hp:Heap}{w:World}(h:HS p μ F hp w):LH w μ F hp:=by
 refine⟨Ext.refl _ _,fun b hb=>hb,fun b hb=>⟨(h.fin b hb).1,.inl hb⟩,fun l blk hg=>?_,h.inj⟩
 obtain⟨q,h1,h2,h3⟩:=h.blk l blk hg
 refine⟨q,h1,?_,h3⟩
 cases q with
 |nil=>trivial
 |pl b o=>exact⟨h2.1,.inl ⟨l,blk,o,hg,h1⟩⟩
theorem tk_par{p:Par}{μ:Mu}{F:Nat->Prop}{hp:Heap}{w:World}(h:HS p μ F hp w){b:Nat}(hb:Tk hp μ b):p.T b\/p.w0.heap.size<=b:=by
 obtain⟨l,blk,o,hg,hm⟩:=hb
 obtain⟨q,h1,h2,h3⟩:=h.blk l blk hg
 rw[hm,Option.some.injEq] at h1;subst h1
 exact h2.2
theorem hs_seq2{p:Par}{μ μ':Mu}{F F':Nat->Prop}{hp hp':Heap}{w w':World}(h:HS p μ F hp w)(k:HS ⟨w,Tk hp μ,F⟩ μ' F' hp' w'):HS p μ' F' hp' w':=by
 have hsz:=h.ext.size
 have hplc:∀b,Tk hp μ b\/w.heap.size<=b->p.T b\/p.w0.heap.size<=b:=fun b hb=>hb.elim (tk_par h) fun hb=>.inr (by omega)
 refine⟨h.ext.trans (k.ext.mono fun b hb=>⟨by have:=hb.1;simp only;omega,fun ht=>?_⟩),fun b hb=>k.sub b (h.sub b hb),fun b hb=>⟨(k.fin b hb).1,?_⟩,fun l blk hg=>?_,k.inj⟩
 ·rcases tk_par h ht with h1|h1
  ·exact hb.2 h1
  ·have:=hb.1;omega
 ·rcases (k.fin b hb).2 with h1|h1|h1
  ·exact(h.fin b h1).2
  ·exact .inr (tk_par h h1)
  ·simp only at h1;exact .inr (.inr (by omega))
 ·obtain⟨q,h1,h2,h3⟩:=k.blk l blk hg
  refine⟨q,h1,?_,h3⟩
  cases q with
  |nil=>trivial
  |pl b o=>exact⟨h2.1,hplc b h2.2⟩
theorem ext_F{w w':World}{μ μ':Mu}{F F':Nat->Prop}{hp hp':Heap}(hl:LH w μ F hp)(k:HS ⟨w,Tk hp μ,F⟩ μ' F' hp' w'):Ext F w w' :=
 k.ext.mono fun b hb=>⟨(hl.fin b hb).1,fun⟨l,blk,o,hg,hm⟩=>(hl.blkAt hg hm).2 hb⟩
def putD(tm:List TV)(d:Option Nat)(tv:TV):Option (List TV) :=
 match d with
 |none=>some tm
 |some d=>if d<tm.length/\noTag tm d=true then some (tm.set d tv) else none
def putG{β:Type}(tm:List TV)(d:Option Nat)(tv:TV)(k:List TV->β)(f:β):β :=
 match d with
 |none=>k tm
 |some d=>bif noTagR tm d then setR tm d tv k f else f
theorem putG_eq{β:Type}{tm:List TV}{d:Option Nat}{tv:TV}{k:List TV->β}{f:β}:putG tm d tv k f=match putD tm d tv with|some t=>k t|none=>f:=by
 unfold putG putD
 cases d with
 |none=>rfl
 |some d =>
  simp only[noTagR_eq,setR_eq]
  cases noTag tm d with
  |false=>simp
  |true=>by_cases h:d<tm.length<;>simp[h]
def putF{β:Type}(tm:List TV)(d:Option Nat)(tv:TV)(q:Bool)(hp0 hp:Heap)(nx:Nat)(h:Hint)(k:AS->Tree β):Tree β :=
 fTV tv fun tv=>putG tm d tv (fun tm'=>if q then fNat nx fun nx=>k ⟨tm',hp0,nx,h⟩ else fHp hp fun hp=>fNat nx fun nx=>k ⟨tm',hp,nx,h⟩) .fail
theorem putF_eq{β:Type}{tm:List TV}{d:Option Nat}{tv:TV}{q:Bool}{hp0 hp:Heap}{nx:Nat}{h:Hint}{k:AS->Tree β}(hq:q=true->hp=hp0):putF tm d tv q hp0 hp nx h k=match putD tm d tv with|some tm'=>k ⟨tm',hp,nx,h⟩|none=>.fail:=by
 unfold putF
 simp only[fTV_eq,putG_eq,fNat_eq,fHp_eq]
 cases q with
 |true=>rw[hq rfl];rfl
 |false=>rfl
theorem RepT_put{w:World}{μ:Mu}{F:Nat->Prop}{tmps:Array Value}{v u:Value}{tv:TV}{d:Nat}(h:RepT w μ F tmps v tv)(hd:∀g b s,tv=.tag g b s->g≠d)(hlt:d<tmps.size):RepT w μ F (tmps.setIfInBounds d u) v tv:=by
 cases tv with
 |tag g b s =>
  have:=hd g b s rfl
  simp only[RepT,getD_set g hlt,this,if_false]
  exact h
 |_=>exact h
theorem sim_put{p:Par}{μ0 μ:Mu}{F:Nat->Prop}{st:AS}{a:Act}{w w':World}{N:Nat->Prop}{hp':Heap}{v:Value}{tv:TV}{d:Option Nat}{tm':List TV}{nx:Nat}{h:Hint}(hs:HS p μ F st.hp w)(hf:Fresh st.next μ)(h0:∀l q,μ0 l=some q->μ l=some q)
  (ht:TmOK w μ F st.tm a.tmps) (hsz:st.tm.length<=a.tmps.size) (hd:Marks p F w a.defers) (ho:OutT w μ F st.hp N hp' a.tmps v tv w') (hN:∀l,N l->l<nx) (hnx:st.next<=nx) (hpd:putD st.tm d tv=some tm') (htag:∀g b s,tv=.tag g b s->d≠some g) :
  Sim p μ0 ⟨tm',hp',nx,h⟩ (a.put d v) w':=by
 obtain⟨μ',F',e1,e2,e3,e4⟩:=ho
 have hext:=ext_F (hs_seq1 hs) e1
 have hfr:Fresh nx μ':=by
  intro l hl
  have:¬N l:=fun hn=>by have:=hN l hn;omega
  rw[e4 l this];exact hf l (by omega)
 refine⟨μ',F',hs_seq2 hs e1,hfr,fun l q hq=>e3 l q (h0 l q hq),?_,?_,by rw[Act.put_defers];exact hd.step (hs_seq1 hs) e1⟩
 ·cases d with
  |none =>
   simp only[putD,Option.some.injEq] at hpd;subst hpd
   exact fun t=>(ht t).mono hext e1.sub e3
  |some d =>
   simp only[putD] at hpd
   split at hpd
   ·rename_i hk
    simp only[Option.some.injEq] at hpd;subst hpd
    exact tmOK_put ht hext e1.sub e3 (by omega) hk.1 hk.2 (RepT_put e2 (fun g b s e he=>htag g b s e (by rw[he])) (by omega))
   ·cases hpd
 ·cases d with
  |none=>simp only[putD,Option.some.injEq] at hpd;subst hpd;exact hsz
  |some d =>
   simp only[putD] at hpd
   split at hpd
   ·simp only[Option.some.injEq] at hpd;subst hpd;simp[Act.put];exact hsz
   ·cases hpd
abbrev Inl:=FuncId->List SV->AS->Tree (SV×AS)
def isInl(C:Ctx)(tm:List TV)(o:Oper):Option (FuncId×List SV) :=
 match o.op with
 |.call c=>match callee (rhoR tm none (opSlots o)) c with
  |some (k,args)=>if(C.ctr k).isNone&&C.inl k then some (k,args) else none
  |none=>none
 |_=>none
def needT{α:Type}(l:List Prop)(t:Tree α):Tree α:=l.foldr (fun p t=>.need p t) t
theorem needT_sat{α:Type}{P:Program}{l:List Prop}{t:Tree α}{Q:α->Prop}(h:(needT l t).sat P Q):(∀p∈l,p)/\t.sat P Q:=by
 induction l with
 |nil=>exact⟨(fun p hp=>by cases hp),h⟩
 |cons q l ih =>
  obtain⟨h1,h2⟩:=h
  obtain⟨h3,h4⟩:=ih h2
  exact⟨fun p hp=>(List.mem_cons.1 hp).elim (fun e=>e▸h1) (h3 p),h4⟩
def branchB{α:Type}(h:Hint)(b:Bool)(kt kf:Hint->Tree α):Tree α :=
 match h with
 |.t h'=>.need (b=true) (kt h')
 |.f h'=>.need (b=false) (kf h')
 |.br l r=>.ite b (kt l) (kf r)
 |.run=>match b with|true=>kt .run|false=>kf .run
 |h=>.ite b (kt h) (kf h)
theorem branchB_sat{α:Type}{P:Program}{h:Hint}{b:Bool}{kt kf:Hint->Tree α}{Q:α->Prop}(hs:(branchB h b kt kf).sat P Q):∃h',(b=true/\(kt h').sat P Q)\/(b=false/\(kf h').sat P Q):=by
 unfold branchB at hs
 split at hs
 ·rename_i h';exact⟨h',.inl hs⟩
 ·rename_i h';exact⟨h',.inr hs⟩
 ·rename_i l r
  cases b
  ·exact⟨r,.inr ⟨rfl,hs.2 rfl⟩⟩
  ·exact⟨l,.inl ⟨rfl,hs.1 rfl⟩⟩
 ·cases b
  ·exact⟨_,.inr ⟨rfl,hs⟩⟩
  ·exact⟨_,.inl ⟨rfl,hs⟩⟩
 ·cases b
  ·exact⟨h,.inr ⟨rfl,hs.2 rfl⟩⟩
  ·exact⟨h,.inl ⟨rfl,hs.1 rfl⟩⟩
def nextOf(C:Ctx)(o:Oper)(n:Nat):Nat:=if quietC C o.op then n else n+1
def refT(P:Program):Nat->TypeId->Bool
 |0,_=>true
 |n+1,t=>match P.underlying t with
  |some .bool=>false
  |some (.int _)=>false
  |some .string=>false
  |some (.array _ e)=>refT P n e
  |some (.struct fs)=>fs.toList.any fun f=>refT P n f.type
  |some (.tuple ts)=>ts.toList.any fun t=>refT P n t
  |_=>true
def rwS(hp:Heap)(ls:List Nat)(s:SV):SV×List Prop:=match s with
 |.row l b o n e=>match view1 hp (.row l b o n e) with
  |some (a,ps,l)=>if l.all (fun x=>ls.contains x)=true then(a,ps) else(s,[])
  |none=>(s,[])
 |s=>(s,[])
def rwL(hp:Heap)(ls:List Nat):List SV->List SV×List Prop
 |[]=>([],[])
 |s::r=>((rwS hp ls s).1::(rwL hp ls r).1,(rwS hp ls s).2++(rwL hp ls r).2)
def rwV(hp:Heap)(ls:List Nat):SV->SV×List Prop
 |.agg cs=>(.agg (rwL hp ls cs).1,(rwL hp ls cs).2)
 |s=>rwS hp ls s
def rwTm(hp:Heap)(ls:List Nat):List TV->List TV×List Prop
 |[]=>([],[])
 |.ok s::r=>(.ok (rwV hp ls s).1::(rwTm hp ls r).1,(rwV hp ls s).2++(rwTm hp ls r).2)
 |tv::r=>(tv::(rwTm hp ls r).1,(rwTm hp ls r).2)
def rwHp(hp:Heap)(ls:List Nat):Nat->Heap->Heap×List Prop
 |_,[]=>([],[])
 |k,some (.cells cs)::r=>if ls.contains k then(none::(rwHp hp ls (k+1) r).1,(rwHp hp ls (k+1) r).2) else(some (.cells (rwL hp ls cs).1)::(rwHp hp ls (k+1) r).1,(rwL hp ls cs).2++(rwHp hp ls (k+1) r).2)
 |k,b::r=>((if ls.contains k then none else b)::(rwHp hp ls (k+1) r).1,(rwHp hp ls (k+1) r).2)
section
variable {w : World} {μ : Mu} {F : Nat → Prop} {hp : Heap} {ls : List Nat}
theorem rwS_sound(P:Program)(hl:LH w μ F hp){v:Value}{s:SV}(hs:Rep w μ F v s)(hps:∀p∈(rwS hp ls s).2,p):Rep w μ (FrzF F hp μ ls) v (rwS hp ls s).1:=by
 have keep:Rep w μ (FrzF F hp μ ls) v s:=hs.mono (Ext.refl _ _) (fun b h=>.inl h) (fun _ _ h=>h)
 unfold rwS at hps ⊢
 split
 ·rename_i l b o n e
  simp only at hps
  split
  ·rename_i a ps l' hv
   rw[hv] at hps
   simp only at hps
   split
   ·rename_i hall
    rw[if_pos hall] at hps
    refine emp_up (view1_sound (P:=P) hl hs hv hps (G:=FrzF F hp μ ls) (fun b h=>.inl h) fun b ⟨k,hk,x⟩=>.inr ⟨k,?_,x⟩)
    have:=(List.all_eq_true.1 hall) k hk
    simpa using this
   ·exact keep
  ·exact keep
 ·exact keep
where
 emp_up {w:World} {μ:Mu} {G:Nat->Prop} {v:Value} {s:SV} (h:Rep w emp G v s):Rep w μ G v s:=Rep.mono (Ext.refl _ _) (fun _ h=>h) (fun l q h=>by simp[emp] at h) h
theorem rwL_sound(P:Program)(hl:LH w μ F hp):∀{cs:List SV},(∀p∈(rwL hp ls cs).2,p)->(rwL hp ls cs).1.length=cs.length/\∀i v,i<cs.length->Rep w μ F v (cs.getD i uv)->Rep w μ (FrzF F hp μ ls) v ((rwL hp ls cs).1.getD i uv)
 |[],_=>⟨rfl,fun i v hi=>by simp at hi⟩
 |s::r,hps=>by
  simp only[rwL,List.mem_append] at hps
  obtain⟨h1,h2⟩:=rwL_sound P hl (cs:=r) fun p hp=>hps p (.inr hp)
  refine⟨by simp[rwL,h1],fun i v hi hr=>?_⟩
  cases i with
  |zero=>exact rwS_sound P hl (by simpa using hr) fun p hp=>hps p (.inl hp)
  |succ i=>simpa [rwL] using h2 i v (by simpa using hi) (by simpa using hr)
theorem rwV_sound(P:Program)(hl:LH w μ F hp){v:Value}{s:SV}(hs:Rep w μ F v s)(hps:∀p∈(rwV hp ls s).2,p):Rep w μ (FrzF F hp μ ls) v (rwV hp ls s).1:=by
 unfold rwV at hps ⊢
 split
 ·rename_i cs
  simp only at hps
  obtain⟨h1,h2⟩:=rwL_sound P hl (cs:=cs) hps
  cases hs with
  |agg vs _ hlen hi=>exact .agg vs _ (by rw[h1];exact hlen) fun i hi2=>h2 i _ (by omega) (hi i (by omega))
 ·rename_i hne
  have:rwV hp ls s=rwS hp ls s:=by
   cases s<;>first|rfl|exact(hne _ rfl).elim
  refine rwS_sound P hl hs ?_
  simpa using hps
theorem rwHp_get:∀{r:Heap} {k:Nat} {j:Nat} {blk:Blk},hget (rwHp hp ls k r).1 j=some blk ->
  k+j∉ls/\∃blk0,hget r j=some blk0/\(blk=blk0\/∃cs,blk0=.cells cs/\blk=.cells (rwL hp ls cs).1/\∀p∈(rwL hp ls cs).2,p∈(rwHp hp ls k r).2)
 |[],k,j,blk,h=>by simp[rwHp,hget_def] at h
 |b::r,k,0,blk,h=>by
  have e:hget (b::r) 0=b:=by simp[hget_def]
  rw[e]
  unfold rwHp at h ⊢
  split at h
  ·rename_i heq;cases heq
  ·rename_i cs r' heq
   cases heq
   split at h
   ·simp[hget_def] at h
   ·rename_i hc
    rw[if_neg hc]
    simp only[hget_def,List.getD_cons_zero,Option.some.injEq] at h
    subst h
    exact⟨by simpa using hc,_,rfl,.inr ⟨cs,rfl,rfl,fun p hp=>List.mem_append.2 (.inl hp)⟩⟩
  ·rename_i b' r' _ heq
   cases heq
   simp only[hget_def,List.getD_cons_zero] at h
   split at h
   ·cases h
   ·rename_i hc
    exact⟨by simpa using hc,blk,h,.inl rfl⟩
 |b::r,k,j+1,blk,h=>by
  have e:hget (b::r) (j+1)=hget r j:=by simp[hget_def]
  rw[e]
  have key:hget (rwHp hp ls (k+1) r).1 j=some blk/\∀p∈(rwHp hp ls (k+1) r).2,p∈(rwHp hp ls k (b::r)).2:=by
   unfold rwHp at h
   split at h
   ·rename_i heq;cases heq
   ·rename_i cs r' heq
    cases heq
    split at h
    ·rename_i hc
     refine⟨by simpa [hget_def] using h,fun p hp=>?_⟩
     conv=>rw[rwHp]
     rw[if_pos hc];exact hp
    ·rename_i hc
     refine⟨by simpa [hget_def] using h,fun p hp=>?_⟩
     conv=>rw[rwHp]
     rw[if_neg hc];exact List.mem_append.2 (.inr hp)
   ·rename_i b' r' hne heq
    cases heq
    refine⟨by simpa [hget_def] using h,fun p hp=>?_⟩
    rw[rwHp.eq_def]
    split
    ·rename_i heq;cases heq
    ·rename_i cs r2 heq;cases heq;exact(hne cs rfl).elim
    ·rename_i heq;cases heq;exact hp
  obtain⟨h1,blk0,h2,h3⟩:=rwHp_get (r:=r) (k:=k+1) (j:=j) key.1
  refine⟨by rw[show k+(j+1)=k+1+j by omega];exact h1,blk0,h2,?_⟩
  rcases h3 with h3|⟨cs,e1,e2,e3⟩
  ·exact .inl h3
  ·exact .inr ⟨cs,e1,e2,fun p hp=>key.2 p (e3 p hp)⟩
theorem rwHp_sound(P:Program)(hl:LH w μ F hp)(hps:∀p∈(rwHp hp ls 0 hp).2,p):Frz w μ F (FrzF F hp μ ls) hp (rwHp hp ls 0 hp).1:=by
 refine⟨lh_frz hl fun k blk hg=>?_,fun b hb=>tk_sub (fun k blk hg=>?_) hb,fun b hb=>.inl hb,frzF_tk (w:=w)⟩
 ·obtain⟨h1,blk0,h2,h3⟩:=rwHp_get hg
  rw[Nat.zero_add] at h1
  refine⟨h1,blk0,h2,fun q hq hb=>?_⟩
  have keep:BlkAt w μ (FrzF F hp μ ls) q blk0:=hb.mono (Ext.refl _ _) (fun b h=>.inl h) (fun _ _ h=>h) (fun _ _ _=>rfl)
  rcases h3 with rfl|⟨cs,rfl,rfl,h4⟩
  ·exact keep
  ·obtain⟨k1,k2⟩:=rwL_sound P hl (ls:=ls) (cs:=cs) fun p hp=>hps p (h4 p hp)
   cases q with
   |nil=>exact hb.elim
   |pl b o =>
    obtain⟨c,e,g1,g2,g3,g4⟩:=hb
    exact⟨c,e,g1,by rw[k1];exact g2,fun i hi=>k2 i _ (by omega) (g3 i (by omega)),fun i hi=>g4 i (by omega)⟩
 ·obtain⟨_,blk0,h2,_⟩:=rwHp_get hg
  exact⟨blk0,h2⟩
theorem rwTm_sound(P:Program)(hl:LH w μ F hp){tmps:Array Value}:∀{tm:List TV},(∀p∈(rwTm hp ls tm).2,p)->∀t,RepT w μ F tmps (tmps.getD t undef) (tget tm t)->RepT w μ (FrzF F hp μ ls) tmps (tmps.getD t undef) (tget (rwTm hp ls tm).1 t):=by
 have keep:∀(v:Value) (tv:TV),RepT w μ F tmps v tv->RepT w μ (FrzF F hp μ ls) tmps v tv:=fun v tv h=>h.mono (Ext.refl _ _) (fun b h=>.inl h) (fun _ _ h=>h)
 suffices H:∀{tm:List TV},(∀p∈(rwTm hp ls tm).2,p)->∀t v,RepT w μ F tmps v (tget tm t)->RepT w μ (FrzF F hp μ ls) tmps v (tget (rwTm hp ls tm).1 t) from fun {tm} h t hr=>H (tm:=tm) h t _ hr
 intro tm
 induction tm with
 |nil=>intro _ t v h;simp only[rwTm];exact keep _ _ h
 |cons a r ih =>
  intro hps t v h
  cases a with
  |ok s =>
   simp only[rwTm,List.mem_append] at hps ⊢
   cases t with
   |zero =>
    simp only[tget_def,List.getD_cons_zero] at h ⊢
    exact rwV_sound P hl h fun p hp=>hps p (.inl hp)
   |succ t =>
    have:=ih (fun p hp=>hps p (.inr hp)) t v (by simpa [tget_def] using h)
    simpa [tget_def] using this
  |_ =>
   simp only[rwTm] at hps ⊢
   cases t with
   |zero=>simp only[tget_def,List.getD_cons_zero] at h ⊢;exact keep _ _ h
   |succ t =>
    have:=ih hps t v (by simpa [tget_def] using h)
    simpa [tget_def] using this
theorem rwTm_len:∀(tm:List TV),(rwTm hp ls tm).1.length=tm.length
 |[]=>rfl
 |.ok s::r=>by simp[rwTm,rwTm_len r]
 |.unk::r=>by simp[rwTm,rwTm_len r]
 |.lit _::r=>by simp[rwTm,rwTm_len r]
 |.cnd _ _::r=>by simp[rwTm,rwTm_len r]
 |.tag _ _ _::r=>by simp[rwTm,rwTm_len r]
def frzSt(ls:List Nat)(st:AS):AS:={ st with tm:=(rwTm st.hp ls st.tm).1,hp:=(rwHp st.hp ls 0 st.hp).1 }
def frzP(ls:List Nat)(st:AS):List Prop:=(rwTm st.hp ls st.tm).2++(rwHp st.hp ls 0 st.hp).2
theorem frz_sim(P:Program){p:Par}{μ0:Mu}{st:AS}{a:Act}{w:World}{ls:List Nat}(hs:Sim p μ0 st a w)(hps:∀q∈frzP ls st,q):Sim p μ0 (frzSt ls st) a w:=by
 obtain⟨μ,F,hh,hf,h0,ht,hsz,d0,Ds,d1,d2,d3⟩:=hs
 have hl:=hs_seq1 hh
 have fz:=rwHp_sound P hl (ls:=ls) fun q hq=>hps q (List.mem_append.2 (.inr hq))
 refine⟨μ,FrzF F st.hp μ ls,hs_seq2 hh (hs_widen fz.tk fz.up fz.dn fz.lh),hf,h0,fun t=>rwTm_sound P hl (fun q hq=>hps q (List.mem_append.2 (.inl hq))) t (ht t),by simpa [frzSt,rwTm_len] using hsz,d0.mono (Ext.refl _ _) fz.up,Ds,d1,d2,fun D hD=>⟨(d3 D hD).1,(d3 D hD).2.1,fun hF=>?_⟩⟩
 rcases fz.dn D hF with h|h
 ·exact(d3 D hD).2.2 h
 ·rcases tk_cells hl h with⟨c,e,fr,hc⟩|⟨o,hc,hi⟩
  ·rw[(d3 D hD).2.1] at hc;cases hc
  ·rw[(d3 D hD).2.1] at hc;cases hc;cases hi
end
def frzOf(P:Program)(C:Ctx)(st:AS)(o:Oper):List Nat:=match o.op with
 |.call c=>match callee (rhoR st.tm none (opSlots o)) c with
  |some (k,args)=>match C.ctr k with
   |some _=>if refT P 20 o.type=true then(match views st.hp args with|some (_,_,ls)=>ls|none=>[]) else []
   |none=>[]
  |none=>[]
 |_=>[]
def fTmN{β:Type}:List TV->(List TV->β)->β
 |[],k=>k []
 |a::r,k=>fTV a fun a=>fTmN r fun r=>k (a::r)
theorem fTmN_eq{β:Type}(l:List TV)(k:List TV->β):fTmN l k=k l:=by
 induction l generalizing k with
 |nil=>rfl
 |cons a r ih=>simp[fTmN,ih]
def frcS{β:Type}(st:AS)(k:AS->β):β:=fTmN st.tm fun tm=>fHp st.hp fun hp=>k { st with tm:=tm,hp:=hp }
theorem frcS_eq{β:Type}(st:AS)(k:AS->β):frcS st k=k st:=by simp[frcS,fTmN_eq]
def doOp(P:Program)(C:Ctx)(o:Oper)(st:AS)(k:AS->Tree AS):Tree AS :=
 (ofTrH st.hint (opAll P C st.next st.tm st.hp none o)).bind fun r=>putF st.tm o.dst (.ok r.1) (quietC C o.op) st.hp r.2 (nextOf C o st.next) st.hint k
def doFree(P:Program)(C:Ctx)(inl:Inl)(o:Oper)(st:AS)(k:AS->Tree AS):Tree AS :=
 match isInl C st.tm o with
 |some (f,args)=>needT (cndsT st.tm (opSlots o)) ((inl f args st).bind fun r=>putF st.tm o.dst (.ok r.1) false [] r.2.hp r.2.next r.2.hint k)
 |none=>match frzOf P C st o with
  |[]=>doOp P C o st k
  |l::r=>needT (frzP (l::r) st) (frcS (frzSt (l::r) st) fun st=>doOp P C o st k)
def doSkip(o:Oper)(st:AS)(k:AS->Tree AS):Tree AS :=
 putF st.tm o.dst (.ok uv) true st.hp st.hp st.next st.hint k
def doSpec(P:Program)(C:Ctx)(ops:Array Oper)(o:Oper)(st:AS)(k:AS->Tree AS):Tree AS :=
 if quietC C o.op then
  (ofTrH st.hint (stepTr (isRun st.hint) P C ops st.next st.tm st.hp o)).bind fun r=>putF st.tm o.dst r.1 false st.hp r.2 st.next st.hint k
 else .fail
def runOps(P:Program)(C:Ctx)(inl:Inl)(ops:Array Oper):List Oper->AS->Tree AS
 |[],st=>.ret st
 |o::rest,st =>
  match gstat ops st.tm o with
  |.free=>doFree P C inl o st (runOps P C inl ops rest)
  |.skip=>doSkip o st (runOps P C inl ops rest)
  |.tagd g w (some b) =>
   if quietC C o.op&&(isInl C st.tm o).isNone&&!isRun st.hint&&!gInl C ops (some g) then doSpec P C ops o st (runOps P C inl ops rest)
   else branchB st.hint b
    (fun h=>if w then doFree P C inl o { st with tm:=st.tm.set g (.lit true),hint:=h } (runOps P C inl ops rest) else doSkip o { st with tm:=st.tm.set g (.lit true),hint:=h } (runOps P C inl ops rest))
    (fun h=>if w then doSkip o { st with tm:=st.tm.set g (.lit false),hint:=h } (runOps P C inl ops rest) else doFree P C inl o { st with tm:=st.tm.set g (.lit false),hint:=h } (runOps P C inl ops rest))
  |.tagd g w none=>doSpec P C ops o st (runOps P C inl ops rest)
  |.bad=>.fail
def InlOK(P:Program)(C:Ctx)(inl:Inl):Prop :=
 ∀(k:FuncId) (args:List SV) (st:AS) (R:SV×AS->Prop),C.inl k=true->(inl k args st).sat P R->∀(μ:Mu) (F:Nat->Prop) (w:World) (vs:Array Value),LH w μ F st.hp->GlobOK w F->Fresh st.next μ->Reps w μ F vs args ->
  Calls P k vs w fun e w'=>∃v s st' μ' F',e=.returned v/\R (s,st')/\HS ⟨w,Tk st.hp μ,F⟩ μ' F' st'.hp w'/\Rep w' μ' F' v s/\(∀l q,μ l=some q->μ' l=some q)/\Fresh st'.next μ'
theorem TmOK.lit{w:World}{μ:Mu}{F:Nat->Prop}{tm:List TV}{tmps:Array Value}{g:Nat}{b:Bool}(h:TmOK w μ F tm tmps)(hg:tget tm g=.ok (.d (.x (.bool b)))):TmOK w μ F (tm.set g (.lit b)) tmps:=by
 have hlt:g<tm.length:=by
  rcases Nat.lt_or_ge g tm.length with h1|h1
  ·exact h1
  ·simp[tget_def,List.getD,List.getElem?_eq_none h1] at hg
 intro t
 rw[tget_set _ _ _ _ hlt]
 split
 ·rename_i e;subst e
  have:=h t
  rw[hg] at this
  exact rep_x this
 ·exact h t
end
noncomputable section
variable [Globs]
def postR(Q:AS->Prop):Ex->AS->Prop:=fun e st=>e=.normal/\Q st
theorem wanted_step{P:Program}{ops:Array Oper}{o:Oper}{rest:List Oper}{a:Act}{w:World}{Q:Exit->Act->World->Prop}{r:Option Nat}
  (h:if Region.wanted o (yielded ops a.tmps) then o.wpIn (FW r) 0 P a w (wpListIn (FW r) 0 P ops Q rest) Q else wpListIn (FW r) 0 P ops Q rest (a.put o.dst undef) w):wpListIn (FW r) 0 P ops Q (o::rest) a w:=by
 unfold wpListIn
 split
 ·rename_i hw;rw[if_pos hw] at h;exact h
 ·rename_i hw;rw[if_neg hw] at h;exact⟨fun _ _=>trivial,h⟩
theorem newId_lt{C:Ctx}{o:Oper}{n:Nat}:∀l,NewIdC C n o l->l<nextOf C o n:=by
 rintro l ⟨rfl,hq⟩
 simp[nextOf,hq]
theorem le_nextOf{C:Ctx}(o:Oper)(n:Nat):n<=nextOf C o n:=by unfold nextOf;split<;>omega
theorem isInl_spec{C:Ctx}{tm:List TV}{o:Oper}{k:FuncId}{args:List SV}(h:isInl C tm o=some (k,args)):∃c,o.op=.call c/\callee (rhoR tm none (opSlots o)) c=some (k,args)/\C.inl k=true:=by
 unfold isInl at h
 split at h
 ·rename_i c hop
  split at h
  ·rename_i k' args' hc
   split at h
   ·rename_i hk
    simp only[Option.some.injEq,Prod.mk.injEq] at h
    obtain⟨rfl,rfl⟩:=h
    simp only[Bool.and_eq_true] at hk
    exact⟨c,hop,hc,hk.2⟩
   ·cases h
  ·cases h
 ·cases h
section
variable {P : Program} {C : Ctx} {inl : Inl} {ops : Array Oper} {p : Par} {μ0 : Mu} {Q : AS → Prop} {r : Option Nat}
theorem doOp_sound(hC:CtxOK P C){o:Oper}{st:AS}{k:AS->Tree AS}{a:Act}{w:World}{K:Act->World->Prop}{Qx:Exit->Act->World->Prop}(hs:Sim p μ0 st a w)(hk:(doOp P C o st k).sat P Q)
  (hK:∀st' a' w',(k st').sat P Q->Sim p μ0 st' a' w'->K a' w'):o.wpIn (FW r) 0 P a w K Qx:=by
 obtain⟨μ,F,hh,hf,h0,ht,hsz,hd⟩:=hs
 unfold doOp at hk
 have hk:=Tree.sat_bind hk
 obtain⟨r0,h1,h2⟩:=sat_ofTrH hk
 rw[putF_eq (fun hq=>opAll_quiet (s:=r0.1) (hp':=r0.2) hq h1)] at h2
 split at h2
 ·rename_i tm' hpd
  refine opAll_sound hC (hs_seq1 hh) hd.1 (hf _ (Nat.le_refl _)) ht (fun g b e=>by cases e) h1 fun v w' ho=>hK _ _ _ h2 ?_
  obtain⟨μ',F',e1,e2,e3,e4⟩:=ho
  exact sim_put (tv:=.ok r0.1) hh hf h0 ht hsz hd ⟨μ',F',e1,e2,e3,e4⟩ newId_lt (le_nextOf _ _) hpd (fun g b s e=>by cases e)
 ·exact h2.elim
theorem doFree_sound(hC:CtxOK P C)(hI:InlOK P C inl){o:Oper}{st:AS}{k:AS->Tree AS}{a:Act}{w:World}{K:Act->World->Prop}{Qx:Exit->Act->World->Prop}(hs:Sim p μ0 st a w)(hk:(doFree P C inl o st k).sat P Q)
  (hK:∀st' a' w',(k st').sat P Q->Sim p μ0 st' a' w'->K a' w'):o.wpIn (FW r) 0 P a w K Qx:=by
 obtain⟨μ,F,hh,hf,h0,ht,hsz,hd⟩:=hs
 unfold doFree at hk
 split at hk
 ·rename_i f args hin
  obtain⟨c,hop,hcal,hif⟩:=isInl_spec hin
  obtain⟨hn,hk⟩:=needT_sat hk
  have hk:=Tree.sat_bind hk
  obtain⟨vs,h1,h2⟩:=callee_run (rhoR_sound hd.1 ht (fun g b e=>by cases e) hn) hop (hC.inl f hif) hcal
  refine⟨fun _ _=>trivial,?_⟩
  rw[semAt_eq (fun c h=>by rw[hop] at h;cases h),h1]
  refine⟨(fun h=>by cases h),callsW r _ ((hI f args st _ hif hk μ F w vs (hs_seq1 hh) hd.1 hf h2).mono ?_)⟩
  rintro e w' ⟨v,s,st',μ',F',rfl,hR,e1,e2,e3,e4⟩
  rw[putF_eq (fun h=>by cases h)] at hR
  split at hR
  ·rename_i tm' hpd
   refine hK _ _ _ hR ?_
   have hext:=ext_F (hs_seq1 hh) e1
   refine⟨μ',F',hs_seq2 hh e1,e4,fun l q hq=>e3 l q (h0 l q hq),?_,?_,by rw[Act.put_defers];exact hd.step (hs_seq1 hh) e1⟩
   ·cases hdst:o.dst with
    |none =>
     rw[hdst] at hpd
     simp only[putD,Option.some.injEq] at hpd;subst hpd
     exact fun t=>(ht t).mono hext e1.sub e3
    |some d =>
     rw[hdst] at hpd
     simp only[putD] at hpd
     split at hpd
     ·rename_i hk2
      simp only[Option.some.injEq] at hpd;subst hpd
      exact tmOK_put ht hext e1.sub e3 (by omega) hk2.1 hk2.2 e2
     ·cases hpd
   ·cases hdst:o.dst with
    |none=>rw[hdst] at hpd;simp only[putD,Option.some.injEq] at hpd;subst hpd;exact hsz
    |some d =>
     rw[hdst] at hpd
     simp only[putD] at hpd
     split at hpd
     ·simp only[Option.some.injEq] at hpd;subst hpd;simp[Act.put];exact hsz
     ·cases hpd
  ·exact hR.elim
 ·split at hk
  ·exact doOp_sound hC ⟨μ,F,hh,hf,h0,ht,hsz,hd⟩ hk hK
  ·rename_i l r' _
   obtain⟨hps,hk⟩:=needT_sat hk
   rw[frcS_eq] at hk
   exact doOp_sound hC (frz_sim P ⟨μ,F,hh,hf,h0,ht,hsz,hd⟩ hps) hk hK
theorem doSkip_sound{o:Oper}{st:AS}{k:AS->Tree AS}{a:Act}{w:World}{K:Act->World->Prop}(hs:Sim p μ0 st a w)(hk:(doSkip o st k).sat P Q)(hK:∀st' a' w',(k st').sat P Q->Sim p μ0 st' a' w'->K a' w'):K (a.put o.dst undef) w:=by
 obtain⟨μ,F,hh,hf,h0,ht,hsz,hd⟩:=hs
 unfold doSkip at hk
 rw[putF_eq (fun _=>rfl)] at hk
 split at hk
 ·rename_i tm' hpd
  refine hK _ _ _ hk ?_
  exact sim_put (N:=fun _=>False) (tv:=.ok uv) hh hf h0 ht hsz hd ⟨μ,F,hs_seq1 hh,.d (.x _),fun _ _ h=>h,fun _ _=>rfl⟩ (fun l h=>h.elim) (Nat.le_refl _) hpd (fun g b s e=>by cases e)
 ·exact hk.elim
theorem doSpec_sound(hC:CtxOK P C){o:Oper}{st:AS}{k:AS->Tree AS}{a:Act}{w:World}{K:Act->World->Prop}{Qx:Exit->Act->World->Prop}(hs:Sim p μ0 st a w)(hk:(doSpec P C ops o st k).sat P Q)(hK:∀st' a' w',(k st').sat P Q->Sim p μ0 st' a' w'->K a' w') :
  if Region.wanted o (yielded ops a.tmps) then o.wpIn (FW r) 0 P a w K Qx else K (a.put o.dst undef) w:=by
 obtain⟨μ,F,hh,hf,h0,ht,hsz,hd⟩:=hs
 unfold doSpec at hk
 split at hk
 ·rename_i hq
  have hk:=Tree.sat_bind hk
  obtain⟨r0,h1,h2⟩:=sat_ofTrH hk
  rw[putF_eq (fun h=>by cases h)] at h2
  split at h2
  ·rename_i tm' hpd
   refine stepTr_sound hC (hs_seq1 hh) hd.1 (hf _ (Nat.le_refl _)) ht h1 fun v w' ho=>hK _ _ _ h2 ?_
   refine sim_put hh hf h0 ht hsz hd ho (fun l hl=>by rw[NewIdC,hq] at hl;cases hl.2) (Nat.le_refl _) hpd (fun g b s e=>?_)
   unfold stepTr at h1
   split at h1
   ·split at h1
    ·simp only[Tr.ev] at h1;rw[h1] at e;cases e
    obtain⟨r',h3,h4⟩:=Tr.ev_bind h1
    obtain⟨tv,hp'⟩:=r0
    simp only at e
    obtain⟨_,h5|⟨_,h5,_⟩⟩:=litOf_ev h4<;>(rw[h5] at e;cases e)
   ·simp only[Tr.ev] at h1;rw[h1] at e;cases e
   ·split at h1
    ·rename_i hq2
     simp only[Bool.and_eq_true,bne_iff_ne,ne_eq] at hq2
     obtain⟨tv,hp'⟩:=r0
     obtain⟨_,s',h4,_⟩:=specT_ev h1
     simp only at e
     rw[h4] at e
     cases e
     exact hq2.2
    ·exact h1.elim
   ·exact h1.elim
  ·exact h2.elim
 ·exact hk.elim
theorem runOps_sound(hC:CtxOK P C)(hI:InlOK P C inl):∀(l:List Oper) (st:AS) (a:Act) (w:World),Sim p μ0 st a w->(runOps P C inl ops l st).sat P Q->wpListIn (FW r) 0 P ops (conc p μ0 (postR Q)) l a w
 |[],st,a,w,hs,hq=>⟨st,⟨rfl,hq⟩,hs⟩
 |o::rest,st,a,w,hs,hq=>by
  have ih:∀st' a' w',(runOps P C inl ops rest st').sat P Q->Sim p μ0 st' a' w'->wpListIn (FW r) 0 P ops (conc p μ0 (postR Q)) rest a' w':=fun st' a' w' h1 h2=>runOps_sound hC hI rest st' a' w' h2 h1
  have hs0:=hs
  obtain⟨μ,F,hh,hf,h0,ht,hsz,hd⟩:=hs
  apply wanted_step
  unfold runOps at hq
  split at hq
  ·rename_i hgs
   rw[if_pos (gstat_free ht hgs)]
   exact doFree_sound hC hI hs0 hq ih
  ·rename_i hgs
   rw[if_neg (gstat_skip ht hgs)]
   exact doSkip_sound hs0 hq ih
  ·rename_i g w0 b hgs
   split at hq
   ·exact doSpec_sound hC hs0 hq ih
   ·obtain⟨j,e1,e2,e3⟩:=gstat_tagd hgs
    have hg:=e3 b rfl
    have hval:a.tmps.getD g undef=.bool b:=by have:=ht g;rw[hg] at this;exact rep_x this
    have hwant:=wanted_iff (tmps:=a.tmps) e1 e2
    obtain⟨h',⟨rfl,hq2⟩|⟨rfl,hq2⟩⟩:=branchB_sat hq
    ·have hs1:Sim p μ0 { st with tm:=st.tm.set g (.lit true),hint:=h' } a w:=⟨μ,F,hh,hf,h0,ht.lit hg,by simpa using hsz,hd⟩
     cases w0 with
     |true =>
      rw[if_pos (hwant.2 hval)]
      exact doFree_sound hC hI hs1 hq2 ih
     |false =>
      rw[if_neg (fun h=>by have:=hwant.1 h;rw[hval] at this;cases this)]
      exact doSkip_sound hs1 hq2 ih
    ·have hs1:Sim p μ0 { st with tm:=st.tm.set g (.lit false),hint:=h' } a w:=⟨μ,F,hh,hf,h0,ht.lit hg,by simpa using hsz,hd⟩
     cases w0 with
     |true =>
      rw[if_neg (fun h=>by have:=hwant.1 h;rw[hval] at this;cases this)]
      exact doSkip_sound hs1 hq2 ih
     |false =>
      rw[if_pos (hwant.2 hval)]
      exact doFree_sound hC hI hs1 hq2 ih
  ·exact doSpec_sound hC hs0 hq ih
  ·exact hq.elim
end
def absRes(P:Program)(st:AS):ResultVar->Tr SV
 |.tmp t=>Tr.ofOpt (tvStrict none (tget st.tm t))
 |.cell t ty=>match tvStrict none (tget st.tm t) with
  |some p=>absLoad P st.hp ty p
  |none=>.fail
def absResults(P:Program)(rs:Array ResultVar)(st:AS):Tr SV :=
 match rs.toList with
 |[]=>.ret (.tup [])
 |[x]=>absRes P st x
 |[x,y]=>(absRes P st x).bind fun a=>(absRes P st y).bind fun b=>.ret (.tup [a,b])
 |[x,y,z]=>(absRes P st x).bind fun a=>(absRes P st y).bind fun b=>(absRes P st z).bind fun c=>.ret (.tup [a,b,c])
 |[x,y,z,u]=>(absRes P st x).bind fun a=>(absRes P st y).bind fun b=>(absRes P st z).bind fun c=>(absRes P st u).bind fun d=>.ret (.tup [a,b,c,d])
 |_=>.fail
def resOne(tmps:Array Value):ResultVar->Sem Value
 |.tmp t=>pure (tmps.getD t undef)
 |.cell a t=>do loadVar t (<- asAddr (tmps.getD a undef))
theorem absRes_sound{P:Program}{w:World}{μ:Mu}{F:Nat->Prop}{st:AS}{tmps:Array Value}{x:ResultVar}{s:SV}(hl:LH w μ F st.hp)(ht:TmOK w μ F st.tm tmps)(he:(absRes P st x).ev s):∃v,(resOne tmps x).run P w=.ok v w/\Rep w μ F v s:=by
 unfold absRes at he
 split at he
 ·rename_i t
  exact⟨_,rfl,tvStrict_sound (ht t) (fun g b e=>by cases e) (Tr.ev_ofOpt he)⟩
 ·rename_i t ty
  split at he
  ·rename_i q hq
   have hr:=tvStrict_sound (ht t) (fun g b e=>by cases e) hq
   obtain⟨u,h1,h2⟩:=absLoad_sound hl hr he
   refine⟨u,?_,h2⟩
   unfold resOne
   unfold Instr.loadAt at h1
   have key:∀v,(∃ad,v=.pointer (some ad))->(Instr.sureAddr v >>= loadVar ty:Sem Value).run P w=(asAddr v >>= loadVar ty:Sem Value).run P w:=by
    rintro v ⟨ad,rfl⟩;rfl
   have hp:∃ad,tmps.getD t undef=.pointer (some ad):=by
    generalize tmps.getD t undef=v at hr
    cases hr with
    |ptr=>exact⟨_,rfl⟩
    |pix=>exact⟨_,rfl⟩
    |rop=>exact⟨_,rfl⟩
    |d hd=>unfold absLoad at he;split at he<;>exact he.elim
    |_=>unfold absLoad at he;split at he<;>exact he.elim
   have:=key _ hp
   simp only[bind,Sem.bind] at this h1 ⊢
   exact this.symm.trans h1
  ·exact he.elim
def retV:List Value->Value
 |[v]=>v
 |vs=>.tuple vs.toArray
theorem results_run{P:Program}{fn:Func}{tmps:Array Value}{w:World}{rs:List ResultVar}(h:fn.results=rs.toArray){vs:List Value}(hvs:∀i (hi:i<rs.length),∃v,vs[i]?=some v/\(resOne tmps rs[i]).run P w=.ok v w)(hlen:vs.length=rs.length)(hn:rs.length<=4) :
  (results fn tmps).run P w=.ok (retV vs) w:=by
 have hres:results fn tmps=(do let vs <- fn.results.mapM (resOne tmps);pure (if h:vs.size=1 then vs[0] else .tuple vs):Sem Value):=rfl
 rw[hres,h]
 clear h
 match rs,vs,hlen,hn,hvs with
 |[],[],_,_,hvs=>simp[retV]
 |[x],[a],_,_,hvs =>
  obtain⟨v,e1,e2⟩:=hvs 0 (by simp)
  simp at e1 e2;subst e1
  simp[e2,retV]
 |[x,y],[a,b],_,_,hvs =>
  obtain⟨v,e1,e2⟩:=hvs 0 (by simp)
  simp at e1 e2;subst e1
  obtain⟨v,e3,e4⟩:=hvs 1 (by simp)
  simp at e3 e4;subst e3
  simp[e2,e4,retV]
 |[x,y,z],[a,b,c],_,_,hvs =>
  obtain⟨v,e1,e2⟩:=hvs 0 (by simp)
  simp at e1 e2;subst e1
  obtain⟨v,e3,e4⟩:=hvs 1 (by simp)
  simp at e3 e4;subst e3
  obtain⟨v,e5,e6⟩:=hvs 2 (by simp)
  simp at e5 e6;subst e5
  simp[e2,e4,e6,retV]
 |[x,y,z,u],[a,b,c,d],_,_,hvs =>
  obtain⟨v,e1,e2⟩:=hvs 0 (by simp)
  simp at e1 e2;subst e1
  obtain⟨v,e3,e4⟩:=hvs 1 (by simp)
  simp at e3 e4;subst e3
  obtain⟨v,e5,e6⟩:=hvs 2 (by simp)
  simp at e5 e6;subst e5
  obtain⟨v,e7,e8⟩:=hvs 3 (by simp)
  simp at e7 e8;subst e7
  simp[e2,e4,e6,e8,retV]
end
noncomputable section
variable [Globs]
theorem absResults_sound{P:Program}{fn:Func}{w:World}{μ:Mu}{F:Nat->Prop}{st:AS}{tmps:Array Value}{s:SV}(hl:LH w μ F st.hp)(ht:TmOK w μ F st.tm tmps)(he:(absResults P fn.results st).ev s):∃v,(results fn tmps).run P w=.ok v w/\Rep w μ F v s:=by
 have hrs:fn.results=fn.results.toList.toArray:=by simp
 unfold absResults at he
 split at he
 ·rename_i h
  simp only[Tr.ev] at he;subst he
  rw[h] at hrs
  exact⟨_,results_run hrs (vs:=[]) (fun i hi=>by simp at hi) rfl (by simp),.tup _ _ rfl fun i hi=>by simp at hi⟩
 ·rename_i x h
  obtain⟨v,h1,h2⟩:=absRes_sound hl ht he
  rw[h] at hrs
  refine⟨_,results_run hrs (vs:=[v]) (fun i hi=>?_) rfl (by simp),h2⟩
  obtain rfl:i=0:=by simpa using hi
  exact⟨v,rfl,h1⟩
 ·rename_i x y h
  obtain⟨a,h1,h2⟩:=Tr.ev_bind he
  obtain⟨b,h3,h4⟩:=Tr.ev_bind h2
  simp only[Tr.ev] at h4;subst h4
  obtain⟨u,e1,e2⟩:=absRes_sound hl ht h1
  obtain⟨v,e3,e4⟩:=absRes_sound hl ht h3
  rw[h] at hrs
  refine⟨_,results_run hrs (vs:=[u,v]) (fun i hi=>?_) rfl (by simp),.tup _ _ rfl fun i hi=>?_⟩
  ·match i,hi with
   |0,_=>exact⟨u,rfl,e1⟩
   |1,_=>exact⟨v,rfl,e3⟩
  ·match i,hi with
   |0,_=>exact e2
   |1,_=>exact e4
 ·rename_i x y z h
  obtain⟨a,h1,h2⟩:=Tr.ev_bind he
  obtain⟨b,h3,h4⟩:=Tr.ev_bind h2
  obtain⟨c,h5,h6⟩:=Tr.ev_bind h4
  simp only[Tr.ev] at h6;subst h6
  obtain⟨u,e1,e2⟩:=absRes_sound hl ht h1
  obtain⟨v,e3,e4⟩:=absRes_sound hl ht h3
  obtain⟨t,e5,e6⟩:=absRes_sound hl ht h5
  rw[h] at hrs
  refine⟨_,results_run hrs (vs:=[u,v,t]) (fun i hi=>?_) rfl (by simp),.tup _ _ rfl fun i hi=>?_⟩
  ·match i,hi with
   |0,_=>exact⟨u,rfl,e1⟩
   |1,_=>exact⟨v,rfl,e3⟩
   |2,_=>exact⟨t,rfl,e5⟩
  ·match i,hi with
   |0,_=>exact e2
   |1,_=>exact e4
   |2,_=>exact e6
 ·rename_i x y z u h
  obtain⟨a,h1,h2⟩:=Tr.ev_bind he
  obtain⟨b,h3,h4⟩:=Tr.ev_bind h2
  obtain⟨c,h5,h6⟩:=Tr.ev_bind h4
  obtain⟨d,h7,h8⟩:=Tr.ev_bind h6
  simp only[Tr.ev] at h8;subst h8
  obtain⟨p,e1,e2⟩:=absRes_sound hl ht h1
  obtain⟨v,e3,e4⟩:=absRes_sound hl ht h3
  obtain⟨t,e5,e6⟩:=absRes_sound hl ht h5
  obtain⟨r,e7,e8⟩:=absRes_sound hl ht h7
  rw[h] at hrs
  refine⟨_,results_run hrs (vs:=[p,v,t,r]) (fun i hi=>?_) rfl (by simp),.tup _ _ rfl fun i hi=>?_⟩
  ·match i,hi with
   |0,_=>exact⟨p,rfl,e1⟩
   |1,_=>exact⟨v,rfl,e3⟩
   |2,_=>exact⟨t,rfl,e5⟩
   |3,_=>exact⟨r,rfl,e7⟩
  ·match i,hi with
   |0,_=>exact e2
   |1,_=>exact e4
   |2,_=>exact e6
   |3,_=>exact e8
 ·exact he.elim
def untag(tm:List TV):List TV:=tm.map fun|.tag _ _ _=>.unk|tv=>tv
def untagF{β:Type}(tm:List TV):(List TV->β)->β :=
 List.rec (motive:=fun _=>(List TV->β)->β) (fun k=>k []) (fun a _ ih k=>TV.rec (motive:=fun _=>β) (ih fun r=>k (.unk::r)) (fun b=>ih fun r=>k (.lit b::r)) (fun s=>ih fun r=>k (.ok s::r)) (fun p s=>ih fun r=>k (.cnd p s::r)) (fun _ _ _=>ih fun r=>k (.unk::r)) a) tm
theorem untagF_eq{β:Type}(tm:List TV)(k:List TV->β):untagF tm k=k (untag tm):=by
 induction tm generalizing k with
 |nil=>rfl
 |cons a r ih=>cases a<;>exact ih _
theorem tget_untag(tm:List TV)(t:Nat):tget (untag tm) t=(match tget tm t with|.tag _ _ _=>.unk|tv=>tv):=by
 simp only[tget_def,untag]
 simp only[List.getD,List.getElem?_map]
 cases tm[t]?<;>rfl
theorem TmOK.untag{w:World}{μ:Mu}{F:Nat->Prop}{tm:List TV}{tmps:Array Value}(h:TmOK w μ F tm tmps):TmOK w μ F (Sx.untag tm) tmps:=by
 intro t
 rw[tget_untag]
 have:=h t
 split
 ·trivial
 ·exact this
theorem Sim.untag{p:Par}{μ0:Mu}{st:AS}{a:Act}{w:World}(h:Sim p μ0 st a w):Sim p μ0 { st with tm:=Sx.untag st.tm } a w:=by
 obtain⟨μ,F,hh,hf,h0,ht,hsz,hd⟩:=h
 exact⟨μ,F,hh,hf,h0,ht.untag,by simpa [Sx.untag] using hsz,hd⟩
def startTm(fn:Func)(args:List SV):List TV:=args.map .ok++List.replicate (fn.ntmps-args.length) .unk
def rhoC(tm:List TV):Operand->Option SV
 |.tmp t=>tvStrict none (tget tm t)
 |x=>rho tm none x
def exec(P:Program)(C:Ctx)(dr:(FuncId->List SV->AS->Tree (SV×AS))->Array Oper->AS->Tree AS):Nat->Code->AS->Tree (Ex×AS)
 |0,_,_=>.fail
 |n+1,c,st =>
  let inl:FuncId->List SV->AS->Tree (SV×AS):=fun k args st =>
   match C.mu k with
   |some m=>(Tree.ofTr (m args st.hp st.next)).bind fun r=>.ret (r.1,{ st with hp:=r.2.1,next:=r.2.2 })
   |none=>match P.funcs[k]? with
    |none=>.fail
    |some fn=>match fn.body with
     |none=>.fail
     |some body=>(exec P C dr n body { st with tm:=startTm fn args }).bind fun r=>match r.1 with
      |.normal=>(Tree.ofTr (absResults P fn.results r.2)).bind fun s=>.ret (s,r.2)
      |.ret=>(Tree.ofTr (absResults P fn.results r.2)).bind fun s=>.ret (s,r.2)
      |_=>.fail
  match c with
  |.skip=>.ret (.normal,st)
  |.label _=>.ret (.normal,st)
  |.ret=>.ret (.ret,st)
  |.exit id=>.ret (.exit id,st)
  |.region _ ops false=>untagF st.tm fun tm=>(runOps P C inl ops ops.toList { st with tm:=tm }).bind fun s=>.ret (.normal,s)
  |.region _ ops true=>untagF st.tm fun tm=>(dr inl ops { st with tm:=tm }).bind fun s=>.ret (.normal,s)
  |.seq x y=>(exec P C dr n x st).bind fun r=>match r.1 with
   |.normal=>match r.2.hint with
    |.c 0 h=>.code y { r.2 with hint:=h } fun e s=>.ret (e,s)
    |.c (m+1) h=>exec P C dr n y { r.2 with hint:=.c m h }
    |_=>exec P C dr n y r.2
   |e=>.ret (e,r.2)
  |.cond x y z=>match rhoC st.tm x with
   |some (.d (.x (.bool b)))=>branchB st.hint b (fun h=>exec P C dr n y { st with hint:=h }) (fun h=>exec P C dr n z { st with hint:=h })
   |_=>.fail
  |.block id x=>(exec P C dr n x st).bind fun r=>match r.1 with
   |.exit id'=>if id'=id then .ret (.normal,r.2) else .ret (.exit id',r.2)
   |e=>.ret (e,r.2)
  |.scope x=>exec P C dr n x st
  |.loop x=>match st.hint with
   |.u h=>(exec P C dr n x { st with hint:=h }).bind fun r=>match r.1 with
    |.normal=>exec P C dr n (.loop x) r.2
    |e=>.ret (e,r.2)
   |.run=>(exec P C dr n x st).bind fun r=>match r.1 with
    |.normal=>exec P C dr n (.loop x) r.2
    |e=>.ret (e,r.2)
   |_=>.code (.loop x) st fun e s=>.ret (e,s)
  |c=>.code c st fun e s=>.ret (e,s)
def DrOK(P:Program)(C:Ctx)(dr:(FuncId->List SV->AS->Tree (SV×AS))->Array Oper->AS->Tree AS):Prop :=
 ∀inl,InlOK P C inl->∀(id:Nat) (ops:Array Oper) (st:AS) (Q:AS->Prop),(dr inl ops st).sat P Q->Triple P (.region id ops true) st (postR Q)
theorem conc_mono{p:Par}{μ0:Mu}{Q R:Ex->AS->Prop}(h:∀e s,Q e s->R e s):∀e a w,conc p μ0 Q e a w->conc p μ0 R e a w:=by
 intro e a w hc
 cases e<;>first|exact hc.elim|(obtain⟨s,h1,h2⟩:=hc;exact⟨s,h _ _ h1,h2⟩)
theorem Triple.mono{P:Program}{c:Code}{st:AS}{Q R:Ex->AS->Prop}(h:Triple P c st Q)(hq:∀e s,Q e s->R e s):Triple P c st R :=
 fun p μ0 a w hs=>WP.mono (conc_mono hq) (h p μ0 a w hs)
theorem exec_sound{P:Program}{C:Ctx}{dr:(FuncId->List SV->AS->Tree (SV×AS))->Array Oper->AS->Tree AS}(hC:CtxOK P C)(hD:DrOK P C dr) :
  ∀(n:Nat) (c:Code) (st:AS) (Q:Ex×AS->Prop),(exec P C dr n c st).sat P Q->Triple P c st fun e s=>Q (e,s)
 |0,c,st,Q,h=>h.elim
 |n+1,c,st,Q,h=>by
  have ih:=exec_sound hC hD n
  unfold exec at h
  generalize hinl:(fun(k:FuncId) (args:List SV) (st:AS)=>(match C.mu k with
   |some m=>(Tree.ofTr (m args st.hp st.next)).bind fun r=>.ret (r.1,{ st with hp:=r.2.1,next:=r.2.2 })
   |none=>match P.funcs[k]? with
    |none=>Tree.fail
    |some fn=>match fn.body with
     |none=>.fail
     |some body=>(exec P C dr n body { st with tm:=startTm fn args }).bind fun r=>match r.1 with
      |.normal=>(Tree.ofTr (absResults P fn.results r.2)).bind fun s=>.ret (s,r.2)
      |.ret=>(Tree.ofTr (absResults P fn.results r.2)).bind fun s=>.ret (s,r.2)
      |_=>.fail:Tree (SV×AS)))=inl at h
  have hI:InlOK P C inl:=by
   subst hinl
   intro k args st0 R hk hs μ F w vs hl hgl hf hr
   simp only at hs
   split at hs
   ·rename_i m hm
    have hs:=Tree.sat_bind hs
    obtain⟨r,h1,h2⟩:=Tree.sat_ofTr hs
    refine(hC.mu k m hm args st0.hp st0.next r h1 μ F w vs hl hgl hf hr).mono ?_
    rintro e w' ⟨v,s,hp',nx',μ',F',rfl,e1,k1,k2,k3,k4⟩
    subst e1
    exact⟨v,s,{ st0 with hp:=hp',next:=nx' },μ',F',rfl,h2,k1,k2,k3,k4⟩
   split at hs
   ·exact hs.elim
   ·rename_i fn hfn
    split at hs
    ·exact hs.elim
    ·rename_i body hbody
     have hs:=Tree.sat_bind hs
     refine callsIn_wide.1 (callsIn_of_wp_marks (F:=Fence.wide) (n:=0) hfn hbody trivial ?_ rfl)
     have hsim:Sim ⟨w,Tk st0.hp μ,F⟩ μ { st0 with tm:=startTm fn args } { tmps:=vs++Array.replicate (fn.ntmps-vs.size) undef,defers:=[] } w:=by
      refine⟨μ,F,hl,hf,fun _ _ h=>h,?_,?_,Marks.nil _ _ _ hgl⟩
      ·intro t
       simp only[startTm,tget_def]
       simp only[List.getD,List.getElem?_append,List.length_map]
       split
       ·rename_i hlt
        have hlt':t<vs.size:=by rw[hr.1];exact hlt
        have:=hr.2 t hlt
        simp only[List.getElem?_map,List.getElem?_eq_getElem hlt,Option.map_some,Option.getD_some]
        simp only[RepT]
        simpa [Array.getD_eq_getD_getElem?,Array.getElem?_append,hlt',List.getD,hlt] using this
       ·by_cases h2:t-args.length<fn.ntmps-args.length
        ·simp[List.getElem?_replicate,h2,RepT]
        ·simp[List.getElem?_replicate,h2,RepT]
      ·simp[startTm,hr.1]
     refine Go.wpIn_mono (ih body _ _ hs _ _ _ _ hsim).wp ?_
     intro e a' w' hc
     have key:∀s':AS,Tree.sat P ((Tree.ofTr (absResults P fn.results s')).bind fun s=>Tree.ret (s,s')) R->Sim ⟨w,Tk st0.hp μ,F⟩ μ s' a' w'->LeavesInM Fence.wide 0 P fn a'.tmps
       (fun e w'=>∃u s st' μ' F',e=.returned u/\R (s,st')/\HS ⟨w,Tk st0.hp μ,F⟩ μ' F' st'.hp w'/\Rep w' μ' F' u s/\(∀l q,μ l=some q->μ' l=some q)/\Fresh st'.next μ') a'.defers .returning w':=by
      intro s' hq ⟨μ',F',e1,e2,e3,e4,e5,e6⟩
      have hq:=Tree.sat_bind hq
      obtain⟨s,h1,h2⟩:=Tree.sat_ofTr hq
      obtain⟨_,Ds,d1,d2,d3⟩:=e6
      rw[d1]
      refine leaves_marks (tm:=s'.tm) (fun w2 k1 k2=>?_) Ds w' d2 d3 e1 e4
      obtain⟨v,h3,h4⟩:=absResults_sound (hs_seq1 k1) k2 h1
      exact⟨v,h3,v,s,s',μ',F',rfl,h2,k1,h4,e3,e2⟩
     cases e with
     |normal=>obtain⟨s',h1,h2⟩:=hc;exact key s' h1 h2
     |ret=>obtain⟨s',h1,h2⟩:=hc;exact key s' h1 h2
     |exit id=>obtain⟨s',h1,h2⟩:=hc;exact h1.elim
     |goto l=>exact hc.elim
     |panic ch=>exact hc.elim
     |outgrown=>exact hc.elim
  simp only at h
  split at h
  ·exact fun p μ0 a w hs=>WP_skip ⟨_,h,hs⟩
  ·exact fun p μ0 a w hs=>WP_label ⟨_,h,hs⟩
  ·exact fun p μ0 a w hs=>WP_ret ⟨_,h,hs⟩
  ·exact fun p μ0 a w hs=>WP_exit ⟨_,h,hs⟩
  ·rename_i id ops
   rw[untagF_eq] at h
   intro p μ0 a w hs
   refine WP.mono ?_ (fun r _=>wpIn_region_list (runOps_sound hC hI ops.toList _ a w hs.untag (Tree.sat_bind h)))
   refine conc_mono ?_
   rintro e s ⟨rfl,hq⟩;exact hq
  ·rename_i id ops
   rw[untagF_eq] at h
   intro p μ0 a w hs
   refine WP.mono ?_ (hD inl hI id ops _ _ (Tree.sat_bind h) p μ0 a w hs.untag)
   refine conc_mono ?_
   rintro e s ⟨rfl,hq⟩;exact hq
  ·rename_i x y
   intro p μ0 a w hs
   refine WP_seq (WP.mono ?_ (ih x st _ (Tree.sat_bind h) p μ0 a w hs))
   intro e a' w' hc
   cases e with
   |normal =>
    obtain⟨s,h1,h2⟩:=hc
    simp only at h1
    split at h1
    ·obtain⟨post,k1,k2⟩:=h1
     exact WP.mono (conc_mono fun e s' hp=>k2 e s' hp) (k1 p μ0 a' w' h2)
    ·exact ih y _ _ h1 p μ0 a' w' h2
    ·exact ih y s _ h1 p μ0 a' w' h2
   |exit id=>obtain⟨s,h1,h2⟩:=hc;exact⟨s,h1,h2⟩
   |ret=>obtain⟨s,h1,h2⟩:=hc;exact⟨s,h1,h2⟩
   |_=>exact hc.elim
  ·rename_i x y z
   split at h
   ·rename_i b hb
    intro p μ0 a w hs
    have hs0:=hs
    obtain⟨μ,F,hh,hf,h0,ht,hsz,hd⟩:=hs
    have hval:a.eval x=.bool b:=by
     cases x with
     |tmp t =>
      exact rep_x (tvStrict_sound (ht t) (fun g b e=>by cases e) hb)
     |const v =>
      have hb':some (ofValue v)=some (.d (.x (.bool b))):=hb
      simp only[Option.some.injEq] at hb'
      have:=rep_ofValue w μ F v
      rw[hb'] at this
      exact rep_x this
     |func f=>simp[rhoC,rho] at hb
     |global g=>simp only[rhoC,rho] at hb;split at hb<;>cases hb
    obtain⟨h',⟨rfl,hq2⟩|⟨rfl,hq2⟩⟩:=branchB_sat h
    ·exact WP_cond_true hval (ih y _ _ hq2 p μ0 a w ⟨μ,F,hh,hf,h0,ht,hsz,hd⟩)
    ·exact WP_cond_false hval (ih z _ _ hq2 p μ0 a w ⟨μ,F,hh,hf,h0,ht,hsz,hd⟩)
   ·exact h.elim
  ·rename_i id x
   intro p μ0 a w hs
   refine WP_block (WP.mono ?_ (ih x st _ (Tree.sat_bind h) p μ0 a w hs))
   intro e a' w' hc
   cases e with
   |normal=>obtain⟨s,h1,h2⟩:=hc;exact⟨s,h1,h2⟩
   |exit id' =>
    obtain⟨s,h1,h2⟩:=hc
    simp only[Exit.inBlock]
    simp only at h1
    split at h1
    ·rename_i e;rw[if_pos e];exact⟨s,h1,h2⟩
    ·rename_i e;rw[if_neg e];exact⟨s,h1,h2⟩
   |ret=>obtain⟨s,h1,h2⟩:=hc;exact⟨s,h1,h2⟩
   |_=>exact hc.elim
  ·rename_i x
   intro p μ0 a w hs
   refine WP_scope (WP.mono ?_ (ih x st _ h p μ0 a w hs))
   intro e a' w' hc
   cases e<;>exact hc
  ·rename_i x
   split at h
   ·rename_i h' _
    intro p μ0 a w hs
    have hs1:Sim p μ0 { st with hint:=h' } a w:=hs
    refine WP_loop_unroll (fun _ _ _ h=>h) (fun _ _ h=>h) (WP.mono ?_ (ih x _ _ (Tree.sat_bind h) p μ0 a w hs1))
    intro e a' w' hc
    cases e with
    |normal=>obtain⟨s,h1,h2⟩:=hc;exact ih (.loop x) s _ h1 p μ0 a' w' h2
    |exit id=>obtain⟨s,h1,h2⟩:=hc;exact⟨s,h1,h2⟩
    |ret=>obtain⟨s,h1,h2⟩:=hc;exact⟨s,h1,h2⟩
    |_=>exact hc.elim
   ·intro p μ0 a w hs1
    refine WP_loop_unroll (fun _ _ _ h=>h) (fun _ _ h=>h) (WP.mono ?_ (ih x _ _ (Tree.sat_bind h) p μ0 a w hs1))
    intro e a' w' hc
    cases e with
    |normal=>obtain⟨s,h1,h2⟩:=hc;exact ih (.loop x) s _ h1 p μ0 a' w' h2
    |exit id=>obtain⟨s,h1,h2⟩:=hc;exact⟨s,h1,h2⟩
    |ret=>obtain⟨s,h1,h2⟩:=hc;exact⟨s,h1,h2⟩
    |_=>exact hc.elim
   ·obtain⟨post,h1,h2⟩:=h
    exact h1.mono h2
  ·obtain⟨post,h1,h2⟩:=h
   exact h1.mono h2
end
noncomputable section
variable [Globs]
def restrictH(hp:Heap)(L:List Nat):Heap:=L.foldl (fun h l=>hset h l (hget hp l)) []
theorem hget_nil(l:Nat):hget [] l=none:=by simp[hget_def]
theorem hget_restrict_aux(hp:Heap):∀(L:List Nat) (h0:Heap) (l:Nat),hget (L.foldl (fun h l=>hset h l (hget hp l)) h0) l=if l∈L then hget hp l else hget h0 l
 |[],h0,l=>by simp
 |a::L,h0,l=>by
  simp only[List.foldl_cons,List.mem_cons]
  rw[hget_restrict_aux hp L (hset h0 a (hget hp a)) l,hget_hset]
  by_cases h1:l∈L
  ·simp[h1]
  ·by_cases h2:l=a
   ·subst h2;simp[h1]
   ·simp[h1,h2]
theorem hget_restrict(hp:Heap)(L:List Nat)(l:Nat):hget (restrictH hp L) l=if l∈L then hget hp l else none:=by
 unfold restrictH;rw[hget_restrict_aux,hget_nil]
theorem restrictH_congr{hp hp':Heap}{L:List Nat}(h:∀l∈L,hget hp l=hget hp' l):restrictH hp L=restrictH hp' L:=by
 unfold restrictH
 suffices ∀(M:List Nat) (h0:Heap),(∀l∈M,hget hp l=hget hp' l)->M.foldl (fun h l=>hset h l (hget hp l)) h0=M.foldl (fun h l=>hset h l (hget hp' l)) h0 from this L [] h
 intro M
 induction M with
 |nil=>intro h0 _;rfl
 |cons a M ih=>intro h0 hM;simp only[List.foldl_cons];rw[hM a (by simp)];exact ih _ fun l hl=>hM l (by simp[hl])
def restrictT(n:Nat)(tm:List TV)(ts:List Nat):List TV:=ts.foldl (fun r t=>r.set t (tget tm t)) (List.replicate n .unk)
theorem restrictT_congr{n:Nat}{tm tm':List TV}{ts:List Nat}(h:∀t∈ts,tget tm t=tget tm' t):restrictT n tm ts=restrictT n tm' ts:=by
 unfold restrictT
 suffices ∀(M:List Nat) (h0:List TV),(∀t∈M,tget tm t=tget tm' t)->M.foldl (fun r t=>r.set t (tget tm t)) h0=M.foldl (fun r t=>r.set t (tget tm' t)) h0 from this ts _ h
 intro M
 induction M with
 |nil=>intro h0 _;rfl
 |cons a M ih=>intro h0 hM;simp only[List.foldl_cons];rw[hM a (by simp)];exact ih _ fun l hl=>hM l (by simp[hl])
theorem TmOK.restrict{w:World}{μ:Mu}{F:Nat->Prop}{tm:List TV}{tmps:Array Value}(h:TmOK w μ F tm tmps)(n:Nat)(ts:List Nat):TmOK w μ F (restrictT n tm ts) tmps:=by
 unfold restrictT
 suffices ∀(M:List Nat) (h0:List TV),TmOK w μ F h0 tmps->TmOK w μ F (M.foldl (fun r t=>r.set t (tget tm t)) h0) tmps by
  refine this ts _ fun t=>?_
  have:tget (List.replicate n TV.unk) t=.unk:=by
   simp only[tget_def]
   simp only[List.getD,List.getElem?_replicate]
   split<;>rfl
  rw[this];trivial
 intro M
 induction M with
 |nil=>intro h0 h1;exact h1
 |cons a M ih =>
  intro h0 h1
  simp only[List.foldl_cons]
  refine ih _ fun t=>?_
  simp only[tget_def]
  by_cases hta:t=a
  ·subst hta
   by_cases hlt:t<h0.length
   ·have hat:=h t
    simp only[tget_def] at hat
    simpa [List.getD,List.getElem?_set_self hlt] using hat
   ·have:=h1 t
    simp only[tget_def] at this
    rw[List.set_eq_of_length_le (by omega)];exact this
  ·have:=h1 t
   simp only[tget_def] at this
   simpa [List.getD,List.getElem?_set_ne (fun e=>hta e.symm)] using this
theorem lh_sub{p:Par}{μ:Mu}{F:Nat->Prop}{hp hp2:Heap}{w:World}(h:HS p μ F hp w)(hs:∀l blk,hget hp2 l=some blk->hget hp l=some blk):LH w μ F hp2:=by
 refine⟨Ext.refl _ _,fun b hb=>hb,fun b hb=>⟨(h.fin b hb).1,.inl hb⟩,fun l blk hg=>?_,fun l l' b1 b2 b o b' o' hne h1 h2=>h.inj l l' b1 b2 b o b' o' hne (hs _ _ h1) (hs _ _ h2)⟩
 obtain⟨q,h1,h2,h3⟩:=h.blk l blk (hs l blk hg)
 refine⟨q,h1,?_,h3⟩
 cases q with
 |nil=>trivial
 |pl b o=>exact⟨h2.1,.inl ⟨l,blk,o,hg,h1⟩⟩
theorem lh_restrict{p:Par}{μ:Mu}{F:Nat->Prop}{hp:Heap}{w:World}(h:HS p μ F hp w)(L:List Nat):LH w μ F (restrictH hp L) :=
 lh_sub h fun l blk hg=>by rw[hget_restrict] at hg;split at hg;exact hg;cases hg
theorem hs_lift{p:Par}{μ μ':Mu}{F F':Nat->Prop}{hp hp' hpG:Heap}{w w':World}{L:List Nat}{id:Nat}(h:HS p μ F hp w)(k:HS ⟨w,Tk (restrictH hp L) μ,F⟩ μ' F' hp' w')(hμ:∀l q,μ l=some q->μ' l=some q)(hN:∀l,l≠id->μ' l=μ l)
  (hG:∀l,hget hpG l=if l∈L\/l=id then hget hp' l else hget hp l):HS p μ' F' hpG w':=by
 have hsz:=h.ext.size
 have hlr:=lh_restrict h L
 have hsub:∀b,Tk (restrictH hp L) μ b->Tk hp μ b:=by
  rintro b ⟨l,blk,o,hg,hm⟩
  rw[hget_restrict] at hg
  split at hg
  ·exact⟨l,blk,o,hg,hm⟩
  ·cases hg
 have hplc:∀b,Tk (restrictH hp L) μ b\/w.heap.size<=b->p.T b\/p.w0.heap.size<=b:=fun b hb=>hb.elim (fun hb=>tk_par h (hsub b hb)) fun hb=>.inr (by omega)
 have hextF:Ext F w w':=ext_F hlr k
 -- an old block that is not in the part
 have hold:∀l blk b o,¬(l∈L\/l=id)->hget hp l=some blk->μ l=some (.pl b o)->b<w.heap.size/\¬Tk (restrictH hp L) μ b/\¬F b:=by
  intro l blk b o hl hg hm
  obtain⟨q,h1,h2,h3⟩:=h.blk l blk hg
  rw[hm,Option.some.injEq] at h1;subst h1
  refine⟨h3.lt,?_,h2.1⟩
  rintro⟨l2,blk2,o2,hg2,hm2⟩
  rw[hget_restrict] at hg2
  split at hg2
  ·rename_i hin
   exact h.inj l l2 blk blk2 b o b o2 (fun e=>hl (.inl (e▸hin))) hg hg2 hm hm2 rfl
  ·cases hg2
 refine⟨h.ext.trans (k.ext.mono fun b hb=>⟨by have:=hb.1;simp only;omega,fun ht=>?_⟩),fun b hb=>k.sub b (h.sub b hb),fun b hb=>⟨(k.fin b hb).1,?_⟩,fun l blk hg=>?_,fun l l' b1 b2 b o b' o' hne h1 h2 m1 m2=>?_⟩
 ·rcases tk_par h (hsub b ht) with h1|h1
  ·exact hb.2 h1
  ·have:=hb.1;omega
 ·rcases (k.fin b hb).2 with h1|h1|h1
  ·exact(h.fin b h1).2
  ·exact .inr (tk_par h (hsub b h1))
  ·simp only at h1;exact .inr (.inr (by omega))
 ·rw[hG] at hg
  split at hg
  ·obtain⟨q,h1,h2,h3⟩:=k.blk l blk hg
   refine⟨q,h1,?_,h3⟩
   cases q with
   |nil=>trivial
   |pl b o=>exact⟨h2.1,hplc b h2.2⟩
  ·rename_i hl
   obtain⟨q,h1,h2,h3⟩:=h.blk l blk hg
   refine⟨q,hμ _ _ h1,?_,h3.mono hextF k.sub hμ ?_⟩
   ·cases q with
    |nil=>trivial
    |pl b o =>
     obtain⟨e1,e2,e3⟩:=hold l blk b o hl hg h1
     refine⟨fun hf=>?_,h2.2⟩
     rcases (k.fin b hf).2 with h4|h4|h4
     ·exact e3 h4
     ·exact e2 h4
     ·simp only at h4;omega
   ·intro b o hq;subst hq
    obtain⟨e1,e2,e3⟩:=hold l blk b o hl hg h1
    exact k.ext.keep b ⟨e1,e2⟩
 ·have mix:∀l l' b1 b2 b o b' o',(l∈L\/l=id)->¬(l'∈L\/l'=id)->hget hp' l=some b1->hget hp l'=some b2->μ' l=some (.pl b o)->μ' l'=some (.pl b' o')->b≠b':=by
   intro l l' b1 b2 b o b' o' hin hout h1 h2 m1 m2
   have hm2:μ l'=some (.pl b' o'):=by rw[<- hN l' fun e=>hout (.inr e)];exact m2
   obtain⟨e1,e2,e3⟩:=hold l' b2 b' o' hout h2 hm2
   obtain⟨q,f1,f2,f3⟩:=k.blk l b1 h1
   rw[m1,Option.some.injEq] at f1;subst f1
   intro he;subst he
   rcases f2.2 with h4|h4
   ·exact e2 h4
   ·simp only at h4;omega
  rw[hG] at h1 h2
  by_cases c1:l∈L\/l=id
  ·rw[if_pos c1] at h1
   by_cases c2:l'∈L\/l'=id
   ·rw[if_pos c2] at h2;exact k.inj l l' b1 b2 b o b' o' hne h1 h2 m1 m2
   ·rw[if_neg c2] at h2;exact mix l l' b1 b2 b o b' o' c1 c2 h1 h2 m1 m2
  ·rw[if_neg c1] at h1
   by_cases c2:l'∈L\/l'=id
   ·rw[if_pos c2] at h2;exact fun e=>mix l' l b2 b1 b' o' b o c2 c1 h2 h1 m2 m1 e.symm
   ·rw[if_neg c2] at h2
    have f1:μ l=some (.pl b o):=by rw[<- hN l fun e=>c1 (.inr e)];exact m1
    have f2:μ l'=some (.pl b' o'):=by rw[<- hN l' fun e=>c2 (.inr e)];exact m2
    exact h.inj l l' b1 b2 b o b' o' hne h1 h2 f1 f2
def binding(e:Edge):Bool:=Region.binds .any e
inductive Bef(ops:Array Oper):Nat->Nat->Prop
 |edge {i k:Nat} {o:Oper} {e:Edge} (hk:ops[k]?=some o) (he:e∈o.after) (hb:binding e=true) (hi:e.on=i):Bef ops i k
 |trans {i j k:Nat} (h1:Bef ops i j) (h2:Bef ops j k):Bef ops i k
def bmOne(acc:List Nat)(o:Oper):Nat:=o.after.toList.foldl (fun s e=>if binding e then s |||(1 <<< e.on) ||| acc.getD e.on 0 else s) 0
def bms:List Oper->List Nat->List Nat
 |[],acc=>acc
 |o::r,acc=>bms r (acc++[bmOne acc o])
theorem testBit_shift(n i:Nat):(1 <<< n).testBit i=decide (n=i):=by
 rw[Nat.shiftLeft_eq,Nat.one_mul];exact Nat.testBit_two_pow
theorem bmOne_bef{ops:Array Oper}{acc:List Nat}{k:Nat}{o:Oper}(ho:ops[k]?=some o)(hacc:∀j i,(acc.getD j 0).testBit i=true->Bef ops i j):∀i,(bmOne acc o).testBit i=true->Bef ops i k:=by
 unfold bmOne
 suffices ∀(l:List Edge) (s:Nat),(∀e∈l,e∈o.after)->(∀i,s.testBit i=true->Bef ops i k)->∀i,(l.foldl (fun s e=>if binding e then s |||(1 <<< e.on) ||| acc.getD e.on 0 else s) s).testBit i=true->Bef ops i k from
  this o.after.toList 0 (fun e he=>by simpa using he) (fun i h=>by simp at h)
 intro l
 induction l with
 |nil=>intro s _ hs i h;exact hs i h
 |cons e l ih =>
  intro s hl hs i h
  simp only[List.foldl_cons] at h
  refine ih _ (fun e' he'=>hl e' (by simp[he'])) ?_ i h
  intro i' h'
  split at h'
  ·rename_i hb
   have hedge:Bef ops e.on k:=.edge ho (hl e (by simp)) hb rfl
   simp only[Nat.testBit_or,Bool.or_eq_true] at h'
   rcases h' with(h1|h1)|h1
   ·exact hs i' h1
   ·rw[testBit_shift] at h1
    have:=of_decide_eq_true h1;subst this
    exact hedge
   ·exact .trans (hacc _ _ h1) hedge
  ·exact hs i' h'
theorem bms_bef{ops:Array Oper}:∀(l:List Oper) (acc:List Nat),(∀j o,l[j]?=some o->ops[acc.length+j]?=some o)->(∀j i,(acc.getD j 0).testBit i=true->Bef ops i j)->∀j i,((bms l acc).getD j 0).testBit i=true->Bef ops i j
 |[],acc,_,h=>h
 |o::r,acc,hl,h=>by
  have ho:ops[acc.length]?=some o:=by simpa using hl 0 o rfl
  refine bms_bef r _ (fun j x hx=>?_) ?_
  ·have:=hl (j+1) x (by simpa using hx)
   simpa [Nat.add_assoc,Nat.add_comm 1 j] using this
  ·intro j i hb
   by_cases hj:j<acc.length
   ·refine h j i ?_
    simpa [List.getD,List.getElem?_append,hj] using hb
   ·by_cases hj2:j=acc.length
    ·subst hj2
     refine bmOne_bef ho h i ?_
     simpa [List.getD,List.getElem?_append] using hb
    ·have:(acc++[bmOne acc o]).getD j 0=0:=by
      simp only[List.getD];rw[List.getElem?_eq_none (by simp;omega)];rfl
     rw[this] at hb;simp at hb
def Closed(ops:Array Oper)(S:Nat->Bool):Prop:=∀k o e,S k=true->ops[k]?=some o->e∈o.after->binding e=true->S e.on=true
theorem Closed.bef{ops:Array Oper}{S:Nat->Bool}(h:Closed ops S){i k:Nat}(hb:Bef ops i k):S k=true->S i=true:=by
 induction hb with
 |edge hk he hb hi=>intro hs;rw[<- hi];exact h _ _ _ hs hk he hb
 |trans _ _ ih1 ih2=>intro hs;exact ih1 (ih2 hs)
end
noncomputable section
variable [Globs]
structure Ev where
 dst:Option Nat
 tv:TV
 ts:List Nat
 L:List Nat
 W:Delta
 id:Nat
 nq:Bool
def locs1:SV->List Nat
 |.ptr l _=>[l]
 |.pix l _ _ _ _ _=>[l]
 |.row l _ _ _ _=>[l]
 |.mp l=>[l]
 |_=>[]
def locs:SV->List Nat
 |.agg cs=>cs.flatMap locs1
 |.fn _ a b=>(a++b).flatMap locs1
 |.tup vs=>vs.flatMap fun|.agg cs=>cs.flatMap locs1|s=>locs1 s
 |s=>locs1 s
def tvLocs:TV->List Nat
 |.ok s=>locs s
 |.tag _ _ s=>locs s
 |.cnd _ s=>locs s
 |_=>[]
def gslots(ops:Array Oper)(tm:List TV)(o:Oper):List Nat :=
 match o.guard with
 |none=>[]
 |some (j,_)=>match(ops[j]?).bind (·.dst) with
  |none=>[]
  |some g=>g::gchain 8 tm g
where
 gchain:Nat->List TV->Nat->List Nat
  |0,_,_=>[]
  |n+1,tm,g=>match tget tm g with
   |.tag g2 _ _=>g2::gchain n tm g2
   |_=>[]
def restrictK{β:Type}(tm:List TV)(ts:List Nat):List TV->(List TV->β)->β :=
 List.rec (motive:=fun _=>List TV->(List TV->β)->β) (fun acc k=>k acc) (fun t _ ih acc k=>setR acc t (tget tm t) (fun acc=>ih acc k) (ih acc k)) ts
theorem restrictK_eq{β:Type}(tm:List TV)(ts:List Nat)(acc:List TV)(k:List TV->β):restrictK tm ts acc k=k (ts.foldl (fun r t=>r.set t (tget tm t)) acc):=by
 induction ts generalizing acc with
 |nil=>rfl
 |cons t ts ih =>
  show setR acc t (tget tm t) (fun acc=>restrictK tm ts acc k) (restrictK tm ts acc k)=_
  rw[setR_eq,List.foldl_cons]
  simp only[ih]
  split
  ·rfl
  ·rename_i h;rw[List.set_eq_of_length_le (by omega)]
def isApp:Op->Bool
 |.call c=>(match c.callee with|.builtin .append=>true|.value _=>true|_=>false)
 |_=>false
def inner(hp:Heap)(l:Nat):List Nat:=match hget hp l with
 |some (.cells cs)=>(match dvsOf cs with
  |some _=>[]
  |none=>cs.flatMap locs)
 |_=>[]
def deepL(o:Oper)(hp:Heap)(L:List Nat):List Nat:=match isApp o.op with
 |true=>L++(L.flatMap (inner hp)++(L.flatMap (inner hp)).flatMap (inner hp))
 |false=>L
def rowL:TV->List Nat
 |.ok (.row _ _ _ _ _)=>[]
 |tv=>tvLocs tv
def opL(o:Oper)(tm:List TV):List Nat:=match o.op with
 |.move _=>[]
 |.slice ..=>(opSlots o).flatMap fun t=>rowL (tget tm t)
 |_=>(opSlots o).flatMap fun t=>tvLocs (tget tm t)
def evOp(P:Program)(C:Ctx)(ops:Array Oper)(o:Oper)(st:AS):Tr (Ev×AS) :=
 fNats (opSlots o++gslots ops st.tm o) fun ts =>
 fNats (deepL o st.hp (opL o st.tm)) fun L =>
 restrictK st.tm ts (List.replicate st.tm.length .unk) fun rt =>
 (stepTr (isRun st.hint) P C ops st.next rt (restrictH st.hp L) o).bind fun r =>
  fTV r.1 fun tv =>
  fDl (if quietC C o.op then [] else(st.next::L).map fun l=>(l,hget r.2 l)) fun W =>
  putG st.tm o.dst tv (fun tm=>fHp (happ st.hp W) fun hp=>fNat (st.next+1) fun nx=>.ret (⟨o.dst,tv,ts,L,W,st.next,!quietC C o.op⟩,⟨tm,hp,nx,st.hint⟩)) .fail
theorem evOp_eq{P:Program}{C:Ctx}{ops:Array Oper}{o:Oper}{st:AS}:evOp P C ops o st =
 (let ts:=opSlots o++gslots ops st.tm o
 let L:=deepL o st.hp (opL o st.tm)
 (stepTr (isRun st.hint) P C ops st.next (restrictT st.tm.length st.tm ts) (restrictH st.hp L) o).bind fun r =>
  let W:Delta:=if quietC C o.op then [] else(st.next::L).map fun l=>(l,hget r.2 l)
  match putD st.tm o.dst r.1 with
  |some tm=>.ret (⟨o.dst,r.1,ts,L,W,st.next,!quietC C o.op⟩,⟨tm,happ st.hp W,st.next+1,st.hint⟩)
  |none=>.fail):=by
 unfold evOp
 simp only[fNats_eq,fTV_eq,fDl_eq,putG_eq,fHp_eq,fNat_eq,restrictK_eq]
 rfl
theorem Tr.bind_ev{α β:Type}{f:α->Tr β}{a:α}{b:β}:∀{t:Tr α},t.ev a->(f a).ev b->(t.bind f).ev b
 |.ret c,h,k=>by simp only[Tr.ev] at h;subst h;exact k
 |.ite c t e,h,k=>h.imp (fun h=>⟨h.1,Tr.bind_ev h.2 k⟩) (fun h=>⟨h.1,Tr.bind_ev h.2 k⟩)
 |.need p t,h,k=>⟨h.1,Tr.bind_ev h.2 k⟩
 |.dneed p _ t,h,k=>⟨h.1,Tr.bind_ev (t:=t) h.2 k⟩
 |.fail,h,_=>h.elim
def evOps(P:Program)(C:Ctx)(ops:Array Oper):List Oper->AS->Tr (List Ev×AS)
 |[],st=>.ret ([],st)
 |o::r,st=>(evOp P C ops o st).bind fun x=>(evOps P C ops r x.2).bind fun y=>.ret (x.1::y.1,y.2)
def isSomeD(d:Option Nat)(ts:List Nat):Bool:=match d with|some t=>ts.contains t|none=>false
def clash(a b:Ev):Bool :=
 isSomeD a.dst b.ts||isSomeD b.dst a.ts||(match a.dst,b.dst with|some x,some y=>x==y|_,_=>false) ||
 a.W.any (fun e=>b.L.contains e.1||b.W.any fun f=>f.1==e.1)||b.W.any (fun e=>a.L.contains e.1)
def tagNot(tv:TV)(d:Option Nat):Bool:=match tv,d with|.tag g _ _,some d=>g != d|_,_=>true
def sameDst(a b:Ev):Bool:=match a.dst,b.dst with|some x,some y=>x==y|_,_=>false
def pairOK(bb:Nat)(i:Nat)(a b:Ev):Bool:=(bb.testBit i||!clash a b)&&tagNot a.tv b.dst&&!sameDst a b
def rowOK(bb:Nat)(b:Ev):Nat->List Ev->Bool
 |_,[]=>true
 |i,a::r=>pairOK bb i a b&&rowOK bb b (i+1) r
def allOK:List Nat->List Ev->List Ev->Bool
 |_,_,[]=>true
 |bs,done,b::r=>rowOK (bs.headD 0) b 0 done&&(b.W.all fun e=>b.L.contains e.1||(b.nq&&e.1==b.id))&&allOK bs.tail (done++[b]) r
def edgesOK:Nat->List Oper->Bool
 |_,[]=>true
 |k,o::r=>(o.after.toList.all fun e=>!binding e||decide (e.on<k))&&edgesOK (k+1) r
def dK(P:Program)(C:Ctx)(ops:Array Oper):List Oper->List Nat->List Ev->AS->Tree AS
 |[],_,_,st=>.ret st
 |o::r,acc,done,st =>
  fNat (bmOne acc o) fun b=>(ofTrH st.hint (evOp P C ops o st)).bind fun x =>
   match rowOK b x.1 0 done&&(x.1.W.all fun e=>x.1.L.contains e.1||(x.1.nq&&e.1==x.1.id)) with
   |true=>fNats (acc++[b]) fun acc=>fSp (done++[x.1]) fun done=>dK P C ops r acc done x.2
   |false=>.fail
theorem bms_pre:∀(l:List Oper) (acc:List Nat),∃t,bms l acc=acc++t
 |[],acc=>⟨[],by simp[bms]⟩
 |o::r,acc=>by
  obtain⟨t,h⟩:=bms_pre r (acc++[bmOne acc o])
  exact⟨bmOne acc o::t,by simp[bms,h]⟩
theorem dK_sat{P:Program}{C:Ctx}{ops:Array Oper}{Q:AS->Prop}:∀(l:List Oper) (acc:List Nat) (done:List Ev) (st:AS),(dK P C ops l acc done st).sat P Q ->
  ∃evs st',(evOps P C ops l st).ev (evs,st')/\allOK ((bms l acc).drop acc.length) done evs=true/\Q st'
 |[],acc,done,st,h=>⟨[],st,rfl,rfl,h⟩
 |o::r,acc,done,st,h=>by
  simp only[dK,fNat_eq,fNats_eq,fSp_eq] at h
  obtain⟨x,h1,h2⟩:=sat_ofTrH (Tree.sat_bind h)
  split at h2
  ·rename_i hb
   obtain⟨evs,st',h3,h4,h5⟩:=dK_sat r _ _ _ h2
   refine⟨x.1::evs,st',?_,?_,h5⟩
   ·simp only[evOps]
    exact Tr.bind_ev h1 (Tr.bind_ev h3 rfl)
   ·obtain⟨t,ht⟩:=bms_pre r (acc++[bmOne acc o])
    simp only[bms,ht,List.append_assoc,List.drop_left] at h4 ⊢
    rw[show(acc++[bmOne acc o]).length=acc.length+1 by simp,<- List.drop_drop,List.drop_left] at h4
    simp only[Bool.and_eq_true] at hb
    simp only[List.singleton_append,List.drop_succ_cons,List.drop_zero] at h4
    simp only[List.singleton_append,allOK,List.headD_cons,List.tail_cons,Bool.and_eq_true]
    exact⟨hb,h4⟩
  ·exact h2.elim
def drawn(P:Program)(C:Ctx)(ops:Array Oper)(st:AS):Tree AS :=
 if edgesOK 0 ops.toList then untagF st.tm fun tm=>dK P C ops ops.toList [] [] { st with tm:=tm } else .fail
structure St where
 tm:List TV
 hp:Heap
def ap(s:St)(e:Ev):St:=⟨match e.dst with|some d=>s.tm.set d e.tv|none=>s.tm,happ s.hp e.W⟩
def foldE(S:Nat->Bool):Nat->List Ev->St->St
 |_,[],s=>s
 |k,e::r,s=>foldE S (k+1) r (if S k then ap s e else s)
theorem length_ap(s:St)(e:Ev):(ap s e).tm.length=s.tm.length:=by unfold ap;cases e.dst<;>simp
theorem length_foldE(S:Nat->Bool):∀(l:List Ev) (k:Nat) (s:St),(foldE S k l s).tm.length=s.tm.length
 |[],k,s=>rfl
 |e::r,k,s=>by
  unfold foldE;rw[length_foldE S r]
  split
  ·exact length_ap s e
  ·rfl
theorem tget_ap(s:St)(e:Ev)(t:Nat)(h:e.dst≠some t):tget (ap s e).tm t=tget s.tm t:=by
 unfold ap
 cases hd:e.dst with
 |none=>rfl
 |some d =>
  have:d≠t:=fun he=>h (by rw[hd,he])
  simp only[tget_def,List.getD,List.getElem?_set_ne this]
theorem tget_ap_same(s s':St)(e:Ev)(t:Nat)(h:e.dst=some t)(hl:s.tm.length=s'.tm.length):tget (ap s e).tm t=tget (ap s' e).tm t:=by
 unfold ap
 simp only[h,tget_def,List.getD]
 by_cases hlt:t<s.tm.length
 ·rw[List.getElem?_set_self hlt,List.getElem?_set_self (by omega)]
 ·rw[List.getElem?_eq_none (by simp;omega),List.getElem?_eq_none (by simp;omega)]
def wkey(W:Delta)(l:Nat):Bool:=W.any fun e=>e.1==l
theorem happ_get(W:Delta):∀(hp hp':Heap) (l:Nat),(wkey W l=false->hget (happ hp W) l=hget hp l)/\(wkey W l=true->hget (happ hp W) l=hget (happ hp' W) l):=by
 unfold happ wkey
 induction W with
 |nil=>intro hp hp' l;simp
 |cons e W ih =>
  intro hp hp' l
  simp only[List.foldl_cons,List.any_cons,Bool.or_eq_false_iff,Bool.or_eq_true]
  refine⟨fun⟨h1,h2⟩=>?_,fun h=>?_⟩
  ·rw[(ih _ hp l).1 h2,hget_hset,if_neg (by simp at h1;exact fun e=>h1 e.symm)]
  ·cases hw:W.any (fun e=>e.1==l) with
   |true=>exact(ih _ _ l).2 hw
   |false =>
    rw[(ih _ hp l).1 hw,(ih _ hp l).1 hw,hget_hset,hget_hset]
    rcases h with h|h
    ·have:l=e.1:=by simpa using Eq.symm (by simpa using h)
     simp[this]
    ·rw[hw] at h;cases h
theorem foldE_tm(S S':Nat->Bool)(t:Nat):∀(l:List Ev) (k:Nat) (s s':St),s.tm.length=s'.tm.length->tget s.tm t=tget s'.tm t->(∀j e,l[j]?=some e->e.dst=some t->S (k+j)=S' (k+j)) ->
  tget (foldE S k l s).tm t=tget (foldE S' k l s').tm t
 |[],k,s,s',_,h,_=>h
 |e::r,k,s,s',hl,h,hw=>by
  unfold foldE
  refine foldE_tm S S' t r (k+1) _ _ ?_ ?_ fun j e' hj hd=>by have:=hw (j+1) e' (by simpa using hj) hd;rwa[show k+(j+1)=k+1+j by omega] at this
  ·split<;>split<;>simp[length_ap,hl]
  ·by_cases hd:e.dst=some t
   ·have:=hw 0 e (by simp) hd
    simp only[Nat.add_zero] at this
    rw[<- this]
    split
    ·exact tget_ap_same s s' e t hd hl
    ·exact h
   ·split<;>split<;>simp only[tget_ap _ _ _ hd,h]
theorem foldE_hp(S S':Nat->Bool)(l:Nat):∀(es:List Ev) (k:Nat) (s s':St),hget s.hp l=hget s'.hp l->(∀j e,es[j]?=some e->wkey e.W l=true->S (k+j)=S' (k+j)) ->
  hget (foldE S k es s).hp l=hget (foldE S' k es s').hp l
 |[],k,s,s',h,_=>h
 |e::r,k,s,s',h,hw=>by
  unfold foldE
  refine foldE_hp S S' l r (k+1) _ _ ?_ fun j e' hj hd=>by have:=hw (j+1) e' (by simpa using hj) hd;rwa[show k+(j+1)=k+1+j by omega] at this
  cases hk:wkey e.W l with
  |true =>
   have:=hw 0 e (by simp) hk
   simp only[Nat.add_zero] at this
   rw[<- this]
   split
   ·exact(happ_get e.W s.hp s'.hp l).2 hk
   ·exact h
  |false =>
   have e1:hget (ap s e).hp l=hget s.hp l:=(happ_get e.W s.hp s.hp l).1 hk
   have e2:hget (ap s' e).hp l=hget s'.hp l:=(happ_get e.W s'.hp s'.hp l).1 hk
   split<;>split<;>simp only[e1,e2,h]
theorem foldE_tm_last(S:Nat->Bool)(t:Nat){e:Ev}(hd:e.dst=some t):∀(l:List Ev) (j k:Nat) (s s0:St),l[j]?=some e->S (k+j)=true->(∀j' e',j<j'->l[j']?=some e'->S (k+j')=true->e'.dst≠some t)->s.tm.length=s0.tm.length ->
  tget (foldE S k l s).tm t=tget (ap s0 e).tm t
 |[],j,k,s,s0,hj,_,_,_=>by simp at hj
 |a::r,0,k,s,s0,hj,hS,hl,hlen=>by
  simp only[List.getElem?_cons_zero,Option.some.injEq] at hj;subst hj
  unfold foldE
  simp only[Nat.add_zero] at hS
  rw[if_pos hS]
  have:tget (foldE S (k+1) r (ap s a)).tm t=tget (foldE (fun _=>false) (k+1) r (ap s a)).tm t:=by
   refine foldE_tm _ _ t r (k+1) _ _ rfl rfl fun j e' hj hd'=>?_
   cases hs:S (k+1+j) with
   |false=>rfl
   |true=>exact(hl (j+1) e' (by omega) (by simpa using hj) (by rwa[show k+(j+1)=k+1+j by omega]) hd').elim
  rw[this]
  have:∀(r:List Ev) (k:Nat) (s:St),foldE (fun _=>false) k r s=s:=by
   intro r
   induction r with
   |nil=>intro k s;rfl
   |cons x r ih=>intro k s;unfold foldE;simp[ih]
  rw[this]
  exact tget_ap_same s s0 a t hd hlen
 |a::r,j+1,k,s,s0,hj,hS,hl,hlen=>by
  unfold foldE
  refine foldE_tm_last S t hd r j (k+1) _ s0 (by simpa using hj) (by rwa[show k+1+j=k+(j+1) by omega]) (fun j' e' h1 h2 h3=>hl (j'+1) e' (by omega) (by simpa using h2) (by rwa[show k+(j'+1)=k+1+j' by omega])) ?_
  split<;>simp[length_ap,hlen]
theorem foldE_hp_last(S:Nat->Bool)(l:Nat){e:Ev}(hd:wkey e.W l=true):∀(es:List Ev) (j k:Nat) (s s0:St),es[j]?=some e->S (k+j)=true->(∀j' e',j<j'->es[j']?=some e'->S (k+j')=true->wkey e'.W l=false) ->
  hget (foldE S k es s).hp l=hget (ap s0 e).hp l
 |[],j,k,s,s0,hj,_,_=>by simp at hj
 |a::r,0,k,s,s0,hj,hS,hl=>by
  simp only[List.getElem?_cons_zero,Option.some.injEq] at hj;subst hj
  unfold foldE
  simp only[Nat.add_zero] at hS
  rw[if_pos hS]
  have:hget (foldE S (k+1) r (ap s a)).hp l=hget (foldE (fun _=>false) (k+1) r (ap s a)).hp l:=by
   refine foldE_hp _ _ l r (k+1) _ _ rfl fun j e' hj hd'=>?_
   cases hs:S (k+1+j) with
   |false=>rfl
   |true=>have:=hl (j+1) e' (by omega) (by simpa using hj) (by rwa[show k+(j+1)=k+1+j by omega]);rw[hd'] at this;cases this
  rw[this]
  have:∀(r:List Ev) (k:Nat) (s:St),foldE (fun _=>false) k r s=s:=by
   intro r
   induction r with
   |nil=>intro k s;rfl
   |cons x r ih=>intro k s;unfold foldE;simp[ih]
  rw[this]
  exact(happ_get a.W s.hp s0.hp l).2 hd
 |a::r,j+1,k,s,s0,hj,hS,hl=>by
  unfold foldE
  exact foldE_hp_last S l hd r j (k+1) _ s0 (by simpa using hj) (by rwa[show k+1+j=k+(j+1) by omega]) (fun j' e' h1 h2 h3=>hl (j'+1) e' (by omega) (by simpa using h2) (by rwa[show k+(j'+1)=k+1+j' by omega]))
end
noncomputable section
variable [Globs]
theorem foldE_shift(S:Nat->Bool):∀(l:List Ev) (k:Nat) (s:St),foldE S (k+1) l s=foldE (fun i=>S (i+1)) k l s
 |[],k,s=>rfl
 |e::r,k,s=>by unfold foldE;exact foldE_shift S r (k+1) _
theorem foldE_cons(S:Nat->Bool)(k:Nat)(e:Ev)(r:List Ev)(s:St):foldE S k (e::r) s=foldE S (k+1) r (if S k then ap s e else s):=rfl
theorem foldE_false:∀(l:List Ev) (k:Nat) (s:St),foldE (fun _=>false) k l s=s
 |[],k,s=>rfl
 |e::r,k,s=>by rw[foldE_cons];exact foldE_false r _ _
theorem foldE_congr{S S':Nat->Bool}:∀(l:List Ev) (k:Nat) (s:St),(∀j,j<l.length->S (k+j)=S' (k+j))->foldE S k l s=foldE S' k l s
 |[],k,s,_=>rfl
 |e::r,k,s,h=>by
  unfold foldE
  have h0:=h 0 (by simp)
  simp only[Nat.add_zero] at h0
  rw[h0]
  exact foldE_congr r (k+1) _ fun j hj=>by have:=h (j+1) (by simpa using hj);rwa[show k+(j+1)=k+1+j by omega] at this
theorem stepTr_quiet{rn:Bool}{P:Program}{C:Ctx}{ops:Array Oper}{id:Nat}{tm:List TV}{hp hp':Heap}{o:Oper}{tv:TV}(hq:quietC C o.op=true)(he:(stepTr rn P C ops id tm hp o).ev (tv,hp')):hp'=hp:=by
 unfold stepTr at he
 split at he
 ·split at he
  ·simp only[Tr.ev,Prod.mk.injEq] at he;exact he.2
  obtain⟨r,h1,h2⟩:=Tr.ev_bind he
  obtain⟨rfl,_⟩:=litOf_ev h2
  exact opAll_quiet hq h1
 ·simp only[Tr.ev,Prod.mk.injEq] at he;exact he.2
 ·split at he
  ·exact(specT_ev he).1
  ·exact he.elim
 ·exact he.elim
theorem stepTr_tag{rn:Bool}{P:Program}{C:Ctx}{ops:Array Oper}{id:Nat}{tm:List TV}{hp hp':Heap}{o:Oper}{g:Nat}{b:Bool}{s:SV}(he:(stepTr rn P C ops id tm hp o).ev (.tag g b s,hp')):o.dst≠some g/\∃j,o.guard=some (j,b)/\(ops[j]?).bind (·.dst)=some g:=by
 unfold stepTr at he
 split at he
 ·split at he
  ·simp only[Tr.ev,Prod.mk.injEq] at he;cases he.1
  obtain⟨r,h1,h2⟩:=Tr.ev_bind he
  obtain⟨_,h3|⟨_,h3,_⟩⟩:=litOf_ev h2<;>cases h3
 ·simp only[Tr.ev,Prod.mk.injEq] at he;cases he.1
 ·rename_i g' b' c hgs
  split at he
  ·rename_i hq
   simp only[Bool.and_eq_true,bne_iff_ne,ne_eq] at hq
   obtain⟨_,s',h1,_⟩:=specT_ev he
   cases h1
   obtain⟨j,h3,h4,_⟩:=gstat_tagd hgs
   exact⟨hq.2,j,h3,h4⟩
  ·exact he.elim
 ·exact he.elim
structure EvOK(P:Program)(C:Ctx)(ops:Array Oper)(o:Oper)(tm:List TV)(hp:Heap)(e:Ev):Prop where
 dst:e.dst=o.dst
 ts:∀t∈opSlots o,t∈e.ts
 tag:∀g b s,e.tv=.tag g b s->g∈e.ts/\o.dst≠some g
 len:∀d,o.dst=some d->d<tm.length
 run:∃rn hp',(stepTr rn P C ops e.id (restrictT tm.length tm e.ts) (restrictH hp e.L) o).ev (e.tv,hp')/\e.W=if quietC C o.op then [] else(e.id::e.L).map fun l=>(l,hget hp' l)
 nq:e.nq=!quietC C o.op
theorem evOp_spec{P:Program}{C:Ctx}{ops:Array Oper}{o:Oper}{st st':AS}{e:Ev}(h:(evOp P C ops o st).ev (e,st')):EvOK P C ops o st.tm st.hp e/\⟨st'.tm,st'.hp⟩=ap ⟨st.tm,st.hp⟩ e/\e.id=st.next/\st'.next=st.next+1:=by
 rw[evOp_eq] at h
 obtain⟨r,h1,h2⟩:=Tr.ev_bind h
 simp only at h2
 split at h2
 ·rename_i tm' hpd
  simp only[Tr.ev,Prod.mk.injEq] at h2
  obtain⟨rfl,rfl⟩:=h2
  obtain⟨tv,hp'⟩:=r
  refine⟨⟨rfl,fun t ht=>List.mem_append.2 (.inl ht),?_,?_,⟨_,hp',h1,rfl⟩,rfl⟩,?_,rfl,rfl⟩
  ·intro g b s htv
   simp only at htv;subst htv
   obtain⟨h3,j,h4,h5⟩:=stepTr_tag h1
   refine⟨List.mem_append.2 (.inr ?_),h3⟩
   unfold gslots
   simp only[h4,h5]
   exact List.mem_cons_self ..
  ·intro d hd
   rw[hd] at hpd
   simp only[putD] at hpd
   split at hpd
   ·rename_i hk;exact hk.1
   ·cases hpd
  ·cases hd:o.dst with
   |none=>rw[hd] at hpd;simp only[putD,Option.some.injEq] at hpd;subst hpd;simp[ap,hd]
   |some d =>
    rw[hd] at hpd
    simp only[putD] at hpd
    split at hpd
    ·simp only[Option.some.injEq] at hpd;subst hpd;simp[ap,hd]
    ·cases hpd
 ·exact h2.elim
theorem evOps_spec{P:Program}{C:Ctx}{ops:Array Oper}:∀(l:List Oper) (st stF:AS) (evs:List Ev),(evOps P C ops l st).ev (evs,stF) ->
  evs.length=l.length/\⟨stF.tm,stF.hp⟩=foldE (fun _=>true) 0 evs ⟨st.tm,st.hp⟩/\stF.next=st.next+l.length /\
  ∀j o e,l[j]?=some o->evs[j]?=some e->EvOK P C ops o (foldE (fun i=>decide (i<j)) 0 evs ⟨st.tm,st.hp⟩).tm (foldE (fun i=>decide (i<j)) 0 evs ⟨st.tm,st.hp⟩).hp e/\e.id=st.next+j
 |[],st,stF,evs,h=>by
  simp only[evOps,Tr.ev,Prod.mk.injEq] at h
  obtain⟨rfl,rfl⟩:=h
  exact⟨rfl,rfl,rfl,fun j o e hj=>by simp at hj⟩
 |o::r,st,stF,evs,h=>by
  simp only[evOps] at h
  obtain⟨⟨e,st1⟩,h1,h2⟩:=Tr.ev_bind h
  obtain⟨⟨es,st2⟩,h3,h4⟩:=Tr.ev_bind h2
  simp only[Tr.ev,Prod.mk.injEq] at h4
  obtain⟨rfl,rfl⟩:=h4
  obtain⟨e1,e2,e3,e4⟩:=evOp_spec h1
  obtain⟨f1,f2,f3,f4⟩:=evOps_spec r st1 stF es h3
  refine⟨by simp[f1],?_,by rw[f3,e4];simp;omega,?_⟩
  ·rw[f2,e2,foldE_cons,foldE_shift]
   rfl
  ·intro j o' e' hj he
   cases j with
   |zero =>
    simp only[List.getElem?_cons_zero,Option.some.injEq] at hj he
    subst hj;subst he
    have:foldE (fun i=>decide (i<0)) 0 (e::es) ⟨st.tm,st.hp⟩=⟨st.tm,st.hp⟩:=by
     have hf:(fun i:Nat=>decide (i<0))=fun _=>false:=by funext i;simp
     rw[hf];exact foldE_false _ _ _
    rw[this]
    exact⟨e1,e3⟩
   |succ j =>
    obtain⟨g1,g2⟩:=f4 j o' e' (by simpa using hj) (by simpa using he)
    have:foldE (fun i=>decide (i<j+1)) 0 (e::es) ⟨st.tm,st.hp⟩=foldE (fun i=>decide (i<j)) 0 es ⟨st1.tm,st1.hp⟩:=by
     rw[e2]
     rw[foldE_cons,foldE_shift,if_pos (by simp)]
     exact foldE_congr _ _ _ fun i _=>by simp
    rw[this]
    exact⟨g1,by rw[g2,e4];omega⟩
theorem rowOK_spec{bb:Nat}{b:Ev}:∀{l:List Ev} {i:Nat},rowOK bb b i l=true->∀j a,l[j]?=some a->pairOK bb (i+j) a b=true
 |[],i,_,j,a,h=>by simp at h
 |x::r,i,h,j,a,hj=>by
  simp only[rowOK,Bool.and_eq_true] at h
  cases j with
  |zero=>simp only[List.getElem?_cons_zero,Option.some.injEq] at hj;subst hj;exact h.1
  |succ j =>
   have:=rowOK_spec h.2 j a (by simpa using hj)
   rwa[show i+(j+1)=i+1+j by omega]
theorem allOK_spec:∀{l:List Ev} {bs:List Nat} {done:List Ev},allOK bs done l=true->∀k e,l[k]?=some e ->
  (∀i a,(done++l)[i]?=some a->i<done.length+k->pairOK (bs.getD k 0) i a e=true)
 |[],bs,done,_,k,e,h=>by simp at h
 |b::r,bs,done,h,k,e,hk=>by
  simp only[allOK,Bool.and_eq_true] at h
  obtain⟨⟨h1,_⟩,h2⟩:=h
  cases k with
  |zero =>
   simp only[List.getElem?_cons_zero,Option.some.injEq] at hk;subst hk
   intro i a hi hlt
   have hi':done[i]?=some a:=by
    rw[List.getElem?_append_left (by omega)] at hi;exact hi
   have:=rowOK_spec h1 i a hi'
   cases bs<;>simpa using this
  |succ k =>
   have ih:=allOK_spec h2 k e (by simpa using hk)
   intro i a hi hlt
   have:=ih i a (by simpa using hi) (by simp;omega)
   cases bs<;>simpa using this
theorem edgesOK_spec:∀{l:List Oper} {k:Nat},edgesOK k l=true->∀j o e,l[j]?=some o->e∈o.after->binding e=true->e.on<k+j
 |[],k,_,j,o,e,h=>by simp at h
 |x::r,k,h,j,o,e,hj=>by
  simp only[edgesOK,Bool.and_eq_true] at h
  intro he hb
  cases j with
  |zero =>
   simp only[List.getElem?_cons_zero,Option.some.injEq] at hj;subst hj
   have:=List.all_eq_true.1 h.1 e (by simpa using he)
   simpa [hb] using this
  |succ j =>
   have:=edgesOK_spec h.2 j o e (by simpa using hj) he hb
   omega
theorem foldE_tag(S:Nat->Bool)(t:Nat){g:Nat}{b:Bool}{s:SV}:∀(l:List Ev) (k:Nat) (s0:St),tget (foldE S k l s0).tm t=.tag g b s->tget s0.tm t=.tag g b s\/∃j e,l[j]?=some e/\S (k+j)=true/\e.tv=.tag g b s/\e.dst=some t
 |[],k,s0,h=>.inl h
 |e::r,k,s0,h=>by
  unfold foldE at h
  rcases foldE_tag S t r (k+1) _ h with h1|⟨j,e',h1,h2,h3,h4⟩
  ·split at h1
   ·rename_i hS
    by_cases hd:e.dst=some t
    ·by_cases hlt:t<s0.tm.length
     ·right
      refine⟨0,e,by simp,by simpa using hS,?_,hd⟩
      unfold ap at h1
      simpa [hd,tget_def,List.getD,List.getElem?_set_self hlt] using h1
     ·unfold ap at h1
      simp only[hd,tget_def,List.getD] at h1
      rw[List.getElem?_eq_none (by simp;omega)] at h1
      cases h1
    ·rw[tget_ap _ _ _ hd] at h1;exact .inl h1
   ·exact .inl h1
  ·exact .inr ⟨j+1,e',by simpa using h1,by rwa[show k+(j+1)=k+1+j by omega],h3,h4⟩
theorem noTag_of{tm:List TV}{d:Nat}(h:∀t g b s,tget tm t=.tag g b s->g≠d):noTag tm d=true:=by
 unfold noTag
 rw[List.all_eq_true]
 intro tv htv
 obtain⟨i,hi,rfl⟩:=List.mem_iff_getElem.1 htv
 have:=h i
 simp only[tget_def] at this
 simp only[List.getD,List.getElem?_eq_getElem hi,Option.getD_some] at this
 split
 ·rename_i g b s heq
  have:=this g b s heq
  simpa using this
 ·rfl
theorem hs_congr{p:Par}{μ:Mu}{F:Nat->Prop}{hp hp':Heap}{w:World}(h:HS p μ F hp w)(he:∀l,hget hp' l=hget hp l):HS p μ F hp' w :=
 ⟨h.ext,h.sub,h.fin,fun l blk hg=>h.blk l blk (by rw[<- he];exact hg),fun l l' b1 b2 b o b' o' hne h1 h2=>h.inj l l' b1 b2 b o b' o' hne (by rw[<- he];exact h1) (by rw[<- he];exact h2)⟩
theorem tmOK_congr{w:World}{μ:Mu}{F:Nat->Prop}{tm tm':List TV}{tmps:Array Value}(h:TmOK w μ F tm tmps)(he:∀t,tget tm' t=tget tm t):TmOK w μ F tm' tmps:=fun t=>by rw[he];exact h t
theorem happ_map(L:List Nat)(f:Nat->Option Blk):∀(hp:Heap) (l:Nat),hget (happ hp (L.map fun l=>(l,f l))) l=if l∈L then f l else hget hp l:=by
 unfold happ
 induction L with
 |nil=>intro hp l;simp
 |cons a L ih =>
  intro hp l
  simp only[List.map_cons,List.foldl_cons,List.mem_cons]
  rw[ih,hget_hset]
  by_cases h1:l∈L
  ·simp[h1]
  ·by_cases h2:l=a
   ·subst h2;simp[h1]
   ·simp[h1,h2]
end
noncomputable section
variable [Globs]
def asSet(listed:Array Bool):Nat->Bool:=fun i=>listed.getD i false
theorem asSet_set{listed:Array Bool}{k:Nat}(hk:k<listed.size)(i:Nat):asSet (listed.setIfInBounds k true) i=(decide (i=k)||asSet listed i):=by
 unfold asSet
 by_cases h:i=k
 ·subst h;simp[Array.getD,hk]
 ·simp only[h,decide_false,Bool.false_or,Array.getD_eq_getD_getElem?]
  rw[Array.getElem?_setIfInBounds_ne (fun e=>h e.symm)]
theorem clash_dst_ts{a b:Ev}{t:Nat}(h:a.dst=some t)(ht:t∈b.ts):clash a b=true:=by
 unfold clash isSomeD;simp[h,ht]
theorem clash_ts_dst{a b:Ev}{t:Nat}(h:b.dst=some t)(ht:t∈a.ts):clash a b=true:=by
 unfold clash isSomeD;simp[h,ht]
theorem wkey_mem{W:Delta}{l:Nat}(h:wkey W l=true):∃e∈W,e.1=l:=by
 unfold wkey at h
 rw[List.any_eq_true] at h
 obtain⟨e,h1,h2⟩:=h
 exact⟨e,h1,by simpa using h2⟩
theorem clash_W_L{a b:Ev}{l:Nat}(h:wkey a.W l=true)(hl:l∈b.L):clash a b=true:=by
 obtain⟨e,h1,h2⟩:=wkey_mem h
 unfold clash
 have:a.W.any (fun e=>b.L.contains e.1||b.W.any fun f=>f.1==e.1)=true:=List.any_eq_true.2 ⟨e,h1,by simp[h2,hl]⟩
 simp only[this,Bool.or_true,Bool.true_or]
theorem clash_L_W{a b:Ev}{l:Nat}(h:wkey b.W l=true)(hl:l∈a.L):clash a b=true:=by
 obtain⟨e,h1,h2⟩:=wkey_mem h
 unfold clash
 have:b.W.any (fun e=>a.L.contains e.1)=true:=List.any_eq_true.2 ⟨e,h1,by simp[h2,hl]⟩
 simp only[this,Bool.or_true]
theorem clash_W_W{a b:Ev}{l:Nat}(h:wkey a.W l=true)(h':wkey b.W l=true):clash a b=true:=by
 obtain⟨e,h1,h2⟩:=wkey_mem h
 obtain⟨f,h3,h4⟩:=wkey_mem h'
 unfold clash
 have:a.W.any (fun e=>b.L.contains e.1||b.W.any fun f=>f.1==e.1)=true:=List.any_eq_true.2 ⟨e,h1,by
  simp only[Bool.or_eq_true];right;exact List.any_eq_true.2 ⟨f,h3,by simp[h2,h4]⟩⟩
 simp only[this,Bool.or_true,Bool.true_or]
theorem countP_lt{p q:Nat->Bool}{k:Nat}:∀{l:List Nat},(∀x∈l,p x=true->q x=true)->k∈l->q k=true->p k=false->l.countP p<l.countP q
 |[],_,hk,_,_=>by cases hk
 |x::r,h,hk,hq,hp=>by
  have hle:∀(l:List Nat),(∀x∈l,p x=true->q x=true)->l.countP p<=l.countP q:=fun l hl=>List.countP_mono_left hl
  simp only[List.countP_cons]
  rcases List.mem_cons.1 hk with e|hk'
  ·subst e
   have:=hle r fun y hy=>h y (by simp[hy])
   simp only[hp,hq,Bool.false_eq_true,if_false,if_true];omega
  ·have:=countP_lt (fun y hy=>h y (by simp[hy])) hk' hq hp
   have hx:=h x (by simp)
   cases hpx:p x with
   |false=>simp only[Bool.false_eq_true,if_false];split<;>omega
   |true=>rw[hx hpx];simp only[if_true];omega
section
variable {P : Program} {C : Ctx} {ops : Array Oper} {evs : List Ev} {s0 : St} {n0 : Nat}
structure Walked(P:Program)(C:Ctx)(ops:Array Oper)(evs:List Ev)(s0:St)(n0:Nat):Prop where
 len:evs.length<=ops.size
 ev:∀j o e,ops[j]?=some o->evs[j]?=some e->EvOK P C ops o (foldE (fun i=>decide (i<j)) 0 evs s0).tm (foldE (fun i=>decide (i<j)) 0 evs s0).hp e/\e.id=n0+j
 pair:∀i k a e,i<k->evs[i]?=some a->evs[k]?=some e->(Bef ops i k\/clash a e=false)/\tagNot a.tv e.dst=true/\sameDst a e=false
 edge:∀j o e,ops[j]?=some o->e∈o.after->binding e=true->e.on<j
 tags:∀t g b s,tget s0.tm t≠.tag g b s
structure Inv(p:Par)(μ0:Mu)(ops:Array Oper)(evs:List Ev)(s0:St)(n0:Nat)(S:Nat->Bool)(a:Act)(w:World):Prop where
 closed:Closed ops S
 sim:∃μ F,HS p μ F (foldE S 0 evs s0).hp w/\(∀l,n0<=l->μ l≠none->∃i e,S i=true/\evs[i]?=some e/\e.id=l)/\(∀l q,μ0 l=some q->μ l=some q)/\TmOK w μ F (foldE S 0 evs s0).tm a.tmps/\s0.tm.length<=a.tmps.size/\Marks p F w a.defers
theorem inv_step{p:Par}{μ0:Mu}{S:Nat->Bool}{a:Act}{w:World}{K:Act->World->Prop}{Q:Exit->Act->World->Prop}{r:Option Nat}(hC:CtxOK P C)(hW:Walked P C ops evs s0 n0)(hI:Inv p μ0 ops evs s0 n0 S a w){k:Nat}{o:Oper}(ho:ops[k]?=some o)(hklt:k<evs.length)(hk:S k=false)
  (hready:∀e∈o.after,binding e=true->S e.on=true) (hK:∀a' w',Inv p μ0 ops evs s0 n0 (fun i=>decide (i=k)||S i) a' w'->K a' w') :
  if Region.wanted o (yielded ops a.tmps) then o.wpIn (FW r) 0 P a w K Q else K (a.put o.dst undef) w:=by
 obtain⟨hcl,μ,F,hh,hfr,h0,ht,hsz,hd⟩:=hI
 obtain⟨e,he⟩:∃e,evs[k]?=some e:=⟨_,List.getElem?_eq_getElem hklt⟩
 obtain⟨hev,hid⟩:=hW.ev k o e ho he
 -- closed with k
 have hcl':Closed ops (fun i=>decide (i=k)||S i):=by
  intro j o' e' hj ho' he' hb
  simp only[Bool.or_eq_true,decide_eq_true_eq] at hj ⊢
  rcases hj with rfl|hj
  ·rw[ho] at ho';cases ho'
   exact .inr (hready e' he' hb)
  ·exact .inr (hcl j o' e' hj ho' he' hb)
 have hbef:∀i,i<k->Bef ops i k->S i=true:=by
  intro i hi hb
  have:=hcl'.bef hb (by simp)
  simp only[Bool.or_eq_true,decide_eq_true_eq] at this
  rcases this with h|h
  ·omega
  ·exact h
 have haft:∀i,k<i->Bef ops k i->S i=false:=by
  intro i hi hb
  cases hs:S i with
  |false=>rfl
  |true=>have:=hcl.bef hb hs;rw[hk] at this;cases this
 -- who clashes
 have hlow:∀i x,i<k->evs[i]?=some x->clash x e=true->S i=true:=by
  intro i x hi hx hc
  rcases (hW.pair i k x e hi hx he).1 with h|h
  ·exact hbef i hi h
  ·rw[hc] at h;cases h
 have hhigh:∀i x,k<i->evs[i]?=some x->clash e x=true->S i=false:=by
  intro i x hi hx hc
  rcases (hW.pair k i e x hi he hx).1 with h|h
  ·exact haft i hi h
  ·rw[hc] at h;cases h
 have hlen1:(foldE S 0 evs s0).tm.length=s0.tm.length:=length_foldE ..
 have hlen2:(foldE (fun i=>decide (i<k)) 0 evs s0).tm.length=s0.tm.length:=length_foldE ..
 -- the part that it reads is as in the text's order
 have htm:restrictT (foldE S 0 evs s0).tm.length (foldE S 0 evs s0).tm e.ts=restrictT (foldE (fun i=>decide (i<k)) 0 evs s0).tm.length (foldE (fun i=>decide (i<k)) 0 evs s0).tm e.ts:=by
  rw[hlen1,hlen2]
  refine restrictT_congr fun t hte=>foldE_tm _ _ t evs 0 s0 s0 rfl rfl fun j x hx hdx=>?_
  simp only[Nat.zero_add]
  rcases Nat.lt_trichotomy j k with h|h|h
  ·rw[hlow j x h hx (clash_dst_ts hdx hte)];simp[h]
  ·subst h;rw[hk];simp
  ·rw[hhigh j x h hx (clash_ts_dst hdx hte)];simp;omega
 have hhp:restrictH (foldE S 0 evs s0).hp e.L=restrictH (foldE (fun i=>decide (i<k)) 0 evs s0).hp e.L:=by
  refine restrictH_congr fun l hle=>foldE_hp _ _ l evs 0 s0 s0 rfl fun j x hx hdx=>?_
  simp only[Nat.zero_add]
  rcases Nat.lt_trichotomy j k with h|h|h
  ·rw[hlow j x h hx (clash_W_L hdx hle)];simp[h]
  ·subst h;rw[hk];simp
  ·rw[hhigh j x h hx (clash_L_W hdx hle)];simp;omega
 obtain⟨rn,hp',hrun,hWe⟩:=hev.run
 rw[<- htm,<- hhp] at hrun
 have hidn:μ e.id=none:=by
  cases hm:μ e.id with
  |none=>rfl
  |some q =>
   obtain⟨i,x,h1,h2,h3⟩:=hfr e.id (by omega) (by rw[hm];simp)
   have hi:i<ops.size:=Nat.lt_of_lt_of_le (List.getElem?_eq_some_iff.1 h2).1 hW.len
   have:=(hW.ev i _ x (Array.getElem?_eq_getElem hi) h2).2
   have:i=k:=by omega
   subst this
   rw[hk] at h1;cases h1
 have hgone:hget (foldE S 0 evs s0).hp e.id=none:=by
  cases hg:hget (foldE S 0 evs s0).hp e.id with
  |none=>rfl
  |some blk=>obtain⟨q,h1,_⟩:=hh.blk _ _ hg;rw[hidn] at h1;cases h1
 refine stepTr_sound hC (lh_restrict hh e.L) hd.1 hidn (ht.restrict _ _) hrun fun v w' hout=>hK _ _ ⟨hcl',?_⟩
 obtain⟨μ',F',e1,e2,e3,e4⟩:=hout
 have hN:∀l,l≠e.id->μ' l=μ l:=fun l hl=>e4 l fun hn=>hl hn.1
 -- the state behind it
 have hG:∀l,hget (ap (foldE S 0 evs s0) e).hp l=if l∈e.L\/l=e.id then hget hp' l else hget (foldE S 0 evs s0).hp l:=by
  intro l
  unfold ap
  simp only[hWe]
  cases hq:quietC C o.op with
  |true =>
   have hs:=stepTr_quiet hq hrun
   subst hs
   simp only[if_true,happ,List.foldl_nil,hget_restrict]
   by_cases h1:l∈e.L
   ·simp[h1]
   ·by_cases h2:l=e.id
    ·subst h2;simp[h1,hgone]
    ·simp[h1,h2]
  |false =>
   simp only[Bool.false_eq_true,if_false]
   rw[happ_map]
   simp only[List.mem_cons]
   by_cases h1:l∈e.L
   ·simp[h1]
   ·by_cases h2:l=e.id
    ·simp[h2]
    ·simp[h1,h2]
 have hs1:=hs_lift hh e1 e3 hN hG
 have hkey:∀l,wkey e.W l=true->l∈e.L\/l=e.id:=by
  intro l hl
  obtain⟨x,h1,h2⟩:=wkey_mem hl
  rw[hWe] at h1
  split at h1
  ·cases h1
  ·simp only[List.mem_map,List.mem_cons] at h1
   obtain⟨y,h3,rfl⟩:=h1
   simp only at h2;subst h2
   exact h3.elim .inr .inl
 have hhpEq:∀l,hget (foldE (fun i=>decide (i=k)||S i) 0 evs s0).hp l=hget (ap (foldE S 0 evs s0) e).hp l:=by
  intro l
  cases hw:wkey e.W l with
  |true =>
   refine foldE_hp_last _ l hw evs k 0 s0 _ he (by simp) fun j' x hj hx hS=>?_
   simp only[Nat.zero_add,Bool.or_eq_true,decide_eq_true_eq] at hS
   cases hwx:wkey x.W l with
   |false=>rfl
   |true =>
    have:=hhigh j' x hj hx (clash_W_W hw hwx)
    rcases hS with h|h
    ·omega
    ·rw[this] at h;cases h
  |false =>
   have h1:hget (ap (foldE S 0 evs s0) e).hp l=hget (foldE S 0 evs s0).hp l:=(happ_get e.W _ [] l).1 hw
   rw[h1]
   refine foldE_hp _ _ l evs 0 s0 s0 rfl fun j x hx hwx=>?_
   simp only[Nat.zero_add]
   by_cases hjk:j=k
   ·subst hjk;rw[he] at hx;cases hx;rw[hw] at hwx;cases hwx
   ·simp[hjk]
 have htmEq:∀t,tget (foldE (fun i=>decide (i=k)||S i) 0 evs s0).tm t=tget (ap (foldE S 0 evs s0) e).tm t:=by
  intro t
  by_cases hd':e.dst=some t
  ·refine foldE_tm_last _ t hd' evs k 0 s0 _ he (by simp) (fun j' x hj hx hS hdx=>?_) hlen1.symm
   have:=(hW.pair k j' e x hj he hx).2.2
   unfold sameDst at this
   simp[hd',hdx] at this
  ·rw[tget_ap _ _ _ hd']
   refine foldE_tm _ _ t evs 0 s0 s0 rfl rfl fun j x hx hdx=>?_
   simp only[Nat.zero_add]
   by_cases hjk:j=k
   ·subst hjk;rw[he] at hx;cases hx;exact(hd' hdx).elim
   ·simp[hjk]
 have hext:Ext F w w':=ext_F (lh_restrict hh e.L) e1
 refine⟨μ',F',hs_congr hs1 hhpEq,?_,fun l q hq=>e3 l q (h0 l q hq),tmOK_congr ?_ htmEq,?_,by rw[Act.put_defers];exact hd.step (lh_restrict hh e.L) e1⟩
 ·intro l hl hm
  by_cases hle:l=e.id
  ·exact⟨k,e,by simp,he,hle.symm⟩
  ·rw[hN l hle] at hm
   obtain⟨i,x,h1,h2,h3⟩:=hfr l hl hm
   exact⟨i,x,by simp[h1],h2,h3⟩
 ·cases hdst:o.dst with
  |none =>
   have:(ap (foldE S 0 evs s0) e).tm=(foldE S 0 evs s0).tm:=by unfold ap;rw[hev.dst,hdst]
   rw[this]
   exact fun t=>(ht t).mono hext e1.sub e3
  |some d =>
   have hdl:=hev.len d hdst
   rw[hlen2] at hdl
   have:(ap (foldE S 0 evs s0) e).tm=(foldE S 0 evs s0).tm.set d e.tv:=by unfold ap;rw[hev.dst,hdst]
   rw[this]
   have hd1:d<a.tmps.size:=Nat.lt_of_lt_of_le hdl hsz
   have hd2:d<(foldE S 0 evs s0).tm.length:=by rw[hlen1];exact hdl
   refine tmOK_put ht hext e1.sub e3 hd1 hd2 (noTag_of fun t g b s htag=>?_) (RepT_put e2 (fun g b s hg=>?_) hd1)
   ·rcases foldE_tag S t evs 0 s0 htag with h1|⟨j,x,h1,h2,h3,h4⟩
    ·exact(hW.tags t g b s h1).elim
    ·simp only[Nat.zero_add] at h2
     intro hgd;subst hgd
     rcases Nat.lt_trichotomy j k with h|h|h
     ·have:=(hW.pair j k x e h h1 he).2.1
      unfold tagNot at this
      simp[h3,hev.dst,hdst] at this
     ·subst h;rw[hk] at h2;cases h2
     ·have hjl:j<ops.size:=Nat.lt_of_lt_of_le (List.getElem?_eq_some_iff.1 h1).1 hW.len
      have hx:=(hW.ev j _ x (Array.getElem?_eq_getElem hjl) h1).1
      have hgt:=(hx.tag g b s h3).1
      have:=hhigh j x h h1 (clash_dst_ts (by rw[hev.dst,hdst]) hgt)
      rw[this] at h2;cases h2
   ·have hne:=(hev.tag g b s hg).2
    intro hgd;subst hgd
    exact hne hdst
 ·cases hdst:o.dst with
  |none=>exact hsz
  |some d=>simp[Act.put];exact hsz
theorem ready_spec{listed:Array Bool}{k:Nat}(h:k∈Region.ready .any ops listed)(hsz:listed.size=ops.size):∃o,ops[k]?=some o/\asSet listed k=false/\∀e∈o.after,binding e=true->asSet listed e.on=true:=by
 unfold Region.ready at h
 simp only[List.mem_filter,List.mem_range,Bool.and_eq_true,Bool.not_eq_true'] at h
 obtain⟨hk,h1,h2⟩:=h
 refine⟨ops[k],Array.getElem?_eq_getElem hk,?_,?_⟩
 ·unfold asSet
  have hk':k<listed.size:=by omega
  simpa [Array.getD,hk'] using h1
 ·intro e he hb
  rw[Array.getElem?_eq_getElem hk] at h2
  simp only[Option.map_some,Option.getD_some,Array.all_eq_true'] at h2
  have:=h2 e he
  unfold binding at hb
  rw[hb] at this
  unfold asSet
  simpa using this
theorem ready_nil{listed:Array Bool}(h:Region.ready .any ops listed=[])(hsz:listed.size=ops.size)(hedge:∀j o e,ops[j]?=some o->e∈o.after->binding e=true->e.on<j):∀k,k<ops.size->asSet listed k=true:=by
 intro k
 induction k using Nat.strongRecOn with
 |_ k ih =>
  intro hk
  cases hs:asSet listed k with
  |true=>rfl
  |false =>
   have:k∈Region.ready .any ops listed:=by
    unfold Region.ready
    simp only[List.mem_filter,List.mem_range,Bool.and_eq_true,Bool.not_eq_true']
    refine⟨hk,?_,?_⟩
    ·unfold asSet at hs
     have hk':k<listed.size:=by omega
     simpa [Array.getD,hk'] using hs
    ·rw[Array.getElem?_eq_getElem hk]
     simp only[Option.map_some,Option.getD_some,Array.all_eq_true']
     intro e he
     cases hb:binding e with
     |false=>unfold binding at hb;simp[hb]
     |true =>
      have hlt:=hedge k _ e (Array.getElem?_eq_getElem hk) he hb
      have:=ih e.on hlt (by omega)
      unfold asSet at this
      simp[this]
   rw[h] at this;cases this
theorem any_sound{p:Par}{μ0:Mu}{Qx:Exit->Act->World->Prop}{r:Option Nat}(hC:CtxOK P C)(hW:Walked P C ops evs s0 n0)(hlen:evs.length=ops.size)(hQ:∀a w,Inv p μ0 ops evs s0 n0 (fun i=>decide (i<ops.size)) a w->Qx .normal a w) :
  ∀(fuel:Nat) (listed:Array Bool) (a:Act) (w:World),listed.size=ops.size->(List.range ops.size).countP (fun i=>!asSet listed i)<=fuel->Inv p μ0 ops evs s0 n0 (asSet listed) a w->wpAnyIn (FW r) 0 P .any ops Qx fuel listed a w:=by
 have fin:∀(listed:Array Bool) (a:Act) (w:World),listed.size=ops.size->(∀k,k<ops.size->asSet listed k=true)->Inv p μ0 ops evs s0 n0 (asSet listed) a w->Qx .normal a w:=by
  intro listed a w hsz hall hI
  refine hQ a w ?_
  have:asSet listed=fun i=>decide (i<ops.size):=by
   funext i
   by_cases h:i<ops.size
   ·simp[h,hall i h]
   ·unfold asSet
    have:¬i<listed.size:=by omega
    simp[h,Array.getD,this]
  rwa[this] at hI
 intro fuel
 induction fuel with
 |zero =>
  intro listed a w hsz hc hI
  have hall:∀k,k<ops.size->asSet listed k=true:=by
   intro k hk
   have h0:(List.range ops.size).countP (fun i=>!asSet listed i)=0:=by omega
   rw[List.countP_eq_zero] at h0
   have:=h0 k (List.mem_range.2 hk)
   simpa using this
  refine⟨?_,fin listed a w hsz hall hI⟩
  rw[List.eq_nil_iff_forall_not_mem]
  intro k hk
  obtain⟨o,h1,h2,_⟩:=ready_spec hk hsz
  have:=hall k (Array.getElem?_eq_some_iff.1 h1).1
  rw[h2] at this;cases this
 |succ fuel ih =>
  intro listed a w hsz hc hI
  refine⟨fun hr=>fin listed a w hsz (ready_nil hr hsz hW.edge) hI,fun k hk=>?_⟩
  obtain⟨o,h1,h2,h3⟩:=ready_spec hk hsz
  have hklt:k<ops.size:=(Array.getElem?_eq_some_iff.1 h1).1
  unfold wpOpIn
  rw[h1]
  simp only[]
  have hstep:=inv_step (r:=r) (Q:=Qx) (K:=wpAnyIn (FW r) 0 P .any ops Qx fuel (listed.setIfInBounds k true)) hC hW hI h1 (by omega) h2 h3 fun a' w' hI'=>ih _ a' w' (by simpa using hsz) ?_ ?_
  ·split
   ·rename_i hw;rw[if_pos hw] at hstep;exact hstep
   ·rename_i hw;rw[if_neg hw] at hstep;exact⟨fun _ _=>trivial,hstep⟩
  ·have hset:∀i,asSet (listed.setIfInBounds k true) i=(decide (i=k)||asSet listed i):=asSet_set (by omega)
   have hlt:(List.range ops.size).countP (fun i=>!asSet (listed.setIfInBounds k true) i)<(List.range ops.size).countP (fun i=>!asSet listed i):=by
    refine countP_lt (fun x _ hx=>?_) (List.mem_range.2 hklt) (by simp[h2]) (by rw[hset];simp)
    rw[hset] at hx
    simp only[Bool.not_or,Bool.and_eq_true] at hx
    exact hx.2
   omega
  ·have:asSet (listed.setIfInBounds k true)=fun i=>decide (i=k)||asSet listed i:=funext (asSet_set (by omega))
   rw[this];exact hI'
end
theorem hs_drew{p:Par}{μ:Mu}{F:Nat->Prop}{hp:Heap}{w:World}(h:HS p μ F hp w):HS p μ F hp w.drew:=by
 refine⟨h.ext.trans (Ext.drew _ w),h.sub,h.fin,fun l blk hg=>?_,h.inj⟩
 obtain⟨q,h1,h2,h3⟩:=h.blk l blk hg
 exact⟨q,h1,h2,h3.mono (Ext.drew F w) (fun _ h=>h) (fun _ _ h=>h) (fun _ _ _=>rfl)⟩
theorem Marks.drew{p:Par}{F:Nat->Prop}{w:World}{ds:List Deferred}(h:Marks p F w ds):Marks p F w.drew ds:=⟨h.1.mono (Ext.drew F w) fun _ h=>h,h.2⟩
theorem drawn_ok{P:Program}{C:Ctx}(hC:CtxOK P C)(hm:P.follows .mixedOrders=true):DrOK P C (fun _=>drawn P C):=by
 intro inl _ id ops st Q hq p μ0 a w hs
 obtain⟨μ,F,hh,hf,h0,ht,hsz,hd⟩:=hs.untag
 simp only[drawn] at hq
 split at hq
 ·rename_i hedge
  rw[untagF_eq] at hq
  obtain⟨evs,stF,h1,hall,h2⟩:=dK_sat _ _ _ _ hq
  simp only[List.length_nil,List.drop_zero] at hall
  ·skip
   obtain⟨f1,f2,f3,f4⟩:=evOps_spec _ _ _ _ h1
   simp only[Array.length_toList] at f1 f3
   have hbm:=bms_bef (ops:=ops) ops.toList [] (fun j o h=>by simpa using h) (fun j i h=>by simp at h)
   have hW:Walked P C ops evs ⟨Sx.untag st.tm,st.hp⟩ st.next:=by
    refine⟨by omega,fun j o e hj he=>f4 j o e (by simpa using hj) he,fun i k x e hik hx he=>?_,fun j o e hj he hb=>?_,fun t g b s htag=>?_⟩
    ·have:=allOK_spec hall k e he i x (by simpa using hx) (by simpa using hik)
     unfold pairOK at this
     simp only[Bool.and_eq_true,Bool.or_eq_true,Bool.not_eq_true'] at this
     exact⟨this.1.1.imp (hbm k i) (fun h=>h),this.1.2,this.2⟩
    ·have:=edgesOK_spec hedge j o e (by simpa using hj) he hb
     omega
    ·rw[tget_untag] at htag
     split at htag
     ·cases htag
     ·rename_i h;exact h _ _ _ htag
   refine fun r _=>wpIn_region_any hm (any_sound (p:=p) (μ0:=μ0) hC hW f1 (fun a' w' hI=>?_) ops.size _ a _ (by simp) ?_ ?_)
   ·obtain⟨_,μ',F',e1,e2,e3,e4,e5,e6⟩:=hI
    have hfe:foldE (fun i=>decide (i<ops.size)) 0 evs ⟨Sx.untag st.tm,st.hp⟩=⟨stF.tm,stF.hp⟩:=by
     rw[f2];exact foldE_congr _ _ _ fun j hj=>by simp;omega
    rw[hfe] at e1 e4
    refine⟨stF,⟨rfl,h2⟩,μ',F',e1,fun l hl=>?_,e3,e4,?_,e6⟩
    ·cases hm':μ' l with
     |none=>rfl
     |some q =>
      obtain⟨i,e,g1,g2,g3⟩:=e2 l (by omega) (by rw[hm'];simp)
      have hi:i<ops.size:=by rw[<- f1];exact(List.getElem?_eq_some_iff.1 g2).1
      have:=(f4 i _ e (by rw[Array.getElem?_toList];exact Array.getElem?_eq_getElem hi) g2).2
      simp only at this
      omega
    ·have:=congrArg (fun s=>s.tm.length) hfe
     simp only[length_foldE] at this
     simp only at e5
     omega
   ·refine Nat.le_trans List.countP_le_length ?_
    simp
   ·have hS:asSet (Array.replicate ops.size false)=fun _=>false:=by
     funext i;unfold asSet;simp[Array.getD_eq_getD_getElem?,Array.getElem?_replicate]
     split<;>rfl
    rw[hS]
    refine⟨(fun k o e h=>by cases h),μ,F,?_,fun l hl hm'=>(hm' (hf l hl)).elim,h0,?_,hsz,hd.drew⟩
    ·rw[foldE_false];exact hs_drew hh
    ·rw[foldE_false];exact fun t=>(ht t).mono (Ext.drew F w) (fun _ h=>h) (fun _ _ h=>h)
 ·exact hq.elim
end
noncomputable section
variable [Globs]
section
variable {P : Program} {C : Ctx} {ops : Array Oper} {evs : List Ev} {s0 : St} {n0 : Nat}
theorem any_soundL{p:Par}{μ0:Mu}{Qx:Exit->Act->World->Prop}{r:Option Nat}(hC:CtxOK P C)(hW:Walked P C ops evs s0 n0)(hn:evs.length+1=ops.size)(hb:∀i,i<evs.length->Bef ops i evs.length)
  (hQ:∀a w,Inv p μ0 ops evs s0 n0 (fun i=>decide (i<evs.length)) a w->wpOpIn (FW r) 0 P ops Qx evs.length (Qx .normal) a w) :
  ∀(fuel:Nat) (listed:Array Bool) (a:Act) (w:World),listed.size=ops.size->(List.range ops.size).countP (fun i=>!asSet listed i)<=fuel->asSet listed evs.length=false->Inv p μ0 ops evs s0 n0 (asSet listed) a w->wpAnyIn (FW r) 0 P .any ops Qx fuel listed a w:=by
 intro fuel
 induction fuel with
 |zero =>
  intro listed a w hsz hc hl hI
  have h0:(List.range ops.size).countP (fun i=>!asSet listed i)=0:=by omega
  rw[List.countP_eq_zero] at h0
  have:=h0 evs.length (List.mem_range.2 (by omega))
  rw[hl] at this;simp at this
 |succ fuel ih =>
  intro listed a w hsz hc hl hI
  refine⟨fun hr=>?_,fun k hk=>?_⟩
  ·have:=ready_nil hr hsz hW.edge evs.length (by omega)
   rw[hl] at this;cases this
  obtain⟨o,h1,h2,h3⟩:=ready_spec hk hsz
  have hklt:k<ops.size:=(Array.getElem?_eq_some_iff.1 h1).1
  have hset:∀i,asSet (listed.setIfInBounds k true) i=(decide (i=k)||asSet listed i):=asSet_set (by omega)
  by_cases hkl:k=evs.length
  ·have hcl:Closed ops (fun i=>decide (i=k)||asSet listed i):=by
    intro j o' e' hj ho' he' hbd
    simp only[Bool.or_eq_true,decide_eq_true_eq] at hj ⊢
    rcases hj with rfl|hj
    ·rw[h1] at ho';cases ho'
     exact .inr (h3 e' he' hbd)
    ·exact .inr (hI.closed j o' e' hj ho' he' hbd)
   have hall:∀i,i<evs.length->asSet listed i=true:=by
    intro i hi
    have:=hcl.bef (hb i hi) (by simp[hkl])
    simp only[Bool.or_eq_true,decide_eq_true_eq] at this
    rcases this with h|h
    ·omega
    ·exact h
   have hS:asSet listed=fun i=>decide (i<evs.length):=by
    funext i
    by_cases h:i<evs.length
    ·simp[h,hall i h]
    ·by_cases h':i=evs.length
     ·subst h';simp[hl]
     ·unfold asSet
      have:¬i<listed.size:=by omega
      simp[h,Array.getD,this]
   rw[hS] at hI
   have hq:=hQ a w hI
   have hfin:∀a' w',Qx .normal a' w'->wpAnyIn (FW r) 0 P .any ops Qx fuel (listed.setIfInBounds k true) a' w':=by
    intro a' w' hx
    have hr:Region.ready .any ops (listed.setIfInBounds k true)=[]:=by
     rw[List.eq_nil_iff_forall_not_mem]
     intro i hi
     obtain⟨o',g1,g2,_⟩:=ready_spec hi (by simpa using hsz)
     have hil:i<ops.size:=(Array.getElem?_eq_some_iff.1 g1).1
     rw[hset,Bool.or_eq_false_iff] at g2
     have g3:=of_decide_eq_false g2.1
     have:=hall i (by omega)
     rw[this] at g2;cases g2.2
    cases fuel with
    |zero=>exact⟨hr,hx⟩
    |succ f=>exact⟨fun _=>hx,fun i hi=>by rw[hr] at hi;cases hi⟩
   rw[<- hkl] at hq
   unfold wpOpIn at hq ⊢
   rw[h1] at hq ⊢
   simp only[] at hq ⊢
   split at hq
   ·rename_i hw;rw[if_pos hw];exact Oper.wpIn_mono hfin hq
   ·rename_i hw;rw[if_neg hw];exact⟨hq.1,hfin _ _ hq.2⟩
  ·unfold wpOpIn
   rw[h1]
   simp only[]
   have hstep:=inv_step (r:=r) (Q:=Qx) (K:=wpAnyIn (FW r) 0 P .any ops Qx fuel (listed.setIfInBounds k true)) hC hW hI h1 (by omega) h2 h3 fun a' w' hI'=>ih _ a' w' (by simpa using hsz) ?_ ?_ ?_
   ·split
    ·rename_i hw;rw[if_pos hw] at hstep;exact hstep
    ·rename_i hw;rw[if_neg hw] at hstep;exact⟨fun _ _=>trivial,hstep⟩
   ·have hlt:(List.range ops.size).countP (fun i=>!asSet (listed.setIfInBounds k true) i)<(List.range ops.size).countP (fun i=>!asSet listed i):=by
     refine countP_lt (fun x _ hx=>?_) (List.mem_range.2 hklt) (by simp[h2]) (by rw[hset];simp)
     rw[hset] at hx
     simp only[Bool.not_or,Bool.and_eq_true] at hx
     exact hx.2
    omega
   ·rw[hset,hl];simp;omega
   ·have:asSet (listed.setIfInBounds k true)=fun i=>decide (i=k)||asSet listed i:=funext hset
    rw[this];exact hI'
end
def isCallOp(o:Oper):Bool:=match o.op with
 |.call _=>true
 |_=>false
def lastAll(pre:List Oper)(o:Oper):Bool:=fNat (bmOne (bms pre []) o) fun b=>(List.range pre.length).all fun i=>b.testBit i
def drawnL(P:Program)(C:Ctx)(inl:Inl)(ops:Array Oper)(st:AS):Tree AS :=
 match ops.toList.reverse with
 |[]=>drawn P C ops st
 |o::r=>match isCallOp o&&lastAll r.reverse o with
  |false=>drawn P C ops st
  |true=>if edgesOK 0 ops.toList then untagF st.tm fun tm=>(dK P C ops r.reverse [] [] { st with tm:=tm }).bind fun s=>runOps P C inl ops [o] s else .fail
theorem drawnL_ok{P:Program}{C:Ctx}(hC:CtxOK P C)(hm:P.follows .mixedOrders=true):DrOK P C (drawnL P C):=by
 intro inl hI id ops st Q hq
 unfold drawnL at hq
 split at hq
 ·exact drawn_ok hC hm inl hI id ops st Q hq
 rename_i o rr hrev
 split at hq
 ·exact drawn_ok hC hm inl hI id ops st Q hq
 rename_i hlast
 rw[Bool.and_eq_true] at hlast
 split at hq
 rotate_left
 ·exact hq.elim
 rename_i hedge
 intro p μ0 a w hs
 obtain⟨μ,F,hh,hf,h0,ht,hsz,hd⟩:=hs.untag
 rw[untagF_eq] at hq
 obtain⟨pre,hpre⟩:∃pre,rr.reverse=pre:=⟨_,rfl⟩
 rw[hpre] at hq hlast
 have hops:ops.toList=pre++[o]:=by
  have:=congrArg List.reverse hrev
  rw[List.reverse_reverse,List.reverse_cons,hpre] at this;exact this
 have hsize:ops.size=pre.length+1:=by
  have:=congrArg List.length hops
  simpa using this
 have hpo:∀j x,pre[j]?=some x->ops[j]?=some x:=fun j x hx=>by
  have hj:j<pre.length:=(List.getElem?_eq_some_iff.1 hx).1
  rw[<- Array.getElem?_toList,hops,List.getElem?_append_left hj];exact hx
 have hop:∀j x,j<pre.length->ops[j]?=some x->pre[j]?=some x:=fun j x hj hx=>by
  rw[<- Array.getElem?_toList,hops,List.getElem?_append_left hj] at hx;exact hx
 have hoL:ops[pre.length]?=some o:=by
  rw[<- Array.getElem?_toList,hops,List.getElem?_append_right (Nat.le_refl _),Nat.sub_self];rfl
 obtain⟨evs,stF,h1,hall,h2⟩:=dK_sat _ _ _ _ (Tree.sat_bind hq)
 simp only[List.length_nil,List.drop_zero] at hall
 obtain⟨f1,f2,f3,f4⟩:=evOps_spec _ _ _ _ h1
 have f3:stF.next=st.next+pre.length:=f3
 have hbm:=bms_bef (ops:=ops) pre [] (fun j x h=>by simpa using hpo j x h) (fun j i h=>by simp at h)
 have hbl:∀i,i<evs.length->Bef ops i evs.length:=by
  intro i hi
  have h3:=hlast.2
  unfold lastAll at h3
  rw[fNat_eq,List.all_eq_true] at h3
  have h4:=h3 i (List.mem_range.2 (by omega))
  rw[f1]
  exact bmOne_bef hoL hbm i h4
 have hW:Walked P C ops evs ⟨Sx.untag st.tm,st.hp⟩ st.next:=by
  refine⟨by omega,fun j x e hj he=>f4 j x e (hop j x (by have:=(List.getElem?_eq_some_iff.1 he).1;omega) hj) he,fun i k x e hik hx he=>?_,fun j x e hj he hb=>?_,fun t g b s htag=>?_⟩
  ·have:=allOK_spec hall k e he i x (by simpa using hx) (by simpa using hik)
   unfold pairOK at this
   simp only[Bool.and_eq_true,Bool.or_eq_true,Bool.not_eq_true'] at this
   exact⟨this.1.1.imp (hbm k i) (fun h=>h),this.1.2,this.2⟩
  ·have:=edgesOK_spec hedge j x e (by simpa using hj) he hb
   omega
  ·rw[tget_untag] at htag
   split at htag
   ·cases htag
   ·rename_i h;exact h _ _ _ htag
 refine fun r _=>wpIn_region_any hm (any_soundL (p:=p) (μ0:=μ0) hC hW (by omega) hbl (fun a' w' hI'=>?_) ops.size _ a _ (by simp) ?_ ?_ ?_)
 ·obtain⟨_,μ',F',e1,e2,e3,e4,e5,e6⟩:=hI'
  have hfe:foldE (fun i=>decide (i<evs.length)) 0 evs ⟨Sx.untag st.tm,st.hp⟩=⟨stF.tm,stF.hp⟩:=by
   rw[f2];exact foldE_congr _ _ _ fun j hj=>by simp;omega
  rw[hfe] at e1 e4
  have hsim:Sim p μ0 stF a' w':=by
   refine⟨μ',F',e1,fun l hl=>?_,e3,e4,?_,e6⟩
   ·cases hm':μ' l with
    |none=>rfl
    |some q =>
     obtain⟨i,e,g1,g2,g3⟩:=e2 l (show st.next<=l by omega) (by rw[hm'];simp)
     have hi:i<pre.length:=by rw[<- f1];exact(List.getElem?_eq_some_iff.1 g2).1
     have h9:e.id=st.next+i:=(f4 i _ e (List.getElem?_eq_getElem hi) g2).2
     omega
   ·have:=congrArg (fun s=>s.tm.length) hfe
    simp only[length_foldE] at this
    simp only at e5
    omega
  have hl:=runOps_sound (r:=r) hC hI [o] stF a' w' hsim h2
  unfold wpListIn at hl
  unfold wpOpIn
  rw[f1,hoL]
  exact hl
 ·refine Nat.le_trans List.countP_le_length ?_
  simp
 ·unfold asSet
  simp[Array.getD_eq_getD_getElem?,Array.getElem?_replicate]
  split<;>rfl
 ·have hS:asSet (Array.replicate ops.size false)=fun _=>false:=by
   funext i;unfold asSet;simp[Array.getD_eq_getD_getElem?,Array.getElem?_replicate]
   split<;>rfl
  rw[hS]
  refine⟨(fun k o e h=>by cases h),μ,F,?_,fun l hl hm'=>(hm' (hf l hl)).elim,h0,?_,hsz,hd.drew⟩
  ·rw[foldE_false];exact hs_drew hh
  ·rw[foldE_false];exact fun t=>(ht t).mono (Ext.drew F w) (fun _ h=>h) (fun _ _ h=>h)
end
noncomputable section
variable [Globs]
abbrev Dr:=(FuncId->List SV->AS->Tree (SV×AS))->Array Oper->AS->Tree AS
def bodyT(P:Program)(C:Ctx)(dr:Dr)(n:Nat)(fn:Func)(body:Code)(st:AS):Tree (SV×AS) :=
 (exec P C dr n body st).bind fun r=>match r.1 with
  |.normal=>(Tree.ofTr (absResults P fn.results r.2)).bind fun s=>.ret (s,r.2)
  |.ret=>(Tree.ofTr (absResults P fn.results r.2)).bind fun s=>.ret (s,r.2)
  |_=>.fail
theorem fn_sound{P:Program}{C:Ctx}{dr:Dr}(hC:CtxOK P C)(hD:DrOK P C dr){k:FuncId}{fn:Func}{body:Code}(hfn:P.funcs[k]?=some fn)(hbody:fn.body=some body){n:Nat}{args:List SV}{st0:AS}{R:SV×AS->Prop}
  (hs:(bodyT P C dr n fn body { st0 with tm:=startTm fn args }).sat P R) {μ:Mu} {F:Nat->Prop} {w:World} {vs:Array Value} (hl:LH w μ F st0.hp) (hgl:GlobOK w F) (hf:Fresh st0.next μ) (hr:Reps w μ F vs args) :
  Calls P k vs w fun e w'=>∃v s st' μ' F',e=.returned v/\R (s,st')/\HS ⟨w,Tk st0.hp μ,F⟩ μ' F' st'.hp w'/\Rep w' μ' F' v s/\(∀l q,μ l=some q->μ' l=some q)/\Fresh st'.next μ':=by
 have hs:=Tree.sat_bind hs
 refine callsIn_wide.1 (callsIn_of_wp_marks (F:=Fence.wide) (n:=0) hfn hbody trivial ?_ rfl)
 have hsim:Sim ⟨w,Tk st0.hp μ,F⟩ μ { st0 with tm:=startTm fn args } { tmps:=vs++Array.replicate (fn.ntmps-vs.size) undef,defers:=[] } w:=by
  refine⟨μ,F,hl,hf,fun _ _ h=>h,?_,?_,Marks.nil _ _ _ hgl⟩
  ·intro t
   simp only[startTm,tget_def]
   simp only[List.getD,List.getElem?_append,List.length_map]
   split
   ·rename_i hlt
    have hlt':t<vs.size:=by rw[hr.1];exact hlt
    have:=hr.2 t hlt
    simp only[List.getElem?_map,List.getElem?_eq_getElem hlt,Option.map_some,Option.getD_some]
    simp only[RepT]
    simpa [Array.getD_eq_getD_getElem?,Array.getElem?_append,hlt',List.getD,hlt] using this
   ·by_cases h2:t-args.length<fn.ntmps-args.length
    ·simp[List.getElem?_replicate,h2,RepT]
    ·simp[List.getElem?_replicate,h2,RepT]
  ·simp[startTm,hr.1]
 refine Go.wpIn_mono (exec_sound hC hD n body _ _ hs _ _ _ _ hsim).wp ?_
 intro e a' w' hc
 have key:∀s':AS,Tree.sat P ((Tree.ofTr (absResults P fn.results s')).bind fun s=>Tree.ret (s,s')) R->Sim ⟨w,Tk st0.hp μ,F⟩ μ s' a' w'->LeavesInM Fence.wide 0 P fn a'.tmps
   (fun e w'=>∃u s st' μ' F',e=.returned u/\R (s,st')/\HS ⟨w,Tk st0.hp μ,F⟩ μ' F' st'.hp w'/\Rep w' μ' F' u s/\(∀l q,μ l=some q->μ' l=some q)/\Fresh st'.next μ') a'.defers .returning w':=by
  intro s' hq ⟨μ',F',e1,e2,e3,e4,e5,e6⟩
  have hq:=Tree.sat_bind hq
  obtain⟨s,h1,h2⟩:=Tree.sat_ofTr hq
  obtain⟨_,Ds,d1,d2,d3⟩:=e6
  rw[d1]
  refine leaves_marks (tm:=s'.tm) (fun w2 k1 k2=>?_) Ds w' d2 d3 e1 e4
  obtain⟨v,h3,h4⟩:=absResults_sound (hs_seq1 k1) k2 h1
  exact⟨v,h3,v,s,s',μ',F',rfl,h2,k1,h4,e3,e2⟩
 cases e with
 |normal=>obtain⟨s',h1,h2⟩:=hc;exact key s' h1 h2
 |ret=>obtain⟨s',h1,h2⟩:=hc;exact key s' h1 h2
 |exit id=>obtain⟨s',h1,h2⟩:=hc;exact h1.elim
 |goto l=>exact hc.elim
 |panic ch=>exact hc.elim
 |outgrown=>exact hc.elim
def froz(hp:Heap):SV->Option (SV×List Prop×List Nat)
 |.tup cs=>(views hp cs).map fun(a,p,l)=>(.tup a,p,l)
 |s=>view hp s
theorem froz_sound{P:Program}{w:World}{μ:Mu}{F:Nat->Prop}{hp:Heap}{v:Value}{s a:SV}{ps:List Prop}{ls:List Nat}(hl:LH w μ F hp)(hs:Rep w μ F v s)(he:froz hp s=some (a,ps,ls))(hps:∀p∈ps,p){G:Nat->Prop}(hFG:∀b,F b->G b)
  (hG:∀b,Opens hp μ ls b->G b):Rep w emp G v a:=by
 unfold froz at he
 split at he
 ·rename_i cs
  rw[Option.map_eq_some_iff] at he
  obtain⟨⟨as,p,l⟩,h1,h2⟩:=he
  simp only[Prod.mk.injEq] at h2
  obtain⟨rfl,rfl,rfl⟩:=h2
  obtain⟨h3,h4⟩:=views_sound (P:=P) hl hFG h1 hps hG
  cases hs with
  |tup vs _ hlen hi=>exact .tup vs as (by omega) fun i hi'=>h4 i _ (by omega) (hi i (by omega))
 ·exact view_sound (P:=P) hl hs he hps hFG hG
def fnT(P:Program)(C:Ctx)(dr:Dr)(n:Nat)(fn:Func)(body:Code)(args:List SV)(h:Hint):Tree SV :=
 (bodyT P C dr n fn body ⟨startTm fn args,[],0,h⟩).bind fun r=>match froz r.2.hp r.1 with
  |some (a,ps,_)=>needT ps (.ret a)
  |none=>.fail
theorem emp_mono{w:World}{μ:Mu}{F:Nat->Prop}{v:Value}{s:SV}(h:Rep w emp F v s):Rep w μ F v s:=Rep.mono (Ext.refl _ _) (fun _ h=>h) (fun l q h=>by simp[emp] at h) h
theorem ctrOK_of{P:Program}{C:Ctx}{dr:Dr}(hC:CtxOK P C)(hD:DrOK P C dr){k:FuncId}{fn:Func}{body:Code}(hfn:P.funcs[k]?=some fn)(hbody:fn.body=some body){c:Ctr}
  (h:∀ss r,(c ss).ev r->∃n hint,(fnT P C dr n fn body ss hint).sat P (·=r)):CtrOK P k c:=by
 intro ss vs w F r hF hgl hr hev
 obtain⟨n,hint,hs⟩:=h ss r hev
 have hs:=Tree.sat_bind hs
 have hl:LH w emp F []:=⟨Ext.refl _ _,fun b hb=>hb,fun b hb=>⟨hF b hb,.inl hb⟩,fun l blk hg=>by simp[hget_def] at hg,fun l l' blk blk' b o b' o' _ hg=>by simp[hget_def] at hg⟩
 refine(fn_sound (st0:=⟨[],[],0,hint⟩) hC hD hfn hbody hs hl hgl (fun l _=>rfl) hr).mono ?_
 rintro e w' ⟨v,s,st',μ',F',rfl,hR,hh,hrep,-,-⟩
 refine⟨v,rfl,?_⟩
 simp only at hR
 split at hR
 ·rename_i a ps ls hfz
  obtain⟨hps,hR⟩:=needT_sat hR
  simp only[Tree.sat] at hR;subst hR
  have hl':=hs_seq1 hh
  have hv:=froz_sound (P:=P) (G:=fun b=>F' b\/Opens st'.hp μ' ls b) hl' hrep hfz hps (fun b hb=>.inl hb) (fun b hb=>.inr hb)
  refine⟨emp,_,⟨hh.ext,fun b hb=>.inl (hh.sub b hb),?_,fun l blk hg=>by simp[hget_def] at hg,fun l l' blk blk' b o b' o' _ hg=>by simp[hget_def] at hg⟩,hv,fun l q h=>by simp[emp] at h,fun l hl=>(hl trivial).elim⟩
  rintro b (hb|⟨l,_,blk,o,hg,hm⟩)
  ·exact hh.fin b hb
  ·obtain⟨hat,_⟩:=hl'.blkAt hg hm
   obtain⟨q,e1,e2,e3⟩:=hh.blk l blk hg
   rw[hm,Option.some.injEq] at e1;subst e1
   exact⟨hat.lt,.inr e2.2⟩
 ·exact hR.elim
theorem law_of{P:Program}{k:FuncId}{c:Ctr}(hc:CtrOK P k c){ss:List SV}{vs:Array Value}{w:World}{F:Nat->Prop}(hF:∀b,F b->b<w.heap.size)(hgl:GlobOK w F)(hr:Reps w emp F vs ss){u:Value}(h:(c ss).ev (.d (.x u))) :
  Calls P k vs w fun e w'=>e=.returned u/\RowKit.Below w.heap.size w w':=by
 refine(hc ss vs w F _ hF hgl hr h).mono ?_
 rintro e w' ⟨v,rfl,μ',F',hh,hrep,-,-⟩
 obtain rfl:v=u:=rep_x hrep
 refine⟨rfl,hh.ext.os,hh.ext.tape,hh.ext.output,hh.ext.size,fun b hb=>hh.ext.keep b ⟨hb,?_⟩⟩
 rintro⟨l,blk,o,hg,_⟩
 simp[hget_def] at hg
end
end Go.Sx
